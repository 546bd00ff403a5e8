/- EvByte: texts joined. -/
import Derived.Test.YtjppnjhchojldaaEvLaw
/- EVALUATOR: slices of one-cell elements on a memory that is known. -/
namespace Go.Ev

theorem blt_of {a b : Nat} (h : a < b) : Nat.blt a b = true := by simpa [Nat.blt_eq] using h
theorem blt_not {a b : Nat} (h : ¬ a < b) : Nat.blt a b = false := by
  cases e : Nat.blt a b
  · rfl
  · rw [Nat.blt_eq] at e; exact absurd e h
theorem ble_of {a b : Nat} (h : a ≤ b) : Nat.ble a b = true := Nat.ble_eq_true_of_le h
theorem ble_not {a b : Nat} (h : ¬ a ≤ b) : Nat.ble a b = false := by
  cases e : Nat.ble a b
  · rfl
  · exact absurd (Nat.le_of_ble_eq_true e) h
theorem beq_of {a b : Nat} (h : a = b) : Nat.beq a b = true := by subst h; exact Nat.beq_refl a
theorem beq_not {a b : Nat} (h : a ≠ b) : Nat.beq a b = false := by
  cases e : Nat.beq a b
  · rfl
  · exact absurd (Nat.eq_of_beq_eq_true e) h

/-- old blocks are as they were -/
structure Up (h h' : Heap) : Prop where
  nx : h.nx.val ≤ h'.nx.val
  get : ∀ b : Bid, b.val < h.nx.val → h'.t.get b = h.t.get b
theorem Up.refl (h : Heap) : Up h h := ⟨Nat.le_refl _, fun _ _ => rfl⟩
theorem Up.trans {h h' h'' : Heap} (a : Up h h') (b : Up h' h'') : Up h h'' := ⟨Nat.le_trans a.nx b.nx, fun x hx => (b.get x (Nat.lt_of_lt_of_le hx a.nx)).trans (a.get x hx)⟩
theorem New.up {h h' : Heap} (n : New h h') : Up h h' := ⟨by rw [n.nx, Bid.nxt_val]; omega, fun b hb => n.get b (by rintro rfl; omega)⟩
theorem New.lt {h h' : Heap} (n : New h h') : h.nx.val < h'.nx.val := by rw [n.nx, Bid.nxt_val]; omega

/-- v is a slice of the elements l, each of one cell, in a block that may be read; 'op': it may not be written -/
inductive IsS (h : Heap) : V → List V → Prop where
  | nils : IsS h .nils []
  | emp : IsS h .emp []
  | sl (b : Bid) (o : Nat) (c : Option Nat) (op : Bool) (cs l : List V) (row : RowO op (h.t.get b) 1 cs) (fit : o + l.length ≤ cs.length) (is : (cs.drop o).take l.length = l)
      (cap : ∀ n, c = some n → l.length ≤ n ∧ o + n ≤ cs.length) : IsS h (.slice b o l.length c 1) l
theorem IsS.len {h : Heap} {v : V} {l : List V} (w : IsS h v l) (k : Nat → Res) : lenk v k = k l.length := by cases w <;> rfl
theorem IsS.snk {h : Heap} {v : V} {l : List V} (w : IsS h v l) (hl : l ≠ []) (k : Bool → Res) : Go.Ev.snk v k = k false := by cases w <;> first | rfl | exact absurd rfl hl
/-- reading the element i by its address -/
theorem IsS.at_ {h : Heap} {v : V} {l : List V} (w : IsS h v l) {i : Nat} (hi : i < l.length) : ∃ b o n c s, v = .slice b o n c s ∧ i < n ∧ ∀ k, load1k h b (Nat.add o i) k = k l[i] := by
  cases w with
  | nils => simp at hi
  | emp => simp at hi
  | sl b o c op cs _ row fit is cap =>
    refine ⟨b, o, _, c, 1, rfl, hi, fun k => load1k_law row ?_ k⟩
    show cs[o + i]? = _
    have : ((cs.drop o).take l.length)[i]? = l[i]? := by rw [is]
    rw [List.getElem?_take_of_lt hi, List.getElem?_drop] at this
    rw [this, List.getElem?_eq_getElem hi]
theorem IsS.up {h h' : Heap} {v : V} {l : List V} (w : IsS h v l) (hb : ∀ b o n c s, v = .slice b o n c s → h'.t.get b = h.t.get b) : IsS h' v l := by
  cases w with
  | nils => exact .nils
  | emp => exact .emp
  | sl b o c op cs _ row fit is cap => exact .sl b o c op cs l (by rw [hb b o _ c 1 rfl]; exact row) fit is cap
/-- where v lies, if it lies anywhere: below a bound -/
def Low (v : V) (n : Nat) : Prop := ∀ b o l c s, v = .slice b o l c s → b.val < n
theorem IsS.upto {h h' : Heap} {v : V} {l : List V} (w : IsS h v l) (lo : Low v h.nx.val) (u : Up h h') : IsS h' v l := w.up fun b o n c s e => u.get b (lo b o n c s e)
theorem Low.mono {v : V} {m n : Nat} (h : Low v m) (hm : m ≤ n) : Low v n := fun b o l c s e => Nat.lt_of_lt_of_le (h b o l c s e) hm
/-- what is appended, copied, made a string of -/
theorem IsS.src {h : Heap} {v : V} {l : List V} (w : IsS h v l) (k : Nat → List V → Res) : srck 1 v h k = k l.length l := by
  cases w with
  | nils => rfl
  | emp => rfl
  | sl b o c op cs _ row fit is cap =>
    show loadk h b o (l.length * 1) (fun cs => k l.length cs) = _
    rw [Nat.mul_one, loadk_law row fit, is]

/-- a slice that nobody else holds: to write in, to append to -/
inductive Own (h : Heap) (lo : Nat) : V → List V → Prop where
  | nils : Own h lo .nils []
  | sl (b : Bid) (c : Option Nat) (l : List V) (blo : lo ≤ b.val) (bhi : b.val < h.nx.val) (row : Row (h.t.get b) 1 l) (cap : ∀ n, c = some n → n = l.length) : Own h lo (.slice b 0 l.length c 1) l
theorem Own.isS {h : Heap} {lo : Nat} {v : V} {l : List V} (w : Own h lo v l) : IsS h v l := by
  cases w with
  | nils => exact .nils
  | sl b c _ blo bhi row cap => exact .sl b 0 c false l l row (by omega) (by simp) fun n hn => by have := cap n hn; omega
theorem Own.low {h : Heap} {lo : Nat} {v : V} {l : List V} (w : Own h lo v l) : Low v h.nx.val := by
  intro b o n c s e
  cases w with
  | nils => cases e
  | sl b c _ blo bhi row cap => cases e; exact bhi
theorem Own.mono {h : Heap} {lo lo' : Nat} {v : V} {l : List V} (w : Own h lo v l) (hl : lo' ≤ lo) : Own h lo' v l := by
  cases w with
  | nils => exact .nils
  | sl b c _ blo bhi row cap => exact .sl b c l (by omega) bhi row cap
theorem Own.up {h h' : Heap} {lo : Nat} {v : V} {l : List V} (w : Own h lo v l) (u : Up h h') : Own h' lo v l := by
  cases w with
  | nils => exact .nils
  | sl b c _ blo bhi row cap => exact .sl b c l blo (Nat.lt_of_lt_of_le bhi u.nx) (by rw [u.get b bhi]; exact row) cap

/-- blocks below a bound are as they were -/
structure UpTo (n : Nat) (h h' : Heap) : Prop where
  nx : h.nx.val ≤ h'.nx.val
  get : ∀ b : Bid, b.val < n → h'.t.get b = h.t.get b
theorem Up.to {h h' : Heap} {n : Nat} (u : Up h h') (hn : n ≤ h.nx.val) : UpTo n h h' := ⟨u.nx, fun b hb => u.get b (by omega)⟩
theorem UpTo.up {h h' : Heap} (u : UpTo h.nx.val h h') : Up h h' := ⟨u.nx, u.get⟩
theorem UpTo.trans {n : Nat} {h h' h'' : Heap} (a : UpTo n h h') (b : UpTo n h' h'') : UpTo n h h'' := ⟨Nat.le_trans a.nx b.nx, fun x hx => (b.get x hx).trans (a.get x hx)⟩
theorem UpTo.refl (n : Nat) (h : Heap) : UpTo n h h := ⟨Nat.le_refl _, fun _ _ => rfl⟩
theorem UpTo.mono {n m : Nat} {h h' : Heap} (a : UpTo n h h') (hm : m ≤ n) : UpTo m h h' := ⟨a.nx, fun b hb => a.get b (by omega)⟩
theorem IsS.upTo {n : Nat} {h h' : Heap} {v : V} {l : List V} (w : IsS h v l) (lo : Low v n) (u : UpTo n h h') : IsS h' v l := w.up fun b o m c s e => u.get b (lo b o m c s e)

theorem row_ext {op : Bool} {x : Blk} {g : Nat} {l m : List V} (a : RowO op x g l) (e : l = m) : RowO op x g m := e ▸ a
/-- a new slice of unknown capacity -/
theorem freshk_law {l : List V} (h : Heap) : ∃ h', (∀ k : V → Heap → Res, freshk 1 l.length l h k = k (.slice h.nx 0 l.length none 1) h') ∧ Row (h'.t.get h.nx) 1 l ∧ New h h' := by
  obtain ⟨t, h1, h2⟩ := rowk_law (g := 1) (n := l.length) (by omega) (l := l) (by omega)
  obtain ⟨h', h3, h4, h5⟩ := newk_law h (.arr 1 l.length t false)
  exact ⟨h', fun k => by unfold freshk; rw [h1, h3], by rw [h4]; exact h2, h5⟩
theorem movek_law {b : Bid} {l : List V} {t : T} (h : Heap) (ht : Row (.arr 1 l.length t false) 1 l) :
    ∃ h', (∀ k : V → Heap → Res, movek b 1 l.length t h k = k (.slice h.nx 0 l.length none 1) h') ∧ Row (h'.t.get h.nx) 1 l ∧ h'.nx = h.nx.nxt ∧ ∀ b', b' ≠ b → b' ≠ h.nx → h'.t.get b' = h.t.get b' := by
  obtain ⟨h', h3, h4, h5⟩ := newk_law (h.turn b .none) (.arr 1 l.length t false)
  refine ⟨h', fun k => by unfold movek; rw [Heap.turnk_eq, h3]; rfl, ?_, h5.nx, fun b' h6 h7 => ?_⟩
  · rw [show h.nx = (h.turn b .none).nx from rfl, h4]; exact ht
  · rw [h5.get b' h7]; exact HT.get_set_ne _ h6 _

/-- append to a slice that nobody else holds -/
theorem appendk_own {lo : Nat} {v : V} {l new : List V} {h : Heap} (w : Own h lo v l) (hlo : lo ≤ h.nx.val) (hs : l.length + new.length ≤ 16777216) :
    ∃ h' v', (∀ k, appendk 1 v new.length new h k = k v' h') ∧ Own h' lo v' (l ++ new) ∧ UpTo lo h h' := by
  cases w with
  | nils =>
    cases new with
    | nil => exact ⟨h, .nils, fun k => rfl, .nils, .refl _ _⟩
    | cons x new =>
      obtain ⟨h', h1, h2, h3⟩ := freshk_law (l := x :: new) h
      refine ⟨h', _, fun k => ?_, .sl h.nx none (x :: new) hlo h3.lt h2 (fun n e => by cases e), h3.up.to hlo⟩
      show zk (x :: new).length (k .nils h) (ifk (Nat.ble (x :: new).length 16777216) (freshk 1 (x :: new).length (x :: new) h k) .fail) = _
      rw [ble_of (by simpa using hs)]
      exact h1 k
  | sl b c _ blo bhi row cap =>
    have unf : ∀ k, appendk 1 (.slice b 0 l.length c 1) new.length new h k = optk c
        (fun cap => ifk (Nat.ble (l.length + new.length) cap) (storek h b (0 + l.length * 1) (new.length * 1) new fun h' => k (.slice b 0 (l.length + new.length) c 1) h')
          (loadk h b 0 (l.length * 1) fun old => appk old new fun all => freshk 1 (l.length + new.length) all h k))
        (h.getk b fun blk => arrk blk fun g n t ro => ifk (Nat.ble (0 + (l.length + new.length) * 1) (n * g))
          (storek h b (0 + l.length * 1) (new.length * 1) new fun h' => k (.slice b 0 (l.length + new.length) c 1) h')
          (ifk ro .fail (ifk (Nat.beq g 1)
            (ifk (Nat.beq n l.length) (zk 0 (chopk 1 new.length l.length new t fun t' => movek b 1 (l.length + new.length) t' h k) .fail)
              (loadk h b 0 (l.length * 1) fun old => appk old new fun all => rowk 1 (l.length + new.length) all fun t' => movek b 1 (l.length + new.length) t' h k))
            (ifk (Nat.beq g 1) .fail (loadk h b 0 (l.length * 1) fun old => appk old new fun all => rowk 1 (l.length + new.length) all fun t' => movek b 1 (l.length + new.length) t' h k))))) := by
      intro k
      show ifk (Nat.beq 1 1) (ifk (Nat.ble (l.length + new.length) 16777216) _ .fail) .fail = _
      rw [show Nat.beq 1 1 = true from rfl, ifk_true, ble_of hs, ifk_true]
      rfl
    have sto : new = [] → ∃ h' v', (∀ k : V → Heap → Res, storek h b (0 + l.length * 1) (new.length * 1) new (fun h' => k (.slice b 0 (l.length + new.length) c 1) h') = k v' h') ∧ Own h' lo v' (l ++ new) ∧ UpTo lo h h' := by
      rintro rfl
      obtain ⟨h', h1, h2, h3⟩ := storek_law row (vs := []) (o := 0 + l.length * 1) (n := 0 * 1) rfl (by omega)
      refine ⟨h', .slice b 0 (l.length + 0) c 1, fun k => h1 _, ?_, ⟨by rw [h3.nx]; exact Nat.le_refl _, fun b' hb' => h3.get b' (by rintro rfl; omega)⟩⟩
      rw [List.append_nil]
      exact .sl b c l blo (by rw [h3.nx]; exact bhi) (row_ext h2 (by simp [splice])) cap
    cases c with
    | some n =>
      have hn := cap n rfl
      subst hn
      cases new with
      | nil =>
        obtain ⟨h', v', h1, h2⟩ := sto rfl
        refine ⟨h', v', fun k => ?_, h2⟩
        rw [unf, optk_some, ble_of (by simp), ifk_true]
        exact h1 k
      | cons x new =>
        obtain ⟨h', h1, h2, h3⟩ := freshk_law (l := l ++ x :: new) h
        rw [List.length_append] at h1
        refine ⟨h', .slice h.nx 0 (l.length + (x :: new).length) none 1, fun k => ?_, ?_, h3.up.to hlo⟩
        · rw [unf, optk_some, ble_not (by simp), ifk_false, loadk_law row (by omega), appk_eq]
          have e : (l.drop 0).take (l.length * 1) ++ x :: new = l ++ x :: new := by simp
          rw [e]
          exact h1 k
        · have := Own.sl (h := h') (lo := lo) h.nx none (l ++ x :: new) hlo h3.lt h2 (fun n e => by cases e)
          rwa [List.length_append] at this
    | none =>
      obtain ⟨n, t, g1, g2, g3, g4⟩ := row.is
      have hnl : n = l.length := by omega
      subst hnl
      cases new with
      | nil =>
        obtain ⟨h', v', h1, h2⟩ := sto rfl
        refine ⟨h', v', fun k => ?_, h2⟩
        rw [unf, optk_none, Heap.getk_eq, g1]
        show (ifk (Nat.ble (0 + (l.length + ([] : List V).length) * 1) (l.length * 1)) _ _) = _
        rw [ble_of (by simp), ifk_true]
        exact h1 k
      | cons x new =>
        obtain ⟨t', h1, h2, h3⟩ := chopk_law (g := 1) (by omega) g2 (l := x :: new) (m := (x :: new).length) (by omega)
        have hr : Row (.arr 1 (l ++ x :: new).length t' false) 1 (l ++ x :: new) := by
          refine ⟨_, _, rfl, by rw [List.length_append]; exact h2, by omega, fun i => ?_⟩
          rw [h3]
          by_cases hi : l.length * 1 ≤ i
          · rw [if_pos hi, List.getElem?_append_right (by omega), Nat.mul_one]
          · rw [if_neg hi, g4, List.getElem?_append_left (by omega)]
        obtain ⟨h', h4, h5, h6, h7⟩ := movek_law (b := b) h hr
        rw [List.length_append] at h4
        refine ⟨h', .slice h.nx 0 (l.length + (x :: new).length) none 1, fun k => ?_, ?_, ⟨by rw [h6, Bid.nxt_val]; omega, fun b' hb' => h7 b' (by rintro rfl; omega) (by rintro rfl; omega)⟩⟩
        · rw [unf, optk_none, Heap.getk_eq, g1]
          show (ifk (Nat.ble (0 + (l.length + (x :: new).length) * 1) (l.length * 1)) _ _) = _
          rw [ble_not (by simp), ifk_false, ifk_false, show Nat.beq 1 1 = true from rfl, ifk_true, Nat.beq_refl, ifk_true, zk_zero]
          exact (h1 _).trans (h4 k)
        · have := Own.sl (h := h') (lo := lo) h.nx none (l ++ x :: new) hlo (by rw [h6, Bid.nxt_val]; omega) h5 (fun n e => by cases e)
          rwa [List.length_append] at this
theorem app_own {lo : Nat} {v u : V} {l new : List V} {h : Heap} (w : Own h lo v l) (x : IsS h u new) (hlo : lo ≤ h.nx.val) (hs : l.length + new.length ≤ 16777216) :
    ∃ h' v', (∀ k, words.app 1 v u h k = k v' h') ∧ Own h' lo v' (l ++ new) ∧ UpTo lo h h' := by
  obtain ⟨h', v', h1, h2⟩ := appendk_own w hlo hs
  refine ⟨h', v', fun k => ?_, h2⟩
  show srck 1 u h (fun m new => appendk 1 v m new h k) = _
  rw [x.src]
  exact h1 k
theorem appZ_own {lo : Nat} {v : V} {l : List V} {z : V} {n : Nat} {kd : IntKind} {h : Heap} (w : Own h lo v l) (hlo : lo ≤ h.nx.val) (hs : l.length + n ≤ 16777216) :
    ∃ h' v', (∀ k, words.appZ 1 [z] v (.int kd (.ofNat n)) h k = k v' h') ∧ Own h' lo v' (l ++ List.replicate n z) ∧ UpTo lo h h' := by
  have e : (List.replicate n [z]).flatten = List.replicate n z := by
    clear hs
    induction n with
    | zero => rfl
    | succ n ih => rw [List.replicate_succ, List.flatten_cons, ih, List.replicate_succ]; rfl
  obtain ⟨h', v', h1, h2⟩ := appendk_own (new := List.replicate n z) w hlo (by simpa using hs)
  rw [List.length_replicate] at h1
  refine ⟨h', v', fun k => ?_, h2⟩
  show ifk (Nat.ble n 16777216) (repk [z] n fun new => appendk 1 v n new h k) .fail = _
  rw [ble_of (by omega), ifk_true, repk_eq, e]
  exact h1 k
end Go.Ev

/- EVALUATOR: slice expressions, copying, strings of bytes on a memory that is known. -/
namespace Go.Ev

theorem take_drop_length {l : List V} {i j : Nat} (hi : i ≤ j) (hj : j ≤ l.length) : ((l.take j).drop i).length = j - i := by simp; omega
/-- v[i:j] -/
theorem slice_law {h : Heap} {v : V} {l : List V} (w : IsS h v l) {i j : Nat} (hij : i ≤ j) (hj : j ≤ l.length) {lo hi : Option V} (hlo : ∀ k, bndk lo 0 k = k i) (hhi : ∀ k, bndk hi l.length k = k j) :
    ∃ v', (∀ k, words.slice 1 v lo hi none h k = k v' h) ∧ IsS h v' ((l.take j).drop i) ∧ ∀ n, Low v n → Low v' n := by
  have hlen := take_drop_length hij hj
  cases w with
  | nils =>
    simp at hj; subst hj; obtain rfl : i = 0 := by omega
    refine ⟨.nils, fun k => ?_, .nils, fun n h => h⟩
    show bndk lo 0 (fun i => bndk hi 0 fun j => zk i (zk j (k .nils h) .fail) .fail) = _
    have hhi : ∀ k, bndk hi 0 k = k 0 := hhi
    rw [hlo, hhi]; rfl
  | emp =>
    simp at hj; subst hj; obtain rfl : i = 0 := by omega
    refine ⟨.emp, fun k => ?_, .emp, fun n h => h⟩
    show bndk lo 0 (fun i => bndk hi 0 fun j => zk i (zk j (k .emp h) .fail) .fail) = _
    have hhi : ∀ k, bndk hi 0 k = k 0 := hhi
    rw [hlo, hhi]; rfl
  | sl b o c op cs _ row fit is cap =>
    have key : ∀ c' : Option Nat, (∀ n, c' = some n → j - i ≤ n ∧ o + i + n ≤ cs.length) → IsS h (.slice b (o + i * 1) (j - i) c' 1) ((l.take j).drop i) := by
      intro c' hc'
      have := IsS.sl b (o + i * 1) c' op cs ((l.take j).drop i) row (by rw [hlen]; omega) (by
        rw [hlen]
        apply List.ext_getElem?
        intro x
        by_cases hx : x < j - i
        · rw [List.getElem?_take_of_lt hx, List.getElem?_drop, List.getElem?_drop, List.getElem?_take_of_lt (by omega)]
          have : ((cs.drop o).take l.length)[i + x]? = l[i + x]? := by rw [is]
          rw [List.getElem?_take_of_lt (by omega), List.getElem?_drop] at this
          rw [← this]; congr 1; omega
        · rw [List.getElem?_eq_none (by simp; omega), List.getElem?_eq_none (by rw [hlen]; omega)]) (fun n hn => by rw [hlen]; have := hc' n hn; omega)
      rwa [hlen] at this
    have nil : i = j → ((l.take j).drop i) = [] := fun e => List.length_eq_zero_iff.1 (by rw [hlen]; omega)
    have unf : ∀ k, words.slice 1 (.slice b o l.length c 1) lo hi none h k = optk c
          (fun cap => ifk (Nat.ble j cap) (ifk (Nat.beq cap i) (k .emp h) (k (.slice b (o + i * 1) (j - i) (some (cap - i)) 1) h)) .fail)
          (ifk (Nat.ble j l.length) (ifk (Nat.blt i l.length) (k (.slice b (o + i * 1) (j - i) none 1) h) (k .emp h)) .fail) := by
      intro k
      show ifk (Nat.beq 1 1) (bndk lo 0 fun i => bndk hi l.length fun j => ifk (Nat.ble i j)
        (optk c
          (fun cap => ifk (Nat.ble j cap) (ifk (Nat.beq cap i) (k .emp h) (k (.slice b (o + i * 1) (j - i) (some (cap - i)) 1) h)) .fail)
          (ifk (Nat.ble j l.length) (ifk (Nat.blt i l.length) (k (.slice b (o + i * 1) (j - i) none 1) h) (k .emp h)) .fail)) .fail) .fail = _
      rw [show Nat.beq 1 1 = true from rfl, ifk_true, hlo, hhi, ble_of hij, ifk_true]
    cases c with
    | some n =>
      have hn := cap n rfl
      by_cases e : n = i
      · refine ⟨.emp, fun k => ?_, by rw [nil (by omega)]; exact .emp, fun n _ b o l c s e => by cases e⟩
        rw [unf, optk_some, ble_of (by omega), ifk_true, beq_of e, ifk_true]
      · refine ⟨.slice b (o + i * 1) (j - i) (some (n - i)) 1, fun k => ?_, key _ (fun m hm => by cases hm; omega), fun n hn b' o l c s e => by cases e; exact hn b _ _ _ _ rfl⟩
        rw [unf, optk_some, ble_of (by omega), ifk_true, beq_not e, ifk_false]
    | none =>
      by_cases e : i < l.length
      · refine ⟨.slice b (o + i * 1) (j - i) none 1, fun k => ?_, key _ (fun m hm => by cases hm), fun n hn b' o l c s e => by cases e; exact hn b _ _ _ _ rfl⟩
        rw [unf, optk_none, ble_of hj, ifk_true, blt_of e, ifk_true]
      · refine ⟨.emp, fun k => ?_, by rw [nil (by omega)]; exact .emp, fun n _ b o l c s e => by cases e⟩
        rw [unf, optk_none, ble_of hj, ifk_true, blt_not e, ifk_false]

/- STRINGS OF BYTES -/
/-- a byte -/
def bV (n : Nat) : V := .int .u8 (.ofNat n)
def packN : List Nat → Nat
  | [] => 0
  | b :: l => b + 256 * packN l
theorem packN_lt {l : List Nat} (h : ∀ x ∈ l, x < 256) : packN l < 256 ^ l.length := by
  induction l with
  | nil => simp [packN]
  | cons b l ih =>
    have h1 := ih fun x hx => h x (List.mem_cons_of_mem _ hx)
    have h2 := h b (by simp)
    simp only [packN, List.length_cons, Nat.pow_succ]; omega
theorem packN_inj : ∀ {l m : List Nat}, (∀ x ∈ l, x < 256) → (∀ x ∈ m, x < 256) → l.length = m.length → packN l = packN m → l = m
  | [], [], _, _, _, _ => rfl
  | [], _ :: _, _, _, h, _ => by simp at h
  | _ :: _, [], _, _, h, _ => by simp at h
  | a :: l, b :: m, hl, hm, h, e => by
    have h1 := hl a (by simp)
    have h2 := hm b (by simp)
    simp only [packN] at e
    have e1 : a = b := by omega
    have e2 : packN l = packN m := by omega
    rw [e1, packN_inj (fun x hx => hl x (List.mem_cons_of_mem _ hx)) (fun x hx => hm x (List.mem_cons_of_mem _ hx)) (by simpa using h) e2]
theorem seq_pack {l m : List Nat} (hl : ∀ x ∈ l, x < 256) (hm : ∀ x ∈ m, x < 256) : Go.Ev.seq l.length (packN l) m.length (packN m) = decide (l = m) := by
  rw [Bool.eq_iff_iff, decide_eq_true_eq]
  show Bool.rec (motive := fun _ => Bool) false (Nat.beq (packN l) (packN m)) (Nat.beq l.length m.length) = true ↔ _
  by_cases e : l.length = m.length
  · rw [beq_of e]
    show Nat.beq _ _ = true ↔ _
    exact ⟨fun h => packN_inj hl hm e (Nat.eq_of_beq_eq_true h), fun h => by rw [h]; exact Nat.beq_refl _⟩
  · rw [beq_not e]
    exact ⟨(fun h => by cases h), fun h => absurd (congrArg List.length h) e⟩
theorem packk_law {l : List Nat} (h : ∀ x ∈ l, x < 256) (k : Nat → Res) : packk (l.map bV) k = k (packN l) := by
  induction l generalizing k with
  | nil => rfl
  | cons b l ih =>
    show ifk (Nat.blt b 256) (packk (l.map bV) fun n => k (b + 256 * n)) .fail = _
    rw [blt_of (h b (by simp)), ifk_true, ih fun x hx => h x (List.mem_cons_of_mem _ hx)]
    rfl
theorem bytesS_law {h : Heap} {v : V} {bs : List Nat} (w : IsS h v (bs.map bV)) (hb : ∀ x ∈ bs, x < 256) (k : V → Heap → Res) : words.bytesS v h k = k (.str bs.length (packN bs)) h := by
  generalize hl : bs.map bV = l at w
  have hll : l.length = bs.length := by rw [← hl]; simp
  cases w with
  | nils => have : bs = [] := by simpa using hl
            subst this; rfl
  | emp => have : bs = [] := by simpa using hl
           subst this; rfl
  | sl b o c op cs _ row fit is cap =>
    show loadk h b o l.length (fun cs => packk cs fun n => forceN n fun n => k (.str l.length n) h) = _
    rw [loadk_law row fit, is, ← hl, packk_law hb, forceN_eq]
    simp
/-- copying into a block that may be written -/
theorem copy_law {h : Heap} {u : V} {new : List V} (x : IsS h u new) {b : Bid} {o l : Nat} {c : Option Nat} {cs : List V} (row : Row (h.t.get b) 1 cs) (fit : o + l ≤ cs.length) (hl : new.length ≤ l) :
    ∃ h', (∀ k, words.copy 1 (.slice b o l c 1) u h k = k (.int .i64 (.ofNat new.length)) h') ∧ Row (h'.t.get b) 1 (splice cs o new) ∧ But h b h' := by
  obtain ⟨h', h1, h2⟩ := storek_law row (vs := new) (o := o) (n := new.length * 1) (by omega) (by omega)
  refine ⟨h', fun k => ?_, h2⟩
  have e : Nat.min new.length l = new.length := Nat.min_eq_left hl
  cases x with
  | nils => exact h1 _
  | emp => exact h1 _
  | sl b' o' c' op cs' _ row' fit' is cap =>
    show loadk h b' o' (Nat.min new.length l * 1) (fun cs => storek h b o (Nat.min new.length l * 1) cs fun h' => k (.int .i64 (.ofNat (Nat.min new.length l))) h') = _
    rw [e]
    rw [show new.length * 1 = new.length from Nat.mul_one _] at h1 ⊢
    rw [loadk_law row' fit', is]
    exact h1 _
/-- storing one cell -/
theorem store1_law {h : Heap} {b : Bid} {o : Nat} {cs : List V} (row : Row (h.t.get b) 1 cs) (fit : o < cs.length) (x : V) :
    ∃ h', (∀ k, words.store h b o 1 [x] k = k h') ∧ Row (h'.t.get b) 1 (cs.set o x) ∧ But h b h' := by
  obtain ⟨h', h1, h2, h3⟩ := storek_law row (vs := [x]) (o := o) (n := 1) rfl (by omega)
  refine ⟨h', h1, row_ext h2 ?_, h3⟩
  apply List.ext_getElem?
  intro i
  rw [splice_get (by simp; omega), List.getElem?_set]
  simp only [List.length_singleton]
  by_cases e : o = i
  · subst e; simp [fit]
  · rw [if_neg (by omega), if_neg e]
theorem But.up {h h' : Heap} {b : Bid} {n : Nat} (u : But h b h') (hb : n ≤ b.val) : UpTo n h h' := ⟨by rw [u.nx]; exact Nat.le_refl _, fun b' h1 => u.get b' (by rintro rfl; omega)⟩
end Go.Ev
