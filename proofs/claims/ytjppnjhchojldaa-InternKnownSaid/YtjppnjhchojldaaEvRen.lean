/- EVALUATOR: calls with known data as arguments, reached through slices and pointers. -/
import Derived.Test.YtjppnjhchojldaaEvDoor0
namespace Go.Ev
open Go.RowKit
variable {P : Program}

inductive Lt where
  | int (k : IntKind) (n : Int)
  | str (l n : Nat)
  | bool (b : Bool)
  | nils
  | nilp
def Lt.v : Lt → V
  | .int k n => .int k n
  | .str l n => .str l n
  | .bool b => .bool b
  | .nils => .nils
  | .nilp => .nilp
noncomputable def Lt.mk (a : Lt) (v : V) (y n : Res) : Res :=
  Lt.rec (motive := fun _ => Res) (fun k z => intk v fun k' z' => ifk (Nat.beq (kno k') (kno k)) (ifk (ieq z' z) y n) n) (fun a b => strk v fun a' b' => ifk (Nat.beq a' a) (ifk (Nat.beq b' b) y n) n)
    (fun b => boolk v fun b' => ifk b' (ifk b y n) (ifk b n y)) (slk v (fun _ _ _ _ _ => n) y n) (pnk v fun b => ifk b y n) a
/-- data: a list of cells -/
inductive Dt where
  | lit (a : Lt)
  | nil
  | cons (a b : Dt)
  | agg (n : Nat) (d : Dt)
  | sl (g n l : Nat) (c : Option Nat) (s : Nat) (d : Dt)
  | ptr (g n : Nat) (d : Dt)

/-- what lies in a block from a place on -/
structure Lies (w : World) (c z S m : Nat) (ys : List Value) : Prop where
  at_ : ∃ cs el fz, w.heap[c]? = some (.cells cs el fz) ∧ cs.size = S ∧ ∀ i y, ys[i]? = some y → cs[z + i]? = some y ∧ y.oneCell' = true
  len : ys.length = m
  pos : 0 < m
def Dt.rep (w : World) : Dt → List Value → Prop
  | .lit a, xs => ∃ x, xs = [x] ∧ ∀ ρ, VR ρ a.v x
  | .nil, xs => xs = []
  | .cons a b, xs => ∃ p q, xs = p ++ q ∧ a.rep w p ∧ b.rep w q
  | .agg n d, xs => ∃ cs, xs = [.agg cs] ∧ d.rep w cs.toList ∧ (∀ x ∈ cs.toList, x.oneCell' = true) ∧ cs.toList.length = n
  | .sl g n l c s d, xs => ∃ b z S cap ys, xs = [.slice (some ⟨b, z, none⟩) l cap] ∧ (∀ m, c = some m → cap = m) ∧ (c = none → z + cap * s = S) ∧ l ≤ cap ∧ Lies w b z S (n * g) ys ∧ d.rep w ys
  | .ptr g n d, xs => ∃ b z S ys, xs = [.pointer (some ⟨b, z, none⟩)] ∧ Lies w b z S (n * g) ys ∧ d.rep w ys

/-- the data, laid into a memory: read only -/
noncomputable def Dt.layk (d : Dt) : Heap → (List V → Heap → Res) → Res :=
  Dt.rec (motive := fun _ => Heap → (List V → Heap → Res) → Res) (fun a h k => k [a.v] h) (fun h k => k [] h)
    (fun _ _ ia ib h k => ia h fun l h => ib h fun m h => k (l ++ m) h) (fun n _ ih h k => ih h fun l h => k [.agg n l] h)
    (fun g n l c s _ ih h k => ih h fun cells h => chopk g n 0 cells .e fun t => h.newk (.arr g n t true) fun b h => k [.slice b 0 l c s] h)
    (fun g n _ ih h k => ih h fun cells h => chopk g n 0 cells .e fun t => h.newk (.arr g n t true) fun b h => k [.ptr b 0] h) d

theorem VRs.len {ρ : Rho} : ∀ {l : List V} {xs : List Value}, VRs ρ l xs → l.length = xs.length
  | [], _, h => by cases h; rfl
  | _ :: _, _, h => by cases h with | cons h1 h2 => simp [VRs.len h2]
theorem VRs.app {ρ : Rho} : ∀ {l m : List V} {xs ys : List Value}, VRs ρ l xs → VRs ρ m ys → VRs ρ (l ++ m) (xs ++ ys)
  | [], _, _, _, h, h' => by cases h; exact h'
  | _ :: _, _, _, _, h, h' => by cases h with | cons h1 h2 => exact .cons h1 (VRs.app h2 h')
theorem VRs.at_ {ρ : Rho} : ∀ {l : List V} {xs : List Value}, VRs ρ l xs → ∀ (i : Nat) v, l[i]? = some v → ∃ x, xs[i]? = some x ∧ VR ρ v x
  | [], _, _, i, v, h => by simp at h
  | _ :: _, _, h, 0, v, h' => by cases h with | cons h1 h2 => simp at h'; subst h'; exact ⟨_, by simp, h1⟩
  | _ :: _, _, h, i + 1, v, h' => by cases h with | cons h1 h2 => simpa using VRs.at_ h2 i v (by simpa using h')

/-- a block that is read only, over what is there -/
theorem RH.view {ρ : Rho} {h : Heap} {w : World} (r : RH P ρ h w) (nw : ∀ c, ¬ Wr ρ h c) {g n : Nat} (hg : 0 < g) {cells : List V} {t : T} (hl : cells.length = n * g)
    (ht : ∀ j, t.get j = if 0 ≤ j ∧ j < 0 + n then some ((cells.drop ((j - 0) * g)).take g) else T.e.get j) {c z S : Nat} {ys : List Value} (L : Lies w c z S (n * g) ys) (v : VRs ρ cells ys) :
    ρ.le (ρ.put h.nx (c, z, S)) ∧ RH P (ρ.put h.nx (c, z, S)) (h.new (.arr g n t true) h.nx.nxt) w ∧ ∀ c', ¬ Wr (ρ.put h.nx (c, z, S)) (h.new (.arr g n t true) h.nx.nxt) c' := by
  have hv := h.nx.nxt_val
  have hf := r.fresh h.nx (Nat.le_refl _)
  have hle := Rho.le_put (ρ := ρ) hf.1 (c, z, S)
  have get_nx : (h.new (.arr g n t true) h.nx.nxt).t.get h.nx = .arr g n t true := by simp only [Heap.new]; rw [HT.get_set]
  have get_old : ∀ b, b ≠ h.nx → (h.new (.arr g n t true) h.nx.nxt).t.get b = h.t.get b := fun b hb => by simp only [Heap.new]; rw [HT.get_set_ne _ hb]
  obtain ⟨cs, el, fz, h1, h2, h3⟩ := L.at_
  have hnw : ∀ c', ¬ Wr (ρ.put h.nx (c, z, S)) (h.new (.arr g n t true) h.nx.nxt) c' := by
    rintro c' ⟨b, z', S', hb, hwr⟩
    by_cases e : b = h.nx
    · subst e; rw [get_nx] at hwr; cases hwr
    · rw [Rho.put_ne e] at hb; rw [get_old b e] at hwr; exact nw c' ⟨b, z', S', hb, hwr⟩
  refine ⟨hle, ⟨?_, ?_, ?_, ?_, ?_⟩, hnw⟩
  · intro b c' z' S' hb
    by_cases e : b = h.nx
    · subst e; rw [Rho.put_same] at hb; cases hb; exact (Array.getElem?_eq_some_iff.1 h1).1
    · rw [Rho.put_ne e] at hb; exact r.lt _ _ _ _ hb
  · intro b hb
    have hb' : h.nx.nxt.val ≤ b.val := hb
    have e : b ≠ h.nx := by rintro rfl; omega
    rw [Rho.put_ne e, get_old b e]
    exact r.fresh b (by omega)
  · intro b b' c' z1 S1 z2 S2 hw _ hb _
    exact absurd ⟨b, z1, S1, hb, hw⟩ (hnw c')
  · intro b c' z' S' g' n' t' ro' hb hx
    by_cases e : b = h.nx
    · subst e
      rw [get_nx] at hx; cases hx
      rw [Rho.put_same] at hb; cases hb
      have hlen := v.len
      refine ⟨cs, hg, ⟨el, fz, h1, fun h => by cases h⟩, h2, ?_, fun j ch hj => ?_⟩
      · have hp := L.pos
        have : (n * g - 1) < ys.length := by rw [L.len]; omega
        obtain ⟨h4, _⟩ := h3 (n * g - 1) ys[n * g - 1] (by simp [this])
        have := (Array.getElem?_eq_some_iff.1 h4).1
        omega
      · rw [ht] at hj
        split at hj
        · rename_i hjn
          cases hj
          have hj' : j < n := by omega
          have hm : (j + 1) * g ≤ n * g := Nat.mul_le_mul_right g hj'
          rw [Nat.succ_mul] at hm
          refine ⟨hj', by simp only [Nat.sub_zero, List.length_take, List.length_drop]; omega, fun i u hi => ?_⟩
          rw [List.getElem?_take] at hi
          split at hi
          · rw [List.getElem?_drop] at hi
            obtain ⟨x, h5, h6⟩ := v.at_ _ _ hi
            obtain ⟨h7, h8⟩ := h3 _ _ h5
            refine ⟨x, ?_, h6.mono hle, h8⟩
            rw [← h7]; congr 1; simp only [Nat.sub_zero]; omega
          · cases hi
        · simp [T.get] at hj
    · rw [Rho.put_ne e] at hb
      rw [get_old b e] at hx
      obtain ⟨cs', ha⟩ := r.arr _ _ _ _ _ _ _ _ hb hx
      exact ⟨cs', ha.mono hle rfl⟩
  · intro b c' z' S' x hb hx
    by_cases e : b = h.nx
    · subst e; rw [get_nx] at hx; cases hx
    · rw [Rho.put_ne e] at hb
      rw [get_old b e] at hx
      obtain ⟨o, h4, h5, h6⟩ := r.ob _ _ _ _ _ hb hx
      exact ⟨o, h4, h5.mono hle, h6⟩

theorem Dt.layk_ok (w : World) (d : Dt) : ∀ {xs : List Value} {h : Heap} {k : List V → Heap → Res} {r : Res} {ρ : Rho}, d.layk h k = r → r ≠ .fail → d.rep w xs → RH P ρ h w → (∀ c, ¬ Wr ρ h c) →
    ∃ ρ' l h', k l h' = r ∧ ρ.le ρ' ∧ RH P ρ' h' w ∧ (∀ c, ¬ Wr ρ' h' c) ∧ VRs ρ' l xs := by
  induction d with
  | lit a =>
    intro xs h k r ρ hh hr rp rh nw
    obtain ⟨x, rfl, hx⟩ := rp
    exact ⟨ρ, _, _, hh, .refl _, rh, nw, .cons (hx _) .nil⟩
  | nil =>
    intro xs h k r ρ hh hr rp rh nw
    obtain rfl : xs = [] := rp
    exact ⟨ρ, _, _, hh, .refl _, rh, nw, .nil⟩
  | cons a b ia ib =>
    intro xs h k r ρ hh hr rp rh nw
    obtain ⟨p, q, rfl, hp, hq⟩ := rp
    obtain ⟨ρ1, l1, h1, e1, le1, rh1, nw1, v1⟩ := ia (show a.layk h _ = r from hh) hr hp rh nw
    obtain ⟨ρ2, l2, h2, e2, le2, rh2, nw2, v2⟩ := ib e1 hr hq rh1 nw1
    exact ⟨ρ2, _, _, e2, le1.trans le2, rh2, nw2, (v1.mono le2).app v2⟩
  | agg n d ih =>
    intro xs h k r ρ hh hr rp rh nw
    obtain ⟨cs, rfl, hp, hc, hn⟩ := rp
    obtain ⟨ρ1, l1, h1, e1, le1, rh1, nw1, v1⟩ := ih (show d.layk h _ = r from hh) hr hp rh nw
    exact ⟨ρ1, _, _, e1, le1, rh1, nw1, .cons (.agg v1 hc (v1.len.trans hn)) .nil⟩
  | sl g n l c s d ih =>
    intro xs h k r ρ hh hr rp rh nw
    obtain ⟨b, z, S, cap, ys, rfl, hc, hs, hlc, L, hp⟩ := rp
    obtain ⟨ρ1, l1, h1, e1, le1, rh1, nw1, v1⟩ := ih (show d.layk h _ = r from hh) hr hp rh nw
    obtain ⟨t, e2, hl, ht⟩ := chopk_ok e1 hr
    rw [Heap.newk_eq] at e2
    have hg : 0 < g := by have := L.pos; exact Nat.pos_of_mul_pos_left this
    obtain ⟨le2, rh2, nw2⟩ := rh1.view nw1 hg hl ht L v1
    refine ⟨_, _, _, e2, le1.trans le2, rh2, nw2, .cons ?_ .nil⟩
    have := VR.slice (ρ := ρ1.put h1.nx (b, z, S)) (o := 0) (cp := c) (s := s) (cap := cap) (l := l) (Rho.put_same _ _ _) hc (by simpa using hs) hlc
    simpa using this
  | ptr g n d ih =>
    intro xs h k r ρ hh hr rp rh nw
    obtain ⟨b, z, S, ys, rfl, L, hp⟩ := rp
    obtain ⟨ρ1, l1, h1, e1, le1, rh1, nw1, v1⟩ := ih (show d.layk h _ = r from hh) hr hp rh nw
    obtain ⟨t, e2, hl, ht⟩ := chopk_ok e1 hr
    rw [Heap.newk_eq] at e2
    have hg : 0 < g := by have := L.pos; exact Nat.pos_of_mul_pos_left this
    obtain ⟨le2, rh2, nw2⟩ := rh1.view nw1 hg hl ht L v1
    refine ⟨_, _, _, e2, le1.trans le2, rh2, nw2, .cons ?_ .nil⟩
    have := VR.ptr (ρ := ρ1.put h1.nx (b, z, S)) (o := 0) (Rho.put_same _ _ _)
    simpa using this

/-- a call with the data as arguments -/
def YesD (P : Program) (ng f : Nat) (d : Dt) : Prop := ∀ (W : World) (args : List Value), ng ≤ W.heap.size → d.rep W args → Calls P f args.toArray W fun e w' => e = .returned (.bool true) ∧ Below W.heap.size W w'
theorem yesD {tab : FT} {nx : Bid} {f : Fid} {n m : Nat} {d : Dt} (ok : TabOk P nx.val tab) (hy : yes (d.layk ⟨[], nx⟩ fun l h => call tab n m f l h) = true) (hg : ∀ g, g < nx.val → (gid g).val = g) (h32 : f.val < 32768 := by decide) : YesD P nx.val f.val d := by
  intro W args hW rp
  obtain ⟨h', e⟩ := yes_ok hy
  obtain ⟨ρ, l, h1, e1, le, rh, nw, vs⟩ := Dt.layk_ok W d e (by simp) rp (void_rh hW) void_wr
  obtain ⟨_, c⟩ := (call_ok ok (n := n) m f).1 h32 _ _ _ e1 (by simp)
  refine (c _ W args vs rh (fun g h => (void_glob hg g h).imp fun S hS => le _ _ hS)).mono fun e w' hc => ?_
  obtain ⟨ρ', y, rfl, hy, _, hx⟩ := hc
  cases hy
  exact ⟨rfl, hx.os, hx.tape, hx.output, hx.size, fun k hk => (hx.keep k hk (nw k)).1⟩

/-- are these the data? -/
noncomputable def Dt.mtk (d : Dt) : List V → Heap → (List V → Res) → Res → Res :=
  Dt.rec (motive := fun _ => List V → Heap → (List V → Res) → Res → Res) (fun a l _ k n => unc l fun u l => a.mk u (k l) n) (fun l _ k _ => k l)
    (fun _ _ ia ib l h k n => ia l h (fun l => ib l h k n) n)
    (fun m _ ih l h k n => unc l fun u l => aggk u fun m' us => ifk (Nat.beq m' m) (ih us h (fun r => nilk' r (k l)) n) .fail)
    (fun g m len c s _ ih l h k n => unc l fun u l => slk u (fun b o len' c' s' => ifk (Nat.beq len' len) (ifk (oeq c' c) (ifk (Nat.beq s' s) (ifk (Nat.blt 0 (Nat.mul m g)) (loadk h b o (Nat.mul m g) fun cells => ih cells h (fun r => nilk' r (k l)) n) .fail) .fail) n) n) n n)
    (fun g m _ ih l h k n => unc l fun u l => ptrk u fun b o => ifk (Nat.blt 0 (Nat.mul m g)) (loadk h b o (Nat.mul m g) fun cells => ih cells h (fun r => nilk' r (k l)) n) .fail) d

theorem Lt.mk_ok {a : Lt} {v : V} {y n r : Res} (h : a.mk v y n = r) (hr : r ≠ .fail) {ρ : Rho} {x : Value} (hx : VR ρ v x) : ((∀ ρ, VR ρ a.v x) ∧ y = r) ∨ n = r := by
  cases a with
  | int k z =>
    obtain ⟨k', z', rfl, h1⟩ := intk_ok (show intk v _ = r from h) hr
    rcases ifk_ne h1 with ⟨ha, h1a⟩ | ⟨_, h1a⟩
    · rcases ifk_ne h1a with ⟨hb, h1b⟩ | ⟨_, h1b⟩
      · obtain rfl := kno_inj ha
        rw [ieq_eq] at hb
        obtain rfl : z' = z := by simpa using hb
        cases hx
        exact .inl ⟨fun _ => .int _ _, h1b⟩
      · exact .inr h1b
    · exact .inr h1a
  | str a b =>
    obtain ⟨a', b', rfl, h1⟩ := strk_ok (show strk v _ = r from h) hr
    rcases ifk_ne h1 with ⟨ha, h1a⟩ | ⟨_, h1a⟩
    · rcases ifk_ne h1a with ⟨hb, h1b⟩ | ⟨_, h1b⟩
      · obtain rfl := Nat.eq_of_beq_eq_true ha
        obtain rfl := Nat.eq_of_beq_eq_true hb
        cases hx with | str h2 h3 => exact .inl ⟨fun _ => .str h2 h3, h1b⟩
      · exact .inr h1b
    · exact .inr h1a
  | bool b =>
    obtain ⟨b', rfl, h1⟩ := boolk_ok (show boolk v _ = r from h) hr
    cases hx
    cases b <;> cases b'
    · exact .inl ⟨fun _ => .bool _, h1⟩
    · exact .inr h1
    · exact .inr h1
    · exact .inl ⟨fun _ => .bool _, h1⟩
  | nils =>
    rcases slk_ok (show slk v _ _ _ = r from h) hr with ⟨_, _, _, _, _, rfl, h1⟩ | ⟨rfl, h1⟩ | ⟨rfl, h1⟩
    · exact .inr h1
    · cases hx; exact .inl ⟨fun _ => .nils, h1⟩
    · exact .inr h1
  | nilp =>
    rcases pnk_ok (show pnk v _ = r from h) hr hx with ⟨rfl, h1⟩ | ⟨_, rfl, h1⟩
    · exact .inl ⟨fun _ => .nilp, h1⟩
    · exact .inr h1

theorem lies_of {ρ : Rho} {cs : Array Value} : ∀ {l : List V} {z : Nat}, (∀ i v, l[i]? = some v → ∃ x, cs[z + i]? = some x ∧ VR ρ v x ∧ x.oneCell' = true) →
    ∃ ys : List Value, VRs ρ l ys ∧ ys.length = l.length ∧ ∀ i y, ys[i]? = some y → cs[z + i]? = some y ∧ y.oneCell' = true
  | [], _, _ => ⟨[], .nil, rfl, by simp⟩
  | v :: l, z, h => by
    obtain ⟨x, h1, h2, h3⟩ := h 0 v (by simp)
    obtain ⟨ys, h4, h5, h6⟩ := lies_of (l := l) (z := z + 1) (fun i v hi => by
      obtain ⟨x, g1, g2⟩ := h (i + 1) v (by simpa using hi)
      exact ⟨x, by rw [← g1]; congr 1; omega, g2⟩)
    refine ⟨x :: ys, .cons h2 h4, by simp [h5], fun i y hi => ?_⟩
    cases i with
    | zero => simp at hi; subst hi; exact ⟨h1, h3⟩
    | succ i =>
      obtain ⟨g1, g2⟩ := h6 i y (by simpa using hi)
      exact ⟨by rw [← g1]; congr 1; omega, g2⟩

theorem Dt.mtk_ok {h : Heap} {ρ : Rho} {w : World} (rh : RH P ρ h w) (d : Dt) : ∀ {l : List V} {xs : List Value} {k : List V → Res} {n r : Res}, d.mtk l h k n = r → r ≠ .fail → VRs ρ l xs →
    n = r ∨ ∃ l' p q, xs = p ++ q ∧ d.rep w p ∧ k l' = r ∧ VRs ρ l' q := by
  induction d with
  | lit a =>
    intro l xs k n r hh hr hv
    obtain ⟨u, l', rfl, h1⟩ := unc_ok (show unc l _ = r from hh) hr
    cases hv with | cons hx hv =>
    rcases Lt.mk_ok h1 hr hx with ⟨h2, h3⟩ | h2
    · exact .inr ⟨l', [_], _, rfl, ⟨_, rfl, h2⟩, h3, hv⟩
    · exact .inl h2
  | nil =>
    intro l xs k n r hh hr hv
    exact .inr ⟨l, [], xs, rfl, rfl, hh, hv⟩
  | cons a b ia ib =>
    intro l xs k n r hh hr hv
    rcases ia (show a.mtk l h _ n = r from hh) hr hv with h1 | ⟨l', p, q, rfl, h1, h2, h3⟩
    · exact .inl h1
    · rcases ib h2 hr h3 with h4 | ⟨l'', p', q', rfl, h4, h5, h6⟩
      · exact .inl h4
      · exact .inr ⟨l'', p ++ p', q', by simp, ⟨p, p', rfl, h1, h4⟩, h5, h6⟩
  | agg m d ih =>
    intro l xs k n r hh hr hv
    obtain ⟨u, l', rfl, h1⟩ := unc_ok (show unc l _ = r from hh) hr
    obtain ⟨m', us, rfl, h2⟩ := aggk_ok h1 hr
    obtain ⟨hm, h3⟩ := ifk_fail h2 hr
    obtain rfl := Nat.eq_of_beq_eq_true hm
    cases hv with | cons hx hv =>
    cases hx with | agg hc ho hn =>
    rcases ih h3 hr hc with h4 | ⟨l'', p, q, h4, h5, h6, h7⟩
    · exact .inl h4
    · obtain ⟨rfl, h8⟩ := nilk'_ok h6 hr
      cases h7
      rw [List.append_nil] at h4
      exact .inr ⟨l', [_], _, rfl, ⟨_, rfl, h4 ▸ h5, ho, by rw [← hc.len]; exact hn⟩, h8, hv⟩
  | sl g m len c s d ih =>
    intro l xs k n r hh hr hv
    obtain ⟨u, l', rfl, h1⟩ := unc_ok (show unc l _ = r from hh) hr
    rcases slk_ok h1 hr with ⟨b, o, len', c', s', rfl, h2⟩ | ⟨_, h2⟩ | ⟨_, h2⟩
    · rcases ifk_ne h2 with ⟨e1, h2a⟩ | ⟨_, h2a⟩
      · rcases ifk_ne h2a with ⟨e2, h2b⟩ | ⟨_, h2b⟩
        · obtain ⟨e3, h2c⟩ := ifk_fail h2b hr
          obtain ⟨e4, h2d⟩ := ifk_fail h2c hr
          obtain rfl := Nat.eq_of_beq_eq_true e1
          obtain rfl := oeq_eq e2
          obtain rfl := Nat.eq_of_beq_eq_true e3
          have e4 : 0 < m * g := by simpa [Nat.blt_eq] using e4
          cases hv with | cons hx hv =>
          cases hx with | slice hb hc ht hl =>
          obtain ⟨_, cells, cs, el, fz, h5, h6, h7, h8, h9⟩ := loadk_cells h2d hr rh hb
          obtain ⟨ys, g1, g2, g3⟩ := lies_of h9
          rcases ih h5 hr g1 with h10 | ⟨l'', p, q, h10, h11, h12, h13⟩
          · exact .inl h10
          · obtain ⟨rfl, h14⟩ := nilk'_ok h12 hr
            cases h13
            rw [List.append_nil] at h10
            exact .inr ⟨l', [_], _, rfl, ⟨_, _, _, _, ys, rfl, hc, ht, hl, ⟨⟨cs, el, fz, h7, h8, g3⟩, by rw [g2]; exact h6, e4⟩, h10 ▸ h11⟩, h14, hv⟩
        · exact .inl h2b
      · exact .inl h2a
    · exact .inl h2
    · exact .inl h2
  | ptr g m d ih =>
    intro l xs k n r hh hr hv
    obtain ⟨u, l', rfl, h1⟩ := unc_ok (show unc l _ = r from hh) hr
    obtain ⟨b, o, rfl, h2⟩ := ptrk_ok h1 hr
    obtain ⟨e4, h2d⟩ := ifk_fail h2 hr
    have e4 : 0 < m * g := by simpa [Nat.blt_eq] using e4
    cases hv with | cons hx hv =>
    cases hx with | ptr hb =>
    obtain ⟨_, cells, cs, el, fz, h5, h6, h7, h8, h9⟩ := loadk_cells h2d hr rh hb
    obtain ⟨ys, g1, g2, g3⟩ := lies_of h9
    rcases ih h5 hr g1 with h10 | ⟨l'', p, q, h10, h11, h12, h13⟩
    · exact .inl h10
    · obtain ⟨rfl, h14⟩ := nilk'_ok h12 hr
      cases h13
      rw [List.append_nil] at h10
      exact .inr ⟨l', [_], _, rfl, ⟨_, _, _, ys, rfl, ⟨⟨cs, el, fz, h7, h8, g3⟩, by rw [g2]; exact h6, e4⟩, h10 ▸ h11⟩, h14, hv⟩

/-- calls with data of the list answer yes -/
noncomputable def datk (L : List Dt) (l : List V) (h : Heap) (n : Res) : Res :=
  List.rec (motive := fun _ => Res) n (fun d _ ih => d.mtk l h (fun r => nilk' r (.ret (.bool .true) h)) ih) L
theorem datk_ok {L : List Dt} {l : List V} {h : Heap} {n r : Res} (hh : datk L l h n = r) (hr : r ≠ .fail) {ρ : Rho} {w : World} (rh : RH P ρ h w) {xs : List Value} (hv : VRs ρ l xs) :
    (∃ d ∈ L, d.rep w xs ∧ Res.ret (.bool .true) h = r) ∨ n = r := by
  induction L with
  | nil => exact .inr hh
  | cons d L ih =>
    rcases d.mtk_ok rh (show d.mtk l h _ _ = r from hh) hr hv with h1 | ⟨l', p, q, h1, h2, h3, h4⟩
    · rcases ih h1 with ⟨d', h2, h3⟩ | h2
      · exact .inl ⟨d', by simp [h2], h3⟩
      · exact .inr h2
    · obtain ⟨rfl, h5⟩ := nilk'_ok h3 hr
      cases h4
      rw [List.append_nil] at h1
      exact .inl ⟨d, by simp, h1 ▸ h2, h5⟩
/-- a function, of some of whose calls the answer is known -/
theorem pook_D {ng f : Nat} {g : Nat → CF → List V → Heap → Res} {L : List Dt} (hg : POok P ng f (.sh g)) (hf : Enters P f) (y : ∀ d ∈ L, YesD P ng f d) (h32 : f < 32768 := by decide) : POok P ng f (.sh fun m cf l h => datk L l h (g m cf l h)) := by
  intro m cf hc
  refine .fn ?_ h32
  intro l h r hh hr
  refine ⟨hf, fun ρ w args hl rh hglob => ?_⟩
  rcases datk_ok hh hr rh hl with ⟨d, h1, h2, rfl⟩ | h1
  · exact (y d h1 w args (glob_size rh hglob) h2).mono fun e w' hc => came_of rh (.bool true) hc
  · exact ((hg m cf hc).1 h32 l h r h1 hr).2 ρ w args hl rh hglob
end Go.Ev
