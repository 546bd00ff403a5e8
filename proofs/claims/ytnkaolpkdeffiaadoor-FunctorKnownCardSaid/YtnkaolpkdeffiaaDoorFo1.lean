/- Fo1: texts joined. -/
import Derived.Test.YtnkaolpkdeffiaaDoorFn5
import Derived.Test.YtnkaolpkdeffiaaDoorEvEx
import Derived.Lib.DecodeNEq
/- FUNCTOR: the runes of a text: plain functions and their laws. -/
namespace Go.Ev.W04
open Go.Proofs

/-- the first rune of a text, and how many bytes it takes -/
def dc (bs : List Nat) : Nat × Nat := Lib.decodeN bs.length (bs.getD 0 0) (bs.getD 1 0) (bs.getD 2 0) (bs.getD 3 0)
theorem decodeN_w {n b0 b1 b2 b3 : Nat} (hn : 0 < n) : 1 ≤ (Lib.decodeN n b0 b1 b2 b3).2 ∧ (Lib.decodeN n b0 b1 b2 b3).2 ≤ n := by
  unfold Lib.decodeN
  repeat' split
  all_goals simp only
  all_goals omega
theorem decodeN_c {n b0 b1 b2 b3 : Nat} (h0 : b0 < 256) : (Lib.decodeN n b0 b1 b2 b3).1 ≤ 1114111 := by
  unfold Lib.decodeN
  repeat' split
  all_goals simp only
  all_goals omega
theorem getD_lt {bs : List Nat} (hb : Bytes bs) (i : Nat) : bs.getD i 0 < 256 := by
  rw [List.getD_eq_getElem?_getD]
  by_cases h : i < bs.length
  · rw [List.getElem?_eq_getElem h]; exact hb _ (List.getElem_mem h)
  · rw [List.getElem?_eq_none (by omega)]; decide
theorem dc_w {bs : List Nat} (h : bs ≠ []) : 1 ≤ (dc bs).2 ∧ (dc bs).2 ≤ bs.length := decodeN_w (List.length_pos_iff.2 h)
theorem dc_c {bs : List Nat} (hb : Bytes bs) : (dc bs).1 ≤ 1114111 := decodeN_c (getD_lt hb 0)
/-- the place behind k runes -/
def plc : Nat → List Nat → Nat
  | 0, _ => 0
  | k + 1, bs => if bs = [] then 0 else (dc bs).2 + plc k (bs.drop (dc bs).2)
/-- how many runes -/
def nrun : Nat → List Nat → Nat
  | 0, _ => 0
  | f + 1, bs => if bs = [] then 0 else 1 + nrun f (bs.drop (dc bs).2)
def runes (bs : List Nat) : Nat := nrun bs.length bs
theorem nrun_room : ∀ (f g : Nat) (bs : List Nat), bs.length ≤ f → bs.length ≤ g → nrun f bs = nrun g bs
  | 0, 0, _, _, _ => rfl
  | 0, g + 1, bs, hf, _ => by
    have : bs = [] := List.length_eq_zero_iff.1 (by omega)
    subst this; rfl
  | f + 1, 0, bs, _, hg => by
    have : bs = [] := List.length_eq_zero_iff.1 (by omega)
    subst this; rfl
  | f + 1, g + 1, bs, hf, hg => by
    simp only [nrun]
    split
    · rfl
    · rename_i h
      have := dc_w h
      rw [nrun_room f g _ (by rw [List.length_drop]; omega) (by rw [List.length_drop]; omega)]
theorem runes_nil : runes [] = 0 := rfl
theorem runes_step {bs : List Nat} (h : bs ≠ []) : runes bs = 1 + runes (bs.drop (dc bs).2) := by
  have hw := dc_w h
  obtain ⟨m, hm⟩ : ∃ m, bs.length = m + 1 := ⟨bs.length - 1, by have := List.length_pos_iff.2 h; omega⟩
  show nrun bs.length bs = _
  rw [hm]
  simp only [nrun, if_neg h]
  rw [nrun_room m (bs.drop (dc bs).2).length _ (by rw [List.length_drop]; omega) (Nat.le_refl _)]
  rfl
theorem runes_pos {bs : List Nat} (h : bs ≠ []) : 0 < runes bs := by rw [runes_step h]; omega
theorem runes_le : ∀ {n : Nat} {bs : List Nat}, bs.length ≤ n → runes bs ≤ bs.length
  | 0, bs, h => by
    have : bs = [] := List.length_eq_zero_iff.1 (by omega)
    subst this; exact Nat.le_refl _
  | n + 1, bs, h => by
    by_cases hb : bs = []
    · subst hb; exact Nat.le_refl _
    · have hw := dc_w hb
      have := runes_le (n := n) (bs := bs.drop (dc bs).2) (by rw [List.length_drop]; omega)
      rw [runes_step hb]
      rw [List.length_drop] at this; omega
theorem plc_nil (k : Nat) : plc k [] = 0 := by cases k <;> rfl
theorem plc_step {k : Nat} {bs : List Nat} (h : bs ≠ []) : plc (k + 1) bs = (dc bs).2 + plc k (bs.drop (dc bs).2) := by simp only [plc, if_neg h]
theorem plc_le : ∀ (k : Nat) (bs : List Nat), plc k bs ≤ bs.length
  | 0, _ => Nat.zero_le _
  | k + 1, bs => by
    by_cases hb : bs = []
    · subst hb; rw [plc_nil]; exact Nat.zero_le _
    · have hw := dc_w hb
      have := plc_le k (bs.drop (dc bs).2)
      rw [List.length_drop] at this
      rw [plc_step hb]; omega
/-- behind all of them: the end -/
theorem plc_all : ∀ {n : Nat} {bs : List Nat}, bs.length ≤ n → plc (runes bs) bs = bs.length
  | 0, bs, h => by
    have : bs = [] := List.length_eq_zero_iff.1 (by omega)
    subst this; rfl
  | n + 1, bs, h => by
    by_cases hb : bs = []
    · subst hb; rfl
    · have hw := dc_w hb
      have := plc_all (n := n) (bs := bs.drop (dc bs).2) (by rw [List.length_drop]; omega)
      rw [runes_step hb, Nat.add_comm, plc_step hb, this, List.length_drop]; omega
/-- one more -/
theorem plc_succ : ∀ (k : Nat) (bs : List Nat), bs.drop (plc k bs) ≠ [] → plc (k + 1) bs = plc k bs + (dc (bs.drop (plc k bs))).2
  | 0, bs, h => by
    have hb : bs ≠ [] := h
    rw [plc_step hb]; show _ + 0 = 0 + _; rw [Nat.add_comm]; rfl
  | k + 1, bs, h => by
    by_cases hb : bs = []
    · subst hb; simp at h
    · rw [plc_step hb] at h ⊢
      rw [plc_step hb, ← List.drop_drop] at *
      rw [plc_succ k _ h]; omega
theorem runes_drop : ∀ (k : Nat) (bs : List Nat), k ≤ runes bs → runes (bs.drop (plc k bs)) = runes bs - k
  | 0, bs, _ => rfl
  | k + 1, bs, h => by
    by_cases hb : bs = []
    · subst hb; simp [runes_nil] at h
    · rw [runes_step hb] at h ⊢
      rw [plc_step hb, ← List.drop_drop, runes_drop k _ (by omega)]; omega
theorem plc_add : ∀ (k m : Nat) (bs : List Nat), k ≤ runes bs → plc (k + m) bs = plc k bs + plc m (bs.drop (plc k bs))
  | 0, m, bs, _ => by rw [Nat.zero_add]; show _ = 0 + plc m bs; rw [Nat.zero_add]
  | k + 1, m, bs, h => by
    by_cases hb : bs = []
    · subst hb; simp [runes_nil] at h
    · rw [runes_step hb] at h
      rw [show k + 1 + m = (k + m) + 1 by omega, plc_step hb, plc_step hb, plc_add k m _ (by omega), ← List.drop_drop]; omega
/-- the end is reached just behind all runes -/
theorem drop_nil {k : Nat} {bs : List Nat} (h : k ≤ runes bs) : bs.drop (plc k bs) = [] ↔ k = runes bs := by
  have := runes_drop k bs h
  constructor
  · intro e; rw [e, runes_nil] at this; omega
  · intro e
    have h1 := plc_all (Nat.le_refl bs.length)
    rw [e, h1, List.drop_length]

/- THE DOCUMENT's NUMBER OF A TEXT -/
def accT (top m : Nat) : List Nat → Option Nat
  | [] => some m
  | c :: r => if 9 < (c + 208) % 256 ∨ (top - (c + 208) % 256) / 10 < m then none else accT top (10 * m + (c + 208) % 256) r
theorem accN_ge : ∀ {r : List Nat} {m v : Nat}, accN m r = some v → m ≤ v
  | [], _, _, h => by cases h; exact Nat.le_refl _
  | _ :: _, _, _, h => by
    obtain ⟨_, _, h3⟩ := accN_step h
    have := accN_ge h3; omega
theorem accT_eq : ∀ {r : List Nat} {top m : Nat}, 9 ≤ top → top ≤ big → m ≤ top → accT top m r = (accN m r).bind fun v => if v ≤ top then some v else none
  | [], top, m, _, _, hm => by simp [accT, accN, hm]
  | c :: r, top, m, h9, hb, hm => by
    simp only [accT, accN]
    by_cases hd : 9 < (c + 208) % 256
    · rw [if_pos (.inl hd), if_pos (.inl hd)]; rfl
    · by_cases ht : (top - (c + 208) % 256) / 10 < m
      · rw [if_pos (.inr ht)]
        by_cases hbg : (big - (c + 208) % 256) / 10 < m
        · rw [if_pos (.inr hbg)]; rfl
        · rw [if_neg (fun hx => hx.elim hd hbg)]
          cases hv : accN (10 * m + (c + 208) % 256) r with
          | none => rfl
          | some v =>
            have := accN_ge hv
            simp only [Option.bind_some]
            rw [if_neg (by omega)]
      · have hbg : ¬ (big - (c + 208) % 256) / 10 < m := by unfold big at *; omega
        rw [if_neg (fun hx => hx.elim hd ht), if_neg (fun hx => hx.elim hd hbg), accT_eq h9 hb (by omega)]
/-- what the document's Int answers -/
def refR (bs : List Nat) : Int × Bool :=
  if rest bs = [] then (0, false) else
  match accT (if sign bs then big else big - 1) 0 (rest bs) with
  | none => (0, false)
  | some m => if sign bs then (-(m : Int), true) else ((m : Int), true)
theorem refR_eq (bs : List Nat) : refR bs = intR bs := by
  unfold refR intR
  by_cases hr : rest bs = []
  · rw [if_pos hr, hr]
    show _ = (if _ ∨ _ then _ else _)
    rw [if_pos (.inl rfl)]
  · rw [if_neg hr]
    cases hs : sign bs with
    | true =>
      rw [if_pos rfl, accT_eq (by decide) (Nat.le_refl _) (by decide)]
      cases hv : accN 0 (rest bs) with
      | none => rfl
      | some m =>
        have hle := accN_le (by decide) hv
        simp only [Option.bind_some]
        rw [if_pos hle]
        show _ = (if rest bs = [] ∨ (m = big ∧ true = false) then _ else _)
        rw [if_neg (fun hx => hx.elim hr fun h => by cases h.2)]
    | false =>
      rw [if_neg (by decide), accT_eq (by decide) (by decide) (by decide)]
      cases hv : accN 0 (rest bs) with
      | none => rfl
      | some m =>
        have hle := accN_le (by decide) hv
        simp only [Option.bind_some]
        by_cases hm : m = big
        · subst hm
          rw [if_neg (by decide)]
          rw [if_pos (Or.inr ⟨rfl, trivial⟩)]
        · rw [if_pos (by unfold big at *; omega)]
          rw [if_neg (fun hx => hx.elim hr fun h => hm h.1)]
end Go.Ev.W04

/- FUNCTOR: going over a text; how many runes; their places; the first one. -/
namespace Go.Ev.W04
open Go.Proofs
set_option maxRecDepth 100000
variable {n : Nat} {cf : CF} {h : Heap}

theorem byt_getD {bs : List Nat} (hb : Bytes bs) (i : Nat) : byt (packN bs) i = bs.getD i 0 := by
  show packN bs / Nat.pow 2 (Nat.mul 8 i) % 256 = _
  rw [pack256, List.getD_eq_getElem?_getD]
  by_cases hi : i < bs.length
  · rw [packN_get hb hi, List.getElem?_eq_getElem hi]; rfl
  · have := Nat.lt_of_lt_of_le (packN_lt hb) (Nat.pow_le_pow_right (show 0 < 256 by decide) (show bs.length ≤ i by omega))
    rw [Nat.div_eq_of_lt this, List.getElem?_eq_none (by omega)]; rfl
theorem getD_drop (bs : List Nat) (p j : Nat) : (bs.drop p).getD j 0 = bs.getD (p + j) 0 := by
  rw [List.getD_eq_getElem?_getD, List.getD_eq_getElem?_getD, List.getElem?_drop]
theorem runek_dc {bs : List Nat} (hb : Bytes bs) (p : Nat) (k : Nat → Nat → Res) : runek bs.length (packN bs) p k = k (dc (bs.drop p)).1 (dc (bs.drop p)).2 := by
  have e : (⟨(dig bs.length (packN bs)).toArray⟩ : ByteArray).data.toList = dig bs.length (packN bs) := by simp
  have hs : (⟨(dig bs.length (packN bs)).toArray⟩ : ByteArray).size = bs.length := str_size e
  rw [runek_eq e (packN_lt hb), Lib.decode_at, hs]
  simp only [byt_get e (packN_lt hb), byt_getD hb]
  unfold dc
  rw [getD_drop, getD_drop, getD_drop, getD_drop, List.length_drop]
  simp only [Nat.add_zero]
theorem rng_law (bs : List Nat) (h : Heap) : ∃ h', (∀ k, words.ex .rngS [.str bs.length (packN bs)] h k = k (.ptr h.nx 0) h') ∧ h'.t.get h.nx = .ob (.it bs.length (packN bs) 0) ∧ New h h' := by
  obtain ⟨h', k1, g1, n1⟩ := newk_law h (.ob (.it bs.length (packN bs) 0))
  exact ⟨h', fun k => k1 fun b h' => k (.ptr b 0) h', g1, n1⟩
theorem nxt_more {bs : List Nat} (hb : Bytes bs) {b : Bid} {p : Nat} (hg : h.t.get b = .ob (.it bs.length (packN bs) p)) (hp : p < bs.length) :
    ∃ h', (∀ k, words.ex .nxtS [.ptr b 0] h k = k (.tup [.bool true, .int .i64 (.ofNat p), .int .i32 (.ofNat (dc (bs.drop p)).1)]) h') ∧ h'.t.get b = .ob (.it bs.length (packN bs) (p + (dc (bs.drop p)).2)) ∧ But h b h' := by
  refine ⟨h.turn b (.ob (.it bs.length (packN bs) (p + (dc (bs.drop p)).2))), fun k => ?_, HT.get_set _ _ _, rfl, fun b' hb' => HT.get_set_ne _ hb' _⟩
  show h.getk b (fun x => obk x fun x => itk x fun l n p => ifk (Nat.blt p l) (runek l n p fun c wd => h.turnk b (.ob (.it l n (Nat.add p wd))) fun h' => k (.tup [.bool true, .int .i64 (.ofNat p), .int .i32 (.ofNat c)]) h') (k (.tup [.bool false]) h)) = _
  rw [Heap.getk_eq, hg]
  show ifk (Nat.blt p bs.length) (runek bs.length (packN bs) p fun c wd => h.turnk b (.ob (.it bs.length (packN bs) (Nat.add p wd))) fun h' => k (.tup [.bool true, .int .i64 (.ofNat p), .int .i32 (.ofNat c)]) h') (k (.tup [.bool false]) h) = _
  rw [blt_of hp, ifk_true, runek_dc hb, Heap.turnk_eq]; rfl
theorem nxt_over {bs : List Nat} {b : Bid} {p : Nat} (hg : h.t.get b = .ob (.it bs.length (packN bs) p)) (hp : ¬ p < bs.length) (k : V → Heap → Res) :
    words.ex .nxtS [.ptr b 0] h k = k (.tup [.bool false]) h := by
  show h.getk b (fun x => obk x fun x => itk x fun l n p => ifk (Nat.blt p l) (runek l n p fun c wd => h.turnk b (.ob (.it l n (Nat.add p wd))) fun h' => k (.tup [.bool true, .int .i64 (.ofNat p), .int .i32 (.ofNat c)]) h') (k (.tup [.bool false]) h)) = _
  rw [Heap.getk_eq, hg]
  show ifk (Nat.blt p bs.length) (runek bs.length (packN bs) p fun c wd => h.turnk b (.ob (.it bs.length (packN bs) (Nat.add p wd))) fun h' => k (.tup [.bool true, .int .i64 (.ofNat p), .int .i32 (.ofNat c)]) h') (k (.tup [.bool false]) h) = _
  rw [blt_not hp, ifk_false]
/-- where k runes end, in the text's length -/
theorem plc_lt {k : Nat} {bs : List Nat} (h : k ≤ runes bs) : plc k bs < bs.length ↔ k < runes bs := by
  have h1 := drop_nil h
  have h2 := plc_le k bs
  constructor
  · intro hlt
    rcases Nat.lt_or_eq_of_le h with h3 | h3
    · exact h3
    · have := h1.2 h3
      have := congrArg List.length this
      rw [List.length_drop] at this; simp at this; omega
  · intro hk
    rcases Nat.lt_or_eq_of_le h2 with h3 | h3
    · exact h3
    · have : k = runes bs := h1.1 (by rw [h3, List.drop_length])
      omega
theorem plc_next {k : Nat} {bs : List Nat} (h : k < runes bs) : plc k bs + (dc (bs.drop (plc k bs))).2 = plc (k + 1) bs := by
  rw [plc_succ k bs]
  intro e
  have := (drop_nil (Nat.le_of_lt h)).1 e
  omega
theorem But.keeps {h h' : Heap} {b : Bid} (u : But h b h') {b' : Bid} (hne : b' ≠ b) : h'.t.get b' = h.t.get b' := u.get b' hne

/-- RuneCountInString -/
theorem count_law {bs : List Nat} (hb : Bytes bs) (hl : bs.length < n) (hl' : bs.length ≤ 1000000) :
    ∃ h', Up h h' ∧ sh37 words n cf [.str bs.length (packN bs)] h = .ret (.int .i64 (.ofNat (runes bs))) h' := by
  obtain ⟨h1, k1, g1, n1⟩ := rng_law bs h
  have hrun := runes_le (Nat.le_refl bs.length)
  unfold sh37
  simp only [unc_cons, castS_str, nilk'_nil]
  rw [k1]
  refine lpk_inv (I := fun w h' m => ∃ i, i ≤ runes bs ∧ m = runes bs - i ∧ w = [.int .i64 (.ofNat i), .ptr h.nx 0] ∧ h'.t.get h.nx = .ob (.it bs.length (packN bs) (plc i bs)) ∧ UpTo h.nx.val h h')
    (Q := fun r => ∃ h', Up h h' ∧ r = .ret (.int .i64 (.ofNat (runes bs))) h') ?_ n _ _ (runes bs) (by omega) ⟨0, by omega, by omega, rfl, g1, n1.up.to (Nat.le_refl _)⟩
  rintro again w h' m ⟨i, hi, rfl, rfl, hg, u⟩ ih
  simp only [unc_cons, castF_int, nilk'_nil]
  by_cases h4 : i < runes bs
  · obtain ⟨h2, k2, g2, b2⟩ := nxt_more hb hg ((plc_lt hi).2 h4)
    rw [k2]
    rw [plc_next h4] at g2
    simp only [tupk_tup, nthk_eq (l := [V.bool true, .int .i64 (.ofNat (plc i bs)), .int .i32 (.ofNat (dc (bs.drop (plc i bs))).1)]) (i := 0) rfl, castB_bool, ifk_true]
    rw [add_nat, wrapv_small .i64 _ (show i + 1 ≤ 9223372036854775807 by omega)]
    refine ih _ _ (runes bs - (i + 1)) (by omega) ⟨i + 1, h4, rfl, rfl, g2, u.trans (b2.up (Nat.le_refl _))⟩
  · rw [nxt_over hg (fun h5 => h4 ((plc_lt hi).1 h5))]
    obtain rfl : i = runes bs := by omega
    simp only [tupk_tup, nthk_eq (l := [V.bool false]) (i := 0) rfl, castB_bool, ifk_false]
    exact ⟨h', u.up, rfl⟩
/-- the document's Code -/
theorem refcode_law {bs : List Nat} (hb : Bytes bs) (hn : 0 < n) :
    ∃ h', Up h h' ∧ sh22 words n cf [.str bs.length (packN bs)] h = .ret (.tup [.int .i64 (.ofNat (if bs = [] then 0 else (dc bs).1)), .bool (decide (bs ≠ []))]) h' := by
  obtain ⟨h1, k1, g1, n1⟩ := rng_law bs h
  unfold sh22
  simp only [unc_cons, castS_str, nilk'_nil]
  rw [k1]
  obtain ⟨m, rfl⟩ : ∃ m, n = m + 1 := ⟨n - 1, by omega⟩
  rw [lpk_succ]
  simp only [unc_cons, nilk'_nil]
  by_cases hbs : bs = []
  · subst hbs
    rw [nxt_over g1 (by simp)]
    simp only [tupk_tup, nthk_eq (l := [V.bool false]) (i := 0) rfl, castB_bool, ifk_false]
    exact ⟨h1, n1.up, rfl⟩
  · obtain ⟨h2, k2, g2, b2⟩ := nxt_more hb g1 (List.length_pos_iff.2 hbs)
    rw [k2, List.drop_zero]
    have hc := dc_c hb
    simp only [tupk_tup, nthk_eq (l := [V.bool true, .int .i64 (.ofNat 0), .int .i32 (.ofNat (dc bs).1)]) (i := 0) rfl, nthk_eq (l := [V.bool true, .int .i64 (.ofNat 0), .int .i32 (.ofNat (dc bs).1)]) (i := 2) rfl, castB_bool, ifk_true, castI_int]
    rw [wrapv_small .i64 _ (show (dc bs).1 ≤ 9223372036854775807 by omega), if_neg hbs, show decide (bs ≠ []) = true from decide_eq_true hbs]
    exact ⟨h2, ((n1.up.to (Nat.le_refl _)).trans (b2.up (Nat.le_refl _))).up, rfl⟩
/-- the places of the runes, and the end -/
def places (bs : List Nat) (k : Nat) : List V := (List.range k).map fun i => .int .i64 (.ofNat (plc i bs))
theorem places_succ (bs : List Nat) (k : Nat) : places bs (k + 1) = places bs k ++ [.int .i64 (.ofNat (plc k bs))] := by
  unfold places; rw [List.range_succ, List.map_append]; rfl
theorem own_but {h h' : Heap} {lo : Nat} {v : V} {l : List V} (w : Own h lo v l) {b : Bid} (u : But h b h') (hb : b.val < lo) : Own h' lo v l := by
  cases w with
  | nils => exact .nils
  | sl b' c _ blo bhi row cap => exact .sl b' c l blo (by rw [u.nx]; exact bhi) (by rw [u.get b' (by rintro rfl; omega)]; exact row) cap
/-- one number more -/
theorem push_law {lo : Nat} {v : V} {l : List V} {h : Heap} (o : Own h lo v l) (hlo : lo ≤ h.nx.val) (hl : l.length + 1 ≤ 16777216) (x : V) (K : V → Heap → Res) :
    ∃ h' v', words.row 1 1 [x] (fun t => words.new h (.arr 1 1 t .false) (fun p h1 => words.app 1 v (.slice p 0 1 (.some 1) 1) h1 K)) = K v' h' ∧ Own h' lo v' (l ++ [x]) ∧ UpTo lo h h' := by
  obtain ⟨t, k1, r1⟩ := rowk_law (g := 1) (n := 1) (by decide) (l := [x]) rfl
  obtain ⟨h1, k2, g2, n2⟩ := newk_law h (.arr 1 1 t false)
  have is : IsS h1 (.slice h.nx 0 1 (some 1) 1) [x] := .sl h.nx 0 (some 1) false [x] [x] (by rw [g2]; exact r1) (by simp) rfl (fun n e => by cases e; simp)
  obtain ⟨h2, v', k3, o3, u3⟩ := app_own (o.up n2.up) is (Nat.le_trans hlo n2.up.nx) (by simpa using hl)
  refine ⟨h2, v', ?_, o3, (n2.up.to hlo).trans u3⟩
  have e1 : ∀ K, words.row 1 1 [x] K = K t := k1
  have e2 : ∀ K, words.new h (.arr 1 1 t .false) K = K h.nx h1 := k2
  rw [e1, e2, k3]
theorem places_law {bs : List Nat} (hb : Bytes bs) (hl : bs.length < n) (hl' : bs.length ≤ 1000000) :
    ∃ h' v, Up h h' ∧ IsS h' v (places bs (runes bs + 1)) ∧ sh35 words n cf [.str bs.length (packN bs)] h = .ret v h' := by
  obtain ⟨h1, k1, g1, n1⟩ := rng_law bs h
  have hrun := runes_le (Nat.le_refl bs.length)
  unfold sh35
  simp only [unc_cons, castS_str, nilk'_nil]
  rw [k1]
  have hnx : h.nx.val < h1.nx.val := n1.lt
  refine contk_lpk (P := fun r => ∃ h' v, Up h h' ∧ IsS h' v (places bs (runes bs + 1)) ∧ r = .ret v h') (I := fun w h' m => ∃ i v, i ≤ runes bs ∧ m = runes bs - i ∧ w = [.str bs.length (packN bs), v, .ptr h.nx 0] ∧ h'.t.get h.nx = .ob (.it bs.length (packN bs) (plc i bs)) ∧ UpTo h.nx.val h h' ∧ Own h' h1.nx.val v (places bs i) ∧ h1.nx.val ≤ h'.nx.val)
    (Q := fun r => ∃ h' v, UpTo h.nx.val h h' ∧ Own h' h1.nx.val v (places bs (runes bs)) ∧ h1.nx.val ≤ h'.nx.val ∧ r = .done .normal [.str bs.length (packN bs), v] h') (runes bs) ?_ (show runes bs < n by omega) ⟨0, .nils, by omega, by omega, rfl, g1, n1.up.to (Nat.le_refl _), .nils, Nat.le_refl _⟩ ?_
  · rintro again w h' m ⟨i, v, hi, rfl, rfl, hg, u, o, hlo⟩ ih
    simp only [unc_cons, castS_str, nilk'_nil]
    by_cases h4 : i < runes bs
    · obtain ⟨h2, k2, g2, b2⟩ := nxt_more hb hg ((plc_lt hi).2 h4)
      rw [k2]
      rw [plc_next h4] at g2
      simp only [tupk_tup, nthk_eq (l := [V.bool true, .int .i64 (.ofNat (plc i bs)), .int .i32 (.ofNat (dc (bs.drop (plc i bs))).1)]) (i := 0) rfl, nthk_eq (l := [V.bool true, .int .i64 (.ofNat (plc i bs)), .int .i32 (.ofNat (dc (bs.drop (plc i bs))).1)]) (i := 1) rfl, castB_bool, castI_int, ifk_true]
      have hlo2 : h1.nx.val ≤ h2.nx.val := by rw [b2.nx]; exact hlo
      obtain ⟨h3, v', e3, o3, u3⟩ := push_law (own_but o b2 hnx) hlo2 (by simp [places]; omega) (.int .i64 (.ofNat (plc i bs))) (fun v56 h58 => again [.str bs.length (packN bs), v56, .ptr h.nx 0] h58)
      refine (congrArg (fun r => ∃ h' v, UpTo h.nx.val h h' ∧ Own h' h1.nx.val v (places bs (runes bs)) ∧ h1.nx.val ≤ h'.nx.val ∧ r = .done .normal [.str bs.length (packN bs), v] h') e3).mpr ?_
      refine ih _ _ (runes bs - (i + 1)) (by omega) ⟨i + 1, v', h4, rfl, rfl, ?_, (u.trans (b2.up (Nat.le_refl _))).trans (u3.mono (Nat.le_of_lt hnx)), by rw [places_succ]; exact o3, Nat.le_trans hlo2 u3.nx⟩
      rw [u3.get _ hnx]; exact g2
    · rw [nxt_over hg (fun h5 => h4 ((plc_lt hi).1 h5))]
      obtain rfl : i = runes bs := by omega
      simp only [tupk_tup, nthk_eq (l := [V.bool false]) (i := 0) rfl, castB_bool, ifk_false]
      exact ⟨h', v, u, o, hlo, rfl⟩
  · rintro r ⟨h', v, u, o, hlo, rfl⟩
    simp only [contk_done, unc_cons, castS_str, nilk'_nil, nork_normal]
    obtain ⟨h3, v', e3, o3, u3⟩ := push_law o hlo (by simp [places]; omega) (.int .i64 (.ofNat bs.length)) (fun v83 h85 => .ret v83 h85)
    refine ⟨h3, v', (u.trans (u3.mono (Nat.le_of_lt hnx))).up, ?_, e3⟩
    rw [places_succ, plc_all (Nat.le_refl _)]
    exact o3.isS
/-- the document's Len -/
theorem reflen_law {bs : List Nat} (hl' : bs.length ≤ 1000000) {v : V} {h' : Heap} (hc : cf ⟨.d0, .d0, .d2, .d3⟩ [.str bs.length (packN bs)] h = .ret v h') (is : IsS h' v (places bs (runes bs + 1))) :
    sh27 words n cf [.str bs.length (packN bs)] h = .ret (.int .i64 (.ofNat (runes bs))) h' := by
  have hrun := runes_le (Nat.le_refl bs.length)
  unfold sh27
  simp only [unc_cons, castS_str, nilk'_nil, hc, backk_ret]
  rw [is.len]
  have e : (places bs (runes bs + 1)).length = runes bs + 1 := by simp [places]
  rw [e, show Int.sub (.ofNat (runes bs + 1)) (.ofNat 1) = .ofNat (runes bs) by show ((runes bs + 1 : Nat) : Int) - 1 = (runes bs : Int); omega, wrapv_small .i64 _ (show runes bs ≤ 9223372036854775807 by omega)]
end Go.Ev.W04
