/- PAGE: the laws PageBack, PageSeals, PageOpens. -/
import Derived.Test.YtbdohcmaighhkaaDoorPgI
namespace Go.Ev.W02
open Go.Proofs

structure CallQ (cf : CF) : Prop extends CallP cf where
  works : ∀ h, Tab h → 0 < h.nx.val → ∃ h', cf ⟨.d0, .d0, .d0, .da⟩ [] h = .ret (.bool true) h' ∧ Up h h'
theorem _root_.Go.Ev.IsS.lenB {h : Heap} {v : V} {bs : List Nat} (w : IsS h v (bs.map bV)) (k : Nat → Res) : lenk v k = k bs.length := by rw [w.len, List.length_map]

theorem pageBack_law {n : Nat} {cf : CF} (C : CallQ cf) {h : Heap} {v : V} {k : Nat} {bs : List Nat} (t : Tab h) (h0 : 0 < h.nx.val) (w : IsS h v (bs.map bV)) (lo : Low v h.nx.val) (hk : k < 256) (hb : ∀ x ∈ bs, x < 256) :
    ∃ h', sh5 words n cf [bV k, v] h = .ret (.bool true) h' := by
  by_cases hl : 504 < bs.length
  · have e1 := C.big v h k bs t h0 w lo hk hb hl
    obtain ⟨h1, e2, _⟩ := C.works h t h0
    refine ⟨h1, ?_⟩
    simp only [bV] at e1
    unfold sh5
    simp only [bV, unc_cons, castI_int, nilk'_nil, e1, backk_ret, tupk_tup, w.lenB, ilt_nat, decide_eq_true hl, ifk_true, ieq_nat, decide_true, lenk_nils, intk_int, show Nat.beq (kno .i64) 3 = true from rfl,
      show ieq (Int.ofNat 0) (Int.ofNat 0) = true from rfl, pickv_true, castB_bool, e2]
  · obtain ⟨h1, v1, e1, o1, u1⟩ := C.shut v h k bs t h0 w lo hk hb (by omega)
    have hl' : bs.length ≤ 504 := by omega
    have t1 := t.up h0 u1
    have h01 : 0 < h1.nx.val := Nat.lt_of_lt_of_le h0 u1.nx
    obtain ⟨h2, v2, e2, o2, u2⟩ := C.openT v1 h1 _ t1 o1.isS o1.low (sealB_lt hk hb) (sealB_length hl') (seal_whole hl')
    obtain ⟨_, g6, gp⟩ := seal_parts (k := k) hl'
    rw [g6] at e2
    rw [gp] at o2
    obtain ⟨h3, e3, _⟩ := C.works h2 (t1.up h01 u2) (Nat.lt_of_lt_of_le h01 u2.nx)
    refine ⟨h3, ?_⟩
    simp only [bV] at e1 e2
    unfold sh5
    simp only [bV, unc_cons, castI_int, nilk'_nil, e1, backk_ret, tupk_tup, w.lenB, ilt_nat, decide_eq_false hl, ifk_false, e2, ieq_nat, decide_true, ifk_true, intk_int, show Nat.beq (kno .i64) 3 = true from rfl, pickv_true, castB_bool,
      IsS.lenB (o1.up u2).isS, sealB_length hl', show Nat.beq (kno .u8) (kno .u8) = true from rfl, bytesS_law o2.isS hb, bytesS_law (w.upto lo (u1.trans u2)) hb, castS_str, strk_str, seq_pack hb hb, e3]

/-- a slice that is written over -/
theorem spoil_law {n : Nat} {h : Heap} {b : Bid} {l : List V} (row : Row (h.t.get b) 1 l) (hn : l.length < n) {A : List V} {body : (List V → Heap → Res) → List V → Heap → Res} {vs : Nat → List V}
    (hs : ∀ again i (h' : Heap), body again (vs i) h' = ifk (ilt (.ofNat i) (.ofNat l.length)) (ifk (Nat.blt i l.length) (words.store h' b (Nat.add 0 i) 1 [bV 238] fun h' => again (vs (i + 1)) h') .fail) (.done .normal A h')) :
    ∃ h', lpk body n (vs 0) h = .done .normal A h' ∧ But h b h' := by
  refine lpk_inv (I := fun w h'' m => ∃ i l', i ≤ l.length ∧ m = l.length - i ∧ w = vs i ∧ Row (h''.t.get b) 1 l' ∧ l'.length = l.length ∧ But h b h'') (Q := fun r => ∃ h', r = .done .normal A h' ∧ But h b h') ?_ n _ _ l.length hn
    ⟨0, l, by omega, by omega, rfl, row, rfl, ⟨rfl, fun _ _ => rfl⟩⟩
  rintro again w h'' m ⟨i, l', hi, rfl, rfl, ri, hli, bi⟩ ih
  rw [hs, ilt_nat]
  by_cases hlt : i < l.length
  · rw [decide_eq_true hlt, ifk_true, blt_of hlt, ifk_true, show Nat.add 0 i = i from Nat.zero_add i]
    obtain ⟨h8, e8, r8, b8⟩ := store1_law ri (o := i) (by omega) (bV 238)
    rw [e8]
    exact ih _ _ (l.length - (i + 1)) (by omega) ⟨i + 1, _, hlt, rfl, rfl, r8, by simpa using hli, ⟨b8.nx.trans bi.nx, fun b' hb' => (b8.get b' hb').trans (bi.get b' hb')⟩⟩
  · rw [decide_eq_false hlt, ifk_false]
    exact ⟨h'', rfl, bi⟩
theorem _root_.Go.Ev.But.isS {h h' : Heap} {b : Bid} {v : V} {l : List V} (u : But h b h') (w : IsS h v l) (hv : ∀ b' o n c s, v = .slice b' o n c s → b' ≠ b) : IsS h' v l := w.up fun b' o n c s e => u.get b' (hv b' o n c s e)
end Go.Ev.W02
