/- PAGE: the document's Open. -/
import Derived.Test.YtbdohcmaighhkaaDoorPgG
namespace Go.Ev.W02
open Go.Proofs

structure Callees3 (cf : CF) : Prop where
  refseal : ∀ h v k (bs : List Nat), IsS h v (bs.map bV) → Low v h.nx.val → k < 256 → (∀ x ∈ bs, x < 256) → bs.length ≤ 504 →
    ∃ h' v', cf ⟨.d0, .d0, .d0, .d9⟩ [bV k, v] h = .ret (.tup [v', .int .i64 (.ofNat 0)]) h' ∧ Own h' h.nx.val v' ((sealB k bs).map bV) ∧ Up h h'

theorem refopen_law {n : Nat} {cf : CF} (C : Callees3 cf) {h : Heap} {v : V} {bs : List Nat} (w : IsS h v (bs.map bV)) (lo : Low v h.nx.val) (hb : ∀ x ∈ bs, x < 256) :
    (bs.length ≠ 512 → sh12 words n cf [v] h = .ret (.tup [bV 0, .nils, .int .i64 (.ofNat 2)]) h) ∧
    (bs.length = 512 → whole bs = false → ∃ h', sh12 words n cf [v] h = .ret (.tup [bV 0, .nils, .int .i64 (.ofNat 20)]) h' ∧ Up h h') ∧
    (bs.length = 512 → whole bs = true → ∃ h' v', sh12 words n cf [v] h = .ret (.tup [bV (bs.getD 6 0), v', .int .i64 (.ofNat 0)]) h' ∧ Own h' h.nx.val v' ((pin bs).map bV) ∧ Up h h') := by
  refine ⟨fun hl => ?_, ?_⟩
  · unfold sh12
    simp only [unc_cons, nilk'_nil, w.len, List.length_map, ieq_nat, decide_eq_false hl, Bool.not_false, ifk_true, bV]
  suffices main : bs.length = 512 → (whole bs = false ∧ ∃ h', sh12 words n cf [v] h = .ret (.tup [bV 0, .nils, .int .i64 (.ofNat 20)]) h' ∧ Up h h') ∨ (whole bs = true ∧ ∃ h' v', sh12 words n cf [v] h = .ret (.tup [bV (bs.getD 6 0), v', .int .i64 (.ofNat 0)]) h' ∧
      Own h' h.nx.val v' ((pin bs).map bV) ∧ Up h h') by
    refine ⟨fun hl hw => ?_, fun hl hw => ?_⟩
    · rcases main hl with ⟨_, h1⟩ | ⟨h1, _⟩
      · exact h1
      · rw [hw] at h1; cases h1
    · rcases main hl with ⟨h1, _⟩ | ⟨_, h1⟩
      · rw [hw] at h1; cases h1
      · exact h1
  intro hl
  obtain ⟨b, o, c, rfl, ld⟩ := at2 w hl
  have lt : ∀ i, i < 512 → bs.getD i 0 < 256 := fun i hi => by
    rw [List.getD_eq_getElem?_getD, List.getElem?_eq_getElem (by omega)]; exact hb _ (List.getElem_mem _)
  have b4 := lt 4 (by omega)
  have b5 := lt 5 (by omega)
  have b6 := lt 6 (by omega)
  have esz : bs.getD 4 0 + 256 * bs.getD 5 0 = psize bs := rfl
  have hps : psize bs < 65536 := by unfold psize; omega
  unfold sh12
  simp only [unc_cons, nilk'_nil, lenk_slice, ieq_nat, decide_true, Bool.not_true, ifk_false, slk_slice, blt_of (show 4 < 512 by omega), blt_of (show 5 < 512 by omega), ifk_true, backk_ret, ptrk_ptr]
  rw [show words.load1 = load1k from rfl]
  simp only [ld 4 (by omega), bV, castI_int, backk_ret, ld 5 (by omega), wrapv_small .i64 (bs.getD 4 0) (show _ ≤ 9223372036854775807 by omega), wrapv_small .i64 (bs.getD 5 0) (show _ ≤ 9223372036854775807 by omega), mul_nat,
    wrapv_small .i64 (256 * bs.getD 5 0) (show _ ≤ 9223372036854775807 by omega), add_nat, esz, wrapv_small .i64 (psize bs) (show _ ≤ 9223372036854775807 by omega), ilt_nat, wrapv_small .i64 (8 + psize bs) (show _ ≤ 9223372036854775807 by omega)]
  by_cases hs : psize bs ≤ 504
  · obtain ⟨v9, e9, s9, l9⟩ := slice_law w (i := 8) (j := 8 + psize bs) (by omega) (by simp; omega) (lo := some (.int .i64 (.ofNat 8))) (hi := some (.int .i64 (.ofNat (8 + psize bs)))) (fun k => rfl) (fun k => rfl)
    have c9 : ((bs.map bV).take (8 + psize bs)).drop 8 = (pin bs).map bV := by rw [pin, List.map_drop, List.map_take]
    rw [c9] at s9
    have hp := pin_length hl hs
    have hpb : ∀ x ∈ pin bs, x < 256 := fun x hx => hb x (List.mem_of_mem_take (List.mem_of_mem_drop hx))
    obtain ⟨h1, v1, e1, o1, u1⟩ := app_own (lo := h.nx.val) (Own.nils (h := h)) s9 (Nat.le_refl _) (by simp [hp]; omega)
    rw [List.nil_append] at o1
    have up1 := u1.up
    have ld1 : ∀ i, i < 512 → ∀ k, load1k h1 b (Nat.add o i) k = k (bV (bs.getD i 0)) := by
      obtain ⟨b', o', c', e, ld1⟩ := at2 (w.upto lo up1) hl
      cases e
      exact ld1
    obtain ⟨h2, v2, e2, o2, u2⟩ := C.refseal h1 v1 (bs.getD 6 0) (pin bs) o1.isS o1.low b6 hpb (by omega)
    have w2 := (w.upto lo (up1.trans u2))
    have ld2 : ∀ i, i < 512 → ∀ k, load1k h2 b (Nat.add o i) k = k (bV (bs.getD i 0)) := by
      obtain ⟨b', o', c', e, ld2⟩ := at2 w2 hl
      cases e
      exact ld2
    simp only [bV] at e2
    simp only [decide_eq_false (show ¬ 504 < psize bs by omega), ifk_false, e9, e1, blt_of (show 6 < 512 by omega), ifk_true, ld1 6 (by omega), bV, castI_int, e2, backk_ret, tupk_tup, unc_cons, nilk'_nil,
      bytesS_law o2.isS (sealB_lt b6 hpb), bytesS_law w2 hb, castS_str, seq_pack (sealB_lt b6 hpb) hb]
    have hw : whole bs = decide (sealB (bs.getD 6 0) (pin bs) = bs) := by unfold whole; rw [decide_eq_true hs, Bool.true_and]
    rw [hw]
    by_cases he : sealB (bs.getD 6 0) (pin bs) = bs
    · rw [decide_eq_true he]
      refine .inr ⟨rfl, h2, v1, ?_, o1.up u2, up1.trans u2⟩
      simp only [Bool.not_true, ifk_false, ld2 6 (by omega), bV, castI_int]
    · rw [decide_eq_false he]
      exact .inl ⟨rfl, h2, rfl, up1.trans u2⟩
  · refine .inl ⟨by unfold whole; rw [decide_eq_false hs]; rfl, h, ?_, .refl _⟩
    simp only [decide_eq_true (show 504 < psize bs by omega), ifk_true]
end Go.Ev.W02
