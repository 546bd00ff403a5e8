/- PAGE: what was sealed is opened; the short calls. -/
import Derived.Test.YtbdohcmaighhkaaDoorPgH
namespace Go.Ev.W02
open Go.Proofs

theorem seal_parts {k : Nat} {bs : List Nat} (hl : bs.length ≤ 504) : psize (sealB k bs) = bs.length ∧ (sealB k bs).getD 6 0 = k ∧ pin (sealB k bs) = bs := by
  have e : ∃ a b c d, sealB k bs = [a, b, c, d, bs.length % 256, bs.length / 256 % 256, k, 157] ++ (bs ++ List.replicate (504 - bs.length) 0) := ⟨_, _, _, _, rfl⟩
  obtain ⟨a, b, c, d, e⟩ := e
  have h1 : psize (sealB k bs) = bs.length := by rw [e]; show bs.length % 256 + 256 * (bs.length / 256 % 256) = _; omega
  refine ⟨h1, by rw [e]; rfl, ?_⟩
  rw [pin, h1, e, List.take_append, List.drop_append]
  simp
theorem seal_whole {k : Nat} {bs : List Nat} (hl : bs.length ≤ 504) : whole (sealB k bs) = true := by
  obtain ⟨h1, h2, h3⟩ := seal_parts (k := k) hl
  unfold whole
  rw [h1, h2, h3]
  simp [hl]

/-- what the program's functions and the document's answer -/
structure CallP (cf : CF) : Prop where
  sum : ∀ v h (bs : List Nat), Tab h → IsS h v (bs.map bV) → (∀ x ∈ bs, x < 256) → bs.length ≤ 4096 → cf ⟨.d0, .d0, .d0, .dd⟩ [v] h = .ret (.int .u32 (.ofNat (crc bs))) h
  refsum : ∀ v h (bs : List Nat), IsS h v (bs.map bV) → (∀ x ∈ bs, x < 256) → bs.length ≤ 4096 → cf ⟨.d0, .d0, .d0, .de⟩ [v] h = .ret (.int .u32 (.ofNat (crc bs))) h
  big : ∀ v h k (bs : List Nat), Tab h → 0 < h.nx.val → IsS h v (bs.map bV) → Low v h.nx.val → k < 256 → (∀ x ∈ bs, x < 256) → 504 < bs.length → cf ⟨.d0, .d0, .d0, .d8⟩ [bV k, v] h = .ret (.tup [.nils, .int .i64 (.ofNat 2)]) h
  shut : ∀ v h k (bs : List Nat), Tab h → 0 < h.nx.val → IsS h v (bs.map bV) → Low v h.nx.val → k < 256 → (∀ x ∈ bs, x < 256) → bs.length ≤ 504 →
    ∃ h' v', cf ⟨.d0, .d0, .d0, .d8⟩ [bV k, v] h = .ret (.tup [v', .int .i64 (.ofNat 0)]) h' ∧ Own h' h.nx.val v' ((sealB k bs).map bV) ∧ Up h h'
  refbig : ∀ v h k (bs : List Nat), IsS h v (bs.map bV) → Low v h.nx.val → k < 256 → (∀ x ∈ bs, x < 256) → 504 < bs.length → cf ⟨.d0, .d0, .d0, .d9⟩ [bV k, v] h = .ret (.tup [.nils, .int .i64 (.ofNat 2)]) h
  refshut : ∀ v h k (bs : List Nat), IsS h v (bs.map bV) → Low v h.nx.val → k < 256 → (∀ x ∈ bs, x < 256) → bs.length ≤ 504 →
    ∃ h' v', cf ⟨.d0, .d0, .d0, .d9⟩ [bV k, v] h = .ret (.tup [v', .int .i64 (.ofNat 0)]) h' ∧ Own h' h.nx.val v' ((sealB k bs).map bV) ∧ Up h h'
  openN : ∀ v h (bs : List Nat), Tab h → IsS h v (bs.map bV) → Low v h.nx.val → (∀ x ∈ bs, x < 256) → bs.length ≠ 512 → cf ⟨.d0, .d0, .d0, .db⟩ [v] h = .ret (.tup [bV 0, .nils, .int .i64 (.ofNat 2)]) h
  openF : ∀ v h (bs : List Nat), Tab h → IsS h v (bs.map bV) → Low v h.nx.val → (∀ x ∈ bs, x < 256) → bs.length = 512 → whole bs = false → cf ⟨.d0, .d0, .d0, .db⟩ [v] h = .ret (.tup [bV 0, .nils, .int .i64 (.ofNat 20)]) h
  openT : ∀ v h (bs : List Nat), Tab h → IsS h v (bs.map bV) → Low v h.nx.val → (∀ x ∈ bs, x < 256) → bs.length = 512 → whole bs = true →
    ∃ h' v', cf ⟨.d0, .d0, .d0, .db⟩ [v] h = .ret (.tup [bV (bs.getD 6 0), v', .int .i64 (.ofNat 0)]) h' ∧ Own h' h.nx.val v' ((pin bs).map bV) ∧ Up h h'
  refopenN : ∀ v h (bs : List Nat), IsS h v (bs.map bV) → Low v h.nx.val → (∀ x ∈ bs, x < 256) → bs.length ≠ 512 → cf ⟨.d0, .d0, .d0, .dc⟩ [v] h = .ret (.tup [bV 0, .nils, .int .i64 (.ofNat 2)]) h
  refopenF : ∀ v h (bs : List Nat), IsS h v (bs.map bV) → Low v h.nx.val → (∀ x ∈ bs, x < 256) → bs.length = 512 → whole bs = false →
    ∃ h', cf ⟨.d0, .d0, .d0, .dc⟩ [v] h = .ret (.tup [bV 0, .nils, .int .i64 (.ofNat 20)]) h' ∧ Up h h'
  refopenT : ∀ v h (bs : List Nat), IsS h v (bs.map bV) → Low v h.nx.val → (∀ x ∈ bs, x < 256) → bs.length = 512 → whole bs = true →
    ∃ h' v', cf ⟨.d0, .d0, .d0, .dc⟩ [v] h = .ret (.tup [bV (bs.getD 6 0), v', .int .i64 (.ofNat 0)]) h' ∧ Own h' h.nx.val v' ((pin bs).map bV) ∧ Up h h'

theorem Own.cons {h : Heap} {lo : Nat} {v : V} {l : List V} (w : Own h lo v l) (hl : l ≠ []) : ∃ b c, v = .slice b 0 l.length c 1 ∧ lo ≤ b.val ∧ b.val < h.nx.val ∧ Row (h.t.get b) 1 l := by
  cases w with
  | nils => exact absurd rfl hl
  | sl b c _ blo bhi row cap => exact ⟨b, c, rfl, blo, bhi, row⟩

theorem zero_torn : whole (List.replicate 512 0) = false := by decide +kernel
theorem crc_one : crc [1] = 2768625435 := by decide +kernel
theorem make_law (n : Nat) (hn : n ≤ 16777216) (h : Heap) : ∃ h', (∀ k, words.make 1 [bV 0] (.int .i64 (.ofNat n)) (.int .i64 (.ofNat n)) h k = k (.slice h.nx 0 n (some n) 1) h') ∧ Own h' h.nx.val (.slice h.nx 0 n (some n) 1) ((List.replicate n 0).map bV) ∧ Up h h' := by
  obtain ⟨h', h3, h4, h5⟩ := newk_law h (.arr 1 n (repT [bV 0] n n) false)
  refine ⟨h', fun k => ?_, ?_, h5.up⟩
  · show ifk (Nat.ble n n) (ifk (Nat.ble n 16777216) (h.newk (.arr 1 n (repT [bV 0] n n) false) fun bb h' => k (.slice bb 0 n (some n) 1) h') .fail) .fail = _
    rw [ble_of (Nat.le_refl n), ble_of hn, ifk_true, ifk_true, h3]
  · have := Own.sl (h := h') (lo := h.nx.val) h.nx (some n) ((List.replicate n 0).map bV) (Nat.le_refl _) h5.lt (by
      rw [h4]
      refine row_ext (Row.rep [bV 0] (by simp) n) ?_
      rw [List.map_replicate]
      clear hn h3 h4 h5
      induction n with
      | zero => rfl
      | succ m ih => rw [List.replicate_succ, List.flatten_cons, ih, List.replicate_succ]; rfl) (fun m e => by cases e; simp)
    simpa using this
theorem works_law {n : Nat} {cf : CF} (C : CallP cf) {h : Heap} (t : Tab h) (h0 : 0 < h.nx.val) : ∃ h', sh10 words n cf [] h = .ret (.bool true) h' ∧ Up h h' := by
  obtain ⟨h1, e1, o1, n1⟩ := build_own [bV 9] h
  have b9 : ∀ x ∈ [9], x < 256 := by simp
  have t1 := t.up h0 n1.up
  have h01 : 0 < h1.nx.val := Nat.lt_of_lt_of_le h0 n1.up.nx
  obtain ⟨h2, v2, e2, o2, u2⟩ := C.shut _ h1 7 [9] t1 h01 (o1.isS : IsS h1 _ ([9].map bV)) o1.low (by omega) b9 (by simp)
  have t2 := t1.up h01 u2
  have h02 : 0 < h2.nx.val := Nat.lt_of_lt_of_le h01 u2.nx
  have hl9 : (sealB 7 [9]).length = 512 := sealB_length (by simp)
  obtain ⟨h3, v3, e3, o3, u3⟩ := C.openT v2 h2 (sealB 7 [9]) t2 o2.isS o2.low (sealB_lt (by omega) b9) hl9 (seal_whole (by simp))
  obtain ⟨_, g6, gp⟩ := seal_parts (k := 7) (bs := [9]) (by simp)
  rw [g6] at e3
  rw [gp] at o3
  have t3 := t2.up h02 u3
  have h03 : 0 < h3.nx.val := Nat.lt_of_lt_of_le h02 u3.nx
  obtain ⟨h4, e4, o4, u4⟩ := make_law 512 (by omega) h3
  have t4 := t3.up h03 u4
  have h04 : 0 < h4.nx.val := Nat.lt_of_lt_of_le h03 u4.nx
  have e5 := C.openF _ h4 (List.replicate 512 0) t4 o4.isS o4.low (fun x hx => by have := (List.mem_replicate.1 hx).2; omega) List.length_replicate zero_torn
  obtain ⟨b3, c3, rfl, _, _, r3⟩ := Own.cons o3 (by simp)
  have s3 := (o3.up u4).isS
  have ld3 : ∀ k, load1k h4 b3 (Nat.add 0 0) k = k (bV 9) := fun k => by
    obtain ⟨b', o', n', c', s', e, _, h2⟩ := s3.at_ (i := 0) (by simp)
    cases e
    rw [h2]; rfl
  obtain ⟨h5, e6, o6, n6⟩ := build_own [bV 1] h4
  have e7 := C.sum _ h5 [1] (t4.up h04 n6.up) (o6.isS : IsS h5 _ ([1].map bV)) (by simp) (by simp)
  rw [crc_one] at e7
  refine ⟨h5, ?_, (u4.trans n6.up |> u3.trans |> u2.trans |> n1.up.trans)⟩
  simp only [bV, List.map_cons, List.map_nil, List.length_cons, List.length_nil] at e1 e2 e3 e4 e5 e6 e7 ld3
  unfold sh10
  simp only [nilk'_nil, e1, e2, backk_ret, tupk_tup, unc_cons, castI_int, e3, e4, e5, ieq_nat, decide_true, ifk_true, intk_int, show Nat.beq (kno .i64) 3 = true from rfl, show Nat.beq (kno .u8) 4 = true from rfl,
    show Nat.beq (kno .u32) 6 = true from rfl, pickv_true, castB_bool, lenk_slice, slk_slice, blt_of (show 0 < 0 + 1 by omega), ptrk_ptr, show words.load1 = load1k from rfl, ld3, e6, e7]
end Go.Ev.W02
