/- PAGE: the law PageOpens. -/
import Derived.Test.YtbdohcmaighhkaaDoorPgM
namespace Go.Ev.W02
open Go.Proofs

/-- a slice of one's own is written over -/
theorem spoil_own {n : Nat} {h : Heap} {lo : Nat} {x : V} {l : List V} (w : Own h lo x l) (hn : l.length < n) (hl : l.length ≤ 4096) {A : List V} {body : (List V → Heap → Res) → List V → Heap → Res} {vs : Nat → List V}
    (hs : ∀ again i (h' : Heap), i ≤ l.length → body again (vs i) h' = lenk x fun m => ifk (ilt (.ofNat i) (.ofNat m)) (slk x (fun b o m _ _ => ifk (Nat.blt i m) (words.store h' b (Nat.add o i) 1 [bV 238] fun h' => again (vs (i + 1)) h') .fail) .fail .fail) (.done .normal A h')) :
    ∃ h', lpk body n (vs 0) h = .done .normal A h' ∧ UpTo lo h h' := by
  cases w with
  | nils =>
    obtain ⟨m, rfl⟩ : ∃ m, n = m + 1 := ⟨n - 1, by omega⟩
    refine ⟨h, ?_, .refl _ _⟩
    rw [lpk_succ, hs _ 0 _ (by omega)]
    rfl
  | sl b c _ blo bhi row cap =>
    have hs' : ∀ again i (h' : Heap), i ≤ l.length → body again (vs i) h' = ifk (ilt (.ofNat i) (.ofNat l.length)) (ifk (Nat.blt i l.length) (words.store h' b (Nat.add 0 i) 1 [bV 238] fun h' => again (vs (i + 1)) h') .fail) (.done .normal A h') := fun again i h' hi => by
      rw [hs again i h' hi, lenk_slice, slk_slice]
    refine lpk_inv (I := fun w h'' m => ∃ i l', i ≤ l.length ∧ m = l.length - i ∧ w = vs i ∧ Row (h''.t.get b) 1 l' ∧ l'.length = l.length ∧ But h b h'') (Q := fun r => ∃ h', r = .done .normal A h' ∧ UpTo lo h h') ?_ n _ _ l.length hn
      ⟨0, l, by omega, by omega, rfl, row, rfl, ⟨rfl, fun _ _ => rfl⟩⟩
    rintro again w h'' m ⟨i, l', hi, rfl, rfl, ri, hli, bi⟩ ih
    rw [hs' _ _ _ hi, ilt_nat]
    by_cases hlt : i < l.length
    · rw [decide_eq_true hlt, ifk_true, blt_of hlt, ifk_true, show Nat.add 0 i = i from Nat.zero_add i]
      obtain ⟨h8, e8, r8, b8⟩ := store1_law ri (o := i) (by omega) (bV 238)
      rw [e8]
      exact ih _ _ (l.length - (i + 1)) (by omega) ⟨i + 1, _, hlt, rfl, rfl, r8, by simpa using hli, ⟨b8.nx.trans bi.nx, fun b' hb' => (b8.get b' hb').trans (bi.get b' hb')⟩⟩
    · rw [decide_eq_false hlt, ifk_false]
      exact ⟨h'', rfl, Nat.le_of_eq (by rw [bi.nx]), fun b' hb' => bi.get b' (by rintro rfl; omega)⟩

/-- both openings answer alike -/
theorem opens_alike {cf : CF} (C : CallQ cf) {h : Heap} {c v : V} {bs : List Nat} (t : Tab h) (wc : IsS h c (bs.map bV)) (lc : Low c h.nx.val) (w : IsS h v (bs.map bV)) (lo : Low v h.nx.val) (hb : ∀ x ∈ bs, x < 256) :
    ∃ (h2 h3 : Heap) (kk : Nat) (x z : V) (ee : Nat) (q : List Nat), cf ⟨.d0, .d0, .d0, .db⟩ [c] h = .ret (.tup [bV kk, x, .int .i64 (.ofNat ee)]) h2 ∧ Up h h2 ∧ cf ⟨.d0, .d0, .d0, .dc⟩ [v] h2 = .ret (.tup [bV kk, z, .int .i64 (.ofNat ee)]) h3 ∧ Up h2 h3 ∧
      Own h2 h.nx.val x (q.map bV) ∧ IsS h3 z (q.map bV) ∧ (∀ x ∈ q, x < 256) ∧ q.length ≤ bs.length := by
  by_cases hl : bs.length = 512
  · by_cases hw : whole bs = true
    · obtain ⟨h2, x, e1, ox, u2⟩ := C.openT c h bs t wc lc hb hl hw
      obtain ⟨h3, z, e2, oz, u3⟩ := C.refopenT v h2 bs (w.upto lo u2) (lo.mono u2.nx) hb hl hw
      exact ⟨h2, h3, _, x, z, _, pin bs, e1, u2, e2, u3, ox, oz.isS, fun x hx => hb x (List.mem_of_mem_take (List.mem_of_mem_drop hx)), by simp [pin]; omega⟩
    · have hw' : whole bs = false := by simpa using hw
      have e1 := C.openF c h bs t wc lc hb hl hw'
      obtain ⟨h3, e2, u3⟩ := C.refopenF v h bs w lo hb hl hw'
      exact ⟨h, h3, _, _, _, _, [], e1, .refl _, e2, u3, .nils, .nils, by simp, by simp⟩
  · have e1 := C.openN c h bs t wc lc hb hl
    have e2 := C.refopenN v h bs w lo hb hl
    exact ⟨h, h, _, _, _, _, [], e1, .refl _, e2, .refl _, .nils, .nils, by simp, by simp⟩

theorem pageOpens_law {n : Nat} {cf : CF} (C : CallQ cf) (hn : 4096 < n) {h : Heap} {v : V} {bs : List Nat} (t : Tab h) (h0 : 0 < h.nx.val) (w : IsS h v (bs.map bV)) (lo : Low v h.nx.val) (hb : ∀ x ∈ bs, x < 256) :
    ∃ h', sh4 words n cf [v] h = .ret (.bool true) h' := by
  by_cases hlong : 2000 < bs.length
  · refine ⟨h, ?_⟩
    unfold sh4
    simp only [unc_cons, nilk'_nil, w.lenB, ilt_nat, decide_eq_true hlong, ifk_true]
  obtain ⟨h1, c, ec, oc, uc⟩ := app_own (Own.nils (h := h) (lo := h.nx.val)) w (Nat.le_refl _) (by simp; omega)
  simp only [List.nil_append] at oc
  have u1 := uc.up
  have t1 := t.up h0 u1
  have h01 : 0 < h1.nx.val := Nat.lt_of_lt_of_le h0 u1.nx
  obtain ⟨h2, h3, kk, x, z, ee, q, e1, u2, e2, u3, ox, oz, hq, hql⟩ := opens_alike C t1 oc.isS oc.low (w.upto lo u1) (lo.mono u1.nx) hb
  have t2 := t1.up h01 u2
  have h02 : 0 < h2.nx.val := Nat.lt_of_lt_of_le h01 u2.nx
  have t3 := t2.up h02 u3
  have h03 : 0 < h3.nx.val := Nat.lt_of_lt_of_le h02 u3.nx
  have oc3 := oc.up (u2.trans u3)
  have w3 : IsS h3 v (bs.map bV) := w.upto lo (u1.trans (u2.trans u3))
  have e3 := C.sum c h3 bs t3 oc3.isS hb (by omega)
  have e4 := C.refsum v h3 bs w3 hb (by omega)
  have ox3 := ox.up u3
  obtain ⟨h4, e5, u4⟩ := spoil_own (n := n) (h := h3) ox3 (by simp; omega) (by simp; omega) (A := [v, c]) (vs := fun i => [v, c, x, .int .i64 (.ofNat i)])
    (body := fun l172 l h176 => unc l (fun v178 l180 => unc l180 (fun v182 l184 => unc l184 (fun v186 l188 => unc l188 (fun v190 l192 => castF .i64 v190 (fun i194 => nilk' l192 (lenk v186 (fun n196 => ifk (ilt i194 (.ofNat n196)) (slk v186 (fun p198 n200 n202 _ _ => natk i194 (fun n206 => ifk (Nat.blt n206 n202) (words.store h176 p198 (Nat.add n200 n206) (nat_lit 1) [.int .u8 (.ofNat (nat_lit 238))] (fun h208 => l172 [v178, v182, v186, .int .i64 (wrapv .i64 (Int.add i194 (.ofNat (nat_lit 1))))] h208)) .fail)) .fail .fail) (.done .normal [v178, v182] h176))))))))) (by
      intro again i h' hi
      have : i + 1 ≤ 9223372036854775807 := by simp at hi; omega
      simp only [unc_cons, castF_int, nilk'_nil, natk_ofNat, add_nat, wrapv_small .i64 _ this]
      rfl)
  have lo1 : h.nx.val ≤ h1.nx.val := u1.nx
  have w4 : IsS h4 v (bs.map bV) := w3.upTo (lo.mono lo1) u4
  have c4 : IsS h4 c (bs.map bV) := oc3.isS.upTo oc.low u4
  have t4 : Tab h4 := t3.upTo h01 u4
  have h04 : 0 < h4.nx.val := Nat.lt_of_lt_of_le h03 u4.nx
  obtain ⟨h5, e6, _⟩ := C.works h4 t4 h04
  refine ⟨h5, ?_⟩
  simp only [bV] at e1 e2
  unfold sh4
  simp only [unc_cons, castI_int, nilk'_nil, w.lenB, ilt_nat, decide_eq_false hlong, ifk_false, ec, e1, backk_ret, tupk_tup, e2, ieq_nat, decide_true, Bool.not_true, Bool.not_false, ifk_true, intk_int, show Nat.beq (kno .i64) (kno .i64) = true from rfl,
    pickv_false, castB_bool, castS_str, strk_str, bytesS_law ox3.isS hq, bytesS_law oz hq, seq_pack hq hq, e3, e4, show Nat.beq (kno .u32) (kno .u32) = true from rfl]
  rw [e5]
  simp only [contk_done, unc_cons, nilk'_nil, nork_normal, bytesS_law c4 hb, bytesS_law w4 hb, castS_str, seq_pack hb hb, decide_true, ifk_true, e6, backk_ret, castB_bool, pickv_true]
end Go.Ev.W02
