/- Pg3: texts joined. -/
import Derived.Test.YtbdohcmaighhkaaDoorPg2
/- PAGE: the law PageSeals. -/
namespace Go.Ev.W02
open Go.Proofs

theorem _root_.Go.Ev.Own.ge {h : Heap} {lo : Nat} {b : Bid} {o m s : Nat} {c : Option Nat} {l : List V} (w : Own h lo (.slice b o m c s) l) : lo ≤ b.val := by
  cases w; assumption
theorem bytesN {h : Heap} {v : V} {l : List Nat} {n : Nat} (w : IsS h v (l.map bV)) (hb : ∀ x ∈ l, x < 256) (hl : l.length = n) (k : V → Heap → Res) : words.bytesS v h k = k (.str n (packN l)) h := by
  rw [bytesS_law w hb, hl]
theorem seqN {l : List Nat} {n : Nat} (hb : ∀ x ∈ l, x < 256) (hl : l.length = n) : Go.Ev.seq n (packN l) n (packN l) = true := by
  have := seq_pack hb hb
  rw [hl] at this
  rw [this]; simp

theorem pageSeals_law {n : Nat} {cf : CF} (C : CallQ cf) (hn : 2000 < n) {h : Heap} {v : V} {k : Nat} {bs : List Nat} (t : Tab h) (h0 : 0 < h.nx.val) (w : IsS h v (bs.map bV)) (lo : Low v h.nx.val) (hk : k < 256) (hb : ∀ x ∈ bs, x < 256) :
    ∃ h', sh3 words n cf [bV k, v] h = .ret (.bool true) h' := by
  by_cases hlong : 2000 < bs.length
  · refine ⟨h, ?_⟩
    unfold sh3
    simp only [bV, unc_cons, castI_int, nilk'_nil, w.lenB, ilt_nat, decide_eq_true hlong, ifk_true]
  obtain ⟨h1, c, ec, oc, uc⟩ := app_own (Own.nils (h := h) (lo := h.nx.val)) w (Nat.le_refl _) (by simp; omega)
  simp only [List.nil_append] at oc
  have u1 := uc.up
  have t1 := t.up h0 u1
  have h01 : 0 < h1.nx.val := Nat.lt_of_lt_of_le h0 u1.nx
  by_cases hl : 504 < bs.length
  · have e1 := C.big c h1 k bs t1 h01 oc.isS oc.low hk hb hl
    have e2 := C.refbig v h1 k bs (w.upto lo u1) (lo.mono u1.nx) hk hb hl
    obtain ⟨h5, e5, _⟩ := C.works h1 t1 h01
    refine ⟨h5, ?_⟩
    have l0 : ∀ (body : (List V → Heap → Res) → List V → Heap → Res) (r : Res) vs, (∀ again, body again vs h1 = r) → lpk body n vs h1 = r := by
      intro body r vs hb
      obtain ⟨m, rfl⟩ : ∃ m, n = m + 1 := ⟨n - 1, by omega⟩
      rw [lpk_succ]; exact hb _
    have s0 : ∀ k : V → Heap → Res, words.bytesS .nils h1 k = k (.str 0 0) h1 := fun k => rfl
    simp only [bV] at e1 e2
    unfold sh3
    simp only [bV, unc_cons, castI_int, nilk'_nil, w.lenB, ilt_nat, decide_eq_false hlong, ifk_false, ec, e1, backk_ret, tupk_tup, e2, ieq_nat, decide_true, Bool.not_true, Bool.not_false, ifk_true, intk_int, show Nat.beq (kno .i64) (kno .i64) = true from rfl,
      pickv_false, castB_bool, s0, castS_str, strk_str, show Go.Ev.seq 0 0 0 0 = true from rfl, bytesS_law oc.isS hb, bytesS_law (w.upto lo u1) hb, seq_pack hb hb]
    rw [l0 _ (.done .normal [.nils, .nils] h1)]
    · simp only [contk_done, unc_cons, nilk'_nil, nork_normal, s0, castS_str, show Go.Ev.seq 0 0 0 0 = true from rfl, ifk_true, e5, backk_ret, castB_bool, pickv_true]
    · intro again
      simp only [unc_cons, castF_int, nilk'_nil, lenk_nils, show ilt (Int.ofNat 0) (Int.ofNat 0) = false from rfl, ifk_false]
  · have hl' : bs.length ≤ 504 := by omega
    obtain ⟨h2, x, e1, ox, u2⟩ := C.shut c h1 k bs t1 h01 oc.isS oc.low hk hb hl'
    have t2 := t1.up h01 u2
    have h02 : 0 < h2.nx.val := Nat.lt_of_lt_of_le h01 u2.nx
    obtain ⟨h3, y, e2, oy, u3⟩ := C.shut c h2 k bs t2 h02 (oc.up u2).isS (oc.up u2).low hk hb hl'
    have t3 := t2.up h02 u3
    have h03 : 0 < h3.nx.val := Nat.lt_of_lt_of_le h02 u3.nx
    have w3 : IsS h3 v (bs.map bV) := w.upto lo (u1.trans (u2.trans u3))
    obtain ⟨h4, z, e3, oz, u4⟩ := C.refshut v h3 k bs w3 (lo.mono (u1.trans (u2.trans u3)).nx) hk hb hl'
    have t4 := t3.up h03 u4
    have ox4 := ox.up (u3.trans u4)
    have oy4 := oy.up u4
    have oc4 := oc.up (u2.trans (u3.trans u4))
    have w4 : IsS h4 v (bs.map bV) := w.upto lo (u1.trans (u2.trans (u3.trans u4)))
    have hs := sealB_lt (bs := bs) hk hb
    have hsl : (sealB k bs).length = 512 := sealB_length hl'
    obtain ⟨bx, cx, rfl, xlo, xhi, rx⟩ := Own.cons ox4 (by intro e; have := congrArg List.length e; simp [hsl] at this)
    have xhi2 : bx.val < h2.nx.val := ox.low bx _ _ _ _ rfl
    simp only [List.length_map, hsl] at e1 e2 e3 rx
    obtain ⟨h5, e5, b5⟩ := spoil_law (n := n) (h := h4) rx (by simp [hsl]; omega) (A := [y, z]) (vs := fun i => [.slice bx 0 512 cx 1, y, z, .int .i64 (.ofNat i)])
      (body := fun l226 l h228 => unc l (fun v230 l232 => unc l232 (fun v234 l236 => unc l236 (fun v238 l240 => unc l240 (fun v242 l244 => castF .i64 v242 (fun i246 => nilk' l244 (lenk v230 (fun n248 => ifk (ilt i246 (.ofNat n248)) (slk v230 (fun p250 n252 n254 _ _ => natk i246 (fun n258 => ifk (Nat.blt n258 n254) (words.store h228 p250 (Nat.add n252 n258) (nat_lit 1) [.int .u8 (.ofNat (nat_lit 238))] (fun h260 => l226 [v230, v234, v238, .int .i64 (wrapv .i64 (Int.add i246 (.ofNat (nat_lit 1))))] h260)) .fail)) .fail .fail) (.done .normal [v234, v238] h228))))))))) (by
        intro again i h'
        by_cases hi : i < 512
        · simp only [unc_cons, castF_int, nilk'_nil, lenk_slice, slk_slice, natk_ofNat, List.length_map, hsl, add_nat, wrapv_small .i64 _ (show i + 1 ≤ 9223372036854775807 by omega)]
          rfl
        · simp only [unc_cons, castF_int, nilk'_nil, lenk_slice, List.length_map, hsl, ilt_nat, decide_eq_false hi, ifk_false])
    have yne : ∀ b' o m c' s, y = .slice b' o m c' s → b' ≠ bx := by
      rintro b' o m c' s rfl rfl
      have := oy.ge
      omega
    have zne : ∀ b' o m c' s, z = .slice b' o m c' s → b' ≠ bx := by
      rintro b' o m c' s rfl rfl
      have := oz.ge
      have := u3.nx
      omega
    have t5 : Tab h5 := by
      have hg : gid 0 ≠ bx := by
        rintro rfl
        have : (gid 0).val = 0 := by decide
        omega
      unfold Tab
      rw [b5.get _ hg]; exact t4
    have h05 : 0 < h5.nx.val := by rw [b5.nx]; exact Nat.lt_of_lt_of_le h03 u4.nx
    obtain ⟨h6, e6, _⟩ := C.works h5 t5 h05
    refine ⟨h6, ?_⟩
    have ix := ox4.isS
    simp only [List.length_map, hsl] at ix
    have sx := fun K => bytesN ix hs hsl K
    have sy4 := fun K => bytesN oy4.isS hs hsl K
    have sz4 := fun K => bytesN oz.isS hs hsl K
    have sy5 := fun K => bytesN (b5.isS oy4.isS yne) hs hsl K
    have sz5 := fun K => bytesN (b5.isS oz.isS zne) hs hsl K
    simp only [bV] at e1 e2 e3
    unfold sh3
    simp only [bV, unc_cons, castI_int, nilk'_nil, w.lenB, ilt_nat, decide_eq_false hlong, ifk_false, ec, e1, backk_ret, tupk_tup, e2, e3, ieq_nat, decide_true, Bool.not_true, Bool.not_false, ifk_true, intk_int, show Nat.beq (kno .i64) (kno .i64) = true from rfl,
      pickv_false, castB_bool, castS_str, strk_str, sx, sz4, sy4, seqN hs hsl, bytesS_law oc4.isS hb, bytesS_law w4 hb, seq_pack hb hb]
    rw [e5]
    simp only [contk_done, unc_cons, nilk'_nil, nork_normal, sy5, sz5, castS_str, seqN hs hsl, ifk_true, e6, backk_ret, castB_bool, pickv_true]
end Go.Ev.W02

/- PAGE: the law PageOpens. -/
namespace Go.Ev.W02
open Go.Proofs

/-- a slice of one's own is written over -/
theorem spoil_own {n : Nat} {h : Heap} {lo : Nat} {x : V} {l : List V} (w : Own h lo x l) (hn : l.length < n) (hl : l.length ≤ 4096) {A : List V} {body : (List V → Heap → Res) → List V → Heap → Res} {vs : Nat → List V}
    (hs : ∀ again i (h' : Heap), i ≤ l.length → body again (vs i) h' = lenk x fun m => ifk (ilt (.ofNat i) (.ofNat m)) (slk x (fun b o m _ _ => ifk (Nat.blt i m) (words.store h' b (Nat.add o i) 1 [bV 238] fun h' => again (vs (i + 1)) h') .fail) .fail .fail) (.done .normal A h')) :
    ∃ h', lpk body n (vs 0) h = .done .normal A h' ∧ UpTo lo h h' := by
  cases w with
  | nils =>
    obtain ⟨m, rfl⟩ : ∃ m, n = m + 1 := ⟨n - 1, by omega⟩
    refine ⟨h, ?_, .refl _ _⟩
    rw [lpk_succ, hs _ 0 _ (by omega)]
    rfl
  | sl b c _ blo bhi row cap =>
    have hs' : ∀ again i (h' : Heap), i ≤ l.length → body again (vs i) h' = ifk (ilt (.ofNat i) (.ofNat l.length)) (ifk (Nat.blt i l.length) (words.store h' b (Nat.add 0 i) 1 [bV 238] fun h' => again (vs (i + 1)) h') .fail) (.done .normal A h') := fun again i h' hi => by
      rw [hs again i h' hi, lenk_slice, slk_slice]
    refine lpk_inv (I := fun w h'' m => ∃ i l', i ≤ l.length ∧ m = l.length - i ∧ w = vs i ∧ Row (h''.t.get b) 1 l' ∧ l'.length = l.length ∧ But h b h'') (Q := fun r => ∃ h', r = .done .normal A h' ∧ UpTo lo h h') ?_ n _ _ l.length hn
      ⟨0, l, by omega, by omega, rfl, row, rfl, ⟨rfl, fun _ _ => rfl⟩⟩
    rintro again w h'' m ⟨i, l', hi, rfl, rfl, ri, hli, bi⟩ ih
    rw [hs' _ _ _ hi, ilt_nat]
    by_cases hlt : i < l.length
    · rw [decide_eq_true hlt, ifk_true, blt_of hlt, ifk_true, show Nat.add 0 i = i from Nat.zero_add i]
      obtain ⟨h8, e8, r8, b8⟩ := store1_law ri (o := i) (by omega) (bV 238)
      rw [e8]
      exact ih _ _ (l.length - (i + 1)) (by omega) ⟨i + 1, _, hlt, rfl, rfl, r8, by simpa using hli, ⟨b8.nx.trans bi.nx, fun b' hb' => (b8.get b' hb').trans (bi.get b' hb')⟩⟩
    · rw [decide_eq_false hlt, ifk_false]
      exact ⟨h'', rfl, Nat.le_of_eq (by rw [bi.nx]), fun b' hb' => bi.get b' (by rintro rfl; omega)⟩

/-- both openings answer alike -/
theorem opens_alike {cf : CF} (C : CallQ cf) {h : Heap} {c v : V} {bs : List Nat} (t : Tab h) (wc : IsS h c (bs.map bV)) (lc : Low c h.nx.val) (w : IsS h v (bs.map bV)) (lo : Low v h.nx.val) (hb : ∀ x ∈ bs, x < 256) :
    ∃ (h2 h3 : Heap) (kk : Nat) (x z : V) (ee : Nat) (q : List Nat), cf ⟨.d0, .d0, .d0, .db⟩ [c] h = .ret (.tup [bV kk, x, .int .i64 (.ofNat ee)]) h2 ∧ Up h h2 ∧ cf ⟨.d0, .d0, .d0, .dc⟩ [v] h2 = .ret (.tup [bV kk, z, .int .i64 (.ofNat ee)]) h3 ∧ Up h2 h3 ∧
      Own h2 h.nx.val x (q.map bV) ∧ IsS h3 z (q.map bV) ∧ (∀ x ∈ q, x < 256) ∧ q.length ≤ bs.length := by
  by_cases hl : bs.length = 512
  · by_cases hw : whole bs = true
    · obtain ⟨h2, x, e1, ox, u2⟩ := C.openT c h bs t wc lc hb hl hw
      obtain ⟨h3, z, e2, oz, u3⟩ := C.refopenT v h2 bs (w.upto lo u2) (lo.mono u2.nx) hb hl hw
      exact ⟨h2, h3, _, x, z, _, pin bs, e1, u2, e2, u3, ox, oz.isS, fun x hx => hb x (List.mem_of_mem_take (List.mem_of_mem_drop hx)), by simp [pin]; omega⟩
    · have hw' : whole bs = false := by simpa using hw
      have e1 := C.openF c h bs t wc lc hb hl hw'
      obtain ⟨h3, e2, u3⟩ := C.refopenF v h bs w lo hb hl hw'
      exact ⟨h, h3, _, _, _, _, [], e1, .refl _, e2, u3, .nils, .nils, by simp, by simp⟩
  · have e1 := C.openN c h bs t wc lc hb hl
    have e2 := C.refopenN v h bs w lo hb hl
    exact ⟨h, h, _, _, _, _, [], e1, .refl _, e2, .refl _, .nils, .nils, by simp, by simp⟩

theorem pageOpens_law {n : Nat} {cf : CF} (C : CallQ cf) (hn : 4096 < n) {h : Heap} {v : V} {bs : List Nat} (t : Tab h) (h0 : 0 < h.nx.val) (w : IsS h v (bs.map bV)) (lo : Low v h.nx.val) (hb : ∀ x ∈ bs, x < 256) :
    ∃ h', sh4 words n cf [v] h = .ret (.bool true) h' := by
  by_cases hlong : 2000 < bs.length
  · refine ⟨h, ?_⟩
    unfold sh4
    simp only [unc_cons, nilk'_nil, w.lenB, ilt_nat, decide_eq_true hlong, ifk_true]
  obtain ⟨h1, c, ec, oc, uc⟩ := app_own (Own.nils (h := h) (lo := h.nx.val)) w (Nat.le_refl _) (by simp; omega)
  simp only [List.nil_append] at oc
  have u1 := uc.up
  have t1 := t.up h0 u1
  have h01 : 0 < h1.nx.val := Nat.lt_of_lt_of_le h0 u1.nx
  obtain ⟨h2, h3, kk, x, z, ee, q, e1, u2, e2, u3, ox, oz, hq, hql⟩ := opens_alike C t1 oc.isS oc.low (w.upto lo u1) (lo.mono u1.nx) hb
  have t2 := t1.up h01 u2
  have h02 : 0 < h2.nx.val := Nat.lt_of_lt_of_le h01 u2.nx
  have t3 := t2.up h02 u3
  have h03 : 0 < h3.nx.val := Nat.lt_of_lt_of_le h02 u3.nx
  have oc3 := oc.up (u2.trans u3)
  have w3 : IsS h3 v (bs.map bV) := w.upto lo (u1.trans (u2.trans u3))
  have e3 := C.sum c h3 bs t3 oc3.isS hb (by omega)
  have e4 := C.refsum v h3 bs w3 hb (by omega)
  have ox3 := ox.up u3
  obtain ⟨h4, e5, u4⟩ := spoil_own (n := n) (h := h3) ox3 (by simp; omega) (by simp; omega) (A := [v, c]) (vs := fun i => [v, c, x, .int .i64 (.ofNat i)])
    (body := fun l172 l h176 => unc l (fun v178 l180 => unc l180 (fun v182 l184 => unc l184 (fun v186 l188 => unc l188 (fun v190 l192 => castF .i64 v190 (fun i194 => nilk' l192 (lenk v186 (fun n196 => ifk (ilt i194 (.ofNat n196)) (slk v186 (fun p198 n200 n202 _ _ => natk i194 (fun n206 => ifk (Nat.blt n206 n202) (words.store h176 p198 (Nat.add n200 n206) (nat_lit 1) [.int .u8 (.ofNat (nat_lit 238))] (fun h208 => l172 [v178, v182, v186, .int .i64 (wrapv .i64 (Int.add i194 (.ofNat (nat_lit 1))))] h208)) .fail)) .fail .fail) (.done .normal [v178, v182] h176))))))))) (by
      intro again i h' hi
      have : i + 1 ≤ 9223372036854775807 := by simp at hi; omega
      simp only [unc_cons, castF_int, nilk'_nil, natk_ofNat, add_nat, wrapv_small .i64 _ this]
      rfl)
  have lo1 : h.nx.val ≤ h1.nx.val := u1.nx
  have w4 : IsS h4 v (bs.map bV) := w3.upTo (lo.mono lo1) u4
  have c4 : IsS h4 c (bs.map bV) := oc3.isS.upTo oc.low u4
  have t4 : Tab h4 := t3.upTo h01 u4
  have h04 : 0 < h4.nx.val := Nat.lt_of_lt_of_le h03 u4.nx
  obtain ⟨h5, e6, _⟩ := C.works h4 t4 h04
  refine ⟨h5, ?_⟩
  simp only [bV] at e1 e2
  unfold sh4
  simp only [unc_cons, castI_int, nilk'_nil, w.lenB, ilt_nat, decide_eq_false hlong, ifk_false, ec, e1, backk_ret, tupk_tup, e2, ieq_nat, decide_true, Bool.not_true, Bool.not_false, ifk_true, intk_int, show Nat.beq (kno .i64) (kno .i64) = true from rfl,
    pickv_false, castB_bool, castS_str, strk_str, bytesS_law ox3.isS hq, bytesS_law oz hq, seq_pack hq hq, e3, e4, show Nat.beq (kno .u32) (kno .u32) = true from rfl]
  rw [e5]
  simp only [contk_done, unc_cons, nilk'_nil, nork_normal, bytesS_law c4 hb, bytesS_law w4 hb, castS_str, seq_pack hb hb, decide_true, ifk_true, e6, backk_ret, castB_bool, pickv_true]
end Go.Ev.W02

/- PAGE: a burst of four bytes is found. -/
namespace Go.Ev.W02
open Go.Proofs

theorem bit1_top {x : Nat} (h : x < 2 ^ 32) : (bit1 x).testBit 31 = decide (x % 2 = 1) := by
  have h1 : (x / 2).testBit 31 = false := Nat.testBit_lt_two_pow (by omega)
  unfold bit1
  split
  · rename_i h2
    rw [Nat.testBit_xor, h1, decide_eq_true h2]; decide
  · rename_i h2
    rw [h1, decide_eq_false h2]
theorem xor_cancel {x y z : Nat} (h : x ^^^ z = y ^^^ z) : x = y := by
  have := congrArg (· ^^^ z) h
  simpa [Nat.xor_assoc] using this
theorem bit1_inj {x y : Nat} (hx : x < 2 ^ 32) (hy : y < 2 ^ 32) (h : bit1 x = bit1 y) : x = y := by
  have h1 := bit1_top hx
  rw [h, bit1_top hy, decide_eq_decide] at h1
  unfold bit1 at h
  by_cases h2 : x % 2 = 1
  · rw [if_pos h2, if_pos (h1.2 h2)] at h
    have := xor_cancel h
    have := h1.2 h2
    omega
  · have h3 : ¬ y % 2 = 1 := fun h4 => h2 (h1.1 h4)
    rw [if_neg h2, if_neg h3] at h
    omega
theorem bits_inj : ∀ (k : Nat) {x y : Nat}, x < 2 ^ 32 → y < 2 ^ 32 → bits k x = bits k y → x = y
  | 0, _, _, _, _, h => h
  | k + 1, _, _, hx, hy, h => bit1_inj hx hy (bits_inj k (bit1_lt hx) (bit1_lt hy) h)
theorem crcByte_inj {r s c : Nat} (hr : r < 2 ^ 32) (hs : s < 2 ^ 32) (hc : c < 256) (h : crcByte r c = crcByte s c) : r = s := by
  rw [byte_eq, byte_eq] at h
  exact xor_cancel (bits_inj 8 (Nat.xor_lt_two_pow hr (by omega)) (Nat.xor_lt_two_pow hs (by omega)) h)
theorem fold_inj : ∀ {v : List Nat} {r s : Nat}, r < 2 ^ 32 → s < 2 ^ 32 → (∀ x ∈ v, x < 256) → v.foldl crcByte r = v.foldl crcByte s → r = s
  | [], _, _, _, _, _, h => h
  | c :: v, r, s, hr, hs, hv, h => crcByte_inj hr hs (hv c (by simp)) (fold_inj (crcByte_lt hr (hv c (by simp))) (crcByte_lt hs (hv c (by simp))) (fun x hx => hv x (List.mem_cons_of_mem _ hx)) h)
/-- four bytes in one word -/
def word4 (a b c d : Nat) : Nat := a ^^^ 2 ^ 8 * b ^^^ 2 ^ 16 * c ^^^ 2 ^ 24 * d
theorem fold4 (r a b c d : Nat) : [a, b, c, d].foldl crcByte r = bits 32 (r ^^^ word4 a b c d) := by
  have e : r ^^^ word4 a b c d = (((r ^^^ a) ^^^ 2 ^ 8 * b) ^^^ 2 ^ 16 * c) ^^^ 2 ^ 24 * d := by unfold word4; simp only [Nat.xor_assoc]
  simp only [List.foldl_cons, List.foldl_nil, byte_eq]
  rw [e, show (32 : Nat) = 8 + 24 from rfl, bits_add, bits_xor, show (24 : Nat) = 8 + 16 from rfl, bits_add, bits_xor, show (16 : Nat) = 8 + 8 from rfl, bits_add, bits_xor]
  rfl
theorem word4_lt {a b c d : Nat} (ha : a < 256) (hb : b < 256) (hc : c < 256) (hd : d < 256) : word4 a b c d < 2 ^ 32 :=
  Nat.xor_lt_two_pow (Nat.xor_lt_two_pow (Nat.xor_lt_two_pow (by omega) (by omega)) (by omega)) (by omega)
theorem word4_add {a b c d : Nat} (ha : a < 256) (hb : b < 256) (hc : c < 256) : word4 a b c d = a + 2 ^ 8 * b + 2 ^ 16 * c + 2 ^ 24 * d := by
  have x : ∀ (i y z : Nat), y < 2 ^ i → y ^^^ 2 ^ i * z = y + 2 ^ i * z := fun i y z hy => by
    rw [Nat.add_comm y, Nat.two_pow_add_eq_or_of_lt hy z]
    apply Nat.eq_of_testBit_eq
    intro j
    rw [Nat.testBit_xor, Nat.testBit_or, Nat.testBit_two_pow_mul]
    by_cases hj : i ≤ j
    · rw [Nat.testBit_lt_two_pow (Nat.lt_of_lt_of_le hy (Nat.pow_le_pow_right (by omega) hj))]; simp
    · simp [hj]
  unfold word4
  rw [x 8 a b (by omega), x 16 _ c (by omega), x 24 _ d (by omega)]
theorem word4_inj {a b c d a' b' c' d' : Nat} (ha : a < 256) (hb : b < 256) (hc : c < 256) (ha' : a' < 256) (hb' : b' < 256) (hc' : c' < 256) (h : word4 a b c d = word4 a' b' c' d') :
    a = a' ∧ b = b' ∧ c = c' ∧ d = d' := by
  rw [word4_add ha hb hc, word4_add ha' hb' hc'] at h
  omega

/-- byte i of a word -/
def byteOf (ch i : Nat) : Nat := ch / 256 ^ i % 256
/-- the first j of four bytes from place a on are changed -/
def torn (p : List Nat) (a ch : Nat) : Nat → List Nat
  | 0 => p
  | j + 1 => (torn p a ch j).set (a + j) ((torn p a ch j).getD (a + j) 0 ^^^ byteOf ch j)
theorem torn_length (p : List Nat) (a ch j : Nat) : (torn p a ch j).length = p.length := by
  induction j with
  | zero => rfl
  | succ j ih => simp [torn, ih]
theorem byteOf_lt (ch i : Nat) : byteOf ch i < 256 := Nat.mod_lt _ (by decide)
theorem torn_lt {p : List Nat} {a ch : Nat} (hp : ∀ x ∈ p, x < 256) (j : Nat) : ∀ x ∈ torn p a ch j, x < 256 := by
  induction j with
  | zero => exact hp
  | succ j ih =>
    intro x hx
    rcases List.mem_or_eq_of_mem_set hx with h | h
    · exact ih x h
    · rw [h]
      refine Nat.xor_lt_two_pow (n := 8) ?_ (byteOf_lt _ _)
      by_cases hl : a + j < (torn p a ch j).length
      · rw [List.getD_eq_getElem?_getD, List.getElem?_eq_getElem hl]; exact ih _ (List.getElem_mem _)
      · rw [List.getD_eq_getElem?_getD, List.getElem?_eq_none (by omega)]; decide
theorem set_at (u v : List Nat) (c x : Nat) : (u ++ c :: v).set u.length x = u ++ x :: v := by simp
theorem get_at (u v : List Nat) (c : Nat) : (u ++ c :: v).getD u.length 0 = c := by simp
theorem torn_four (u v : List Nat) (a b c d ch : Nat) : torn (u ++ a :: b :: c :: d :: v) u.length ch 4 = u ++ (a ^^^ byteOf ch 0) :: (b ^^^ byteOf ch 1) :: (c ^^^ byteOf ch 2) :: (d ^^^ byteOf ch 3) :: v := by
  have e1 : torn (u ++ a :: b :: c :: d :: v) u.length ch 1 = u ++ (a ^^^ byteOf ch 0) :: b :: c :: d :: v := by
    show (u ++ a :: b :: c :: d :: v).set (u.length + 0) ((u ++ a :: b :: c :: d :: v).getD (u.length + 0) 0 ^^^ _) = _
    rw [Nat.add_zero, get_at, set_at]
  have step : ∀ (j : Nat) (w z : List Nat) (e : Nat), torn (u ++ a :: b :: c :: d :: v) u.length ch j = (u ++ w) ++ e :: z → w.length = j → torn (u ++ a :: b :: c :: d :: v) u.length ch (j + 1) = (u ++ w) ++ (e ^^^ byteOf ch j) :: z := by
    intro j w z e h hw
    have hl : u.length + j = (u ++ w).length := by simp [hw]
    show (torn (u ++ a :: b :: c :: d :: v) u.length ch j).set (u.length + j) ((torn (u ++ a :: b :: c :: d :: v) u.length ch j).getD (u.length + j) 0 ^^^ _) = _
    rw [h, hl, get_at, set_at]
  have e2 := step 1 [a ^^^ byteOf ch 0] (c :: d :: v) b (by rw [e1]; simp) rfl
  have e3 := step 2 [a ^^^ byteOf ch 0, b ^^^ byteOf ch 1] (d :: v) c (by rw [e2]; simp) rfl
  have e4 := step 3 [a ^^^ byteOf ch 0, b ^^^ byteOf ch 1, c ^^^ byteOf ch 2] v d (by rw [e3]; simp) rfl
  rw [e4]; simp
theorem split4 {l : List Nat} {a : Nat} (h : a + 4 ≤ l.length) : ∃ c0 c1 c2 c3, l = l.take a ++ c0 :: c1 :: c2 :: c3 :: l.drop (a + 4) := by
  refine ⟨l[a], l[a + 1], l[a + 2], l[a + 3], ?_⟩
  conv => lhs; rw [← List.take_append_drop a l]
  rw [List.drop_eq_getElem_cons (by omega : a < l.length), List.drop_eq_getElem_cons (by omega : a + 1 < l.length), List.drop_eq_getElem_cons (by omega : a + 2 < l.length), List.drop_eq_getElem_cons (by omega : a + 3 < l.length)]
theorem le4_inj {x y : Nat} (hx : x < 2 ^ 32) (hy : y < 2 ^ 32) (h : le4 x = le4 y) : x = y := by
  simp only [le4, List.cons.injEq, and_true] at h
  omega
theorem bytes_zero {ch : Nat} (h : ch < 2 ^ 32) (h0 : byteOf ch 0 = 0) (h1 : byteOf ch 1 = 0) (h2 : byteOf ch 2 = 0) (h3 : byteOf ch 3 = 0) : ch = 0 := by
  unfold byteOf at h0 h1 h2 h3
  simp only [Nat.pow_zero, Nat.div_one, Nat.pow_one, show 256 ^ 2 = 65536 from rfl, show 256 ^ 3 = 16777216 from rfl] at h0 h1 h2 h3
  omega
theorem xor_zero_of {x y : Nat} (h : x ^^^ y = x) : y = 0 := by
  have := congrArg (x ^^^ ·) h
  simpa [← Nat.xor_assoc] using this
theorem torn_law {k : Nat} {bs : List Nat} {a ch : Nat} (hl : bs.length ≤ 504) (hk : k < 256) (hb : ∀ x ∈ bs, x < 256) (ha : a ≤ 508) (ha4 : a = 0 ∨ 4 ≤ a) (hc : ch < 2 ^ 32) (h0 : ch ≠ 0) : whole (torn (sealB k bs) a ch 4) = false := by
  have hp := sealB_lt (bs := bs) hk hb
  have hpl : (sealB k bs).length = 512 := sealB_length hl
  have hbl := body_length (k := k) hl
  have hbody := body_lt (bs := bs) hk hb
  cases hw : whole (torn (sealB k bs) a ch 4) with
  | false => rfl
  | true =>
    exfalso
    rw [whole_iff (by rw [torn_length, hpl]) (torn_lt hp 4), Bool.and_eq_true, decide_eq_true_eq] at hw
    have hs := hw.1
    rcases ha4 with rfl | ha4
    · have e := torn_four [] (body k bs) (crc (body k bs) % 256) (crc (body k bs) / 256 % 256) (crc (body k bs) / 65536 % 256) (crc (body k bs) / 16777216 % 256) ch
      have e' : torn (sealB k bs) 0 ch 4 = _ := e
      rw [e'] at hs
      simp only [List.nil_append, List.take_succ_cons, List.take_zero, List.drop_succ_cons, List.drop_zero, le4, List.cons.injEq, and_true] at hs
      obtain ⟨s0, s1, s2, s3⟩ := hs
      exact h0 (bytes_zero hc (xor_zero_of s0) (xor_zero_of s1) (xor_zero_of s2) (xor_zero_of s3))
    · obtain ⟨c0, c1, c2, c3, e⟩ := split4 (l := body k bs) (a := a - 4) (by omega)
      generalize hu : (body k bs).take (a - 4) = u at e
      generalize hv : (body k bs).drop (a - 4 + 4) = v at e
      have hul : u.length = a - 4 := by rw [← hu]; simp; omega
      have hin : ∀ x, x ∈ u ∨ x = c0 ∨ x = c1 ∨ x = c2 ∨ x = c3 ∨ x ∈ v → x < 256 := fun x hx => hbody x (by rw [e]; simpa using hx)
      have hX : (le4 (crc (body k bs)) ++ u).length = a := by simp [le4, hul]; omega
      have e2 := torn_four (le4 (crc (body k bs)) ++ u) v c0 c1 c2 c3 ch
      have e3 : sealB k bs = (le4 (crc (body k bs)) ++ u) ++ c0 :: c1 :: c2 :: c3 :: v := by
        rw [List.append_assoc, ← e]; rfl
      rw [hX, ← e3] at e2
      rw [e2, List.append_assoc] at hs
      have l4 : (le4 (crc (body k bs))).length = 4 := rfl
      rw [List.take_left' l4, List.drop_left' l4] at hs
      have hx := le4_inj crc_lt crc_lt hs
      have d0 := byteOf_lt ch 0
      have d1 := byteOf_lt ch 1
      have d2 := byteOf_lt ch 2
      have d3 := byteOf_lt ch 3
      have b0 := hin c0 (by simp)
      have b1 := hin c1 (by simp)
      have b2 := hin c2 (by simp)
      have b3 := hin c3 (by simp)
      have x8 : ∀ {x y : Nat}, x < 256 → y < 256 → x ^^^ y < 256 := fun h h' => Nat.xor_lt_two_pow (n := 8) h h'
      have f0 := x8 b0 d0
      have f1 := x8 b1 d1
      have f2 := x8 b2 d2
      have f3 := x8 b3 d3
      have hvv : ∀ x ∈ v, x < 256 := fun x hx => hin x (by simp [hx])
      have huu : ∀ x ∈ u, x < 256 := fun x hx => hin x (by simp [hx])
      have hc1 : crcR (body k bs) < 2 ^ 32 := crcR_lt hbody
      have hc2 : crcR (u ++ (c0 ^^^ byteOf ch 0) :: (c1 ^^^ byteOf ch 1) :: (c2 ^^^ byteOf ch 2) :: (c3 ^^^ byteOf ch 3) :: v) < 2 ^ 32 := crcR_lt (by
        intro x hx
        simp only [List.mem_append, List.mem_cons] at hx
        rcases hx with h | h | h | h | h | h
        · exact huu x h
        · omega
        · omega
        · omega
        · omega
        · exact hvv x h)
      unfold crc at hx
      have hr : crcR (body k bs) = crcR (u ++ (c0 ^^^ byteOf ch 0) :: (c1 ^^^ byteOf ch 1) :: (c2 ^^^ byteOf ch 2) :: (c3 ^^^ byteOf ch 3) :: v) := by omega
      rw [e] at hr
      have g : ∀ (p q r s : Nat), crcR (u ++ p :: q :: r :: s :: v) = v.foldl crcByte ([p, q, r, s].foldl crcByte (u.foldl crcByte 4294967295)) := fun p q r s => by rw [crcR, List.foldl_append]; rfl
      rw [g, g] at hr
      have hr0 : u.foldl crcByte 4294967295 < 2 ^ 32 := foldl_lt huu (by decide)
      have in4 : ∀ {p q r s : Nat}, p < 256 → q < 256 → r < 256 → s < 256 → ∀ x ∈ [p, q, r, s], x < 256 := by
        intro p q r s h1 h2 h3 h4 x hx
        simp only [List.mem_cons, List.not_mem_nil, or_false] at hx
        omega
      have hr2 := fold_inj (foldl_lt (in4 b0 b1 b2 b3) hr0) (foldl_lt (in4 f0 f1 f2 f3) hr0) hvv hr
      rw [fold4, fold4] at hr2
      have hr3 := bits_inj 32 (Nat.xor_lt_two_pow hr0 (word4_lt b0 b1 b2 b3)) (Nat.xor_lt_two_pow hr0 (word4_lt f0 f1 f2 f3)) hr2
      rw [Nat.xor_comm _ (word4 c0 c1 c2 c3), Nat.xor_comm _ (word4 (c0 ^^^ byteOf ch 0) _ _ _)] at hr3
      obtain ⟨s0, s1, s2, s3⟩ := word4_inj b0 b1 b2 f0 f1 f2 (xor_cancel hr3)
      exact h0 (bytes_zero hc (xor_zero_of s0.symm) (xor_zero_of s1.symm) (xor_zero_of s2.symm) (xor_zero_of s3.symm))
end Go.Ev.W02

/- PAGE: the law PageTorn. -/
namespace Go.Ev.W02
open Go.Proofs

theorem _root_.Go.Ev.Own.capN {h : Heap} {lo : Nat} {b : Bid} {o m s : Nat} {c : Option Nat} {l : List V} (w : Own h lo (.slice b o m c s) l) : ∀ n, c = some n → n = l.length := by
  cases w; assumption
theorem pick_law {n : Nat} {cf : CF} {h : Heap} (i : Int) : ∃ a, a < 509 ∧ sh15 words n cf [.int .i64 i, .int .i64 (.ofNat 509)] h = .ret (.int .i64 (.ofNat a)) h := by
  have hab : (Int.tmod i (.ofNat 509)).natAbs < 509 := by
    rw [Int.natAbs_tmod]; exact Nat.mod_lt _ (by decide)
  unfold sh15
  simp only [unc_cons, castI_int, nilk'_nil, ilt_nat, ieq_nat, show decide (509 < 1) = false from rfl, show decide (509 = 0) = false from rfl, ifk_false]
  by_cases h0 : Int.tmod i (.ofNat 509) < 0
  · have e : ilt (Int.tmod i (.ofNat 509)) (.ofNat 0) = true := by rw [ilt_eq]; simpa using h0
    have e2 : Int.add (Int.tmod i (.ofNat 509)) (.ofNat 509) = .ofNat (509 - (Int.tmod i (.ofNat 509)).natAbs) := by
      show Int.tmod i (.ofNat 509) + (.ofNat 509) = _
      simp only [Int.ofNat_eq_natCast] at h0 hab ⊢
      omega
    refine ⟨509 - (Int.tmod i (.ofNat 509)).natAbs, by simp only [Int.ofNat_eq_natCast] at h0 hab ⊢; omega, ?_⟩
    rw [e, ifk_true, e2, wrapv_small .i64 _ (show _ ≤ 9223372036854775807 by omega)]
  · have e : ilt (Int.tmod i (.ofNat 509)) (.ofNat 0) = false := by rw [ilt_eq]; simpa using h0
    refine ⟨(Int.tmod i (.ofNat 509)).natAbs, hab, ?_⟩
    rw [e, ifk_false]
    congr 2
    simp only [Int.ofNat_eq_natCast] at h0 ⊢
    omega
theorem pick_c (d : Nat) (i : Int) (h : Heap) : ∃ a, a < 509 ∧ call tab N (d + 1) ⟨.d0, .d0, .d0, .df⟩ [.int .i64 i, .int .i64 (.ofNat 509)] h = .ret (.int .i64 (.ofNat a)) h := by
  rw [call15]; exact pick_law i

/-- the loop that changes four bytes -/
theorem tear_law {n : Nat} (hn : 4 < n) {h : Heap} {b : Bid} {c : Option Nat} {p : List Nat} {a ch : Nat} (row : Row (h.t.get b) 1 (p.map bV)) (hp : ∀ x ∈ p, x < 256) (hl : p.length = 512) (ha : a ≤ 508)
    {body : (List V → Heap → Res) → List V → Heap → Res}
    (hs : ∀ again i (h' : Heap) (q : List Nat), i < 4 → Row (h'.t.get b) 1 (q.map bV) → q.length = 512 → (∀ x ∈ q, x < 256) → body again [.int .i64 (.ofNat a), .int .u32 (.ofNat ch), .slice b 0 512 c 1, .int .i64 (.ofNat i)] h' =
      words.store h' b (Nat.add 0 (a + i)) 1 [bV (q.getD (a + i) 0 ^^^ byteOf ch i)] fun h' => again [.int .i64 (.ofNat a), .int .u32 (.ofNat ch), .slice b 0 512 c 1, .int .i64 (.ofNat (i + 1))] h')
    (he : ∀ again (h' : Heap), body again [.int .i64 (.ofNat a), .int .u32 (.ofNat ch), .slice b 0 512 c 1, .int .i64 (.ofNat 4)] h' = .done .normal [.slice b 0 512 c 1] h') :
    ∃ h', lpk body n [.int .i64 (.ofNat a), .int .u32 (.ofNat ch), .slice b 0 512 c 1, .int .i64 (.ofNat 0)] h = .done .normal [.slice b 0 512 c 1] h' ∧ But h b h' ∧ Row (h'.t.get b) 1 ((torn p a ch 4).map bV) := by
  refine lpk_inv (I := fun w h'' m => ∃ i, i ≤ 4 ∧ m = 4 - i ∧ w = [.int .i64 (.ofNat a), .int .u32 (.ofNat ch), .slice b 0 512 c 1, .int .i64 (.ofNat i)] ∧ Row (h''.t.get b) 1 ((torn p a ch i).map bV) ∧ But h b h'')
    (Q := fun r => ∃ h', r = .done .normal [.slice b 0 512 c 1] h' ∧ But h b h' ∧ Row (h'.t.get b) 1 ((torn p a ch 4).map bV)) ?_ n _ _ 4 hn ⟨0, by omega, by omega, rfl, row, ⟨rfl, fun _ _ => rfl⟩⟩
  rintro again w h'' m ⟨i, hi, rfl, rfl, ri, bi⟩ ih
  have hti : (torn p a ch i).length = 512 := by rw [torn_length, hl]
  by_cases h4 : i < 4
  · rw [hs _ _ _ _ h4 ri hti (torn_lt hp i), show Nat.add 0 (a + i) = a + i from Nat.zero_add _]
    obtain ⟨h8, e8, r8, b8⟩ := store1_law ri (o := a + i) (by simp [hti]; omega) (bV ((torn p a ch i).getD (a + i) 0 ^^^ byteOf ch i))
    rw [e8]
    exact ih _ _ (4 - (i + 1)) (by omega) ⟨i + 1, by omega, rfl, rfl, by rw [map_set] at r8; exact r8, ⟨b8.nx.trans bi.nx, fun b' hb' => (b8.get b' hb').trans (bi.get b' hb')⟩⟩
  · obtain rfl : i = 4 := by omega
    rw [he]
    exact ⟨h'', rfl, bi, ri⟩
theorem load_at {h : Heap} {b : Bid} {q : List Nat} (row : Row (h.t.get b) 1 (q.map bV)) {i : Nat} (hi : i < q.length) (k : V → Res) : words.load1 h b (Nat.add 0 i) k = k (bV (q.getD i 0)) := by
  show load1k h b (Nat.add 0 i) k = _
  rw [show Nat.add 0 i = i from Nat.zero_add i]
  exact load1k_law row (by rw [List.getElem?_map, List.getElem?_eq_getElem hi, List.getD_eq_getElem?_getD, List.getElem?_eq_getElem hi]; rfl) k
theorem shr_byte (ch i : Nat) (hi : i < 4) : ch / Nat.pow 2 (Nat.min (8 * i) 32) % 256 = byteOf ch i := by
  unfold byteOf
  have : i = 0 ∨ i = 1 ∨ i = 2 ∨ i = 3 := by omega
  rcases this with rfl | rfl | rfl | rfl <;> rfl

theorem pageTorn_law {n : Nat} {cf : CF} (C : CallQ cf) (hpick : ∀ (i : Int) h, ∃ a, a < 509 ∧ cf ⟨.d0, .d0, .d0, .df⟩ [.int .i64 i, .int .i64 (.ofNat 509)] h = .ret (.int .i64 (.ofNat a)) h) (hn : 4 < n) {h : Heap} {v : V} {k ch : Nat} {at_ : Int} {bs : List Nat} (t : Tab h) (h0 : 0 < h.nx.val)
    (w : IsS h v (bs.map bV)) (lo : Low v h.nx.val) (hk : k < 256) (hc : ch < 2 ^ 32) (hb : ∀ x ∈ bs, x < 256) : ∃ h', sh6 words n cf [bV k, v, .int .i64 at_, .int .u32 (.ofNat ch)] h = .ret (.bool true) h' := by
  by_cases hl : 504 < bs.length
  · have e1 := C.big v h k bs t h0 w lo hk hb hl
    obtain ⟨h1, e2, _⟩ := C.works h t h0
    refine ⟨h1, ?_⟩
    simp only [bV] at e1
    unfold sh6
    simp only [bV, unc_cons, castI_int, nilk'_nil, e1, backk_ret, tupk_tup, ieq_nat, show decide (2 = 0) = false from rfl, Bool.not_false, Bool.not_true, ifk_false, pickv_true, castB_bool, ifk_true, e2]
  have hl' : bs.length ≤ 504 := by omega
  obtain ⟨h1, p, e1, op, u1⟩ := C.shut v h k bs t h0 w lo hk hb hl'
  have t1 := t.up h0 u1
  have h01 : 0 < h1.nx.val := Nat.lt_of_lt_of_le h0 u1.nx
  by_cases hz : ch = 0
  · obtain ⟨h2, e2, _⟩ := C.works h1 t1 h01
    refine ⟨h2, ?_⟩
    simp only [bV] at e1
    unfold sh6
    simp only [bV, unc_cons, castI_int, nilk'_nil, e1, backk_ret, tupk_tup, ieq_nat, decide_true, Bool.not_false, Bool.not_true, pickv_false, castB_bool, ifk_true, intk_int, show Nat.beq (kno .u32) 6 = true from rfl, decide_eq_true hz, e2]
  have hs := sealB_lt (bs := bs) hk hb
  have hsl : (sealB k bs).length = 512 := sealB_length hl'
  obtain ⟨b, c, rfl, blo, bhi, row⟩ := Own.cons op (by intro e; have := congrArg List.length e; simp [hsl] at this)
  simp only [List.length_map, hsl] at e1 row
  obtain ⟨a0, ha0, e3⟩ := hpick at_ h1
  obtain ⟨a, ha, ha4, e4⟩ : ∃ a, a ≤ 508 ∧ (a = 0 ∨ 4 ≤ a) ∧ ∀ (K : Ex → List V → Heap → Res) x y, contk (ifk (ilt (.ofNat a0) (.ofNat 4)) (.done .normal [.int .i64 (.ofNat 0), x, y] h1) (.done .normal [.int .i64 (.ofNat a0), x, y] h1)) K = K .normal [.int .i64 (.ofNat a), x, y] h1 := by
    by_cases h4 : a0 < 4
    · exact ⟨0, by omega, .inl rfl, fun K x y => by rw [ilt_nat, decide_eq_true h4]; rfl⟩
    · exact ⟨a0, by omega, .inr (by omega), fun K x y => by rw [ilt_nat, decide_eq_false h4]; rfl⟩
  obtain ⟨h2, e5, b2, r2⟩ := tear_law (n := n) (c := c) (ch := ch) hn row hs hsl ha
    (body := fun l92 l94 h96 => unc l94 (fun v98 l100 => castF .i64 v98 (fun i102 => unc l100 (fun v104 l106 => castF .u32 v104 (fun i108 => unc l106 (fun v110 l112 => unc l112 (fun v114 l116 => castF .i64 v114 (fun i118 => nilk' l116 (ifk (ilt i118 (.ofNat (nat_lit 4))) (backk (slk v110 (fun p120 n122 n124 _ _ => natk (wrapv .i64 (Int.add i102 i118)) (fun n128 => ifk (Nat.blt n128 n124) (.ret (.ptr p120 (Nat.add n122 n128)) h96) .fail)) .fail .fail) (fun v130 _ => backk (ptrk v130 (fun p133 n135 => words.load1 h96 p133 n135 (fun v137 => castI .u8 v137 (fun i139 => .ret (.int .u8 i139) h96)))) (fun v141 _ => castI .u8 v141 (fun i144 => backk (natk (wrapv .i64 (Int.mul (.ofNat (nat_lit 8)) i118)) (fun n146 => .ret (.int .u32 (shrv i108 (Nat.pow (nat_lit 2) (Nat.min n146 (nat_lit 32))))) h96)) (fun v148 _ => backk (intk v148 (fun _ i152 => .ret (.int .u8 (wrapv .u8 i152)) h96)) (fun v154 _ => castI .u8 v154 (fun i157 => backk (slk v110 (fun p159 n161 n163 _ _ => natk (wrapv .i64 (Int.add i102 i118)) (fun n167 => ifk (Nat.blt n167 n163) (.ret (.ptr p159 (Nat.add n161 n167)) h96) .fail)) .fail .fail) (fun v169 _ => ptrk v169 (fun p172 n174 => words.store h96 p172 n174 (nat_lit 1) [.int .u8 (bxor .u8 i144 i157)] (fun h176 => l92 [.int .i64 i102, .int .u32 i108, v110, .int .i64 (wrapv .i64 (Int.add i118 (.ofNat (nat_lit 1))))] h176))) (fun _ _ => .fail))) (fun _ _ => .fail)) (fun _ _ => .fail))) (fun _ _ => .fail)) (fun _ _ => .fail)) (.done .normal [v110] h96)))))))))) (by
      intro again i h' q hi rq hq hqb
      have i1 : i + 1 ≤ 9223372036854775807 := by omega
      have i2 : a + i ≤ 9223372036854775807 := by omega
      have i3 : 8 * i ≤ 9223372036854775807 := by omega
      have g1 : q.getD (a + i) 0 < 256 := by
        rw [List.getD_eq_getElem?_getD, List.getElem?_eq_getElem (by omega)]; exact hqb _ (List.getElem_mem _)
      have g2 := byteOf_lt ch i
      simp only [unc_cons, castF_int, nilk'_nil, ilt_nat, decide_eq_true hi, ifk_true, slk_slice, add_nat, mul_nat, wrapv_small .i64 _ i2, wrapv_small .i64 _ i1, wrapv_small .i64 _ i3, natk_ofNat, blt_of (show a + i < 512 by omega), backk_ret, ptrk_ptr,
        load_at rq (show a + i < q.length by omega), bV, castI_int, shrv_nat, intk_int, wrapv_u8, shr_byte ch i hi, bxor_small .u8 _ _ (show q.getD (a + i) 0 ≤ 255 by omega) (show byteOf ch i ≤ 255 by omega)]) (by
      intro again h'
      simp only [unc_cons, castF_int, nilk'_nil, ilt_nat, show decide (4 < 4) = false from rfl, ifk_false])
  have hg : gid 0 ≠ b := by
    rintro rfl
    have : (gid 0).val = 0 := by decide
    omega
  have t2 : Tab h2 := by
    unfold Tab
    rw [b2.get _ hg]; exact t1
  have h02 : 0 < h2.nx.val := by rw [b2.nx]; exact h01
  have htl : (torn (sealB k bs) a ch 4).length = 512 := by rw [torn_length, hsl]
  have is2 : IsS h2 (.slice b 0 512 c 1) ((torn (sealB k bs) a ch 4).map bV) := by
    have hcap : ∀ n, c = some n → n = 512 := fun n hn' => by have := op.capN n hn'; simpa [hsl] using this
    have := IsS.sl b 0 c false _ _ r2 (Nat.le_of_eq (Nat.zero_add _)) (by rw [List.drop_zero, List.take_length]) (fun n hn' => by have := hcap n hn'; simp [htl]; omega)
    simpa [htl] using this
  have e6 := C.openF _ h2 (torn (sealB k bs) a ch 4) t2 is2 (fun b' o l c' s e => by cases e; rw [b2.nx]; exact bhi) (torn_lt hs 4) htl (torn_law hl' hk hb ha ha4 hc hz)
  obtain ⟨h3, e7, _⟩ := C.works h2 t2 h02
  refine ⟨h3, ?_⟩
  simp only [bV] at e1 e6
  unfold sh6
  simp only [bV, unc_cons, castI_int, nilk'_nil, e1, backk_ret, tupk_tup, ieq_nat, decide_true, Bool.not_false, Bool.not_true, ifk_false, pickv_false, castB_bool, ifk_true, intk_int, show Nat.beq (kno .u32) 6 = true from rfl, decide_eq_false hz,
    lenk_slice, e3, e4, nork_normal]
  rw [e5]
  simp only [contk_done, unc_cons, nilk'_nil, nork_normal, e6, backk_ret, tupk_tup, castI_int, ieq_nat, decide_true, ifk_true, intk_int, show Nat.beq (kno .u8) 4 = true from rfl, pickv_true, castB_bool, lenk_nils, show Nat.beq (kno .i64) 3 = true from rfl, e7,
    show ieq (.ofNat 0) (.ofNat 0) = true from rfl]
end Go.Ev.W02
