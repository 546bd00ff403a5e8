/- PAGE: the law PageSeals. -/
import Derived.Test.YtbdohcmaighhkaaDoorPg2
namespace Go.Ev.W02
open Go.Proofs

theorem _root_.Go.Ev.Own.ge {h : Heap} {lo : Nat} {b : Bid} {o m s : Nat} {c : Option Nat} {l : List V} (w : Own h lo (.slice b o m c s) l) : lo ≤ b.val := by
  cases w; assumption
theorem bytesN {h : Heap} {v : V} {l : List Nat} {n : Nat} (w : IsS h v (l.map bV)) (hb : ∀ x ∈ l, x < 256) (hl : l.length = n) (k : V → Heap → Res) : words.bytesS v h k = k (.str n (packN l)) h := by
  rw [bytesS_law w hb, hl]
theorem seqN {l : List Nat} {n : Nat} (hb : ∀ x ∈ l, x < 256) (hl : l.length = n) : Go.Ev.seq n (packN l) n (packN l) = true := by
  have := seq_pack hb hb
  rw [hl] at this
  rw [this]; simp

theorem pageSeals_law {n : Nat} {cf : CF} (C : CallQ cf) (hn : 2000 < n) {h : Heap} {v : V} {k : Nat} {bs : List Nat} (t : Tab h) (h0 : 0 < h.nx.val) (w : IsS h v (bs.map bV)) (lo : Low v h.nx.val) (hk : k < 256) (hb : ∀ x ∈ bs, x < 256) :
    ∃ h', sh3 words n cf [bV k, v] h = .ret (.bool true) h' := by
  by_cases hlong : 2000 < bs.length
  · refine ⟨h, ?_⟩
    unfold sh3
    simp only [bV, unc_cons, castI_int, nilk'_nil, w.lenB, ilt_nat, decide_eq_true hlong, ifk_true]
  obtain ⟨h1, c, ec, oc, uc⟩ := app_own (Own.nils (h := h) (lo := h.nx.val)) w (Nat.le_refl _) (by simp; omega)
  simp only [List.nil_append] at oc
  have u1 := uc.up
  have t1 := t.up h0 u1
  have h01 : 0 < h1.nx.val := Nat.lt_of_lt_of_le h0 u1.nx
  by_cases hl : 504 < bs.length
  · have e1 := C.big c h1 k bs t1 h01 oc.isS oc.low hk hb hl
    have e2 := C.refbig v h1 k bs (w.upto lo u1) (lo.mono u1.nx) hk hb hl
    obtain ⟨h5, e5, _⟩ := C.works h1 t1 h01
    refine ⟨h5, ?_⟩
    have l0 : ∀ (body : (List V → Heap → Res) → List V → Heap → Res) (r : Res) vs, (∀ again, body again vs h1 = r) → lpk body n vs h1 = r := by
      intro body r vs hb
      obtain ⟨m, rfl⟩ : ∃ m, n = m + 1 := ⟨n - 1, by omega⟩
      rw [lpk_succ]; exact hb _
    have s0 : ∀ k : V → Heap → Res, words.bytesS .nils h1 k = k (.str 0 0) h1 := fun k => rfl
    simp only [bV] at e1 e2
    unfold sh3
    simp only [bV, unc_cons, castI_int, nilk'_nil, w.lenB, ilt_nat, decide_eq_false hlong, ifk_false, ec, e1, backk_ret, tupk_tup, e2, ieq_nat, decide_true, Bool.not_true, Bool.not_false, ifk_true, intk_int, show Nat.beq (kno .i64) (kno .i64) = true from rfl,
      pickv_false, castB_bool, s0, castS_str, strk_str, show Go.Ev.seq 0 0 0 0 = true from rfl, bytesS_law oc.isS hb, bytesS_law (w.upto lo u1) hb, seq_pack hb hb]
    rw [l0 _ (.done .normal [.nils, .nils] h1)]
    · simp only [contk_done, unc_cons, nilk'_nil, nork_normal, s0, castS_str, show Go.Ev.seq 0 0 0 0 = true from rfl, ifk_true, e5, backk_ret, castB_bool, pickv_true]
    · intro again
      simp only [unc_cons, castF_int, nilk'_nil, lenk_nils, show ilt (Int.ofNat 0) (Int.ofNat 0) = false from rfl, ifk_false]
  · have hl' : bs.length ≤ 504 := by omega
    obtain ⟨h2, x, e1, ox, u2⟩ := C.shut c h1 k bs t1 h01 oc.isS oc.low hk hb hl'
    have t2 := t1.up h01 u2
    have h02 : 0 < h2.nx.val := Nat.lt_of_lt_of_le h01 u2.nx
    obtain ⟨h3, y, e2, oy, u3⟩ := C.shut c h2 k bs t2 h02 (oc.up u2).isS (oc.up u2).low hk hb hl'
    have t3 := t2.up h02 u3
    have h03 : 0 < h3.nx.val := Nat.lt_of_lt_of_le h02 u3.nx
    have w3 : IsS h3 v (bs.map bV) := w.upto lo (u1.trans (u2.trans u3))
    obtain ⟨h4, z, e3, oz, u4⟩ := C.refshut v h3 k bs w3 (lo.mono (u1.trans (u2.trans u3)).nx) hk hb hl'
    have t4 := t3.up h03 u4
    have ox4 := ox.up (u3.trans u4)
    have oy4 := oy.up u4
    have oc4 := oc.up (u2.trans (u3.trans u4))
    have w4 : IsS h4 v (bs.map bV) := w.upto lo (u1.trans (u2.trans (u3.trans u4)))
    have hs := sealB_lt (bs := bs) hk hb
    have hsl : (sealB k bs).length = 512 := sealB_length hl'
    obtain ⟨bx, cx, rfl, xlo, xhi, rx⟩ := Own.cons ox4 (by intro e; have := congrArg List.length e; simp [hsl] at this)
    have xhi2 : bx.val < h2.nx.val := ox.low bx _ _ _ _ rfl
    simp only [List.length_map, hsl] at e1 e2 e3 rx
    obtain ⟨h5, e5, b5⟩ := spoil_law (n := n) (h := h4) rx (by simp [hsl]; omega) (A := [y, z]) (vs := fun i => [.slice bx 0 512 cx 1, y, z, .int .i64 (.ofNat i)])
      (body := fun l226 l h228 => unc l (fun v230 l232 => unc l232 (fun v234 l236 => unc l236 (fun v238 l240 => unc l240 (fun v242 l244 => castF .i64 v242 (fun i246 => nilk' l244 (lenk v230 (fun n248 => ifk (ilt i246 (.ofNat n248)) (slk v230 (fun p250 n252 n254 _ _ => natk i246 (fun n258 => ifk (Nat.blt n258 n254) (words.store h228 p250 (Nat.add n252 n258) (nat_lit 1) [.int .u8 (.ofNat (nat_lit 238))] (fun h260 => l226 [v230, v234, v238, .int .i64 (wrapv .i64 (Int.add i246 (.ofNat (nat_lit 1))))] h260)) .fail)) .fail .fail) (.done .normal [v234, v238] h228))))))))) (by
        intro again i h'
        by_cases hi : i < 512
        · simp only [unc_cons, castF_int, nilk'_nil, lenk_slice, slk_slice, natk_ofNat, List.length_map, hsl, add_nat, wrapv_small .i64 _ (show i + 1 ≤ 9223372036854775807 by omega)]
          rfl
        · simp only [unc_cons, castF_int, nilk'_nil, lenk_slice, List.length_map, hsl, ilt_nat, decide_eq_false hi, ifk_false])
    have yne : ∀ b' o m c' s, y = .slice b' o m c' s → b' ≠ bx := by
      rintro b' o m c' s rfl rfl
      have := oy.ge
      omega
    have zne : ∀ b' o m c' s, z = .slice b' o m c' s → b' ≠ bx := by
      rintro b' o m c' s rfl rfl
      have := oz.ge
      have := u3.nx
      omega
    have t5 : Tab h5 := by
      have hg : gid 0 ≠ bx := by
        rintro rfl
        have : (gid 0).val = 0 := by decide
        omega
      unfold Tab
      rw [b5.get _ hg]; exact t4
    have h05 : 0 < h5.nx.val := by rw [b5.nx]; exact Nat.lt_of_lt_of_le h03 u4.nx
    obtain ⟨h6, e6, _⟩ := C.works h5 t5 h05
    refine ⟨h6, ?_⟩
    have ix := ox4.isS
    simp only [List.length_map, hsl] at ix
    have sx := fun K => bytesN ix hs hsl K
    have sy4 := fun K => bytesN oy4.isS hs hsl K
    have sz4 := fun K => bytesN oz.isS hs hsl K
    have sy5 := fun K => bytesN (b5.isS oy4.isS yne) hs hsl K
    have sz5 := fun K => bytesN (b5.isS oz.isS zne) hs hsl K
    simp only [bV] at e1 e2 e3
    unfold sh3
    simp only [bV, unc_cons, castI_int, nilk'_nil, w.lenB, ilt_nat, decide_eq_false hlong, ifk_false, ec, e1, backk_ret, tupk_tup, e2, e3, ieq_nat, decide_true, Bool.not_true, Bool.not_false, ifk_true, intk_int, show Nat.beq (kno .i64) (kno .i64) = true from rfl,
      pickv_false, castB_bool, castS_str, strk_str, sx, sz4, sy4, seqN hs hsl, bytesS_law oc4.isS hb, bytesS_law w4 hb, seq_pack hb hb]
    rw [e5]
    simp only [contk_done, unc_cons, nilk'_nil, nork_normal, sy5, sz5, castS_str, seqN hs hsl, ifk_true, e6, backk_ret, castB_bool, pickv_true]
end Go.Ev.W02
