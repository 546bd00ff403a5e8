/- PAGE: the document's Seal. -/
import Derived.Test.YtbdohcmaighhkaaDoorPgD
namespace Go.Ev.W02
open Go.Proofs

/-- a slice literal -/
theorem build_own (l : List V) (h : Heap) : ∃ h', (∀ k, words.row 1 l.length l (fun t => words.new h (.arr 1 l.length t false) k) = k h.nx h') ∧ Own h' h.nx.val (.slice h.nx 0 l.length (some l.length) 1) l ∧ New h h' := by
  obtain ⟨t, h1, h2⟩ := rowk_law (g := 1) (n := l.length) (by omega) (l := l) (by omega)
  obtain ⟨h3, h4, h5, h6⟩ := newk_law h (.arr 1 l.length t false)
  refine ⟨h3, fun k => ?_, .sl h.nx (some l.length) l (Nat.le_refl _) h6.lt (by rw [h5]; exact h2) (fun n e => by cases e; rfl), h6⟩
  show rowk 1 l.length l (fun t => Heap.newk h (.arr 1 l.length t false) k) = _
  rw [h1, h4]
theorem sub_nat {a b : Nat} (h : b ≤ a) : Int.sub (.ofNat a) (.ofNat b) = .ofNat (a - b) := by
  show (a : Int) - (b : Int) = ((a - b : Nat) : Int)
  omega
theorem tmod_nat (a b : Nat) : Int.tmod (.ofNat a) (.ofNat b) = .ofNat (a % b) := rfl
theorem tdiv_nat (a b : Nat) : Int.tdiv (.ofNat a) (.ofNat b) = .ofNat (a / b) := rfl

theorem refseal_law {n : Nat} {cf : CF} (C : Callees cf) {h : Heap} {v : V} {k : Nat} {bs : List Nat} (w : IsS h v (bs.map bV)) (lo : Low v h.nx.val) (hk : k < 256)
    (hb : ∀ x ∈ bs, x < 256) (hn : 4 < n) :
    (504 < bs.length → sh9 words n cf [bV k, v] h = .ret (.tup [.nils, .int .i64 (.ofNat 2)]) h) ∧
    (bs.length ≤ 504 → ∃ h' v', sh9 words n cf [bV k, v] h = .ret (.tup [v', .int .i64 (.ofNat 0)]) h' ∧ Own h' h.nx.val v' ((sealB k bs).map bV) ∧ Up h h') := by
  constructor
  · intro hl
    unfold sh9
    simp only [bV, unc_cons, castI_int, nilk'_nil, w.len, List.length_map, ilt_nat, decide_eq_true hl, ifk_true]
  · intro hl
    obtain ⟨h1, e1, o1, n1⟩ := build_own ([bs.length % 256, bs.length / 256 % 256, k, 157].map bV) h
    obtain ⟨h2, v2, e2, o2, u2⟩ := app_own o1 (w.upto lo n1.up) n1.up.nx (by simp; omega)
    have l2 : ([bs.length % 256, bs.length / 256 % 256, k, 157].map bV ++ bs.map bV).length = 4 + bs.length := by simp; omega
    obtain ⟨h3, v3, e3, o3, u3⟩ := appZ_own (z := bV 0) (n := 504 - bs.length) (kd := .i64) o2 (Nat.le_trans n1.up.nx u2.nx) (by rw [l2]; omega)
    have u03 : Up h h3 := ((n1.up.to (Nat.le_refl _)).trans (u2.trans u3)).up
    have c3 : ([bs.length % 256, bs.length / 256 % 256, k, 157].map bV ++ bs.map bV) ++ List.replicate (504 - bs.length) (bV 0) = (body k bs).map bV := by
      simp [body]
    rw [c3] at o3
    have hbl := body_length (k := k) hl
    have sum3 := C.refsum v3 h3 (body k bs) o3.isS (body_lt hk hb) (by omega)
    unfold sh9
    simp only [bV, unc_cons, castI_int, nilk'_nil, w.len, List.length_map, ilt_nat, decide_eq_false (show ¬ 504 < bs.length by omega), ifk_false, tmod_nat, tdiv_nat, wrapv_u8,
      wrapv_small .i64 (bs.length / 256) (show _ ≤ 9223372036854775807 by omega)]
    simp only [bV, List.map_cons, List.map_nil, List.length_cons, List.length_nil] at e1 o1 e2 e3
    rw [Nat.mod_mod, e1, e2]
    rw [o2.isS.len, l2, sub_nat (by omega), wrapv_small .i64 _ (show _ ≤ 9223372036854775807 by omega), show 508 - (4 + bs.length) = 504 - bs.length by omega, e3, sum3]
    simp only [backk_ret, castI_int]
    have hcr := crc_lt (bs := body k bs)
    generalize hq : crc (body k bs) = q at hcr
    have loop : ∃ h7 v7, (lpk (fun (l42 : List V → Heap → Res) l44 h46 => unc l44 (fun v48 l50 => unc l50 (fun v52 l54 => castF .u32 v52 (fun i56 => unc l54 (fun v58 l60 => unc l60 (fun v62 l64 => castF .i64 v62 (fun i66 => nilk' l64 (ifk (ilt i66 (.ofNat 4))
        (natk (wrapv .i64 (Int.mul (.ofNat 8) i66)) (fun n68 => words.row 1 1 [.int .u8 (wrapv .u8 (shrv i56 (Nat.pow 2 (Nat.min n68 32))))] (fun l70 => words.new h46 (.arr 1 1 l70 .false) (fun p72 h74 =>
          words.app 1 v58 (.slice p72 0 1 (.some 1) 1) h74 (fun v76 h78 => l42 [v48, .int .u32 i56, v76, .int .i64 (wrapv .i64 (Int.add i66 (.ofNat 1)))] h78))))) (.done .normal [v48, v58] h46))))))))) n
        [v3, .int .u32 (.ofNat q), .nils, .int .i64 (.ofNat 0)] h3) = .done .normal [v3, v7] h7 ∧ Own h7 h3.nx.val v7 ((le4 q).map bV) ∧ UpTo h3.nx.val h3 h7 := by
      refine lpk_inv (I := fun vs h'' m => ∃ i v'', i ≤ 4 ∧ m = 4 - i ∧ vs = [v3, .int .u32 (.ofNat q), v'', .int .i64 (.ofNat i)] ∧ Own h'' h3.nx.val v'' (((le4 q).take i).map bV) ∧ UpTo h3.nx.val h3 h'')
        (Q := fun r => ∃ h7 v7, r = .done .normal [v3, v7] h7 ∧ Own h7 h3.nx.val v7 ((le4 q).map bV) ∧ UpTo h3.nx.val h3 h7) ?_ n _ _ 4 hn ⟨0, .nils, by omega, rfl, rfl, .nils, .refl _ _⟩
      rintro again vs h'' m ⟨i, v'', hi, rfl, rfl, oi, ui⟩ ih
      simp only [unc_cons, castF_int, nilk'_nil, ilt_nat]
      by_cases hi4 : i < 4
      · rw [decide_eq_true hi4, ifk_true, mul_nat, wrapv_small .i64 _ (show 8 * i ≤ 9223372036854775807 by omega), natk_ofNat, shrv_nat, wrapv_u8, add_nat, wrapv_small .i64 _ (show i + 1 ≤ 9223372036854775807 by omega)]
        have e0 : Nat.min (8 * i) 32 = 8 * i := Nat.min_eq_left (by omega)
        rw [e0]
        obtain ⟨h8, e8, o8, n8⟩ := build_own [bV (q / 2 ^ (8 * i) % 256)] h''
        obtain ⟨h9, v9, e9, o9, u9⟩ := app_own (oi.up n8.up) o8.isS (Nat.le_trans ui.nx n8.up.nx) (by simp [le4]; omega)
        simp only [bV, List.length_cons, List.length_nil] at e8 e9
        have step := ih [v3, .int .u32 (.ofNat q), v9, .int .i64 (.ofNat (i + 1))] h9 (4 - (i + 1)) (by omega) ⟨i + 1, v9, hi4, rfl, rfl, ?_, ui.trans ((n8.up.to ui.nx).trans u9)⟩
        · have e10 := (e8 (fun p72 h74 => words.app 1 v'' (.slice p72 0 1 (.some 1) 1) h74 (fun v76 h78 => again [v3, .int .u32 (.ofNat q), v76, .int .i64 (.ofNat (i + 1))] h78))).trans (e9 _)
          exact e10.symm ▸ step
        · have hlt : i < (le4 q).length := by simpa [le4] using hi4
          have hg : (le4 q)[i] = q / 2 ^ (8 * i) % 256 := by
            have := le4_get q i hi4
            rw [List.getElem?_eq_getElem hlt] at this
            exact Option.some.inj this
          rw [List.take_succ_eq_append_getElem hlt, hg, List.map_append]
          exact o9
      · have : i = 4 := by omega
        subst this
        rw [decide_eq_false hi4, ifk_false]
        exact ⟨h'', v'', rfl, by simpa [le4] using oi, ui⟩
    obtain ⟨h7, v7, el, o7, u7⟩ := loop
    rw [el]
    simp only [contk_done, unc_cons, nilk'_nil, nork_normal]
    obtain ⟨h8, v8, e8, o8, u8⟩ := app_own o7 (o3.isS.upTo o3.low u7) u7.nx (by simp [le4, hbl])
    rw [e8]
    refine ⟨h8, v8, rfl, ?_, ((u03.to (Nat.le_refl _)).trans ((u7.trans u8).mono u03.nx)).up⟩
    have : (sealB k bs).map bV = (le4 q).map bV ++ (body k bs).map bV := by rw [sealB, hq, List.map_append]
    rw [this]
    exact o8.mono u03.nx
end Go.Ev.W02
