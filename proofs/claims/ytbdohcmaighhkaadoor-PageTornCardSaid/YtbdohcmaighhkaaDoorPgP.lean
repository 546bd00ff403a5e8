/- PAGE: the law PageTorn. -/
import Derived.Test.YtbdohcmaighhkaaDoorPgO
import Derived.Test.YtbdohcmaighhkaaDoorPg2
namespace Go.Ev.W02
open Go.Proofs

theorem _root_.Go.Ev.Own.capN {h : Heap} {lo : Nat} {b : Bid} {o m s : Nat} {c : Option Nat} {l : List V} (w : Own h lo (.slice b o m c s) l) : ∀ n, c = some n → n = l.length := by
  cases w; assumption
theorem pick_law {n : Nat} {cf : CF} {h : Heap} (i : Int) : ∃ a, a < 509 ∧ sh15 words n cf [.int .i64 i, .int .i64 (.ofNat 509)] h = .ret (.int .i64 (.ofNat a)) h := by
  have hab : (Int.tmod i (.ofNat 509)).natAbs < 509 := by
    rw [Int.natAbs_tmod]; exact Nat.mod_lt _ (by decide)
  unfold sh15
  simp only [unc_cons, castI_int, nilk'_nil, ilt_nat, ieq_nat, show decide (509 < 1) = false from rfl, show decide (509 = 0) = false from rfl, ifk_false]
  by_cases h0 : Int.tmod i (.ofNat 509) < 0
  · have e : ilt (Int.tmod i (.ofNat 509)) (.ofNat 0) = true := by rw [ilt_eq]; simpa using h0
    have e2 : Int.add (Int.tmod i (.ofNat 509)) (.ofNat 509) = .ofNat (509 - (Int.tmod i (.ofNat 509)).natAbs) := by
      show Int.tmod i (.ofNat 509) + (.ofNat 509) = _
      simp only [Int.ofNat_eq_natCast] at h0 hab ⊢
      omega
    refine ⟨509 - (Int.tmod i (.ofNat 509)).natAbs, by simp only [Int.ofNat_eq_natCast] at h0 hab ⊢; omega, ?_⟩
    rw [e, ifk_true, e2, wrapv_small .i64 _ (show _ ≤ 9223372036854775807 by omega)]
  · have e : ilt (Int.tmod i (.ofNat 509)) (.ofNat 0) = false := by rw [ilt_eq]; simpa using h0
    refine ⟨(Int.tmod i (.ofNat 509)).natAbs, hab, ?_⟩
    rw [e, ifk_false]
    congr 2
    simp only [Int.ofNat_eq_natCast] at h0 ⊢
    omega
theorem pick_c (d : Nat) (i : Int) (h : Heap) : ∃ a, a < 509 ∧ call tab N (d + 1) ⟨.d0, .d0, .d0, .df⟩ [.int .i64 i, .int .i64 (.ofNat 509)] h = .ret (.int .i64 (.ofNat a)) h := by
  rw [call15]; exact pick_law i

/-- the loop that changes four bytes -/
theorem tear_law {n : Nat} (hn : 4 < n) {h : Heap} {b : Bid} {c : Option Nat} {p : List Nat} {a ch : Nat} (row : Row (h.t.get b) 1 (p.map bV)) (hp : ∀ x ∈ p, x < 256) (hl : p.length = 512) (ha : a ≤ 508)
    {body : (List V → Heap → Res) → List V → Heap → Res}
    (hs : ∀ again i (h' : Heap) (q : List Nat), i < 4 → Row (h'.t.get b) 1 (q.map bV) → q.length = 512 → (∀ x ∈ q, x < 256) → body again [.int .i64 (.ofNat a), .int .u32 (.ofNat ch), .slice b 0 512 c 1, .int .i64 (.ofNat i)] h' =
      words.store h' b (Nat.add 0 (a + i)) 1 [bV (q.getD (a + i) 0 ^^^ byteOf ch i)] fun h' => again [.int .i64 (.ofNat a), .int .u32 (.ofNat ch), .slice b 0 512 c 1, .int .i64 (.ofNat (i + 1))] h')
    (he : ∀ again (h' : Heap), body again [.int .i64 (.ofNat a), .int .u32 (.ofNat ch), .slice b 0 512 c 1, .int .i64 (.ofNat 4)] h' = .done .normal [.slice b 0 512 c 1] h') :
    ∃ h', lpk body n [.int .i64 (.ofNat a), .int .u32 (.ofNat ch), .slice b 0 512 c 1, .int .i64 (.ofNat 0)] h = .done .normal [.slice b 0 512 c 1] h' ∧ But h b h' ∧ Row (h'.t.get b) 1 ((torn p a ch 4).map bV) := by
  refine lpk_inv (I := fun w h'' m => ∃ i, i ≤ 4 ∧ m = 4 - i ∧ w = [.int .i64 (.ofNat a), .int .u32 (.ofNat ch), .slice b 0 512 c 1, .int .i64 (.ofNat i)] ∧ Row (h''.t.get b) 1 ((torn p a ch i).map bV) ∧ But h b h'')
    (Q := fun r => ∃ h', r = .done .normal [.slice b 0 512 c 1] h' ∧ But h b h' ∧ Row (h'.t.get b) 1 ((torn p a ch 4).map bV)) ?_ n _ _ 4 hn ⟨0, by omega, by omega, rfl, row, ⟨rfl, fun _ _ => rfl⟩⟩
  rintro again w h'' m ⟨i, hi, rfl, rfl, ri, bi⟩ ih
  have hti : (torn p a ch i).length = 512 := by rw [torn_length, hl]
  by_cases h4 : i < 4
  · rw [hs _ _ _ _ h4 ri hti (torn_lt hp i), show Nat.add 0 (a + i) = a + i from Nat.zero_add _]
    obtain ⟨h8, e8, r8, b8⟩ := store1_law ri (o := a + i) (by simp [hti]; omega) (bV ((torn p a ch i).getD (a + i) 0 ^^^ byteOf ch i))
    rw [e8]
    exact ih _ _ (4 - (i + 1)) (by omega) ⟨i + 1, by omega, rfl, rfl, by rw [map_set] at r8; exact r8, ⟨b8.nx.trans bi.nx, fun b' hb' => (b8.get b' hb').trans (bi.get b' hb')⟩⟩
  · obtain rfl : i = 4 := by omega
    rw [he]
    exact ⟨h'', rfl, bi, ri⟩
theorem load_at {h : Heap} {b : Bid} {q : List Nat} (row : Row (h.t.get b) 1 (q.map bV)) {i : Nat} (hi : i < q.length) (k : V → Res) : words.load1 h b (Nat.add 0 i) k = k (bV (q.getD i 0)) := by
  show load1k h b (Nat.add 0 i) k = _
  rw [show Nat.add 0 i = i from Nat.zero_add i]
  exact load1k_law row (by rw [List.getElem?_map, List.getElem?_eq_getElem hi, List.getD_eq_getElem?_getD, List.getElem?_eq_getElem hi]; rfl) k
theorem shr_byte (ch i : Nat) (hi : i < 4) : ch / Nat.pow 2 (Nat.min (8 * i) 32) % 256 = byteOf ch i := by
  unfold byteOf
  have : i = 0 ∨ i = 1 ∨ i = 2 ∨ i = 3 := by omega
  rcases this with rfl | rfl | rfl | rfl <;> rfl

theorem pageTorn_law {n : Nat} {cf : CF} (C : CallQ cf) (hpick : ∀ (i : Int) h, ∃ a, a < 509 ∧ cf ⟨.d0, .d0, .d0, .df⟩ [.int .i64 i, .int .i64 (.ofNat 509)] h = .ret (.int .i64 (.ofNat a)) h) (hn : 4 < n) {h : Heap} {v : V} {k ch : Nat} {at_ : Int} {bs : List Nat} (t : Tab h) (h0 : 0 < h.nx.val)
    (w : IsS h v (bs.map bV)) (lo : Low v h.nx.val) (hk : k < 256) (hc : ch < 2 ^ 32) (hb : ∀ x ∈ bs, x < 256) : ∃ h', sh6 words n cf [bV k, v, .int .i64 at_, .int .u32 (.ofNat ch)] h = .ret (.bool true) h' := by
  by_cases hl : 504 < bs.length
  · have e1 := C.big v h k bs t h0 w lo hk hb hl
    obtain ⟨h1, e2, _⟩ := C.works h t h0
    refine ⟨h1, ?_⟩
    simp only [bV] at e1
    unfold sh6
    simp only [bV, unc_cons, castI_int, nilk'_nil, e1, backk_ret, tupk_tup, ieq_nat, show decide (2 = 0) = false from rfl, Bool.not_false, Bool.not_true, ifk_false, pickv_true, castB_bool, ifk_true, e2]
  have hl' : bs.length ≤ 504 := by omega
  obtain ⟨h1, p, e1, op, u1⟩ := C.shut v h k bs t h0 w lo hk hb hl'
  have t1 := t.up h0 u1
  have h01 : 0 < h1.nx.val := Nat.lt_of_lt_of_le h0 u1.nx
  by_cases hz : ch = 0
  · obtain ⟨h2, e2, _⟩ := C.works h1 t1 h01
    refine ⟨h2, ?_⟩
    simp only [bV] at e1
    unfold sh6
    simp only [bV, unc_cons, castI_int, nilk'_nil, e1, backk_ret, tupk_tup, ieq_nat, decide_true, Bool.not_false, Bool.not_true, pickv_false, castB_bool, ifk_true, intk_int, show Nat.beq (kno .u32) 6 = true from rfl, decide_eq_true hz, e2]
  have hs := sealB_lt (bs := bs) hk hb
  have hsl : (sealB k bs).length = 512 := sealB_length hl'
  obtain ⟨b, c, rfl, blo, bhi, row⟩ := Own.cons op (by intro e; have := congrArg List.length e; simp [hsl] at this)
  simp only [List.length_map, hsl] at e1 row
  obtain ⟨a0, ha0, e3⟩ := hpick at_ h1
  obtain ⟨a, ha, ha4, e4⟩ : ∃ a, a ≤ 508 ∧ (a = 0 ∨ 4 ≤ a) ∧ ∀ (K : Ex → List V → Heap → Res) x y, contk (ifk (ilt (.ofNat a0) (.ofNat 4)) (.done .normal [.int .i64 (.ofNat 0), x, y] h1) (.done .normal [.int .i64 (.ofNat a0), x, y] h1)) K = K .normal [.int .i64 (.ofNat a), x, y] h1 := by
    by_cases h4 : a0 < 4
    · exact ⟨0, by omega, .inl rfl, fun K x y => by rw [ilt_nat, decide_eq_true h4]; rfl⟩
    · exact ⟨a0, by omega, .inr (by omega), fun K x y => by rw [ilt_nat, decide_eq_false h4]; rfl⟩
  obtain ⟨h2, e5, b2, r2⟩ := tear_law (n := n) (c := c) (ch := ch) hn row hs hsl ha
    (body := fun l92 l94 h96 => unc l94 (fun v98 l100 => castF .i64 v98 (fun i102 => unc l100 (fun v104 l106 => castF .u32 v104 (fun i108 => unc l106 (fun v110 l112 => unc l112 (fun v114 l116 => castF .i64 v114 (fun i118 => nilk' l116 (ifk (ilt i118 (.ofNat (nat_lit 4))) (backk (slk v110 (fun p120 n122 n124 _ _ => natk (wrapv .i64 (Int.add i102 i118)) (fun n128 => ifk (Nat.blt n128 n124) (.ret (.ptr p120 (Nat.add n122 n128)) h96) .fail)) .fail .fail) (fun v130 _ => backk (ptrk v130 (fun p133 n135 => words.load1 h96 p133 n135 (fun v137 => castI .u8 v137 (fun i139 => .ret (.int .u8 i139) h96)))) (fun v141 _ => castI .u8 v141 (fun i144 => backk (natk (wrapv .i64 (Int.mul (.ofNat (nat_lit 8)) i118)) (fun n146 => .ret (.int .u32 (shrv i108 (Nat.pow (nat_lit 2) (Nat.min n146 (nat_lit 32))))) h96)) (fun v148 _ => backk (intk v148 (fun _ i152 => .ret (.int .u8 (wrapv .u8 i152)) h96)) (fun v154 _ => castI .u8 v154 (fun i157 => backk (slk v110 (fun p159 n161 n163 _ _ => natk (wrapv .i64 (Int.add i102 i118)) (fun n167 => ifk (Nat.blt n167 n163) (.ret (.ptr p159 (Nat.add n161 n167)) h96) .fail)) .fail .fail) (fun v169 _ => ptrk v169 (fun p172 n174 => words.store h96 p172 n174 (nat_lit 1) [.int .u8 (bxor .u8 i144 i157)] (fun h176 => l92 [.int .i64 i102, .int .u32 i108, v110, .int .i64 (wrapv .i64 (Int.add i118 (.ofNat (nat_lit 1))))] h176))) (fun _ _ => .fail))) (fun _ _ => .fail)) (fun _ _ => .fail))) (fun _ _ => .fail)) (fun _ _ => .fail)) (.done .normal [v110] h96)))))))))) (by
      intro again i h' q hi rq hq hqb
      have i1 : i + 1 ≤ 9223372036854775807 := by omega
      have i2 : a + i ≤ 9223372036854775807 := by omega
      have i3 : 8 * i ≤ 9223372036854775807 := by omega
      have g1 : q.getD (a + i) 0 < 256 := by
        rw [List.getD_eq_getElem?_getD, List.getElem?_eq_getElem (by omega)]; exact hqb _ (List.getElem_mem _)
      have g2 := byteOf_lt ch i
      simp only [unc_cons, castF_int, nilk'_nil, ilt_nat, decide_eq_true hi, ifk_true, slk_slice, add_nat, mul_nat, wrapv_small .i64 _ i2, wrapv_small .i64 _ i1, wrapv_small .i64 _ i3, natk_ofNat, blt_of (show a + i < 512 by omega), backk_ret, ptrk_ptr,
        load_at rq (show a + i < q.length by omega), bV, castI_int, shrv_nat, intk_int, wrapv_u8, shr_byte ch i hi, bxor_small .u8 _ _ (show q.getD (a + i) 0 ≤ 255 by omega) (show byteOf ch i ≤ 255 by omega)]) (by
      intro again h'
      simp only [unc_cons, castF_int, nilk'_nil, ilt_nat, show decide (4 < 4) = false from rfl, ifk_false])
  have hg : gid 0 ≠ b := by
    rintro rfl
    have : (gid 0).val = 0 := by decide
    omega
  have t2 : Tab h2 := by
    unfold Tab
    rw [b2.get _ hg]; exact t1
  have h02 : 0 < h2.nx.val := by rw [b2.nx]; exact h01
  have htl : (torn (sealB k bs) a ch 4).length = 512 := by rw [torn_length, hsl]
  have is2 : IsS h2 (.slice b 0 512 c 1) ((torn (sealB k bs) a ch 4).map bV) := by
    have hcap : ∀ n, c = some n → n = 512 := fun n hn' => by have := op.capN n hn'; simpa [hsl] using this
    have := IsS.sl b 0 c false _ _ r2 (Nat.le_of_eq (Nat.zero_add _)) (by rw [List.drop_zero, List.take_length]) (fun n hn' => by have := hcap n hn'; simp [htl]; omega)
    simpa [htl] using this
  have e6 := C.openF _ h2 (torn (sealB k bs) a ch 4) t2 is2 (fun b' o l c' s e => by cases e; rw [b2.nx]; exact bhi) (torn_lt hs 4) htl (torn_law hl' hk hb ha ha4 hc hz)
  obtain ⟨h3, e7, _⟩ := C.works h2 t2 h02
  refine ⟨h3, ?_⟩
  simp only [bV] at e1 e6
  unfold sh6
  simp only [bV, unc_cons, castI_int, nilk'_nil, e1, backk_ret, tupk_tup, ieq_nat, decide_true, Bool.not_false, Bool.not_true, ifk_false, pickv_false, castB_bool, ifk_true, intk_int, show Nat.beq (kno .u32) 6 = true from rfl, decide_eq_false hz,
    lenk_slice, e3, e4, nork_normal]
  rw [e5]
  simp only [contk_done, unc_cons, nilk'_nil, nork_normal, e6, backk_ret, tupk_tup, castI_int, ieq_nat, decide_true, ifk_true, intk_int, show Nat.beq (kno .u8) 4 = true from rfl, pickv_true, castB_bool, lenk_nils, show Nat.beq (kno .i64) 3 = true from rfl, e7,
    show ieq (.ofNat 0) (.ofNat 0) = true from rfl]
end Go.Ev.W02
