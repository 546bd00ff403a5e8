/- PAGE: Seal. -/
import Derived.Test.YtbdohcmaighhkaaDoorPgC
namespace Go.Ev.W02
open Go.Proofs

def spliceN (l : List Nat) (o : Nat) (m : List Nat) : List Nat := l.take o ++ m ++ l.drop (o + m.length)
theorem splice_map (l : List Nat) (o : Nat) (m : List Nat) : splice (l.map bV) o (m.map bV) = (spliceN l o m).map bV := by
  simp [splice, spliceN, List.map_take, List.map_drop]

/-- what the callees answer -/
structure Callees (cf : CF) : Prop where
  sum : ∀ v h (bs : List Nat), Tab h → IsS h v (bs.map bV) → (∀ x ∈ bs, x < 256) → bs.length ≤ 4096 → cf ⟨.d0, .d0, .d0, .dd⟩ [v] h = .ret (.int .u32 (.ofNat (crc bs))) h
  refsum : ∀ v h (bs : List Nat), IsS h v (bs.map bV) → (∀ x ∈ bs, x < 256) → bs.length ≤ 4096 → cf ⟨.d0, .d0, .d0, .de⟩ [v] h = .ret (.int .u32 (.ofNat (crc bs))) h
  clone : ∀ v h l, IsS h v l → Low v h.nx.val → l.length ≤ 4096 → ∃ h' v', cf ⟨.d0, .d0, .d1, .d0⟩ [v] h = .ret v' h' ∧ Own h' h.nx.val v' l ∧ Up h h'

theorem Tab.up {h h' : Heap} (t : Tab h) (h0 : 0 < h.nx.val) (u : Up h h') : Tab h' := by
  unfold Tab at *
  rw [u.get (gid 0) h0]; exact t
theorem Tab.upTo {n : Nat} {h h' : Heap} (t : Tab h) (h0 : 0 < n) (u : UpTo n h h') : Tab h' := by
  unfold Tab at *
  rw [u.get (gid 0) h0]; exact t

def headN (k : Nat) (bs : List Nat) : List Nat := ((((List.replicate 512 0).set 4 (bs.length % 256)).set 5 (bs.length / 256 % 256)).set 6 k).set 7 157
theorem head_law (k : Nat) (bs : List Nat) : spliceN (headN k bs) 8 bs = [0, 0, 0, 0] ++ body k bs := by
  have e : headN k bs = [0, 0, 0, 0, bs.length % 256, bs.length / 256 % 256, k, 157] ++ List.replicate 504 0 := by
    rw [headN, show (512 : Nat) = 8 + 504 from rfl, ← List.replicate_append_replicate]; rfl
  unfold spliceN
  rw [e, List.take_append_of_le_length (by simp only [List.length_cons, List.length_nil]; omega), List.drop_append]
  have e1 : List.drop (8 + bs.length) [0, 0, 0, 0, bs.length % 256, bs.length / 256 % 256, k, 157] = [] := List.drop_of_length_le (by simp only [List.length_cons, List.length_nil]; omega)
  rw [e1, List.nil_append, List.drop_replicate]
  simp only [body, List.length_cons, List.length_nil, List.take]
  rw [show 504 - (8 + bs.length - (0 + 1 + 1 + 1 + 1 + 1 + 1 + 1 + 1)) = 504 - bs.length by omega]
  simp only [List.cons_append, List.nil_append]
theorem le4_get (n i : Nat) (hi : i < 4) : (le4 n)[i]? = some (n / 2 ^ (8 * i) % 256) := by
  rcases (by omega : i = 0 ∨ i = 1 ∨ i = 2 ∨ i = 3) with rfl | rfl | rfl | rfl <;> simp [le4]

theorem seal_law {n : Nat} {cf : CF} (C : Callees cf) {h : Heap} {v : V} {k : Nat} {bs : List Nat} (t : Tab h) (h0 : 0 < h.nx.val) (w : IsS h v (bs.map bV)) (lo : Low v h.nx.val) (hk : k < 256)
    (hb : ∀ x ∈ bs, x < 256) (hn : 4 < n) :
    (504 < bs.length → sh8 words n cf [bV k, v] h = .ret (.tup [.nils, .int .i64 (.ofNat 2)]) h) ∧
    (bs.length ≤ 504 → ∃ h' v', sh8 words n cf [bV k, v] h = .ret (.tup [v', .int .i64 (.ofNat 0)]) h' ∧ Own h' h.nx.val v' ((sealB k bs).map bV) ∧ Up h h') := by
  constructor
  · intro hl
    unfold sh8
    simp only [bV, unc_cons, castI_int, nilk'_nil, w.len, List.length_map, ilt_nat, decide_eq_true hl, ifk_true]
  · intro hl
    -- the array and the stores
    obtain ⟨h1, e1, r1, n1⟩ := newk_law h (.arr 1 512 (repT [bV 0] 512 512) false)
    have c1 : Row (h1.t.get h.nx) 1 ((List.replicate 512 0).map bV) := by
      rw [r1]
      refine row_ext (Row.rep [bV 0] (by simp) 512) ?_
      rw [List.map_replicate]
      generalize 512 = m
      induction m with
      | zero => rfl
      | succ m ih => rw [List.replicate_succ, List.flatten_cons, ih, List.replicate_succ]; rfl
    obtain ⟨h2, e2, r2, b2⟩ := store1_law c1 (o := 4) (by simp only [List.length_map, List.length_replicate]; omega) (bV (bs.length % 256))
    rw [map_set] at r2
    obtain ⟨h3, e3, r3, b3⟩ := store1_law r2 (o := 5) (by simp only [List.length_map, List.length_set, List.length_replicate]; omega) (bV (bs.length / 256 % 256))
    rw [map_set] at r3
    obtain ⟨h4, e4, r4, b4⟩ := store1_law r3 (o := 6) (by simp only [List.length_map, List.length_set, List.length_replicate]; omega) (bV k)
    rw [map_set] at r4
    obtain ⟨h5, e5, r5, b5⟩ := store1_law r4 (o := 7) (by simp only [List.length_map, List.length_set, List.length_replicate]; omega) (bV 157)
    rw [map_set] at r5
    have u5 : Up h h5 := ((n1.up.to (Nat.le_refl _)).trans ((b2.up (Nat.le_refl _)).trans ((b3.up (Nat.le_refl _)).trans ((b4.up (Nat.le_refl _)).trans (b5.up (Nat.le_refl _)))))).up
    obtain ⟨h6, e6, r6, b6⟩ := copy_law (w.upto lo u5) r5 (o := 8) (l := 504) (c := some 504) (by simp only [List.length_map, List.length_set, List.length_replicate]; omega) (by simpa using hl)
    rw [show (((((List.replicate 512 0).set 4 (bs.length % 256)).set 5 (bs.length / 256 % 256)).set 6 k).set 7 157) = headN k bs from rfl, splice_map, head_law] at r6
    have u6 : Up h h6 := ((u5.to (Nat.le_refl _)).trans (b6.up (Nat.le_refl _))).up
    have nx6 : h.nx.val < h6.nx.val := by rw [b6.nx, b5.nx, b4.nx, b3.nx, b2.nx]; exact n1.lt
    have hbl := body_length (k := k) hl
    have s6 : IsS h6 (.slice h.nx 4 508 (some 508) 1) ((body k bs).map bV) := by
      have := IsS.sl h.nx 4 (some 508) false _ ((body k bs).map bV) r6 (by simp [hbl]) (by simp [hbl]; exact List.take_of_length_le (by simp [hbl])) (fun n e => by cases e; simp [hbl])
      simpa [hbl] using this
    have sum6 := C.sum _ h6 (body k bs) (t.up h0 u6) s6 (body_lt hk hb) (by omega)
    unfold sh8
    simp only [bV, unc_cons, castI_int, nilk'_nil, w.len, List.length_map, ilt_nat, decide_eq_false (show ¬ 504 < bs.length by omega), ifk_false, wrapv_u8, shrv_nat]
    simp only [bV] at e1 e2 e3 e4 e5
    rw [show words.new = Heap.newk from rfl, e1, e2, e3, e4, e5]
    have sl8 : ∀ (k : V → Heap → Res), words.sliceA 512 1 (.ptr h.nx 0) (some (.int .i64 (.ofNat 8))) none h5 k = k (.slice h.nx 8 504 (some 504) 1) h5 := fun k => rfl
    have sl4 : ∀ (k : V → Heap → Res), words.sliceA 512 1 (.ptr h.nx 0) (some (.int .i64 (.ofNat 4))) none h6 k = k (.slice h.nx 4 508 (some 508) 1) h6 := fun k => rfl
    rw [sl8, e6]
    simp only [castI_int]
    rw [sl4, sum6]
    simp only [backk_ret, castI_int]
    have hcr := crc_lt (bs := body k bs)
    generalize hq : crc (body k bs) = q at hcr
    -- the loop
    have fin : ∀ h7, Row (h7.t.get h.nx) 1 ((sealB k bs).map bV) → UpTo h.nx.val h h7 → h.nx.val < h7.nx.val → ∃ h' v', words.sliceA 512 1 (.ptr h.nx 0) none none h7 (fun v89 h91 => backk (cf ⟨.d0, .d0, .d1, .d0⟩ [v89] h91)
        (fun v93 h95 => .ret (.tup [v93, .int .i64 (.ofNat 0)]) h95) fun v97 h99 => .pan v97 h99) = .ret (.tup [v', .int .i64 (.ofNat 0)]) h' ∧ Own h' h.nx.val v' ((sealB k bs).map bV) ∧ Up h h' := by
      intro h7 r7 u7 n7
      have s7 : IsS h7 (.slice h.nx 0 512 (some 512) 1) ((sealB k bs).map bV) := by
        have := IsS.sl h.nx 0 (some 512) false _ ((sealB k bs).map bV) r7 (by simp) (by simp only [List.drop_zero, List.take_length]) (fun n e => by cases e; simp [sealB_length hl])
        simpa [sealB_length hl] using this
      obtain ⟨h8, v', g1, g2, g3⟩ := C.clone _ h7 _ s7 (fun b o l c s e => by cases e; exact n7) (by simp [sealB_length hl])
      refine ⟨h8, v', ?_, g2.mono (by omega), (u7.trans (g3.to (by omega))).up⟩
      show backk (cf ⟨.d0, .d0, .d1, .d0⟩ [.slice h.nx 0 512 (some 512) 1] h7) _ _ = _
      rw [g1]
      rfl
    have loop : ∃ h7, (lpk (fun (l47 : List V → Heap → Res) l49 h51 => unc l49 (fun v53 l55 => unc l55 (fun v57 l59 => castF .u32 v57 (fun i61 => unc l59 (fun v63 l65 => castF .i64 v63 (fun i67 => nilk' l65 (ifk (ilt i67 (.ofNat 4))
        (natk (wrapv .i64 (Int.mul (.ofNat 8) i67)) (fun n69 => ptrk v53 (fun p71 n73 => natk i67 (fun n75 => ifk (Nat.blt n75 512) (words.store h51 p71 (Nat.add n73 n75) 1 [.int .u8 (wrapv .u8 (shrv i61 (Nat.pow 2 (Nat.min n69 32))))]
        (fun h77 => l47 [v53, .int .u32 i61, .int .i64 (wrapv .i64 (Int.add i67 (.ofNat 1)))] h77)) .fail)))) (.done .normal [v53] h51)))))))) n [.ptr h.nx 0, .int .u32 (.ofNat q), .int .i64 (.ofNat 0)] h6) = .done .normal [.ptr h.nx 0] h7 ∧
        Row (h7.t.get h.nx) 1 ((le4 q ++ body k bs).map bV) ∧ UpTo h.nx.val h6 h7 ∧ h7.nx = h6.nx := by
      refine lpk_inv (I := fun vs h'' m => ∃ i, i ≤ 4 ∧ m = 4 - i ∧ vs = [.ptr h.nx 0, .int .u32 (.ofNat q), .int .i64 (.ofNat i)] ∧ Row (h''.t.get h.nx) 1 (((le4 q).take i ++ (List.replicate (4 - i) 0) ++ body k bs).map bV) ∧ UpTo h.nx.val h6 h'' ∧ h''.nx = h6.nx)
        (Q := fun r => ∃ h7, r = .done .normal [.ptr h.nx 0] h7 ∧ Row (h7.t.get h.nx) 1 ((le4 q ++ body k bs).map bV) ∧ UpTo h.nx.val h6 h7 ∧ h7.nx = h6.nx) ?_ n _ _ 4 hn ⟨0, by omega, rfl, rfl, row_ext r6 rfl, .refl _ _, rfl⟩
      rintro again vs h'' m ⟨i, hi, rfl, rfl, ri, ui, nxi⟩ ih
      simp only [unc_cons, castF_int, nilk'_nil, ilt_nat]
      by_cases hi4 : i < 4
      · rw [decide_eq_true hi4, ifk_true, mul_nat, wrapv_small .i64 _ (show 8 * i ≤ 9223372036854775807 by omega), natk_ofNat, ptrk_ptr, natk_ofNat, blt_of (by omega), ifk_true, shrv_nat, wrapv_u8, add_nat,
          wrapv_small .i64 _ (show i + 1 ≤ 9223372036854775807 by omega)]
        obtain ⟨h8, e8, r8, b8⟩ := store1_law ri (o := i) (by simp [le4, hbl]; omega) (bV (q / 2 ^ (8 * i) % 256))
        have e0 : Nat.min (8 * i) 32 = 8 * i := Nat.min_eq_left (by omega)
        rw [show Nat.add 0 i = i from Nat.zero_add i, e0]
        refine (e8 _).symm ▸ ih _ _ (4 - (i + 1)) (by omega) ⟨i + 1, hi4, rfl, rfl, ?_, ui.trans (b8.up (Nat.le_refl _)), by rw [b8.nx, nxi]⟩
        rw [map_set] at r8
        refine row_ext r8 (congrArg (List.map bV) ?_)
        have hlt : i < (le4 q).length := by simpa [le4] using hi4
        have hg : (le4 q)[i] = q / 2 ^ (8 * i) % 256 := by
          have := le4_get q i hi4
          rw [List.getElem?_eq_getElem hlt] at this
          exact Option.some.inj this
        rw [List.take_succ_eq_append_getElem hlt, hg, show 4 - i = (4 - (i + 1)) + 1 by omega, List.replicate_succ, List.append_assoc, List.set_append_right _ _ (by simp [le4]; omega)]
        have : i - (List.take i (le4 q)).length = 0 := by simp [le4]; omega
        rw [this]
        simp
      · have : i = 4 := by omega
        subst this
        rw [decide_eq_false hi4, ifk_false]
        exact ⟨h'', rfl, row_ext ri (by simp [le4]), ui, nxi⟩
    obtain ⟨h7, el, r7, u7, nx7⟩ := loop
    rw [el]
    simp only [contk_done, unc_cons, nilk'_nil, nork_normal]
    refine fin h7 (row_ext r7 (by rw [sealB, hq])) ((u6.to (Nat.le_refl _)).trans u7) (by rw [nx7]; exact nx6)
end Go.Ev.W02
