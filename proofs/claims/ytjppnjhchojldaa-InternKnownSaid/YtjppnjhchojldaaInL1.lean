/- InL1: texts joined. -/
import Derived.Test.YtjppnjhchojldaaInK1
import Derived.Test.YtjppnjhchojldaaInN
import Derived.Test.YtjppnjhchojldaaEvForget
/- INTERN: quick ways for functions that are called often: kind and same of the document's table. -/
namespace Go.Ev.W05
open Go.Proofs
set_option maxRecDepth 1000000

/-- a cell that is read -/
theorem load1k_det {h : Heap} {b : Bid} {o : Nat} {k : V → Res} {r : Res} (hh : load1k h b o k = r) (hr : r ≠ .fail) : ∃ v, k v = r ∧ ∀ q : V → Res, load1k h b o q = q v := by
  unfold load1k at hh
  rw [Heap.getk_eq] at hh
  obtain ⟨g, n, t, ro, e1, h1⟩ := arrk_ok hh hr
  obtain ⟨c, e2, h2⟩ := T.getk_ok h1 hr
  obtain ⟨v, e3, h3⟩ := nthk_ok h2 hr
  refine ⟨v, h3, fun q => ?_⟩
  unfold load1k
  rw [Heap.getk_eq, e1]
  show T.getk t (Nat.div o g) (fun ch => nthk ch (Nat.mod o g) q) = q v
  rw [T.getk_eq, e2]
  exact nthk_eq e3 q
theorem castI_det {kd : IntKind} {v : V} {k : Int → Res} {r : Res} (h : castI kd v k = r) (hr : r ≠ .fail) : ∃ n, v = .int kd n ∧ k n = r := by
  obtain ⟨k0, n, rfl, h1⟩ := intk_ok (show intk v (fun k0 n => ksel kd k0 (k n)) = r from h) hr
  obtain ⟨rfl, h2⟩ := ksel_ok h1 hr
  exact ⟨n, rfl, h2⟩

/- KIND -/
noncomputable def kindF (l : List V) (h : Heap) (z : Res) : Res :=
  unc l fun v l => unc l fun s l => nilk' l (castI .i64 s fun i => Int.rec (motive := fun _ => Res) (fun n => ptrk v fun b o => load1k h b o fun sl => slk sl (fun p so m _ _ =>
    ifk (Nat.blt n m) (load1k h p (Nat.add so (Nat.mul n 3)) fun x => castI .u8 x fun q => .ret (.int .u8 q) h) z) z z) (fun _ => z) i)
theorem kindF_ok {n : Nat} {cf : CF} {l : List V} {h : Heap} {z r : Res} (hh : kindF l h z = r) (hr : r ≠ .fail) : z = r ∨ ∃ v, r = .ret v h ∧ sh82 words n cf l h = .ret v h ∧ ∀ ρ, ∃ x, VR ρ v x := by
  obtain ⟨v, l1, rfl, h1⟩ := unc_ok hh hr
  obtain ⟨s, l2, rfl, h2⟩ := unc_ok h1 hr
  obtain ⟨rfl, h3⟩ := nilk'_ok h2 hr
  obtain ⟨i, rfl, h4⟩ := castI_det h3 hr
  cases i with
  | negSucc m => exact .inl h4
  | ofNat s =>
    obtain ⟨b, o, rfl, h5⟩ := ptrk_ok (show ptrk v _ = r from h4) hr
    obtain ⟨sl, h6, e1⟩ := load1k_det h5 hr
    rcases slk_ok h6 hr with ⟨p, so, m, c, ss, rfl, h7⟩ | ⟨_, h7⟩ | ⟨_, h7⟩
    · rcases ifk_ne h7 with ⟨hlt, h8⟩ | ⟨_, h8⟩
      · obtain ⟨x, h9, e2⟩ := load1k_det h8 hr
        obtain ⟨q, rfl, h10⟩ := castI_det h9 hr
        refine .inr ⟨_, h10.symm, ?_, fun ρ => ⟨_, .int _ _⟩⟩
        have f1 : ∀ q : V → Res, words.load1 h b o q = q (.slice p so m c ss) := e1
        have f2 : ∀ q' : V → Res, words.load1 h p (Nat.add so (Nat.mul s 3)) q' = q' (.int .u8 q) := e2
        have hm : s < m := by simpa [Nat.blt_eq] using hlt
        have n1 : ilt (.ofNat s) (.ofNat 0) = false := by rw [ilt_nat]; simp
        have n2 : ilt (.ofNat s) (.ofNat m) = true := by rw [ilt_nat]; simpa using hm
        simp -implicitDefEqProofs only [sh82, ↓u2, ↓unc_cons, ↓castI_int, ↓nilk'_nil, ↓n1, ↓lb, ↓Bool.not_false, ↓Bool.not_true, ↓gd_true, ↓I, ↓backk_ret, ↓ptrk_ptr, ↓pl0, ↓f1, ↓ik, ↓lenk_slice, ↓intk_int, ↓ak, ↓(show Nat.beq (kno .i64) (kno .i64) = true from rfl), ↓ifk_true, ↓n2, ↓or_false, ↓ifk_false, ↓slk_slice, ↓natk_ofNat, ↓hlt, ↓lK, ↓f2]
      · exact .inl h8
    · exact .inl h7
    · exact .inl h7
theorem po82F : POok Try.prog 0 82 (.sh fun m cf l h => kindF l h (sh82 words m cf l h)) := by
  intro m cf hc
  refine .fn (FnOk.forget ((po82 m cf hc).1 (by decide)) ((po82 m cf hc).1 (by decide)) fun l h r hg hr => ?_) (by decide)
  rcases kindF_ok (n := m) (cf := cf) hg hr with h1 | ⟨v, rfl, h1, h2⟩
  · exact .inl h1
  · exact .inr ⟨v, h, rfl, h1, fun _ _ => rfl, fun ρ _ _ _ _ => h2 ρ⟩

/- SAME -/
noncomputable def sameF (l : List V) (h : Heap) (z : Res) : Res :=
  unc l fun v l => unc l fun u l => nilk' l (aggk v fun n0 cs => aggk u fun n1 ds => ifk (Nat.beq n0 5) (ifk (Nat.beq n1 5)
    (unc cs fun a0 cs => unc cs fun a1 cs => unc cs fun a2 cs => unc cs fun a3 cs => unc cs fun a4 cs => nilk' cs (unc ds fun b0 ds => unc ds fun b1 ds => unc ds fun b2 ds => unc ds fun b3 ds => unc ds fun b4 ds => nilk' ds
      (castI .i64 a0 fun i0 => castI .i64 b0 fun j0 => ifk (ieq i0 j0) (castI .i64 a1 fun i1 => castI .i64 b1 fun j1 => ifk (ieq i1 j1) (strk a3 fun tl tn => strk b3 fun ul un => ifk (Go.Ev.seq tl tn ul un)
        (slk a2 (fun p o m _ _ => slk b2 (fun p' o' m' _ _ => ifk (and (Nat.beq m m') (and (Nat.blt 0 m) (and (Nat.blt p.val h.nx.val) (Nat.blt p'.val h.nx.val))))
          (load1k h p o fun x => load1k h p' o' fun y => castI .u64 x fun x => castI .u64 y fun y => ifk (ieq x y) z (.ret (.bool .false) h)) z) z z) z z)
        z) z) z))) z) z)
theorem sameF_ok {n : Nat} {cf : CF} {l : List V} {h : Heap} {z r : Res} (hh : sameF l h z = r) (hr : r ≠ .fail) :
    z = r ∨ ∃ hs, r = .ret (.bool .false) h ∧ sh110 words (n + 1) cf l h = .ret (.bool .false) hs ∧ ∀ b : Bid, b.val < h.nx.val → hs.t.get b = h.t.get b := by
  obtain ⟨v, l1, rfl, h1⟩ := unc_ok hh hr
  obtain ⟨u, l2, rfl, h2⟩ := unc_ok h1 hr
  obtain ⟨rfl, h3⟩ := nilk'_ok h2 hr
  obtain ⟨n0, cs, rfl, h4⟩ := aggk_ok h3 hr
  obtain ⟨n1, ds, rfl, h5⟩ := aggk_ok h4 hr
  rcases ifk_ne h5 with ⟨e0, h6⟩ | ⟨_, h6⟩
  case inr => exact .inl h6
  rcases ifk_ne h6 with ⟨e1, h7⟩ | ⟨_, h7⟩
  case inr => exact .inl h7
  obtain rfl := Nat.eq_of_beq_eq_true e0
  obtain rfl := Nat.eq_of_beq_eq_true e1
  obtain ⟨a0, c1, rfl, k1⟩ := unc_ok h7 hr
  obtain ⟨a1, c2, rfl, k2⟩ := unc_ok k1 hr
  obtain ⟨a2, c3, rfl, k3⟩ := unc_ok k2 hr
  obtain ⟨a3, c4, rfl, k4⟩ := unc_ok k3 hr
  obtain ⟨a4, c5, rfl, k5⟩ := unc_ok k4 hr
  obtain ⟨rfl, k6⟩ := nilk'_ok k5 hr
  obtain ⟨b0, d1, rfl, m1⟩ := unc_ok k6 hr
  obtain ⟨b1, d2, rfl, m2⟩ := unc_ok m1 hr
  obtain ⟨b2, d3, rfl, m3⟩ := unc_ok m2 hr
  obtain ⟨b3, d4, rfl, m4⟩ := unc_ok m3 hr
  obtain ⟨b4, d5, rfl, m5⟩ := unc_ok m4 hr
  obtain ⟨rfl, m6⟩ := nilk'_ok m5 hr
  obtain ⟨i0, rfl, q1⟩ := castI_det m6 hr
  obtain ⟨j0, rfl, q2⟩ := castI_det q1 hr
  rcases ifk_ne q2 with ⟨s0, q3⟩ | ⟨_, q3⟩
  case inr => exact .inl q3
  obtain ⟨i1, rfl, q4⟩ := castI_det q3 hr
  obtain ⟨j1, rfl, q5⟩ := castI_det q4 hr
  rcases ifk_ne q5 with ⟨s1, q6⟩ | ⟨_, q6⟩
  case inr => exact .inl q6
  obtain ⟨tl, tn, rfl, q7⟩ := strk_ok q6 hr
  obtain ⟨ul, un, rfl, q8⟩ := strk_ok q7 hr
  rcases ifk_ne q8 with ⟨s2, q9⟩ | ⟨_, q9⟩
  case inr => exact .inl q9
  rcases slk_ok q9 hr with ⟨p, o, m, ca, sa, rfl, q10⟩ | ⟨_, q10⟩ | ⟨_, q10⟩
  case inr.inl => exact .inl q10
  case inr.inr => exact .inl q10
  rcases slk_ok q10 hr with ⟨p', o', m', cb, sb, rfl, q11⟩ | ⟨_, q11⟩ | ⟨_, q11⟩
  case inr.inl => exact .inl q11
  case inr.inr => exact .inl q11
  rcases ifk_ne q11 with ⟨s3, q12⟩ | ⟨_, q12⟩
  case inr => exact .inl q12
  simp only [Bool.and_eq_true] at s3
  obtain ⟨s3, s4, s5, s6⟩ := s3
  obtain rfl := Nat.eq_of_beq_eq_true s3
  obtain ⟨x, q13, f1⟩ := load1k_det q12 hr
  obtain ⟨y, q14, f2⟩ := load1k_det q13 hr
  obtain ⟨x, rfl, q15⟩ := castI_det q14 hr
  obtain ⟨y, rfl, q16⟩ := castI_det q15 hr
  rcases ifk_ne q16 with ⟨_, q17⟩ | ⟨s7, q17⟩
  · exact .inl q17
  have hp : p.val < h.nx.val := by simpa [Nat.blt_eq] using s5
  have hp' : p'.val < h.nx.val := by simpa [Nat.blt_eq] using s6
  have hm : 0 < m := by simpa [Nat.blt_eq] using s4
  obtain ⟨h1, e, g, u, lt⟩ := new1 h [.int .i64 i0, .int .i64 i1, .slice p o m ca sa, .str tl tn, a4]
  obtain ⟨h2, e', g', u', lt'⟩ := new1 h1 [.int .i64 j0, .int .i64 j1, .slice p' o' m cb sb, .str ul un, b4]
  have r := row1 (l := [.int .i64 i0, .int .i64 i1, .slice p o m ca sa, .str tl tn, a4]) (g := 5) rfl (by omega) (by rw [u'.get _ lt]; exact g)
  have r' := row1 (l := [.int .i64 j0, .int .i64 j1, .slice p' o' m cb sb, .str ul un, b4]) (g := 5) rfl (by omega) g'
  have hn : ∀ q, words.new h (.arr 5 1 (.lf [.int .i64 i0, .int .i64 i1, .slice p o m ca sa, .str tl tn, a4]) false) q = q h.nx h1 := e
  have hn' : ∀ q, words.new h1 (.arr 5 1 (.lf [.int .i64 j0, .int .i64 j1, .slice p' o' m cb sb, .str ul un, b4]) false) q = q h1.nx h2 := e'
  have x0 : ∀ q : V → Res, words.load1 h2 h.nx 0 q = q (.int .i64 i0) := fun q => load1k_law r rfl q
  have x1 : ∀ q : V → Res, words.load1 h2 h.nx 1 q = q (.int .i64 i1) := fun q => load1k_law r rfl q
  have x2 : ∀ q : V → Res, words.load1 h2 h.nx 2 q = q (.slice p o m ca sa) := fun q => load1k_law r rfl q
  have x3 : ∀ q : V → Res, words.load1 h2 h.nx 3 q = q (.str tl tn) := fun q => load1k_law r rfl q
  have y0 : ∀ q : V → Res, words.load1 h2 h1.nx 0 q = q (.int .i64 j0) := fun q => load1k_law r' rfl q
  have y1 : ∀ q : V → Res, words.load1 h2 h1.nx 1 q = q (.int .i64 j1) := fun q => load1k_law r' rfl q
  have y2 : ∀ q : V → Res, words.load1 h2 h1.nx 2 q = q (.slice p' o' m cb sb) := fun q => load1k_law r' rfl q
  have y3 : ∀ q : V → Res, words.load1 h2 h1.nx 3 q = q (.str ul un) := fun q => load1k_law r' rfl q
  have up : Up h h2 := u.trans u'
  have old : ∀ {b : Bid} {o : Nat} (q : V → Res), b.val < h.nx.val → load1k h2 b o q = load1k h b o q := fun {b o} q hb => by
    unfold load1k
    rw [Heap.getk_eq, Heap.getk_eq, up.get b hb]
  have z0 : ∀ q : V → Res, words.load1 h2 p (Nat.add o 0) q = q (.int .u64 x) := fun q => (old q hp).trans (f1 q)
  have z1 : ∀ q : V → Res, words.load1 h2 p' (Nat.add o' 0) q = q (.int .u64 y) := fun q => (old q hp').trans (f2 q)
  have hlt : ilt (.ofNat 0) (.ofNat m) = true := by rw [ilt_nat]; simpa using hm
  refine .inr ⟨h2, q17.symm, ?_, up.get⟩
  simp -implicitDefEqProofs only [sh110, ↓z2, ↓unc_cons, ↓nilk'_nil, ↓(show ∀ l (q : Nat → List V → Res), partsk (.agg 5 l) q = q 5 l from fun _ _ => rfl), ↓(show ∀ x y, zk 5 x y = y from fun _ _ => rfl), ↓hn, ↓hn', ↓lK, ↓x0, ↓y0, ↓ik, ↓I, ↓castI_int, ↓lb, ↓s0, ↓Bool.not_true, ↓Bool.not_false,
    ↓gd_true, ↓gd_false, ↓backk_ret, ↓plI0, ↓plS0, ↓pl0, ↓ptrk_ptr, ↓x1, ↓y1, ↓x2, ↓y2, ↓x3, ↓y3, ↓intk_int, ↓ak, ↓(show Nat.beq (kno .i64) (kno .i64) = true from rfl), ↓ifk_true, ↓ifk_false, ↓s1, ↓or_false, ↓castS_str, ↓strk_str, ↓s2, ↓lenk_slice, ↓(show ieq (.ofNat m) (.ofNat m) = true from by rw [ieq_nat]; simp), ↓lpk_succ, ↓u3, ↓castF_int, ↓pl, ↓(show Nat.add 0 2 = 2 from rfl),
    ↓hlt, ↓slk_slice, ↓natk_ofNat, ↓s4, ↓z0, ↓z1, ↓s7]
theorem po110F : POok Try.prog 0 110 (.sh fun m cf l h => sameF l h (sh110 words m cf l h)) := by
  intro m cf hc
  refine .fn (FnOk.forget ((po110 m cf hc).1 (by decide)) ((po110 (m + 1) cf hc).1 (by decide)) fun l h r hg hr => ?_) (by decide)
  rcases sameF_ok (n := m) (cf := cf) hg hr with h1 | ⟨hs, rfl, h1, h2⟩
  · exact .inl h1
  · exact .inr ⟨_, hs, rfl, h1, h2, fun ρ _ _ _ _ => ⟨_, .bool _⟩⟩
end Go.Ev.W05

/- INTERN: a quick way for 'thing' of the document's table. -/
namespace Go.Ev.W05
open Go.Proofs
set_option maxRecDepth 1000000
/-- the loop of 'thing', and what comes behind -/
noncomputable def body85 (S : Words) : (List V → Heap → Res) → List V → Heap → Res := fun l1 l2 h2 => u2 l2 fun v2 v3 l3 => castF .i64 v3 fun i3 => unc l3 fun v4 l4 => castF .u64 v4 fun i4 => u2 l4 fun v5 v6 l5 => castF .u64 v6 fun i5 => zF l5 fun i6 => pl S v2 1 h2 fun v7 => lenk v7 fun n0 => ifk (ilt i6 (.ofNat n0)) (contk (pl S v2 1 h2 fun v8 => slk v8 (fun p1 n1 n2 _ _ => natk i6 fun n3 => ak (Nat.blt n3 n2) (lK S .i64 h2 p1 (Nat.add n1 (Nat.mul n3 5)) fun i7 => ifk (Bool.not (ieq i7 i3)) (.done .normal [v2, I i3, .int .u64 i4, v5, .und, .int .u64 i5, I i6] h2) (ifk (ieq i5 i4) (pl S v2 1 h2 fun v9 => slk v9 (fun p2 n4 n5 _ _ => natk i6 fun n6 => ak (Nat.blt n6 n5) (S.load h2 p2 (Nat.add n4 (Nat.mul n6 5)) 5 fun l6 => ptrk v5 fun p3 n7 => S.store h2 p3 n7 5 l6 fun h3 => .done .ret [v2, I i3, .int .u64 i4, v5, .bool .true, .int .u64 i5, I i6] h3)) .fail .fail) (.done .normal [v2, I i3, .int .u64 i4, v5, .und, .int .u64 (wrapv .u64 (Int.add i5 (.ofNat 1))), I i6] h2)))) .fail .fail) fun x0 l6 h3 => nork x0 (u2 l6 fun v8 v9 l7 => castI .i64 v9 fun i7 => uK .u64 l7 fun i8 l8 => u3 l8 fun v10 _ v11 l9 => castI .u64 v11 fun i9 => zK .i64 l9 fun i10 => l1 [v8, I i7, .int .u64 i8, v10, .int .u64 i9, I (ad i10 1)] h3) (u3 l6 fun v8 v9 v10 l7 => u3 l7 fun v11 v12 v13 l8 => zV l8 fun v14 => nork x0 (l1 [v8, v9, v10, v11, v13, v14] h3) (exk 0 x0 (.done .normal [v11, v12] h3) (.done x0 [v11, v12] h3)))) (.done .normal [v5, .und] h2)
noncomputable def tail85 (S : Words) : Ex → List V → Heap → Res := fun x0 l1 h2 => nork x0 (z2 l1 fun v2 _ => ptrk v2 fun p1 n0 => S.store h2 p1 n0 5 [ik 0, ik 0, .nils, .str 0 0, ik 0] fun h3 => ptrk v2 fun p2 n1 => loadk h3 p2 n1 5 fun l2 => .ret (.tup [.agg 5 l2, .bool .false]) h3) (z2 l1 fun v2 v3 => endk x0 (ptrk v2 fun p1 n0 => loadk h2 p1 n0 5 fun l2 => .ret (.tup [.agg 5 l2, v3]) h2) fun v4 => .pan v4 h2)
theorem sh85_eq : sh85 = fun S n c l h => u2 l fun v0 v1 l0 => castI .i64 v1 fun i0 => zK .u64 l0 fun i1 => S.new h (.arr 5 1 (repT [ik 0, ik 0, .nils, .str 0 0, ik 0] 1 1) .false) fun p0 h0 => clK c .u64 f109 [v0, I i0] h0 fun i2 h1 => contk (lpk (body85 S) n [v0, I i0, .int .u64 i1, .ptr p0 0, .int .u64 i2, ik 0] h1) (tail85 S) := rfl

abbrev zeroT : List V := [ik 0, ik 0, .nils, .str 0 0, ik 0]
/-- going over things for the one of a number -/
noncomputable def scanF (t : T) (s w : Int) (yes : List V → Res) (no : Res) (n : Nat) : Nat → Int → Res :=
  Nat.rec (motive := fun _ => Nat → Int → Res) (fun _ _ => no) (fun _ ih i c => T.getk t i fun ch => unc ch fun v l => castI .i64 v fun q => ifk (ieq q s)
    (ifk (ieq c w) (unc l fun a l => unc l fun b l => unc l fun d l => unc l fun e l => nilk' l (yes [v, a, b, d, e])) (ih (Nat.succ i) (wrapv .u64 (Int.add c (.ofNat 1))))) (ih (Nat.succ i) c)) n
noncomputable def thingF (l : List V) (h : Heap) (z : Res) : Res :=
  unc l fun v l => unc l fun s l => unc l fun w l => nilk' l (castI .i64 s fun si => castI .u64 w fun w => Int.rec (motive := fun _ => Res) (fun sn => ptrk v fun b o => load1k h b o fun shs => slk shs (fun sp so sm _ _ => ifk (Nat.blt sn sm)
    (load1k h sp (Nat.add so (Nat.mul sn 3)) fun kx => castI .u8 kx fun kq => load1k h b (Nat.add o 1) fun sl => slk sl (fun p lo m _ _ => ifk (and (Nat.beq lo 0) (and (Nat.blt m 1000000) (and (Nat.blt b.val h.nx.val) (and (Nat.blt p.val h.nx.val) (Nat.blt sp.val h.nx.val)))))
      (h.getk p fun blk => arrk blk fun g _ t _ => ifk (Nat.beq g 5) (ifk (ieq kq (.ofNat 3))
        (scanF t (.ofNat sn) w (fun ch => .ret (.tup [.agg 5 ch, .bool .true]) h) (.ret (.tup [.agg 5 zeroT, .bool .false]) h) m 0 (.ofNat 1))
        (scanF t (.ofNat sn) w (fun ch => .ret (.tup [.agg 5 ch, .bool .true]) h) (.ret (.tup [.agg 5 zeroT, .bool .false]) h) m 0 (.ofNat 0))) z) z) z z) z) z z) (fun _ => z) si)

section loop
variable {h1 : Heap} {b p p0 : Bid} {o m : Nat} {ca : Option Nat} {sa sn : Nat} {w : Int} {t : T} {r : Res} {again : List V → Heap → Res} {i : Nat} {c : Int}
abbrev st85 (b p0 : Bid) (o sn : Nat) (w c : Int) (i : Nat) : List V := [.ptr b o, I (.ofNat sn), .int .u64 w, .ptr p0 0, .int .u64 c, I (.ofNat i)]
theorem body_end (e1 : ∀ q : V → Res, words.load1 h1 b (Nat.add o 1) q = q (.slice p 0 m ca sa)) (hi : ¬ i < m) : body85 words again (st85 b p0 o sn w c i) h1 = .done .normal [.ptr p0 0, .und] h1 := by
  have n1 : ilt (.ofNat i) (.ofNat m) = false := by rw [ilt_nat]; simpa using hi
  simp -implicitDefEqProofs only [body85, st85, ↓u2, ↓unc_cons, ↓I, ↓castF_int, ↓zF, ↓nilk'_nil, ↓pl, ↓ptrk_ptr, ↓e1, ↓lenk_slice, ↓n1, ↓ifk_false]
theorem ad_small {i : Nat} (hi : i < 1000000) : ad (.ofNat i) 1 = .ofNat (i + 1) := by
  show wrapv .i64 (.ofNat (i + 1)) = _
  exact wrapv_small .i64 (i + 1) (Nat.le_trans hi (by decide))
theorem body_other (e1 : ∀ q : V → Res, words.load1 h1 b (Nat.add o 1) q = q (.slice p 0 m ca sa)) (hi : i < m) (hm : m < 1000000) {q : Int} (e2 : ∀ k : V → Res, words.load1 h1 p (Nat.add 0 (Nat.mul i 5)) k = k (.int .i64 q)) (hq : ieq q (.ofNat sn) = false) :
    body85 words again (st85 b p0 o sn w c i) h1 = again (st85 b p0 o sn w c (i + 1)) h1 := by
  have n1 : ilt (.ofNat i) (.ofNat m) = true := by rw [ilt_nat]; simpa using hi
  have n2 : Nat.blt i m = true := by simpa [Nat.blt_eq] using hi
  have n3 := ad_small (i := i) (by omega)
  simp -implicitDefEqProofs only [body85, st85, ↓u2, ↓u3, ↓uK, ↓zK, ↓unc_cons, ↓I, ↓castF_int, ↓castI_int, ↓zF, ↓nilk'_nil, ↓pl, ↓ptrk_ptr, ↓e1, ↓lenk_slice, ↓n1, ↓ifk_true, ↓slk_slice, ↓natk_ofNat, ↓ak, ↓n2, ↓lK, ↓e2, ↓hq, ↓Bool.not_false, ↓contk_done, ↓nork_normal, ↓n3]
theorem body_next (e1 : ∀ q : V → Res, words.load1 h1 b (Nat.add o 1) q = q (.slice p 0 m ca sa)) (hi : i < m) (hm : m < 1000000) {q : Int} (e2 : ∀ k : V → Res, words.load1 h1 p (Nat.add 0 (Nat.mul i 5)) k = k (.int .i64 q)) (hq : ieq q (.ofNat sn) = true)
    (hc : ieq c w = false) : body85 words again (st85 b p0 o sn w c i) h1 = again (st85 b p0 o sn w (wrapv .u64 (Int.add c (.ofNat 1))) (i + 1)) h1 := by
  have n1 : ilt (.ofNat i) (.ofNat m) = true := by rw [ilt_nat]; simpa using hi
  have n2 : Nat.blt i m = true := by simpa [Nat.blt_eq] using hi
  have n3 := ad_small (i := i) (by omega)
  simp -implicitDefEqProofs only [body85, st85, ↓u2, ↓u3, ↓uK, ↓zK, ↓unc_cons, ↓I, ↓castF_int, ↓castI_int, ↓zF, ↓nilk'_nil, ↓pl, ↓ptrk_ptr, ↓e1, ↓lenk_slice, ↓n1, ↓ifk_true, ↓ifk_false, ↓slk_slice, ↓natk_ofNat, ↓ak, ↓n2, ↓lK, ↓e2, ↓hq, ↓hc, ↓Bool.not_true, ↓contk_done, ↓nork_normal, ↓n3]
theorem body_found (e1 : ∀ q : V → Res, words.load1 h1 b (Nat.add o 1) q = q (.slice p 0 m ca sa)) (hi : i < m) {q : Int} (e2 : ∀ k : V → Res, words.load1 h1 p (Nat.add 0 (Nat.mul i 5)) k = k (.int .i64 q)) (hq : ieq q (.ofNat sn) = true)
    (hc : ieq c w = true) {ch : List V} (e3 : ∀ k : List V → Res, words.load h1 p (Nat.add 0 (Nat.mul i 5)) 5 k = k ch) {h2 : Heap} (e4 : ∀ k : Heap → Res, words.store h1 p0 0 5 ch k = k h2) :
    body85 words again (st85 b p0 o sn w c i) h1 = .done .ret [.ptr p0 0, .bool .true] h2 := by
  have n1 : ilt (.ofNat i) (.ofNat m) = true := by rw [ilt_nat]; simpa using hi
  have n2 : Nat.blt i m = true := by simpa [Nat.blt_eq] using hi
  simp -implicitDefEqProofs only [body85, st85, ↓u2, ↓u3, ↓uK, ↓zK, ↓zV, ↓unc_cons, ↓I, ↓castF_int, ↓castI_int, ↓zF, ↓nilk'_nil, ↓pl, ↓ptrk_ptr, ↓e1, ↓lenk_slice, ↓n1, ↓ifk_true, ↓ifk_false, ↓slk_slice, ↓natk_ofNat, ↓ak, ↓n2, ↓lK, ↓e2, ↓hq, ↓hc, ↓Bool.not_true, ↓e3, ↓e4, ↓contk_done, ↓nork_ret, ↓(show ∀ a b : Res, exk 0 .ret a b = b from fun _ _ => rfl)]
end loop
theorem kind_law {n : Nat} {cf : CF} {h : Heap} {b p : Bid} {o so m s : Nat} {ca : Option Nat} {ss : Nat} {q : Int} (f1 : ∀ q : V → Res, words.load1 h b o q = q (.slice p so m ca ss)) (hm : s < m)
    (f2 : ∀ q' : V → Res, words.load1 h p (Nat.add so (Nat.mul s 3)) q' = q' (.int .u8 q)) : sh82 words n cf [.ptr b o, .int .i64 (.ofNat s)] h = .ret (.int .u8 q) h := by
  have hlt : Nat.blt s m = true := by simpa [Nat.blt_eq] using hm
  have n1 : ilt (.ofNat s) (.ofNat 0) = false := by rw [ilt_nat]; simp
  have n2 : ilt (.ofNat s) (.ofNat m) = true := by rw [ilt_nat]; simpa using hm
  simp -implicitDefEqProofs only [sh82, ↓u2, ↓unc_cons, ↓castI_int, ↓nilk'_nil, ↓n1, ↓lb, ↓Bool.not_false, ↓Bool.not_true, ↓gd_true, ↓I, ↓backk_ret, ↓ptrk_ptr, ↓pl0, ↓f1, ↓ik, ↓lenk_slice, ↓intk_int, ↓ak, ↓(show Nat.beq (kno .i64) (kno .i64) = true from rfl), ↓ifk_true, ↓n2, ↓or_false, ↓ifk_false, ↓slk_slice, ↓natk_ofNat, ↓hlt, ↓lK, ↓f2]
theorem call109 (n d : Nat) (l : List V) (h : Heap) : call tabW n (d + 1) f109 l h = sh109 words n (call tabW n d) l h := by kernel_rfl
theorem call82 (n d : Nat) (l : List V) (h : Heap) : call tabW n (d + 1) f82 l h = sh82 words n (call tabW n d) l h := by kernel_rfl
theorem first_law {n d : Nat} {h : Heap} {b p : Bid} {o so m s : Nat} {ca : Option Nat} {ss : Nat} {q : Int} (f1 : ∀ q : V → Res, words.load1 h b o q = q (.slice p so m ca ss)) (hm : s < m)
    (f2 : ∀ q' : V → Res, words.load1 h p (Nat.add so (Nat.mul s 3)) q' = q' (.int .u8 q)) : call tabW n (d + 2) f109 [.ptr b o, I (.ofNat s)] h = .ret (.int .u64 (bif ieq q (.ofNat 3) then .ofNat 1 else .ofNat 0)) h := by
  rw [call109]
  have k := kind_law (n := n) (cf := call tabW n d) f1 hm f2
  simp -implicitDefEqProofs only [sh109, ↓u2, ↓unc_cons, ↓castI_int, ↓nilk'_nil, ↓clK, ↓call82, ↓k, ↓I, ↓backk_ret, ↓iq]
  cases ieq q (.ofNat 3) <;> rfl
section loop
variable {h1 : Heap} {b p p0 : Bid} {o m : Nat} {ca : Option Nat} {sa sn : Nat} {w : Int} {t : T} {r : Res} {nn : Nat} {ro : Bool} {yes : List V → Res} {no : Res}
theorem loop85 (e1 : ∀ q : V → Res, words.load1 h1 b (Nat.add o 1) q = q (.slice p 0 m ca sa)) (hm : m < 1000000) (hb : h1.t.get p = .arr 5 nn t ro) (hp : Row (h1.t.get p0) 5 zeroT) (hr : r ≠ .fail) :
    ∀ (k i n : Nat) (c : Int), i + k = m → k < n → scanF t (.ofNat sn) w yes no k i c = r →
      (∃ ch h2, ch.length = 5 ∧ yes ch = r ∧ lpk (body85 words) n (st85 b p0 o sn w c i) h1 = .done .ret [.ptr p0 0, .bool .true] h2 ∧ Row (h2.t.get p0) 5 ch ∧ But h1 p0 h2 ∧ ∃ j, t.get j = some ch) ∨
      (no = r ∧ lpk (body85 words) n (st85 b p0 o sn w c i) h1 = .done .normal [.ptr p0 0, .und] h1)
  | 0, i, n, c, hk, hn, hh => by
    obtain ⟨n, rfl⟩ : ∃ n', n = n' + 1 := ⟨n - 1, by omega⟩
    exact .inr ⟨hh, by rw [lpk_succ]; exact body_end e1 (by omega)⟩
  | k + 1, i, n, c, hk, hn, hh => by
    obtain ⟨n, rfl⟩ : ∃ n', n = n' + 1 := ⟨n - 1, by omega⟩
    obtain ⟨ch, e2, h2⟩ := T.getk_ok (show T.getk t i _ = r from hh) hr
    obtain ⟨v, l, rfl, h3⟩ := unc_ok h2 hr
    obtain ⟨q, rfl, h4⟩ := castI_det h3 hr
    have hi : i < m := by omega
    have ld : ∀ k : V → Res, words.load1 h1 p (Nat.add 0 (Nat.mul i 5)) k = k (.int .i64 q) := fun k => by
      show load1k h1 p (0 + i * 5) k = _
      unfold load1k
      rw [Heap.getk_eq, hb]
      show T.getk t ((0 + i * 5) / 5) (fun ch => nthk ch ((0 + i * 5) % 5) k) = _
      rw [show (0 + i * 5) / 5 = i by omega, show (0 + i * 5) % 5 = 0 by omega, T.getk_eq, e2]
      rfl
    have lN : ∀ k : List V → Res, words.load h1 p (Nat.add 0 (Nat.mul i 5)) 5 k = k (.int .i64 q :: l) := fun k => by
      show loadk h1 p (0 + i * 5) 5 k = _
      unfold loadk
      rw [Heap.getk_eq, hb]
      show cellsk t 5 (0 + i * 5) 5 k = _
      have e0 : cellsk t 5 (0 + i * 5) 5 k = zk ((0 + i * 5) % 5) (T.getk t ((0 + i * 5) / 5) k) (gatherk t 5 5 (0 + i * 5) 5 k) := rfl
      rw [e0, show (0 + i * 5) / 5 = i by omega, show (0 + i * 5) % 5 = 0 by omega]
      show T.getk t i k = _
      rw [T.getk_eq, e2]
    rcases ifk_ne h4 with ⟨hq, h5⟩ | ⟨hq, h5⟩
    · rcases ifk_ne h5 with ⟨hc, h6⟩ | ⟨hc, h6⟩
      · obtain ⟨a, l1, rfl, k1⟩ := unc_ok h6 hr
        obtain ⟨a2, l2, rfl, k2⟩ := unc_ok k1 hr
        obtain ⟨a3, l3, rfl, k3⟩ := unc_ok k2 hr
        obtain ⟨a4, l4, rfl, k4⟩ := unc_ok k3 hr
        obtain ⟨rfl, k5⟩ := nilk'_ok k4 hr
        obtain ⟨h2, s1, s2, s3⟩ := storek_law (o := 0) (n := 5) (vs := [.int .i64 q, a, a2, a3, a4]) hp rfl (by simp)
        refine .inl ⟨_, h2, rfl, k5, ?_, by simpa [splice] using s2, s3, i, e2⟩
        rw [lpk_succ]
        exact body_found e1 hi ld hq hc lN s1
      · rcases loop85 e1 hm hb hp hr k (i + 1) n _ (by omega) (by omega) h6 with ⟨ch, h2, x1, x2, x3, x4⟩ | ⟨x1, x2⟩
        · exact .inl ⟨ch, h2, x1, x2, by rw [lpk_succ, body_next e1 hi hm ld hq hc]; exact x3, x4⟩
        · exact .inr ⟨x1, by rw [lpk_succ, body_next e1 hi hm ld hq hc]; exact x2⟩
    · rcases loop85 e1 hm hb hp hr k (i + 1) n _ (by omega) (by omega) h5 with ⟨ch, h2, x1, x2, x3, x4⟩ | ⟨x1, x2⟩
      · exact .inl ⟨ch, h2, x1, x2, by rw [lpk_succ, body_other e1 hi hm ld hq]; exact x3, x4⟩
      · exact .inr ⟨x1, by rw [lpk_succ, body_other e1 hi hm ld hq]; exact x2⟩
end loop
theorem vrs_of {ρ : Rho} : ∀ (l : List V), (∀ v ∈ l, ∃ x, VR ρ v x ∧ x.oneCell' = true) → ∃ ys, VRs ρ l ys ∧ ∀ y ∈ ys, y.oneCell' = true
  | [], _ => ⟨[], .nil, by simp⟩
  | v :: l, h => by
    obtain ⟨x, h1, h2⟩ := h v (by simp)
    obtain ⟨ys, h3, h4⟩ := vrs_of l fun u hu => h u (by simp [hu])
    exact ⟨x :: ys, .cons h1 h3, by simpa using ⟨h2, h4⟩⟩
theorem vr_agg {ρ : Rho} {l : List V} {n : Nat} (hn : l.length = n) (h : ∀ v ∈ l, ∃ x, VR ρ v x ∧ x.oneCell' = true) : ∃ x, VR ρ (.agg n l) x := by
  obtain ⟨ys, h1, h2⟩ := vrs_of l h
  exact ⟨.agg ys.toArray, .agg (by simpa using h1) (by simpa using h2) hn⟩
theorem tail_found {h2 : Heap} {p0 : Bid} {ch : List V} (hl : ch.length = 5) (hp : Row (h2.t.get p0) 5 ch) : tail85 words .ret [.ptr p0 0, .bool .true] h2 = .ret (.tup [.agg 5 ch, .bool .true]) h2 := by
  have e : ∀ q, loadk h2 p0 0 5 q = q ch := fun q => (loadk_law hp (by omega) q).trans (by rw [List.drop_zero, ← hl, List.take_length])
  simp -implicitDefEqProofs only [tail85, ↓nork_ret, ↓z2, ↓unc_cons, ↓nilk'_nil, ↓endk_ret, ↓ptrk_ptr, ↓e]
theorem tail_none {h1 : Heap} {p0 : Bid} (hp : Row (h1.t.get p0) 5 zeroT) : ∃ h2, tail85 words .normal [.ptr p0 0, .und] h1 = .ret (.tup [.agg 5 zeroT, .bool .false]) h2 ∧ But h1 p0 h2 := by
  obtain ⟨h2, s1, s2, s3⟩ := storek_law (o := 0) (n := 5) (vs := zeroT) hp rfl (by simp)
  have s2 : Row (h2.t.get p0) 5 zeroT := by simpa [splice] using s2
  have e : ∀ q, loadk h2 p0 0 5 q = q zeroT := fun q => (loadk_law s2 (by simp) q).trans (by simp)
  have s1 : ∀ q, words.store h1 p0 0 5 zeroT q = q h2 := s1
  refine ⟨h2, ?_, s3⟩
  simp -implicitDefEqProofs only [tail85, ↓nork_normal, ↓z2, ↓unc_cons, ↓nilk'_nil, ↓ptrk_ptr, ↓s1, ↓e]
theorem thing_slow {n d : Nat} {h h1 : Heap} {v : V} {sn : Nat} {w c : Int} (hn : ∀ q, words.new h (.arr 5 1 (repT zeroT 1 1) false) q = q h.nx h1) (hf : call tabW n (d + 1) f109 [v, I (.ofNat sn)] h1 = .ret (.int .u64 c) h1) :
    sh85 words n (call tabW n (d + 1)) [v, I (.ofNat sn), .int .u64 w] h = contk (lpk (body85 words) n [v, I (.ofNat sn), .int .u64 w, .ptr h.nx 0, .int .u64 c, ik 0] h1) (tail85 words) := by
  rw [sh85_eq]
  simp -implicitDefEqProofs only [↓u2, ↓unc_cons, ↓I, ↓castI_int, ↓zK, ↓nilk'_nil, ↓hn, ↓clK, ↓hf, ↓backk_ret]
theorem thingF_ok {l : List V} {h : Heap} {z r : Res} (hh : thingF l h z = r) (hr : r ≠ .fail) :
    z = r ∨ ∃ v hs, r = .ret v h ∧ sh85 words 1000000 (call tabW 1000000 2) l h = .ret v hs ∧ (∀ b : Bid, b.val < h.nx.val → hs.t.get b = h.t.get b) ∧ ∀ (ρ : Rho) (w : World) args, VRs ρ l args → RH Try.prog ρ h w → ∃ x, VR ρ v x := by
  obtain ⟨v, l1, rfl, h1⟩ := unc_ok hh hr
  obtain ⟨s, l2, rfl, h2⟩ := unc_ok h1 hr
  obtain ⟨wv, l3, rfl, h3⟩ := unc_ok h2 hr
  obtain ⟨rfl, h4⟩ := nilk'_ok h3 hr
  obtain ⟨si, rfl, h5⟩ := castI_det h4 hr
  obtain ⟨w, rfl, h6⟩ := castI_det h5 hr
  cases si with
  | negSucc _ => exact .inl h6
  | ofNat sn =>
  obtain ⟨b, o, rfl, h7⟩ := ptrk_ok (show ptrk v _ = r from h6) hr
  obtain ⟨shs, h8, f1⟩ := load1k_det h7 hr
  rcases slk_ok h8 hr with ⟨sp, so, sm, sc, ss, rfl, h9⟩ | ⟨_, h9⟩ | ⟨_, h9⟩
  case inr.inl => exact .inl h9
  case inr.inr => exact .inl h9
  rcases ifk_ne h9 with ⟨hlt, h10⟩ | ⟨_, h10⟩
  case inr => exact .inl h10
  obtain ⟨kx, h11, f2⟩ := load1k_det h10 hr
  obtain ⟨kq, rfl, h12⟩ := castI_det h11 hr
  obtain ⟨sl, h13, f3⟩ := load1k_det h12 hr
  rcases slk_ok h13 hr with ⟨p, lo, m, ca, sa, rfl, h14⟩ | ⟨_, h14⟩ | ⟨_, h14⟩
  case inr.inl => exact .inl h14
  case inr.inr => exact .inl h14
  rcases ifk_ne h14 with ⟨hg, h15⟩ | ⟨_, h15⟩
  case inr => exact .inl h15
  simp only [Bool.and_eq_true] at hg
  obtain ⟨g1, g2, g3, g4, g5⟩ := hg
  obtain rfl := Nat.eq_of_beq_eq_true g1
  have hm : m < 1000000 := by simpa [Nat.blt_eq] using g2
  have hb : b.val < h.nx.val := by simpa [Nat.blt_eq] using g3
  have hp : p.val < h.nx.val := by simpa [Nat.blt_eq] using g4
  have hsp : sp.val < h.nx.val := by simpa [Nat.blt_eq] using g5
  have hsm : sn < sm := by simpa [Nat.blt_eq] using hlt
  rw [Heap.getk_eq] at h15
  obtain ⟨g, nn, t, ro, e5, h16⟩ := arrk_ok h15 hr
  rcases ifk_ne h16 with ⟨g6, h17⟩ | ⟨_, h17⟩
  case inr => exact .inl h17
  obtain rfl := Nat.eq_of_beq_eq_true g6
  obtain ⟨h1, n1, n2, n3, n4⟩ := new1 h zeroT
  rw [show zeroT.length = 5 from rfl] at n1 n2
  have row := row1 (l := zeroT) (g := 5) rfl (by omega) n2
  have old : ∀ {b : Bid} {o : Nat} (q : V → Res), b.val < h.nx.val → load1k h1 b o q = load1k h b o q := fun {b o} q hb => by
    unfold load1k
    rw [Heap.getk_eq, Heap.getk_eq, n3.get b hb]
  have a1 : ∀ q : V → Res, words.load1 h1 b o q = q (.slice sp so sm sc ss) := fun q => (old q hb).trans (f1 q)
  have a2 : ∀ q' : V → Res, words.load1 h1 sp (Nat.add so (Nat.mul sn 3)) q' = q' (.int .u8 kq) := fun q => (old q hsp).trans (f2 q)
  have a3 : ∀ q : V → Res, words.load1 h1 b (Nat.add o 1) q = q (.slice p 0 m ca sa) := fun q => (old q hb).trans (f3 q)
  have hf := first_law (n := 1000000) (d := 0) a1 hsm a2
  have slow := thing_slow (n := 1000000) (d := 1) (w := w) n1 hf
  have hpne : ∀ b : Bid, b.val < h.nx.val → b ≠ h.nx := fun b hb e => by rw [e] at hb; omega
  have fin : ∀ c : Int, scanF t (.ofNat sn) w (fun ch => .ret (.tup [.agg 5 ch, .bool .true]) h) (.ret (.tup [.agg 5 zeroT, .bool .false]) h) m 0 c = r →
      (∃ v hs, r = .ret v h ∧ contk (lpk (body85 words) 1000000 (st85 b h.nx o sn w c 0) h1) (tail85 words) = .ret v hs ∧ (∀ b : Bid, b.val < h.nx.val → hs.t.get b = h.t.get b) ∧
        ∀ (ρ : Rho) (W : World) args, VRs ρ [.ptr b o, I (.ofNat sn), .int .u64 w] args → RH Try.prog ρ h W → ∃ x, VR ρ v x) := fun c hs => by
    rcases loop85 a3 hm (by rw [n3.get p hp]; exact e5) row hr m 0 1000000 c (by omega) hm hs with ⟨ch, h2, c1, c2, c3, c4, c5, j, c6⟩ | ⟨c1, c2⟩
    · refine ⟨_, h2, c2.symm, by rw [c3, contk_done]; exact tail_found c1 c4, fun b hb => (c5.get b (hpne b hb)).trans (n3.get b hb), fun ρ W args hv rh => ?_⟩
      cases hv with | cons hv0 _ =>
      obtain ⟨cb, zb, Sb, hρ, _⟩ := hv0.ptr_inv
      obtain ⟨sv, x, s1, _, s3, _⟩ := load1k_ok (k := fun v => .ret v h) (f3 fun v => .ret v h) (by simp) rh hρ
      cases s1
      obtain ⟨cp, zp, Sp, cap, hρp, _⟩ := s3.slice_inv
      obtain ⟨cs, ha⟩ := rh.arr _ _ _ _ _ _ _ _ hρp e5
      obtain ⟨_, _, ha3⟩ := ha.cells j ch c6
      obtain ⟨y, hy⟩ := vr_agg c1 (ρ := ρ) fun v hv => by
        obtain ⟨i, hi⟩ := List.getElem?_of_mem hv
        obtain ⟨x, _, x2, x3⟩ := ha3 i v hi
        exact ⟨x, x2, x3⟩
      exact ⟨.tuple #[y, .bool true], .tup (.cons hy (.cons (.bool _) .nil))⟩
    · obtain ⟨h2, t1, t2⟩ := tail_none row
      refine ⟨_, h2, c1.symm, by rw [c2, contk_done]; exact t1, fun b hb => (t2.get b (hpne b hb)).trans (n3.get b hb), fun ρ W args hv rh => ?_⟩
      obtain ⟨y, hy⟩ := vr_agg (l := zeroT) (n := 5) rfl (ρ := ρ) fun v hv => by
        simp only [zeroT, List.mem_cons, List.not_mem_nil] at hv
        rcases hv with rfl | rfl | rfl | rfl | rfl | hf0
        · exact ⟨_, .int _ _, rfl⟩
        · exact ⟨_, .int _ _, rfl⟩
        · exact ⟨_, .nils, rfl⟩
        · exact ⟨.string .empty, .str rfl (by simp), rfl⟩
        · exact ⟨_, .int _ _, rfl⟩
        · exact hf0.elim
      exact ⟨.tuple #[y, .bool false], .tup (.cons hy (.cons (.bool _) .nil))⟩
  rcases ifk_ne h17 with ⟨e6, h18⟩ | ⟨e6, h18⟩
  · rw [e6] at slow hf
    obtain ⟨v, hs, x1, x2, x3, x4⟩ := fin _ h18
    exact .inr ⟨v, hs, x1, slow.trans x2, x3, x4⟩
  · rw [e6] at slow hf
    obtain ⟨v, hs, x1, x2, x3, x4⟩ := fin _ h18
    exact .inr ⟨v, hs, x1, slow.trans x2, x3, x4⟩
theorem cfW (m d : Nat) : CFok Try.prog 0 (call tabW m d) := fun f => call_ok tabWOk (n := m) d f
theorem po85F : POok Try.prog 0 85 (.sh fun m cf l h => thingF l h (sh85 words m cf l h)) := by
  intro m cf hc
  refine .fn (FnOk.forget ((po85 m cf hc).1 (by decide)) ((po85 1000000 (call tabW 1000000 2) (cfW _ _)).1 (by decide)) fun l h r hg hr => ?_) (by decide)
  exact thingF_ok hg hr
end Go.Ev.W05

