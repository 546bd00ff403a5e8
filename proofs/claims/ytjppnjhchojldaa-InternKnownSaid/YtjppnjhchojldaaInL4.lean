/- INTERN: a quick way for 'put' of the document's table. -/
import Derived.Test.YtjppnjhchojldaaInL3
namespace Go.Ev.W05
open Go.Proofs
set_option maxRecDepth 1000000
noncomputable section
/-- the loop of 'put', and what comes behind -/
noncomputable def body81 (S : Words) (c : CF) : (List V → Heap → Res) → List V → Heap → Res := fun l1 l2 h2 => u3 l2 fun v2 v3 v4 l3 => castF .u64 v4 fun i2 => zF l3 fun i3 => pl S v2 1 h2 fun v5 => lenk v5 fun n1 => ifk (ilt i3 (.ofNat n1)) (contk (backk (ptrk v2 fun p1 n2 => .ret (.ptr p1 n2) h2) (fun v6 _ => backk (ptrk v6 fun p1 n2 => .ret (.ptr p1 (Nat.add n2 1)) h2) (fun v7 _ => backk (pl0 S v7 h2 fun v8 => .ret v8 h2) (fun v8 _ => backk (slk v8 (fun p1 n2 n3 _ _ => natk i3 fun n4 => ak (Nat.blt n4 n3) (.ret (.ptr p1 (Nat.add n2 (Nat.mul n4 5))) h2)) .fail .fail) (fun v9 _ => backk (ptrk v9 fun p1 n2 => S.load h2 p1 n2 5 fun l4 => .ret (.agg 5 l4) h2) (fun v10 _ => backk (ptrk v3 fun p1 n2 => S.load h2 p1 n2 5 fun l4 => .ret (.agg 5 l4) h2) (fun v11 _ => clB c f110 [v10, v11] h2 fun b0 h3 => ifk b0 (.done .ret [v2, v3, .int .u64 i2, ik 0, .int .u64 i2, I i3] h3) (backk (ptrk v2 fun p1 n2 => .ret (.ptr p1 n2) h3) (fun v12 _ => backk (ptrk v12 fun p1 n2 => .ret (.ptr p1 (Nat.add n2 1)) h3) (fun v13 _ => backk (pl0 S v13 h3 fun v14 => .ret v14 h3) (fun v14 _ => backk (slk v14 (fun p1 n2 n3 _ _ => natk i3 fun n4 => ak (Nat.blt n4 n3) (.ret (.ptr p1 (Nat.add n2 (Nat.mul n4 5))) h3)) .fail .fail) (fun v15 _ => backk (ptrk v15 fun p1 n2 => .ret (.ptr p1 n2) h3) (fun v16 _ => backk (plI0 S v16 h3 fun i4 => .ret (I i4) h3) (fun v17 _ => castI .i64 v17 fun i4 => backk (ptrk v3 fun p1 n2 => .ret (.ptr p1 n2) h3) (fun v18 _ => backk (plI0 S v18 h3 fun i5 => .ret (I i5) h3) (fun v19 _ => castI .i64 v19 fun i5 => ifk (ieq i4 i5) (.done .normal [v2, v3, .und, .und, .int .u64 (wrapv .u64 (Int.add i2 (.ofNat 1))), I i3] h3) (.done .normal [v2, v3, .und, .und, .int .u64 i2, I i3] h3)) fun _ _ => .fail) fun _ _ => .fail) fun _ _ => .fail) fun _ _ => .fail) fun _ _ => .fail) fun _ _ => .fail) fun _ _ => .fail) fun _ _ => .fail)) fun _ _ => .fail) fun _ _ => .fail) fun _ _ => .fail) fun _ _ => .fail) fun _ _ => .fail) fun _ _ => .fail) fun x0 l4 h3 => nork x0 (u3 l4 fun v6 v7 _ l5 => u2 l5 fun _ v8 l6 => castI .u64 v8 fun i4 => zK .i64 l6 fun i5 => l1 [v6, v7, .int .u64 i4, I (ad i5 1)] h3) (u3 l4 fun v6 v7 v8 l5 => z3 l5 fun v9 v10 v11 => nork x0 (l1 [v6, v7, v10, v11] h3) (exk 0 x0 (.done .normal [v6, v7, v8, v9, v10] h3) (.done x0 [v6, v7, v8, v9, v10] h3)))) (.done .normal [v2, v3, .und, .und, .int .u64 i2] h2)
noncomputable def tail81 (S : Words) : Ex → List V → Heap → Res := fun x0 l1 h2 => nork x0 (u3 l1 fun v2 v3 _ l2 => u2 l2 fun _ v4 l3 => castI .u64 v4 fun i2 => nilk' l3 (pl S v2 1 h2 fun v5 => lenk v5 fun n1 => ifk (iq (.ofNat n1) 0x100000) .fail (backk (ptrk v2 fun p1 n2 => .ret (.ptr p1 n2) h2) (fun v6 _ => backk (ptrk v6 fun p1 n2 => .ret (.ptr p1 (Nat.add n2 1)) h2) (fun v7 _ => backk (pl0 S v7 h2 fun v8 => .ret v8 h2) (fun v8 _ => backk (ptrk v3 fun p1 n2 => S.load h2 p1 n2 5 fun l4 => .ret (.agg 5 l4) h2) (fun v9 _ => partsk v9 fun n2 l4 => ak (Nat.beq n2 5) (appk l4 [] fun l5 => S.row 5 1 l5 fun l6 => S.new h2 (.arr 5 1 l6 .false) fun p1 h3 => backk (pl0 S v7 h3 fun v10 => .ret v10 h3) (fun v10 _ => veqk v10 v8 (backk (ptrk v3 fun p2 n3 => S.load h3 p2 n3 5 fun l7 => .ret (.agg 5 l7) h3) (fun v11 _ => veqk v11 v9 (S.app 5 v8 (.slice p1 0 1 (.some 1) 5) h3 fun v12 h4 => backk (ptrk v2 fun p2 n3 => .ret (.ptr p2 n3) h4) (fun v13 _ => backk (ptrk v13 fun p2 n3 => .ret (.ptr p2 (Nat.add n3 1)) h4) (fun v14 _ => ptrk v14 fun p2 n3 => onek v12 (S.store h4 p2 n3 1 [v12] fun h5 => .ret (.tup [.int .u64 i2, ik 0]) h5)) fun _ _ => .fail) fun _ _ => .fail)) fun _ _ => .fail)) fun _ _ => .fail)) fun _ _ => .fail) fun _ _ => .fail) fun _ _ => .fail) fun _ _ => .fail))) (u3 l1 fun _ _ v2 l2 => z2 l2 fun v3 _ => endk x0 (.ret (.tup [v2, v3]) h2) fun v4 => .pan v4 h2)
theorem sh81_eq : sh81 = fun S n c l h => z2 l fun v0 v1 => partsk v1 fun n0 l0 => zk n0 .fail (S.new h (.arr n0 1 (.lf l0) .false) fun p0 h0 => lK S .i64 h0 p0 0 fun i0 => clK c .u64 f109 [v0, I i0] h0 fun i1 h1 => contk (lpk (body81 S c) n [v0, .ptr p0 0, .int .u64 i1, ik 0] h1) (tail81 S)) := rfl
def shSame (m : Nat) (cf : CF) (l : List V) (h : Heap) : Res := sameF l h (sh110 words m cf l h)
noncomputable section
abbrev e3tabE : PO := .sh (sh3 words)
abbrev e4tabE : PO := .sh (sh4 words)
abbrev e5tabE : PO := .sh (sh5 words)
abbrev e6tabE : PO := .sh (sh6 words)
abbrev e8tabE : PO := .sh (sh8 words)
abbrev e9tabE : PO := .orc orcY
abbrev e10tabE : PO := .sh (sh10 words)
abbrev e11tabE : PO := .sh (sh11 words)
abbrev e12tabE : PO := .sh (sh12 words)
abbrev e13tabE : PO := .sh (sh13 words)
abbrev e14tabE : PO := .sh (sh14 words)
abbrev e15tabE : PO := .sh (sh15 words)
abbrev e16tabE : PO := .sh (sh16 words)
abbrev e17tabE : PO := .sh (sh17 words)
abbrev e18tabE : PO := .sh (sh18 words)
abbrev e19tabE : PO := .sh (sh19 words)
abbrev e20tabE : PO := .sh (sh20 words)
abbrev e21tabE : PO := .sh (sh21 words)
abbrev e22tabE : PO := .sh (sh22 words)
abbrev e23tabE : PO := .sh (sh23 words)
abbrev e24tabE : PO := .sh (sh24 words)
abbrev e25tabE : PO := .sh (sh25 words)
abbrev e26tabE : PO := .sh (sh26 words)
abbrev e27tabE : PO := .sh (sh27 words)
abbrev e28tabE : PO := .sh (sh28 words)
abbrev e29tabE : PO := .sh (sh29 words)
abbrev e36tabE : PO := .sh (sh36 words)
abbrev e37tabE : PO := .sh (sh37 words)
abbrev e38tabE : PO := .sh (sh38 words)
abbrev e39tabE : PO := .sh (sh39 words)
abbrev e40tabE : PO := .sh (sh40 words)
abbrev e41tabE : PO := .sh (sh41 words)
abbrev e42tabE : PO := .sh (sh42 words)
abbrev e43tabE : PO := .sh (sh43 words)
abbrev e44tabE : PO := .sh (sh44 words)
abbrev e45tabE : PO := .sh (sh45 words)
abbrev e46tabE : PO := .sh (sh46 words)
abbrev e47tabE : PO := .sh (sh47 words)
abbrev e48tabE : PO := .sh (sh48 words)
abbrev e49tabE : PO := .sh (sh49 words)
abbrev e50tabE : PO := .sh (sh50 words)
abbrev e51tabE : PO := .sh (sh51 words)
abbrev e52tabE : PO := .sh (sh52 words)
abbrev e53tabE : PO := .sh (sh53 words)
abbrev e54tabE : PO := .sh (sh54 words)
abbrev e55tabE : PO := .sh (sh55 words)
abbrev e56tabE : PO := .sh (sh56 words)
abbrev e57tabE : PO := .sh (sh57 words)
abbrev e58tabE : PO := .sh (sh58 words)
abbrev e59tabE : PO := .sh (sh59 words)
abbrev e60tabE : PO := .sh (sh60 words)
abbrev e61tabE : PO := .sh (sh61 words)
abbrev e62tabE : PO := .sh (sh62 words)
abbrev e63tabE : PO := .sh (sh63 words)
abbrev e71tabE : PO := .sh (sh71 words)
abbrev e72tabE : PO := .sh (sh72 words)
abbrev e73tabE : PO := .sh (sh73 words)
abbrev e74tabE : PO := .sh (sh74 words)
abbrev e75tabE : PO := .sh (sh75 words)
abbrev e76tabE : PO := .sh (sh76 words)
abbrev e77tabE : PO := .sh (sh77 words)
abbrev e78tabE : PO := .sh (sh78 words)
abbrev e79tabE : PO := .sh (sh79 words)
abbrev e80tabE : PO := .sh (sh80 words)
abbrev e81tabE : PO := .sh (sh81 words)
abbrev e82tabE : PO := .sh (sh82 words)
abbrev e83tabE : PO := .sh (sh83 words)
abbrev e84tabE : PO := .sh (sh84 words)
abbrev e85tabE : PO := .sh (sh85 words)
abbrev e86tabE : PO := .sh (sh86 words)
abbrev e87tabE : PO := .sh (sh87 words)
abbrev e88tabE : PO := .sh (sh88 words)
abbrev e89tabE : PO := .sh (sh89 words)
abbrev e90tabE : PO := .sh (sh90 words)
abbrev e91tabE : PO := .sh (sh91 words)
abbrev e92tabE : PO := .sh (sh92 words)
abbrev e101tabE : PO := .sh (sh101 words)
abbrev e102tabE : PO := .sh (sh102 words)
abbrev e103tabE : PO := .sh (sh103 words)
abbrev e104tabE : PO := .sh (sh104 words)
abbrev e105tabE : PO := .sh (sh105 words)
abbrev e106tabE : PO := .sh (sh106 words)
abbrev e107tabE : PO := .sh (sh107 words)
abbrev e108tabE : PO := .sh (sh108 words)
abbrev e109tabE : PO := .sh (sh109 words)
abbrev e110tabE : PO := .sh shSame
abbrev e111tabE : PO := .sh (sh111 words)
abbrev e112tabE : PO := .sh (sh112 words)
abbrev e113tabE : PO := .sh (sh113 words)
abbrev e114tabE : PO := .sh (sh114 words)
abbrev e115tabE : PO := .sh (sh115 words)
abbrev e136tabE : PO := .sh (sh136 words)
abbrev e138tabE : PO := .sh (sh138 words)
def tabEz1 : Go.Ev.N PO := ⟨.no, .no, .no, .no, .no, .no, .no, .no, .no, .no, .no, .no, .no, .no, .no, .no⟩
def tabEz2 : Go.Ev.N (Go.Ev.N PO) := ⟨tabEz1, tabEz1, tabEz1, tabEz1, tabEz1, tabEz1, tabEz1, tabEz1, tabEz1, tabEz1, tabEz1, tabEz1, tabEz1, tabEz1, tabEz1, tabEz1⟩
def tabEz3 : Go.Ev.N (Go.Ev.N (Go.Ev.N PO)) := ⟨tabEz2, tabEz2, tabEz2, tabEz2, tabEz2, tabEz2, tabEz2, tabEz2, tabEz2, tabEz2, tabEz2, tabEz2, tabEz2, tabEz2, tabEz2, tabEz2⟩
def tabE1_000 : Go.Ev.N PO := ⟨.no, .no, .no, e3tabE, e4tabE, e5tabE, e6tabE, .no, e8tabE, e9tabE, e10tabE, e11tabE, e12tabE, e13tabE, e14tabE, e15tabE⟩
def tabE1_001 : Go.Ev.N PO := ⟨e16tabE, e17tabE, e18tabE, e19tabE, e20tabE, e21tabE, e22tabE, e23tabE, e24tabE, e25tabE, e26tabE, e27tabE, e28tabE, e29tabE, .no, .no⟩
def tabE1_002 : Go.Ev.N PO := ⟨.no, .no, .no, .no, e36tabE, e37tabE, e38tabE, e39tabE, e40tabE, e41tabE, e42tabE, e43tabE, e44tabE, e45tabE, e46tabE, e47tabE⟩
def tabE1_003 : Go.Ev.N PO := ⟨e48tabE, e49tabE, e50tabE, e51tabE, e52tabE, e53tabE, e54tabE, e55tabE, e56tabE, e57tabE, e58tabE, e59tabE, e60tabE, e61tabE, e62tabE, e63tabE⟩
def tabE1_004 : Go.Ev.N PO := ⟨.no, .no, .no, .no, .no, .no, .no, e71tabE, e72tabE, e73tabE, e74tabE, e75tabE, e76tabE, e77tabE, e78tabE, e79tabE⟩
def tabE1_005 : Go.Ev.N PO := ⟨e80tabE, e81tabE, e82tabE, e83tabE, e84tabE, e85tabE, e86tabE, e87tabE, e88tabE, e89tabE, e90tabE, e91tabE, e92tabE, .no, .no, .no⟩
def tabE1_006 : Go.Ev.N PO := ⟨.no, .no, .no, .no, .no, e101tabE, e102tabE, e103tabE, e104tabE, e105tabE, e106tabE, e107tabE, e108tabE, e109tabE, e110tabE, e111tabE⟩
def tabE1_007 : Go.Ev.N PO := ⟨e112tabE, e113tabE, e114tabE, e115tabE, .no, .no, .no, .no, .no, .no, .no, .no, .no, .no, .no, .no⟩
def tabE1_008 : Go.Ev.N PO := ⟨.no, .no, .no, .no, .no, .no, .no, .no, e136tabE, .no, e138tabE, .no, .no, .no, .no, .no⟩
def tabE2_00 : Go.Ev.N (Go.Ev.N PO) := ⟨tabE1_000, tabE1_001, tabE1_002, tabE1_003, tabE1_004, tabE1_005, tabE1_006, tabE1_007, tabE1_008, tabEz1, tabEz1, tabEz1, tabEz1, tabEz1, tabEz1, tabEz1⟩
def tabE3_0 : Go.Ev.N (Go.Ev.N (Go.Ev.N PO)) := ⟨tabE2_00, tabEz2, tabEz2, tabEz2, tabEz2, tabEz2, tabEz2, tabEz2, tabEz2, tabEz2, tabEz2, tabEz2, tabEz2, tabEz2, tabEz2, tabEz2⟩
def tabE : FT := ⟨tabE3_0, tabEz3, tabEz3, tabEz3, tabEz3, tabEz3, tabEz3, tabEz3, tabEz3, tabEz3, tabEz3, tabEz3, tabEz3, tabEz3, tabEz3, tabEz3⟩
theorem tabEOk : TabOk Try.prog 0 tabE := TabOk.of2 (l := [(f3, e3tabE), (f4, e4tabE), (f5, e5tabE), (f6, e6tabE), (f8, e8tabE), (f9, e9tabE), (f10, e10tabE), (f11, e11tabE), (f12, e12tabE), (f13, e13tabE), (f14, e14tabE), (f15, e15tabE), (f16, e16tabE), (f17, e17tabE), (f18, e18tabE), (f19, e19tabE), (f20, e20tabE), (f21, e21tabE), (f22, e22tabE), (f23, e23tabE), (f24, e24tabE), (f25, e25tabE), (f26, e26tabE), (f27, e27tabE), (f28, e28tabE), (f29, e29tabE), (f36, e36tabE), (f37, e37tabE), (f38, e38tabE), (f39, e39tabE), (f40, e40tabE), (f41, e41tabE), (f42, e42tabE), (f43, e43tabE), (f44, e44tabE), (f45, e45tabE), (f46, e46tabE), (f47, e47tabE), (f48, e48tabE), (f49, e49tabE), (f50, e50tabE), (f51, e51tabE), (f52, e52tabE), (f53, e53tabE), (f54, e54tabE), (f55, e55tabE), (f56, e56tabE), (f57, e57tabE), (f58, e58tabE), (f59, e59tabE), (f60, e60tabE), (f61, e61tabE), (f62, e62tabE), (f63, e63tabE), (f71, e71tabE), (f72, e72tabE), (f73, e73tabE), (f74, e74tabE), (f75, e75tabE), (f76, e76tabE), (f77, e77tabE), (f78, e78tabE), (f79, e79tabE), (f80, e80tabE), (f81, e81tabE), (f82, e82tabE), (f83, e83tabE), (f84, e84tabE), (f85, e85tabE), (f86, e86tabE), (f87, e87tabE), (f88, e88tabE), (f89, e89tabE), (f90, e90tabE), (f91, e91tabE), (f92, e92tabE), (f101, e101tabE), (f102, e102tabE), (f103, e103tabE), (f104, e104tabE), (f105, e105tabE), (f106, e106tabE), (f107, e107tabE), (f108, e108tabE), (f109, e109tabE), (f110, e110tabE), (f111, e111tabE), (f112, e112tabE), (f113, e113tabE), (f114, e114tabE), (f115, e115tabE), (f136, e136tabE), (f138, e138tabE)]) (by kernel_rfl) (OkL.cons (po3) (OkL.cons (po4) (OkL.cons (po5) (OkL.cons (po6) (OkL.cons (po8) (OkL.cons (fnok_Y enters9 worksY) (OkL.cons (po10) (OkL.cons (po11) (OkL.cons (po12) (OkL.cons (po13) (OkL.cons (po14) (OkL.cons (po15) (OkL.cons (po16) (OkL.cons (po17) (OkL.cons (po18) (OkL.cons (po19) (OkL.cons (po20) (OkL.cons (po21) (OkL.cons (po22) (OkL.cons (po23) (OkL.cons (po24) (OkL.cons (po25) (OkL.cons (po26) (OkL.cons (po27) (OkL.cons (po28) (OkL.cons (po29) (OkL.cons (po36) (OkL.cons (po37) (OkL.cons (po38) (OkL.cons (po39) (OkL.cons (po40) (OkL.cons (po41) (OkL.cons (po42) (OkL.cons (po43) (OkL.cons (po44) (OkL.cons (po45) (OkL.cons (po46) (OkL.cons (po47) (OkL.cons (po48) (OkL.cons (po49) (OkL.cons (po50) (OkL.cons (po51) (OkL.cons (po52) (OkL.cons (po53) (OkL.cons (po54) (OkL.cons (po55) (OkL.cons (po56) (OkL.cons (po57) (OkL.cons (po58) (OkL.cons (po59) (OkL.cons (po60) (OkL.cons (po61) (OkL.cons (po62) (OkL.cons (po63) (OkL.cons (po71) (OkL.cons (po72) (OkL.cons (po73) (OkL.cons (po74) (OkL.cons (po75) (OkL.cons (po76) (OkL.cons (po77) (OkL.cons (po78) (OkL.cons (po79) (OkL.cons (po80) (OkL.cons (po81) (OkL.cons (po82) (OkL.cons (po83) (OkL.cons (po84) (OkL.cons (po85) (OkL.cons (po86) (OkL.cons (po87) (OkL.cons (po88) (OkL.cons (po89) (OkL.cons (po90) (OkL.cons (po91) (OkL.cons (po92) (OkL.cons (po101) (OkL.cons (po102) (OkL.cons (po103) (OkL.cons (po104) (OkL.cons (po105) (OkL.cons (po106) (OkL.cons (po107) (OkL.cons (po108) (OkL.cons (po109) (OkL.cons (po110F) (OkL.cons (po111) (OkL.cons (po112) (OkL.cons (po113) (OkL.cons (po114) (OkL.cons (po115) (OkL.cons (po136) (OkL.cons (po138) (.nil))))))))))))))))))))))))))))))))))))))))))))))))))))))))))))))))))))))))))))))))))))))))))))))
theorem tabEc9 (m d : Nat) (l : List V) (h : Heap) : call tabE m (d + 1) ⟨.d0, .d0, .d0, .d9⟩ l h = orcY l h := by kernel_rfl
end

theorem call109E (n d : Nat) (l : List V) (h : Heap) : call tabE n (d + 1) f109 l h = sh109 words n (call tabE n d) l h := by kernel_rfl
theorem call82E (n d : Nat) (l : List V) (h : Heap) : call tabE n (d + 1) f82 l h = sh82 words n (call tabE n d) l h := by kernel_rfl
theorem call110E (n d : Nat) (l : List V) (h : Heap) : call tabE n (d + 1) f110 l h = sameF l h (sh110 words n (call tabE n d) l h) := by kernel_rfl

/-- what is not the same the quick way -/
theorem sameF_any {l : List V} {h h' : Heap} {u v : V} (hh : sameF l h (.pan u h) = .ret v h') : v = .bool .false ∧ h' = h ∧ ∀ z, sameF l h z = .ret (.bool .false) h := by
  have hr : (Res.ret v h') ≠ .fail := by simp
  obtain ⟨v, l1, rfl, h1⟩ := unc_ok hh hr
  obtain ⟨u, l2, rfl, h2⟩ := unc_ok h1 hr
  obtain ⟨rfl, h3⟩ := nilk'_ok h2 hr
  obtain ⟨n0, cs, rfl, h4⟩ := aggk_ok h3 hr
  obtain ⟨n1, ds, rfl, h5⟩ := aggk_ok h4 hr
  rcases ifk_ne h5 with ⟨e0, h6⟩ | ⟨_, h6⟩
  case inr => cases h6
  rcases ifk_ne h6 with ⟨e1, h7⟩ | ⟨_, h7⟩
  case inr => cases h7
  obtain ⟨a0, c1, rfl, k1⟩ := unc_ok h7 hr
  obtain ⟨a1, c2, rfl, k2⟩ := unc_ok k1 hr
  obtain ⟨a2, c3, rfl, k3⟩ := unc_ok k2 hr
  obtain ⟨a3, c4, rfl, k4⟩ := unc_ok k3 hr
  obtain ⟨a4, c5, rfl, k5⟩ := unc_ok k4 hr
  obtain ⟨rfl, k6⟩ := nilk'_ok k5 hr
  obtain ⟨b0, d1, rfl, m1⟩ := unc_ok k6 hr
  obtain ⟨b1, d2, rfl, m2⟩ := unc_ok m1 hr
  obtain ⟨b2, d3, rfl, m3⟩ := unc_ok m2 hr
  obtain ⟨b3, d4, rfl, m4⟩ := unc_ok m3 hr
  obtain ⟨b4, d5, rfl, m5⟩ := unc_ok m4 hr
  obtain ⟨rfl, m6⟩ := nilk'_ok m5 hr
  obtain ⟨i0, rfl, q1⟩ := castI_det m6 hr
  obtain ⟨j0, rfl, q2⟩ := castI_det q1 hr
  rcases ifk_ne q2 with ⟨s0, q3⟩ | ⟨_, q3⟩
  case inr => cases q3
  obtain ⟨i1, rfl, q4⟩ := castI_det q3 hr
  obtain ⟨j1, rfl, q5⟩ := castI_det q4 hr
  rcases ifk_ne q5 with ⟨s1, q6⟩ | ⟨_, q6⟩
  case inr => cases q6
  obtain ⟨tl, tn, rfl, q7⟩ := strk_ok q6 hr
  obtain ⟨ul, un, rfl, q8⟩ := strk_ok q7 hr
  rcases ifk_ne q8 with ⟨s2, q9⟩ | ⟨_, q9⟩
  case inr => cases q9
  rcases slk_ok q9 hr with ⟨p, o, m, ca, sa, rfl, q10⟩ | ⟨_, q10⟩ | ⟨_, q10⟩
  case inr.inl => cases q10
  case inr.inr => cases q10
  rcases slk_ok q10 hr with ⟨p', o', m', cb, sb, rfl, q11⟩ | ⟨_, q11⟩ | ⟨_, q11⟩
  case inr.inl => cases q11
  case inr.inr => cases q11
  rcases ifk_ne q11 with ⟨s3, q12⟩ | ⟨_, q12⟩
  case inr => cases q12
  obtain ⟨x, q13, f1⟩ := load1k_det q12 hr
  obtain ⟨y, q14, f2⟩ := load1k_det q13 hr
  obtain ⟨x, rfl, q15⟩ := castI_det q14 hr
  obtain ⟨y, rfl, q16⟩ := castI_det q15 hr
  rcases ifk_ne q16 with ⟨_, q17⟩ | ⟨s7, q17⟩
  · cases q17
  cases q17
  refine ⟨rfl, rfl, fun z => ?_⟩
  simp only [sameF, unc_cons, nilk'_nil, aggk_agg, e0, e1, ifk_true, castI_int, s0, s1, strk_str, s2, slk_slice, s3, f1, f2, s7, ifk_false]

section loop
variable {h1 : Heap} {b p p0 : Bid} {o m i : Nat} {ca : Option Nat} {sa : Nat} {c q si : Int} {ch xs : List V} {n d : Nat} {again : List V → Heap → Res}
abbrev st81 (b p0 : Bid) (o : Nat) (c : Int) (i : Nat) : List V := [.ptr b o, .ptr p0 0, .int .u64 c, ik i]
theorem body81_end {cf : CF} (e1 : ∀ q : V → Res, words.load1 h1 b (Nat.add o 1) q = q (.slice p 0 m ca sa)) (hi : ¬ i < m) : body81 words cf again (st81 b p0 o c i) h1 = .done .normal [.ptr b o, .ptr p0 0, .und, .und, .int .u64 c] h1 := by
  have n1 : ilt (.ofNat i) (.ofNat m) = false := by rw [ilt_nat]; simpa using hi
  simp -implicitDefEqProofs only [body81, st81, ↓u3, ↓unc_cons, ↓ik, ↓castF_int, ↓zF, ↓nilk'_nil, ↓pl, ↓ptrk_ptr, ↓e1, ↓lenk_slice, ↓n1, ↓ifk_false]
theorem body81_next {cf : CF} (e1 : ∀ q : V → Res, words.load1 h1 b (Nat.add o 1) q = q (.slice p 0 m ca sa)) (hi : i < m) (hm : m < 1000000) (e2 : ∀ k : List V → Res, words.load h1 p (Nat.add 0 (Nat.mul i 5)) 5 k = k ch)
    (e3 : ∀ k : List V → Res, words.load h1 p0 0 5 k = k xs) (e4 : cf f110 [.agg 5 ch, .agg 5 xs] h1 = .ret (.bool .false) h1) (e5 : ∀ k : V → Res, words.load1 h1 p (Nat.add 0 (Nat.mul i 5)) k = k (.int .i64 q))
    (e6 : ∀ k : V → Res, words.load1 h1 p0 0 k = k (.int .i64 si)) :
    body81 words cf again (st81 b p0 o c i) h1 = again (st81 b p0 o (bif ieq q si then wrapv .u64 (Int.add c (.ofNat 1)) else c) (i + 1)) h1 := by
  have n1 : ilt (.ofNat i) (.ofNat m) = true := by rw [ilt_nat]; simpa using hi
  have n2 : Nat.blt i m = true := by simpa [Nat.blt_eq] using hi
  have n3 := ad_small (i := i) (by omega)
  cases hq : ieq q si
  · simp -implicitDefEqProofs only [body81, st81, ↓u2, ↓u3, ↓zK, ↓unc_cons, ↓ik, ↓I, ↓castF_int, ↓castI_int, ↓zF, ↓nilk'_nil, ↓pl, ↓pl0, ↓plI0, ↓ptrk_ptr, ↓e1, ↓lenk_slice, ↓n1, ↓ifk_true, ↓ifk_false, ↓backk_ret, ↓slk_slice, ↓natk_ofNat, ↓ak, ↓n2, ↓e2, ↓e3, ↓clB, ↓e4, ↓castB_bool, ↓e5, ↓e6, ↓hq, ↓contk_done, ↓nork_normal, ↓n3, cond_false]
  · simp -implicitDefEqProofs only [body81, st81, ↓u2, ↓u3, ↓zK, ↓unc_cons, ↓ik, ↓I, ↓castF_int, ↓castI_int, ↓zF, ↓nilk'_nil, ↓pl, ↓pl0, ↓plI0, ↓ptrk_ptr, ↓e1, ↓lenk_slice, ↓n1, ↓ifk_true, ↓ifk_false, ↓backk_ret, ↓slk_slice, ↓natk_ofNat, ↓ak, ↓n2, ↓e2, ↓e3, ↓clB, ↓e4, ↓castB_bool, ↓e5, ↓e6, ↓hq, ↓contk_done, ↓nork_normal, ↓n3, cond_true]
end loop
noncomputable def scanP (t : T) (s j1 : Int) (ul un m' : Nat) (y : Int) (h1 : Heap) (z : Res) (yes : Int → Res) (n : Nat) : Nat → Int → Res :=
  Nat.rec (motive := fun _ => Nat → Int → Res) (fun _ c => yes c) (fun _ ih i c => T.getk t i fun ch => unc ch fun a0 ch => unc ch fun a1 ch => unc ch fun a2 ch => unc ch fun a3 ch => unc ch fun _ ch => nilk' ch
    (castI .i64 a0 fun q => ifk (ieq q s) (castI .i64 a1 fun i1 => ifk (ieq i1 j1) (strk a3 fun tl tn => ifk (Go.Ev.seq tl tn ul un) (slk a2 (fun p o m _ _ => ifk (and (Nat.beq m m') (Nat.blt p.val h1.nx.val))
      (load1k h1 p o fun x => castI .u64 x fun x => ifk (ieq x y) z (ih (Nat.succ i) (wrapv .u64 (Int.add c (.ofNat 1))))) z) z z) z) z) z)) n
noncomputable def putF (l : List V) (h : Heap) (z : Res) : Res :=
  unc l fun v l => unc l fun x l => nilk' l (aggk x fun n0 xs => ifk (Nat.beq n0 5) (unc xs fun s0 rest => castI .i64 s0 fun si => Int.rec (motive := fun _ => Res) (fun sn => ptrk v fun b o => load1k h b o fun shs => slk shs (fun sp so sm _ _ => ifk (Nat.blt sn sm)
    (load1k h sp (Nat.add so (Nat.mul sn 3)) fun kx => castI .u8 kx fun kq => load1k h b (Nat.add o 1) fun sl => slk sl (fun p lo m _ _ => ifk (and (Nat.beq lo 0) (and (Nat.blt m 1000000) (and (Nat.blt b.val h.nx.val) (and (Nat.blt p.val h.nx.val) (Nat.blt sp.val h.nx.val)))))
      (h.getk p fun blk => arrk blk fun g _ t _ => ifk (Nat.beq g 5) (unc rest fun r1 rr => unc rr fun r2 rr => unc rr fun r3 rr => unc rr fun r4 rr => nilk' rr (h.newk (.arr 5 1 (.lf [s0, r1, r2, r3, r4]) false) fun p0 h1 => castI .i64 r1 fun j1 => strk r3 fun ul un => slk r2 (fun p' o' m' _ _ => ifk (and (Nat.blt 0 m') (Nat.blt p'.val h1.nx.val))
        (load1k h1 p' o' fun y => castI .u64 y fun y => ifk (ieq kq (.ofNat 3))
          (scanP t (.ofNat sn) j1 ul un m' y h1 z (fun c => tail81 words .normal [.ptr b o, .ptr p0 0, .und, .und, .int .u64 c] h1) m 0 (.ofNat 1))
          (scanP t (.ofNat sn) j1 ul un m' y h1 z (fun c => tail81 words .normal [.ptr b o, .ptr p0 0, .und, .und, .int .u64 c] h1) m 0 (.ofNat 0))) z) z z)) z) z) z z) z) z z) (fun _ => z) si) z)
theorem first_lawE {n d : Nat} {h : Heap} {b p : Bid} {o so m s : Nat} {ca : Option Nat} {ss : Nat} {q : Int} (f1 : ∀ q : V → Res, words.load1 h b o q = q (.slice p so m ca ss)) (hm : s < m)
    (f2 : ∀ q' : V → Res, words.load1 h p (Nat.add so (Nat.mul s 3)) q' = q' (.int .u8 q)) : call tabE n (d + 2) f109 [.ptr b o, I (.ofNat s)] h = .ret (.int .u64 (bif ieq q (.ofNat 3) then .ofNat 1 else .ofNat 0)) h := by
  rw [call109E]
  have k := kind_law (n := n) (cf := call tabE n d) f1 hm f2
  simp -implicitDefEqProofs only [sh109, ↓u2, ↓unc_cons, ↓castI_int, ↓nilk'_nil, ↓clK, ↓call82E, ↓k, ↓I, ↓backk_ret, ↓iq]
  cases ieq q (.ofNat 3) <;> rfl
theorem put_slow {n d : Nat} {h h1 : Heap} {v : V} {si c : Int} {xs : List V} (hn : ∀ q, words.new h (.arr 5 1 (.lf xs) false) q = q h.nx h1) (e6 : ∀ k : V → Res, words.load1 h1 h.nx 0 k = k (.int .i64 si)) (hf : call tabE n (d + 1) f109 [v, I si] h1 = .ret (.int .u64 c) h1) :
    sh81 words n (call tabE n (d + 1)) [v, .agg 5 xs] h = contk (lpk (body81 words (call tabE n (d + 1))) n [v, .ptr h.nx 0, .int .u64 c, ik 0] h1) (tail81 words) := by
  rw [sh81_eq]
  simp -implicitDefEqProofs only [↓z2, ↓unc_cons, ↓nilk'_nil, ↓(show ∀ l (q : Nat → List V → Res), partsk (.agg 5 l) q = q 5 l from fun _ _ => rfl), ↓(show ∀ x y, zk 5 x y = y from fun _ _ => rfl), ↓hn, ↓lK, ↓e6, ↓castI_int, ↓clK, ↓hf, ↓backk_ret]
theorem loop81 {n d : Nat} {h1 : Heap} {b p p0 pb : Bid} {o m sn nn sa po m' ul un sb : Nat} {ca cb : Option Nat} {t : T} {ro : Bool} {j1 y : Int} {r4 : V} {z r : Res} {yes : Int → Res} (e1 : ∀ q : V → Res, words.load1 h1 b (Nat.add o 1) q = q (.slice p 0 m ca sa)) (hm : m < 1000000) (hb : h1.t.get p = .arr 5 nn t ro)
    (e3 : ∀ k : List V → Res, words.load h1 p0 0 5 k = k [.int .i64 (.ofNat sn), .int .i64 j1, .slice pb po m' cb sb, .str ul un, r4]) (e6 : ∀ k : V → Res, words.load1 h1 p0 0 k = k (.int .i64 (.ofNat sn))) (hm' : Nat.blt 0 m' = true) (hpb : Nat.blt pb.val h1.nx.val = true)
    (ey : ∀ q : V → Res, load1k h1 pb po q = q (.int .u64 y)) (hr : r ≠ .fail) :
    ∀ (k i f : Nat) (c : Int), i + k = m → k < f → scanP t (.ofNat sn) j1 ul un m' y h1 z yes k i c = r →
      z = r ∨ ∃ c', yes c' = r ∧ lpk (body81 words (call tabE n (d + 1))) f (st81 b p0 o c i) h1 = .done .normal [.ptr b o, .ptr p0 0, .und, .und, .int .u64 c'] h1
  | 0, i, f, c, hk, hf, hh => by
    obtain ⟨f, rfl⟩ : ∃ n', f = n' + 1 := ⟨f - 1, by omega⟩
    exact .inr ⟨c, hh, by rw [lpk_succ]; exact body81_end e1 (by omega)⟩
  | k + 1, i, f, c, hk, hf, hh => by
    obtain ⟨f, rfl⟩ : ∃ n', f = n' + 1 := ⟨f - 1, by omega⟩
    obtain ⟨ch, e2, g1⟩ := T.getk_ok (show T.getk t i _ = r from hh) hr
    obtain ⟨a0, c1, rfl, k1⟩ := unc_ok g1 hr
    obtain ⟨a1, c2, rfl, k2⟩ := unc_ok k1 hr
    obtain ⟨a2, c3, rfl, k3⟩ := unc_ok k2 hr
    obtain ⟨a3, c4, rfl, k4⟩ := unc_ok k3 hr
    obtain ⟨a4, c5, rfl, k5⟩ := unc_ok k4 hr
    obtain ⟨rfl, k6⟩ := nilk'_ok k5 hr
    obtain ⟨q, rfl, h4⟩ := castI_det k6 hr
    rcases ifk_ne h4 with ⟨hq, h5⟩ | ⟨_, h5⟩
    case inr => exact .inl h5
    obtain ⟨i1, rfl, h6⟩ := castI_det h5 hr
    rcases ifk_ne h6 with ⟨s1, h7⟩ | ⟨_, h7⟩
    case inr => exact .inl h7
    obtain ⟨tl, tn, rfl, h8⟩ := strk_ok h7 hr
    rcases ifk_ne h8 with ⟨s2, h9⟩ | ⟨_, h9⟩
    case inr => exact .inl h9
    rcases slk_ok h9 hr with ⟨q0, qo, qm, qc, qs, rfl, h10⟩ | ⟨_, h10⟩ | ⟨_, h10⟩
    case inr.inl => exact .inl h10
    case inr.inr => exact .inl h10
    rcases ifk_ne h10 with ⟨s3, h11⟩ | ⟨_, h11⟩
    case inr => exact .inl h11
    obtain ⟨x, h12, ex⟩ := load1k_det h11 hr
    obtain ⟨x, rfl, h13⟩ := castI_det h12 hr
    rcases ifk_ne h13 with ⟨_, h14⟩ | ⟨s7, h14⟩
    · exact .inl h14
    simp only [Bool.and_eq_true] at s3
    have hmm := Nat.eq_of_beq_eq_true s3.1
    subst hmm
    have hcond : and (Nat.beq qm qm) (and (Nat.blt 0 qm) (and (Nat.blt q0.val h1.nx.val) (Nat.blt pb.val h1.nx.val))) = true := by rw [Nat.beq_refl, hm', s3.2, hpb]; rfl
    have g3 : ∀ z, sameF [.agg 5 [.int .i64 q, .int .i64 i1, .slice q0 qo qm qc qs, .str tl tn, a4], .agg 5 [.int .i64 (.ofNat sn), .int .i64 j1, .slice pb po qm cb sb, .str ul un, r4]] h1 z = .ret (.bool .false) h1 := fun z => by
      simp only [sameF, unc_cons, nilk'_nil, aggk_agg, show Nat.beq 5 5 = true from rfl, ifk_true, castI_int, hq, s1, strk_str, s2, slk_slice, hcond, ex, ey, s7, ifk_false]
    have hi : i < m := by omega
    have ld : ∀ k : V → Res, words.load1 h1 p (Nat.add 0 (Nat.mul i 5)) k = k (.int .i64 q) := fun k => by
      show load1k h1 p (0 + i * 5) k = _
      unfold load1k
      rw [Heap.getk_eq, hb]
      show T.getk t ((0 + i * 5) / 5) (fun ch => nthk ch ((0 + i * 5) % 5) k) = _
      rw [show (0 + i * 5) / 5 = i by omega, show (0 + i * 5) % 5 = 0 by omega, T.getk_eq, e2]
      rfl
    have lN : ∀ k : List V → Res, words.load h1 p (Nat.add 0 (Nat.mul i 5)) 5 k = k [.int .i64 q, .int .i64 i1, .slice q0 qo qm qc qs, .str tl tn, a4] := fun k => by
      show loadk h1 p (0 + i * 5) 5 k = _
      unfold loadk
      rw [Heap.getk_eq, hb]
      have e0 : cellsk t 5 (0 + i * 5) 5 k = zk ((0 + i * 5) % 5) (T.getk t ((0 + i * 5) / 5) k) (gatherk t 5 5 (0 + i * 5) 5 k) := rfl
      show cellsk t 5 (0 + i * 5) 5 k = _
      rw [e0, show (0 + i * 5) / 5 = i by omega, show (0 + i * 5) % 5 = 0 by omega]
      show T.getk t i k = _
      rw [T.getk_eq, e2]
    have step := body81_next (b := b) (p0 := p0) (o := o) (c := c) (again := lpk (body81 words (call tabE n (d + 1))) f) e1 hi hm lN e3 ((call110E n d _ _).trans (g3 _)) ld e6
    rw [hq] at step
    rcases loop81 e1 hm hb e3 e6 hm' hpb ey hr k (i + 1) f _ (by omega) (by omega) h14 with x1 | ⟨c', x1, x2⟩
    · exact .inl x1
    · exact .inr ⟨c', x1, by rw [lpk_succ, step]; exact x2⟩
theorem putF_ok {l : List V} {h : Heap} {z r : Res} (hh : putF l h z = r) (hr : r ≠ .fail) : z = r ∨ sh81 words 1000000 (call tabE 1000000 2) l h = r := by
  obtain ⟨v, l1, rfl, h1⟩ := unc_ok hh hr
  obtain ⟨x, l2, rfl, h2⟩ := unc_ok h1 hr
  obtain ⟨rfl, h3⟩ := nilk'_ok h2 hr
  obtain ⟨n0, xs, rfl, h4⟩ := aggk_ok h3 hr
  rcases ifk_ne h4 with ⟨e0, h4⟩ | ⟨_, h4⟩
  case inr => exact .inl h4
  obtain rfl := Nat.eq_of_beq_eq_true e0
  obtain ⟨s0, rest, rfl, h5⟩ := unc_ok h4 hr
  obtain ⟨si, rfl, h6⟩ := castI_det h5 hr
  cases si with
  | negSucc _ => exact .inl h6
  | ofNat sn =>
  obtain ⟨b, o, rfl, h7⟩ := ptrk_ok (show ptrk v _ = r from h6) hr
  obtain ⟨shs, h8, f1⟩ := load1k_det h7 hr
  rcases slk_ok h8 hr with ⟨sp, so, sm, sc, ss, rfl, h9⟩ | ⟨_, h9⟩ | ⟨_, h9⟩
  case inr.inl => exact .inl h9
  case inr.inr => exact .inl h9
  rcases ifk_ne h9 with ⟨hlt, h10⟩ | ⟨_, h10⟩
  case inr => exact .inl h10
  obtain ⟨kx, h11, f2⟩ := load1k_det h10 hr
  obtain ⟨kq, rfl, h12⟩ := castI_det h11 hr
  obtain ⟨sl, h13, f3⟩ := load1k_det h12 hr
  rcases slk_ok h13 hr with ⟨p, lo, m, ca, sa, rfl, h14⟩ | ⟨_, h14⟩ | ⟨_, h14⟩
  case inr.inl => exact .inl h14
  case inr.inr => exact .inl h14
  rcases ifk_ne h14 with ⟨hg, h15⟩ | ⟨_, h15⟩
  case inr => exact .inl h15
  simp only [Bool.and_eq_true] at hg
  obtain ⟨g1, g2, g3, g4, g5⟩ := hg
  obtain rfl := Nat.eq_of_beq_eq_true g1
  have hm : m < 1000000 := by simpa [Nat.blt_eq] using g2
  have hb : b.val < h.nx.val := by simpa [Nat.blt_eq] using g3
  have hp : p.val < h.nx.val := by simpa [Nat.blt_eq] using g4
  have hsp : sp.val < h.nx.val := by simpa [Nat.blt_eq] using g5
  have hsm : sn < sm := by simpa [Nat.blt_eq] using hlt
  rw [Heap.getk_eq] at h15
  obtain ⟨g, nn, t, ro, e5, h16⟩ := arrk_ok h15 hr
  rcases ifk_ne h16 with ⟨g6, h17⟩ | ⟨_, h17⟩
  case inr => exact .inl h17
  obtain rfl := Nat.eq_of_beq_eq_true g6
  obtain ⟨r1, rr1, rfl, w1⟩ := unc_ok h17 hr
  obtain ⟨r2, rr2, rfl, w2⟩ := unc_ok w1 hr
  obtain ⟨r3, rr3, rfl, w3⟩ := unc_ok w2 hr
  obtain ⟨r4, rr4, rfl, w4⟩ := unc_ok w3 hr
  obtain ⟨rfl, w5⟩ := nilk'_ok w4 hr
  obtain ⟨hA, n1, n2, n3, n4⟩ := new1 h [.int .i64 (.ofNat sn), r1, r2, r3, r4]
  rw [show ([.int .i64 (.ofNat sn), r1, r2, r3, r4] : List V).length = 5 from rfl] at n1 n2
  rw [n1] at w5
  obtain ⟨j1, rfl, w6⟩ := castI_det w5 hr
  obtain ⟨ul, un, rfl, w7⟩ := strk_ok w6 hr
  rcases slk_ok w7 hr with ⟨pb, po, m', cb, sb, rfl, w8⟩ | ⟨_, w8⟩ | ⟨_, w8⟩
  case inr.inl => exact .inl w8
  case inr.inr => exact .inl w8
  rcases ifk_ne w8 with ⟨hc2, w9⟩ | ⟨_, w9⟩
  case inr => exact .inl w9
  simp only [Bool.and_eq_true] at hc2
  obtain ⟨yv, w10, ey⟩ := load1k_det w9 hr
  obtain ⟨y, rfl, w11⟩ := castI_det w10 hr
  have row := row1 (l := [.int .i64 (.ofNat sn), .int .i64 j1, .slice pb po m' cb sb, .str ul un, r4]) (g := 5) rfl (by omega) n2
  have old : ∀ {b : Bid} {o : Nat} (q : V → Res), b.val < h.nx.val → load1k hA b o q = load1k h b o q := fun {b o} q hb => by
    unfold load1k
    rw [Heap.getk_eq, Heap.getk_eq, n3.get b hb]
  have a1 : ∀ q : V → Res, words.load1 hA b o q = q (.slice sp so sm sc ss) := fun q => (old q hb).trans (f1 q)
  have a2 : ∀ q' : V → Res, words.load1 hA sp (Nat.add so (Nat.mul sn 3)) q' = q' (.int .u8 kq) := fun q => (old q hsp).trans (f2 q)
  have a3 : ∀ q : V → Res, words.load1 hA b (Nat.add o 1) q = q (.slice p 0 m ca sa) := fun q => (old q hb).trans (f3 q)
  have e6 : ∀ k : V → Res, words.load1 hA h.nx 0 k = k (.int .i64 (.ofNat sn)) := fun k => load1k_law row rfl k
  have e3 : ∀ k : List V → Res, words.load hA h.nx 0 5 k = k [.int .i64 (.ofNat sn), .int .i64 j1, .slice pb po m' cb sb, .str ul un, r4] := fun k => (loadk_law row (by simp) k).trans (by simp)
  have hf := first_lawE (n := 1000000) (d := 0) a1 hsm a2
  have slow := put_slow (n := 1000000) (d := 1) n1 e6 hf
  have fin : ∀ c : Int, scanP t (.ofNat sn) j1 ul un m' y hA z (fun c => tail81 words .normal [.ptr b o, .ptr h.nx 0, .und, .und, .int .u64 c] hA) m 0 c = r →
      z = r ∨ contk (lpk (body81 words (call tabE 1000000 2)) 1000000 [.ptr b o, .ptr h.nx 0, .int .u64 c, ik 0] hA) (tail81 words) = r := fun c hs => by
    rcases loop81 (n := 1000000) (d := 1) a3 hm (by rw [n3.get p hp]; exact e5) e3 e6 hc2.1 hc2.2 ey hr m 0 1000000 c (by omega) hm hs with x1 | ⟨c', x1, x2⟩
    · exact .inl x1
    · exact .inr (by rw [x2, contk_done]; exact x1)
  rcases ifk_ne w11 with ⟨e7, h18⟩ | ⟨e7, h18⟩
  · rw [e7] at slow
    rcases fin _ h18 with x | x
    · exact .inl x
    · exact .inr (slow.trans x)
  · rw [e7] at slow
    rcases fin _ h18 with x | x
    · exact .inl x
    · exact .inr (slow.trans x)
theorem cfE (m d : Nat) : CFok Try.prog 0 (call tabE m d) := fun f => call_ok tabEOk (n := m) d f
theorem po81F : POok Try.prog 0 81 (.sh fun m cf l h => putF l h (sh81 words m cf l h)) := by
  intro m cf hc
  refine .fn (fun l h r hg hr => ?_) (by decide)
  rcases putF_ok hg hr with h1 | h1
  · exact (po81 m cf hc).1 (by decide) l h r h1 hr
  · exact (po81 1000000 (call tabE 1000000 2) (cfE _ _)).1 (by decide) l h r h1 hr
end
end Go.Ev.W05

