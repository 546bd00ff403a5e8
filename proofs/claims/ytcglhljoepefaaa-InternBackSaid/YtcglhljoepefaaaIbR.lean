/- PROVED HERE: 'fathomlaw05.InternBack' returns true for every list of shapes, every shape and every list of values, and these read behind the call as they read before; no conditions. -/
import Derived.Test.YtcglhljoepefaaaIbS
import Derived.Test.YtcglhljoepefaaaEvIn
import Derived.Test.YtcglhljoepefaaaRows
import Derived.JoinedCond
import Derived.Deep.DeepHandedRow
import Derived.WalkKit
import Derived.ProofKit
import Derived.OpenShut
import Derived.Carry
import Derived.ChangeSame
import Derived.ChangeSlices
import Derived.ChangeArms
import Derived.Lib.SmallJoins
namespace Go.Ev.WIB
open Go.Proofs Go.ChangeShapes Go.WideShapes Go.ChangeAt Go.RowKit Go.Lib
open Go.Proofs.Ytcglhljoepefaaa
set_option maxRecDepth 100000
theorem own : ownKnob Try.prog.godebug = none:=by kernel_rfl
theorem laidOut : laidOutB Try.pinned.checked.prog = true:=by kernel_rfl
def tys : List TypeId:=[2,3,5,9,22,23,30,48,55,57]
theorem tysOk : tysGood Try.prog tys = true:=by kernel_rfl
theorem map_ex {α β : Type} {f : α→β} : ∀ {l : List β},(∀ r ∈ l,∃ z,r = f z)→∃ zs : List α,l = zs.map f
 | [],_=>⟨[],rfl⟩
 | r :: l,h=>by
   obtain ⟨z,rfl⟩:=h r (by simp)
   obtain ⟨zs,rfl⟩:=map_ex (l:=l) fun r hr=>h r (by simp [hr])
   exact ⟨z :: zs,rfl⟩
theorem insl {t e g : Nat} {tr : List Tr} (h : Ty Try.prog t tr) (hu : Try.prog.underlying t = some (.slice e)) (hg : Try.prog.cellsOf e = g) : ∃ rows,tr = [.sl g rows]∧rows.length ≤ 140737488351232∧∀ r ∈ rows,Ty Try.prog e r:=by
 subst hg
 exact h.sl_inv hu
theorem in55 {tr : List Tr} (h : Ty Try.prog 55 tr) : ∃ zs : List Int,tr = [.sl 1 (zs.map zT)]∧zs.length ≤ 140737488351232:=by
 obtain ⟨rows,rfl,hl,hr⟩:=insl (g:=1) h Try.underlying55 (by kernel_rfl)
 obtain ⟨zs,rfl⟩:=map_ex (f:=zT) fun r hm=>((hr r hm).int_inv Try.underlying3).imp fun _ h=>h.1
 exact ⟨zs,rfl,by simpa using hl⟩
theorem u8_nat {k : Int} (h : (Lit.int .u8 k).wf = true) : ∃ m,k = .ofNat m∧m < 256:=by
 have : 0 ≤ k∧k ≤ 255:=by simpa [Lit.wf,IntKind.has,IntKind.min,IntKind.max,IntKind.signed,IntKind.bits] using h
 exact ⟨k.toNat,(Int.toNat_of_nonneg this.1).symm,by omega⟩
theorem i64_in {k : Int} (h : (Lit.int .i64 k).wf = true) : -9223372036854775808 ≤ k∧k ≤ 9223372036854775807:=by
 simpa [Lit.wf,IntKind.has,IntKind.min,IntKind.max,IntKind.signed,IntKind.bits] using h
theorem in57 {tr : List Tr} (h : Ty Try.prog 57 tr) : ∃ x : Ra,tr = raT x∧x.kind < 256∧x.fields.length ≤ 140737488351232∧x.cases.length ≤ 140737488351232:=by
 have hs:=h.struct_inv Try.underlying57
 obtain ⟨_,_,rfl,h0,hs⟩:=hs.cons_inv
 obtain ⟨_,_,rfl,h1,hs⟩:=hs.cons_inv
 obtain ⟨_,_,rfl,h2,hs⟩:=hs.cons_inv
 obtain rfl:=hs.nil_inv
 obtain ⟨k,rfl,hk⟩:=h0.int_inv Try.underlying5
 obtain ⟨m,rfl,hm⟩:=u8_nat hk
 obtain ⟨fs,rfl,hf⟩:=in55 h1
 obtain ⟨rows,rfl,hl,hr⟩:=insl (g:=1) h2 Try.underlying48 (by kernel_rfl)
 obtain ⟨cs,rfl⟩:=map_ex (f:=fun c : List Int=>[Tr.sl 1 (c.map zT)]) fun r hm=>(in55 (hr r hm)).imp fun _ h=>h.1
 exact ⟨⟨m,fs,cs⟩,rfl,hm,hf,by simpa using hl⟩
theorem in30 {tr : List Tr} (h : Ty Try.prog 30 tr) : ∃ k z l t kids,tr = vT k z l t kids∧(-9223372036854775808 ≤ z∧z ≤ 9223372036854775807)∧l ≤ 140737488351232∧kids.length ≤ 140737488351232∧t < 256 ^ l∧∀ r ∈ kids,Ty Try.prog 30 r:=by
 have hs:=h.struct_inv Try.underlying30
 obtain ⟨_,_,rfl,h0,hs⟩:=hs.cons_inv
 obtain ⟨_,_,rfl,h1,hs⟩:=hs.cons_inv
 obtain ⟨_,_,rfl,h2,hs⟩:=hs.cons_inv
 obtain ⟨_,_,rfl,h3,hs⟩:=hs.cons_inv
 obtain rfl:=hs.nil_inv
 obtain ⟨k,rfl,hk⟩:=h0.int_inv Try.underlying5
 obtain ⟨m,rfl,_⟩:=u8_nat hk
 obtain ⟨z,rfl,hz⟩:=h1.int_inv Try.underlying2
 obtain ⟨l,t,rfl,hl,ht⟩:=h2.str_inv Try.underlying9
 obtain ⟨kids,rfl,hkl,hr⟩:=insl (g:=4) h3 Try.underlying23 (by kernel_rfl)
 exact ⟨m,z,l,t,kids,rfl,i64_in hz,hl,hkl,ht,hr⟩
theorem isV_n : ∀ (m : Nat) {tr : List Tr},SizeOf.sizeOf tr < m→Ty Try.prog 30 tr→IsV tr
 | 0,_,hm,_=>absurd hm (Nat.not_lt_zero _)
 | m + 1,tr,hm,h=>by
   obtain ⟨k,z,l,t,kids,rfl,hz,hl,hkl,ht,hr⟩:=in30 h
   refine .mk k z l t kids hz hl hkl (fun a ham=>isV_n m ?_ (hr a ham)) ht
   have:=List.sizeOf_lt_of_mem ham
   simp only [vT,List.cons.sizeOf_spec,Tr.sl.sizeOf_spec] at hm
   omega
theorem isV_of {tr : List Tr} (h : Ty Try.prog 30 tr) : IsV tr:=isV_n _ (Nat.lt_succ_self _) h
theorem cells_slice {P : Program} {w : World} {r : Reach} {base t e : Nat} {v : Value} (hu : P.underlying t = some (.slice e)) (h : Value.okWide P w r base t v) : v.cells.toList = [v]:=by
 unfold Value.okWide at h
 rw [hu] at h
 simp only [Cell.okWide,hu] at h
 cases v <;> first | rfl | (simp [Cell.ok,hu] at h)
theorem cells_int {P : Program} {w : World} {r : Reach} {base t : Nat} {k : IntKind} {v : Value} (hu : P.underlying t = some (.int k)) (h : Value.okWide P w r base t v) : v.cells.toList = [v]:=by
 unfold Value.okWide at h
 rw [hu] at h
 simp only [Cell.okWide,hu] at h
 cases v <;> first | rfl | (simp [Cell.ok,hu] at h)
theorem max_all : ∀ (l : List (List Tr)),∃ D,∀ r ∈ l,SizeOf.sizeOf r ≤ D
 | []=>⟨0,by simp⟩
 | r :: l=>by
   obtain ⟨D,h⟩:=max_all l
   refine ⟨max D (SizeOf.sizeOf r),fun x hx=>?_⟩
   rcases List.mem_cons.1 hx with rfl | hx
   · omega
   · have:=h x hx; omega
theorem one_row {h : Heap} {A : Nat→Prop} {t : Tr} {vs : List V} (w : RowA h A [t] vs) : ∃ v,vs = [v]∧CellA h A t v:=w.inv1
theorem walk3 {H : Type} {enc : TypeId × Value→H} {W : World} {base : Nat} {v0 v1 v2 : Value} {d0 d1 d2 : DataW H} {p0 p1 p2 : List MemPlace} (ok0 : Value.okWide Try.prog W .any base 22 v0) (ok1 : Value.okWide Try.prog W .any base 3 v1) (ok2 : Value.okWide Try.prog W .any base 23 v2)
 (hT0 : DataW.Trod enc Try.prog W 0 (fun _=>true) true 22 v0 d0 p0) (hT1 : DataW.Trod enc Try.prog W 0 (fun _=>true) true 3 v1 d1 p1) (hT2 : DataW.Trod enc Try.prog W 0 (fun _=>true) true 23 v2 d2 p2)
 (hw0 : ∀ k ∈ d0.weights Try.prog 22,k ≤ reachBytes) (hw2 : ∀ k ∈ d2.weights Try.prog 23,k ≤ reachBytes) : Calls Try.prog 3 #[v0,v1,v2] W fun e w'=>e = .returned (.bool true)∧Below W.heap.size W w':=by
 obtain ⟨f0,hv0⟩:=hT0
 obtain ⟨f1,hv1⟩:=hT1
 obtain ⟨f2,hv2⟩:=hT2
 rw [cells_slice Try.underlying22 ok0] at hv0
 rw [cells_int Try.underlying3 ok1] at hv1
 rw [cells_slice Try.underlying23 ok2] at hv2
 obtain ⟨z,hz,_,_⟩:=DataW.trod_int Try.underlying3 hv1
 simp only [List.cons.injEq,and_true] at hz
 subst hz
 have r0 : RH Try.prog (voidRho nx0.val) ⟨[],nx0⟩ W:=void_rh (Nat.zero_le _)
 obtain ⟨ρ1,h1,tr1,vs1,I1,vv1,rw1,ty1,_,_⟩:=dat_in tysOk f0 22 [v0] (d0,p0) (by decide) hv0 hw0 _ _ r0 void_wr
 obtain ⟨ρ2,h2,tr2,vs2,I2,vv2,rw2,ty2,_,_⟩:=dat_in tysOk f2 23 [v2] (d2,p2) (by decide) hv2 hw2 _ _ I1.rh I1.nw
 obtain ⟨rows,rfl,hrl,hr⟩:=insl (g:=3) ty1 Try.underlying22 (by kernel_rfl)
 have hex : ∀ r ∈ rows,∃ x : Ra,r = raT x∧x.kind < 256∧x.fields.length ≤ 140737488351232∧x.cases.length ≤ 140737488351232:=fun r hm=>in57 (hr r hm)
 obtain ⟨ras,rfl⟩:=map_ex (f:=raT) fun r hm=>(hex r hm).imp fun _ h=>h.1
 have hk : ∀ x ∈ ras,x.kind < 256∧x.fields.length ≤ 140737488351232∧x.cases.length ≤ 140737488351232:=fun x hx=>by
  obtain ⟨y,e,hy⟩:=hex (raT x) (List.mem_map_of_mem hx)
  have e2 : x = y:=by
   obtain ⟨k,fs,cs⟩:=x
   obtain ⟨k',fs',cs'⟩:=y
   simp only [raT,List.cons.injEq,Tr.i.injEq,Tr.sl.injEq,true_and,and_true] at e
   obtain ⟨a,b,c⟩:=e
   have a' : k = k':=Int.ofNat.inj a
   have inj1 : ∀ x y : Int,zT x = zT y→x = y:=fun x y h=>by simpa [zT] using h
   have b' : fs = fs':=List.map_inj_right (fun x y h=>inj1 x y h) |>.1 b
   have inj2 : ∀ x y : List Int,[Tr.sl 1 (x.map zT)] = [Tr.sl 1 (y.map zT)]→x = y:=fun x y h=>by
    simp only [List.cons.injEq,Tr.sl.injEq,true_and,and_true] at h
    exact List.map_inj_right (fun x y h=>inj1 x y h) |>.1 h
   have c' : cs = cs':=List.map_inj_right (fun x y h=>inj2 x y h) |>.1 c
   rw [a',b',c']
  rw [e2]; exact hy
 obtain ⟨vals,rfl,hvl,hvr⟩:=insl (g:=4) ty2 Try.underlying23 (by kernel_rfl)
 obtain ⟨x1,rfl,c1⟩:=one_row rw1
 obtain ⟨x2,rfl,c2⟩:=one_row rw2
 obtain ⟨D,hD⟩:=max_all vals
 have c1' : CellA h2 (fun x=>x < h2.nx.val) (.sl 3 (ras.map raT)) x1:=c1.up I2.up.nx fun b hb=>I2.up.get b hb
 obtain ⟨h',e⟩:=back_law (n:=20000) (d:=D + 20) (Nat.le_refl _) (by omega) (by simpa using hrl) c1' hk c2 (fun r hm=>⟨isV_of (hvr r hm),by have:=hD r hm; omega⟩) z
 cases vv1 with | cons q1 _=>
 cases vv2 with | cons q2 _=>
 obtain ⟨_,c⟩:=(call_ok tabWOk (n:=20000) (D + 20 + 1) f3).1 (by decide) _ _ _ e (fine_ret _ _)
 refine (c ρ2 W [v0,.int .i64 z,v2] (.cons (q1.mono I2.le) (.cons (.int _ _) (.cons q2 .nil))) I2.rh (fun g hg=>absurd hg (Nat.not_lt_zero g))).mono fun e w' hc=>?_
 obtain ⟨ρ',y,rfl,hy,_,hx⟩:=hc
 cases hy
 exact ⟨rfl,hx.os,hx.tape,hx.output,hx.size,fun k hk=>(hx.keep k hk (I2.nw k)).1⟩
noncomputable def laidWorld (os : Os) : World:=World.holding Try.prog os ⟨#[],#[],[]⟩
abbrev args0 : Array Value:=#[.slice none 0 0,.int .i64 0,.slice none 0 0]
theorem contract3 (H : Type) (enc : TypeId × Value→H) (W : World) (base : Nat) (args : Array Value) (ds gs : List (DataW H)) (before : List MemPlace)
 (hval : ∀ (j : Nat) t v,Try.f3.params[j]? = some t→args[j]? = some v→Value.okWide Try.prog W .any base t v)
 (hW : DataW.Whole enc Try.prog Try.f3.params.toList Rows.internBackSpec.vars false W args.toList ds gs before)
 (hsz : (DataW.weightsEach Try.prog (Try.f3.params.toList ++ (OpenSpec.ofChange Rows.internBackSpec).bare.plain.varTypes Try.prog) (ds ++ gs)).all (· ≤ reachBytes) = true) :
 Calls Try.prog 3 args W fun e W'=>∃ v,e = .returned v∧Rows.internBackSpec.post enc Try.prog Try.f3 false true false false W args v W':=by
 have hW':=hW
 obtain ⟨p,q,hA0,hV,rfl,hfz,hnd⟩:=hW
 have hA : DataW.TrodAll enc Try.prog W 0 (fun _=>true) true Try.f3.params.toList args.toList ds p:=hA0
 rw [Try.params3] at hA hval hsz
 obtain ⟨v0,vs0,d0,ds0,p0,q0,hargs,rfl,rfl,t0,r0⟩:=trodAll_cons hA
 obtain ⟨v1,vs1,d1,ds1,p1,q1,rfl,rfl,rfl,t1,r1⟩:=trodAll_cons r0
 obtain ⟨v2,vs2,d2,ds2,p2,q2,rfl,rfl,rfl,t2,r2⟩:=trodAll_cons r1
 obtain ⟨rfl,rfl,rfl⟩:=trodAll_nil r2
 obtain rfl : args = #[v0,v1,v2]:=by cases args; simp_all
 obtain ⟨rfl,rfl⟩:=trodVars_none hV
 have lt : ∀ {t : TypeId} {v : Value} {d : DataW H} {p : List MemPlace},DataW.Trod enc Try.prog W 0 (fun _=>true) true t v d p→∀ x ∈ p,x.block < W.heap.size:=fun h=>by
  obtain ⟨m,hm⟩:=h
  exact DataW.trod_lt m _ _ _ hm
 clear hA0
 simp only [List.append_nil] at hW'
 have hwt0 : ∀ k ∈ d0.weights Try.prog 22,k ≤ reachBytes:=fun k hk=>by
  have:=List.all_eq_true.1 hsz k (List.mem_append_left _ hk)
  simpa using this
 have hwt2 : ∀ k ∈ d2.weights Try.prog 23,k ≤ reachBytes:=fun k hk=>by
  have:=List.all_eq_true.1 hsz k (List.mem_append_right _ (List.mem_append_right _ (List.mem_append_left _ hk)))
  simpa using this
 refine (walk3 (hval 0 22 v0 rfl rfl) (hval 1 3 v1 rfl rfl) (hval 2 23 v2 rfl rfl) t0 t1 t2 hwt0 hwt2).mono fun e W' ⟨he,bel⟩=>?_
 subst he
 have k0:=Below.trod laidOut (by kernel_rfl) (of_decide_eq_true (by kernel_rfl)) t0 bel (lt t0)
 have k1:=Below.trod laidOut (by kernel_rfl) (of_decide_eq_true (by kernel_rfl)) t1 bel (lt t1)
 have k2:=Below.trod laidOut (by kernel_rfl) (of_decide_eq_true (by kernel_rfl)) t2 bel (lt t2)
 have tt:=trodAll_cons_mk k0 (trodAll_cons_mk k1 (trodAll_cons_mk k2 trodAll_mk0))
 rw [List.append_nil] at tt
 exact ⟨_,rfl,_,_,_,[],_,[],hW',trodAll_mk1 (shut_bool Try.underlying4 _),tt,rfl,bel.frame _,fun h=>by cases h⟩
theorem reads3 (os : Os) {H : Type} (enc : TypeId × Value→H) : ∃ ds places,DataW.whole enc Try.prog ((laidWorld os).forCall (fun _ _=>0) ⟨#[],args0,[]⟩).memory Try.f3.params.toList Rows.internBackSpec.vars false args0.toList 8 = some (ds,[],places):=
 ⟨[.nil,.lit (.int .i64 0),.nil],[],by kernel_rfl⟩
theorem laid_met3 (os : Os) : laidMet Try.prog Rows.internBackRow.laid ((laidWorld os).forCall (fun _ _=>0) ⟨#[],args0,[]⟩).memory:=⟨[],rfl,List.nodup_nil,fun _ _ h=>by cases h⟩
theorem lifted3 (os : Os) (started : os.Started) (H : Type) (enc : TypeId × Value→H) (F : Stop.Interp) :
 ReturnsInHanded {} Try.checked os 3 .any ((OpenSpec.ofChange Rows.internBackSpec).preRow enc Try.prog Try.f3 Rows.internBackRow.domain false Rows.internBackRow.laid) (((OpenSpec.ofChange Rows.internBackSpec).at F).post enc Try.prog Try.f3 false true false false):=by
 obtain ⟨ds,places,hx⟩:=reads3 os enc
 refine returnsInHanded_of_row (C:=Try.checked) (s:=OpenSpec.ofChange Rows.internBackSpec) own started (by kernel_rfl) Try.func3
  (witness_row_at (enc:=enc) (C:=Try.checked) false (laidWorld os) args0 rfl (by kernel_rfl) (by kernel_rfl) (by kernel_rfl)
    (OpenSpec.preRow_of_cond 8 hx (by kernel_rfl) (fun k hk=>by cases hk) (by kernel_rfl) (laid_met3 os))) ?_
 intro W base args ds gs before hval hW _ _ hsz _ _ _
 exact contract3 H enc W base args ds gs before hval hW hsz
theorem said3 : Rows.InternBackSaid:=
 OpenClaim.holds_of_cond 3 Try.f3 rfl rfl rfl rfl rfl rfl rfl ⟨rfl,rfl,rfl,rfl,rfl⟩ rfl rfl rfl rfl rfl (by kernel_rfl) Try.func3 (by kernel_rfl)
  (of_decide_eq_true (by kernel_rfl)) (by unfold Func.isWrapper; first | (rw [if_pos (by decide +kernel)]; kernel_rfl) | (rw [if_neg (by decide +kernel)]; exact ⟨rfl,rfl⟩))
  (fun os started H enc _ F=>by rw [OpenClaim.pre_eq_preRow]; exact lifted3 os started H enc F)
end Go.Ev.WIB
namespace Go.Proofs.Ytcglhljoepefaaa
theorem internBack_holds : Rows.InternBackSaid:=Go.Ev.WIB.said3
#print axioms internBack_holds
end Go.Proofs.Ytcglhljoepefaaa
