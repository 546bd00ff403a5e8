/- PROVED HERE: 'fathomlaw17.CompsPlain' returns true for every unit, and the unit reads behind the call as it read before; no conditions. -/
import Derived.Test.YtdiepeopeefgpaaEvText
import Derived.Test.YtdiepeopeefgpaaEvIn
import Derived.Test.YtdiepeopeefgpaaRows
import Derived.JoinedCond
import Derived.Deep.DeepHandedRow
import Derived.WalkKit
import Derived.ProofKit
import Derived.OpenShut
import Derived.Carry
import Derived.ChangeSame
import Derived.ChangeSlices
import Derived.ChangeArms
import Derived.Lib.SmallJoins
namespace Go.Ev.WCP
open Go.Proofs Go.ChangeShapes Go.WideShapes Go.ChangeAt Go.RowKit Go.Lib
open Go.Proofs.Ytdiepeopeefgpaa
set_option maxRecDepth 100000
theorem own : ownKnob Try.prog.godebug = none:=by kernel_rfl
theorem laidOut : laidOutB Try.pinned.checked.prog = true:=by kernel_rfl
def tys : List TypeId:=[2,3,4,5,9,22,23,24,25,26,27,29,37,39,41,43,45,47,52,54,56,59,60,61,63,91,111]
theorem tysOk : tysGood Try.prog tys = true:=by kernel_rfl
theorem in3 {tr : List Tr} (h : Ty Try.prog 3 tr) : ∃ n,tr = [.i .i64 n]:=(h.int_inv Try.underlying3).imp fun _ h=>h.1
theorem in2 {tr : List Tr} (h : Ty Try.prog 2 tr) : ∃ n,tr = [.i .i64 n]:=(h.int_inv Try.underlying2).imp fun _ h=>h.1
theorem in5 {tr : List Tr} (h : Ty Try.prog 5 tr) : ∃ n,tr = [.i .u8 n]:=(h.int_inv Try.underlying5).imp fun _ h=>h.1
theorem in4 {tr : List Tr} (h : Ty Try.prog 4 tr) : ∃ b,tr = [.b b]:=h.bool_inv Try.underlying4
theorem in9 {tr : List Tr} (h : Ty Try.prog 9 tr) : ∃ l n,tr = [.s l n]:=by
 obtain ⟨l,n,h,_⟩:=h.str_inv Try.underlying9
 exact ⟨l,n,h⟩
theorem insl {t e g : Nat} {tr : List Tr} (h : Ty Try.prog t tr) (hu : Try.prog.underlying t = some (.slice e)) (hg : Try.prog.cellsOf e = g) : ∃ rows,tr = [.sl g rows]∧rows.length ≤ 140737488351232∧∀ r ∈ rows,Ty Try.prog e r:=by
 subst hg
 exact h.sl_inv hu
theorem in91 {tr : List Tr} (h : Ty Try.prog 91 tr) : ∃ op l n z args p,tr = [.i .u8 op,.s l n,.i .i64 z,.sl 5 args,.i .i64 p]∧∀ a ∈ args,Ty Try.prog 91 a:=by
 have hs:=h.struct_inv Try.underlying91
 obtain ⟨_,_,rfl,h0,hs⟩:=hs.cons_inv
 obtain ⟨_,_,rfl,h1,hs⟩:=hs.cons_inv
 obtain ⟨_,_,rfl,h2,hs⟩:=hs.cons_inv
 obtain ⟨_,_,rfl,h3,hs⟩:=hs.cons_inv
 obtain ⟨_,_,rfl,h4,hs⟩:=hs.cons_inv
 obtain rfl:=hs.nil_inv
 obtain ⟨op,rfl⟩:=in5 h0
 obtain ⟨l,n,rfl⟩:=in9 h1
 obtain ⟨z,rfl⟩:=in2 h2
 obtain ⟨args,rfl,_,ha⟩:=insl (g:=5) h3 Try.underlying60 (by kernel_rfl)
 obtain ⟨p,rfl⟩:=in3 h4
 exact ⟨op,l,n,z,args,p,rfl,ha⟩
theorem isE_n : ∀ (m : Nat) {tr : List Tr},SizeOf.sizeOf tr < m→Ty Try.prog 91 tr→IsE tr
 | 0,_,hm,_=>absurd hm (Nat.not_lt_zero _)
 | m + 1,tr,hm,h=>by
   obtain ⟨op,l,n,z,args,p,rfl,ha⟩:=in91 h
   refine .mk op l n z args p fun a ham=>isE_n m ?_ (ha a ham)
   have:=List.sizeOf_lt_of_mem ham
   simp only [List.cons.sizeOf_spec,Tr.sl.sizeOf_spec] at hm
   omega
theorem isE_of {tr : List Tr} (h : Ty Try.prog 91 tr) : IsE tr:=isE_n _ (Nat.lt_succ_self _) h
theorem in111 {tr : List Tr} (h : Ty Try.prog 111 tr) : ∃ op l n args body p,tr = [.i .u8 op,.s l n,.sl 5 args,.sl 5 body,.i .i64 p]∧(∀ a ∈ args,Ty Try.prog 91 a)∧∀ a ∈ body,Ty Try.prog 111 a:=by
 have hs:=h.struct_inv Try.underlying111
 obtain ⟨_,_,rfl,h0,hs⟩:=hs.cons_inv
 obtain ⟨_,_,rfl,h1,hs⟩:=hs.cons_inv
 obtain ⟨_,_,rfl,h2,hs⟩:=hs.cons_inv
 obtain ⟨_,_,rfl,h3,hs⟩:=hs.cons_inv
 obtain ⟨_,_,rfl,h4,hs⟩:=hs.cons_inv
 obtain rfl:=hs.nil_inv
 obtain ⟨op,rfl⟩:=in5 h0
 obtain ⟨l,n,rfl⟩:=in9 h1
 obtain ⟨args,rfl,_,ha⟩:=insl (g:=5) h2 Try.underlying60 (by kernel_rfl)
 obtain ⟨body,rfl,_,hb⟩:=insl (g:=5) h3 Try.underlying61 (by kernel_rfl)
 obtain ⟨p,rfl⟩:=in3 h4
 exact ⟨op,l,n,args,body,p,rfl,ha,hb⟩
theorem isL_n : ∀ (m : Nat) {tr : List Tr},SizeOf.sizeOf tr < m→Ty Try.prog 111 tr→IsL tr
 | 0,_,hm,_=>absurd hm (Nat.not_lt_zero _)
 | m + 1,tr,hm,h=>by
   obtain ⟨op,l,n,args,body,p,rfl,ha,hb⟩:=in111 h
   refine .mk op l n args body p (fun a ham=>isE_of (ha a ham)) fun a ham=>isL_n m ?_ (hb a ham)
   have:=List.sizeOf_lt_of_mem ham
   simp only [List.cons.sizeOf_spec,Tr.sl.sizeOf_spec] at hm
   omega
theorem isL_of {tr : List Tr} (h : Ty Try.prog 111 tr) : IsL tr:=isL_n _ (Nat.lt_succ_self _) h
theorem isRu_of {tr : List Tr} (h : Ty Try.prog 63 tr) : IsRu tr:=by
 have hs:=h.struct_inv Try.underlying63
 obtain ⟨_,_,rfl,h1,hs⟩:=hs.cons_inv
 obtain ⟨_,_,rfl,h2,hs⟩:=hs.cons_inv
 obtain ⟨_,_,rfl,h3,hs⟩:=hs.cons_inv
 obtain ⟨_,_,rfl,h4,hs⟩:=hs.cons_inv
 obtain rfl:=hs.nil_inv
 obtain ⟨l,n,rfl⟩:=in9 h1
 obtain ⟨args,rfl,_,ha⟩:=insl (g:=5) h2 Try.underlying60 (by kernel_rfl)
 obtain ⟨body,rfl,_,hb⟩:=insl (g:=5) h3 Try.underlying61 (by kernel_rfl)
 obtain ⟨p,rfl⟩:=in3 h4
 exact .mk l n args body p (fun a hm=>isE_of (ha a hm)) fun a hm=>isL_of (hb a hm)
theorem isF_of {tr : List Tr} (h : Ty Try.prog 59 tr) : IsF tr:=by
 have hs:=h.struct_inv Try.underlying59
 obtain ⟨_,_,rfl,h1,hs⟩:=hs.cons_inv
 obtain ⟨_,_,rfl,h2,hs⟩:=hs.cons_inv
 obtain rfl:=hs.nil_inv
 obtain ⟨l,n,rfl⟩:=in9 h1
 obtain ⟨l',n',rfl⟩:=in9 h2
 exact .mk l n l' n'
theorem isC_of {tr : List Tr} (h : Ty Try.prog 47 tr) : IsC tr:=by
 have hs:=h.struct_inv Try.underlying47
 obtain ⟨_,_,rfl,h1,hs⟩:=hs.cons_inv
 obtain ⟨_,_,rfl,h2,hs⟩:=hs.cons_inv
 obtain rfl:=hs.nil_inv
 obtain ⟨l,n,rfl⟩:=in9 h1
 obtain ⟨fs,rfl,_,hf⟩:=insl (g:=2) h2 Try.underlying39 (by kernel_rfl)
 exact .mk l n fs fun a hm=>isF_of (hf a hm)
theorem isT_of {tr : List Tr} (h : Ty Try.prog 45 tr) : IsT tr:=by
 have hs:=h.struct_inv Try.underlying45
 obtain ⟨_,_,rfl,h0,hs⟩:=hs.cons_inv
 obtain ⟨_,_,rfl,h1,hs⟩:=hs.cons_inv
 obtain ⟨_,_,rfl,h2,hs⟩:=hs.cons_inv
 obtain ⟨_,_,rfl,h3,hs⟩:=hs.cons_inv
 obtain ⟨_,_,rfl,h4,hs⟩:=hs.cons_inv
 obtain ⟨_,_,rfl,h5,hs⟩:=hs.cons_inv
 obtain rfl:=hs.nil_inv
 obtain ⟨kd,rfl⟩:=in5 h0
 obtain ⟨l,n,rfl⟩:=in9 h1
 obtain ⟨l',n',rfl⟩:=in9 h2
 obtain ⟨fs,rfl,_,hf⟩:=insl (g:=2) h3 Try.underlying39 (by kernel_rfl)
 obtain ⟨cs,rfl,_,hc⟩:=insl (g:=2) h4 Try.underlying43 (by kernel_rfl)
 obtain ⟨p,rfl⟩:=in3 h5
 exact .mk kd l n l' n' fs cs p (fun a hm=>isF_of (hf a hm)) fun a hm=>isC_of (hc a hm)
theorem isR_of {tr : List Tr} (h : Ty Try.prog 41 tr) : IsR tr:=by
 have hs:=h.struct_inv Try.underlying41
 obtain ⟨_,_,rfl,h0,hs⟩:=hs.cons_inv
 obtain ⟨_,_,rfl,h1,hs⟩:=hs.cons_inv
 obtain ⟨_,_,rfl,h2,hs⟩:=hs.cons_inv
 obtain ⟨_,_,rfl,h3,hs⟩:=hs.cons_inv
 obtain ⟨_,_,rfl,h4,hs⟩:=hs.cons_inv
 obtain ⟨_,_,rfl,h5,hs⟩:=hs.cons_inv
 obtain rfl:=hs.nil_inv
 obtain ⟨l,n,rfl⟩:=in9 h0
 obtain ⟨fs,rfl,_,hf⟩:=insl (g:=2) h1 Try.underlying39 (by kernel_rfl)
 obtain ⟨x,rfl⟩:=in4 h2
 obtain ⟨y,rfl⟩:=in4 h3
 obtain ⟨z,rfl⟩:=in4 h4
 obtain ⟨p,rfl⟩:=in3 h5
 exact .mk l n fs x y z p fun a hm=>isF_of (hf a hm)
theorem isX_of {tr : List Tr} (h : Ty Try.prog 9 tr) : IsX tr:=by
 obtain ⟨l,n,rfl⟩:=in9 h
 exact .mk l n
theorem isI_of {tr : List Tr} (h : Ty Try.prog 52 tr) : IsI tr:=by
 have hs:=h.struct_inv Try.underlying52
 obtain ⟨_,_,rfl,h0,hs⟩:=hs.cons_inv
 obtain ⟨_,_,rfl,h1,hs⟩:=hs.cons_inv
 obtain ⟨_,_,rfl,h2,hs⟩:=hs.cons_inv
 obtain ⟨_,_,rfl,h3,hs⟩:=hs.cons_inv
 obtain rfl:=hs.nil_inv
 obtain ⟨l,n,rfl⟩:=in9 h0
 obtain ⟨l',n',rfl⟩:=in9 h1
 obtain ⟨ts,rfl,lt,ht⟩:=insl (g:=1) h2 Try.underlying37 (by kernel_rfl)
 obtain ⟨p,rfl⟩:=in3 h3
 exact .mk l n l' n' ts p (fun a hm=>isX_of (ht a hm)) (by omega)
theorem isO_of {tr : List Tr} (h : Ty Try.prog 54 tr) : IsO tr:=by
 have hs:=h.struct_inv Try.underlying54
 obtain ⟨_,_,rfl,h0,hs⟩:=hs.cons_inv
 obtain ⟨_,_,rfl,h1,hs⟩:=hs.cons_inv
 obtain rfl:=hs.nil_inv
 obtain ⟨l,n,rfl⟩:=in9 h0
 obtain ⟨p,rfl⟩:=in3 h1
 exact .mk l n p
theorem in29 {tr : List Tr} (h : Ty Try.prog 29 tr) : ∃ ts rs us cs is os,tr = [.sl 6 ts,.sl 6 rs,.sl 4 us,.sl 11 cs,.sl 4 is,.sl 2 os]∧(∀ a ∈ ts,IsT a)∧(∀ a ∈ rs,IsR a)∧(∀ a ∈ us,IsRu a)∧(∀ a ∈ cs,Ty Try.prog 56 a) ∧
 (∀ a ∈ is,IsI a)∧∀ a ∈ os,IsO a:=by
 have hs:=h.struct_inv Try.underlying29
 obtain ⟨_,_,rfl,h0,hs⟩:=hs.cons_inv
 obtain ⟨_,_,rfl,h1,hs⟩:=hs.cons_inv
 obtain ⟨_,_,rfl,h2,hs⟩:=hs.cons_inv
 obtain ⟨_,_,rfl,h3,hs⟩:=hs.cons_inv
 obtain ⟨_,_,rfl,h4,hs⟩:=hs.cons_inv
 obtain ⟨_,_,rfl,h5,hs⟩:=hs.cons_inv
 obtain rfl:=hs.nil_inv
 obtain ⟨ts,rfl,_,ht⟩:=insl (g:=6) h0 Try.underlying22 (by kernel_rfl)
 obtain ⟨rs,rfl,_,hr⟩:=insl (g:=6) h1 Try.underlying23 (by kernel_rfl)
 obtain ⟨us,rfl,_,hu⟩:=insl (g:=4) h2 Try.underlying24 (by kernel_rfl)
 obtain ⟨cs,rfl,_,hc⟩:=insl (g:=11) h3 Try.underlying25 (by kernel_rfl)
 obtain ⟨is,rfl,_,hi⟩:=insl (g:=4) h4 Try.underlying26 (by kernel_rfl)
 obtain ⟨os,rfl,_,ho⟩:=insl (g:=2) h5 Try.underlying27 (by kernel_rfl)
 exact ⟨ts,rs,us,cs,is,os,rfl,fun a hm=>isT_of (ht a hm),fun a hm=>isR_of (hr a hm),fun a hm=>isRu_of (hu a hm),hc,fun a hm=>isI_of (hi a hm),fun a hm=>isO_of (ho a hm)⟩
theorem in56 {tr : List Tr} (h : Ty Try.prog 56 tr) : ∃ l n l' n' ps qs a p,tr = [.s l n,.sl 1 ps,.s l' n',.sl 1 qs] ++ a ++ [.i .i64 p]∧ps.length ≤ 140737488351232∧qs.length ≤ 140737488351232∧Ty Try.prog 29 a:=by
 have hs:=h.struct_inv Try.underlying56
 obtain ⟨_,_,rfl,h0,hs⟩:=hs.cons_inv
 obtain ⟨_,_,rfl,h1,hs⟩:=hs.cons_inv
 obtain ⟨_,_,rfl,h2,hs⟩:=hs.cons_inv
 obtain ⟨_,_,rfl,h3,hs⟩:=hs.cons_inv
 obtain ⟨a,_,rfl,h4,hs⟩:=hs.cons_inv
 obtain ⟨_,_,rfl,h5,hs⟩:=hs.cons_inv
 obtain rfl:=hs.nil_inv
 obtain ⟨l,n,rfl⟩:=in9 h0
 obtain ⟨ps,rfl,lp,_⟩:=insl (g:=1) h1 Try.underlying37 (by kernel_rfl)
 obtain ⟨l',n',rfl⟩:=in9 h2
 obtain ⟨qs,rfl,lq,_⟩:=insl (g:=1) h3 Try.underlying37 (by kernel_rfl)
 obtain ⟨p,rfl⟩:=in3 h5
 exact ⟨l,n,l',n',ps,qs,a,p,by simp,lp,lq,h4⟩
theorem size_app (x y : List Tr) : SizeOf.sizeOf (x ++ y) = SizeOf.sizeOf x + SizeOf.sizeOf y - 1:=by
 induction x with
 | nil=>simp
 | cons z x ih=>
   have p1 : 1 ≤ SizeOf.sizeOf y:=by cases y <;> simp <;> omega
   have p2 : 1 ≤ SizeOf.sizeOf x:=by cases x <;> simp <;> omega
   simp only [List.cons_append,List.cons.sizeOf_spec,ih]; omega
theorem isU_n : ∀ (m : Nat) {tr : List Tr},SizeOf.sizeOf tr < m→Ty Try.prog 29 tr→IsU tr
 | 0,_,hm,_=>absurd hm (Nat.not_lt_zero _)
 | m + 1,tr,hm,h=>by
   obtain ⟨ts,rs,us,cs,is,os,rfl,ht,hr,hu,hc,hi,ho⟩:=in29 h
   refine .mk ts rs us cs is os ht hr hu (fun k hk=>?_) hi ho
   obtain ⟨l,n,l',n',ps,qs,a,p,rfl,lp,lq,ha⟩:=in56 (hc k hk)
   have h1 : IsU a:=isU_n m (by
    have h1:=List.sizeOf_lt_of_mem hk
    have p1 : 1 ≤ SizeOf.sizeOf a:=by cases a <;> simp <;> omega
    rw [size_app,size_app] at h1
    simp only [List.cons.sizeOf_spec,List.nil.sizeOf_spec,Tr.sl.sizeOf_spec] at hm h1
    omega) ha
   generalize hq : a = a' at h1
   cases h1 with
   | mk ts' rs' us' cs' is' os' ht' hr' hu' hc' hi' ho'=>
     subst hq
     exact .mk l n l' n' ps qs _ _ _ _ _ _ p (by omega) (by omega) (.mk ts' rs' us' cs' is' os' ht' hr' hu' hc' hi' ho')
theorem isU_of {tr : List Tr} (h : Ty Try.prog 29 tr) : IsU tr:=isU_n _ (Nat.lt_succ_self _) h
theorem walk3 {H : Type} {enc : TypeId × Value→H} {W : World} {base : Nat} {v : Value} {d : DataW H} {p : List MemPlace} (hok : Value.okWide Try.prog W .any base 29 v) (hT : DataW.Trod enc Try.prog W 0 (fun _=>true) true 29 v d p)
 (hw : ∀ k ∈ d.weights Try.prog 29,k ≤ reachBytes) : Calls Try.prog 3 #[v] W fun e w'=>e = .returned (.bool true)∧Below W.heap.size W w':=by
 obtain ⟨cs,rfl,hsz⟩:=okWide_struct Try.underlying29 hok
 obtain ⟨fuel,hv⟩:=hT
 have r0 : RH Try.prog (voidRho nx0.val) ⟨[],nx0⟩ W:=void_rh (Nat.zero_le _)
 obtain ⟨ρ,h,tr,vs,I,vv,rw',ty,one,hlen⟩:=dat_in tysOk fuel 29 cs.toList (d,p) (by decide) hv hw _ _ r0 void_wr
 have e6 : Try.prog.cellsOf 29 = 6:=by kernel_rfl
 have lv:=vv.len
 have hu:=isU_of ty
 generalize hq : tr = a at hu
 have hu':=hu
 cases hu with
 | mk ts rs us cs' is os ht hr hu2 hc hi ho=>
   subst hq
   obtain ⟨h',e⟩:=plain_law (n:=1000001) (d:=10000) (Nat.le_refl _) (by omega) (Nat.le_refl _) hu' rw'
   have vv' : VR ρ (.agg 6 vs) (.agg cs):=.agg vv one (by omega)
   obtain ⟨_,c⟩:=(call_ok tabWOk (n:=1000001) 10000 f3).1 (by decide) _ _ _ e (fine_ret _ _)
   refine (c ρ W [.agg cs] (.cons vv' .nil) I.rh (fun g hg=>absurd hg (Nat.not_lt_zero g))).mono fun e w' hc=>?_
   obtain ⟨ρ',y,rfl,hy,_,hx⟩:=hc
   cases hy
   exact ⟨rfl,hx.os,hx.tape,hx.output,hx.size,fun k hk=>(hx.keep k hk (I.nw k)).1⟩
noncomputable def laidWorld (os : Os) : World:=World.holding Try.prog os ⟨#[],#[],[]⟩
abbrev unit0 : Value:=.agg #[.slice none 0 0,.slice none 0 0,.slice none 0 0,.slice none 0 0,.slice none 0 0,.slice none 0 0]
theorem contract3 (H : Type) (enc : TypeId × Value→H) (W : World) (base : Nat) (args : Array Value) (ds gs : List (DataW H)) (before : List MemPlace)
 (hval : ∀ (j : Nat) t v,Try.f3.params[j]? = some t→args[j]? = some v→Value.okWide Try.prog W .any base t v)
 (hW : DataW.Whole enc Try.prog Try.f3.params.toList Rows.compsPlainSpec.vars false W args.toList ds gs before)
 (hsz : (DataW.weightsEach Try.prog (Try.f3.params.toList ++ (OpenSpec.ofChange Rows.compsPlainSpec).bare.plain.varTypes Try.prog) (ds ++ gs)).all (· ≤ reachBytes) = true) :
 Calls Try.prog 3 args W fun e W'=>∃ v,e = .returned v∧Rows.compsPlainSpec.post enc Try.prog Try.f3 false true false false W args v W':=by
 have hW':=hW
 obtain ⟨p,q,hA0,hV,rfl,hfz,hnd⟩:=hW
 have hA : DataW.TrodAll enc Try.prog W 0 (fun _=>true) true Try.f3.params.toList args.toList ds p:=hA0
 rw [Try.params3] at hA hval hsz
 obtain ⟨v0,vs0,d0,ds0,p0,q0,hargs,rfl,rfl,h0,r0⟩:=trodAll_cons hA
 obtain ⟨rfl,rfl,rfl⟩:=trodAll_nil r0
 obtain rfl : args = #[v0]:=by cases args; simp_all
 obtain ⟨rfl,rfl⟩:=trodVars_none hV
 have k0:=h0
 have lt0 : ∀ x ∈ p0,x.block < W.heap.size:=by obtain ⟨m,hm⟩:=k0; exact DataW.trod_lt m _ _ _ hm
 clear hA0
 simp only [List.append_nil] at hW'
 have hwt : ∀ k ∈ d0.weights Try.prog 29,k ≤ reachBytes:=fun k hk=>by
  have:=List.all_eq_true.1 hsz k (List.mem_append_left _ hk)
  simpa using this
 refine (walk3 (hval 0 29 v0 rfl rfl) h0 hwt).mono fun e W' ⟨he,bel⟩=>?_
 subst he
 have t0:=trodAll_cons_mk (Below.trod laidOut (by kernel_rfl) (of_decide_eq_true (by kernel_rfl)) k0 bel lt0) trodAll_mk0
 rw [List.append_nil] at t0
 exact ⟨_,rfl,_,_,_,[],p0,[],hW',trodAll_mk1 (shut_bool Try.underlying4 _),t0,rfl,bel.frame _,fun h=>by cases h⟩
theorem reads3 (os : Os) {H : Type} (enc : TypeId × Value→H) : ∃ ds places,DataW.whole enc Try.prog ((laidWorld os).forCall (fun _ _=>0) ⟨#[],#[unit0],[]⟩).memory Try.f3.params.toList Rows.compsPlainSpec.vars false (#[unit0] : Array Value).toList 8 = some (ds,[],places):=
 ⟨[.agg [.nil,.nil,.nil,.nil,.nil,.nil]],[],by kernel_rfl⟩
theorem laid_met3 (os : Os) : laidMet Try.prog Rows.compsPlainRow.laid ((laidWorld os).forCall (fun _ _=>0) ⟨#[],#[unit0],[]⟩).memory:=⟨[],rfl,List.nodup_nil,fun _ _ h=>by cases h⟩
theorem lifted3 (os : Os) (started : os.Started) (H : Type) (enc : TypeId × Value→H) (F : Stop.Interp) :
 ReturnsInHanded {} Try.checked os 3 .any ((OpenSpec.ofChange Rows.compsPlainSpec).preRow enc Try.prog Try.f3 Rows.compsPlainRow.domain false Rows.compsPlainRow.laid) (((OpenSpec.ofChange Rows.compsPlainSpec).at F).post enc Try.prog Try.f3 false true false false):=by
 obtain ⟨ds,places,hx⟩:=reads3 os enc
 refine returnsInHanded_of_row (C:=Try.checked) (s:=OpenSpec.ofChange Rows.compsPlainSpec) own started (by kernel_rfl) Try.func3
  (witness_row_at (enc:=enc) (C:=Try.checked) false (laidWorld os) #[unit0] rfl (by kernel_rfl) (by kernel_rfl) (by kernel_rfl)
    (OpenSpec.preRow_of_cond 8 hx (by kernel_rfl) (fun k hk=>by cases hk) (by kernel_rfl) (laid_met3 os))) ?_
 intro W base args ds gs before hval hW _ _ hsz _ _ _
 exact contract3 H enc W base args ds gs before hval hW hsz
theorem said3 : Rows.CompsPlainSaid:=
 OpenClaim.holds_of_cond 3 Try.f3 rfl rfl rfl rfl rfl rfl rfl ⟨rfl,rfl,rfl,rfl,rfl⟩ rfl rfl rfl rfl rfl (by kernel_rfl) Try.func3 (by kernel_rfl)
  (of_decide_eq_true (by kernel_rfl)) (by unfold Func.isWrapper; first | (rw [if_pos (by decide +kernel)]; kernel_rfl) | (rw [if_neg (by decide +kernel)]; exact ⟨rfl,rfl⟩))
  (fun os started H enc _ F=>by rw [OpenClaim.pre_eq_preRow]; exact lifted3 os started H enc F)
end Go.Ev.WCP
namespace Go.Proofs.Ytdiepeopeefgpaa
theorem compsPlain_holds : Rows.CompsPlainSaid:=Go.Ev.WCP.said3
#print axioms compsPlain_holds
end Go.Proofs.Ytdiepeopeefgpaa
