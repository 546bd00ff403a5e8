/- PROVED HERE: 'fathomlaw05.InternLoads' returns true for every list of shapes and all bytes (of bulk at most 1048576 together: the given second form), and these read behind the call as they read before. -/
import Derived.Test.YtcglhljoepefaaaLoN
import Derived.Test.YtcglhljoepefaaaEvIn
import Derived.Test.YtcglhljoepefaaaRows
import Derived.JoinedCond
import Derived.Deep.DeepHandedRow
import Derived.WalkKit
import Derived.ProofKit
import Derived.OpenShut
import Derived.Carry
import Derived.ChangeSame
import Derived.ChangeSlices
import Derived.ChangeArms
import Derived.Lib.SmallJoins
namespace Go.Ev.WIB
open Go.Proofs Go.ChangeShapes Go.WideShapes Go.ChangeAt Go.RowKit Go.Lib
open Go.Proofs.Ytcglhljoepefaaa
set_option maxRecDepth 100000
theorem ownL : ownKnob Try.prog.godebug = none:=by kernel_rfl
theorem laidOutL : laidOutB Try.pinned.checked.prog = true:=by kernel_rfl
def tysL : List TypeId:=[3,5,22,40,48,55,57]
theorem tysLOk : tysGood Try.prog tysL = true:=by kernel_rfl
theorem mapEx {α β : Type} {f : α→β} {p : α→Prop} : ∀ {l : List β},(∀ r ∈ l,∃ z,r = f z∧p z)→∃ zs : List α,l = zs.map f∧∀ z ∈ zs,p z
 | [],_=>⟨[],rfl,by simp⟩
 | r :: l,h=>by
   obtain ⟨z,rfl,hz⟩:=h r (by simp)
   obtain ⟨zs,rfl,hzs⟩:=mapEx (l:=l) fun r hr=>h r (by simp [hr])
   exact ⟨z :: zs,rfl,fun y hy=>(List.mem_cons.1 hy).elim (fun e=>e ▸ hz) (hzs y)⟩
theorem inSl {t e g : Nat} {tr : List Tr} (h : Ty Try.prog t tr) (hu : Try.prog.underlying t = some (.slice e)) (hg : Try.prog.cellsOf e = g) : ∃ rows,tr = [.sl g rows]∧rows.length ≤ 140737488351232∧∀ r ∈ rows,Ty Try.prog e r:=by
 subst hg
 exact h.sl_inv hu
theorem inInts {tr : List Tr} (h : Ty Try.prog 55 tr) : ∃ zs : List Int,tr = [.sl 1 (zs.map zT)]∧zs.length ≤ 140737488351232:=by
 obtain ⟨rows,rfl,hl,hr⟩:=inSl (g:=1) h Try.underlying55 (by kernel_rfl)
 obtain ⟨zs,rfl,_⟩:=mapEx (f:=zT) (p:=fun _=>True) fun r hm=>((hr r hm).int_inv Try.underlying3).imp fun _ h=>⟨h.1,trivial⟩
 exact ⟨zs,rfl,by simpa using hl⟩
theorem u8Nat {k : Int} (h : (Lit.int .u8 k).wf = true) : ∃ m,k = .ofNat m∧m < 256:=by
 have : 0 ≤ k∧k ≤ 255:=by simpa [Lit.wf,IntKind.has,IntKind.min,IntKind.max,IntKind.signed,IntKind.bits] using h
 exact ⟨k.toNat,(Int.toNat_of_nonneg this.1).symm,by omega⟩
theorem inShape {tr : List Tr} (h : Ty Try.prog 57 tr) : ∃ x : Ra,tr = raT x∧x.kind < 256:=by
 have hs:=h.struct_inv Try.underlying57
 obtain ⟨_,_,rfl,h0,hs⟩:=hs.cons_inv
 obtain ⟨_,_,rfl,h1,hs⟩:=hs.cons_inv
 obtain ⟨_,_,rfl,h2,hs⟩:=hs.cons_inv
 obtain rfl:=hs.nil_inv
 obtain ⟨k,rfl,hk⟩:=h0.int_inv Try.underlying5
 obtain ⟨m,rfl,hm⟩:=u8Nat hk
 obtain ⟨fs,rfl,_⟩:=inInts h1
 obtain ⟨rows,rfl,_,hr⟩:=inSl (g:=1) h2 Try.underlying48 (by kernel_rfl)
 obtain ⟨cs,rfl,_⟩:=mapEx (f:=fun c : List Int=>[Tr.sl 1 (c.map zT)]) (p:=fun _=>True) fun r hm=>(inInts (hr r hm)).imp fun _ h=>⟨h.1,trivial⟩
 exact ⟨⟨m,fs,cs⟩,rfl,hm⟩
abbrev u8T (m : Nat) : List Tr:=[.i .u8 (.ofNat m)]
theorem trB_ints : ∀ (zs : List Int),trBrows (zs.map zT) = zs.length
 | []=>rfl
 | z :: zs=>by
   rw [List.map_cons,trBrows,trB_ints zs,List.length_cons]
   simp [trBs,trB]; omega
theorem trB_cases : ∀ (cs : List (List Int)),trBrows (cs.map fun c=>[Tr.sl 1 (c.map zT)]) = cs.length + (cs.map List.length).sum
 | []=>rfl
 | c :: cs=>by
   rw [List.map_cons,trBrows,trB_cases cs,trBs_sl,trB_ints]
   simp only [List.length_cons,List.map_cons,List.sum_cons]
   omega
theorem trB_ra (x : Ra) : trBs (raT x) = raB x:=by
 simp only [raT,trBs,trB,trB_ints,trB_cases,raB]
 omega
theorem trB_mem {r : List Tr} : ∀ {rows : List (List Tr)},r ∈ rows→1 + trBs r ≤ trBrows rows
 | x :: rows,h=>by
   rw [trBrows]
   rcases List.mem_cons.1 h with rfl | h
   · omega
   · have:=trB_mem h; omega
mutual
theorem dwB_le {H : Type} : ∀ d : DataW H,dwB d ≤ Rows.uptoBulk d
 | .slice e s=>by have:=dwBs_le e; simp only [dwB,Rows.uptoBulk]; omega
 | .agg p=>by have:=dwBs_le p; simp only [dwB,Rows.uptoBulk]; omega
 | .lit l=>by cases l <;> simp [dwB,Rows.uptoBulk]
 | .nil=>by simp [dwB,Rows.uptoBulk]
 | .ptr d=>by simp [dwB,Rows.uptoBulk]
 | .iface _ d=>by simp [dwB,Rows.uptoBulk]
 | .map e=>by simp [dwB,Rows.uptoBulk]
 | .held _=>by simp [dwB,Rows.uptoBulk]
theorem dwBs_le {H : Type} : ∀ l : List (DataW H),dwBs l ≤ Rows.uptoBulkAll l
 | []=>by simp [dwBs]
 | d :: r=>by
   have h1:=dwB_le d
   have h2:=dwBs_le r
   simp only [dwBs,Rows.uptoBulkAll]
   omega
end
theorem isB_of {h : Heap} {A : Nat→Prop} {bs : List Nat} {v : V} (w : CellA h A (.sl 1 (bs.map u8T)) v) (hc : ∀ b o l n s,v = .slice b o l (some n) s→l ≤ n) : IsB h v (bs.map bV):=by
 generalize hr : bs.map u8T = rows at w
 have hl : bs.length = rows.length:=by rw [← hr,List.length_map]
 cases w with
 | nils=>
   have : bs = []:=by simpa using hr
   subst this; exact .nils
 | emp=>
   have : bs = []:=by simpa using hr
   subst this; exact .emp
 | sl _ _ b o c op cs hb row fit wid hs=>
   have hl2 : (bs.map bV).length = rows.length:=by rw [List.length_map,hl]
   rw [← hl2]
   refine .sl b o c op cs _ row (by rw [hl2]; omega) ?_ fun n hn=>?_
   · apply List.ext_getElem (by simp; omega)
     intro i h1 h2
     simp at h1 h2
     have:=hs i (u8T bs[i]) 0 (.i .u8 (.ofNat bs[i])) cs[o + i] (by rw [← hr,List.getElem?_map,List.getElem?_eq_getElem (by omega)]; rfl) rfl (by rw [Nat.mul_one,Nat.add_zero,List.getElem?_eq_getElem (by omega)])
     simp only [List.getElem_take,List.getElem_drop,List.getElem_map]
     exact this.int_inv
   · subst hn
     rw [hl2]
     exact hc b o _ n 1 rfl
theorem cellsSlice {P : Program} {w : World} {r : Reach} {base t e : Nat} {v : Value} (hu : P.underlying t = some (.slice e)) (h : Value.okWide P w r base t v) : v.cells.toList = [v]:=by
 unfold Value.okWide at h
 rw [hu] at h
 simp only [Cell.okWide,hu] at h
 cases v <;> first | rfl | (simp [Cell.ok,hu] at h)
theorem cap_le {ρ : Rho} {v : V} {x : Value} (q : VR ρ v x) : ∀ b o l n s,v = .slice b o l (some n) s→l ≤ n:=by
 intro b o l n s e
 subst e
 cases q
 rename_i h1 h2 h3 h4
 have:=h3 n rfl
 omega
theorem walkL {H : Type} {enc : TypeId × Value→H} {W : World} {base : Nat} {v0 v1 : Value} {d0 d1 : DataW H} {p0 p1 : List MemPlace} (ok0 : Value.okWide Try.prog W .any base 22 v0) (ok1 : Value.okWide Try.prog W .any base 40 v1)
 (hT0 : DataW.Trod enc Try.prog W 0 (fun _=>true) true 22 v0 d0 p0) (hT1 : DataW.Trod enc Try.prog W 0 (fun _=>true) true 40 v1 d1 p1)
 (hw0 : ∀ k ∈ d0.weights Try.prog 22,k ≤ reachBytes) (hw1 : ∀ k ∈ d1.weights Try.prog 40,k ≤ reachBytes) (hbk : dwB d0 ≤ 1048576) : Calls Try.prog 4 #[v0,v1] W fun e w'=>e = .returned (.bool true)∧Below W.heap.size W w':=by
 obtain ⟨f0,hv0⟩:=hT0
 obtain ⟨f1,hv1⟩:=hT1
 rw [cellsSlice Try.underlying22 ok0] at hv0
 rw [cellsSlice Try.underlying40 ok1] at hv1
 have r0 : RH Try.prog (voidRho nx0.val) ⟨[],nx0⟩ W:=void_rh (Nat.zero_le _)
 obtain ⟨ρ1,h1,tr1,vs1,I1,vv1,rw1,ty1,_,_,bk1⟩:=dat_in tysLOk f0 22 [v0] (d0,p0) (by decide) hv0 hw0 _ _ r0 void_wr
 obtain ⟨ρ2,h2,tr2,vs2,I2,vv2,rw2,ty2,_,_,_⟩:=dat_in tysLOk f1 40 [v1] (d1,p1) (by decide) hv1 hw1 _ _ I1.rh I1.nw
 obtain ⟨rows,rfl,hrl,hr⟩:=inSl (g:=3) ty1 Try.underlying22 (by kernel_rfl)
 obtain ⟨ras,rfl,hk⟩:=mapEx (f:=raT) (p:=fun x=>x.kind < 256) fun r hm=>inShape (hr r hm)
 rw [trBs_sl] at bk1
 have hk2 : ∀ x ∈ ras,x.kind < 256∧raB x ≤ 1048576:=fun x hx=>⟨hk x hx,by
  have:=trB_mem (List.mem_map_of_mem (f:=raT) hx)
  rw [trB_ra] at this
  have : 1 + trBrows (ras.map raT) ≤ dwB d0:=bk1
  omega⟩
 obtain ⟨rowsB,rfl,hbl,hbr⟩:=inSl (g:=1) ty2 Try.underlying40 (by kernel_rfl)
 obtain ⟨bs,rfl,hbs⟩:=mapEx (f:=u8T) (p:=fun m=>m < 256) fun r hm=>by
  obtain ⟨k,rfl,hk⟩:=(hbr r hm).int_inv Try.underlying5
  obtain ⟨m,rfl,hm'⟩:=u8Nat hk
  exact ⟨m,rfl,hm'⟩
 obtain ⟨x1,rfl,c1⟩:=rw1.inv1
 obtain ⟨x2,rfl,c2⟩:=rw2.inv1
 have c1' : CellA h2 (fun x=>x < h2.nx.val) (.sl 3 (ras.map raT)) x1:=c1.up I2.up.nx fun b hb=>I2.up.get b hb
 cases vv1 with | cons q1 _=>
 cases vv2 with | cons q2 _=>
 have low : Low x2 h2.nx.val:=fun b o l c s e=>by
  subst e
  exact c2.bid
 obtain ⟨h',e⟩:=loads_law (n:=2000000) (d:=20) (Nat.le_refl _) (by simpa using hrl) c1' hk2 hbs (isB_of c2 (cap_le q2)) low
 obtain ⟨_,c⟩:=(call_ok tabWOk (n:=2000000) (20 + 1 + 1 + 1 + 1 + 1 + 1 + 1 + 1 + 1 + 1 + 1) f4).1 (by decide) _ _ _ e (fine_ret _ _)
 refine (c ρ2 W [v0,v1] (.cons (q1.mono I2.le) (.cons q2 .nil)) I2.rh (fun g hg=>absurd hg (Nat.not_lt_zero g))).mono fun e w' hc=>?_
 obtain ⟨ρ',y,rfl,hy,_,hx⟩:=hc
 cases hy
 exact ⟨rfl,hx.os,hx.tape,hx.output,hx.size,fun k hk=>(hx.keep k hk (I2.nw k)).1⟩
noncomputable def laidWorldL (os : Os) : World:=World.holding Try.prog os ⟨#[],#[],[]⟩
abbrev argsL : Array Value:=#[.slice none 0 0,.slice none 0 0]
theorem contract4 (H : Type) (enc : TypeId × Value→H) (W : World) (base : Nat) (args : Array Value) (ds gs : List (DataW H)) (before : List MemPlace)
 (hval : ∀ (j : Nat) t v,Try.f4.params[j]? = some t→args[j]? = some v→Value.okWide Try.prog W .any base t v)
 (hW : DataW.Whole enc Try.prog Try.f4.params.toList Rows.internLoadsSpec.vars false W args.toList ds gs before)
 (hcd : Rows.uptoSmall H (ds ++ gs) = true)
 (hsz : (DataW.weightsEach Try.prog (Try.f4.params.toList ++ (Rows.OpenSpec.upto Rows.internLoadsSpec).bare.plain.varTypes Try.prog) (ds ++ gs)).all (· ≤ reachBytes) = true) :
 Calls Try.prog 4 args W fun e W'=>∃ v,e = .returned v∧Rows.internLoadsSpec.post enc Try.prog Try.f4 false true false false W args v W':=by
 have hW':=hW
 obtain ⟨p,q,hA0,hV,rfl,hfz,hnd⟩:=hW
 have hA : DataW.TrodAll enc Try.prog W 0 (fun _=>true) true Try.f4.params.toList args.toList ds p:=hA0
 rw [Try.params4] at hA hval hsz
 obtain ⟨v0,vs0,d0,ds0,p0,q0,hargs,rfl,rfl,t0,r0⟩:=trodAll_cons hA
 obtain ⟨v1,vs1,d1,ds1,p1,q1,rfl,rfl,rfl,t1,r1⟩:=trodAll_cons r0
 obtain ⟨rfl,rfl,rfl⟩:=trodAll_nil r1
 obtain rfl : args = #[v0,v1]:=by cases args; simp_all
 obtain ⟨rfl,rfl⟩:=trodVars_none hV
 have lt : ∀ {t : TypeId} {v : Value} {d : DataW H} {p : List MemPlace},DataW.Trod enc Try.prog W 0 (fun _=>true) true t v d p→∀ x ∈ p,x.block < W.heap.size:=fun h=>by
  obtain ⟨m,hm⟩:=h
  exact DataW.trod_lt m _ _ _ hm
 clear hA0
 simp only [List.append_nil] at hW'
 have hwt0 : ∀ k ∈ d0.weights Try.prog 22,k ≤ reachBytes:=fun k hk=>by
  have:=List.all_eq_true.1 hsz k (List.mem_append_left _ hk)
  simpa using this
 have hwt1 : ∀ k ∈ d1.weights Try.prog 40,k ≤ reachBytes:=fun k hk=>by
  have:=List.all_eq_true.1 hsz k (List.mem_append_right _ (List.mem_append_left _ hk))
  simpa using this
 have hbk : dwB d0 ≤ 1048576:=by
  have h1 : Rows.uptoBulkAll [d0,d1] ≤ 1048576:=of_decide_eq_true hcd
  have h2:=dwB_le d0
  simp only [Rows.uptoBulkAll] at h1
  omega
 refine (walkL (hval 0 22 v0 rfl rfl) (hval 1 40 v1 rfl rfl) t0 t1 hwt0 hwt1 hbk).mono fun e W' ⟨he,bel⟩=>?_
 subst he
 have k0:=Below.trod laidOutL (by kernel_rfl) (of_decide_eq_true (by kernel_rfl)) t0 bel (lt t0)
 have k1:=Below.trod laidOutL (by kernel_rfl) (of_decide_eq_true (by kernel_rfl)) t1 bel (lt t1)
 have tt:=trodAll_cons_mk k0 (trodAll_cons_mk k1 trodAll_mk0)
 rw [List.append_nil] at tt
 exact ⟨_,rfl,_,_,_,[],_,[],hW',trodAll_mk1 (shut_bool Try.underlying4 _),tt,rfl,bel.frame _,fun h=>by cases h⟩
theorem reads4 (os : Os) {H : Type} (enc : TypeId × Value→H) : ∃ ds places,DataW.whole enc Try.prog ((laidWorldL os).forCall (fun _ _=>0) ⟨#[],argsL,[]⟩).memory Try.f4.params.toList Rows.internLoadsSpec.vars false argsL.toList 8 = some (ds,[],places)∧Rows.uptoSmall H ds = true:=
 ⟨[.nil,.nil],[],by kernel_rfl,by kernel_rfl⟩
theorem laid_met4 (os : Os) : laidMet Try.prog Rows.internLoadsUptoRow.laid ((laidWorldL os).forCall (fun _ _=>0) ⟨#[],argsL,[]⟩).memory:=⟨[],rfl,List.nodup_nil,fun _ _ h=>by cases h⟩
theorem lifted4 (os : Os) (started : os.Started) (H : Type) (enc : TypeId × Value→H) (F : Stop.Interp) :
 ReturnsInHanded {} Try.checked os 4 .any ((Rows.OpenSpec.upto Rows.internLoadsSpec).preRow enc Try.prog Try.f4 Rows.internLoadsUptoRow.domain false Rows.internLoadsUptoRow.laid) (((Rows.OpenSpec.upto Rows.internLoadsSpec).at F).post enc Try.prog Try.f4 false true false false):=by
 obtain ⟨ds,places,hx,hu⟩:=reads4 os enc
 refine returnsInHanded_of_row (C:=Try.checked) (s:=Rows.OpenSpec.upto Rows.internLoadsSpec) ownL started (by kernel_rfl) Try.func4
  (witness_row_at (enc:=enc) (C:=Try.checked) false (laidWorldL os) argsL rfl (by kernel_rfl) (by kernel_rfl) (by kernel_rfl)
    (OpenSpec.preRow_of_cond 8 hx (by kernel_rfl) (fun k hk=>by
      obtain rfl : Rows.uptoSmall = k:=Option.some.inj hk
      rw [List.append_nil]
      exact hu) (by kernel_rfl) (laid_met4 os))) ?_
 intro W base args ds gs before hval hW _ hcd hsz _ _ _
 exact contract4 H enc W base args ds gs before hval hW (hcd _ rfl) hsz
theorem said4 : Rows.InternLoadsUptoSaid:=
 OpenClaim.holds_of_cond 4 Try.f4 rfl rfl rfl rfl rfl rfl rfl ⟨rfl,rfl,rfl,rfl,rfl⟩ rfl rfl rfl rfl rfl (by kernel_rfl) Try.func4 (by kernel_rfl)
  (of_decide_eq_true (by kernel_rfl)) (by unfold Func.isWrapper; first | (rw [if_pos (by decide +kernel)]; kernel_rfl) | (rw [if_neg (by decide +kernel)]; exact ⟨rfl,rfl⟩))
  (fun os started H enc _ F=>by rw [OpenClaim.pre_eq_preRow]; exact lifted4 os started H enc F)
end Go.Ev.WIB
namespace Go.Proofs.Ytcglhljoepefaaa
theorem internLoadsUpto_holds : Rows.InternLoadsUptoSaid:=Go.Ev.WIB.said4
#print axioms internLoadsUpto_holds
end Go.Proofs.Ytcglhljoepefaaa
