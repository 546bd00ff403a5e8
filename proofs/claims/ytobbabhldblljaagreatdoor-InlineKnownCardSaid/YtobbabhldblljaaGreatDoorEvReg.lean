/- EvReg: texts joined. -/
import Derived.Test.YtobbabhldblljaaGreatDoorEvLight2
import Derived.Test.YtobbabhldblljaaGreatDoorEvEx0
import Derived.RangeFuncLeaves
import Derived.RangeFuncRecord
/- EVALUATOR, 20: every operation that is prepared as OX is what the model runs. -/
namespace Go.Ev
variable {P : Program} {ρ : Rho} {h : Heap} {w : World} {k : V→Heap→Res} {r : Res} {ng : Nat} {T : Nat→Option Loc} {L : List V} {env : Env} {a : Act}
theorem cAlloc_light {t : TypeId} {ox : OX} (h : cAlloc P t = some ox) : ox.light = false:=by
 unfold cAlloc at h
 split at h
 · unfold cAllocT at h
   split at h
   · split at h
     · cases h; rfl
     · cases h
   · cases h
 · simp only [cAlloc0] at h
   split at h
   · split at h
     · cases h; rfl
     · cases h
   · cases h
theorem cBuildS_light {f : Operand→Option Loc} {t : TypeId} {n : Nat} {ps : List (Nat × Operand)} {ox : OX} (h : cBuildS P f t n ps = some ox) : ox.light = false:=by
 unfold cBuildS at h
 split at h
 · split at h
   · split at h
     · cases h; rfl
     · cases h
   · cases h
 · cases h
theorem cMake_light {f : Operand→Option Loc} {t : TypeId} {x y : Operand} {ox : OX} (h : cMake P f t x y = some ox) : ox.light = false:=by
 unfold cMake at h
 split at h
 · split at h
   · exact two_light h fun _ _=>rfl
   · cases h
 · cases h
theorem cUpd_ok (c : Cx P ρ ng T L env h w a) {t : TypeId} {m q x : Operand} {ox : OX} (hc : cUpd P (locOf T ng) t m q x = some ox) (hh : semOX ox L env h k = r) (hr : r ≠ .fail) :
 Both P ρ h w ox (do Instr.mapUpdate t (a.eval m) (a.eval q) (a.eval x); Pure.pure .skip) k r:=by
 unfold cUpd at hc
 split at hc
 · rename_i ht
   obtain ⟨s,es,hc⟩:=Option.bind_eq_some_iff.1 hc
   obtain ⟨d,hd1,hd2⟩:=keyKind_ok es
   obtain ⟨ls,e1,rfl⟩:=Option.map_eq_some_iff.1 hc
   obtain ⟨l,h1,h2⟩:=c.locs e1 (k:=fun l=>semEX (.upd s) l h k) hh hr
   obtain ⟨v,u,x',rfl,h3,h4,h5⟩:=h2.three
   have h1 : sUpd s v u x' h k = r:=h1
   exact (sUpd_ok h1 hr c.rh h3 h4 h5 ht hd1 hd2).next.both rfl
 · cases hc
theorem cEX_ok (c : Cx P ρ ng T L env h w a) {o : Oper} {ox : OX} (hc : cEX P (locOf T ng) o.op = some ox) (hh : semOX ox L env h k = r) (hr : r ≠ .fail) : Both P ρ h w ox (execOp a.eval o) k r:=by
 obtain ⟨dst,op,type,pos,after,guard⟩:=o
 simp only at hc
 unfold cEX at hc
 split at hc
 · rename_i t x
   split at hc
   · rename_i ht
     obtain ⟨ls,e1,rfl⟩:=Option.map_eq_some_iff.1 hc
     obtain ⟨l,h1,h2⟩:=c.locs e1 (k:=fun l=>semEX .rngS l h k) hh hr
     obtain ⟨v,rfl,h3⟩:=h2.one
     have h1 : sRngS v h k = r:=h1
     exact (sRngS_ok h1 hr c.rh h3 ht).next.both rfl
   · rename_i ht
     obtain ⟨ls,e1,rfl⟩:=Option.map_eq_some_iff.1 hc
     obtain ⟨l,h1,h2⟩:=c.locs e1 (k:=fun l=>semEX .rngM l h k) hh hr
     obtain ⟨v,rfl,h3⟩:=h2.one
     have h1 : sRngM v h k = r:=h1
     exact (sRngM_ok h1 hr c.rh h3 ht).next.both rfl
   · cases hc
 · rename_i x isS
   split at hc
   · rename_i ht
     subst ht
     obtain ⟨ls,e1,rfl⟩:=Option.map_eq_some_iff.1 hc
     obtain ⟨l,h1,h2⟩:=c.locs e1 (k:=fun l=>semEX .nxtS l h k) hh hr
     obtain ⟨v,rfl,h3⟩:=h2.one
     have h1 : sNxtS v h k = r:=h1
     exact (sNxtS_ok h1 hr c.rh h3 type).next.both rfl
   · rename_i ht
     obtain rfl : isS = false:=by simpa using ht
     obtain ⟨ls,e1,rfl⟩:=Option.map_eq_some_iff.1 hc
     obtain ⟨l,h1,h2⟩:=c.locs e1 (k:=fun l=>semEX .nxtM l h k) hh hr
     obtain ⟨v,rfl,h3⟩:=h2.one
     have h1 : sNxtM v h k = r:=h1
     exact (sNxtM_ok h1 hr c.rh h3 type).next.both rfl
 · rename_i x
   obtain ⟨ls,e1,rfl⟩:=Option.map_eq_some_iff.1 hc
   obtain ⟨l,h1,h2⟩:=c.locs e1 (k:=fun l=>semEX .entM l h k) hh hr
   obtain ⟨v,rfl,h3⟩:=h2.one
   have h1 : sEntM v h k = r:=h1
   exact (sEntM_ok h1 hr c.rh h3).next.both c.rh
 · rename_i t q
   split at hc
   · rename_i ht
     obtain ⟨ls,e1,rfl⟩:=Option.map_eq_some_iff.1 hc
     obtain ⟨l,h1,h2⟩:=c.locs e1 (k:=fun l=>semEX .mkm l h k) hh hr
     have h1 : sMkM l h k = r:=h1
     have h2 : VRs ρ l (q.map a.eval).toList:=by cases q <;> exact h2
     exact (sMkM_ok h1 hr c.rh h2 ht).next.both rfl
   · cases hc
 · rename_i t x i ok
   split at hc
   · rename_i kt et ht
     obtain ⟨s,es,hc⟩:=Option.bind_eq_some_iff.1 hc
     obtain ⟨d,hd1,hd2⟩:=keyKind_ok es
     obtain ⟨z,ez,hc⟩:=Option.bind_eq_some_iff.1 hc
     obtain ⟨ls,e1,rfl⟩:=Option.map_eq_some_iff.1 hc
     obtain ⟨l,h1,h2⟩:=c.locs e1 (k:=fun l=>semEX (.look s ok z) l h k) hh hr
     obtain ⟨v,u,rfl,h3,h4⟩:=h2.two
     have h1 : sLook s ok z v u h k = r:=h1
     exact (sLook_ok h1 hr c.rh h3 h4 ht hd1 hd2 (zeroV_ok ez)).next.both c.rh
   · cases hc
 · exact cUpd_ok c hc hh hr
 · exact cUpd_ok c hc hh hr
 · rename_i x xt t ok
   split at hc
   · rename_i d ht
     split at hc
     · rename_i hd
       split at hc
       · rename_i hok
         subst hok
         obtain ⟨z,ez,hc⟩:=Option.bind_eq_some_iff.1 hc
         obtain ⟨ls,e1,rfl⟩:=Option.map_eq_some_iff.1 hc
         obtain ⟨l,h1,h2⟩:=c.locs e1 (k:=fun l=>semEX (.tas t true z) l h k) hh hr
         obtain ⟨v,rfl,h3⟩:=h2.one
         have h1 : sTas t true z v h k = r:=h1
         exact (sTas_ok h1 hr h3 ht hd fun _=>zeroV_ok ez).next.both c.rh
       · rename_i hok
         obtain rfl : ok = false:=by simpa using hok
         obtain ⟨ls,e1,rfl⟩:=Option.map_eq_some_iff.1 hc
         obtain ⟨l,h1,h2⟩:=c.locs e1 (k:=fun l=>semEX (.tas t false .und) l h k) hh hr
         obtain ⟨v,rfl,h3⟩:=h2.one
         have h1 : sTas t false .und v h k = r:=h1
         exact (sTas_ok h1 hr h3 ht hd fun e=>by cases e).next.both c.rh
     · cases hc
   · cases hc
 · rename_i g args ts
   split at hc
   · rename_i x y hx
     obtain ⟨args⟩:=args
     simp only at hx
     subst hx
     have run : execOp a.eval ⟨dst,.call { callee:=.value (.func g),args:=⟨[x,y]⟩,argTypes:=ts },type,pos,after,guard⟩ = callFunc g #[a.eval x,a.eval y]:=by
      simp only [execOp,resolve,Act.eval,Deferred.ofValue,invoke]
      rw [map2]
      rfl
     rw [run]
     split at hc
     · rename_i hg
       obtain ⟨ls,e1,rfl⟩:=Option.map_eq_some_iff.1 hc
       obtain ⟨l,h1,h2⟩:=c.locs e1 (k:=fun l=>semEX .idxb l h k) hh hr
       obtain ⟨v,u,rfl,h3,h4⟩:=h2.two
       have h1 : sIdxB v u h k = r:=h1
       exact OkPN.both (sIdxB_ok h1 hr h3 h4 hg) c.rh
     · split at hc
       · rename_i hg
         obtain ⟨ls,e1,rfl⟩:=Option.map_eq_some_iff.1 hc
         obtain ⟨l,h1,h2⟩:=c.locs e1 (k:=fun l=>semEX .cmps l h k) hh hr
         obtain ⟨v,u,rfl,h3,h4⟩:=h2.two
         have h1 : sCmpS v u h k = r:=h1
         exact OkPN.both (sCmpS_ok h1 hr h3 h4 hg) c.rh
       · cases hc
   · rename_i x hx
     obtain ⟨args⟩:=args
     simp only at hx
     subst hx
     have run : execOp a.eval ⟨dst,.call { callee:=.value (.func g),args:=⟨[x]⟩,argTypes:=ts },type,pos,after,guard⟩ = callFunc g #[a.eval x]:=by
      simp only [execOp,resolve,Act.eval,Deferred.ofValue,invoke]
      rw [map1]
      rfl
     rw [run]
     split at hc
     · rename_i hg
       obtain ⟨ls,e1,rfl⟩:=Option.map_eq_some_iff.1 hc
       obtain ⟨l,h1,h2⟩:=c.locs e1 (k:=fun l=>semEX .cloneM l h k) hh hr
       obtain ⟨v,rfl,h3⟩:=h2.one
       have h1 : sCloneM v h k = r:=h1
       obtain ⟨u,h',ρ',y,w',k1,k2,k3,k4,k5⟩:=sCloneM_ok h1 hr c.rh h3 hg
       exact OkN.both ⟨u,h',ρ',y,w',.of_eq k1,.inl k2,k3,k4,k5⟩ rfl
     · split at hc
       · rename_i hg
         obtain ⟨ls,e1,rfl⟩:=Option.map_eq_some_iff.1 hc
         obtain ⟨l,h1,h2⟩:=c.locs e1 (k:=fun l=>semEX .same l h k) hh hr
         obtain ⟨v,rfl,h3⟩:=h2.one
         have h1 : sSame v h k = r:=h1
         exact OkPN.both (sSame_ok h1 h3 hg) c.rh
       · cases hc
   · cases hc
 · cases hc
theorem cOX_ok (c : Cx P ρ ng T L env h w a) {o : Oper} {ox : OX} (hc : cOX P (locOf T ng) o.pos o.op = some ox) (hh : semOX ox L env h k = r) (hr : r ≠ .fail) : Both P ρ h w ox (execOp a.eval o) k r:=by
 obtain ⟨dst,op,type,pos,after,guard⟩:=o
 simp only at hc
 unfold cOX at hc
 split at hc
 · obtain ⟨_,v,h1,h2⟩:=c.do1 (f:=fun v h k=>k v h) hc (fun _=>rfl) hh hr
   refine OkPN.both ⟨_,_,h1,rfl,h2⟩ c.rh
 · obtain ⟨_,v,h1,h2⟩:=c.do1 (f:=fun v h k=>k v h) hc (fun _=>rfl) hh hr
   refine OkPN.both ⟨_,_,h1,rfl,h2⟩ c.rh
 · rename_i x y z
   obtain ⟨lc,e1,hc⟩:=Option.bind_eq_some_iff.1 hc
   obtain ⟨la,e2,hc⟩:=Option.bind_eq_some_iff.1 hc
   obtain ⟨lb,e3,rfl⟩:=Option.map_eq_some_iff.1 hc
   obtain ⟨v,h1,h2⟩:=c.loc e1 (k:=fun v=>boolk v fun t=>getk la L env fun u=>getk lb L env fun u'=>k (pickv t u u') h) hh hr
   obtain ⟨b,rfl,h1⟩:=boolk_ok h1 hr
   generalize hx : a.eval x = xv at h2
   cases h2
   obtain ⟨u,h3,h4⟩:=c.loc e2 (k:=fun u=>getk lb L env fun u'=>k (pickv b u u') h) h1 hr
   obtain ⟨u',h5,h6⟩:=c.loc e3 (k:=fun u'=>k (pickv b u u') h) h3 hr
   cases b with
   | true=>exact OkPN.both ⟨_,_,h5,by simp [execOp,hx,asBool],h4⟩ c.rh
   | false=>exact OkPN.both ⟨_,_,h5,by simp [execOp,hx,asBool],h6⟩ c.rh
 · exact (cAlloc_ok c hc hh hr).next.both (cAlloc_light hc)
 · obtain ⟨_,v,h1,h2⟩:=c.do1 (f:=sBox) hc (fun _=>rfl) hh hr
   exact (sBox_ok h1 hr c.rh h2 _).next.both (one_light hc fun _=>rfl)
 · exact (cBuild_ok c hc hh hr).next.both c.rh
 · exact (cBuildS_ok c hc hh hr).next.both (cBuildS_light hc)
 · split at hc
   · rename_i hs
     obtain ⟨_,v,h1,h2⟩:=c.do1 (f:=sLoad1) hc (fun _=>rfl) hh hr
     exact (sLoad1_ok h1 hr c.rh h2 hs).next.both c.rh
   · split at hc
     · rename_i hs
       split at hc
       · rename_i n hn
         obtain ⟨_,v,h1,h2⟩:=c.do1 (f:=sLoadN n) hc (fun _=>rfl) hh hr
         exact (sLoadN_ok h1 hr c.rh h2 hs hn).next.both c.rh
       · cases hc
     · cases hc
 · split at hc
   · rename_i n hn
     split at hc
     · obtain ⟨h0,v,u,h1,h2,h3⟩:=c.do2 (f:=sStore1) hc (fun _ _=>rfl) hh hr
       have : n = 1:=by simpa using h0
       subst this
       exact (sStore1_ok h1 hr c.rh h2 h3 hn).next.both (two_light hc fun _ _=>rfl)
     · obtain ⟨_,v,u,h1,h2,h3⟩:=c.do2 (f:=sStoreN n) hc (fun _ _=>rfl) hh hr
       exact (sStoreN_ok h1 hr c.rh h2 h3 hn).next.both (two_light hc fun _ _=>rfl)
   · cases hc
 · rename_i x
   obtain ⟨_,v,h1,h2⟩:=c.do1 (f:=sNil) hc (fun _=>rfl) hh hr
   obtain ⟨u,ad,h3,h4,h5⟩:=sNil_ok h1 hr h2
   refine OkPN.both ⟨_,.pointer (some ad),h3,by simp [execOp,h4],by rw [h4] at h5; exact h5⟩ c.rh
 · exact (cBin_ok c hc hh hr).both c.rh
 · obtain ⟨_,v,h1,h2⟩:=c.do1 (f:=sNeg) hc (fun _=>rfl) hh hr
   exact (sNeg_ok h1 hr c.rh h2).next.both c.rh
 · obtain ⟨_,v,h1,h2⟩:=c.do1 (f:=sNot) hc (fun _=>rfl) hh hr
   exact (sNot_ok h1 hr c.rh h2).next.both c.rh
 · obtain ⟨_,v,h1,h2⟩:=c.do1 (f:=sCom) hc (fun _=>rfl) hh hr
   exact (sCom_ok h1 hr c.rh h2).next.both c.rh
 · rename_i s d x
   split at hc
   case h_2=>
    unfold cUp at hc
    split at hc
    · rename_i t hs hd
      split at hc
      · rename_i n hn
        split at hc
        · rename_i h0
          obtain ⟨ls,e1,rfl⟩:=Option.map_eq_some_iff.1 hc
          obtain ⟨l,h1,h2⟩:=c.locs e1 (k:=fun l=>semEX .toU l h k) hh hr
          obtain ⟨v,rfl,h3⟩:=h2.one
          have h1 : sToU v h k = r:=h1
          exact (sToU_ok h1 hr c.rh h3 hs hd hn (by simpa using h0)).next.both c.rh
        · cases hc
      · cases hc
    · rename_i t hs hd
      split at hc
      · rename_i n hn
        obtain ⟨ls,e1,rfl⟩:=Option.map_eq_some_iff.1 hc
        obtain ⟨l,h1,h2⟩:=c.locs e1 (k:=fun l=>semEX (.fromU (nearT P t)) l h k) hh hr
        obtain ⟨v,rfl,h3⟩:=h2.one
        have h1 : sFromU (nearT P t) v h k = r:=h1
        refine (sFromU_ok h1 hr c.rh h3 hs hd hn fun e he=>?_).next.both c.rh
        have:=(List.mem_filter.1 he).2
        simp only [Bool.and_eq_true] at this
        exact this.2
      · cases hc
    · rename_i e hs hd
      split at hc
      · rename_i he
        obtain ⟨ls,e1,rfl⟩:=Option.map_eq_some_iff.1 hc
        obtain ⟨l,h1,h2⟩:=c.locs e1 (k:=fun l=>semEX .s2b l h k) hh hr
        obtain ⟨v,rfl,h3⟩:=h2.one
        have h1 : sS2B v h k = r:=h1
        exact (sS2B_ok h1 hr c.rh h3 hs hd he).next.both rfl
      · cases hc
    · cases hc
   rename_i o2 hc2
   cases hc
   replace hc:=hc2
   unfold cConvM at hc
   split at hc
   · rename_i o ho
     cases hc
     exact (cConv_ok c ho hh hr).next.both c.rh
   · unfold cMark at hc
     split at hc
     · rename_i hsd
       subst hsd
       split at hc
       · rename_i hs
         split at hc
         · rename_i he
           obtain ⟨_,v,h1,h2⟩:=c.do1 (f:=sMark) hc (fun _=>rfl) hh hr
           exact (sMark_ok h1 hr c.rh h2 hs he).next.both (one_light hc fun _=>rfl)
         · cases hc
       · cases hc
     · cases hc
 · rename_i t x
   split at hc
   · cases hc
   · cases hc
   · rename_i d hd1 hd
     obtain ⟨_,v,h1,h2⟩:=c.do1 (f:=fun v h k=>k (.iface t v) h) hc (fun _=>rfl) hh hr
     refine OkPN.both ⟨_,.iface t (a.eval x),h1,?_,.iface h2⟩ c.rh
     simp only [execOp,Sem.run_bind,Instr.makeInterface,run_und hd,Result.andThen_ok]
     cases d <;> first | rfl | exact absurd hd (hd1 _)
 · rename_i f first cap
   split at hc
   · rename_i hf
     obtain ⟨ls,e1,rfl⟩:=Option.map_eq_some_iff.1 hc
     obtain ⟨l,h1,h2⟩:=c.locs e1 (k:=fun l=>k (.func (f + 65536 * first.size) l) h) hh hr
     refine OkPN.both ⟨_,.func (.func f) (first.map a.eval) (cap.map a.eval),h1,by simp [execOp,Instr.makeFunc],.func (k:=first.size) hf.1 (by simp) (by simpa using hf.2) rfl ?_⟩ c.rh
     rw [Array.toList_map,Array.toList_map,← List.map_append]; exact h2
   · cases hc
 · exact (cMake_ok c hc hh hr).next.both (cMake_light hc)
 · exact (cSlice_ok c hc hh hr).next.both c.rh
 · exact (cFaddr_ok c hc hh hr).next.both c.rh
 · exact (cField_ok c hc hh hr).next.both c.rh
 · exact (cIaddr_ok c hc hh hr).next.both c.rh
 · exact (cIndex_ok c hc hh hr).next.both c.rh
 · obtain ⟨_,v,h1,h2⟩:=c.do1 (f:=sExtract _) hc (fun _=>rfl) hh hr
   exact (sExtract_ok h1 hr c.rh h2).next.both c.rh
 · exact cBuiltinP_ok c hc type _ hh hr
 · exact cEX_ok c (o:=⟨dst,op,type,pos,after,guard⟩) hc hh hr
end Go.Ev

/- EVALUATOR: ranges over functions: the machine's steps, whatever stands behind them. -/
namespace Go.Ev
variable {P : Program}
def Lands (P : Program) (m : Machine) (c : Frame) (cs : List Frame) : Ending→World→Prop
 | .returned v,w=>Steps P m (lone (c.finish v) cs w)
 | .panicked ch,w=>Steps P m (lone (c.raise ch) cs w)
 | .outgrown,_=>False
def roundTmps (r : Loop) (args : Array Value) : Array Value:=(r.params.zip args).foldl (fun tmps (t,a)=>tmps.setIfInBounds t a) r.tmps
def Rounds (P : Program) (l : Nat) (args : Array Value) (w : World) (R : Ending→World→Prop) : Prop:=
 ∃ r,w.heap[l]? = some (.loop r)∧args.size = r.params.size∧∀ c cs,∃ e w',R e w'∧Lands P (lone (Frame.round l r.fn (roundTmps r args) r.assign r.body .normal) (c :: cs) w) c cs e w'
theorem Rounds.mono {l : Nat} {args : Array Value} {w : World} {R R' : Ending→World→Prop} (h : Rounds P l args w R) (hr : ∀ e w,R e w→R' e w) : Rounds P l args w R':=
 let ⟨r,h1,h2,h3⟩:=h
 ⟨r,h1,h2,fun c cs=>let ⟨e,w',h4,h5⟩:=h3 c cs; ⟨e,w',hr _ _ h4,h5⟩⟩
section
variable {b : Frame} {Q : Post} {a : Act} {cs : List Frame} {w : World} {ops : Array Oper}
theorem WO.round {i : Nat} {rest : List Nat} {o : Oper} (ho : ops[i]? = some o) (hw : Region.wanted o (yielded ops a.tmps) = true) (hd : b.roundOf = none ∨ ∀ c,o.op ≠ .defer c)
 {l : Nat} {args : Array Value} (hr : (execOp a.eval o).run P w = (Instr.yield l args).run P w)
 (h : Rounds P l args w fun
   | .returned v,w''=>WO P b ops rest Q (a.put o.dst v) cs w''
   | .panicked chain,w''=>Q (.panic chain) a cs w''
   | .outgrown,_=>False) : WO P b ops (i :: rest) Q a cs w:=by
 intro k
 obtain ⟨r,h1,h2,h3⟩:=h
 obtain ⟨e,w'',hR,hl⟩:=h3 (fr b a (.inRegion ops (i :: rest) :: k)) cs
 rw [run_yield h1 h2] at hr
 have henter : step P (lone (fr b a (.inRegion ops (i :: rest) :: k)) cs w) =
  .next (lone (Frame.round l r.fn (roundTmps r args) r.assign r.body .normal) (fr b a (.inRegion ops (i :: rest) :: k) :: cs) w):=
  step_lone_go (by rw [st_op ho hw hd]; simp [stepG.apply,hr,fr,roundTmps])
 cases e with
 | returned v=>
   obtain ⟨e,a',cs',w₃,hq,harr⟩:=hR k
   refine ⟨e,a',cs',w₃,hq,.of_steps (.head henter ?_) harr⟩
   rw [← fr_finish ho]; exact hl
 | panicked chain=>
   refine ⟨.panic chain,a,cs,w'',hR,.inRegion ops (i :: rest) :: k,.head henter ?_⟩
   have hl : Steps P _ (lone ((fr b a (.inRegion ops (i :: rest) :: k)).raise chain) cs w''):=hl
   simpa [Frame.raise,fr] using hl
 | outgrown=>exact hR.elim
def rbase (l : Nat) (f : FuncId) : Frame:={ (default : Frame) with fn:=f,kind:=.normal,roundOf:=some l }
def roundPost' (P : Program) (l : Nat) (R : Ending→World→Prop) (cs : List Frame) : Post
 | .normal,_,cs',w=>cs' = cs∧∃ v w',(Instr.endRound l none).run P w = .ok v w'∧R (.returned v) w'
 | .ret,_,cs',w=>cs' = cs∧∃ v w',(Instr.endRound l (some .ret)).run P w = .ok v w'∧R (.returned v) w'
 | .exit id,_,cs',w=>cs' = cs∧∃ v w',(Instr.endRound l (some (.exit id))).run P w = .ok v w'∧R (.returned v) w'
 | _,_,_,_=>False
theorem rounds_of {l : Nat} {r : Loop} {args : Array Value} {R : Ending→World→Prop} (h1 : w.heap[l]? = some (.loop r)) (h2 : args.size = r.params.size)
 (h : ∀ cs,WP P (rbase l r.fn) r.assign (fun e a₁ cs₁ w₁=>e = .normal∧cs₁ = cs∧∃ w₂,(Instr.beginRound l).run P w₁ = .ok () w₂∧WP P (rbase l r.fn) r.body (roundPost' P l R cs) a₁ cs w₂)
   { tmps:=roundTmps r args,defers:=[] } cs w) : Rounds P l args w R:=by
 refine ⟨r,h1,h2,fun c cs=>?_⟩
 have hb0 : Frame.round l r.fn (roundTmps r args) r.assign r.body .normal = fr (rbase l r.fn) { tmps:=roundTmps r args,defers:=[] } [.code r.assign,.beginRound,.code r.body]:=by
  simp [Frame.round,fr,rbase]
 obtain ⟨e,a₁,cs₁,w₁,⟨rfl,rfl,w₂,hbr,hbody⟩,harr⟩:=h (c :: cs) [.beginRound,.code r.body]
 rw [hb0]
 have s1 : Steps P (lone (fr (rbase l r.fn) a₁ [.beginRound,.code r.body]) (c :: cs) w₁) (lone (fr (rbase l r.fn) a₁ [.code r.body]) (c :: cs) w₂):=.one (stepR_beginRound rfl hbr)
 obtain ⟨e₂,a₂,cs₂,w₃,hq₂,harr₂⟩:=hbody []
 cases e₂ with
 | normal=>
   obtain ⟨rfl,v,w₄,hend,hR⟩:=hq₂
   exact ⟨.returned v,w₄,hR,(Steps.trans harr s1).trans (Steps.trans harr₂ (.one (stepR_round_end rfl rfl hend)))⟩
 | ret=>
   obtain ⟨rfl,v,w₄,hend,hR⟩:=hq₂
   obtain ⟨k₁,hs⟩:=harr₂
   exact ⟨.returned v,w₄,hR,(Steps.trans harr s1).trans (Steps.trans hs (.one (stepR_round_ret rfl rfl hend)))⟩
 | exit id=>
   obtain ⟨rfl,v,w₄,hend,hR⟩:=hq₂
   obtain ⟨k₁,hk,hs⟩:=harr₂
   exact ⟨.returned v,w₄,hR,(Steps.trans harr s1).trans (Steps.trans hs (.one (stepR_round_exit rfl rfl hk hend)))⟩
 | goto t=>exact hq₂.elim
 | panic chain=>exact hq₂.elim
 | outgrown=>exact hq₂.elim
theorem WP.rangeFunc {g : Operand} {ps : Array Tmp} {assign body : Code} (hb : b.roundOf = none) {d : Deferred} {f : FuncId} {args : Array Value} {w₁ w₂ : World}
 (hw : w₁ = (w.alloc (.deferred (some []))).alloc (.loop { state:=.ready,pending:=none,fn:=b.fn,tmps:=a.tmps,params:=ps,assign,body,defers:=w.heap.size }))
 (hres : (resolve a.eval (rangeCall g (w.heap.size + 1)) 0).run P w₁ = .ok d w₁) (hinv : (invoke d.target d.args).run P w₁ = .ok (.enter f args) w₂)
 (h : Calls P f args w₂ fun e w₃=>match e with
   | .returned _=>∃ jump w₄,(Instr.endLoop (w.heap.size + 1)).run P w₃ = .ok jump w₄∧(match jump with
     | none=>Q .normal { a with defers:={ target:=.collected w.heap.size,args:=#[] } :: a.defers } cs w₄
     | some .ret=>Q .ret { a with defers:={ target:=.collected w.heap.size,args:=#[] } :: a.defers } cs w₄
     | some (.exit id)=>Q (.exit id) { a with defers:={ target:=.collected w.heap.size,args:=#[] } :: a.defers } cs w₄
     | _=>False)
   | .panicked chain=>Q (.panic chain) { a with defers:={ target:=.collected w.heap.size,args:=#[] } :: a.defers } cs w₃
   | .outgrown=>False) : WP P b (.rangeFunc g ps assign body) Q a cs w:=by
 intro k
 have hat : ∀ (a : Act) (todo : List Item),fr b a todo = { b with tmps:=a.tmps,todo,defers:=a.defers,mode:=.run }:=fun _ _=>rfl
 have he : (Instr.enterLoop b.fn a.tmps ps assign body b.roundOf).run P w = .ok (w.heap.size + 1,[{ target:=.collected w.heap.size,args:=#[] }]) w₁:=by
  rw [hb,hw]; exact run_enterLoop_outer _ _ _ _ _
 have henter : step P (lone (fr b a (.code (.rangeFunc g ps assign body) :: k)) cs w) = .next (lone (Frame.enter P f args .normal)
  (fr b { a with defers:={ target:=.collected w.heap.size,args:=#[] } :: a.defers } (.inRangeFunc (w.heap.size + 1) :: k) :: cs) w₂):=stepR_rangeFunc (b:=b) (a:=a) (k:=k) (cs:=cs) (w:=w) he hres hinv
 obtain ⟨e,w₃,frx,hR,hsteps,_,hleave⟩:=h (fr b { a with defers:={ target:=.collected w.heap.size,args:=#[] } :: a.defers } (.inRangeFunc (w.heap.size + 1) :: k) :: cs)
 cases e with
 | returned v=>
   obtain ⟨jump,w₄,hend,hj⟩:=hR
   have sback : Steps P (lone (fr b a (.code (.rangeFunc g ps assign body) :: k)) cs w)
    (lone (fr b { a with defers:={ target:=.collected w.heap.size,args:=#[] } :: a.defers } ((jump.map Item.code).toList ++ k)) cs w₄):=by
    have h1:=step_leave_returned (c:=fr b { a with defers:={ target:=.collected w.heap.size,args:=#[] } :: a.defers } (.inRangeFunc (w.heap.size + 1) :: k)) (cs:=cs) hleave
    have h2 : (fr b { a with defers:={ target:=.collected w.heap.size,args:=#[] } :: a.defers } (.inRangeFunc (w.heap.size + 1) :: k)).finish v =
     fr b { a with defers:={ target:=.collected w.heap.size,args:=#[] } :: a.defers } (.endRangeFunc (w.heap.size + 1) :: k):=by simp [Frame.finish,fr]
    rw [h2] at h1
    have h3 : step P (lone (fr b { a with defers:={ target:=.collected w.heap.size,args:=#[] } :: a.defers } (.endRangeFunc (w.heap.size + 1) :: k)) cs w₃) =
     .next (lone (fr b { a with defers:={ target:=.collected w.heap.size,args:=#[] } :: a.defers } ((jump.map Item.code).toList ++ k)) cs w₄):=stepR_endRangeFunc hend
    exact .head henter (Steps.trans (hsteps.trans (.one h1)) (.one h3))
   cases jump with
   | none=>exact ⟨.normal,_,cs,w₄,hj,sback⟩
   | some c=>
     cases c with
     | ret=>exact ⟨.ret,_,cs,w₄,hj,k,sback⟩
     | exit id=>exact ⟨.exit id,_,cs,w₄,hj,k,rfl,sback⟩
     | _=>exact hj.elim
 | panicked chain=>
   refine ⟨.panic chain,_,cs,w₃,hR,.inRangeFunc (w.heap.size + 1) :: k,.head henter (hsteps.trans (.one ?_))⟩
   have:=step_leave_panicked (c:=fr b { a with defers:={ target:=.collected w.heap.size,args:=#[] } :: a.defers } (.inRangeFunc (w.heap.size + 1) :: k)) (cs:=cs) hleave
   simpa [Frame.raise,fr] using this
 | outgrown=>exact hR.elim
end
def Peel (P : Program) (Q : World→Prop) : List Deferred→World→Prop
 | [],w=>Q w
 | d :: ds,w=>∃ r w',d.target = .collected r∧(Instr.takeDeferred r).run P w = .ok [] w'∧Peel P Q ds w'
theorem peel_steps {Q : World→Prop} {cs : List Frame} : ∀ (ds : List Deferred) (w : World) (fr : Frame),fr.mode ≠ .run→fr.defers = ds→Peel P Q ds w →
 ∃ w'',Q w''∧Steps P (lone fr cs w) (lone { fr with defers:=[] } cs w'')
 | [],w,fr,_,hd,h=>⟨w,h,by obtain ⟨a,b,c,d,e,f,g⟩:=fr; cases hd; exact .refl _ _⟩
 | d :: ds,w,fr,hm,hd,⟨r,w',h1,h2,h3⟩=>by
   have s1:=step_collected (cs:=cs) hm hd h1 h2
   obtain ⟨w'',h4,h5⟩:=peel_steps ds w' { fr with defers:=[] ++ ds } hm rfl h3
   exact ⟨w'',h4,.head s1 h5⟩
def callPostM (P : Program) (fn : Func) (cs : List Frame) (R : Ending→World→Prop) : Post
 | .normal,a,cs',w | .ret,a,cs',w=>cs' = cs∧Peel P (Leaves P fn a.tmps R [] .returning) a.defers w
 | .panic chain,a,cs',w=>cs' = cs∧Peel P (Leaves P fn a.tmps R [] (.panicking chain)) a.defers w
 | _,_,_,_=>False
theorem calls_ofM {f : FuncId} {fn : Func} {c : Code} {args : Array Value} {w : World} {R : Ending→World→Prop} (hf : P.funcs[f]? = some fn) (hb : fn.body = some c)
 (h : ∀ cs,WP P (base f .normal) c (callPostM P fn cs R) { tmps:=args ++ Array.replicate (fn.ntmps - args.size) Go.undef,defers:=[] } cs w) : Calls P f args w R:=by
 intro cs
 obtain ⟨e,a',cs',w',hq,harr⟩:=h cs []
 rw [← enter_fr hf hb] at harr
 have fin : ∀ {fr0 : Frame} {u : FrameMode} {w' : World},Steps P (lone (Frame.enter P f args .normal) cs w) (lone fr0 cs w')→fr0.mode = u→u ≠ .run→fr0.tmps = a'.tmps→fr0.fn = f→fr0.kind = .normal →
  Peel P (Leaves P fn a'.tmps R [] u) fr0.defers w'→∃ e' w'' fr',R e' w''∧Comes P (lone (Frame.enter P f args .normal) cs w) (lone fr' cs w'') e'∧fr'.fn = f∧fr'.leaving P w'' e':=by
  intro fr0 u w' hs hu hne ht hfn hk hp
  obtain ⟨w2,hl,hs2⟩:=peel_steps (cs:=cs) fr0.defers w' fr0 (by rw [hu]; exact hne) rfl hp
  obtain ⟨e',w'',fr',hR,hs3,hfn3,hl3⟩:=leaves_steps [] u w2 { fr0 with defers:=[] } cs hu rfl ht (by show P.funcs[fr0.fn]? = _; rw [hfn]; exact hf) hk hl
  exact ⟨e',w'',fr',hR,Comes.of_steps (Steps.trans hs hs2) hs3,hfn3.trans hfn,hl3⟩
 cases e with
 | normal=>
   obtain ⟨rfl,hq⟩:=hq
   exact fin (fr0:={ fr (base f .normal) a' [] with mode:=.returning }) (u:=.returning) (Steps.trans harr (.one (st_end rfl))) rfl (by simp) rfl rfl rfl hq
 | ret=>
   obtain ⟨rfl,hq⟩:=hq
   obtain ⟨todo,hs₀⟩:=harr
   exact fin (fr0:={ fr (base f .normal) a' (.code .ret :: todo) with mode:=.returning }) (u:=.returning) (Steps.trans hs₀ (.one (st_ret rfl))) rfl (by simp) rfl rfl rfl hq
 | panic chain=>
   obtain ⟨rfl,hq⟩:=hq
   obtain ⟨todo,hs₀⟩:=harr
   exact fin (fr0:={ fr (base f .normal) a' todo with mode:=.panicking chain }) (u:=.panicking chain) hs₀ rfl (by simp) rfl rfl rfl hq
 | exit id=>exact hq.elim
 | goto l=>exact hq.elim
 | outgrown=>exact hq.elim
end Go.Ev

/- EVALUATOR, 21: an operation of a region in its place: guards, calls, panics. -/
namespace Go.Ev
variable {P : Program}
theorem GlobR.mono {ρ ρ' : Rho} (h : ρ.le ρ') {n : Nat} (g : GlobR ρ n) : GlobR ρ' n:=fun i hi=>let ⟨S,h1⟩:=g i hi; ⟨S,h _ _ h1⟩
structure Fid where
 (a b c d : D)
def Fid.val (f : Fid) : Nat:=((f.a.val * 16 + f.b.val) * 16 + f.c.val) * 16 + f.d.val
def fidOf (n : Nat) : Fid:=⟨D.ofNat (n / 4096),D.ofNat (n / 256 % 16),D.ofNat (n / 16 % 16),D.ofNat (n % 16)⟩
theorem fidOf_val {n : Nat} (h : n < 65536) : (fidOf n).val = n:=by
 simp only [Fid.val,fidOf]
 rw [D.val_ofNat (by omega),D.val_ofNat (by omega),D.val_ofNat (by omega),D.val_ofNat (by omega)]
 omega
abbrev CF:=Fid→List V→Heap→Res
inductive VI where
 | op (x : OX)
 | call (f : Fid) (args : List Loc)
 | callv (f : Loc) (args : List Loc)
 | pan (x : Loc)
 | guard (c : Loc) (b : Bool) (i : VI)
 | cast (s : Sh) (i : VI)
noncomputable def backk (r : Res) (k kp : V→Heap→Res) : Res:=Res.rec (motive:=fun _=>Res) .fail (fun _ _ _=>.fail) k kp (fun _ _ a b=>mergk a b) r
theorem backk_le {k kp : V→Heap→Res} {x : Res} : ∀ {q : Res},Leaf x q→Le (backk x k kp) (backk q k kp)
 | .alt a b,h=>h.elim (fun h=>(backk_le (q:=a) h).trans (mergk_l (q:=backk a k kp))) fun h=>(backk_le (q:=b) h).trans (mergk_r (q:=backk a k kp))
 | .fail,h=>by cases h; exact .refl _
 | .done e vs h0,h=>by cases h; exact .refl _
 | .ret v h0,h=>by cases h; exact .refl _
 | .pan v h0,h=>by cases h; exact .refl _
theorem backk_fine {q : Res} {k kp : V→Heap→Res} (h : Fine (backk q k kp)) : Fine q:=fun e=>h (backk_le (k:=k) (kp:=kp) e _ rfl)
noncomputable def iffk (x : V) (k : Res) : Res:=
 V.rec (motive_1:=fun _=>Res→Res) (motive_2:=fun _=>PUnit) (fun _=>.fail) (fun _=>.fail) (fun _ _=>.fail) (fun _ _ _=>.fail) (fun _ _ _=>.fail) (fun _=>.fail) (fun _ _ _=>.fail)
  (fun _=>.fail) (fun _ _ _ _ _ _=>.fail) (fun _=>.fail) (fun _=>.fail) (fun _ _=>.fail) (fun _=>.fail) (fun _ _ _ _=>.fail) (fun _=>.fail) (fun _ _ _ k=>k) (fun _ _ _ _=>.fail)
  (fun _ _ _=>.fail) PUnit.unit (fun _ _ _ _=>PUnit.unit) x k
theorem iffk_ok {x : V} {k r : Res} (h : iffk x k = r) (hr : r ≠ .fail) : (∃ t v,x = .iface t v)∧k = r:=by
 cases x <;> first | exact absurd h.symm hr | exact ⟨⟨_,_,rfl⟩,h⟩
noncomputable def grdk (x : V) (k : Bool→Res) (z : Res) : Res:=
 V.rec (motive_1:=fun _=>(Bool→Res)→Res→Res) (motive_2:=fun _=>PUnit) (fun _ _=>.fail) (fun _ z=>z) (fun b k _=>k b) (fun _ _ _ _=>.fail) (fun _ _ _ _=>.fail) (fun _ _=>.fail)
  (fun _ _ _ _=>.fail) (fun _ _=>.fail) (fun _ _ _ _ _ _ _=>.fail) (fun _ _=>.fail) (fun _ _=>.fail) (fun _ _ _=>.fail) (fun _ _=>.fail) (fun _ _ _ _ _=>.fail) (fun _ _=>.fail)
  (fun _ _ _ _ _=>.fail) (fun _ _ _ _ _=>.fail) (fun _ _ _ _=>.fail) PUnit.unit (fun _ _ _ _=>PUnit.unit) x k z
theorem grdk_ok {x : V} {k : Bool→Res} {z r : Res} (h : grdk x k z = r) (hr : r ≠ .fail) : (∃ b,x = .bool b∧k b = r) ∨ (x = .skip∧z = r):=by
 cases x <;> first | exact absurd h.symm hr | exact .inl ⟨_,rfl,h⟩ | exact .inr ⟨rfl,h⟩
noncomputable def callf (cf : CF) (fv : V) (l : List V) (h : Heap) (z : List V→Res) : Res:=
 fnk fv fun n cap=>ifk (Nat.blt n 65536) (appk l cap fun m=>cf (fidOf n) m h) (ifk (Nat.blt n 4294967296)
  (takek (Nat.div n 65536) cap fun x y=>appk l y fun m=>appk x m fun m'=>cf (fidOf (Nat.mod n 65536)) m' h) (z cap))
def rid (id : Nat) : Fid:=fidOf (Nat.add 32768 id)
noncomputable def lpq (x : Oth) (k : Nat→Nat→List V→Nat→Nat→Res) : Res:=Oth.rec (motive:=fun _=>Res) (fun _ _=>.fail) (fun _ _ _=>.fail) k (fun _ _ _ _=>.fail) (fun _ _ _=>.fail) (fun _ _ _=>.fail) (fun _=>.fail) x
theorem lpq_ok {x : Oth} {k : Nat→Nat→List V→Nat→Nat→Res} {r : Res} (h : lpq x k = r) (hr : r ≠ .fail) : ∃ id mask vs st pd,x = .lp id mask vs st pd∧k id mask vs st pd = r:=by
 cases x with
 | lp id mask vs st pd=>exact ⟨id,mask,vs,st,pd,rfl,h⟩
 | _=>exact absurd h.symm hr
noncomputable def roundk (cf : CF) (l : List V) (h : Heap) (cap : List V) : Res:=
 unc cap fun p rest=>nilk' rest (ptrk p fun b _=>h.getk b fun y=>obk y fun y=>lpq y fun id mask vs st _=>zk st (ifk (Nat.blt id 32768) (appk vs l fun m=>cf (rid id) (.int .u64 (.ofNat mask) :: .ptr b 0 :: m) h) .fail) .fail)
noncomputable def callv (cf : CF) (fv : V) (l : List V) (h : Heap) : Res:=callf cf fv l h (roundk cf l h)
noncomputable def wantb (b t : Bool) : Bool:=Bool.rec (motive:=fun _=>Bool) (not t) t b
noncomputable def runVIg (sem : OX→Do) (cf : CF) (i : VI) (L : List V) (env : Env) (h : Heap) (k kp : V→Heap→Res) : Res:=
 VI.rec (motive:=fun _=>CF→List V→Env→Heap→(V→Heap→Res)→(V→Heap→Res)→Res)
  (fun x _ L env h k _=>sem x L env h k)
  (fun f args cf L env h k kp=>getsk args L env fun l=>backk (cf f l h) k kp)
  (fun f args cf L env h k kp=>getk f L env fun fv=>getsk args L env fun l=>backk (callv cf fv l h) k kp)
  (fun x _ L env h _ kp=>getk x L env fun v=>iffk v (kp v h))
  (fun c b _ ih cf L env h k kp=>getk c L env fun v=>backk (grdk v (fun t=>ifk (wantb b t) (ih cf L env h .ret .pan) (.ret .skip h)) (.ret .skip h)) k kp)
  (fun s _ ih cf L env h k kp=>ih cf L env h (fun u h'=>castk s u fun u=>k u h') kp)
  i cf L env h k kp
noncomputable abbrev runVI:=runVIg semOX
def Enters (P : Program) (f : Nat) : Prop:=∃ fn c,P.funcs[f]? = some fn∧fn.body = some c∧(fn.name == "runtime.NumGoroutine") = false
def Came (P : Program) (ρ : Rho) (h : Heap) (w : World) : Res→Ending→World→Prop
 | .alt a b,e,w'=>Came P ρ h w a e w' ∨ Came P ρ h w b e w'
 | .ret v h',e,w'=>∃ ρ' y,e = .returned y∧VR ρ' v y∧RH P ρ' h' w'∧Ext ρ h w ρ' h' w'
 | .pan v h',e,w'=>∃ ρ' y,e = .panicked [{ v:=y,recovered:=false }]∧VR ρ' v y∧RH P ρ' h' w'∧Ext ρ h w ρ' h' w'
 | _,_,_=>False
theorem Came.leaf {ρ : Rho} {h : Heap} {w : World} {e : Ending} {w' : World} : ∀ {r : Res},Came P ρ h w r e w'→∃ x,Leaf x r∧x.one∧Came P ρ h w x e w'
 | .alt a b,c=>by
   rcases c with c | c
   · obtain ⟨x,h1,h2⟩:=Came.leaf c; exact ⟨x,.inl h1,h2⟩
   · obtain ⟨x,h1,h2⟩:=Came.leaf c; exact ⟨x,.inr h1,h2⟩
 | .fail,c=>c.elim
 | .done _ _ _,c=>c.elim
 | .ret v h0,c=>⟨_,rfl,trivial,c⟩
 | .pan v h0,c=>⟨_,rfl,trivial,c⟩
theorem Came.of_leaf {ρ : Rho} {h : Heap} {w : World} {e : Ending} {w' : World} {x : Res} (c : Came P ρ h w x e w') : ∀ {r : Res},Leaf x r→Came P ρ h w r e w'
 | .alt a b,hx=>hx.elim (fun h=>.inl (c.of_leaf h)) fun h=>.inr (c.of_leaf h)
 | .fail,hx=>by cases hx; exact c
 | .done _ _ _,hx=>by cases hx; exact c
 | .ret v h0,hx=>by cases hx; exact c
 | .pan v h0,hx=>by cases hx; exact c
theorem Came.le {ρ : Rho} {h : Heap} {w : World} {e : Ending} {w' : World} {q r : Res} (c : Came P ρ h w q e w') (hl : Le q r) : Came P ρ h w r e w':=by
 obtain ⟨x,h1,_,h2⟩:=c.leaf
 exact h2.of_leaf (hl x h1)
def FnOk (P : Program) (ng n : Nat) (F : List V→Heap→Res) : Prop:=∀ l h r,F l h = r→Fine r→Enters P n∧∀ ρ w args,VRs ρ l args→RH P ρ h w→GlobR ρ ng →
 Calls P n args.toArray w (Came P ρ h w r)
def RnOk (P : Program) (ng id : Nat) (F : List V→Heap→Res) : Prop:=∀ l h r,F l h = r→Fine r→∀ mask b vs us,l = .int .u64 (.ofNat mask) :: .ptr b 0 :: (vs ++ us) →
 ∀ ρ w lp S pd args,RH P ρ h w→GlobR ρ ng→ρ b = some (lp,0,S)→h.t.get b = .ob (.lp id mask vs 0 pd)→VRs ρ us args→Rounds P lp args.toArray w (Came P ρ h w r)
def CallOk (P : Program) (ng n : Nat) (F : List V→Heap→Res) : Prop:=(n < 32768→FnOk P ng n F)∧(32768 ≤ n→RnOk P ng (n - 32768) F)
def CFok (P : Program) (ng : Nat) (cf : CF) : Prop:=∀ fid,CallOk P ng fid.val (cf fid)
theorem backk_ok {x : Res} {k kp : V→Heap→Res} {r : Res} (h : backk x k kp = r) (hr : r ≠ .fail) : (∃ v h',x = .ret v h'∧k v h' = r) ∨ (∃ v h',x = .pan v h'∧kp v h' = r) ∨ ∃ a b,x = .alt a b:=by
 cases x with
 | ret v h'=>exact .inl ⟨v,h',rfl,h⟩
 | pan v h'=>exact .inr (.inl ⟨v,h',rfl,h⟩)
 | fail=>exact absurd h.symm hr
 | done _ _ _=>exact absurd h.symm hr
 | alt a b=>exact .inr (.inr ⟨a,b,rfl⟩)
theorem backk_came {q : Res} {k kp : V→Heap→Res} {r : Res} (hh : backk q k kp = r) {ρ : Rho} {h : Heap} {w : World} {e : Ending} {w' : World} (c : Came P ρ h w q e w') :
 (∃ v h',Le (k v h') r∧Came P ρ h w (.ret v h') e w') ∨ ∃ v h',Le (kp v h') r∧Came P ρ h w (.pan v h') e w':=by
 obtain ⟨x,h1,h2,h3⟩:=c.leaf
 have h4:=(backk_le (k:=k) (kp:=kp) h1).trans (.of_eq hh)
 cases x with
 | ret v h'=>exact .inl ⟨v,h',h4,h3⟩
 | pan v h'=>exact .inr ⟨v,h',h4,h3⟩
 | fail=>exact h3.elim
 | done _ _ _=>exact h3.elim
 | alt a b=>exact h2.elim
def cVI (P : Program) (f : Operand→Option Loc) (pos : String) (o : Op) : Option VI:=
 match cOX P f pos o with
 | some ox=>some (.op ox)
 | none=>match o with
   | .call { callee:=.value (.func g),args,.. }=>if g < 32768 then (locsOf f args.toList).map (.call (fidOf g)) else none
   | .call { callee:=.value (.tmp t),args,.. }=>(f (.tmp t)).bind fun l=>(locsOf f args.toList).map (.callv l)
   | .panic x=>(f x).map .pan
   | _=>none
def sh1Of (P : Program) (t : TypeId) : Sh1:=
 match P.underlying t with
 | some .bool=>.bool
 | some (.int k)=>.int k
 | some .string=>.str
 | _=>.any
def shOf (P : Program) (t : TypeId) : Sh:=
 match P.underlying t with
 | some (.tuple ts)=>.tup (ts.toList.map fun _=>.any)
 | _=>.one (sh1Of P t)
def blindOp : Op→Bool
 | .load _ _ | .index _ _ _ | .pick _ _ _ | .extract _ _ | .field _ _ _ | .slice _ _ _ _ _ | .convert _ _ _ | .call { callee:=.value _,.. } | .call { callee:=.builtin .len,.. }
 | .call { callee:=.builtin .copy,.. } | .call { callee:=.builtin .min,.. } | .call { callee:=.builtin .max,.. }=>true
 | _=>false
def castO (P : Program) (o : Oper) (v : VI) : VI:=
 if blindOp o.op then match shOf P o.type with
  | .one .any=>v
  | s=>.cast s v
 else v
def cGuard (P : Program) (f : Operand→Option Loc) (ops : Array Oper) (o : Oper) : Option VI:=
 match o.guard with
 | none=>(cVI P f o.pos o.op).map (castO P o)
 | some (j,b)=>((ops[j]?).bind (·.dst)).bind fun t=>(f (.tmp t)).bind fun c=>(cVI P f o.pos o.op).map fun v=>.guard c b (castO P o v)
section ok
variable {ρ : Rho} {h : Heap} {w : World} {k kp : V→Heap→Res} {r : Res} {ng : Nat} {T : Nat→Option Loc} {L : List V} {env : Env} {a : Act} {b : Frame} {ops : Array Oper} {Q : Post}
 {cs : List Frame} {i : Nat} {rest : List Nat} {o : Oper} {cf : CF}
def Goes (P : Program) (b : Frame) (ops : Array Oper) (rest : List Nat) (Q : Post) (a : Act) (cs : List Frame) (ρ : Rho) (h : Heap) (w : World) (dst : Option Tmp) (k : V→Heap→Res) (r : Res) : Prop:=
 ∀ u h' ρ' y w',Le (k u h') r→VR ρ' u y→RH P ρ' h' w'→Ext ρ h w ρ' h' w'→WO P b ops rest Q (a.put dst y) cs w'
def Leaps (P : Program) (Q : Post) (a : Act) (cs : List Frame) (ρ : Rho) (h : Heap) (w : World) (kp : V→Heap→Res) (r : Res) : Prop:=
 ∀ u h' ρ' y w',Le (kp u h') r→VR ρ' u y→RH P ρ' h' w'→Ext ρ h w ρ' h' w'→Q (.panic [{ v:=y,recovered:=false }]) a cs w'
theorem run_enter {f : FuncId} {args : Array Value} (he : Enters P f) : (callFunc f args).run P w = .ok (.enter f args) w:=by
 obtain ⟨fn,c,h1,h2,h3⟩:=he
 have h3 : ¬fn.name = "runtime.NumGoroutine":=by simpa using h3
 simp [callFunc,h1,h2,h3]
theorem vi_came {f : FuncId} {args : Array Value} {q : Res} (hh : backk q k kp = r) (hc : Calls P f args w (Came P ρ h w q))
 (ho : ops[i]? = some o) (hw : Region.wanted o (yielded ops a.tmps) = true) (hd : b.roundOf = none ∨ ∀ c,o.op ≠ .defer c)
 (hx : (execOp a.eval o).run P w = .ok (.enter f args) w) (hk : Goes P b ops rest Q a cs ρ h w o.dst k r) (hp : Leaps P Q a cs ρ h w kp r) : WO P b ops (i :: rest) Q a cs w:=by
 refine .call ho hw hd hx (hc.mono fun e w' c=>?_)
 rcases backk_came hh c with ⟨v,h',h2,ρ',y,rfl,h5,h6,h7⟩ | ⟨v,h',h2,ρ',y,rfl,h5,h6,h7⟩
 · exact hk v h' ρ' y w' h2 h5 h6 h7
 · exact hp v h' ρ' y w' h2 h5 h6 h7
theorem vi_round {lp : Nat} {args : Array Value} {q : Res} (hh : backk q k kp = r) (hc : Rounds P lp args w (Came P ρ h w q))
 (ho : ops[i]? = some o) (hw : Region.wanted o (yielded ops a.tmps) = true) (hd : b.roundOf = none ∨ ∀ c,o.op ≠ .defer c)
 (hx : (execOp a.eval o).run P w = (Instr.yield lp args).run P w) (hk : Goes P b ops rest Q a cs ρ h w o.dst k r) (hp : Leaps P Q a cs ρ h w kp r) : WO P b ops (i :: rest) Q a cs w:=by
 refine .round ho hw hd hx (hc.mono fun e w' c=>?_)
 rcases backk_came hh c with ⟨v,h',h2,ρ',y,rfl,h5,h6,h7⟩ | ⟨v,h',h2,ρ',y,rfl,h5,h6,h7⟩
 · exact hk v h' ρ' y w' h2 h5 h6 h7
 · exact hp v h' ρ' y w' h2 h5 h6 h7
theorem vi_call (hcf : CFok P ng cf) (hg : GlobR ρ ng) (rh : RH P ρ h w) {fid : Fid} {l : List V} (hf : fid.val < 32768) (hh : backk (cf fid l h) k kp = r) (hr : Fine r) {args : List Value} (hv : VRs ρ l args)
 (ho : ops[i]? = some o) (hw : Region.wanted o (yielded ops a.tmps) = true) (hd : b.roundOf = none ∨ ∀ c,o.op ≠ .defer c)
 (hx : Enters P fid.val→(execOp a.eval o).run P w = .ok (.enter fid.val args.toArray) w) (hk : Goes P b ops rest Q a cs ρ h w o.dst k r) (hp : Leaps P Q a cs ρ h w kp r) : WO P b ops (i :: rest) Q a cs w:=by
 have hq : Fine (cf fid l h):=backk_fine (k:=k) (kp:=kp) (by rw [hh]; exact hr)
 obtain ⟨h3,h4⟩:=(hcf fid).1 hf l h _ rfl hq
 exact vi_came hh (h4 ρ w args hv rh hg) ho hw hd (hx h3) hk hp
theorem callf_ok (hcf : CFok P ng cf) (hg : GlobR ρ ng) (rh : RH P ρ h w) {fv : V} {l : List V} {z : List V→Res} {q : Res} (hq : callf cf fv l h z = q) (hq' : Fine q) {xv : Value} {args : List Value}
 (hfv : VR ρ fv xv) (hl : VRs ρ l args) : (∃ F first ccs,xv = .func (.func F) first ccs∧Enters P F∧Calls P F (first.toList ++ (args ++ ccs.toList)).toArray w (Came P ρ h w q)) ∨
   ∃ b c S z0,xv = .func (.yield c) #[] #[]∧ρ b = some (c,z0,S)∧z [.ptr b 0] = q:=by
 obtain ⟨n,cap,rfl,h7⟩:=fnk_ok hq hq'.ne
 cases hfv with
 | yld hb=>exact .inr ⟨_,_,_,_,rfl,hb,h7⟩
 | func hf hk hk2 hF hcap=>
   rename_i f k' first ccs
   left
   rcases ifk_ne h7 with ⟨h8,h9⟩ | ⟨h8,h9⟩
   · have hlt : n < 65536:=by simp [Nat.blt] at h8; omega
     have hk0 : k' = 0:=by omega
     subst hk0
     have : first = #[]:=Array.size_eq_zero_iff.1 hk
     subst this
     have : n = f:=by omega
     subst this
     rw [appk_eq] at h9
     have e0 : (fidOf n).val = n:=fidOf_val hlt
     obtain ⟨h3,h4⟩:=(hcf (fidOf n)).1 (by rw [e0]; exact hf) _ _ _ h9 hq'
     rw [e0] at h3 h4
     exact ⟨n,#[],ccs,rfl,h3,by simpa using h4 ρ w _ (hl.append hcap) rh hg⟩
   · rw [show Nat.blt n 4294967296 = true by simp [Nat.blt]; omega] at h9
     have h9 : takek (Nat.div n 65536) cap (fun x y=>appk l y fun m=>appk x m fun m'=>cf (fidOf (Nat.mod n 65536)) m' h) = q:=h9
     obtain ⟨h10,h11⟩:=takek_ok h9 hq'.ne
     rw [appk_eq,appk_eq] at h11
     have e1 : Nat.div n 65536 = k':=by show n / 65536 = k'; omega
     have e2 : Nat.mod n 65536 = f:=by show n % 65536 = f; omega
     rw [e1,e2] at h11
     have v1 : VRs ρ (cap.take k') first.toList:=by
      have:=hcap.take k'
      rwa [List.take_left' (by simpa using hk)] at this
     have v2 : VRs ρ (cap.drop k') ccs.toList:=by
      have:=hcap.drop k'
      rwa [List.drop_left' (by simpa using hk)] at this
     have e0 : (fidOf f).val = f:=fidOf_val (by omega)
     obtain ⟨h3,h4⟩:=(hcf (fidOf f)).1 (by rw [e0]; exact hf) _ _ _ h11 hq'
     rw [e0] at h3 h4
     exact ⟨f,first,ccs,rfl,h3,h4 ρ w _ (v1.append (hl.append v2)) rh hg⟩
theorem roundk_ok (hcf : CFok P ng cf) (hg : GlobR ρ ng) (rh : RH P ρ h w) {l : List V} {q : Res} {bb : Bid} {c S z0 : Nat} (hq : roundk cf l h [.ptr bb 0] = q) (hq' : Fine q) (hb : ρ bb = some (c,z0,S))
 {args : List Value} (hl : VRs ρ l args) : Rounds P c args.toArray w (Came P ρ h w q):=by
 have hq : (h.getk bb fun y=>obk y fun y=>lpq y fun id mask vs st _=>zk st (ifk (Nat.blt id 32768) (appk vs l fun m=>cf (rid id) (.int .u64 (.ofNat mask) :: .ptr bb 0 :: m) h) .fail) .fail) = q:=hq
 rw [Heap.getk_eq] at hq
 obtain ⟨x,hx,h1⟩:=obk_ok hq hq'.ne
 obtain ⟨id,mask,vs,st,pd,rfl,h2⟩:=lpq_ok h1 hq'.ne
 obtain ⟨rfl,h3⟩:=zk_fail h2 hq'.ne
 obtain ⟨h4,h5⟩:=ifk_fail h3 hq'.ne
 have hid : id < 32768:=by simpa [Nat.blt_eq] using h4
 rw [appk_eq] at h5
 obtain ⟨ob,_,_,rfl,_⟩:=rh.ob bb c z0 S _ hb hx
 have e0 : (rid id).val = 32768 + id:=fidOf_val (by show 32768 + id < 65536; omega)
 have h6:=(hcf (rid id)).2 (by rw [e0]; omega)
 rw [e0,Nat.add_sub_cancel_left] at h6
 exact h6 _ h q h5 hq' mask bb vs l rfl ρ w c S pd args rh hg hb hx hl
theorem cOX_defer (f : Operand→Option Loc) (pos : String) (c : Call) : cOX P f pos (.defer c) = none:=by simp [cOX,cEX]
theorem cVI_ok (hcf : CFok P ng cf) (c : Cx P ρ ng T L env h w a) {vi : VI} (hc : cVI P (locOf T ng) o.pos o.op = some vi) (hh : runVI cf vi L env h k kp = r) (hr : Fine r)
 (ho : ops[i]? = some o) (hw : Region.wanted o (yielded ops a.tmps) = true) (hgo : Goes P b ops rest Q a cs ρ h w o.dst k r) (hp : Leaps P Q a cs ρ h w kp r) :
 WO P b ops (i :: rest) Q a cs w:=by
 have hk:=hgo
 unfold cVI at hc
 split at hc
 · rename_i ox hox
   cases hc
   obtain ⟨_,u,h',ρ',y,w',h1,h2,h3,h4,h5⟩:=cOX_ok c hox (show semOX ox L env h k = r from hh) hr.ne
   have nd : ∀ c,o.op ≠ .defer c:=fun c e=>by rw [e,cOX_defer] at hox; cases hox
   rcases h2 with h2 | ⟨h2,rfl⟩
   · exact .value ho hw (.inr nd) h2 (hk u h' ρ' y w' h1 h3 h4 h5)
   · exact .unit ho hw (.inr nd) h2 (hk u h' ρ' _ w' h1 h3 h4 h5)
 · split at hc
   · rename_i g args types hop
     split at hc
     · rename_i hlt
       obtain ⟨ls,h1,rfl⟩:=Option.map_eq_some_iff.1 hc
       obtain ⟨l,h2,h3⟩:=c.locs h1 (k:=fun l=>backk (cf (fidOf g) l h) k kp) hh hr.ne
       refine vi_call hcf c.glob c.rh (by rw [fidOf_val (Nat.lt_trans hlt (by decide))]; exact hlt) h2 hr h3 ho hw (.inr fun c e=>by rw [hop] at e; cases e) (fun he=>?_) hk hp
       rw [fidOf_val (Nat.lt_trans hlt (by decide))] at he ⊢
       simp only [execOp,hop,resolve,Act.eval,Deferred.ofValue,Sem.run_bind,Sem.run_pure,Result.andThen_ok,invoke]
       rw [run_enter he,← Array.toList_map,Array.toArray_toList]
       simp only [Array.empty_append,Array.append_empty]
     · cases hc
   · rename_i t args types hop
     obtain ⟨lf,h1,hc⟩:=Option.bind_eq_some_iff.1 hc
     obtain ⟨ls,h2,rfl⟩:=Option.map_eq_some_iff.1 hc
     obtain ⟨fv,h3,h4⟩:=c.loc h1 (k:=fun fv=>getsk ls L env fun l=>backk (callv cf fv l h) k kp) hh hr.ne
     obtain ⟨l,h5,h6⟩:=c.locs h2 (k:=fun l=>backk (callv cf fv l h) k kp) h3 hr.ne
     obtain ⟨q,hq,h5⟩ : ∃ q,callv cf fv l h = q∧backk q k kp = r:=⟨_,rfl,h5⟩
     have hq' : Fine q:=backk_fine (k:=k) (kp:=kp) (by rw [h5]; exact hr)
     generalize hx : a.eval (.tmp t) = xv at h4
     rcases callf_ok hcf c.glob c.rh hq hq' h4 h6 with ⟨F,first,ccs,rfl,he,hc⟩ | ⟨bb,cc,S,z0,rfl,hbb,hz⟩
     · refine vi_came h5 hc ho hw (.inr fun c e=>by rw [hop] at e; cases e) ?_ hgo hp
       simp only [execOp,hop,resolve,hx,Deferred.ofValue,Sem.run_bind,Sem.run_pure,Result.andThen_ok,invoke]
       rw [run_enter he,← Array.toList_map]
       simp
     · refine vi_round h5 (roundk_ok hcf c.glob c.rh hz hq' hbb h6) ho hw (.inr fun c e=>by rw [hop] at e; cases e) ?_ hgo hp
       simp only [execOp,hop,resolve,hx,Deferred.ofValue,Sem.run_bind,Sem.run_pure,Result.andThen_ok,invoke]
       rw [← Array.toList_map,Array.toArray_toList,Array.empty_append]
   · rename_i x hop
     obtain ⟨l,h1,rfl⟩:=Option.map_eq_some_iff.1 hc
     obtain ⟨v,h2,h3⟩:=c.loc h1 (k:=fun v=>iffk v (kp v h)) hh hr.ne
     obtain ⟨⟨t,v',rfl⟩,h4⟩:=iffk_ok h2 hr.ne
     generalize hx : a.eval x = xv at h3
     cases h3
     rename_i y h5
     refine .panic ho hw (.inr fun c e=>by rw [hop] at e; cases e) (v:=.iface t y) ?_ (hp _ h ρ _ w (.of_eq h4) (.iface h5) c.rh (.refl _ _ _))
     simp [execOp,hop,hx,Instr.panic,goPanic]
   · cases hc
theorem yielded_eq {j t : Nat} (h : ((ops[j]?).bind (·.dst)) = some t) : yielded ops a.tmps j = match a.eval (.tmp t) with | .bool b=>some b | _=>none:=by
 simp only [yielded,h,Option.bind_some,Act.eval]
 rw [Array.getD_eq_getD_getElem?]
 cases hx : a.tmps[t]? with
 | none=>rfl
 | some x=>cases x <;> rfl
theorem castO_ok (hcf : CFok P ng cf) (c : Cx P ρ ng T L env h w a) {vi : VI} (hc : cVI P (locOf T ng) o.pos o.op = some vi) (hh : runVI cf (castO P o vi) L env h k kp = r) (hr : Fine r)
 (ho : ops[i]? = some o) (hw : Region.wanted o (yielded ops a.tmps) = true) (hk : Goes P b ops rest Q a cs ρ h w o.dst k r) (hp : Leaps P Q a cs ρ h w kp r) :
 WO P b ops (i :: rest) Q a cs w:=by
 have cast : ∀ s,runVI cf (.cast s vi) L env h k kp = r→WO P b ops (i :: rest) Q a cs w:=fun s hh=>
  cVI_ok (k:=fun u h'=>castk s u fun u=>k u h') hcf c hc hh hr ho hw (fun u h' ρ' y w' h1=>hk u h' ρ' y w' ((Le.of_eq (castk_ok (s:=s) (v:=u) (k:=fun u=>k u h') rfl (hr.le h1).ne)).trans h1)) hp
 unfold castO at hh
 split at hh
 · split at hh
   · exact cVI_ok hcf c hc hh hr ho hw hk hp
   · exact cast _ hh
 · exact cVI_ok hcf c hc hh hr ho hw hk hp
theorem cGuard_ok (hcf : CFok P ng cf) (c : Cx P ρ ng T L env h w a) {vi : VI} (hc : cGuard P (locOf T ng) ops o = some vi) (hh : runVI cf vi L env h k kp = r) (hr : Fine r)
 (ho : ops[i]? = some o) (hk : Goes P b ops rest Q a cs ρ h w o.dst k r) (hp : Leaps P Q a cs ρ h w kp r) :
 WO P b ops (i :: rest) Q a cs w:=by
 unfold cGuard at hc
 split at hc
 · rename_i hg
   obtain ⟨v,h1,rfl⟩:=Option.map_eq_some_iff.1 hc
   exact castO_ok hcf c h1 hh hr ho (by simp [Region.wanted,hg]) hk hp
 · rename_i j want hg
   obtain ⟨t,h1,hc⟩:=Option.bind_eq_some_iff.1 hc
   obtain ⟨lc,h2,hc⟩:=Option.bind_eq_some_iff.1 hc
   obtain ⟨v,h3,rfl⟩:=Option.map_eq_some_iff.1 hc
   obtain ⟨u,h4,h5⟩:=c.loc h2 (k:=fun x=>backk (grdk x (fun t=>ifk (wantb want t)
    (runVI cf (castO P o v) L env h .ret .pan) (.ret .skip h)) (.ret .skip h)) k kp) hh hr.ne
   have hy:=yielded_eq (a:=a) h1
   have skip : Region.wanted o (yielded ops a.tmps) = false→k .skip h = r→WO P b ops (i :: rest) Q a cs w:=fun h6 h7=>.skip ho h6 (hk _ h ρ _ w (.of_eq h7) .skip c.rh (.refl _ _ _))
   obtain ⟨q,h6,hq⟩ : ∃ q,grdk u (fun t=>ifk (wantb want t)
    (runVI cf (castO P o v) L env h .ret .pan) (.ret .skip h)) (.ret .skip h) = q∧backk q k kp = r:=⟨_,rfl,h4⟩
   have hq' : Fine q:=backk_fine (k:=k) (kp:=kp) (by rw [hq]; exact hr)
   have fin : (Res.ret .skip h) = q→k .skip h = r:=fun e=>by subst e; exact hq
   rcases grdk_ok h6 hq'.ne with ⟨x,rfl,h6⟩ | ⟨rfl,h6⟩
   · generalize a.eval (.tmp t) = xv at h5 hy
     cases h5
     rcases ifk_ne h6 with ⟨h7,h8⟩ | ⟨h7,h8⟩
     · refine castO_ok (k:=.ret) (kp:=.pan) hcf c h3 h8 hq' ho ?_ ?_ ?_
       · simp only [Region.wanted,hg,hy]
         cases x <;> cases want <;> simp_all [wantb]
       · intro u h' ρ' y w' e1 e2 e3 e4
         exact hk u h' ρ' y w' (((backk_le (k:=k) (kp:=kp) (e1 _ rfl))).trans (.of_eq hq)) e2 e3 e4
       · intro u h' ρ' y w' e1 e2 e3 e4
         exact hp u h' ρ' y w' (((backk_le (k:=k) (kp:=kp) (e1 _ rfl))).trans (.of_eq hq)) e2 e3 e4
     · refine skip ?_ (fin h8)
       simp only [Region.wanted,hg,hy]
       cases x <;> cases want <;> simp_all [wantb]
   · generalize a.eval (.tmp t) = xv at h5 hy
     cases h5
     refine skip ?_ (fin h6)
     simp only [Region.wanted,hg,hy]
     rfl
end ok
end Go.Ev
