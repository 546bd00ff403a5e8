/- EvAbb: texts joined. -/
import Derived.Test.YtobbabhldblljaaGreatDoorEvAnn
/- EVALUATOR: functions that put off one call of a function of their own, which asks at once whether there is a panic ('recover'). -/
namespace Go.Ev
variable {P : Program}
structure PFd where
 reg : List RI
 code : PC
 args : List (Slot × Sh1)
structure PFD where
 pre : List PC
 reg : List RI
 clo : Loc
 g : Nat
 d : PFd
 rest : PC
 args : List (Slot × Sh1)
 res : List RS
def PFd.strip (p : PFd) : PFd:=⟨p.reg,p.code.strip,p.args⟩
def PFD.strip (p : PFD) : PFD:=⟨p.pre.map PC.strip,p.reg,p.clo,p.g,p.d.strip,p.rest.strip,p.args,p.res⟩
noncomputable def runFdg (sem : OX→Do) (n : Nat) (cf : CF) (p : PFd) (cap : List V) (h : Heap) (pv : V) : Res:=
 PFd.rec (motive:=fun _=>Res) (fun reg code sl=>argk sl cap env0 fun env=>runLg sem cf reg [pv] env h fun x env h=>nork x (runCg sem cf n code env h fun x _ h=>endk x (.ret .skip h) fun _=>.fail) .fail) p
noncomputable def offk (sem : OX→Do) (n : Nat) (cf : CF) (d : PFd) (cap : List V) (h : Heap) (pv : V) (k : Heap→Res) : Res:=
 back1k (runFdg sem n cf d cap h pv) (fun _ h'=>k h') fun _ _=>.fail
noncomputable def runPre (sem : OX→Do) (n : Nat) (cf : CF) (l : List PC) (env : Env) (h : Heap) (k : Env→Heap→Res) : Res:=
 List.rec (motive:=fun _=>Env→Heap→Res) (fun env h=>k env h) (fun p _ ih env h=>runCg sem cf n p env h fun x env h=>nork x (ih env h) .fail) l env h
noncomputable def runFDg (sem : OX→Do) (n : Nat) (cf : CF) (p : PFD) (args : List V) (h : Heap) : Res:=
 PFD.rec (motive:=fun _=>Res) (fun pre reg clo g d rest sl res=>argk sl args env0 fun env=>runPre sem n cf pre env h fun env h=>runLg sem cf reg [] env h fun x env h=>nork x
  (getk clo [] env fun fv=>fnk fv fun F cap=>ifk (Nat.beq F g) (runCg sem cf n rest env h fun x env h=>endk x
    (offk sem n cf d cap h .nili fun h=>resk res env h fun l=>soloV l fun v=>.ret v h)
    fun v=>iffk v (offk sem n cf d cap h v fun h=>resk res env h fun l=>soloV l fun v=>.ret v h)) .fail) .fail) p
def prepR (P : Program) (ng : Nat) (fi : FI) (g : Nat) : Option PFd:=
 match P.funcs[g]? with
 | some fn=>match fn.body with
   | some (.seq (.region _ ops false) rest)=>match ops.toList with
     | o :: l=>match o.dst,o.op,o.guard with
       | some t,.call { callee:=.builtin .recover,args:=⟨[]⟩,.. },none=>
         if fn.name == "runtime.NumGoroutine" then none else
         if fn.ntmps = fi.nt∧fn.params.size = 0∧fn.results.size = 0∧fn.nfree ≤ fi.nt∧t < fi.nt∧fi.inl.testBit t = true then
          (cReg P fi ng ops l [(t,.s 0)]).bind fun rg=>(cCode P fi ng none rest).bind fun pc=>(slots fi (List.range fn.nfree)).map fun as=>⟨rg,pc,attach P as []⟩
         else none
       | _,_,_=>none
     | []=>none
   | _=>none
 | none=>none
def isDefer (o : Oper) : Bool:=match o.op with
 | .defer _=>true
 | _=>false
def splitD : Code→Option (List Code × Array Oper × Code)
 | .seq x y=>match x with
   | .region _ ops false=>if (ops.toList.getLast?.map isDefer).getD false then some ([],ops,y) else (splitD y).map fun q=>(x :: q.1,q.2.1,q.2.2)
   | _=>(splitD y).map fun q=>(x :: q.1,q.2.1,q.2.2)
 | _=>none
def codesOf (P : Program) (fi : FI) (ng : Nat) : List Code→Option (List PC)
 | []=>some []
 | c :: l=>(cCode P fi ng none c).bind fun a=>(codesOf P fi ng l).map fun b=>a :: b
def prepD (P : Program) (ng : Nat) (fi fid : FI) (f g : Nat) : Option PFD:=
 match P.funcs[f]? with
 | some fn=>match fn.body with
   | some c=>if fn.name == "runtime.NumGoroutine" then none else if fn.ntmps = fi.nt∧fn.params.size + fn.nfree ≤ fi.nt∧g < 65536∧f < 32768 then
      (splitD c).bind fun q=>(q.2.1.toList.getLast?).bind fun o=>match o.op,o.guard,o.dst with
        | .defer { callee:=.value (.tmp t),args:=⟨[]⟩,.. },none,none=>if fi.inl.testBit t then none else
          (codesOf P fi ng q.1).bind fun pre=>(cReg P fi ng q.2.1 q.2.1.toList.dropLast []).bind fun rg=>(slotOf t).bind fun x=>(prepR P ng fid g).bind fun d=>
          (cCode P fi ng none q.2.2).bind fun rest=>(slots fi (List.range (fn.params.size + fn.nfree))).bind fun as=>(ress P fi fn.results.toList).map fun rs=>⟨pre,rg,.e x,g,d,rest,attach P as fn.params.toList,rs⟩
        | _,_,_=>none
     else none
   | none=>none
 | none=>none
section ok
variable {ng n : Nat} {fi fid : FI} {cf : CF} {ops : Array Oper} {b : Frame} {r : Res}
theorem reg_ahead (hcf : CFok P ng cf) (hb : b.roundOf = none) (hr : Fine r) {K : Kont} (hK : ∀ u env h,K (.pan u) env h = .fail) {Q : Post} {tail : List Nat} {cs : List Frame} {ds : List Deferred}
 {ρ₀ : Rho} {h₀ : Heap} {w₀ : World}
 (base : ∀ {env : Env} {h : Heap} {ρ : Rho} {w : World} {a : Act},Le (K .normal env h) r→EnvR ρ fi env a.tmps→RH P ρ h w→GlobR ρ ng→Ext ρ₀ h₀ w₀ ρ h w→a.defers = ds→WO P b ops tail Q a cs w) :
 ∀ {l : List Oper} {i : Nat} {T : List (Nat × Loc)} {ris : List RI},cReg P fi ng ops l T = some ris→(∀ j,j < l.length→ops[i + j]? = l[j]?) →
 ∀ {L : List V} {env : Env} {h : Heap} {ρ : Rho} {w : World} {a : Act},Le (runL cf ris L env h K) r→FrR ρ fi T L env a.tmps→RH P ρ h w→GlobR ρ ng→Ext ρ₀ h₀ w₀ ρ h w→a.defers = ds →
 WO P b ops (List.range' i l.length ++ tail) Q a cs w
 | [],i,T,ris,hc,hi,L,env,h,ρ,w,a,hh,hf,rh,hg,hx,hds=>by
   cases hc
   exact base hh hf.env rh hg hx hds
 | o :: l,i,T,ris,hc,hi,L,env,h,ρ,w,a,hh,hf,rh,hg,hx,hds=>by
   have ho : ops[i]? = some o:=by have:=hi 0 (by simp); simpa using this
   have hi' : ∀ j,j < l.length→ops[i + 1 + j]? = l[j]?:=fun j hj=>by
    have:=hi (j + 1) (by simp; omega)
    rw [show i + 1 + j = i + (j + 1) by omega]; simpa using this
   rw [List.length_cons,List.range'_succ,List.cons_append]
   simp only [cReg] at hc
   split at hc
   · rename_i p hp
     obtain ⟨x,hw,hdst,hlt,hin,hop,hl⟩:=alias_ok hp
     have hv:=fun v h=>locOf_at (v:=v) hl h hf.tmp hg
     refine .value (v:=a.eval x) (w':=w) ho (by simp [Region.wanted,hw]) (.inl hb) ?_ ?_
     · rcases hop with hop | hop <;> simp [execOp,hop]
     · exact reg_ahead hcf hb hr hK base hc hi' (a:=a.put o.dst (a.eval x)) hh (by rw [hdst]; exact hf.name hlt hin hv) rh hg hx (by rw [← hds,hdst]; rfl)
   obtain ⟨v,h1,hc⟩:=Option.bind_eq_some_iff.1 hc
   obtain ⟨⟨d,T'⟩,h2,hc⟩:=Option.bind_eq_some_iff.1 hc
   obtain ⟨m,h3,rfl⟩:=Option.map_eq_some_iff.1 hc
   refine cGuard_ok (k:=fun u h'=>Dst.rec (motive:=fun _=>Res) (runL cf m L env h' K) (runL cf m (u :: L) env h' K) (fun x=>envk env x u fun env'=>runL cf m L env' h' K) d)
    (kp:=fun u h'=>K (.pan u) env h') hcf ⟨hf.tmp,hg,rh⟩ h1 rfl (hr.le hh) ho ?_ ?_
   · intro u h' ρ' y w' h4 h5 h6 h7
     have h4:=h4.trans hh
     have hf':=hf.mono h7.le
     have hg':=hg.mono h7.le
     have step : ∀ {L' : List V} {env' : Env} {a' : Act},a'.defers = a.defers→Le (runL cf m L' env' h' K) r→FrR ρ' fi T' L' env' a'.tmps→WO P b ops (List.range' (i + 1) l.length ++ tail) Q a' cs w':=
      fun hd h8 h9=>reg_ahead hcf hb hr hK base h3 hi' h8 h9 h6 hg' (hx.trans h7) (hd.trans hds)
     unfold cDst at h2
     split at h2
     · rename_i hdst
       cases h2
       rw [hdst]
       exact step rfl h4 hf'
     · rename_i t hdst
       split at h2
       · rename_i hlt
         rw [hdst]
         split at h2
         · rename_i hin
           cases h2
           exact step rfl h4 (hf'.push hlt hin h5)
         · rename_i hin
           obtain ⟨x,hx,h2⟩:=Option.bind_eq_some_iff.1 h2
           split at h2
           · cases h2
           rename_i hn
           cases h2
           have h4 : Le (envk env x u (fun env'=>runL cf m L env' h' K)) r:=h4
           rw [envk_eq] at h4
           exact step rfl h4 (hf'.put hlt (by simpa using hin) hx (by simpa using hn) h5)
       · cases h2
   · intro u h' ρ' y w' h4
     have h4 : Le (K (.pan u) env h') r:=h4.trans hh
     rw [hK] at h4
     exact absurd (h4 _ rfl) hr
def Mode (ρ : Rho) (pv : V) (u : FrameMode) : Prop:=(pv = .nili∧u = .returning) ∨ ∃ t v y,pv = .iface t v∧VR ρ pv y∧u = .panicking [{ v:=y,recovered:=false }]
def healed : FrameMode→FrameMode
 | .panicking (e :: l)=>.panicking ({ e with recovered:=true } :: l)
 | u=>u
theorem settle_healed {ρ : Rho} {pv : V} {u : FrameMode} (h : Mode ρ pv u) : settle (healed u) = .returning∧u ≠ .run:=by
 rcases h with ⟨_,rfl⟩ | ⟨t,v,y,_,_,rfl⟩
 · exact ⟨rfl,by simp⟩
 · exact ⟨rfl,by simp⟩
theorem put_off (hcf : CFok P ng cf) {g : Nat} {d : PFd} (hp : prepR P ng fid g = some d.strip) {cap : List V} {h h' : Heap} {pv : V} {u' : V} (hh : runFdg semOX n cf d cap h pv = .ret u' h') {ρ : Rho} {w : World} {args : List Value}
 (ha : VRs ρ cap args) (rh : RH P ρ h w) (hg : GlobR ρ ng) {u : FrameMode} (hu : Mode ρ pv u) :
 Enters P g∧CallsD P g args.toArray u w fun e u₁ w'=>(∃ y,e = .returned y)∧u₁ = healed u∧∃ ρ',RH P ρ' h' w'∧Ext ρ h w ρ' h' w':=by
 unfold prepR at hp
 split at hp
 · rename_i fn hfn
   split at hp
   · rename_i id ops rest hbody
     split at hp
     · rename_i o l hops
       split at hp
       · rename_i t atypes hdst hop hguard
         split at hp
         · cases hp
         rename_i hname
         split at hp
         · rename_i hc
           obtain ⟨hnt,hps,hrs,hnf,htlt,htin⟩:=hc
           obtain ⟨rg,h1,hp⟩:=Option.bind_eq_some_iff.1 hp
           obtain ⟨pc0,h2,hp⟩:=Option.bind_eq_some_iff.1 hp
           obtain ⟨as,h3,hp⟩:=Option.map_eq_some_iff.1 hp
           obtain ⟨rg',pc,sl'⟩:=d
           simp only [PFd.strip,PFd.mk.injEq] at hp
           obtain ⟨rfl,rfl,rfl⟩:=hp
           refine ⟨⟨fn,_,hfn,hbody,by simpa using hname⟩,?_⟩
           refine callsD_of hfn hbody fun c₀ cs hc₀=>?_
           have hh : argk (attach P as []) cap env0 (fun env=>runL cf rg [pv] env h fun x env h=>nork x (runC cf n pc env h fun x _ h=>endk x (.ret .skip h) fun _=>.fail) .fail) = .ret u' h':=hh
           obtain ⟨env,h5,h6,h7⟩:=argk_ok (tmps:=args.toArray ++ Array.replicate (fn.ntmps - args.toArray.size) Go.undef) (ts:=List.range fn.nfree) (by rw [attach_fst]; exact h3) hh (by simp) ha
            (fun t x _=>by rw [env0_at]; exact .und _) (fun hlen i t x h8 h9=>by
              have hi : i < fn.nfree:=by
               rcases Nat.lt_or_ge i fn.nfree with h | h
               · exact h
               · rw [List.getElem?_eq_none (by simpa using h)] at h8; cases h8
              have : t = i:=by rw [List.getElem?_range hi] at h8; exact (Option.some.inj h8).symm
              subst this
              have hlt : t < args.length:=by rw [hlen]; simpa using hi
              rw [Array.getD_eq_getD_getElem?,Array.getElem?_append_left (by simpa using hlt)]
              simp [h9])
           have hlen : args.length = fn.nfree:=by simpa using h6
           have he : EnvR ρ fid env (args.toArray ++ Array.replicate (fn.ntmps - args.toArray.size) Go.undef):=⟨by simp; omega,fun t x h8 _=>h7 t x h8⟩
           have hsz : ops.size = l.length + 1:=by rw [← Array.length_toList,hops]; rfl
           have hget : ∀ j,ops[j]? = (o :: l)[j]?:=fun j=>by rw [← Array.getElem?_toList,hops]
           refine .seq (.region ?_)
           rw [hsz,List.range_eq_range',List.range'_succ]
           obtain ⟨y,hy,cs₁,hcs₁,hrec⟩ : ∃ y,VR ρ pv y∧∃ cs₁,cs₁ = { c₀ with mode:=healed u } :: cs∧∀ f : Frame,f.kind = .deferred→tryRecover f (c₀ :: cs) = some (y,cs₁) ∨ (tryRecover f (c₀ :: cs) = none∧y = .nilIface∧cs₁ = c₀ :: cs):=by
            rcases hu with ⟨rfl,rfl⟩ | ⟨tt,vv,y,rfl,hy,rfl⟩
            · refine ⟨.nilIface,.nili,_,rfl,fun f hf=>.inr ⟨?_,rfl,?_⟩⟩
              · simp [tryRecover,hf,hc₀]
              · simp only [healed]; rw [← hc₀]
            · refine ⟨y,hy,_,rfl,fun f hf=>.inl ?_⟩
              simp [tryRecover,hf,hc₀,healed]
           refine .recover (v:=y) (cs₁:=cs₁) (w':=w) (by rw [hget]; rfl) (by simp [Region.wanted,hguard]) rfl ?_ (fun f hf=>hrec f hf) ?_
           · simp [execOp,hop,resolve,invoke,builtin]
           · rw [hdst]
             have hf0 : FrR ρ fid [(t,.s 0)] [pv] env ((args.toArray ++ Array.replicate (fn.ntmps - args.toArray.size) Go.undef).setIfInBounds t y):=
              he.frame.push htlt htin hy
             have:=reg_ok (b:=base g .deferred) (cs:=cs₁) (a:=Act.put { tmps:=args.toArray ++ Array.replicate (fn.ntmps - args.toArray.size) Go.undef,defers:=[] } (some t) y) hcf h1
              (i:=1) (fun j=>by rw [hget,show 1 + j = j + 1 by omega]; rfl) h5 (fine_ret _ _) hf0 rh hg
             refine this.mono ?_
             rintro e a' cs' w' ⟨rfl,hd,x,env',h'',ρ',k1,k2,k3,k4,k5⟩
             cases k2 with
             | normal=>
               have:=code_plain (b:=base g .deferred) hcf (cs:=cs') (pc:=pc) h2 rfl ((fine_ret _ _).le k1) k3 k4 (hg.mono k5.le)
               refine this.mono ?_
               rintro e a2 cs2 w2 ⟨rfl,hd2,x2,env2,h2',ρ2,m1,m2,m3,m4,m5⟩
               have m1:=m1.trans k1
               have hd0 : a2.defers = []:=hd2.trans hd
               have fin : ∀ {w3 : World},(results fn a2.tmps).run P w3 = .ok (.tuple #[]) w3:=fun {w3}=>by
                have e0 : fn.results = #[]:=Array.size_eq_zero_iff.1 hrs
                exact run_results (xs:=[]) (by rw [e0]; rfl)
               cases m2 with
               | normal=>
                 cases m1 _ rfl
                 exact ⟨hd0,healed u,hcs₁,_,fin,⟨_,rfl⟩,rfl,ρ2,m4,k5.trans m5⟩
               | ret=>
                 cases m1 _ rfl
                 exact ⟨hd0,healed u,hcs₁,_,fin,⟨_,rfl⟩,rfl,ρ2,m4,k5.trans m5⟩
               | exit i=>cases m1 _ rfl
               | pan hv=>cases m1 _ rfl
             | exit i=>cases k1 _ rfl
             | ret=>cases k1 _ rfl
             | pan hv=>cases k1 _ rfl
         · cases hp
       · cases hp
     · cases hp
   · cases hp
 · cases hp
def seqs : List Code→Code→Code
 | [],c=>c
 | x :: l,c=>.seq x (seqs l c)
theorem splitD_eq : ∀ {c : Code} {q : List Code × Array Oper × Code},splitD c = some q→∃ id,c = seqs q.1 (.seq (.region id q.2.1 false) q.2.2)
 | .seq x y,q,h=>by
   have step : (splitD y).map (fun q=>(x :: q.1,q.2.1,q.2.2)) = some q→∃ id,Code.seq x y = seqs q.1 (.seq (.region id q.2.1 false) q.2.2):=fun h=>by
    obtain ⟨q',h1,rfl⟩:=Option.map_eq_some_iff.1 h
    obtain ⟨id,h2⟩:=splitD_eq h1
    exact ⟨id,by rw [h2]; rfl⟩
   unfold splitD at h
   split at h
   · rename_i id ops
     split at h
     · cases h; exact ⟨id,rfl⟩
     · exact step h
   · exact step h
 | .skip,q,h | .region _ _ _,q,h | .cond _ _ _,q,h | .block _ _,q,h | .loop _,q,h | .rangeFunc _ _ _ _,q,h | .exit _,q,h | .scope _,q,h | .label _,q,h | .goto _,q,h | .ret,q,h | .refuse _,q,h=>by simp [splitD] at h
theorem pre_ok (hcf : CFok P ng cf) (hb : b.roundOf = none) (hr : Fine r) {Q : Post} {tail : Code} {cs : List Frame} {ds : List Deferred} {ρ₀ : Rho} {h₀ : Heap} {w₀ : World} {k : Env→Heap→Res}
 (base : ∀ {env : Env} {h : Heap} {ρ : Rho} {w : World} {a : Act},Le (k env h) r→EnvR ρ fi env a.tmps→RH P ρ h w→GlobR ρ ng→Ext ρ₀ h₀ w₀ ρ h w→a.defers = ds→WP P b tail Q a cs w) :
 ∀ {l : List Code} {ps : List PC},codesOf P fi ng l = some (ps.map PC.strip)→∀ {env : Env} {h : Heap} {ρ : Rho} {w : World} {a : Act},Le (runPre semOX n cf ps env h k) r→EnvR ρ fi env a.tmps→RH P ρ h w→GlobR ρ ng →
 Ext ρ₀ h₀ w₀ ρ h w→a.defers = ds→WP P b (seqs l tail) Q a cs w
 | [],ps,hc,env,h,ρ,w,a,hh,he,rh,hg,hx,hds=>by
   cases ps with
   | nil=>exact base hh he rh hg hx hds
   | cons _ _=>cases hc
 | c :: l,ps,hc,env,h,ρ,w,a,hh,he,rh,hg,hx,hds=>by
   obtain ⟨p0,h1,hc⟩:=Option.bind_eq_some_iff.1 hc
   obtain ⟨ps0,h2,hc⟩:=Option.map_eq_some_iff.1 hc
   cases ps with
   | nil=>cases hc
   | cons p ps=>
   simp only [List.map_cons,List.cons.injEq] at hc
   obtain ⟨rfl,rfl⟩:=hc
   have hh : Le (runC cf n p env h (fun x env h=>nork x (runPre semOX n cf ps env h k) .fail)) r:=hh
   refine .seq ((code_plain (b:=b) (cs:=cs) hcf (pc:=p) h1 rfl (hr.le hh) he rh hg).mono ?_)
   rintro e a' cs' w' ⟨rfl,hd,x,env',h',ρ',k1,k2,k3,k4,k5⟩
   have k1:=k1.trans hh
   cases k2 with
   | normal=>exact pre_ok hcf hb hr base h2 k1 k3 k4 (hg.mono k5.le) (hx.trans k5) (hd.trans hds)
   | exit i=>exact absurd (k1 _ rfl) hr
   | ret=>exact absurd (k1 _ rfl) hr
   | pan hv=>exact absurd (k1 _ rfl) hr
theorem offk_ok {sem : OX→Do} {d : PFd} {cap : List V} {h : Heap} {pv : V} {k : Heap→Res} (hh : offk sem n cf d cap h pv k = r) (hr : r ≠ .fail) : ∃ u h',runFdg sem n cf d cap h pv = .ret u h'∧k h' = r:=by
 rcases back1k_ok hh hr with ⟨u,h',h4,h5⟩ | ⟨_,_,_,h5⟩
 · exact ⟨u,h',h4,h5⟩
 · exact absurd h5.symm hr
theorem fund_ok (hcf : CFok P ng cf) {f g : Nat} {p : PFD} (hp : prepD P ng fi fid f g = some p.strip) {l : List V} {h : Heap} (hh : runFDg semOX n cf p l h = r) (hr : Fine r) :
 f < 32768∧Enters P f∧∀ ρ w args,VRs ρ l args→RH P ρ h w→GlobR ρ ng→Calls P f args.toArray w (Came P ρ h w r):=by
 unfold prepD at hp
 split at hp
 · rename_i fn hfn
   split at hp
   · rename_i c hc
     split at hp
     · cases hp
     · rename_i hname
       split at hp
       · rename_i hsz
         obtain ⟨hnt,hnp,hg65,hf32⟩:=hsz
         obtain ⟨⟨cs0,ops,rest⟩,hsp,hp⟩:=Option.bind_eq_some_iff.1 hp
         obtain ⟨o,hlast,hp⟩:=Option.bind_eq_some_iff.1 hp
         simp only at hlast hp
         split at hp
         · rename_i t atypes hop hguard hdst
           split at hp
           · cases hp
           rename_i hin
           obtain ⟨pre0,h1,hp⟩:=Option.bind_eq_some_iff.1 hp
           obtain ⟨rg,h2,hp⟩:=Option.bind_eq_some_iff.1 hp
           obtain ⟨x,hx,hp⟩:=Option.bind_eq_some_iff.1 hp
           obtain ⟨d0,h3,hp⟩:=Option.bind_eq_some_iff.1 hp
           obtain ⟨rst0,h4,hp⟩:=Option.bind_eq_some_iff.1 hp
           obtain ⟨as,h5,hp⟩:=Option.bind_eq_some_iff.1 hp
           obtain ⟨rs,h6,hp⟩:=Option.map_eq_some_iff.1 hp
           obtain ⟨pre,rg',clo',g',d,rst,sl',rs'⟩:=p
           simp only [PFD.strip,PFD.mk.injEq] at hp
           obtain ⟨rfl,rfl,rfl,rfl,rfl,rfl,rfl,rfl⟩:=hp
           obtain ⟨id,rfl⟩:=splitD_eq hsp
           refine ⟨hf32,⟨fn,_,hfn,hc,by simpa using hname⟩,fun ρ w args hv rh hg=>?_⟩
           refine calls_of hfn hc fun cs=>?_
           have hh : argk (attach P as fn.params.toList) l env0 (fun env=>runPre semOX n cf pre env h fun env h=>runL cf rg [] env h fun x1 env h=>nork x1
            (getk (.e x) [] env fun fv=>fnk fv fun F cap=>ifk (Nat.beq F g) (runC cf n rst env h fun x1 env h=>endk x1
              (offk semOX n cf d cap h .nili fun h=>resk rs env h fun l=>soloV l fun v=>.ret v h)
              fun v=>iffk v (offk semOX n cf d cap h v fun h=>resk rs env h fun l=>soloV l fun v=>.ret v h)) .fail) .fail) = r:=hh
           obtain ⟨env,e1,e2,e3⟩:=argk_ok (tmps:=args.toArray ++ Array.replicate (fn.ntmps - args.toArray.size) Go.undef) (ts:=List.range (fn.params.size + fn.nfree)) (by rw [attach_fst]; exact h5) hh hr.ne hv
            (fun t x _=>by rw [env0_at]; exact .und _) (fun hlen i t x h8 h9=>by
              have hi : i < fn.params.size + fn.nfree:=by
               rcases Nat.lt_or_ge i (fn.params.size + fn.nfree) with h | h
               · exact h
               · rw [List.getElem?_eq_none (by simpa using h)] at h8; cases h8
              have : t = i:=by rw [List.getElem?_range hi] at h8; exact (Option.some.inj h8).symm
              subst this
              have hlt : t < args.length:=by rw [hlen]; simpa using hi
              rw [Array.getD_eq_getD_getElem?,Array.getElem?_append_left (by simpa using hlt)]
              simp [h9])
           have hlen : args.length = fn.params.size + fn.nfree:=by simpa using e2
           have he : EnvR ρ fi env (args.toArray ++ Array.replicate (fn.ntmps - args.toArray.size) Go.undef):=⟨by simp; omega,fun t x h8 _=>e3 t x h8⟩
           refine pre_ok (b:=base f .normal) (cs:=cs) (ds:=[]) (ρ₀:=ρ) (h₀:=h) (w₀:=w) hcf rfl hr ?_ h1 (.of_eq e1) he rh hg (.refl _ _ _) rfl
           intro env1 hp1 ρ1 w1 a1 k1 k2 k3 k4 k5 k6
           have hne : ops.toList ≠ []:=fun e=>by rw [e] at hlast; cases hlast
           have hsplit : ops.toList = ops.toList.dropLast ++ [o]:=by
            rw [List.getLast?_eq_some_getLast hne] at hlast
            cases hlast
            exact (List.dropLast_concat_getLast hne).symm
           have hsize : ops.size = ops.toList.dropLast.length + 1:=by
            have:=congrArg List.length hsplit
            rw [List.length_append,Array.length_toList] at this
            exact this
           have hall : ∀ j,ops[j]? = (ops.toList.dropLast ++ [o])[j]?:=fun j=>by
            rw [← Array.getElem?_toList]
            exact congrArg (fun m : List Oper=>m[j]?) hsplit
           have hget : ∀ j,j < ops.toList.dropLast.length→ops[0 + j]? = ops.toList.dropLast[j]?:=fun j hj=>by
            rw [Nat.zero_add,hall,List.getElem?_append_left hj]
           have hgo : ops[ops.toList.dropLast.length]? = some o:=by
            rw [hall,List.getElem?_append_right (Nat.le_refl _)]; simp
           refine .seq (.region ?_)
           have hrange : List.range ops.size = List.range' 0 ops.toList.dropLast.length ++ [ops.toList.dropLast.length]:=by
            rw [hsize,List.range_succ,List.range_eq_range']
           rw [hrange]
           refine reg_ahead (ds:=[]) (ρ₀:=ρ) (h₀:=h) (w₀:=w) hcf rfl hr (fun _ _ _=>rfl) ?_ h2 hget k1 k2.frame k3 k4 k5 k6
           intro env2 h2' ρ2 w2 a2 m1 m2 m3 m4 m5 m6
           obtain ⟨r1,m7⟩ : ∃ r1,getk (.e x) [] env2 (fun fv=>fnk fv fun F cap=>ifk (Nat.beq F g) (runC cf n rst env2 h2' fun x1 env h=>endk x1
            (offk semOX n cf d cap h .nili fun h=>resk rs env h fun l=>soloV l fun v=>.ret v h)
            fun v=>iffk v (offk semOX n cf d cap h v fun h=>resk rs env h fun l=>soloV l fun v=>.ret v h)) .fail) = r1:=⟨_,rfl⟩
           have hle : Le r1 r:=by rw [← m7]; exact m1
           have hr1:=hr.le hle
           obtain ⟨fv,q1,q2⟩:=getk_ok m7 hr1.ne
           obtain ⟨F,cap,rfl,q3⟩:=fnk_ok q2 hr1.ne
           obtain ⟨q4,q5⟩:=ifk_fail q3 hr1.ne
           obtain rfl:=Nat.eq_of_beq_eq_true q4
           have hfv:=m2.val t x hx (by simpa using hin)
           simp only [Loc.at,Option.some.injEq] at q1
           rw [q1] at hfv
           generalize hfx : a2.tmps.getD t Go.undef = fx at hfv
           cases hfv
           case yld=>exact absurd hg65 (by decide)
           rename_i f' k' first ccs hf' hk hk2 hF hcap
           have hk0 : k' = 0:=by omega
           subst hk0
           have hfirst : first = #[]:=Array.size_eq_zero_iff.1 hk
           subst hfirst
           obtain rfl : F = f':=by omega
           have hcap : VRs ρ2 cap ccs.toList:=hcap
           have run : (execOp a2.eval o).run P w2 = .ok (.defer { target:=.fn (.func F) ccs,args:=#[] }) w2:=by
            have : a2.eval (.tmp t) = .func (.func F) #[] ccs:=by simp only [Act.eval]; exact hfx
            simp only [execOp,hop,resolve,this,Sem.run_bind,Deferred.ofValue,Sem.run_pure,Result.andThen_ok]
            simp
           refine .defer hgo (by simp [Region.wanted,hguard]) rfl run (.nil ?_)
           rw [hdst]
           show WP P (base f .normal) rest (callPost P fn cs (Came P ρ h w r)) { a2 with defers:={ target:=.fn (.func F) ccs,args:=#[] } :: a2.defers } cs w2
           rw [m6]
           refine (code_plain (b:=base f .normal) (cs:=cs) (a:={ a2 with defers:=[{ target:=.fn (.func F) ccs,args:=#[] }] }) hcf (pc:=rst) h4 q5 hr1 m2 m3 m4).mono ?_
           rintro e a3 cs' w3 ⟨rfl,hd3,x3,env3,h3',ρ3,n1,n2,n3,n4,n5⟩
           have hd3 : a3.defers = [{ target:=.fn (.func F) ccs,args:=#[] }]:=hd3
           have fin : ∀ {pv : V} {u : FrameMode},Mode ρ3 pv u→Le (offk semOX n cf d cap h3' pv (fun h=>resk rs env3 h fun l=>soloV l fun v=>.ret v h)) r→Leaves P fn a3.tmps (Came P ρ h w r) a3.defers u w3:=by
            intro pv u hu o1
            obtain ⟨u',h4',o2,o3⟩:=offk_ok rfl (hr.le o1).ne
            obtain ⟨o4,o5⟩:=put_off hcf h3 o2 (hcap.mono n5.le) n4 (m4.mono n5.le) hu
            obtain ⟨o6,o7⟩:=settle_healed hu
            rw [hd3]
            refine ⟨o7,.func F,ccs,F,ccs,rfl,?_,?_⟩
            · have:=run_enter (w:=w3) (args:=ccs) o4
              simp only [invoke]
              rw [← this]
              simp
            · rw [show ccs.toList.toArray = ccs from Array.toArray_toList] at o5
              refine o5.mono ?_
              rintro e u₁ w4 ⟨⟨y,rfl⟩,rfl,ρ4,o8,o9⟩
              show Leaves P fn a3.tmps (Came P ρ h w r) [] (settle (healed u)) w4
              rw [o6]
              obtain ⟨l',xs,e5,e6,e9⟩:=resk_ok (n3.mono o9.le) o8 h6 o3 (hr.le o1).ne
              obtain ⟨v,e7,e8⟩:=soloV_ok e6 (fun v=>.ret v h4')
              refine ⟨_,run_results e9,?_⟩
              rw [e7] at e5
              exact Came.le (q:=.ret v h4') ⟨ρ4,_,rfl,e8,o8,m5.trans (n5.trans o9)⟩ ((Le.of_eq e5).trans o1)
           cases n2 with
           | normal=>exact ⟨rfl,fin (.inl ⟨rfl,rfl⟩) (n1.trans hle)⟩
           | ret=>exact ⟨rfl,fin (.inl ⟨rfl,rfl⟩) (n1.trans hle)⟩
           | exit i=>exact absurd (n1 _ rfl) hr1
           | pan hv3=>
             have n1:=n1.trans hle
             obtain ⟨⟨tt,vv,rfl⟩,n2⟩:=iffk_ok rfl (hr.le n1).ne
             exact ⟨rfl,fin (.inr ⟨tt,vv,_,rfl,hv3,rfl⟩) ((Le.of_eq n2).trans n1)⟩
         · cases hp
       · cases hp
   · cases hp
 · cases hp
end ok
def annL : List PC→List An→List PC × List An
 | [],A=>([],A)
 | p :: l,A=>((p.ann false A).1 :: (annL l (p.ann false A).2).1,(annL l (p.ann false A).2).2)
theorem annL_strip : ∀ (l : List PC) (A : List An),(annL l A).1.map PC.strip = l.map PC.strip
 | [],_=>rfl
 | p :: l,A=>by simp [annL,PC.ann_strip,annL_strip l]
def PFD.ann (p : PFD) (A Ad : List An) : PFD:=⟨(annL p.pre A).1,p.reg,p.clo,p.g,⟨p.d.reg,(p.d.code.ann false Ad).1,p.d.args⟩,(p.rest.ann false (annL p.pre A).2).1,p.args,p.res⟩
theorem codesOf_strip {ng : Nat} {fi : FI} : ∀ {l : List Code} {ps : List PC},codesOf P fi ng l = some ps→ps.map PC.strip = ps
 | [],ps,h=>by cases h; rfl
 | c :: l,ps,h=>by
   obtain ⟨p,h1,h⟩:=Option.bind_eq_some_iff.1 h
   obtain ⟨m,h2,rfl⟩:=Option.map_eq_some_iff.1 h
   simp [cCode_strip h1,codesOf_strip h2]
theorem prepR_strip {ng : Nat} {fi : FI} {g : Nat} {d : PFd} (hp : prepR P ng fi g = some d) : d.code.strip = d.code:=by
 unfold prepR at hp
 split at hp
 · split at hp
   · split at hp
     · split at hp
       · split at hp
         · cases hp
         split at hp
         · obtain ⟨_,_,hp⟩:=Option.bind_eq_some_iff.1 hp
           obtain ⟨pc,h2,hp⟩:=Option.bind_eq_some_iff.1 hp
           obtain ⟨_,_,rfl⟩:=Option.map_eq_some_iff.1 hp
           exact cCode_strip h2
         · cases hp
       · cases hp
     · cases hp
   · cases hp
 · cases hp
theorem prepD_strip {ng : Nat} {fi fid : FI} {f g : Nat} {p : PFD} (hp : prepD P ng fi fid f g = some p) (A Ad : List An) : (p.ann A Ad).strip = p:=by
 unfold prepD at hp
 split at hp
 · split at hp
   · split at hp
     · cases hp
     · split at hp
       · obtain ⟨q,_,hp⟩:=Option.bind_eq_some_iff.1 hp
         obtain ⟨o,_,hp⟩:=Option.bind_eq_some_iff.1 hp
         split at hp
         · split at hp
           · cases hp
           obtain ⟨pre,h1,hp⟩:=Option.bind_eq_some_iff.1 hp
           obtain ⟨rg,h2,hp⟩:=Option.bind_eq_some_iff.1 hp
           obtain ⟨x,hx,hp⟩:=Option.bind_eq_some_iff.1 hp
           obtain ⟨d,h3,hp⟩:=Option.bind_eq_some_iff.1 hp
           obtain ⟨rst,h4,hp⟩:=Option.bind_eq_some_iff.1 hp
           obtain ⟨as,h5,hp⟩:=Option.bind_eq_some_iff.1 hp
           obtain ⟨rs,h6,rfl⟩:=Option.map_eq_some_iff.1 hp
           have e1:=codesOf_strip h1
           have e2:=prepR_strip h3
           have e3:=cCode_strip h4
           obtain ⟨dr,dc,da⟩:=d
           simp only at e2
           simp only [PFD.ann,PFD.strip,PFd.strip,annL_strip,PC.ann_strip,e1,e2,e3]
         · cases hp
       · cases hp
   · cases hp
 · cases hp
noncomputable def runPDg (P : Program) (ng : Nat) (fi fid : FI) (f g : Nat) (A Ad : List An) (sem : OX→Do) (n : Nat) (cf : CF) (args : List V) (h : Heap) : Res:=
 Option.rec (motive:=fun _=>Res) .fail (fun p=>runFDg sem n cf (p.ann A Ad) args h) (prepD P ng fi fid f g)
theorem POok.of_textD {ng f : Nat} (g : Nat) (fi fid : FI) (A Ad : List An) {sh : Words→Nat→CF→List V→Heap→Res} (h2 : ∀ S n cf ar h,runPDg P ng fi fid f g A Ad (semOXg S) n cf ar h = sh S n cf ar h) : POok P ng f (.sh (sh words)):=by
 intro m cf hcf
 have h3 : ∀ l h r,sh words m cf l h = r→Fine r→f < 32768∧Enters P f∧∀ ρ w args,VRs ρ l args→RH P ρ h w→GlobR ρ ng→Calls P f args.toArray w (Came P ρ h w r):=by
  intro l h r hh hr
  have h3:=(h2 words m cf l h).trans hh
  rw [semOXg_words] at h3
  unfold runPDg at h3
  cases hp : prepD P ng fi fid f g with
  | none=>rw [hp] at h3; exact absurd h3.symm hr.ne
  | some p=>
    rw [hp] at h3
    exact fund_ok (fi:=fi) (fid:=fid) (g:=g) (p:=p.ann A Ad) hcf (by rw [prepD_strip hp]; exact hp) h3 hr
 exact ⟨fun _ l h r hh hr=>(h3 l h r hh hr).2,fun hf l h r hh hr=>absurd (h3 l h r hh hr).1 (by omega)⟩
end Go.Ev

/- EVALUATOR: the rounds of a loop over a function: prepared, run; they come to what their run says. -/
namespace Go.Ev
variable {P : Program}
structure PR where
 (inl mask : Nat)
 (ps : List (Slot × Sh1))
 (asg body : PC)
def PR.strip (p : PR) : PR:=⟨p.inl,0,p.ps,p.asg.strip,p.body.strip⟩
def anyOf (l : List Slot) : List (Slot × Sh1):=l.map fun x=>(x,.any)
def prepL (P : Program) (ng : Nat) (fi : FI) (id : Nat) : Option PR:=
 (roundAt P id).bind fun x=>(P.funcs[x.1]?).bind fun fn=>if fn.ntmps = fi.nt∧(x.2.1.toList.all fun t=>Nat.blt t fi.nt) = true then
   (slots fi x.2.1.toList).bind fun ps=>(cCode P fi ng none x.2.2.1).bind fun a=>(cCode P fi ng none x.2.2.2).map fun b=>⟨fi.inl,0,anyOf ps,a,b⟩
 else none
noncomputable def bindsk (sl : List (Slot × Sh1)) (l : List V) (env : Env) (k : List V→Env→Res) : Res:=
 List.rec (motive:=fun _=>List V→Env→Res) (fun l env=>k l env) (fun p _ ih l env=>Prod.rec (motive:=fun _=>Res) (fun x _=>unc l fun v l=>envk env x v fun env=>ih l env) p) sl l env
noncomputable def beginrk (b : Bid) (h : Heap) (k : Heap→Res) : Res:=
 h.getk b fun y=>obk y fun y=>lpq y fun id mask vs st pd=>zk st (h.turnk b (.ob (.lp id mask vs 1 pd)) k) .fail
noncomputable def endrk (b : Bid) (x : Ex) (h : Heap) : Res:=
 h.getk b fun y=>obk y fun y=>lpq y fun id mask vs _ _=>
  Ex.rec (motive:=fun _=>Res) (h.turnk b (.ob (.lp id mask vs 0 0)) fun h'=>.ret (.bool .true) h') (fun i=>h.turnk b (.ob (.lp id mask vs 2 (Nat.succ (Nat.succ i)))) fun h'=>.ret (.bool .false) h')
   (h.turnk b (.ob (.lp id mask vs 2 1)) fun h'=>.ret (.bool .false) h') (fun _=>.fail) x
noncomputable def runRg (sem : OX→Do) (n : Nat) (cf : CF) (p : PR) (args : List V) (h : Heap) : Res:=
 PR.rec (motive:=fun _=>Res) (fun inl mask ps asg body=>unc args fun m l=>unc l fun b l=>intk m fun _ mm=>ifk (ieq mm (.ofNat mask)) (ifk (Nat.beq (Nat.land mask inl) 0) (ptrk b fun bb _=>
  bindsk (maskSl mask) l env0 fun l env=>bindsk ps l env fun l env=>nilk' l (runCg sem cf n asg env h fun x env h=>nork x (beginrk bb h fun h=>runCg sem cf n body env h fun x _ h=>endrk bb x h) .fail)) .fail) .fail) p
section
variable {ρ : Rho} {tmps : Array Value}
def Full (ρ : Rho) (env : Env) (tmps : Array Value) : Prop:=∀ t x,slotOf t = some x→VR ρ (env.at x) (tmps.getD t Go.undef)
theorem bindsk_mask : ∀ {ts : List Nat} {vs us : List V} {env : Env} {k : List V→Env→Res} {r : Res},(∀ t ∈ ts,t < 256) →
 bindsk (ts.map fun t=>(⟨D.ofNat (t / 16),D.ofNat (t % 16)⟩,.any)) (vs ++ us) env k = r→r ≠ .fail→VRs ρ vs (ts.map fun t=>tmps.getD t Go.undef)→Full ρ env tmps→∃ env',k us env' = r∧Full ρ env' tmps
 | [],vs,us,env,k,r,_,hh,hr,hv,hf=>by
   cases hv
   exact ⟨env,hh,hf⟩
 | t :: ts,vs,us,env,k,r,ht,hh,hr,hv,hf=>by
   cases hv with | cons h1 h2=>
   rename_i v vs
   have hh : envk env ⟨D.ofNat (t / 16),D.ofNat (t % 16)⟩ v (fun env=>bindsk (ts.map fun t=>(⟨D.ofNat (t / 16),D.ofNat (t % 16)⟩,.any)) (vs ++ us) env k) = r:=hh
   rw [envk_eq] at hh
   refine bindsk_mask (fun u hu=>ht u (by simp [hu])) hh hr h2 fun t' y hy=>?_
   have hs : slotOf t = some ⟨D.ofNat (t / 16),D.ofNat (t % 16)⟩:=by simp [slotOf,ht t (by simp)]
   by_cases e : y = ⟨D.ofNat (t / 16),D.ofNat (t % 16)⟩
   · subst e
     obtain rfl:=slotOf_inj hy hs
     rw [Env.at_put]; exact h1
   · rw [Env.at_put_ne _ e]; exact hf t' y hy
theorem bindsk_ps {fi : FI} : ∀ {pl : List Nat} {sl : List Slot} {us : List V} {args : List Value} {env : Env} {k : List V→Env→Res} {r : Res} {tmps : Array Value},slots fi pl = some sl→(∀ t ∈ pl,t < tmps.size) →
 bindsk (anyOf sl) us env (fun l env=>nilk' l (k l env)) = r→r ≠ .fail→VRs ρ us args→Full ρ env tmps →
 pl.length = args.length∧∃ env',k [] env' = r∧Full ρ env' ((pl.zip args).foldl (fun tmps x=>tmps.setIfInBounds x.1 x.2) tmps)
 | [],sl,us,args,env,k,r,tmps,hs,_,hh,hr,hv,hf=>by
   cases hs
   obtain ⟨rfl,h1⟩:=nilk'_ok (show nilk' us (k us env) = r from hh) hr
   cases hv
   exact ⟨rfl,env,h1,hf⟩
 | t :: pl,sl,us,args,env,k,r,tmps,hs,ht,hh,hr,hv,hf=>by
   simp only [slots] at hs
   split at hs
   · cases hs
   · obtain ⟨x,hx,hs⟩:=Option.bind_eq_some_iff.1 hs
     obtain ⟨m,h2,rfl⟩:=Option.map_eq_some_iff.1 hs
     obtain ⟨v,us',rfl,h1⟩:=unc_ok (show unc us (fun v l=>envk env x v fun env=>bindsk (anyOf m) l env fun l env=>nilk' l (k l env)) = r from hh) hr
     cases hv with | cons hv1 hv2=>
     rename_i y ys
     rw [envk_eq] at h1
     have hlt:=ht t (by simp)
     obtain ⟨h3,env',h4,h5⟩:=bindsk_ps (tmps:=tmps.setIfInBounds t y) h2 (fun u hu=>by simpa using ht u (by simp [hu])) h1 hr hv2 (fun t' z hz=>by
      by_cases e : z = x
      · subst e
        obtain rfl:=slotOf_inj hz hx
        rw [Env.at_put,Array.getD_eq_getD_getElem?,Array.getElem?_setIfInBounds_self_of_lt hlt]; exact hv1
      · rw [Env.at_put_ne _ e]
        have hne : t ≠ t':=by rintro rfl; rw [hx] at hz; cases hz; exact e rfl
        rw [Array.getD_eq_getD_getElem?,Array.getElem?_setIfInBounds_ne hne,← Array.getD_eq_getD_getElem?]
        exact hf t' z hz)
     exact ⟨by simp [h3],env',h4,h5⟩
theorem full_env0 : Full ρ env0 tmps:=fun t x _=>by rw [env0_at]; exact .und _
theorem fold_size : ∀ (l : List (Nat × Value)) (tmps : Array Value),(l.foldl (fun tmps x=>tmps.setIfInBounds x.1 x.2) tmps).size = tmps.size
 | [],_=>rfl
 | x :: l,tmps=>by rw [List.foldl_cons,fold_size l]; simp
theorem roundTmps_eq (r : Loop) (args : Array Value) : roundTmps r args = (r.params.toList.zip args.toList).foldl (fun tmps x=>tmps.setIfInBounds x.1 x.2) r.tmps:=by
 unfold roundTmps
 rw [← Array.foldl_toList,Array.toList_zip]
variable {ng n : Nat} {fi : FI} {cf : CF}
theorem lp_at {h : Heap} {w : World} (rh : RH P ρ h w) {b : Bid} {lp S : Nat} (hb : ρ b = some (lp,0,S)) {id mask st pd : Nat} {vs : List V} (hx : h.t.get b = .ob (.lp id mask vs st pd)) :
 ∃ r fn,w.heap[lp]? = some (.loop r)∧roundAt P id = some (r.fn,r.params,r.assign,r.body)∧P.funcs[r.fn]? = some fn∧r.tmps.size = fn.ntmps ∧
  VRs ρ vs ((maskL mask).map fun t=>r.tmps.getD t Go.undef)∧StR st r.state∧PendR pd r.pending:=by
 obtain ⟨o,h1,h2,_⟩:=rh.ob _ _ _ _ _ hb hx
 obtain ⟨r,rfl⟩ : ∃ r,o = .loop r:=by cases o <;> first | exact ⟨_,rfl⟩ | exact absurd h2 (fun x=>x)
 obtain ⟨fn,h3,h4,h5,h6,h7,h8⟩:=h2
 exact ⟨r,fn,h1,h3,h4,h5,h6,h7,h8⟩
theorem lp_turn {h : Heap} {w : World} (rh : RH P ρ h w) {b : Bid} {lp S : Nat} (hb : ρ b = some (lp,0,S)) {id mask st pd : Nat} {vs : List V} (hx : h.t.get b = .ob (.lp id mask vs st pd)) {r : Loop} (hr : w.heap[lp]? = some (.loop r))
 {st' pd' : Nat} {s : LoopState} {j : Option Code} (hS : StR st' s) (hP : PendR pd' j) :
 RH P ρ (h.turn b (.ob (.lp id mask vs st' pd'))) (w.putObj lp (.loop { r with state:=s,pending:=j }))∧Ext ρ h w ρ (h.turn b (.ob (.lp id mask vs st' pd'))) (w.putObj lp (.loop { r with state:=s,pending:=j })):=by
 obtain ⟨r',fn,h1,h2,h3,h4,h5,_,_⟩:=lp_at rh hb hx
 rw [hr] at h1; cases h1
 exact turn rh hb (by rw [hx]; rfl) (o:=.loop { r with state:=s,pending:=j }) rfl rfl rfl (by simp [World.putObj]) (World.putObj_heap_same (Array.getElem?_eq_some_iff.1 hr).1) (fun k hk=>World.putObj_heap_other hk)
  (fun _ _ _ _ e=>by cases e) (fun x' e=>by cases e; exact ⟨⟨fn,h2,h3,h4,h5,hS,hP⟩,rfl⟩) (fun _ _ _ e=>by rw [hx] at e; cases e)
theorem round_ok (hcf : CFok P ng cf) {id : Nat} {p : PR} (hp : prepL P ng fi id = some p.strip) : RnOk P ng id (runRg semOX n cf p):=by
 intro l h r hh hr mask b vs us hl ρ w lp S pd args rh hg hb hx hv
 subst hl
 obtain ⟨⟨f,ps,asg,body⟩,h1,hp⟩:=Option.bind_eq_some_iff.1 hp
 obtain ⟨fn,h2,hp⟩:=Option.bind_eq_some_iff.1 hp
 simp only at h2 hp
 split at hp
 · rename_i hnt
   obtain ⟨hnt,hps⟩:=hnt
   obtain ⟨sl,h3,hp⟩:=Option.bind_eq_some_iff.1 hp
   obtain ⟨pa,h4,hp⟩:=Option.bind_eq_some_iff.1 hp
   obtain ⟨pb,h5,hp⟩:=Option.map_eq_some_iff.1 hp
   obtain ⟨inl,mk,ps',pa',pb'⟩:=p
   simp only [PR.strip,PR.mk.injEq] at hp
   obtain ⟨rfl,_,rfl,rfl,rfl⟩:=hp
   have hh : ifk (ieq (.ofNat mask) (.ofNat mk)) (ifk (Nat.beq (Nat.land mk fi.inl) 0) (bindsk (maskSl mk) (vs ++ us) env0 fun l env=>bindsk (anyOf sl) l env fun l env=>
    nilk' l (runCg semOX cf n pa' env h fun x env h=>nork x (beginrk b h fun h=>runCg semOX cf n pb' env h fun x _ h=>endrk b x h) .fail)) .fail) .fail = r:=hh
   obtain ⟨e1,hh⟩:=ifk_fail hh hr.ne
   obtain rfl : mask = mk:=by rw [ieq_eq] at e1; simp at e1; omega
   obtain ⟨e2,hh⟩:=ifk_fail hh hr.ne
   obtain ⟨rl,fn',g1,g2,g3,g4,g5,g6,g7⟩:=lp_at rh hb hx
   rw [h1] at g2; cases g2
   rw [h2] at g3; cases g3
   have hsz : rl.tmps.size = fi.nt:=by rw [g4,hnt]
   obtain ⟨env1,hh,f1⟩:=bindsk_mask (fun t ht=>by simp only [maskL,List.mem_filter,List.mem_range] at ht; exact ht.1) hh hr.ne g5 full_env0
   obtain ⟨hlen,env2,hh,f2⟩:=bindsk_ps h3 (fun t ht=>by
    have:=List.all_eq_true.1 hps t ht
    rw [hsz]; simpa [Nat.blt_eq] using this) hh hr.ne hv f1
   rw [← roundTmps_eq rl args.toArray] at f2
   have he : EnvR ρ fi env2 (roundTmps rl args.toArray):=⟨by rw [roundTmps_eq,fold_size,hsz],fun t x h6 _=>f2 t x h6⟩
   refine rounds_of g1 (by simp [← hlen]) fun cs=>?_
   refine (code_plain (b:=rbase lp rl.fn) (cs:=cs) (a:={ tmps:=roundTmps rl args.toArray,defers:=[] }) hcf h4 hh hr he rh hg).mono ?_
   rintro e a₁ cs₁ w₁ ⟨rfl,hd,x,env3,h',ρ',k1,k2,k3,k4,k5⟩
   cases k2 with
   | normal=>
     obtain ⟨r1,k0⟩ : ∃ r1,beginrk b h' (fun h=>runCg semOX cf n pb' env3 h fun x _ h=>endrk b x h) = r1:=⟨_,rfl⟩
     have hle : Le r1 r:=by rw [← k0]; exact k1
     have hr1:=hr.le hle
     clear k1
     have k1:=k0
     clear k0
     unfold beginrk at k1
     rw [Heap.getk_eq] at k1
     obtain ⟨ob,hob,k1a⟩:=obk_ok k1 hr1.ne
     obtain ⟨id',mask',vs',st,pd',rfl,k1b⟩:=lpq_ok k1a hr1.ne
     obtain ⟨rfl,k1c⟩:=zk_fail k1b hr1.ne
     clear k1 k1a k1b
     rw [Heap.turnk_eq] at k1c
     have k1:=k1c
     have hb':=k5.le _ _ hb
     obtain ⟨r2,_,q1,_,_,_,_,q6,q7⟩:=lp_at k4 hb' hob
     have hrdy : r2.state = .ready:=by cases hs : r2.state <;> rw [hs] at q6 <;> first | rfl | exact q6.elim
     obtain ⟨rh2,x2⟩:=lp_turn k4 hb' hob q1 (st':=1) (pd':=pd') (s:=.busy) (j:=r2.pending) trivial q7
     refine ⟨rfl,rfl,_,run_beginRound q1 hrdy,?_⟩
     refine (code_plain (b:=rbase lp rl.fn) (cs:=cs₁) (a:=a₁) hcf h5 k1 hr1 (k3.mono x2.le) rh2 ((hg.mono k5.le).mono x2.le)).mono ?_
     rintro e a₂ cs₂ w₂ ⟨rfl,_,x,env4,h2',ρ2,m1,m2,m3,m4,m5⟩
     have hb2:=m5.le _ _ (x2.le _ _ hb')
     obtain ⟨r2,m0⟩ : ∃ r2,endrk b x h2' = r2:=⟨_,rfl⟩
     have hle2 : Le r2 r:=by rw [← m0]; exact m1.trans hle
     have hr2:=hr.le hle2
     clear m1
     have m1:=m0
     clear m0
     unfold endrk at m1
     rw [Heap.getk_eq] at m1
     obtain ⟨ob2,hob2,m1a⟩:=obk_ok m1 hr2.ne
     obtain ⟨id2,mask2,vs2,st2,pd2,rfl,m1b⟩:=lpq_ok m1a hr2.ne
     clear m1 m1a
     have m1:=m1b
     clear m1b
     obtain ⟨r3,_,q1',_,_,_,_,_,_⟩:=lp_at m4 hb2 hob2
     have X:=(k5.trans x2).trans m5
     cases m2 with
     | normal=>
       have m1 : h2'.turnk b (.ob (.lp id2 mask2 vs2 0 0)) (fun h'=>.ret (.bool .true) h') = r2:=m1
       rw [Heap.turnk_eq] at m1
       obtain ⟨rh3,x3⟩:=lp_turn m4 hb2 hob2 q1' (st':=0) (pd':=0) (s:=.ready) (j:=none) trivial trivial
       exact ⟨rfl,_,_,run_endRound none q1',Came.le (q:=.ret (.bool true) _) ⟨ρ2,_,rfl,.bool true,rh3,X.trans x3⟩ ((Le.of_eq m1).trans hle2)⟩
     | exit i=>
       have m1 : h2'.turnk b (.ob (.lp id2 mask2 vs2 2 (Nat.succ (Nat.succ i)))) (fun h'=>.ret (.bool .false) h') = r2:=m1
       rw [Heap.turnk_eq] at m1
       obtain ⟨rh3,x3⟩:=lp_turn m4 hb2 hob2 q1' (st':=2) (pd':=i + 2) (s:=.done) (j:=some (.exit i)) trivial rfl
       exact ⟨rfl,_,_,run_endRound (some (.exit i)) q1',Came.le (q:=.ret (.bool false) _) ⟨ρ2,_,rfl,.bool false,rh3,X.trans x3⟩ ((Le.of_eq m1).trans hle2)⟩
     | ret=>
       have m1 : h2'.turnk b (.ob (.lp id2 mask2 vs2 2 1)) (fun h'=>.ret (.bool .false) h') = r2:=m1
       rw [Heap.turnk_eq] at m1
       obtain ⟨rh3,x3⟩:=lp_turn m4 hb2 hob2 q1' (st':=2) (pd':=1) (s:=.done) (j:=some .ret) trivial trivial
       exact ⟨rfl,_,_,run_endRound (some .ret) q1',Came.le (q:=.ret (.bool false) _) ⟨ρ2,_,rfl,.bool false,rh3,X.trans x3⟩ ((Le.of_eq m1).trans hle2)⟩
     | pan _=>exact absurd m1.symm hr2.ne
   | exit i=>exact absurd (k1 _ rfl) hr
   | ret=>exact absurd (k1 _ rfl) hr
   | pan _=>exact absurd (k1 _ rfl) hr
 · cases hp
end
theorem prepL_strip {ng : Nat} {fi : FI} {id : Nat} {p : PR} (h : prepL P ng fi id = some p) : p.strip = p:=by
 obtain ⟨x,_,h⟩:=Option.bind_eq_some_iff.1 h
 obtain ⟨fn,_,h⟩:=Option.bind_eq_some_iff.1 h
 split at h
 · obtain ⟨sl,_,h⟩:=Option.bind_eq_some_iff.1 h
   obtain ⟨a,h1,h⟩:=Option.bind_eq_some_iff.1 h
   obtain ⟨b,h2,rfl⟩:=Option.map_eq_some_iff.1 h
   simp [PR.strip,cCode_strip h1,cCode_strip h2]
 · cases h
def PR.ann (p : PR) (mask : Nat) (np : Bool) (A : List An) : PR:=
 let q:=p.asg.ann np A
 ⟨p.inl,mask,p.ps,q.1,(p.body.ann np q.2).1⟩
noncomputable def runPLg (P : Program) (ng : Nat) (fi : FI) (id mask : Nat) (np : Bool) (A : List An) (sem : OX→Do) (n : Nat) (cf : CF) (args : List V) (h : Heap) : Res:=
 Option.rec (motive:=fun _=>Res) .fail (fun p=>runRg sem n cf (p.ann mask np A) args h) (prepL P ng fi id)
theorem POok.of_textL {ng f : Nat} (id : Nat) (fi : FI) (mask : Nat) (np : Bool) (A : List An) {sh : Words→Nat→CF→List V→Heap→Res} (h2 : ∀ S n cf ar h,runPLg P ng fi id mask np A (semOXg S) n cf ar h = sh S n cf ar h)
 (hf : 32768 ≤ f) (hi : f - 32768 = id) : POok P ng f (.sh (sh words)):=by
 intro m cf hcf
 cases hp : prepL P ng fi id with
 | none=>
   refine .none fun l h=>?_
   have h3:=h2 words m cf l h
   rw [semOXg_words] at h3
   unfold runPLg at h3
   rw [hp] at h3
   exact h3.symm
 | some p=>
   refine .rn ?_ hf
   have e : sh words m cf = runRg semOX m cf (p.ann mask np A):=by
    funext l h
    have h3:=h2 words m cf l h
    rw [semOXg_words] at h3
    unfold runPLg at h3
    rw [hp] at h3
    exact h3.symm
   rw [e,hi]
   refine round_ok (fi:=fi) hcf ?_
   rw [hp]
   have hs:=prepL_strip hp
   obtain ⟨inl,mk,ps,a,b⟩:=p
   simp only [PR.strip,PR.mk.injEq] at hs
   simp [PR.strip,PR.ann,PC.ann_strip,hs]
end Go.Ev

/- EVALUATOR: short words for pieces that come again and again in printed functions. -/
namespace Go.Ev
abbrev Shf:=Words→Nat→CF→List V→Heap→Res
noncomputable def lb (b : Bool) (k : Bool→Res) : Res:=k b
noncomputable def uK (kd : IntKind) (l : List V) (k : Int→List V→Res) : Res:=unc l fun v m=>castI kd v fun i=>k i m
noncomputable def uF (l : List V) (k : Int→List V→Res) : Res:=unc l fun v m=>castF .i64 v fun i=>k i m
noncomputable def uB (l : List V) (k : Bool→List V→Res) : Res:=unc l fun v m=>castB v fun b=>k b m
noncomputable def uS (l : List V) (k : Nat→Nat→List V→Res) : Res:=unc l fun v m=>castS v fun a b=>k a b m
noncomputable def zV (l : List V) (k : V→Res) : Res:=unc l fun v m=>nilk' m (k v)
noncomputable def zK (kd : IntKind) (l : List V) (k : Int→Res) : Res:=unc l fun v m=>castI kd v fun i=>nilk' m (k i)
noncomputable def zF (l : List V) (k : Int→Res) : Res:=unc l fun v m=>castF .i64 v fun i=>nilk' m (k i)
noncomputable def zB (l : List V) (k : Bool→Res) : Res:=unc l fun v m=>castB v fun b=>nilk' m (k b)
noncomputable def zS (l : List V) (k : Nat→Nat→Res) : Res:=unc l fun v m=>castS v fun a b=>nilk' m (k a b)
noncomputable def z2 (l : List V) (k : V→V→Res) : Res:=unc l fun a l=>unc l fun b l=>nilk' l (k a b)
noncomputable def z3 (l : List V) (k : V→V→V→Res) : Res:=unc l fun a l=>unc l fun b l=>unc l fun c l=>nilk' l (k a b c)
noncomputable def u2 (l : List V) (k : V→V→List V→Res) : Res:=unc l fun a l=>unc l fun b l=>k a b l
noncomputable def u3 (l : List V) (k : V→V→V→List V→Res) : Res:=unc l fun a l=>unc l fun b l=>unc l fun c l=>k a b c l
noncomputable def cl (cf : CF) (f : Fid) (a : List V) (h : Heap) (k : V→Heap→Res) : Res:=backk (cf f a h) k fun _ _=>.fail
noncomputable def clI (cf : CF) (f : Fid) (a : List V) (h : Heap) (k : Int→Heap→Res) : Res:=backk (cf f a h) (fun v h=>castI .i64 v fun i=>k i h) fun _ _=>.fail
noncomputable def clK (cf : CF) (kd : IntKind) (f : Fid) (a : List V) (h : Heap) (k : Int→Heap→Res) : Res:=backk (cf f a h) (fun v h=>castI kd v fun i=>k i h) fun _ _=>.fail
noncomputable def clB (cf : CF) (f : Fid) (a : List V) (h : Heap) (k : Bool→Heap→Res) : Res:=backk (cf f a h) (fun v h=>castB v fun i=>k i h) fun _ _=>.fail
noncomputable def clS (cf : CF) (f : Fid) (a : List V) (h : Heap) (k : Nat→Nat→Heap→Res) : Res:=backk (cf f a h) (fun v h=>castS v fun i j=>k i j h) fun _ _=>.fail
noncomputable def cl2 (cf : CF) (f : Fid) (a : List V) (h : Heap) (k : V→V→Heap→Res) : Res:=backk (cf f a h) (fun v h=>tupk v fun l=>unc l fun x l=>unc l fun y l=>nilk' l (k x y h)) fun _ _=>.fail
noncomputable def cl3 (cf : CF) (f : Fid) (a : List V) (h : Heap) (k : V→V→V→Heap→Res) : Res:=backk (cf f a h) (fun v h=>tupk v fun l=>unc l fun x l=>unc l fun y l=>unc l fun z l=>nilk' l (k x y z h)) fun _ _=>.fail
noncomputable def cv (cf : CF) (f : V) (a : List V) (h : Heap) (k : V→Heap→Res) : Res:=backk (callv cf f a h) k fun _ _=>.fail
noncomputable def cvB (cf : CF) (f : V) (a : List V) (h : Heap) (k : Bool→Heap→Res) : Res:=backk (callv cf f a h) (fun v h=>castB v fun b=>k b h) fun _ _=>.fail
noncomputable def bp (x : Res) (k : V→Heap→Res) : Res:=backk x k fun v h=>.pan v h
noncomputable def bh (x : Res) (k : V→Heap→Res) : Res:=backk x k fun _ _=>.fail
noncomputable def bf (x : Res) (k : V→Res) : Res:=back1k x (fun v _=>k v) fun _ _=>.fail
noncomputable def gd (c : Bool) (h : Heap) (x : Res) (k : V→Heap→Res) : Res:=backk (ifk c x (.ret .skip h)) k fun _ _=>.fail
noncomputable def gr (v : V) (h : Heap) (x : Bool→Res) (k : V→Heap→Res) : Res:=backk (grdk v x (.ret .skip h)) k fun _ _=>.fail
noncomputable def gw (b : Bool) (h : Heap) (x : Res) : Res:=ifk b x (.ret .skip h)
noncomputable def an (b : Bool) (v : V) (k : Bool→Res) : Res:=castB (pickv b v (.bool .false)) k
noncomputable def or' (b : Bool) (v : V) (k : Bool→Res) : Res:=castB (pickv b (.bool .true) v) k
noncomputable def ak (b : Bool) (x : Res) : Res:=ifk b x .fail
noncomputable def lK (S : Words) (kd : IntKind) (h : Heap) (p : Bid) (o : Nat) (k : Int→Res) : Res:=S.load1 h p o fun v=>castI kd v k
noncomputable def lB (S : Words) (h : Heap) (p : Bid) (o : Nat) (k : Bool→Res) : Res:=S.load1 h p o fun v=>castB v k
noncomputable def lS (S : Words) (h : Heap) (p : Bid) (o : Nat) (k : Nat→Nat→Res) : Res:=S.load1 h p o fun v=>castS v k
noncomputable def pl (S : Words) (v : V) (d : Nat) (h : Heap) (k : V→Res) : Res:=ptrk v fun p n=>S.load1 h p (Nat.add n d) k
noncomputable def plI (S : Words) (v : V) (d : Nat) (h : Heap) (k : Int→Res) : Res:=ptrk v fun p n=>S.load1 h p (Nat.add n d) fun v=>castI .i64 v k
noncomputable def plB (S : Words) (v : V) (d : Nat) (h : Heap) (k : Bool→Res) : Res:=ptrk v fun p n=>S.load1 h p (Nat.add n d) fun v=>castB v k
noncomputable def plS (S : Words) (v : V) (d : Nat) (h : Heap) (k : Nat→Nat→Res) : Res:=ptrk v fun p n=>S.load1 h p (Nat.add n d) fun v=>castS v k
noncomputable def pl0 (S : Words) (v : V) (h : Heap) (k : V→Res) : Res:=ptrk v fun p n=>S.load1 h p n k
noncomputable def plI0 (S : Words) (v : V) (h : Heap) (k : Int→Res) : Res:=ptrk v fun p n=>S.load1 h p n fun v=>castI .i64 v k
noncomputable def plB0 (S : Words) (v : V) (h : Heap) (k : Bool→Res) : Res:=ptrk v fun p n=>S.load1 h p n fun v=>castB v k
noncomputable def plS0 (S : Words) (v : V) (h : Heap) (k : Nat→Nat→Res) : Res:=ptrk v fun p n=>S.load1 h p n fun v=>castS v k
noncomputable def fa (v : V) (d : Nat) (h : Heap) : Res:=ptrk v fun p n=>.ret (.ptr p (Nat.add n d)) h
noncomputable def lq (b : (List V→Heap→Res)→List V→Heap→Res) (n : Nat) (vs : List V) (h : Heap) (k : List V→Heap→Res) : Res:=contk (lpk b n vs h) fun x l h=>nork x (k l h) .fail
noncomputable def cn (x : Res) (k : List V→Heap→Res) : Res:=contk x fun x l h=>nork x (k l h) .fail
abbrev I (i : Int) : V:=.int .i64 i
abbrev ik (n : Nat) : V:=.int .i64 (.ofNat n)
abbrev uk (n : Nat) : V:=.int .u8 (.ofNat n)
noncomputable abbrev iq (i : Int) (n : Nat) : Bool:=ieq i (.ofNat n)
noncomputable abbrev ne (i : Int) (n : Nat) : Bool:=Bool.not (ieq i (.ofNat n))
noncomputable abbrev ad (i : Int) (n : Nat) : Int:=wrapv .i64 (Int.add i (.ofNat n))
noncomputable abbrev sb (i : Int) (n : Nat) : Int:=wrapv .i64 (Int.sub i (.ofNat n))
noncomputable abbrev ai (i j : Int) : Int:=wrapv .i64 (Int.add i j)
noncomputable abbrev si (i j : Int) : Int:=wrapv .i64 (Int.sub i j)
end Go.Ev
