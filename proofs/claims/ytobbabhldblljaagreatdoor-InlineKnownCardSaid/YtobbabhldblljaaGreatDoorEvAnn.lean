/- EvAnn: texts joined. -/
import Derived.Test.YtobbabhldblljaaGreatDoorEvPO
/- EVALUATOR, 24: functions, the table of them, calls; and what the whole comes to. -/
namespace Go.Ev
variable {P : Program}
abbrev FT:=N (N (N (N PO)))
def FT.get (t : FT) (f : Fid) : PO:=(((N.get t f.a).get f.b).get f.c).get f.d
noncomputable def ftk (t : FT) (f : Fid) (k : PF→Res) (ko : (List V→Heap→Res)→Res) (ks : (Nat→CF→List V→Heap→Res)→Res) : Res:=
 Fid.rec (motive:=fun _=>Res) (fun a b c d=>PO.rec (motive:=fun _=>Res) .fail k ko ks (getP d (getP1 c (getP2 b (getP3 a t))))) f
noncomputable def argk (sl : List (Slot × Sh1)) (l : List V) (env : Env) (k : Env→Res) : Res:=putsk sl l env k
noncomputable def resk (sl : List RS) (env : Env) (h : Heap) (k : List V→Res) : Res:=
 List.rec (motive:=fun _=>(List V→Res)→Res) (fun k=>k []) (fun x _ ih k=>RS.rec (motive:=fun _=>Res)
  (fun x=>getk (.e x) [] env fun v=>ih fun l=>k (v :: l))
  (fun x=>getk (.e x) [] env fun v=>ptrk v fun b o=>load1k h b o fun u=>ih fun l=>k (u :: l))
  (fun n x=>getk (.e x) [] env fun v=>ptrk v fun b o=>loadk h b o n fun us=>ih fun l=>k (.agg n us :: l)) x) sl k
noncomputable def soloV (l : List V) (k : V→Res) : Res:=List.rec (motive:=fun _=>Res) (k (.tup [])) (fun v m _=>List.rec (motive:=fun _=>Res) (k v) (fun _ _ _=>k (.tup l)) m) l
noncomputable def isMi (y : Blk) (a b : Res) : Res:=
 Blk.rec (motive:=fun _=>Res) b (fun _ _ _ _=>b) (fun x=>Oth.rec (motive:=fun _=>Res) (fun _ _=>b) (fun _ _ _=>b) (fun _ _ _ _ _=>b) (fun _ _ _ _=>a) (fun _ _ _=>b) (fun _ _ _=>b) (fun _=>b) x) y
noncomputable def dropIk (v : V) (h : Heap) (k : Heap→Res) : Res:=
 V.rec (motive_1:=fun _=>Res) (motive_2:=fun _=>PUnit) (k h) (k h) (fun _=>k h) (fun _ _=>k h) (fun _ _=>k h) (k h) (fun b _=>h.getk b fun y=>isMi y (h.turnk b .none k) (k h)) (k h)
  (fun _ _ _ _ _=>k h) (k h) (k h) (fun _=>k h) (k h) (fun _ _ _=>k h) (k h) (fun _ _ _=>k h) (fun _ _ _=>k h) (fun _ _=>k h) PUnit.unit (fun _ _ _ _=>PUnit.unit) v
noncomputable def dropsk (sl : List Slot) (env : Env) (h : Heap) (k : Heap→Res) : Res:=List.rec (motive:=fun _=>Heap→Res) k (fun x _ ih h=>getk (.e x) [] env fun v=>dropIk v h ih) sl h
theorem dropIk_ok {v : V} {h : Heap} {k : Heap→Res} {r : Res} (hh : dropIk v h k = r) {ρ : Rho} {w : World} (rh : RH P ρ h w) {x : Value} (hv : VR ρ v x) : ∃ h',k h' = r∧RH P ρ h' w∧Ext ρ h w ρ h' w:=by
 cases v
 case ptr b o=>
  obtain ⟨c,z,S,hb,_⟩:=hv.ptr_inv
  have hh : (h.getk b fun y=>isMi y (h.turnk b .none k) (k h)) = r:=hh
  rw [Heap.getk_eq] at hh
  rcases e : h.t.get b with _ | ⟨g,n,t,ro⟩ | y
  · rw [e] at hh; exact ⟨h,hh,rh,.refl _ _ _⟩
  · rw [e] at hh; exact ⟨h,hh,rh,.refl _ _ _⟩
  · rw [e] at hh
    cases y
    case mi=>
     have hh : h.turnk b .none k = r:=hh
     rw [Heap.turnk_eq] at hh
     obtain ⟨d1,d2⟩:=drop_block rh hb (by rw [e]; rfl)
     exact ⟨_,hh,d1,d2⟩
    all_goals exact ⟨h,hh,rh,.refl _ _ _⟩
 all_goals exact ⟨h,hh,rh,.refl _ _ _⟩
noncomputable def endk (x : Ex) (a : Res) (p : V→Res) : Res:=Ex.rec (motive:=fun _=>Res) a (fun _=>.fail) a p x
noncomputable def runFg (sem : OX→Do) (n : Nat) (cf : CF) (p : PF) (args : List V) (h : Heap) : Res:=
 PF.rec (motive:=fun _=>Res) (fun code sl res its=>argk sl args env0 fun env=>runCg sem cf n code env h fun x env' h'=>
  endk x (dropsk its env' h' fun h'=>resk res env' h' fun l=>soloV l fun v=>.ret v h') fun v=>.pan v h') p
noncomputable abbrev runF:=runFg semOX
noncomputable def call (tab : FT) (n depth : Nat) : CF:=
 Nat.rec (motive:=fun _=>CF) (fun _ _ _=>.fail) (fun _ cf f args h=>ftk tab f (fun p=>runF n cf p args h) (fun g=>g args h) fun g=>g n cf args h) depth
def slots (fi : FI) : List Nat→Option (List Slot)
 | []=>some []
 | t :: l=>if fi.inl.testBit t then none else (slotOf t).bind fun x=>(slots fi l).map fun m=>x :: m
def envSlot (fi : FI) (t : Nat) : Option Slot:=if fi.inl.testBit t then none else slotOf t
def ress (P : Program) (fi : FI) : List ResultVar→Option (List RS)
 | []=>some []
 | .tmp t :: l=>(envSlot fi t).bind fun x=>(ress P fi l).map fun m=>.tmp x :: m
 | .cell a t :: l=>(envSlot fi a).bind fun x=>(ress P fi l).bind fun m=>if scal P t then some (.cell x :: m) else if aggr P t then (sz P t).map fun n=>.cells n x :: m else none
def itsOps (P : Program) (fi : FI) (ops : List Oper) : List Slot:=ops.filterMap fun o=>match o.op,o.dst with
 | .range t _,some d=>match P.underlying t with
   | some (.map _ _)=>envSlot fi d
   | _=>none
 | _,_=>none
def itsOf (P : Program) (fi : FI) : Code→List Slot
 | .seq x y | .cond _ x y=>itsOf P fi x ++ itsOf P fi y
 | .block _ x | .loop x | .scope x=>itsOf P fi x
 | .region _ ops _=>itsOps P fi ops.toList
 | _=>[]
theorem itsOf_ok {fi : FI} {x : Slot} : ∀ {c : Code},x ∈ itsOf P fi c→∃ t,envSlot fi t = some x
 | .seq a b,h | .cond _ a b,h=>(List.mem_append.1 h).elim itsOf_ok itsOf_ok
 | .block _ a,h | .loop a,h | .scope a,h=>itsOf_ok (c:=a) h
 | .region _ ops _,h=>by
   obtain ⟨o,_,h1⟩:=List.mem_filterMap.1 h
   split at h1
   · split at h1
     · exact ⟨_,h1⟩
     · cases h1
   · cases h1
 | .skip,h | .label _,h | .exit _,h | .ret,h | .goto _,h | .refuse _,h | .rangeFunc _ _ _ _,h=>by cases h
def attach (P : Program) : List Slot→List TypeId→List (Slot × Sh1)
 | [],_=>[]
 | x :: xs,[]=>(x,.any) :: attach P xs []
 | x :: xs,t :: ts=>(x,sh1Of P t) :: attach P xs ts
theorem attach_fst (xs : List Slot) (ts : List TypeId) : (attach P xs ts).map (·.1) = xs:=by
 induction xs generalizing ts with
 | nil=>rfl
 | cons x xs ih=>cases ts <;> simp [attach,ih]
def prep (P : Program) (ng : Nat) (fi : FI) (f : Nat) : Option PF:=
 match P.funcs[f]? with
 | some fn=>match fn.body with
   | some c=>if fn.name == "runtime.NumGoroutine" then none else if fn.ntmps = fi.nt∧fn.params.size + fn.nfree ≤ fi.nt∧f < 32768 then
      (cCode P fi ng (if (rfs c).length ≤ 16∧f < 2048 then some (16 * f) else none) c).bind fun pc=>(slots fi (List.range (fn.params.size + fn.nfree))).bind fun as=>(ress P fi fn.results.toList).map fun rs=>⟨pc,attach P as fn.params.toList,rs,itsOf P fi c⟩
     else none
   | none=>none
 | none=>none
def PF.strip (p : PF) : PF:=⟨p.code.strip,p.args,p.res,p.its⟩
def POok (P : Program) (ng n : Nat) : PO→Prop
 | .no=>True
 | .fn p=>∃ fi,prep P ng fi n = some p.strip
 | .orc g=>CallOk P ng n g
 | .sh g=>∀ m cf,CFok P ng cf→CallOk P ng n (g m cf)
def TabOk (P : Program) (ng : Nat) (tab : FT) : Prop:=∀ f,POok P ng f.val (tab.get f)
section ok
variable {ng n : Nat} {fi : FI}
theorem slots_len {l : List Nat} {sl : List Slot} (h : slots fi l = some sl) : sl.length = l.length:=by
 induction l generalizing sl with
 | nil=>cases h; rfl
 | cons t l ih=>
   simp only [slots] at h
   split at h
   · cases h
   · obtain ⟨x,_,h⟩:=Option.bind_eq_some_iff.1 h
     obtain ⟨m,h2,rfl⟩:=Option.map_eq_some_iff.1 h
     simp [ih h2]
theorem argk_ok {ρ : Rho} {tmps : Array Value} : ∀ {ts : List Nat} {sl : List (Slot × Sh1)} {l : List V} {xs : List Value} {env : Env} {k : Env→Res} {r : Res},slots fi ts = some (sl.map (·.1))→argk sl l env k = r →
 r ≠ .fail→VRs ρ l xs→(∀ t x,slotOf t = some x→VR ρ (env.at x) (tmps.getD t Go.undef))→(xs.length = ts.length→∀ (i t : Nat) (x : Value),ts[i]? = some t→xs[i]? = some x→tmps.getD t Go.undef = x) →
 ∃ env',k env' = r∧xs.length = ts.length∧∀ t x,slotOf t = some x→VR ρ (env'.at x) (tmps.getD t Go.undef):=by
 have len : ∀ {sl : List (Slot × Sh1)} {l : List V} {env : Env} {k : Env→Res} {r : Res},argk sl l env k = r→r ≠ .fail→l.length = sl.length:=by
  intro sl
  induction sl with
  | nil=>
    intro l env k r hh hr
    obtain ⟨rfl,_⟩:=nilk'_ok (show nilk' l (k env) = r from hh) hr
    rfl
  | cons p sl ih=>
    intro l env k r hh hr
    obtain ⟨x,s⟩:=p
    obtain ⟨v,m,rfl,h1⟩:=unc_ok (show unc l (fun v vs=>cast1 s v fun v=>envk env x v fun env=>argk sl vs env k) = r from hh) hr
    have h2:=cast1_ok h1 hr
    rw [envk_eq] at h2
    simp [ih h2 hr]
 intro ts
 induction ts with
 | nil=>
   intro sl l xs env k r hs hh hr hv he _
   have hl:=len hh hr
   have hs : sl = []:=by
    cases sl with
    | nil=>rfl
    | cons p sl=>simp [slots] at hs
   subst hs
   obtain ⟨rfl,h1⟩:=nilk'_ok (show nilk' l (k env) = r from hh) hr
   cases hv
   exact ⟨env,h1,rfl,he⟩
 | cons t ts ih=>
   intro sl l xs env k r hs hh hr hv he ht
   have hl:=len hh hr
   have hsl:=slots_len hs
   simp only [slots] at hs
   split at hs
   · cases hs
   · obtain ⟨x,hx,hs⟩:=Option.bind_eq_some_iff.1 hs
     obtain ⟨m,h2,hm⟩:=Option.map_eq_some_iff.1 hs
     cases sl with
     | nil=>cases hm
     | cons p sl=>
       obtain ⟨x',s⟩:=p
       simp only [List.map_cons,List.cons.injEq] at hm
       obtain ⟨rfl,rfl⟩:=hm
       obtain ⟨v,l',rfl,h1⟩:=unc_ok (show unc l (fun v vs=>cast1 s v fun v=>envk env x v fun env=>argk sl vs env k) = r from hh) hr
       have h1:=cast1_ok h1 hr
       rw [envk_eq] at h1
       cases hv with
       | cons hv hvs=>
         rename_i x0 xs
         have hlen : (x0 :: xs).length = (t :: ts).length:=by
          have:=hvs.length
          simp only [List.length_cons,List.length_map] at hl hsl ⊢
          omega
         have h0 : tmps.getD t Go.undef = x0:=ht hlen 0 t x0 rfl rfl
         obtain ⟨env',h3,h4,h5⟩:=ih h2 h1 hr hvs (fun t' x' h=>by
          by_cases e : x' = x
          · subst e
            obtain rfl:=slotOf_inj h hx
            rw [Env.at_put,h0]; exact hv
          · rw [Env.at_put_ne _ e]; exact he t' x' h) (fun _ i t' y h6 h7=>ht hlen (i + 1) t' y (by simpa using h6) (by simpa using h7))
         exact ⟨env',h3,by simp [h4],h5⟩
theorem envSlot_ok {ρ : Rho} {tmps : Array Value} {env : Env} (he : EnvR ρ fi env tmps) {t : Nat} {x : Slot} (hx : envSlot fi t = some x) : VR ρ (env.at x) (tmps.getD t Go.undef):=by
 unfold envSlot at hx
 split at hx
 · cases hx
 · rename_i hb
   exact he.val t x hx (by simpa using hb)
theorem dropsk_ok {ρ : Rho} {w : World} {tmps : Array Value} {env : Env} (he : EnvR ρ fi env tmps) : ∀ {sl : List Slot} {h : Heap} {k : Heap→Res} {r : Res},dropsk sl env h k = r→(∀ x ∈ sl,∃ t,envSlot fi t = some x)→r ≠ .fail→RH P ρ h w →
 ∃ h',k h' = r∧RH P ρ h' w∧Ext ρ h w ρ h' w
 | [],h,k,r,hh,_,_,rh=>⟨h,hh,rh,.refl _ _ _⟩
 | x :: sl,h,k,r,hh,hs,hr,rh=>by
   obtain ⟨t,ht⟩:=hs x (by simp)
   obtain ⟨v,h1,h2⟩:=getk_ok (show getk (.e x) [] env (fun v=>dropIk v h fun h=>dropsk sl env h k) = r from hh) hr
   cases h1
   obtain ⟨h',h3,h4,h5⟩:=dropIk_ok h2 rh (envSlot_ok he ht)
   obtain ⟨h'',h6,h7,h8⟩:=dropsk_ok he h3 (fun y hy=>hs y (by simp [hy])) hr h4
   exact ⟨h'',h6,h7,h5.trans h8⟩
def resOne (tmps : Array Value) : ResultVar→Sem Value
 | .tmp t=>pure (tmps.getD t Go.undef)
 | .cell a t=>do loadVar t (← asAddr (tmps.getD a Go.undef))
theorem resk_ok {ρ : Rho} {h : Heap} {w : World} {tmps : Array Value} {env : Env} (he : EnvR ρ fi env tmps) (rh : RH P ρ h w) : ∀ {rs : List ResultVar} {sl : List RS} {k : List V→Res} {r : Res},ress P fi rs = some sl →
 resk sl env h k = r→r ≠ .fail→∃ l xs,k l = r∧VRs ρ l xs∧(rs.mapM (resOne tmps)).run P w = .ok xs w
 | [],sl,k,r,hs,hh,hr=>by cases hs; exact ⟨[],[],hh,.nil,rfl⟩
 | .tmp t :: rs,sl,k,r,hs,hh,hr=>by
   obtain ⟨x,hx,hs⟩:=Option.bind_eq_some_iff.1 hs
   obtain ⟨m,h2,rfl⟩:=Option.map_eq_some_iff.1 hs
   obtain ⟨v,h3,h4⟩:=getk_ok (show getk (.e x) [] env (fun v=>resk m env h fun l=>k (v :: l)) = r from hh) hr
   cases h3
   obtain ⟨l,xs,h5,h6,h7⟩:=resk_ok he rh h2 h4 hr
   refine ⟨_,_,h5,.cons (envSlot_ok he hx) h6,?_⟩
   rw [List.mapM_cons]
   simp only [resOne,Sem.run_bind,Sem.run_pure,Result.andThen_ok,h7]
 | .cell a t :: rs,sl,k,r,hs,hh,hr=>by
   obtain ⟨x,hx,hs⟩:=Option.bind_eq_some_iff.1 hs
   obtain ⟨m,h2,hs⟩:=Option.bind_eq_some_iff.1 hs
   have hv:=envSlot_ok he hx
   split at hs
   · rename_i ht
     cases hs
     obtain ⟨v,h3,h4⟩:=getk_ok (show getk (.e x) [] env (fun v=>ptrk v fun b o=>load1k h b o fun u=>resk m env h fun l=>k (u :: l)) = r from hh) hr
     cases h3
     obtain ⟨b,o,e1,h5⟩:=ptrk_ok h4 hr
     rw [e1] at hv
     obtain ⟨c,z,S,hb,e2⟩:=hv.ptr_inv
     obtain ⟨u,y,h6,h7,h8,_⟩:=load1k_ok h5 hr rh hb
     obtain ⟨l,xs,h9,h10,h11⟩:=resk_ok he rh h2 h6 hr
     refine ⟨_,_,h9,.cons h8 h10,?_⟩
     rw [List.mapM_cons]
     simp only [resOne,e2,asAddr,loadVar,Sem.run_bind,Sem.run_pure,Result.andThen_ok,run_isAgg_scal ht,Bool.false_eq_true,if_false,run_load_cell h7,h11]
   · split at hs
     · rename_i ht
       obtain ⟨n,hn,rfl⟩:=Option.map_eq_some_iff.1 hs
       obtain ⟨v,h3,h4⟩:=getk_ok (show getk (.e x) [] env (fun v=>ptrk v fun b o=>loadk h b o n fun us=>resk m env h fun l=>k (.agg n us :: l)) = r from hh) hr
       cases h3
       obtain ⟨b,o,e1,h5⟩:=ptrk_ok h4 hr
       rw [e1] at hv
       obtain ⟨c,z,S,hb,e2⟩:=hv.ptr_inv
       obtain ⟨us,ys,h6,h7,h8,h8',h8''⟩:=loadk_ok (P:=P) h5 hr rh hb
       obtain ⟨l,xs,h9,h10,h11⟩:=resk_ok he rh h2 h6 hr
       refine ⟨_,.agg ys.toArray :: xs,h9,.cons (.agg (by simpa using h8) (by simpa using h8'') (by rw [h8.length,h8'])) h10,?_⟩
       rw [List.mapM_cons]
       have h7:=h7 w.drawn
       simp only [resOne,e2,asAddr,loadVar,Sem.run_bind,Sem.run_pure,Result.andThen_ok,run_isAgg_aggr ht,if_true,run_size hn]
       erw [h7]
       simp only [Result.andThen_ok,h11]
     · cases hs
theorem soloV_ok {ρ : Rho} {l : List V} {xs : List Value} (h : VRs ρ l xs) (k : V→Res) : ∃ v,soloV l k = k v∧VR ρ v (if h : xs.toArray.size = 1 then xs.toArray[0] else .tuple xs.toArray):=by
 cases h with
 | nil=>exact ⟨_,rfl,.tup .nil⟩
 | cons h1 h2=>
   cases h2 with
   | nil=>exact ⟨_,rfl,h1⟩
   | cons h3 h4=>
     refine ⟨_,rfl,?_⟩
     rw [dif_neg (by simp)]
     exact .tup (.cons h1 (.cons h3 h4))
theorem run_results {fn : Func} {tmps : Array Value} {w : World} {xs : List Value} (h : (fn.results.toList.mapM (resOne tmps)).run P w = .ok xs w) :
 (results fn tmps).run P w = .ok (if h : xs.toArray.size = 1 then xs.toArray[0] else .tuple xs.toArray) w:=by
 unfold results
 rw [Array.mapM_eq_mapM_toList]
 simp only [Sem.run_bind,Sem.run_map]
 have e : (fun x : ResultVar=>match x with | .tmp t=>(pure (tmps.getD t Go.undef) : Sem Value) | .cell a t=>do loadVar t (← asAddr (tmps.getD a Go.undef))) = resOne tmps:=by
  funext x; cases x <;> rfl
 erw [e,h]
 rfl
theorem RH.hid {ρ : Rho} {h : Heap} {w : World} (r : RH P ρ h w) {m : Nat} {d : Option (List Deferred)} (hm : w.heap[m]? = some (.deferred d)) (d' : Option (List Deferred)) : RH P ρ h (w.putObj m (.deferred d')):=by
 have hsz : (w.putObj m (.deferred d')).heap.size = w.heap.size:=by simp [World.putObj]
 refine ⟨fun b c z S hb=>by rw [hsz]; exact r.lt b c z S hb,r.fresh,r.inj,fun b c z S g n t ro hb ht=>?_,fun b c z S x hb ht=>?_,fun p c z S b s q l hb ht=>?_⟩
 rotate_left 2
 · obtain ⟨i,Si,sn,la,ces,clk,h1,h2,h3,h4⟩:=r.itr p c z S b s q l hb ht
   have hc : c ≠ m:=by rintro rfl; rw [hm] at h1; cases h1
   have hi : i ≠ m:=by rintro rfl; rw [hm] at h3; cases h3
   exact ⟨i,Si,sn,la,ces,clk,(World.putObj_heap_other hc).trans h1,h2,(World.putObj_heap_other hi).trans h3,h4⟩
 · obtain ⟨cs,ha⟩:=r.arr b c z S g n t ro hb ht
   have hc : c ≠ m:=by
    rintro rfl
    obtain ⟨el,fz,h1,_⟩:=ha.at_
    rw [hm] at h1; cases h1
   exact ⟨cs,ha.mono (.refl _) (World.putObj_heap_other hc)⟩
 · obtain ⟨o,h1,h2,h3⟩:=r.ob b c z S x hb ht
   have hc : c ≠ m:=by
    rintro rfl
    rw [hm] at h1; cases h1
    cases x <;> exact h2
   exact ⟨o,(World.putObj_heap_other hc).trans h1,h2,h3⟩
theorem Ext.hid {ρ₀ ρ : Rho} {h₀ h : Heap} {w₀ w : World} (x : Ext ρ₀ h₀ w₀ ρ h w) {m : Nat} (hm : w₀.heap.size ≤ m) (o : Obj) : Ext ρ₀ h₀ w₀ ρ h (w.putObj m o):=
 ⟨x.le,x.nx,x.os,x.tape,x.output,by simp [World.putObj]; exact x.size,fun c hc hn=>⟨(World.putObj_heap_other (by omega)).trans (x.keep c hc hn).1,(x.keep c hc hn).2⟩,x.virt⟩
theorem peel_ok {ρ₀ ρ : Rho} {h₀ h : Heap} {w₀ : World} {Q : World→Prop} (H : ∀ w,RH P ρ h w→Ext ρ₀ h₀ w₀ ρ h w→Q w) : ∀ (ms : List Nat) (w : World),ms.Nodup→(∀ m ∈ ms,w₀.heap.size ≤ m∧w.heap[m]? = some (.deferred (some []))) →
 RH P ρ h w→Ext ρ₀ h₀ w₀ ρ h w→Peel P Q (ms.map markOf) w
 | [],w,_,_,rh,x=>H w rh x
 | m :: ms,w,hn,hms,rh,x=>by
   obtain ⟨h1,h2⟩:=hms m (by simp)
   obtain ⟨h3,h4⟩:=List.nodup_cons.1 hn
   refine ⟨m,_,rfl,run_takeDeferred h2,peel_ok H ms _ h4 (fun k hk=>?_) (rh.hid h2 none) (x.hid h1 _)⟩
   have hne : k ≠ m:=fun e=>h3 (e ▸ hk)
   exact ⟨(hms k (by simp [hk])).1,(World.putObj_heap_other hne).trans (hms k (by simp [hk])).2⟩
theorem fun_ok {cf : CF} (hcf : CFok P ng cf) {f : Nat} {p : PF} (hp : prep P ng fi f = some p.strip) {l : List V} {h : Heap} {r : Res} (hh : runF n cf p l h = r) (hr : Fine r) :
 f < 32768∧Enters P f∧∀ ρ w args,VRs ρ l args→RH P ρ h w→GlobR ρ ng→Calls P f args.toArray w (Came P ρ h w r):=by
 unfold prep at hp
 split at hp
 · rename_i fn hfn
   split at hp
   · rename_i c hc
     split at hp
     · cases hp
     · rename_i hname
       split at hp
       · rename_i hsz
         obtain ⟨hnt,hnp,hf32⟩:=hsz
         obtain ⟨pc,h1,hp⟩:=Option.bind_eq_some_iff.1 hp
         obtain ⟨as,h2,hp⟩:=Option.bind_eq_some_iff.1 hp
         obtain ⟨rs,h4,hp⟩:=Option.map_eq_some_iff.1 hp
         obtain ⟨pcode,sl,rs',its⟩:=p
         simp only [PF.strip,PF.mk.injEq] at hp
         obtain ⟨rfl,rfl,rfl,rfl⟩:=hp
         have h2 : slots fi (List.range (fn.params.size + fn.nfree)) = some ((attach P as fn.params.toList).map (·.1)):=by rw [attach_fst]; exact h2
         refine ⟨hf32,⟨fn,c,hfn,hc,by simpa using hname⟩,fun ρ w args hv rh hg=>?_⟩
         refine calls_ofM hfn hc fun cs=>?_
         obtain ⟨env,h5,h6,h7⟩:=argk_ok (tmps:=args.toArray ++ Array.replicate (fn.ntmps - args.toArray.size) Go.undef) h2 hh hr.ne hv (fun t x _=>by rw [env0_at]; exact .und _) (fun hlen i t x h8 h9=>by
          have hi : i < fn.params.size + fn.nfree:=by
           rcases Nat.lt_or_ge i (fn.params.size + fn.nfree) with h | h
           · exact h
           · rw [List.getElem?_eq_none (by simpa using h)] at h8; cases h8
          have : t = i:=by rw [List.getElem?_range hi] at h8; exact (Option.some.inj h8).symm
          subst this
          have hlt : t < args.length:=by rw [hlen]; simpa using hi
          rw [Array.getD_eq_getD_getElem?,Array.getElem?_append_left (by simpa using hlt)]
          simp [h9])
         have hlen : args.length = fn.params.size + fn.nfree:=by simpa using h6
         have hat : RfAt P fi (base f .normal) (if (rfs c).length ≤ 16∧f < 2048 then some (16 * f) else none) c:=by
          intro k hk
          split at hk
          · rename_i hlf
            cases hk
            refine ⟨rfl,⟨fn,hfn,hnt⟩,fun j x hj=>?_⟩
            have hj':=(List.getElem?_eq_some_iff.1 hj).1
            have e1 : (16 * f + j) / 16 = f:=by omega
            have e2 : (16 * f + j) % 16 = j:=by omega
            refine ⟨?_,by omega⟩
            simp only [roundAt,e1,e2,hfn,hc,Option.bind_some,hj,Option.map_some]
            rfl
          · cases hk
         have he : EnvR ρ fi env (args.toArray ++ Array.replicate (fn.ntmps - args.toArray.size) Go.undef):=⟨by simp; omega,fun t x h8 _=>h7 t x h8⟩
         refine (code_ok (b:=base f .normal) (cs:=cs) (a:={ tmps:=args.toArray ++ Array.replicate (fn.ntmps - args.toArray.size) Go.undef,defers:=[] }) (mk:=true) hcf (fun e=>by cases e) hat h1 h5 hr he rh hg).mono ?_
         have fin : ∀ {a : Act} {w' : World} {env' : Env} {h' : Heap} {ρ' : Rho},EnvR ρ' fi env' a.tmps→RH P ρ' h' w'→Ext ρ h w ρ' h' w'→Le (dropsk (itsOf P fi c) env' h' fun h'=>resk rs env' h' fun l=>soloV l fun v=>.ret v h') r →
          ∃ v,(results fn a.tmps).run P w' = .ok v w'∧Came P ρ h w r (.returned v) w':=by
          intro a w' env' h0 ρ' e1 e2 e3 e4
          obtain ⟨r',hr'⟩ : ∃ r',(dropsk (itsOf P fi c) env' h0 fun h'=>resk rs env' h' fun l=>soloV l fun v=>.ret v h') = r':=⟨_,rfl⟩
          rw [hr'] at e4
          have hle:=e4
          obtain ⟨h',e4,e2,e3'⟩:=dropsk_ok e1 hr' (fun x hx=>itsOf_ok hx) (hr.le hle).ne e2
          have e3:=e3.trans e3'
          obtain ⟨l',xs,e5,e6,e9⟩:=resk_ok e1 e2 h4 e4 (hr.le hle).ne
          obtain ⟨v,e7,e8⟩:=soloV_ok e6 (fun v=>.ret v h')
          refine ⟨_,run_results e9,?_⟩
          rw [e7] at e5
          exact Came.le (q:=.ret v h') ⟨ρ',_,rfl,e8,e2,e3⟩ ((Le.of_eq e5).trans hle)
         rintro e a cs' w' ⟨rfl,x,env',h',ρ',e1,e2,e3,e4,e5,ms,hd,hn,hms⟩
         have hd : a.defers = ms.map markOf:=by rw [hd]; simp
         cases e2 with
         | normal=>exact ⟨rfl,by rw [hd]; exact peel_ok (fun w2 r2 x2=>fin e3 r2 x2 e1) ms w' hn (fun m hm=>⟨(hms m hm).1,(hms m hm).2.1⟩) e4 e5⟩
         | ret=>exact ⟨rfl,by rw [hd]; exact peel_ok (fun w2 r2 x2=>fin e3 r2 x2 e1) ms w' hn (fun m hm=>⟨(hms m hm).1,(hms m hm).2.1⟩) e4 e5⟩
         | exit i=>exact absurd (e1 _ rfl) hr
         | pan hv=>
           refine ⟨rfl,?_⟩
           rw [hd]
           exact peel_ok (fun w2 r2 x2=>Came.le (q:=.pan _ h') ⟨ρ',_,rfl,hv,r2,x2⟩ e1) ms w' hn (fun m hm=>⟨(hms m hm).1,(hms m hm).2.1⟩) e4 e5
       · cases hp
   · cases hp
 · cases hp
theorem CallOk.of {f : Nat} {F : List V→Heap→Res} (h : ∀ l h r,F l h = r→Fine r→f < 32768∧Enters P f∧∀ ρ w args,VRs ρ l args→RH P ρ h w→GlobR ρ ng→Calls P f args.toArray w (Came P ρ h w r)) :
 f < 32768→CallOk P ng f F:=fun hf=>⟨fun _ l h' r hh hr=>(h l h' r hh hr).2,fun h'=>absurd hf (by omega)⟩
theorem CallOk.fn {f : Nat} {F : List V→Heap→Res} (h : FnOk P ng f F) (hf : f < 32768) : CallOk P ng f F:=⟨fun _=>h,fun h'=>absurd hf (by omega)⟩
theorem CallOk.rn {f : Nat} {F : List V→Heap→Res} (h : RnOk P ng (f - 32768) F) (hf : 32768 ≤ f) : CallOk P ng f F:=⟨fun h'=>absurd hf (by omega),fun _=>h⟩
theorem CallOk.none {f : Nat} {F : List V→Heap→Res} (h : ∀ l h,F l h = .fail) : CallOk P ng f F:=
 ⟨fun _ l h' r hh hr=>absurd ((h l h').symm.trans hh).symm hr.ne,fun _ l h' r hh hr=>absurd ((h l h').symm.trans hh).symm hr.ne⟩
theorem POok.of_run {f : Nat} {p : PF} {g : Nat→CF→List V→Heap→Res} (h1 : prep P ng fi f = some p.strip) (h2 : ∀ m cf args h,runF m cf p args h = g m cf args h) : POok P ng f (.sh g):=by
 intro m cf hcf
 have h3 : ∀ l h r,g m cf l h = r→Fine r→f < 32768∧Enters P f∧∀ ρ w args,VRs ρ l args→RH P ρ h w→GlobR ρ ng→Calls P f args.toArray w (Came P ρ h w r):=
  fun l h r hh hr=>fun_ok hcf h1 ((h2 m cf l h).trans hh) hr
 refine ⟨fun _ l h r hh hr=>(h3 l h r hh hr).2,fun hf l h r hh hr=>absurd (h3 l h r hh hr).1 (by omega)⟩
theorem ftk_eq (t : FT) (f : Fid) (k : PF→Res) (ko : (List V→Heap→Res)→Res) (ks : (Nat→CF→List V→Heap→Res)→Res) :
 ftk t f k ko ks = match t.get f with | .no=>.fail | .fn p=>k p | .orc g=>ko g | .sh g=>ks g:=by
 obtain ⟨a,b,c,d⟩:=f
 show PO.rec (motive:=fun _=>Res) .fail k ko ks (getP d (getP1 c (getP2 b (getP3 a t)))) = _
 rw [getP3_eq,getP2_eq,getP1_eq,getP_eq]
 show _ = match (((N.get t a).get b).get c).get d with | .no=>Res.fail | .fn p=>k p | .orc g=>ko g | .sh g=>ks g
 cases (((N.get t a).get b).get c).get d <;> rfl
theorem call_ok {tab : FT} (ht : TabOk P ng tab) : ∀ depth,CFok P ng (call tab n depth)
 | 0=>fun _=>.none fun _ _=>rfl
 | d + 1=>fun fid=>by
   have h4:=ht fid
   have e : ∀ l h,call tab n (d + 1) fid l h = match tab.get fid with | .no=>.fail | .fn p=>runF n (call tab n d) p l h | .orc g=>g l h | .sh g=>g n (call tab n d) l h:=fun l h=>
    ftk_eq tab fid (fun p=>runF n (call tab n d) p l h) (fun g=>g l h) (fun g=>g n (call tab n d) l h)
   cases hp : tab.get fid with
   | no=>exact .none fun l h=>by rw [e,hp]
   | fn p=>
     rw [hp] at h4
     obtain ⟨fi,h3⟩:=h4
     have e' : call tab n (d + 1) fid = fun l h=>runF n (call tab n d) p l h:=by funext l h; rw [e,hp]
     rw [e']
     exact ⟨fun _ l h r hh hr=>(fun_ok (call_ok ht d) h3 hh hr).2,fun hf l h r hh hr=>absurd (fun_ok (call_ok ht d) h3 hh hr).1 (by omega)⟩
   | orc g=>
     rw [hp] at h4
     have e' : call tab n (d + 1) fid = g:=by funext l h; rw [e,hp]
     rw [e']
     exact h4
   | sh g=>
     rw [hp] at h4
     have e' : call tab n (d + 1) fid = g n (call tab n d):=by funext l h; rw [e,hp]
     rw [e']
     exact h4 _ _ (call_ok ht d)
end ok
end Go.Ev

/- EVALUATOR: what is known where ways meet, kept apart from the code: a row of remarks, read off along the code. -/
namespace Go.Ev
variable {P : Program}
inductive An where
 | n
 | j (abn : Bool) (sl : List Nat)
 | l (sl : List Nat)
 | x
 | y
 | r (mask : Nat)
def shNo : Nat→Sh1
 | 0=>.any
 | 1=>.bool
 | 2=>.str
 | 3=>.int .i8 | 4=>.int .i16 | 5=>.int .i32 | 6=>.int .i64 | 7=>.int .u8 | 8=>.int .u16 | 9=>.int .u32 | 10=>.int .u64
 | 11=>.intF .i8 | 12=>.intF .i16 | 13=>.intF .i32 | 14=>.intF .i64 | 15=>.intF .u8 | 16=>.intF .u16 | 17=>.intF .u32 | _=>.intF .u64
def slNo (n : Nat) : Slot × Sh1:=(⟨D.ofNat (n / 16 % 16),D.ofNat (n % 16)⟩,shNo (n / 256))
def PC.ann (np : Bool) : PC→List An→PC × List An
 | .seq x y,A=>
   let p:=x.ann np A.tail
   let q:=y.ann np p.2
   (match A.head? with
     | some (.j b sl)=>.jn b (sl.map slNo) p.1 q.1
     | _=>.seq p.1 q.1,q.2)
 | .cond c x y,A=>
   match A.head? with
   | some .x=>
     let q:=y.ann np A.tail
     (.cond c (.stop x) q.1,q.2)
   | some .y=>
     let p:=x.ann np A.tail
     (.cond c p.1 (.stop y),p.2)
   | _=>
     let p:=x.ann np A.tail
     let q:=y.ann np p.2
     (.cond c p.1 q.1,q.2)
 | .block i x,A=>
   let p:=x.ann np A
   (.block i p.1,p.2)
 | .loop x,A=>
   let p:=x.ann np A.tail
   (match A.head? with
     | some (.l sl)=>.lpv (sl.map slNo) p.1
     | _=>.loop p.1,p.2)
 | .reg l,A=>(bif np then .np (.reg l) else .reg l,A)
 | .draw l o,A=>(bif np then .np (.draw l o) else .draw l o,A)
 | .draw2 l1 o1 l2 o2,A=>(bif np then .np (.draw2 l1 o1 l2 o2) else .draw2 l1 o1 l2 o2,A)
 | .rf id inl g,A=>(match A.head? with
   | some (.r mask)=>.rfa id inl mask g
   | _=>.rf id inl g,A.tail)
 | x,A=>(x,A)
theorem PC.ann_strip (np : Bool) : ∀ (x : PC) (A : List An),(x.ann np A).1.strip = x.strip
 | .seq x y,A=>by
   have h1:=PC.ann_strip np x A.tail
   have h2:=PC.ann_strip np y (x.ann np A.tail).2
   simp only [PC.ann]
   split <;> simp [PC.strip,h1,h2]
 | .cond c x y,A=>by
   simp only [PC.ann]
   split
   · simp [PC.strip,PC.ann_strip np y A.tail]
   · simp [PC.strip,PC.ann_strip np x A.tail]
   · simp [PC.strip,PC.ann_strip np x A.tail,PC.ann_strip np y (x.ann np A.tail).2]
 | .block i x,A=>by simp [PC.ann,PC.strip,PC.ann_strip np x A]
 | .loop x,A=>by
   have h1:=PC.ann_strip np x A.tail
   simp only [PC.ann]
   split <;> simp [PC.strip,h1]
 | .reg _,A | .draw _ _,A | .draw2 _ _ _ _,A=>by cases np <;> rfl
 | .rf _ _ _,A=>by
   simp only [PC.ann]
   split <;> rfl
 | .skip,A | .exit _,A | .ret,A | .dead,A | .rfa _ _ _ _,A=>rfl
 | .jn _ _ _ _,A | .lpv _ _,A | .stop _,A | .np _,A=>rfl
theorem cCode_strip {fi : FI} {ng : Nat} : ∀ {c : Code} {i : Option Nat} {p : PC},cCode P fi ng i c = some p→p.strip = p
 | .skip,_,p,h | .label _,_,p,h | .exit _,_,p,h | .ret,_,p,h | .goto _,_,p,h=>by simp [cCode] at h; subst h; rfl
 | .seq x y,_,p,h=>by
   obtain ⟨a,h1,h⟩:=Option.bind_eq_some_iff.1 h
   obtain ⟨b,h2,rfl⟩:=Option.map_eq_some_iff.1 h
   simp [PC.strip,cCode_strip h1,cCode_strip h2]
 | .cond c x y,_,p,h=>by
   obtain ⟨l,_,h⟩:=Option.bind_eq_some_iff.1 h
   obtain ⟨a,h1,h⟩:=Option.bind_eq_some_iff.1 h
   obtain ⟨b,h2,rfl⟩:=Option.map_eq_some_iff.1 h
   simp [PC.strip,cCode_strip h1,cCode_strip h2]
 | .block id x,_,p,h=>by
   obtain ⟨a,h1,rfl⟩:=Option.map_eq_some_iff.1 h
   simp [PC.strip,cCode_strip h1]
 | .loop x,_,p,h=>by
   obtain ⟨a,h1,rfl⟩:=Option.map_eq_some_iff.1 h
   simp [PC.strip,cCode_strip h1]
 | .region _ ops false,_,p,h=>by
   rcases orDead_ok h with h | rfl
   case inr=>rfl
   obtain ⟨a,h1,rfl⟩:=Option.map_eq_some_iff.1 h
   rfl
 | .region _ ops true,_,p,h=>by
   simp only [cCode] at h
   rcases orDead_ok h with h | rfl
   case inr=>rfl
   split at h
   · split at h
     · obtain ⟨a,_,h⟩:=Option.bind_eq_some_iff.1 h
       obtain ⟨b,_,rfl⟩:=Option.map_eq_some_iff.1 h
       rfl
     · split at h
       · split at h
         · obtain ⟨_,_,h⟩:=Option.bind_eq_some_iff.1 h
           obtain ⟨_,_,h⟩:=Option.bind_eq_some_iff.1 h
           obtain ⟨_,_,h⟩:=Option.bind_eq_some_iff.1 h
           obtain ⟨_,_,rfl⟩:=Option.map_eq_some_iff.1 h
           rfl
         · cases h
       · cases h
   · cases h
 | .scope x,i,p,h=>cCode_strip (c:=x) (i:=i) (by simpa only [cCode] using h)
 | .rangeFunc _ _ _ _,i,p,h=>by
   rcases orDead_ok h with h | rfl
   case inr=>rfl
   obtain ⟨k,_,h⟩:=Option.bind_eq_some_iff.1 h
   obtain ⟨l,_,rfl⟩:=Option.map_eq_some_iff.1 h
   rfl
 | .refuse _,_,p,h=>by simp [cCode] at h; subst h; rfl
theorem prep_strip {ng : Nat} {fi : FI} {f : Nat} {p : PF} (h : prep P ng fi f = some p) : p.code.strip = p.code:=by
 unfold prep at h
 split at h
 · split at h
   · split at h
     · cases h
     · split at h
       · obtain ⟨pc,h1,h⟩:=Option.bind_eq_some_iff.1 h
         obtain ⟨as,_,h⟩:=Option.bind_eq_some_iff.1 h
         obtain ⟨rs,_,rfl⟩:=Option.map_eq_some_iff.1 h
         exact cCode_strip h1
       · cases h
   · cases h
 · cases h
noncomputable def runPg (P : Program) (ng : Nat) (fi : FI) (f : Nat) (np : Bool) (A : List An) (sem : OX→Do) (n : Nat) (cf : CF) (args : List V) (h : Heap) : Res:=
 Option.rec (motive:=fun _=>Res) .fail (fun p=>PF.rec (motive:=fun _=>Res) (fun code sl res its=>runFg sem n cf ⟨(code.ann np A).1,sl,res,its⟩ args h) p) (prep P ng fi f)
theorem POok.of_text {ng f : Nat} (fi : FI) (np : Bool) (A : List An) {sh : Words→Nat→CF→List V→Heap→Res} (h2 : ∀ S n cf ar h,runPg P ng fi f np A (semOXg S) n cf ar h = sh S n cf ar h) : POok P ng f (.sh (sh words)):=by
 intro m cf hcf
 cases hp : prep P ng fi f with
 | none=>
   refine .none fun l h=>?_
   have h3:=h2 words m cf l h
   rw [semOXg_words] at h3
   unfold runPg at h3
   rw [hp] at h3
   exact h3.symm
 | some p=>
   obtain ⟨code,sl,res,its⟩:=p
   have hs:=prep_strip hp
   refine POok.of_run (fi:=fi) (p:=⟨(code.ann np A).1,sl,res,its⟩) (by rw [hp]; simp only at hs; simp only [PF.strip,PC.ann_strip,hs]) (fun m cf l h=>?_) m cf hcf
   have h3:=h2 words m cf l h
   rw [semOXg_words] at h3
   unfold runPg at h3
   rw [hp] at h3
   exact h3
noncomputable def dp (P : Program) (ng : Nat) (fi : FI) (f : Nat) (np : Bool) (A : List An) : Words→Nat→CF→List V→Heap→Res:=fun S n c l h=>runPg P ng fi f np A (semOXg S) n c l h
theorem POok.deep {ng f : Nat} {fi : FI} {np : Bool} {A : List An} : POok P ng f (.sh (dp P ng fi f np A words)):=.of_text fi np A fun _ _ _ _ _=>rfl
end Go.Ev
