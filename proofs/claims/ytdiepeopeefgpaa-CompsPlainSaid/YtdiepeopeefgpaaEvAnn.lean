/- EvAnn: texts joined. -/
import Derived.Test.YtdiepeopeefgpaaEvPO
import Derived.Test.YtdiepeopeefgpaaEvLaw
/- EVALUATOR, 24: functions, the table of them, calls; and what the whole comes to. -/
namespace Go.Ev
variable {P : Program}
abbrev FT:=N (N (N (N PO)))
def FT.get (t : FT) (f : Fid) : PO:=(((N.get t f.a).get f.b).get f.c).get f.d
noncomputable def ftk (t : FT) (f : Fid) (k : PF→Res) (ko : (List V→Heap→Res)→Res) (ks : (Nat→CF→List V→Heap→Res)→Res) : Res:=
 Fid.rec (motive:=fun _=>Res) (fun a b c d=>PO.rec (motive:=fun _=>Res) .fail k ko ks (getP d (getP1 c (getP2 b (getP3 a t))))) f
noncomputable def argk (sl : List (Slot × Sh1)) (l : List V) (env : Env) (k : Env→Res) : Res:=putsk sl l env k
noncomputable def resk (sl : List RS) (env : Env) (h : Heap) (k : List V→Res) : Res:=
 List.rec (motive:=fun _=>(List V→Res)→Res) (fun k=>k []) (fun x _ ih k=>RS.rec (motive:=fun _=>Res)
  (fun x=>getk (.e x) [] env fun v=>ih fun l=>k (v :: l))
  (fun x=>getk (.e x) [] env fun v=>ptrk v fun b o=>load1k h b o fun u=>ih fun l=>k (u :: l))
  (fun n x=>getk (.e x) [] env fun v=>ptrk v fun b o=>loadk h b o n fun us=>ih fun l=>k (.agg n us :: l)) x) sl k
noncomputable def soloV (l : List V) (k : V→Res) : Res:=List.rec (motive:=fun _=>Res) (k (.tup [])) (fun v m _=>List.rec (motive:=fun _=>Res) (k v) (fun _ _ _=>k (.tup l)) m) l
noncomputable def isMi (y : Blk) (a b : Res) : Res:=
 Blk.rec (motive:=fun _=>Res) b (fun _ _ _ _=>b) (fun x=>Oth.rec (motive:=fun _=>Res) (fun _ _=>b) (fun _ _ _=>b) (fun _ _ _ _ _=>b) (fun _ _ _ _=>a) (fun _ _ _=>b) (fun _ _ _=>b) (fun _=>b) x) y
noncomputable def dropIk (v : V) (h : Heap) (k : Heap→Res) : Res:=
 V.rec (motive_1:=fun _=>Res) (motive_2:=fun _=>PUnit) (k h) (k h) (fun _=>k h) (fun _ _=>k h) (fun _ _=>k h) (k h) (fun b _=>h.getk b fun y=>isMi y (h.turnk b .none k) (k h)) (k h)
  (fun _ _ _ _ _=>k h) (k h) (k h) (fun _=>k h) (k h) (fun _ _ _=>k h) (k h) (fun _ _ _=>k h) (fun _ _ _=>k h) (fun _ _=>k h) PUnit.unit (fun _ _ _ _=>PUnit.unit) v
noncomputable def dropsk (sl : List Slot) (env : Env) (h : Heap) (k : Heap→Res) : Res:=List.rec (motive:=fun _=>Heap→Res) k (fun x _ ih h=>getk (.e x) [] env fun v=>dropIk v h ih) sl h
theorem dropIk_ok {v : V} {h : Heap} {k : Heap→Res} {r : Res} (hh : dropIk v h k = r) {ρ : Rho} {w : World} (rh : RH P ρ h w) {x : Value} (hv : VR ρ v x) : ∃ h',k h' = r∧RH P ρ h' w∧Ext ρ h w ρ h' w:=by
 cases v
 case ptr b o=>
  obtain ⟨c,z,S,hb,_⟩:=hv.ptr_inv
  have hh : (h.getk b fun y=>isMi y (h.turnk b .none k) (k h)) = r:=hh
  rw [Heap.getk_eq] at hh
  rcases e : h.t.get b with _ | ⟨g,n,t,ro⟩ | y
  · rw [e] at hh; exact ⟨h,hh,rh,.refl _ _ _⟩
  · rw [e] at hh; exact ⟨h,hh,rh,.refl _ _ _⟩
  · rw [e] at hh
    cases y
    case mi=>
     have hh : h.turnk b .none k = r:=hh
     rw [Heap.turnk_eq] at hh
     obtain ⟨d1,d2⟩:=drop_block rh hb (by rw [e]; rfl)
     exact ⟨_,hh,d1,d2⟩
    all_goals exact ⟨h,hh,rh,.refl _ _ _⟩
 all_goals exact ⟨h,hh,rh,.refl _ _ _⟩
noncomputable def endk (x : Ex) (a : Res) (p : V→Res) : Res:=Ex.rec (motive:=fun _=>Res) a (fun _=>.fail) a p x
noncomputable def runFg (sem : OX→Do) (n : Nat) (cf : CF) (p : PF) (args : List V) (h : Heap) : Res:=
 PF.rec (motive:=fun _=>Res) (fun code sl res its=>argk sl args env0 fun env=>runCg sem cf n code env h fun x env' h'=>
  endk x (dropsk its env' h' fun h'=>resk res env' h' fun l=>soloV l fun v=>.ret v h') fun v=>.pan v h') p
noncomputable abbrev runF:=runFg semOX
noncomputable def call (tab : FT) (n depth : Nat) : CF:=
 Nat.rec (motive:=fun _=>CF) (fun _ _ _=>.fail) (fun _ cf f args h=>ftk tab f (fun p=>runF n cf p args h) (fun g=>g args h) fun g=>g n cf args h) depth
def slots (fi : FI) : List Nat→Option (List Slot)
 | []=>some []
 | t :: l=>if fi.inl.testBit t then none else (slotOf t).bind fun x=>(slots fi l).map fun m=>x :: m
def envSlot (fi : FI) (t : Nat) : Option Slot:=if fi.inl.testBit t then none else slotOf t
def ress (P : Program) (fi : FI) : List ResultVar→Option (List RS)
 | []=>some []
 | .tmp t :: l=>(envSlot fi t).bind fun x=>(ress P fi l).map fun m=>.tmp x :: m
 | .cell a t :: l=>(envSlot fi a).bind fun x=>(ress P fi l).bind fun m=>if scal P t then some (.cell x :: m) else if aggr P t then (sz P t).map fun n=>.cells n x :: m else none
def itsOps (P : Program) (fi : FI) (ops : List Oper) : List Slot:=ops.filterMap fun o=>match o.op,o.dst with
 | .range t _,some d=>match P.underlying t with
   | some (.map _ _)=>envSlot fi d
   | _=>none
 | _,_=>none
def itsOf (P : Program) (fi : FI) : Code→List Slot
 | .seq x y | .cond _ x y=>itsOf P fi x ++ itsOf P fi y
 | .block _ x | .loop x | .scope x=>itsOf P fi x
 | .region _ ops _=>itsOps P fi ops.toList
 | _=>[]
theorem itsOf_ok {fi : FI} {x : Slot} : ∀ {c : Code},x ∈ itsOf P fi c→∃ t,envSlot fi t = some x
 | .seq a b,h | .cond _ a b,h=>(List.mem_append.1 h).elim itsOf_ok itsOf_ok
 | .block _ a,h | .loop a,h | .scope a,h=>itsOf_ok (c:=a) h
 | .region _ ops _,h=>by
   obtain ⟨o,_,h1⟩:=List.mem_filterMap.1 h
   split at h1
   · split at h1
     · exact ⟨_,h1⟩
     · cases h1
   · cases h1
 | .skip,h | .label _,h | .exit _,h | .ret,h | .goto _,h | .refuse _,h | .rangeFunc _ _ _ _,h=>by cases h
def attach (P : Program) : List Slot→List TypeId→List (Slot × Sh1)
 | [],_=>[]
 | x :: xs,[]=>(x,.any) :: attach P xs []
 | x :: xs,t :: ts=>(x,sh1Of P t) :: attach P xs ts
theorem attach_fst (xs : List Slot) (ts : List TypeId) : (attach P xs ts).map (·.1) = xs:=by
 induction xs generalizing ts with
 | nil=>rfl
 | cons x xs ih=>cases ts <;> simp [attach,ih]
def prep (P : Program) (ng : Nat) (fi : FI) (f : Nat) : Option PF:=
 match P.funcs[f]? with
 | some fn=>match fn.body with
   | some c=>if fn.name == "runtime.NumGoroutine" then none else if fn.ntmps = fi.nt∧fn.params.size + fn.nfree ≤ fi.nt∧f < 32768 then
      (cCode P fi ng (if (rfs c).length ≤ 16∧f < 2048 then some (16 * f) else none) c).bind fun pc=>(slots fi (List.range (fn.params.size + fn.nfree))).bind fun as=>(ress P fi fn.results.toList).map fun rs=>⟨pc,attach P as fn.params.toList,rs,itsOf P fi c⟩
     else none
   | none=>none
 | none=>none
def PF.strip (p : PF) : PF:=⟨p.code.strip,p.args,p.res,p.its⟩
def POok (P : Program) (ng n : Nat) : PO→Prop
 | .no=>True
 | .fn p=>∃ fi,prep P ng fi n = some p.strip
 | .orc g=>CallOk P ng n g
 | .sh g=>∀ m cf,CFok P ng cf→CallOk P ng n (g m cf)
def TabOk (P : Program) (ng : Nat) (tab : FT) : Prop:=∀ f,POok P ng f.val (tab.get f)
section ok
variable {ng n : Nat} {fi : FI}
theorem slots_len {l : List Nat} {sl : List Slot} (h : slots fi l = some sl) : sl.length = l.length:=by
 induction l generalizing sl with
 | nil=>cases h; rfl
 | cons t l ih=>
   simp only [slots] at h
   split at h
   · cases h
   · obtain ⟨x,_,h⟩:=Option.bind_eq_some_iff.1 h
     obtain ⟨m,h2,rfl⟩:=Option.map_eq_some_iff.1 h
     simp [ih h2]
theorem argk_ok {ρ : Rho} {tmps : Array Value} : ∀ {ts : List Nat} {sl : List (Slot × Sh1)} {l : List V} {xs : List Value} {env : Env} {k : Env→Res} {r : Res},slots fi ts = some (sl.map (·.1))→argk sl l env k = r →
 r ≠ .fail→VRs ρ l xs→(∀ t x,slotOf t = some x→VR ρ (env.at x) (tmps.getD t Go.undef))→(xs.length = ts.length→∀ (i t : Nat) (x : Value),ts[i]? = some t→xs[i]? = some x→tmps.getD t Go.undef = x) →
 ∃ env',k env' = r∧xs.length = ts.length∧∀ t x,slotOf t = some x→VR ρ (env'.at x) (tmps.getD t Go.undef):=by
 have len : ∀ {sl : List (Slot × Sh1)} {l : List V} {env : Env} {k : Env→Res} {r : Res},argk sl l env k = r→r ≠ .fail→l.length = sl.length:=by
  intro sl
  induction sl with
  | nil=>
    intro l env k r hh hr
    obtain ⟨rfl,_⟩:=nilk'_ok (show nilk' l (k env) = r from hh) hr
    rfl
  | cons p sl ih=>
    intro l env k r hh hr
    obtain ⟨x,s⟩:=p
    obtain ⟨v,m,rfl,h1⟩:=unc_ok (show unc l (fun v vs=>cast1 s v fun v=>envk env x v fun env=>argk sl vs env k) = r from hh) hr
    have h2:=cast1_ok h1 hr
    rw [envk_eq] at h2
    simp [ih h2 hr]
 intro ts
 induction ts with
 | nil=>
   intro sl l xs env k r hs hh hr hv he _
   have hl:=len hh hr
   have hs : sl = []:=by
    cases sl with
    | nil=>rfl
    | cons p sl=>simp [slots] at hs
   subst hs
   obtain ⟨rfl,h1⟩:=nilk'_ok (show nilk' l (k env) = r from hh) hr
   cases hv
   exact ⟨env,h1,rfl,he⟩
 | cons t ts ih=>
   intro sl l xs env k r hs hh hr hv he ht
   have hl:=len hh hr
   have hsl:=slots_len hs
   simp only [slots] at hs
   split at hs
   · cases hs
   · obtain ⟨x,hx,hs⟩:=Option.bind_eq_some_iff.1 hs
     obtain ⟨m,h2,hm⟩:=Option.map_eq_some_iff.1 hs
     cases sl with
     | nil=>cases hm
     | cons p sl=>
       obtain ⟨x',s⟩:=p
       simp only [List.map_cons,List.cons.injEq] at hm
       obtain ⟨rfl,rfl⟩:=hm
       obtain ⟨v,l',rfl,h1⟩:=unc_ok (show unc l (fun v vs=>cast1 s v fun v=>envk env x v fun env=>argk sl vs env k) = r from hh) hr
       have h1:=cast1_ok h1 hr
       rw [envk_eq] at h1
       cases hv with
       | cons hv hvs=>
         rename_i x0 xs
         have hlen : (x0 :: xs).length = (t :: ts).length:=by
          have:=hvs.length
          simp only [List.length_cons,List.length_map] at hl hsl ⊢
          omega
         have h0 : tmps.getD t Go.undef = x0:=ht hlen 0 t x0 rfl rfl
         obtain ⟨env',h3,h4,h5⟩:=ih h2 h1 hr hvs (fun t' x' h=>by
          by_cases e : x' = x
          · subst e
            obtain rfl:=slotOf_inj h hx
            rw [Env.at_put,h0]; exact hv
          · rw [Env.at_put_ne _ e]; exact he t' x' h) (fun _ i t' y h6 h7=>ht hlen (i + 1) t' y (by simpa using h6) (by simpa using h7))
         exact ⟨env',h3,by simp [h4],h5⟩
theorem envSlot_ok {ρ : Rho} {tmps : Array Value} {env : Env} (he : EnvR ρ fi env tmps) {t : Nat} {x : Slot} (hx : envSlot fi t = some x) : VR ρ (env.at x) (tmps.getD t Go.undef):=by
 unfold envSlot at hx
 split at hx
 · cases hx
 · rename_i hb
   exact he.val t x hx (by simpa using hb)
theorem dropsk_ok {ρ : Rho} {w : World} {tmps : Array Value} {env : Env} (he : EnvR ρ fi env tmps) : ∀ {sl : List Slot} {h : Heap} {k : Heap→Res} {r : Res},dropsk sl env h k = r→(∀ x ∈ sl,∃ t,envSlot fi t = some x)→r ≠ .fail→RH P ρ h w →
 ∃ h',k h' = r∧RH P ρ h' w∧Ext ρ h w ρ h' w
 | [],h,k,r,hh,_,_,rh=>⟨h,hh,rh,.refl _ _ _⟩
 | x :: sl,h,k,r,hh,hs,hr,rh=>by
   obtain ⟨t,ht⟩:=hs x (by simp)
   obtain ⟨v,h1,h2⟩:=getk_ok (show getk (.e x) [] env (fun v=>dropIk v h fun h=>dropsk sl env h k) = r from hh) hr
   cases h1
   obtain ⟨h',h3,h4,h5⟩:=dropIk_ok h2 rh (envSlot_ok he ht)
   obtain ⟨h'',h6,h7,h8⟩:=dropsk_ok he h3 (fun y hy=>hs y (by simp [hy])) hr h4
   exact ⟨h'',h6,h7,h5.trans h8⟩
def resOne (tmps : Array Value) : ResultVar→Sem Value
 | .tmp t=>pure (tmps.getD t Go.undef)
 | .cell a t=>do loadVar t (← asAddr (tmps.getD a Go.undef))
theorem resk_ok {ρ : Rho} {h : Heap} {w : World} {tmps : Array Value} {env : Env} (he : EnvR ρ fi env tmps) (rh : RH P ρ h w) : ∀ {rs : List ResultVar} {sl : List RS} {k : List V→Res} {r : Res},ress P fi rs = some sl →
 resk sl env h k = r→r ≠ .fail→∃ l xs,k l = r∧VRs ρ l xs∧(rs.mapM (resOne tmps)).run P w = .ok xs w
 | [],sl,k,r,hs,hh,hr=>by cases hs; exact ⟨[],[],hh,.nil,rfl⟩
 | .tmp t :: rs,sl,k,r,hs,hh,hr=>by
   obtain ⟨x,hx,hs⟩:=Option.bind_eq_some_iff.1 hs
   obtain ⟨m,h2,rfl⟩:=Option.map_eq_some_iff.1 hs
   obtain ⟨v,h3,h4⟩:=getk_ok (show getk (.e x) [] env (fun v=>resk m env h fun l=>k (v :: l)) = r from hh) hr
   cases h3
   obtain ⟨l,xs,h5,h6,h7⟩:=resk_ok he rh h2 h4 hr
   refine ⟨_,_,h5,.cons (envSlot_ok he hx) h6,?_⟩
   rw [List.mapM_cons]
   simp only [resOne,Sem.run_bind,Sem.run_pure,Result.andThen_ok,h7]
 | .cell a t :: rs,sl,k,r,hs,hh,hr=>by
   obtain ⟨x,hx,hs⟩:=Option.bind_eq_some_iff.1 hs
   obtain ⟨m,h2,hs⟩:=Option.bind_eq_some_iff.1 hs
   have hv:=envSlot_ok he hx
   split at hs
   · rename_i ht
     cases hs
     obtain ⟨v,h3,h4⟩:=getk_ok (show getk (.e x) [] env (fun v=>ptrk v fun b o=>load1k h b o fun u=>resk m env h fun l=>k (u :: l)) = r from hh) hr
     cases h3
     obtain ⟨b,o,e1,h5⟩:=ptrk_ok h4 hr
     rw [e1] at hv
     obtain ⟨c,z,S,hb,e2⟩:=hv.ptr_inv
     obtain ⟨u,y,h6,h7,h8,_⟩:=load1k_ok h5 hr rh hb
     obtain ⟨l,xs,h9,h10,h11⟩:=resk_ok he rh h2 h6 hr
     refine ⟨_,_,h9,.cons h8 h10,?_⟩
     rw [List.mapM_cons]
     simp only [resOne,e2,asAddr,loadVar,Sem.run_bind,Sem.run_pure,Result.andThen_ok,run_isAgg_scal ht,Bool.false_eq_true,if_false,run_load_cell h7,h11]
   · split at hs
     · rename_i ht
       obtain ⟨n,hn,rfl⟩:=Option.map_eq_some_iff.1 hs
       obtain ⟨v,h3,h4⟩:=getk_ok (show getk (.e x) [] env (fun v=>ptrk v fun b o=>loadk h b o n fun us=>resk m env h fun l=>k (.agg n us :: l)) = r from hh) hr
       cases h3
       obtain ⟨b,o,e1,h5⟩:=ptrk_ok h4 hr
       rw [e1] at hv
       obtain ⟨c,z,S,hb,e2⟩:=hv.ptr_inv
       obtain ⟨us,ys,h6,h7,h8,h8',h8''⟩:=loadk_ok (P:=P) h5 hr rh hb
       obtain ⟨l,xs,h9,h10,h11⟩:=resk_ok he rh h2 h6 hr
       refine ⟨_,.agg ys.toArray :: xs,h9,.cons (.agg (by simpa using h8) (by simpa using h8'') (by rw [h8.length,h8'])) h10,?_⟩
       rw [List.mapM_cons]
       have h7:=h7 w.drawn
       simp only [resOne,e2,asAddr,loadVar,Sem.run_bind,Sem.run_pure,Result.andThen_ok,run_isAgg_aggr ht,if_true,run_size hn]
       erw [h7]
       simp only [Result.andThen_ok,h11]
     · cases hs
theorem soloV_ok {ρ : Rho} {l : List V} {xs : List Value} (h : VRs ρ l xs) (k : V→Res) : ∃ v,soloV l k = k v∧VR ρ v (if h : xs.toArray.size = 1 then xs.toArray[0] else .tuple xs.toArray):=by
 cases h with
 | nil=>exact ⟨_,rfl,.tup .nil⟩
 | cons h1 h2=>
   cases h2 with
   | nil=>exact ⟨_,rfl,h1⟩
   | cons h3 h4=>
     refine ⟨_,rfl,?_⟩
     rw [dif_neg (by simp)]
     exact .tup (.cons h1 (.cons h3 h4))
theorem run_results {fn : Func} {tmps : Array Value} {w : World} {xs : List Value} (h : (fn.results.toList.mapM (resOne tmps)).run P w = .ok xs w) :
 (results fn tmps).run P w = .ok (if h : xs.toArray.size = 1 then xs.toArray[0] else .tuple xs.toArray) w:=by
 unfold results
 rw [Array.mapM_eq_mapM_toList]
 simp only [Sem.run_bind,Sem.run_map]
 have e : (fun x : ResultVar=>match x with | .tmp t=>(pure (tmps.getD t Go.undef) : Sem Value) | .cell a t=>do loadVar t (← asAddr (tmps.getD a Go.undef))) = resOne tmps:=by
  funext x; cases x <;> rfl
 erw [e,h]
 rfl
theorem RH.hid {ρ : Rho} {h : Heap} {w : World} (r : RH P ρ h w) {m : Nat} {d : Option (List Deferred)} (hm : w.heap[m]? = some (.deferred d)) (d' : Option (List Deferred)) : RH P ρ h (w.putObj m (.deferred d')):=by
 have hsz : (w.putObj m (.deferred d')).heap.size = w.heap.size:=by simp [World.putObj]
 refine ⟨fun b c z S hb=>by rw [hsz]; exact r.lt b c z S hb,r.fresh,r.inj,fun b c z S g n t ro hb ht=>?_,fun b c z S x hb ht=>?_,fun p c z S b s q l hb ht=>?_⟩
 rotate_left 2
 · obtain ⟨i,Si,sn,la,ces,clk,h1,h2,h3,h4⟩:=r.itr p c z S b s q l hb ht
   have hc : c ≠ m:=by rintro rfl; rw [hm] at h1; cases h1
   have hi : i ≠ m:=by rintro rfl; rw [hm] at h3; cases h3
   exact ⟨i,Si,sn,la,ces,clk,(World.putObj_heap_other hc).trans h1,h2,(World.putObj_heap_other hi).trans h3,h4⟩
 · obtain ⟨cs,ha⟩:=r.arr b c z S g n t ro hb ht
   have hc : c ≠ m:=by
    rintro rfl
    obtain ⟨el,fz,h1,_⟩:=ha.at_
    rw [hm] at h1; cases h1
   exact ⟨cs,ha.mono (.refl _) (World.putObj_heap_other hc)⟩
 · obtain ⟨o,h1,h2,h3⟩:=r.ob b c z S x hb ht
   have hc : c ≠ m:=by
    rintro rfl
    rw [hm] at h1; cases h1
    cases x <;> exact h2
   exact ⟨o,(World.putObj_heap_other hc).trans h1,h2,h3⟩
theorem Ext.hid {ρ₀ ρ : Rho} {h₀ h : Heap} {w₀ w : World} (x : Ext ρ₀ h₀ w₀ ρ h w) {m : Nat} (hm : w₀.heap.size ≤ m) (o : Obj) : Ext ρ₀ h₀ w₀ ρ h (w.putObj m o):=
 ⟨x.le,x.nx,x.os,x.tape,x.output,by simp [World.putObj]; exact x.size,fun c hc hn=>⟨(World.putObj_heap_other (by omega)).trans (x.keep c hc hn).1,(x.keep c hc hn).2⟩,x.virt⟩
theorem peel_ok {ρ₀ ρ : Rho} {h₀ h : Heap} {w₀ : World} {Q : World→Prop} (H : ∀ w,RH P ρ h w→Ext ρ₀ h₀ w₀ ρ h w→Q w) : ∀ (ms : List Nat) (w : World),ms.Nodup→(∀ m ∈ ms,w₀.heap.size ≤ m∧w.heap[m]? = some (.deferred (some []))) →
 RH P ρ h w→Ext ρ₀ h₀ w₀ ρ h w→Peel P Q (ms.map markOf) w
 | [],w,_,_,rh,x=>H w rh x
 | m :: ms,w,hn,hms,rh,x=>by
   obtain ⟨h1,h2⟩:=hms m (by simp)
   obtain ⟨h3,h4⟩:=List.nodup_cons.1 hn
   refine ⟨m,_,rfl,run_takeDeferred h2,peel_ok H ms _ h4 (fun k hk=>?_) (rh.hid h2 none) (x.hid h1 _)⟩
   have hne : k ≠ m:=fun e=>h3 (e ▸ hk)
   exact ⟨(hms k (by simp [hk])).1,(World.putObj_heap_other hne).trans (hms k (by simp [hk])).2⟩
theorem fun_ok {cf : CF} (hcf : CFok P ng cf) {f : Nat} {p : PF} (hp : prep P ng fi f = some p.strip) {l : List V} {h : Heap} {r : Res} (hh : runF n cf p l h = r) (hr : Fine r) :
 f < 32768∧Enters P f∧∀ ρ w args,VRs ρ l args→RH P ρ h w→GlobR ρ ng→Calls P f args.toArray w (Came P ρ h w r):=by
 unfold prep at hp
 split at hp
 · rename_i fn hfn
   split at hp
   · rename_i c hc
     split at hp
     · cases hp
     · rename_i hname
       split at hp
       · rename_i hsz
         obtain ⟨hnt,hnp,hf32⟩:=hsz
         obtain ⟨pc,h1,hp⟩:=Option.bind_eq_some_iff.1 hp
         obtain ⟨as,h2,hp⟩:=Option.bind_eq_some_iff.1 hp
         obtain ⟨rs,h4,hp⟩:=Option.map_eq_some_iff.1 hp
         obtain ⟨pcode,sl,rs',its⟩:=p
         simp only [PF.strip,PF.mk.injEq] at hp
         obtain ⟨rfl,rfl,rfl,rfl⟩:=hp
         have h2 : slots fi (List.range (fn.params.size + fn.nfree)) = some ((attach P as fn.params.toList).map (·.1)):=by rw [attach_fst]; exact h2
         refine ⟨hf32,⟨fn,c,hfn,hc,by simpa using hname⟩,fun ρ w args hv rh hg=>?_⟩
         refine calls_ofM hfn hc fun cs=>?_
         obtain ⟨env,h5,h6,h7⟩:=argk_ok (tmps:=args.toArray ++ Array.replicate (fn.ntmps - args.toArray.size) Go.undef) h2 hh hr.ne hv (fun t x _=>by rw [env0_at]; exact .und _) (fun hlen i t x h8 h9=>by
          have hi : i < fn.params.size + fn.nfree:=by
           rcases Nat.lt_or_ge i (fn.params.size + fn.nfree) with h | h
           · exact h
           · rw [List.getElem?_eq_none (by simpa using h)] at h8; cases h8
          have : t = i:=by rw [List.getElem?_range hi] at h8; exact (Option.some.inj h8).symm
          subst this
          have hlt : t < args.length:=by rw [hlen]; simpa using hi
          rw [Array.getD_eq_getD_getElem?,Array.getElem?_append_left (by simpa using hlt)]
          simp [h9])
         have hlen : args.length = fn.params.size + fn.nfree:=by simpa using h6
         have hat : RfAt P fi (base f .normal) (if (rfs c).length ≤ 16∧f < 2048 then some (16 * f) else none) c:=by
          intro k hk
          split at hk
          · rename_i hlf
            cases hk
            refine ⟨rfl,⟨fn,hfn,hnt⟩,fun j x hj=>?_⟩
            have hj':=(List.getElem?_eq_some_iff.1 hj).1
            have e1 : (16 * f + j) / 16 = f:=by omega
            have e2 : (16 * f + j) % 16 = j:=by omega
            refine ⟨?_,by omega⟩
            simp only [roundAt,e1,e2,hfn,hc,Option.bind_some,hj,Option.map_some]
            rfl
          · cases hk
         have he : EnvR ρ fi env (args.toArray ++ Array.replicate (fn.ntmps - args.toArray.size) Go.undef):=⟨by simp; omega,fun t x h8 _=>h7 t x h8⟩
         refine (code_ok (b:=base f .normal) (cs:=cs) (a:={ tmps:=args.toArray ++ Array.replicate (fn.ntmps - args.toArray.size) Go.undef,defers:=[] }) (mk:=true) hcf (fun e=>by cases e) hat h1 h5 hr he rh hg).mono ?_
         have fin : ∀ {a : Act} {w' : World} {env' : Env} {h' : Heap} {ρ' : Rho},EnvR ρ' fi env' a.tmps→RH P ρ' h' w'→Ext ρ h w ρ' h' w'→Le (dropsk (itsOf P fi c) env' h' fun h'=>resk rs env' h' fun l=>soloV l fun v=>.ret v h') r →
          ∃ v,(results fn a.tmps).run P w' = .ok v w'∧Came P ρ h w r (.returned v) w':=by
          intro a w' env' h0 ρ' e1 e2 e3 e4
          obtain ⟨r',hr'⟩ : ∃ r',(dropsk (itsOf P fi c) env' h0 fun h'=>resk rs env' h' fun l=>soloV l fun v=>.ret v h') = r':=⟨_,rfl⟩
          rw [hr'] at e4
          have hle:=e4
          obtain ⟨h',e4,e2,e3'⟩:=dropsk_ok e1 hr' (fun x hx=>itsOf_ok hx) (hr.le hle).ne e2
          have e3:=e3.trans e3'
          obtain ⟨l',xs,e5,e6,e9⟩:=resk_ok e1 e2 h4 e4 (hr.le hle).ne
          obtain ⟨v,e7,e8⟩:=soloV_ok e6 (fun v=>.ret v h')
          refine ⟨_,run_results e9,?_⟩
          rw [e7] at e5
          exact Came.le (q:=.ret v h') ⟨ρ',_,rfl,e8,e2,e3⟩ ((Le.of_eq e5).trans hle)
         rintro e a cs' w' ⟨rfl,x,env',h',ρ',e1,e2,e3,e4,e5,ms,hd,hn,hms⟩
         have hd : a.defers = ms.map markOf:=by rw [hd]; simp
         cases e2 with
         | normal=>exact ⟨rfl,by rw [hd]; exact peel_ok (fun w2 r2 x2=>fin e3 r2 x2 e1) ms w' hn (fun m hm=>⟨(hms m hm).1,(hms m hm).2.1⟩) e4 e5⟩
         | ret=>exact ⟨rfl,by rw [hd]; exact peel_ok (fun w2 r2 x2=>fin e3 r2 x2 e1) ms w' hn (fun m hm=>⟨(hms m hm).1,(hms m hm).2.1⟩) e4 e5⟩
         | exit i=>exact absurd (e1 _ rfl) hr
         | pan hv=>
           refine ⟨rfl,?_⟩
           rw [hd]
           exact peel_ok (fun w2 r2 x2=>Came.le (q:=.pan _ h') ⟨ρ',_,rfl,hv,r2,x2⟩ e1) ms w' hn (fun m hm=>⟨(hms m hm).1,(hms m hm).2.1⟩) e4 e5
       · cases hp
   · cases hp
 · cases hp
theorem CallOk.of {f : Nat} {F : List V→Heap→Res} (h : ∀ l h r,F l h = r→Fine r→f < 32768∧Enters P f∧∀ ρ w args,VRs ρ l args→RH P ρ h w→GlobR ρ ng→Calls P f args.toArray w (Came P ρ h w r)) :
 f < 32768→CallOk P ng f F:=fun hf=>⟨fun _ l h' r hh hr=>(h l h' r hh hr).2,fun h'=>absurd hf (by omega)⟩
theorem CallOk.fn {f : Nat} {F : List V→Heap→Res} (h : FnOk P ng f F) (hf : f < 32768) : CallOk P ng f F:=⟨fun _=>h,fun h'=>absurd hf (by omega)⟩
theorem CallOk.rn {f : Nat} {F : List V→Heap→Res} (h : RnOk P ng (f - 32768) F) (hf : 32768 ≤ f) : CallOk P ng f F:=⟨fun h'=>absurd hf (by omega),fun _=>h⟩
theorem CallOk.none {f : Nat} {F : List V→Heap→Res} (h : ∀ l h,F l h = .fail) : CallOk P ng f F:=
 ⟨fun _ l h' r hh hr=>absurd ((h l h').symm.trans hh).symm hr.ne,fun _ l h' r hh hr=>absurd ((h l h').symm.trans hh).symm hr.ne⟩
theorem POok.of_run {f : Nat} {p : PF} {g : Nat→CF→List V→Heap→Res} (h1 : prep P ng fi f = some p.strip) (h2 : ∀ m cf args h,runF m cf p args h = g m cf args h) : POok P ng f (.sh g):=by
 intro m cf hcf
 have h3 : ∀ l h r,g m cf l h = r→Fine r→f < 32768∧Enters P f∧∀ ρ w args,VRs ρ l args→RH P ρ h w→GlobR ρ ng→Calls P f args.toArray w (Came P ρ h w r):=
  fun l h r hh hr=>fun_ok hcf h1 ((h2 m cf l h).trans hh) hr
 refine ⟨fun _ l h r hh hr=>(h3 l h r hh hr).2,fun hf l h r hh hr=>absurd (h3 l h r hh hr).1 (by omega)⟩
theorem ftk_eq (t : FT) (f : Fid) (k : PF→Res) (ko : (List V→Heap→Res)→Res) (ks : (Nat→CF→List V→Heap→Res)→Res) :
 ftk t f k ko ks = match t.get f with | .no=>.fail | .fn p=>k p | .orc g=>ko g | .sh g=>ks g:=by
 obtain ⟨a,b,c,d⟩:=f
 show PO.rec (motive:=fun _=>Res) .fail k ko ks (getP d (getP1 c (getP2 b (getP3 a t)))) = _
 rw [getP3_eq,getP2_eq,getP1_eq,getP_eq]
 show _ = match (((N.get t a).get b).get c).get d with | .no=>Res.fail | .fn p=>k p | .orc g=>ko g | .sh g=>ks g
 cases (((N.get t a).get b).get c).get d <;> rfl
theorem call_ok {tab : FT} (ht : TabOk P ng tab) : ∀ depth,CFok P ng (call tab n depth)
 | 0=>fun _=>.none fun _ _=>rfl
 | d + 1=>fun fid=>by
   have h4:=ht fid
   have e : ∀ l h,call tab n (d + 1) fid l h = match tab.get fid with | .no=>.fail | .fn p=>runF n (call tab n d) p l h | .orc g=>g l h | .sh g=>g n (call tab n d) l h:=fun l h=>
    ftk_eq tab fid (fun p=>runF n (call tab n d) p l h) (fun g=>g l h) (fun g=>g n (call tab n d) l h)
   cases hp : tab.get fid with
   | no=>exact .none fun l h=>by rw [e,hp]
   | fn p=>
     rw [hp] at h4
     obtain ⟨fi,h3⟩:=h4
     have e' : call tab n (d + 1) fid = fun l h=>runF n (call tab n d) p l h:=by funext l h; rw [e,hp]
     rw [e']
     exact ⟨fun _ l h r hh hr=>(fun_ok (call_ok ht d) h3 hh hr).2,fun hf l h r hh hr=>absurd (fun_ok (call_ok ht d) h3 hh hr).1 (by omega)⟩
   | orc g=>
     rw [hp] at h4
     have e' : call tab n (d + 1) fid = g:=by funext l h; rw [e,hp]
     rw [e']
     exact h4
   | sh g=>
     rw [hp] at h4
     have e' : call tab n (d + 1) fid = g n (call tab n d):=by funext l h; rw [e,hp]
     rw [e']
     exact h4 _ _ (call_ok ht d)
end ok
end Go.Ev

/- EVALUATOR, 29: the table of functions; a call out of a memory that is nearly empty. -/
namespace Go.Ev
variable {P : Program}
def FT.put (t : FT) (f : Fid) (p : PO) : FT:=N.set t f.a (N.set (N.get t f.a) f.b (N.set (N.get (N.get t f.a) f.b) f.c (N.set (N.get (N.get (N.get t f.a) f.b) f.c) f.d p)))
def FT.none : FT:=N.all (N.all (N.all (N.all .no)))
def FT.of : List (Fid × PO)→FT
 | []=>FT.none
 | (f,p) :: l=>(FT.of l).put f p
theorem N.all_get {α : Type} (v : α) (d : D) : (N.all v).get d = v:=by cases d <;> rfl
theorem FT.get_put (t : FT) (f g : Fid) (p : PO) : (g = f∧(t.put f p).get g = p) ∨ (t.put f p).get g = t.get g:=by
 obtain ⟨a,b,c,d⟩:=f
 obtain ⟨a',b',c',d'⟩:=g
 simp only [FT.put,FT.get]
 by_cases h1 : a' = a
 · subst h1
   rw [N.get_set]
   by_cases h2 : b' = b
   · subst h2
     rw [N.get_set]
     by_cases h3 : c' = c
     · subst h3
       rw [N.get_set]
       by_cases h4 : d' = d
       · subst h4; rw [N.get_set]; exact .inl ⟨rfl,rfl⟩
       · rw [N.get_set_ne _ h4]; exact .inr rfl
     · rw [N.get_set_ne _ h3]; exact .inr rfl
   · rw [N.get_set_ne _ h2]; exact .inr rfl
 · rw [N.get_set_ne _ h1]; exact .inr rfl
theorem FT.of_ok {ng : Nat} {f : Fid} : ∀ {l : List (Fid × PO)},(∀ x ∈ l,POok P ng x.1.val x.2)→POok P ng f.val ((FT.of l).get f)
 | [],_=>by
   simp only [FT.of,FT.none,FT.get,N.all_get]
   exact trivial
 | (g,q) :: l,h=>by
   simp only [FT.of]
   rcases FT.get_put (FT.of l) g f q with ⟨rfl,h1⟩ | h1
   · rw [h1]; exact h (f,q) (by simp)
   · rw [h1]; exact FT.of_ok fun x hx=>h x (List.mem_cons_of_mem _ hx)
theorem TabOk.of {ng : Nat} {tab : FT} {l : List (Fid × PO)} (ht : tab = FT.of l) (h : ∀ x ∈ l,POok P ng x.1.val x.2) : TabOk P ng tab:=by
 intro f
 rw [ht]
 exact FT.of_ok h
inductive OkL (P : Program) (ng : Nat) : List (Fid × PO)→Prop where
 | nil : OkL P ng []
 | cons {f : Fid} {p : PO} {l : List (Fid × PO)} (h : POok P ng f.val p) (hs : OkL P ng l) : OkL P ng ((f,p) :: l)
theorem OkL.all {ng : Nat} {l : List (Fid × PO)} (h : OkL P ng l) : ∀ x ∈ l,POok P ng x.1.val x.2:=by
 induction h with
 | nil=>intro x hx; cases hx
 | cons h _ ih=>
   intro x hx
   rcases List.mem_cons.1 hx with rfl | hx
   · exact h
   · exact ih x hx
theorem TabOk.of2 {ng : Nat} {tab : FT} {l : List (Fid × PO)} (ht : tab = FT.of l) (h : OkL P ng l) : TabOk P ng tab:=.of ht h.all
theorem TabOk.put {ng : Nat} {tab : FT} {f : Fid} {p : PO} (ok : TabOk P ng tab) (h : POok P ng f.val p) : TabOk P ng (tab.put f p):=by
 intro g
 rcases FT.get_put tab f g p with ⟨rfl,h1⟩ | h1
 · rw [h1]; exact h
 · rw [h1]; exact ok g
def yesV : V→Bool
 | .bool b=>b
 | _=>false
noncomputable def yes (r : Res) : Bool:=Res.rec (motive:=fun _=>Bool) false (fun _ _ _=>false) (fun v _=>yesV v) (fun _ _=>false) (fun _ _ a b=>Bool.rec (motive:=fun _=>Bool) false b a) r
theorem yes_alt {a b : Res} (h : yes (.alt a b) = true) : yes a = true∧yes b = true:=by
 have h : Bool.rec (motive:=fun _=>Bool) false (yes b) (yes a) = true:=h
 cases ha : yes a with
 | true=>rw [ha] at h; exact ⟨rfl,h⟩
 | false=>rw [ha] at h; cases h
theorem yes_fine : ∀ {r : Res},yes r = true→Fine r
 | .alt a b,h=>fun e=>e.elim (yes_fine (yes_alt h).1) (yes_fine (yes_alt h).2)
 | .fail,h=>by cases h
 | .done _ _ _,h=>by cases h
 | .ret _ _,h=>fun e=>by cases e
 | .pan _ _,h=>by cases h
theorem yes_leaf {x : Res} : ∀ {r : Res},yes r = true→Leaf x r→yes x = true
 | .alt a b,h,e=>e.elim (yes_leaf (yes_alt h).1) (yes_leaf (yes_alt h).2)
 | .fail,h,e=>by cases h
 | .done _ _ _,h,e=>by cases h
 | .ret _ _,h,e=>by cases e; exact h
 | .pan _ _,h,e=>by cases h
theorem yes_came {ρ : Rho} {h : Heap} {w : World} {e : Ending} {w' : World} {r : Res} (hy : yes r = true) (c : Came P ρ h w r e w') : ∃ h',Came P ρ h w (.ret (.bool true) h') e w':=by
 obtain ⟨x,h1,h2,h3⟩:=c.leaf
 have h4:=yes_leaf hy h1
 cases x with
 | ret v h'=>
   have h4 : yesV v = true:=h4
   cases v with
   | bool b=>
     have : b = true:=h4
     subst this
     exact ⟨h',h3⟩
   | _=>cases h4
 | alt a b=>exact h2.elim
 | _=>cases h4
def row1 : List V→T→Nat→Option T
 | [],t,_=>some t
 | v :: l,t,i=>(t.set i [v]).bind fun t'=>row1 l t' (i + 1)
end Go.Ev

/- EVALUATOR: the words on values that are known: rules for simp. -/
namespace Go.Ev
@[simp] theorem intk_int (k : IntKind) (n : Int) (f : IntKind→Int→Res) : intk (.int k n) f = f k n:=rfl
@[simp] theorem boolk_bool (b : Bool) (f : Bool→Res) : boolk (.bool b) f = f b:=rfl
@[simp] theorem strk_str (l n : Nat) (f : Nat→Nat→Res) : strk (.str l n) f = f l n:=rfl
@[simp] theorem ptrk_ptr (b : Bid) (o : Nat) (f : Bid→Nat→Res) : ptrk (.ptr b o) f = f b o:=rfl
@[simp] theorem slk_slice (b : Bid) (o l : Nat) (c : Option Nat) (s : Nat) (f : Bid→Nat→Nat→Option Nat→Nat→Res) (z m : Res) : slk (.slice b o l c s) f z m = f b o l c s:=rfl
@[simp] theorem slk_nils (f : Bid→Nat→Nat→Option Nat→Nat→Res) (z m : Res) : slk .nils f z m = z:=rfl
@[simp] theorem slk_emp (f : Bid→Nat→Nat→Option Nat→Nat→Res) (z m : Res) : slk .emp f z m = m:=rfl
@[simp] theorem aggk_agg (n : Nat) (l : List V) (f : Nat→List V→Res) : aggk (.agg n l) f = f n l:=rfl
@[simp] theorem tupk_tup (l : List V) (f : List V→Res) : tupk (.tup l) f = f l:=rfl
@[simp] theorem fnk_func (n : Nat) (l : List V) (f : Nat→List V→Res) : fnk (.func n l) f = f n l:=rfl
@[simp] theorem lenk_slice (b : Bid) (o l : Nat) (c : Option Nat) (s : Nat) (f : Nat→Res) : lenk (.slice b o l c s) f = f l:=rfl
@[simp] theorem lenk_nils (f : Nat→Res) : lenk .nils f = f 0:=rfl
@[simp] theorem lenk_emp (f : Nat→Res) : lenk .emp f = f 0:=rfl
@[simp] theorem castB_bool (b : Bool) (f : Bool→Res) : castB (.bool b) f = f b:=rfl
@[simp] theorem castI_int (k : IntKind) (n : Int) (f : Int→Res) : castI k (.int k n) f = f n:=by
 show ksel k k (f n) = f n
 rw [ksel_self]
@[simp] theorem castF_int (k : IntKind) (n : Int) (f : Int→Res) : castF k (.int k n) f = f n:=by
 show ksel k k (forceI n f) = f n
 rw [ksel_self,forceI_eq]
@[simp] theorem castS_str (l n : Nat) (f : Nat→Nat→Res) : castS (.str l n) f = f l n:=rfl
@[simp] theorem unc_cons (v : V) (l : List V) (f : V→List V→Res) : unc (v :: l) f = f v l:=rfl
@[simp] theorem nilk'_nil (r : Res) : nilk' [] r = r:=rfl
@[simp] theorem natk_ofNat (n : Nat) (f : Nat→Res) : natk (.ofNat n) f = f n:=rfl
@[simp] theorem natk_cast (n : Nat) (f : Nat→Res) : natk (n : Int) f = f n:=rfl
@[simp] theorem forceI_law (n : Int) (f : Int→Res) : forceI n f = f n:=forceI_eq n f
@[simp] theorem ifk_true (x y : Res) : ifk true x y = x:=rfl
@[simp] theorem ifk_false (x y : Res) : ifk false x y = y:=rfl
@[simp] theorem backk_ret (v : V) (h : Heap) (k kp : V→Heap→Res) : backk (.ret v h) k kp = k v h:=rfl
@[simp] theorem backk_pan (v : V) (h : Heap) (k kp : V→Heap→Res) : backk (.pan v h) k kp = kp v h:=rfl
@[simp] theorem contk_done (x : Ex) (vs : List V) (h : Heap) (k : Ex→List V→Heap→Res) : contk (.done x vs h) k = k x vs h:=rfl
@[simp] theorem nork_normal (a b : Res) : nork .normal a b = a:=rfl
@[simp] theorem nork_ret (a b : Res) : nork .ret a b = b:=rfl
@[simp] theorem nork_exit (i : Nat) (a b : Res) : nork (.exit i) a b = b:=rfl
@[simp] theorem endk_normal (a : Res) (p : V→Res) : endk .normal a p = a:=rfl
@[simp] theorem endk_ret (a : Res) (p : V→Res) : endk .ret a p = a:=rfl
@[simp] theorem grdk_bool (b : Bool) (k : Bool→Res) (z : Res) : grdk (.bool b) k z = k b:=rfl
@[simp] theorem grdk_skip (k : Bool→Res) (z : Res) : grdk .skip k z = z:=rfl
@[simp] theorem pickv_true (a b : V) : pickv true a b = a:=rfl
@[simp] theorem pickv_false (a b : V) : pickv false a b = b:=rfl
@[simp] theorem wantb_true (t : Bool) : wantb true t = t:=rfl
@[simp] theorem wantb_false (t : Bool) : wantb false t = !t:=rfl
@[simp] theorem optk_some (n : Nat) (k : Nat→Res) (z : Res) : optk (some n) k z = k n:=rfl
@[simp] theorem optk_none (k : Nat→Res) (z : Res) : optk none k z = z:=rfl
@[simp] theorem zk_zero (x y : Res) : zk 0 x y = x:=rfl
@[simp] theorem bndk_none (z : Nat) (k : Nat→Res) : bndk none z k = k z:=rfl
@[simp] theorem bndk_int (kd : IntKind) (n z : Nat) (k : Nat→Res) : bndk (some (.int kd (.ofNat n))) z k = k n:=rfl
@[simp] theorem bndk_cast (kd : IntKind) (n z : Nat) (k : Nat→Res) : bndk (some (.int kd (n : Int))) z k = k n:=rfl
@[simp] theorem appk_law (l m : List V) (k : List V→Res) : appk l m k = k (l ++ m):=appk_eq l m k
theorem lpk_succ (body : (List V→Heap→Res)→List V→Heap→Res) (n : Nat) (vs : List V) (h : Heap) : lpk body (n + 1) vs h = body (lpk body n) vs h:=rfl
theorem ilt_nat (a b : Nat) : ilt (.ofNat a) (.ofNat b) = decide (a < b):=by rw [ilt_eq]; simp
theorem ieq_nat (a b : Nat) : ieq (.ofNat a) (.ofNat b) = decide (a = b):=by rw [ieq_eq,Bool.eq_iff_iff]; simp; omega
theorem wrapv_small (k : IntKind) (m : Nat) (h : m ≤ kmax k) : wrapv k (.ofNat m) = .ofNat m:=by
 rw [wrapv_eq]; exact wrap_small k _ (by simp only [Int.ofNat_eq_natCast]; omega) (by simp only [Int.ofNat_eq_natCast]; omega)
end Go.Ev

/- EVALUATOR: slices of one-cell elements on a memory that is known. -/
namespace Go.Ev
theorem blt_of {a b : Nat} (h : a < b) : Nat.blt a b = true:=by simpa [Nat.blt_eq] using h
theorem ble_of {a b : Nat} (h : a ≤ b) : Nat.ble a b = true:=Nat.ble_eq_true_of_le h
theorem ble_not {a b : Nat} (h : ¬ a ≤ b) : Nat.ble a b = false:=by
 cases e : Nat.ble a b
 · rfl
 · exact absurd (Nat.le_of_ble_eq_true e) h
theorem beq_of {a b : Nat} (h : a = b) : Nat.beq a b = true:=by subst h; exact Nat.beq_refl a
theorem beq_not {a b : Nat} (h : a ≠ b) : Nat.beq a b = false:=by
 cases e : Nat.beq a b
 · rfl
 · exact absurd (Nat.eq_of_beq_eq_true e) h
structure Up (h h' : Heap) : Prop where
 nx : h.nx.val ≤ h'.nx.val
 get : ∀ b : Bid,b.val < h.nx.val→h'.t.get b = h.t.get b
theorem Up.refl (h : Heap) : Up h h:=⟨Nat.le_refl _,fun _ _=>rfl⟩
theorem Up.trans {h h' h'' : Heap} (a : Up h h') (b : Up h' h'') : Up h h'':=⟨Nat.le_trans a.nx b.nx,fun x hx=>(b.get x (Nat.lt_of_lt_of_le hx a.nx)).trans (a.get x hx)⟩
theorem New.up {h h' : Heap} (n : New h h') : Up h h':=⟨by rw [n.nx,Bid.nxt_val]; omega,fun b hb=>n.get b (by rintro rfl; omega)⟩
theorem New.lt {h h' : Heap} (n : New h h') : h.nx.val < h'.nx.val:=by rw [n.nx,Bid.nxt_val]; omega
inductive IsS (h : Heap) : V→List V→Prop where
 | nils : IsS h .nils []
 | emp : IsS h .emp []
 | sl (b : Bid) (o : Nat) (c : Option Nat) (op : Bool) (cs l : List V) (row : RowO op (h.t.get b) 1 cs) (fit : o + l.length ≤ cs.length) (is : (cs.drop o).take l.length = l)
    (cap : ∀ n,c = some n→l.length ≤ n∧o + n ≤ cs.length) : IsS h (.slice b o l.length c 1) l
theorem IsS.len {h : Heap} {v : V} {l : List V} (w : IsS h v l) (k : Nat→Res) : lenk v k = k l.length:=by cases w <;> rfl
theorem IsS.snk {h : Heap} {v : V} {l : List V} (w : IsS h v l) (hl : l ≠ []) (k : Bool→Res) : Go.Ev.snk v k = k false:=by cases w <;> first | rfl | exact absurd rfl hl
theorem IsS.at_ {h : Heap} {v : V} {l : List V} (w : IsS h v l) {i : Nat} (hi : i < l.length) : ∃ b o n c s,v = .slice b o n c s∧i < n∧∀ k,load1k h b (Nat.add o i) k = k l[i]:=by
 cases w with
 | nils=>simp at hi
 | emp=>simp at hi
 | sl b o c op cs _ row fit is cap=>
   refine ⟨b,o,_,c,1,rfl,hi,fun k=>load1k_law row ?_ k⟩
   show cs[o + i]? = _
   have : ((cs.drop o).take l.length)[i]? = l[i]?:=by rw [is]
   rw [List.getElem?_take_of_lt hi,List.getElem?_drop] at this
   rw [this,List.getElem?_eq_getElem hi]
theorem IsS.up {h h' : Heap} {v : V} {l : List V} (w : IsS h v l) (hb : ∀ b o n c s,v = .slice b o n c s→h'.t.get b = h.t.get b) : IsS h' v l:=by
 cases w with
 | nils=>exact .nils
 | emp=>exact .emp
 | sl b o c op cs _ row fit is cap=>exact .sl b o c op cs l (by rw [hb b o _ c 1 rfl]; exact row) fit is cap
def Low (v : V) (n : Nat) : Prop:=∀ b o l c s,v = .slice b o l c s→b.val < n
theorem Low.mono {v : V} {m n : Nat} (h : Low v m) (hm : m ≤ n) : Low v n:=fun b o l c s e=>Nat.lt_of_lt_of_le (h b o l c s e) hm
theorem IsS.src {h : Heap} {v : V} {l : List V} (w : IsS h v l) (k : Nat→List V→Res) : srck 1 v h k = k l.length l:=by
 cases w with
 | nils=>rfl
 | emp=>rfl
 | sl b o c op cs _ row fit is cap=>
   show loadk h b o (l.length * 1) (fun cs=>k l.length cs) = _
   rw [Nat.mul_one,loadk_law row fit,is]
inductive Own (h : Heap) (lo : Nat) : V→List V→Prop where
 | nils : Own h lo .nils []
 | sl (b : Bid) (c : Option Nat) (l : List V) (blo : lo ≤ b.val) (bhi : b.val < h.nx.val) (row : Row (h.t.get b) 1 l) (cap : ∀ n,c = some n→n = l.length) : Own h lo (.slice b 0 l.length c 1) l
theorem Own.isS {h : Heap} {lo : Nat} {v : V} {l : List V} (w : Own h lo v l) : IsS h v l:=by
 cases w with
 | nils=>exact .nils
 | sl b c _ blo bhi row cap=>exact .sl b 0 c false l l row (by omega) (by simp) fun n hn=>by have:=cap n hn; omega
theorem Own.low {h : Heap} {lo : Nat} {v : V} {l : List V} (w : Own h lo v l) : Low v h.nx.val:=by
 intro b o n c s e
 cases w with
 | nils=>cases e
 | sl b c _ blo bhi row cap=>cases e; exact bhi
theorem Own.mono {h : Heap} {lo lo' : Nat} {v : V} {l : List V} (w : Own h lo v l) (hl : lo' ≤ lo) : Own h lo' v l:=by
 cases w with
 | nils=>exact .nils
 | sl b c _ blo bhi row cap=>exact .sl b c l (by omega) bhi row cap
theorem Own.up {h h' : Heap} {lo : Nat} {v : V} {l : List V} (w : Own h lo v l) (u : Up h h') : Own h' lo v l:=by
 cases w with
 | nils=>exact .nils
 | sl b c _ blo bhi row cap=>exact .sl b c l blo (Nat.lt_of_lt_of_le bhi u.nx) (by rw [u.get b bhi]; exact row) cap
structure UpTo (n : Nat) (h h' : Heap) : Prop where
 nx : h.nx.val ≤ h'.nx.val
 get : ∀ b : Bid,b.val < n→h'.t.get b = h.t.get b
theorem Up.to {h h' : Heap} {n : Nat} (u : Up h h') (hn : n ≤ h.nx.val) : UpTo n h h':=⟨u.nx,fun b hb=>u.get b (by omega)⟩
theorem UpTo.up {h h' : Heap} (u : UpTo h.nx.val h h') : Up h h':=⟨u.nx,u.get⟩
theorem UpTo.trans {n : Nat} {h h' h'' : Heap} (a : UpTo n h h') (b : UpTo n h' h'') : UpTo n h h'':=⟨Nat.le_trans a.nx b.nx,fun x hx=>(b.get x hx).trans (a.get x hx)⟩
theorem UpTo.refl (n : Nat) (h : Heap) : UpTo n h h:=⟨Nat.le_refl _,fun _ _=>rfl⟩
theorem UpTo.mono {n m : Nat} {h h' : Heap} (a : UpTo n h h') (hm : m ≤ n) : UpTo m h h':=⟨a.nx,fun b hb=>a.get b (by omega)⟩
theorem row_ext {op : Bool} {x : Blk} {g : Nat} {l m : List V} (a : RowO op x g l) (e : l = m) : RowO op x g m:=e ▸ a
end Go.Ev

/- EVALUATOR: data as trees: what lies in a memory, as deep as it goes. -/
namespace Go.Ev
inductive Tr where
 | i (k : IntKind) (n : Int)
 | s (l n : Nat)
 | b (x : Bool)
 | sl (g : Nat) (rows : List (List Tr))
mutual
def Tr.wt : Tr→Nat
 | .i _ _=>0
 | .s l _=>l
 | .b _=>0
 | .sl _ rows=>wtRows rows
def wtRow : List Tr→Nat
 | []=>0
 | t :: r=>t.wt + wtRow r
def wtRows : List (List Tr)→Nat
 | []=>0
 | r :: rs=>1 + wtRow r + wtRows rs
end
theorem wtRows_mem {r : List Tr} : ∀ {rs : List (List Tr)},r ∈ rs→1 + wtRow r ≤ wtRows rs
 | x :: rs,h=>by
   rw [wtRows]
   rcases List.mem_cons.1 h with rfl | h
   · omega
   · have:=wtRows_mem h; omega
theorem wtRows_len : ∀ (rs : List (List Tr)),rs.length ≤ wtRows rs
 | []=>by simp
 | r :: rs=>by rw [wtRows,List.length_cons]; have:=wtRows_len rs; omega
inductive CellA (h : Heap) (A : Nat→Prop) : Tr→V→Prop where
 | i (k : IntKind) (n : Int) : CellA h A (.i k n) (.int k n)
 | s (l n : Nat) (hn : n < 256 ^ l) : CellA h A (.s l n) (.str l n)
 | b (x : Bool) : CellA h A (.b x) (.bool x)
 | nils (g : Nat) : CellA h A (.sl g []) .nils
 | emp (g : Nat) : CellA h A (.sl g []) .emp
 | sl (g : Nat) (rows : List (List Tr)) (b : Bid) (o : Nat) (c : Option Nat) (op : Bool) (cs : List V) (hb : A b.val) (row : RowO op (h.t.get b) g cs) (fit : o + rows.length * g ≤ cs.length)
    (wid : ∀ r ∈ rows,r.length = g)
    (hs : ∀ (i : Nat) (r : List Tr) (j : Nat) (t : Tr) (v : V),rows[i]? = some r→r[j]? = some t→cs[o + i * g + j]? = some v→CellA h A t v) : CellA h A (.sl g rows) (.slice b o rows.length c g)
inductive RowA (h : Heap) (A : Nat→Prop) : List Tr→List V→Prop where
 | nil : RowA h A [] []
 | cons {t : Tr} {v : V} {r : List Tr} {l : List V} (ht : CellA h A t v) (hr : RowA h A r l) : RowA h A (t :: r) (v :: l)
abbrev CellR (h : Heap) (N : Nat):=CellA h (· < N)
abbrev RowR (h : Heap) (N : Nat):=RowA h (· < N)
theorem RowA.len {h : Heap} {A : Nat→Prop} {r : List Tr} {l : List V} (w : RowA h A r l) : l.length = r.length:=by
 induction w with
 | nil=>rfl
 | cons _ _ ih=>simp [ih]
theorem RowA.at_ {h : Heap} {A : Nat→Prop} {r : List Tr} {l : List V} (w : RowA h A r l) : ∀ {j : Nat} {t : Tr} {v : V},r[j]? = some t→l[j]? = some v→CellA h A t v:=by
 induction w with
 | nil=>intro j t v h; simp at h
 | cons ht _ ih=>
   intro j t v h1 h2
   cases j with
   | zero=>simp at h1 h2; subst h1; subst h2; exact ht
   | succ j=>exact ih (by simpa using h1) (by simpa using h2)
theorem RowA.of {h : Heap} {A : Nat→Prop} : ∀ {r : List Tr} {l : List V},r.length = l.length→(∀ (j : Nat) (t : Tr) (v : V),r[j]? = some t→l[j]? = some v→CellA h A t v)→RowA h A r l
 | [],[],_,_=>.nil
 | t :: r,v :: l,hl,w=>.cons (w 0 t v rfl rfl) (RowA.of (by simpa using hl) fun j t v h1 h2=>w (j + 1) t v (by simpa using h1) (by simpa using h2))
 | [],_ :: _,hl,_=>by simp at hl
 | _ :: _,[],hl,_=>by simp at hl
theorem CellA.mv {h h' : Heap} {A A' : Nat→Prop} (hA : ∀ b,A b→A' b) (u : ∀ b : Bid,A b.val→h'.t.get b = h.t.get b) {t : Tr} {v : V} (w : CellA h A t v) : CellA h' A' t v:=by
 induction w with
 | i k n=>exact .i k n
 | s l n hn=>exact .s l n hn
 | b x=>exact .b x
 | nils g=>exact .nils g
 | emp g=>exact .emp g
 | sl g rows b o c op cs hb row fit wid hs ih=>exact .sl g rows b o c op cs (hA _ hb) (by rw [u b hb]; exact row) fit wid fun i r j t v h1 h2 h3=>ih i r j t v h1 h2 h3
theorem RowA.mv {h h' : Heap} {A A' : Nat→Prop} (hA : ∀ b,A b→A' b) (u : ∀ b : Bid,A b.val→h'.t.get b = h.t.get b) {r : List Tr} {l : List V} (w : RowA h A r l) : RowA h' A' r l:=by
 induction w with
 | nil=>exact .nil
 | cons ht _ ih=>exact .cons (ht.mv hA u) ih
theorem CellA.up {h h' : Heap} {N N' : Nat} (hN : N ≤ N') (u : ∀ b : Bid,b.val < N→h'.t.get b = h.t.get b) {t : Tr} {v : V} (w : CellR h N t v) : CellR h' N' t v:=w.mv (fun _ hb=>Nat.lt_of_lt_of_le hb hN) u
theorem RowA.up {h h' : Heap} {N N' : Nat} (hN : N ≤ N') (u : ∀ b : Bid,b.val < N→h'.t.get b = h.t.get b) {r : List Tr} {l : List V} (w : RowR h N r l) : RowR h' N' r l:=w.mv (fun _ hb=>Nat.lt_of_lt_of_le hb hN) u
theorem CellA.to {h h' : Heap} {N : Nat} (hN : N ≤ h.nx.val) (u : Up h h') {t : Tr} {v : V} (w : CellR h N t v) : CellR h' N t v:=w.up (Nat.le_refl _) fun b hb=>u.get b (Nat.lt_of_lt_of_le hb hN)
theorem RowA.to {h h' : Heap} {N : Nat} (hN : N ≤ h.nx.val) (u : Up h h') {r : List Tr} {l : List V} (w : RowR h N r l) : RowR h' N r l:=w.up (Nat.le_refl _) fun b hb=>u.get b (Nat.lt_of_lt_of_le hb hN)
theorem CellA.lenk {h : Heap} {A : Nat→Prop} {g : Nat} {rows : List (List Tr)} {v : V} (w : CellA h A (.sl g rows) v) (k : Nat→Res) : lenk v k = k rows.length:=by cases w <;> rfl
theorem CellA.row {h : Heap} {A : Nat→Prop} {g : Nat} {rows : List (List Tr)} {v : V} (w : CellA h A (.sl g rows) v) {i : Nat} (hi : i < rows.length) :
 ∃ b o c l,v = .slice b o rows.length c g∧RowA h A rows[i] l∧l.length = g∧rows[i].length = g∧(∀ k,loadk h b (o + i * g) g k = k l)∧∀ (j : Nat) (x : V),l[j]? = some x→∀ k,load1k h b (o + i * g + j) k = k x:=by
 cases w with
 | nils=>simp at hi
 | emp=>simp at hi
 | sl _ _ b o c op cs hb row fit wid hs=>
   have hfit : o + i * g + g ≤ cs.length:=by
    have : (i + 1) * g ≤ rows.length * g:=Nat.mul_le_mul_right g hi
    rw [Nat.succ_mul] at this; omega
   have hw:=wid rows[i] (List.getElem_mem hi)
   have hl : ((cs.drop (o + i * g)).take g).length = g:=by simp; omega
   have hat : ∀ (j : Nat) (x : V),((cs.drop (o + i * g)).take g)[j]? = some x→cs[o + i * g + j]? = some x:=fun j x hx=>by
    have hj : j < g:=by have:=(List.getElem?_eq_some_iff.1 hx).1; omega
    rw [List.getElem?_take_of_lt hj,List.getElem?_drop] at hx
    exact hx
   refine ⟨b,o,c,(cs.drop (o + i * g)).take g,rfl,.of (by rw [hl,hw]) fun j t v h1 h2=>hs i rows[i] j t v (List.getElem?_eq_getElem hi) h1 (hat j v h2),hl,hw,fun k=>loadk_law row hfit k,fun j x hx k=>load1k_law row (hat j x hx) k⟩
theorem CellA.row' {h : Heap} {A : Nat→Prop} {g : Nat} {rows : List (List Tr)} {v : V} (w : CellA h A (.sl g rows) v) {i : Nat} (hi : i < rows.length) :
 ∃ b o c l,v = .slice b o rows.length c g∧RowA h A rows[i] l∧l.length = g∧(∀ (j : Nat) (x : V),l[j]? = some x→∀ k,load1k h b (o + i * g + j) k = k x)∧∀ j m,j + m ≤ g→∀ k,loadk h b (o + i * g + j) m k = k ((l.drop j).take m):=by
 cases w with
 | nils=>simp at hi
 | emp=>simp at hi
 | sl _ _ b o c op cs hb row fit wid hs=>
   have hfit : o + i * g + g ≤ cs.length:=by
    have : (i + 1) * g ≤ rows.length * g:=Nat.mul_le_mul_right g hi
    rw [Nat.succ_mul] at this; omega
   have hw:=wid rows[i] (List.getElem_mem hi)
   have hl : ((cs.drop (o + i * g)).take g).length = g:=by simp; omega
   have hat : ∀ (j : Nat) (x : V),((cs.drop (o + i * g)).take g)[j]? = some x→cs[o + i * g + j]? = some x:=fun j x hx=>by
    have hj : j < g:=by have:=(List.getElem?_eq_some_iff.1 hx).1; omega
    rw [List.getElem?_take_of_lt hj,List.getElem?_drop] at hx
    exact hx
   refine ⟨b,o,c,(cs.drop (o + i * g)).take g,rfl,.of (by rw [hl,hw]) fun j t v h1 h2=>hs i rows[i] j t v (List.getElem?_eq_getElem hi) h1 (hat j v h2),hl,fun j x hx k=>load1k_law row (hat j x hx) k,fun j m hj k=>?_⟩
   rw [loadk_law row (by omega),List.drop_take,List.drop_drop,List.take_take,Nat.min_eq_left (by omega)]
theorem CellA.bid {h : Heap} {A : Nat→Prop} {t : Tr} {b : Bid} {o n g : Nat} {c : Option Nat} (w : CellA h A t (.slice b o n c g)) : A b.val:=by
 cases w with
 | sl _ _ _ _ _ _ _ hb=>exact hb
inductive IsE : List Tr→Prop where
 | mk (op : Int) (l n : Nat) (z : Int) (args : List (List Tr)) (p : Int) (ha : ∀ a ∈ args,IsE a) : IsE [.i .u8 op,.s l n,.i .i64 z,.sl 5 args,.i .i64 p]
inductive IsL : List Tr→Prop where
 | mk (op : Int) (l n : Nat) (args body : List (List Tr)) (p : Int) (ha : ∀ a ∈ args,IsE a) (hb : ∀ a ∈ body,IsL a) : IsL [.i .u8 op,.s l n,.sl 5 args,.sl 5 body,.i .i64 p]
inductive IsRu : List Tr→Prop where
 | mk (l n : Nat) (args body : List (List Tr)) (p : Int) (ha : ∀ a ∈ args,IsE a) (hb : ∀ a ∈ body,IsL a) : IsRu [.s l n,.sl 5 args,.sl 5 body,.i .i64 p]
inductive IsF : List Tr→Prop where
 | mk (l n l' n' : Nat) : IsF [.s l n,.s l' n']
inductive IsC : List Tr→Prop where
 | mk (l n : Nat) (fs : List (List Tr)) (hf : ∀ a ∈ fs,IsF a) : IsC [.s l n,.sl 2 fs]
inductive IsT : List Tr→Prop where
 | mk (kd : Int) (l n l' n' : Nat) (fs cs : List (List Tr)) (p : Int) (hf : ∀ a ∈ fs,IsF a) (hc : ∀ a ∈ cs,IsC a) : IsT [.i .u8 kd,.s l n,.s l' n',.sl 2 fs,.sl 2 cs,.i .i64 p]
inductive IsR : List Tr→Prop where
 | mk (l n : Nat) (fs : List (List Tr)) (x y z : Bool) (p : Int) (hf : ∀ a ∈ fs,IsF a) : IsR [.s l n,.sl 2 fs,.b x,.b y,.b z,.i .i64 p]
inductive IsX : List Tr→Prop where
 | mk (l n : Nat) : IsX [.s l n]
inductive IsI : List Tr→Prop where
 | mk (l n l' n' : Nat) (ts : List (List Tr)) (p : Int) (ht : ∀ a ∈ ts,IsX a) (lt : ts.length ≤ 1152921504606846976) : IsI [.s l n,.s l' n',.sl 1 ts,.i .i64 p]
inductive IsO : List Tr→Prop where
 | mk (l n : Nat) (p : Int) : IsO [.s l n,.i .i64 p]
mutual
inductive IsU : List Tr→Prop where
 | mk (ts rs us cs is os : List (List Tr)) (ht : ∀ a ∈ ts,IsT a) (hr : ∀ a ∈ rs,IsR a) (hu : ∀ a ∈ us,IsRu a) (hc : ∀ a ∈ cs,IsK a) (hi : ∀ a ∈ is,IsI a) (ho : ∀ a ∈ os,IsO a) :
   IsU [.sl 6 ts,.sl 6 rs,.sl 4 us,.sl 11 cs,.sl 4 is,.sl 2 os]
inductive IsK : List Tr→Prop where
 | mk (l n l' n' : Nat) (ps qs : List (List Tr)) (a b c d e f : Tr) (p : Int) (hp : ps.length ≤ 1152921504606846976) (hq : qs.length ≤ 1152921504606846976) (hu : IsU [a,b,c,d,e,f]) :
   IsK [.s l n,.sl 1 ps,.s l' n',.sl 1 qs,a,b,c,d,e,f,.i .i64 p]
end
end Go.Ev

/- EVALUATOR: what is known where ways meet, kept apart from the code: a row of remarks, read off along the code. -/
namespace Go.Ev
variable {P : Program}
inductive An where
 | n
 | j (abn : Bool) (sl : List Nat)
 | l (sl : List Nat)
 | x
 | y
 | r (mask : Nat)
def shNo : Nat→Sh1
 | 0=>.any
 | 1=>.bool
 | 2=>.str
 | 3=>.int .i8 | 4=>.int .i16 | 5=>.int .i32 | 6=>.int .i64 | 7=>.int .u8 | 8=>.int .u16 | 9=>.int .u32 | 10=>.int .u64
 | 11=>.intF .i8 | 12=>.intF .i16 | 13=>.intF .i32 | 14=>.intF .i64 | 15=>.intF .u8 | 16=>.intF .u16 | 17=>.intF .u32 | _=>.intF .u64
def slNo (n : Nat) : Slot × Sh1:=(⟨D.ofNat (n / 16 % 16),D.ofNat (n % 16)⟩,shNo (n / 256))
def PC.ann (np : Bool) : PC→List An→PC × List An
 | .seq x y,A=>
   let p:=x.ann np A.tail
   let q:=y.ann np p.2
   (match A.head? with
     | some (.j b sl)=>.jn b (sl.map slNo) p.1 q.1
     | _=>.seq p.1 q.1,q.2)
 | .cond c x y,A=>
   match A.head? with
   | some .x=>
     let q:=y.ann np A.tail
     (.cond c (.stop x) q.1,q.2)
   | some .y=>
     let p:=x.ann np A.tail
     (.cond c p.1 (.stop y),p.2)
   | _=>
     let p:=x.ann np A.tail
     let q:=y.ann np p.2
     (.cond c p.1 q.1,q.2)
 | .block i x,A=>
   let p:=x.ann np A
   (.block i p.1,p.2)
 | .loop x,A=>
   let p:=x.ann np A.tail
   (match A.head? with
     | some (.l sl)=>.lpv (sl.map slNo) p.1
     | _=>.loop p.1,p.2)
 | .reg l,A=>(bif np then .np (.reg l) else .reg l,A)
 | .draw l o,A=>(bif np then .np (.draw l o) else .draw l o,A)
 | .draw2 l1 o1 l2 o2,A=>(bif np then .np (.draw2 l1 o1 l2 o2) else .draw2 l1 o1 l2 o2,A)
 | .rf id inl g,A=>(match A.head? with
   | some (.r mask)=>.rfa id inl mask g
   | _=>.rf id inl g,A.tail)
 | x,A=>(x,A)
theorem PC.ann_strip (np : Bool) : ∀ (x : PC) (A : List An),(x.ann np A).1.strip = x.strip
 | .seq x y,A=>by
   have h1:=PC.ann_strip np x A.tail
   have h2:=PC.ann_strip np y (x.ann np A.tail).2
   simp only [PC.ann]
   split <;> simp [PC.strip,h1,h2]
 | .cond c x y,A=>by
   simp only [PC.ann]
   split
   · simp [PC.strip,PC.ann_strip np y A.tail]
   · simp [PC.strip,PC.ann_strip np x A.tail]
   · simp [PC.strip,PC.ann_strip np x A.tail,PC.ann_strip np y (x.ann np A.tail).2]
 | .block i x,A=>by simp [PC.ann,PC.strip,PC.ann_strip np x A]
 | .loop x,A=>by
   have h1:=PC.ann_strip np x A.tail
   simp only [PC.ann]
   split <;> simp [PC.strip,h1]
 | .reg _,A | .draw _ _,A | .draw2 _ _ _ _,A=>by cases np <;> rfl
 | .rf _ _ _,A=>by
   simp only [PC.ann]
   split <;> rfl
 | .skip,A | .exit _,A | .ret,A | .dead,A | .rfa _ _ _ _,A=>rfl
 | .jn _ _ _ _,A | .lpv _ _,A | .stop _,A | .np _,A=>rfl
theorem cCode_strip {fi : FI} {ng : Nat} : ∀ {c : Code} {i : Option Nat} {p : PC},cCode P fi ng i c = some p→p.strip = p
 | .skip,_,p,h | .label _,_,p,h | .exit _,_,p,h | .ret,_,p,h | .goto _,_,p,h=>by simp [cCode] at h; subst h; rfl
 | .seq x y,_,p,h=>by
   obtain ⟨a,h1,h⟩:=Option.bind_eq_some_iff.1 h
   obtain ⟨b,h2,rfl⟩:=Option.map_eq_some_iff.1 h
   simp [PC.strip,cCode_strip h1,cCode_strip h2]
 | .cond c x y,_,p,h=>by
   obtain ⟨l,_,h⟩:=Option.bind_eq_some_iff.1 h
   obtain ⟨a,h1,h⟩:=Option.bind_eq_some_iff.1 h
   obtain ⟨b,h2,rfl⟩:=Option.map_eq_some_iff.1 h
   simp [PC.strip,cCode_strip h1,cCode_strip h2]
 | .block id x,_,p,h=>by
   obtain ⟨a,h1,rfl⟩:=Option.map_eq_some_iff.1 h
   simp [PC.strip,cCode_strip h1]
 | .loop x,_,p,h=>by
   obtain ⟨a,h1,rfl⟩:=Option.map_eq_some_iff.1 h
   simp [PC.strip,cCode_strip h1]
 | .region _ ops false,_,p,h=>by
   rcases orDead_ok h with h | rfl
   case inr=>rfl
   obtain ⟨a,h1,rfl⟩:=Option.map_eq_some_iff.1 h
   rfl
 | .region _ ops true,_,p,h=>by
   simp only [cCode] at h
   rcases orDead_ok h with h | rfl
   case inr=>rfl
   split at h
   · split at h
     · obtain ⟨a,_,h⟩:=Option.bind_eq_some_iff.1 h
       obtain ⟨b,_,rfl⟩:=Option.map_eq_some_iff.1 h
       rfl
     · split at h
       · split at h
         · obtain ⟨_,_,h⟩:=Option.bind_eq_some_iff.1 h
           obtain ⟨_,_,h⟩:=Option.bind_eq_some_iff.1 h
           obtain ⟨_,_,h⟩:=Option.bind_eq_some_iff.1 h
           obtain ⟨_,_,rfl⟩:=Option.map_eq_some_iff.1 h
           rfl
         · cases h
       · cases h
   · cases h
 | .scope x,i,p,h=>cCode_strip (c:=x) (i:=i) (by simpa only [cCode] using h)
 | .rangeFunc _ _ _ _,i,p,h=>by
   rcases orDead_ok h with h | rfl
   case inr=>rfl
   obtain ⟨k,_,h⟩:=Option.bind_eq_some_iff.1 h
   obtain ⟨l,_,rfl⟩:=Option.map_eq_some_iff.1 h
   rfl
 | .refuse _,_,p,h=>by simp [cCode] at h; subst h; rfl
theorem prep_strip {ng : Nat} {fi : FI} {f : Nat} {p : PF} (h : prep P ng fi f = some p) : p.code.strip = p.code:=by
 unfold prep at h
 split at h
 · split at h
   · split at h
     · cases h
     · split at h
       · obtain ⟨pc,h1,h⟩:=Option.bind_eq_some_iff.1 h
         obtain ⟨as,_,h⟩:=Option.bind_eq_some_iff.1 h
         obtain ⟨rs,_,rfl⟩:=Option.map_eq_some_iff.1 h
         exact cCode_strip h1
       · cases h
   · cases h
 · cases h
noncomputable def runPg (P : Program) (ng : Nat) (fi : FI) (f : Nat) (np : Bool) (A : List An) (sem : OX→Do) (n : Nat) (cf : CF) (args : List V) (h : Heap) : Res:=
 Option.rec (motive:=fun _=>Res) .fail (fun p=>PF.rec (motive:=fun _=>Res) (fun code sl res its=>runFg sem n cf ⟨(code.ann np A).1,sl,res,its⟩ args h) p) (prep P ng fi f)
theorem POok.of_text {ng f : Nat} (fi : FI) (np : Bool) (A : List An) {sh : Words→Nat→CF→List V→Heap→Res} (h2 : ∀ S n cf ar h,runPg P ng fi f np A (semOXg S) n cf ar h = sh S n cf ar h) : POok P ng f (.sh (sh words)):=by
 intro m cf hcf
 cases hp : prep P ng fi f with
 | none=>
   refine .none fun l h=>?_
   have h3:=h2 words m cf l h
   rw [semOXg_words] at h3
   unfold runPg at h3
   rw [hp] at h3
   exact h3.symm
 | some p=>
   obtain ⟨code,sl,res,its⟩:=p
   have hs:=prep_strip hp
   refine POok.of_run (fi:=fi) (p:=⟨(code.ann np A).1,sl,res,its⟩) (by rw [hp]; simp only at hs; simp only [PF.strip,PC.ann_strip,hs]) (fun m cf l h=>?_) m cf hcf
   have h3:=h2 words m cf l h
   rw [semOXg_words] at h3
   unfold runPg at h3
   rw [hp] at h3
   exact h3
noncomputable def dp (P : Program) (ng : Nat) (fi : FI) (f : Nat) (np : Bool) (A : List An) : Words→Nat→CF→List V→Heap→Res:=fun S n c l h=>runPg P ng fi f np A (semOXg S) n c l h
theorem POok.deep {ng f : Nat} {fi : FI} {np : Bool} {A : List An} : POok P ng f (.sh (dp P ng fi f np A words)):=.of_text fi np A fun _ _ _ _ _=>rfl
end Go.Ev
