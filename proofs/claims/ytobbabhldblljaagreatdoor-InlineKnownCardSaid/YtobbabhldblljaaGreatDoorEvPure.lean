/- EvPure: texts joined. -/
import Derived.Test.YtobbabhldblljaaGreatDoorEvReg
/- EVALUATOR, 22: regions in the order of the text; code; what follows it. -/
namespace Go.Ev
variable {P : Program}
inductive Dst where
 | no
 | push
 | env (x : Slot)
structure RI where
 v : VI
 d : Dst
abbrev Kont:=Ex→Env→Heap→Res
noncomputable def runLg (sem : OX→Do) (cf : CF) (l : List RI) (L : List V) (env : Env) (h : Heap) (K : Kont) : Res:=
 List.rec (motive:=fun _=>List V→Env→Heap→Kont→Res) (fun _ env h K=>K .normal env h)
  (fun i _ ih L env h K=>RI.rec (motive:=fun _=>Res)
    (fun v d=>runVIg sem cf v L env h (fun u h'=>Dst.rec (motive:=fun _=>Res) (ih L env h' K) (ih (u :: L) env h' K) (fun x=>envk env x u fun env'=>ih L env' h' K) d) fun u h'=>K (.pan u) env h') i)
  l L env h K
noncomputable abbrev runL:=runLg semOX
def seqT (fi : FI) (T : List (Nat × Loc)) (t : Nat) : Option Loc:=if fi.inl.testBit t then T.lookup t else (slotOf t).map .e
def Loc.up : Loc→Loc
 | .s i=>.s (i + 1)
 | l=>l
def Slot.same (x y : Slot) : Bool:=x.a.val == y.a.val && x.b.val == y.b.val
def Loc.is (x : Slot) : Loc→Bool
 | .e y=>x.same y
 | _=>false
def cDst (fi : FI) (T : List (Nat × Loc)) : Option Tmp→Option (Dst × List (Nat × Loc))
 | none=>some (.no,T)
 | some t=>if t < fi.nt then if fi.inl.testBit t then some (.push,(t,.s 0) :: T.map fun p=>(p.1,p.2.up)) else
    (slotOf t).bind fun x=>if T.any fun p=>p.2.is x then none else some (.env x,T)
   else none
def alias (fi : FI) (ng : Nat) (T : List (Nat × Loc)) (o : Oper) (l : List Oper) : Option (Nat × Loc):=
 match o.guard,o.dst,o.op with
 | none,some t,.move x | none,some t,.assign x=>if t < fi.nt && fi.inl.testBit t then match locOf (seqT fi T) ng x with
    | some (.e y)=>if l.any fun o'=>match o'.dst with | some t'=>!fi.inl.testBit t' && ((((slotOf t').map fun z=>z.same y).getD false)) | none=>false then none else some (t,.e y)
    | some loc=>some (t,loc)
    | none=>none
   else none
 | _,_,_=>none
def cReg (P : Program) (fi : FI) (ng : Nat) (ops : Array Oper) : List Oper→List (Nat × Loc)→Option (List RI)
 | [],_=>some []
 | o :: l,T=>match alias fi ng T o l with
   | some p=>cReg P fi ng ops l (p :: T)
   | none=>(cGuard P (locOf (seqT fi T) ng) ops o).bind fun v=>(cDst fi T o.dst).bind fun d=>(cReg P fi ng ops l d.2).map fun m=>⟨v,d.1⟩ :: m
structure StkR (ρ : Rho) (fi : FI) (T : List (Nat × Loc)) (L : List V) (env : Env) (tmps : Array Value) : Prop where
 own : ∀ t loc,T.lookup t = some loc→fi.inl.testBit t = true
 val : ∀ t loc v,T.lookup t = some loc→loc.at L env = some v→VR ρ v (tmps.getD t Go.undef)
theorem StkR.mono {ρ ρ' : Rho} (h : ρ.le ρ') {fi : FI} {T : List (Nat × Loc)} {L : List V} {env : Env} {tmps : Array Value} (e : StkR ρ fi T L env tmps) : StkR ρ' fi T L env tmps:=
 ⟨e.own,fun t loc v h1 h2=>(e.val t loc v h1 h2).mono h⟩
structure FrR (ρ : Rho) (fi : FI) (T : List (Nat × Loc)) (L : List V) (E : Env) (tmps : Array Value) : Prop where
 env : EnvR ρ fi E tmps
 stk : StkR ρ fi T L E tmps
theorem FrR.tmp {ρ : Rho} {fi : FI} {T : List (Nat × Loc)} {L : List V} {env : Env} {tmps : Array Value} (f : FrR ρ fi T L env tmps) : TmpR ρ (seqT fi T) L env tmps:=by
 intro t loc v h1 h2
 unfold seqT at h1
 split at h1
 · exact f.stk.val t loc v h1 h2
 · rename_i hb
   obtain ⟨x,h3,rfl⟩:=Option.map_eq_some_iff.1 h1
   cases h2
   exact f.env.val t x h3 (by simpa using hb)
theorem FrR.mono {ρ ρ' : Rho} (h : ρ.le ρ') {fi : FI} {T : List (Nat × Loc)} {L : List V} {env : Env} {tmps : Array Value} (f : FrR ρ fi T L env tmps) : FrR ρ' fi T L env tmps:=⟨f.env.mono h,f.stk.mono h⟩
theorem getD_set_ne {tmps : Array Value} {t t' : Nat} (h : t' ≠ t) (y : Value) : (tmps.setIfInBounds t y).getD t' Go.undef = tmps.getD t' Go.undef:=by
 rw [Array.getD_eq_getD_getElem?,Array.getD_eq_getD_getElem?,Array.getElem?_setIfInBounds_ne (Ne.symm h)]
theorem getD_set_eq {tmps : Array Value} {t : Nat} (h : t < tmps.size) (y : Value) : (tmps.setIfInBounds t y).getD t Go.undef = y:=by
 rw [Array.getD_eq_getD_getElem?,Array.getElem?_setIfInBounds_self_of_lt h]; rfl
theorem lookup_map (T : List (Nat × Loc)) (f : Loc→Loc) (t : Nat) : (T.map fun p=>(p.1,f p.2)).lookup t = (T.lookup t).map f:=by
 induction T with
 | nil=>rfl
 | cons p T ih=>
   obtain ⟨t',l⟩:=p
   rw [List.map_cons,List.lookup_cons,List.lookup_cons]
   cases h : t == t' <;> simp [ih]
theorem Loc.at_up (l : Loc) (u : V) (L : List V) (env : Env) : l.up.at (u :: L) env = l.at L env:=by cases l <;> simp [Loc.up,Loc.at]
theorem FrR.name {ρ : Rho} {fi : FI} {T : List (Nat × Loc)} {L : List V} {env : Env} {tmps : Array Value} (f : FrR ρ fi T L env tmps) {t : Nat} (ht : t < fi.nt) (hb : fi.inl.testBit t = true) {loc : Loc} {y : Value}
 (hv : ∀ v,loc.at L env = some v→VR ρ v y) : FrR ρ fi ((t,loc) :: T) L env (tmps.setIfInBounds t y) where
 env:=⟨by simp [f.env.size],fun t' x h1 h2=>by
  rw [getD_set_ne (by rintro rfl; rw [hb] at h2; cases h2)]; exact f.env.val t' x h1 h2⟩
 stk:=⟨fun t' l h=>by
  rw [List.lookup_cons] at h
  cases e : t' == t with
  | true=>have : t' = t:=by simpa using e
          rw [this]; exact hb
  | false=>rw [e] at h; exact f.stk.own t' l h,fun t' l v h h'=>by
  rw [List.lookup_cons] at h
  cases e : t' == t with
  | true=>
    rw [e] at h
    cases h
    have : t' = t:=by simpa using e
    subst this
    rw [getD_set_eq (by rw [f.env.size]; exact ht)]; exact hv v h'
  | false=>
    rw [e] at h
    rw [getD_set_ne (by simpa using e)]
    exact f.stk.val t' l v h h'⟩
theorem FrR.push {ρ : Rho} {fi : FI} {T : List (Nat × Loc)} {L : List V} {env : Env} {tmps : Array Value} (f : FrR ρ fi T L env tmps) {t : Nat} (ht : t < fi.nt) (hb : fi.inl.testBit t = true) {u : V} {y : Value}
 (hv : VR ρ u y) : FrR ρ fi ((t,.s 0) :: T.map fun p=>(p.1,p.2.up)) (u :: L) env (tmps.setIfInBounds t y):=by
 have f' : FrR ρ fi (T.map fun p=>(p.1,p.2.up)) (u :: L) env tmps:=⟨f.env,fun t' l h=>by
  rw [lookup_map] at h
  obtain ⟨l',h1,_⟩:=Option.map_eq_some_iff.1 h
  exact f.stk.own t' l' h1,fun t' l v h h'=>by
  rw [lookup_map] at h
  obtain ⟨l',h1,rfl⟩:=Option.map_eq_some_iff.1 h
  rw [Loc.at_up] at h'
  exact f.stk.val t' l' v h1 h'⟩
 exact f'.name ht hb fun v h=>by
  simp only [Loc.at,List.getElem?_cons_zero] at h
  cases h
  exact hv
theorem FrR.put {ρ : Rho} {fi : FI} {T : List (Nat × Loc)} {L : List V} {env : Env} {tmps : Array Value} (f : FrR ρ fi T L env tmps) {t : Nat} (ht : t < fi.nt) (hb : fi.inl.testBit t = false) {x : Slot}
 (hx : slotOf t = some x) (hn : (T.any fun p=>p.2.is x) = false) {u : V} {y : Value} (hv : VR ρ u y) : FrR ρ fi T L (env.put x u) (tmps.setIfInBounds t y) where
 env:=⟨by simp [f.env.size],fun t' x' h1 h2=>by
  by_cases e : t' = t
  · subst e
    rw [hx] at h1
    cases h1
    rw [getD_set_eq (by rw [f.env.size]; exact ht),Env.at_put]; exact hv
  · rw [getD_set_ne e,Env.at_put_ne _ (by rintro rfl; exact e (slotOf_inj h1 hx))]; exact f.env.val t' x' h1 h2⟩
 stk:=⟨f.stk.own,fun t' l v h h'=>by
  have hm : (t',l) ∈ T:=by
   have : ∀ {T : List (Nat × Loc)},T.lookup t' = some l→(t',l) ∈ T:=by
    intro T
    induction T with
    | nil=>intro h; cases h
    | cons p T ih=>
      obtain ⟨t2,l2⟩:=p
      intro h
      rw [List.lookup_cons] at h
      cases e : t' == t2 with
      | true=>
        rw [e] at h
        cases h
        have : t' = t2:=by simpa using e
        rw [this]; simp
      | false=>rw [e] at h; exact List.mem_cons_of_mem _ (ih h)
   exact this h
  have hl : l.is x = false:=by
   have:=List.any_eq_false.1 hn _ hm
   simpa using this
  have e : l.at L (env.put x u) = l.at L env:=by
   cases l with
   | s i=>rfl
   | k v=>rfl
   | e y=>
     simp only [Loc.at]
     rw [Env.at_put_ne]
     rintro rfl
     simp [Loc.is,Slot.same] at hl
  rw [e] at h'
  rw [getD_set_ne (by rintro rfl; rw [f.stk.own _ _ h] at hb; cases hb)]
  exact f.stk.val t' l v h h'⟩
inductive ExR (ρ : Rho) : Ex→Exit→Prop where
 | normal : ExR ρ .normal .normal
 | exit (i : Nat) : ExR ρ (.exit i) (.exit i)
 | ret : ExR ρ .ret .ret
 | pan {v : V} {y : Value} (h : VR ρ v y) : ExR ρ (.pan v) (.panic [{ v:=y,recovered:=false }])
def Left (P : Program) (fi : FI) (ρ₀ : Rho) (h₀ : Heap) (w₀ : World) (K : Kont) (r : Res) (cs₀ : List Frame) (ds : List Deferred) : Post:=fun e a cs w=>
 cs = cs₀∧a.defers = ds∧∃ x env h ρ,Le (K x env h) r∧ExR ρ x e∧EnvR ρ fi env a.tmps∧RH P ρ h w∧Ext ρ₀ h₀ w₀ ρ h w
theorem Left.of {fi : FI} {ρ₀ ρ₁ : Rho} {h₀ h₁ : Heap} {w₀ w₁ : World} {K : Kont} {r : Res} {cs₀ : List Frame} {ds : List Deferred} (x : Ext ρ₀ h₀ w₀ ρ₁ h₁ w₁) {e : Exit} {a : Act} {cs : List Frame} {w : World}
 (h : Left P fi ρ₁ h₁ w₁ K r cs₀ ds e a cs w) : Left P fi ρ₀ h₀ w₀ K r cs₀ ds e a cs w:=by
 obtain ⟨h1,h2,x',env,h',ρ,h3,h4,h5,h6,h7⟩:=h
 exact ⟨h1,h2,x',env,h',ρ,h3,h4,h5,h6,x.trans h7⟩
theorem Left.le {fi : FI} {ρ₀ : Rho} {h₀ : Heap} {w₀ : World} {K : Kont} {q r : Res} {cs₀ : List Frame} {ds : List Deferred} (g : Le q r) {e : Exit} {a : Act} {cs : List Frame} {w : World}
 (h : Left P fi ρ₀ h₀ w₀ K q cs₀ ds e a cs w) : Left P fi ρ₀ h₀ w₀ K r cs₀ ds e a cs w:=by
 obtain ⟨h1,h2,x',env,h',ρ,h3,h4⟩:=h
 exact ⟨h1,h2,x',env,h',ρ,h3.trans g,h4⟩
theorem alias_ok {fi : FI} {ng : Nat} {T : List (Nat × Loc)} {o : Oper} {l : List Oper} {p : Nat × Loc} (h : alias fi ng T o l = some p) :
 ∃ x,o.guard = none∧o.dst = some p.1∧p.1 < fi.nt∧fi.inl.testBit p.1 = true∧(o.op = .move x ∨ o.op = .assign x)∧locOf (seqT fi T) ng x = some p.2:=by
 have key : ∀ {t : Nat} {x : Operand},(if t < fi.nt && fi.inl.testBit t then match locOf (seqT fi T) ng x with
  | some (.e y)=>if l.any fun o'=>match o'.dst with | some t'=>!fi.inl.testBit t' && (((slotOf t').map fun z=>z.same y).getD false) | none=>false then none else some (t,.e y)
  | some loc=>some (t,loc)
  | none=>none
  else none) = some p→p.1 = t∧t < fi.nt∧fi.inl.testBit t = true∧locOf (seqT fi T) ng x = some p.2:=by
  intro t x h
  split at h
  · rename_i hc
    have hc : t < fi.nt∧fi.inl.testBit t = true:=by simpa using hc
    split at h
    · rename_i hl
      split at h
      · cases h
      · cases h; exact ⟨rfl,hc.1,hc.2,hl⟩
    · rename_i hl
      cases h; exact ⟨rfl,hc.1,hc.2,hl⟩
    · cases h
  · cases h
 unfold alias at h
 split at h
 · rename_i t x h1 h2 h3
   obtain ⟨rfl,h4,h5,h6⟩:=key h
   exact ⟨x,h1,h2,h4,h5,.inl h3,h6⟩
 · rename_i t x h1 h2 h3
   obtain ⟨rfl,h4,h5,h6⟩:=key h
   exact ⟨x,h1,h2,h4,h5,.inr h3,h6⟩
 · cases h
section reg
variable {fi : FI} {ng : Nat} {cf : CF} {ops : Array Oper} {b : Frame} {K : Kont}
theorem reg_ok (hcf : CFok P ng cf) : ∀ {l : List Oper} {i : Nat} {T : List (Nat × Loc)} {ris : List RI},cReg P fi ng ops l T = some ris→(∀ j,ops[i + j]? = l[j]?) →
 ∀ {L : List V} {env : Env} {h : Heap} {ρ : Rho} {w : World} {a : Act} {cs : List Frame} {r : Res},runL cf ris L env h K = r→Fine r→FrR ρ fi T L env a.tmps→RH P ρ h w→GlobR ρ ng →
 WO P b ops (List.range' i l.length) (Left P fi ρ h w K r cs a.defers) a cs w
 | [],i,T,ris,hc,hi,L,env,h,ρ,w,a,cs,r,hh,hr,hf,rh,hg=>by
   cases hc
   exact .nil ⟨rfl,rfl,.normal,env,h,ρ,.of_eq hh,.normal,hf.env,rh,.refl _ _ _⟩
 | o :: l,i,T,ris,hc,hi,L,env,h,ρ,w,a,cs,r,hh,hr,hf,rh,hg=>by
   have ho : ops[i]? = some o:=by have:=hi 0; simpa using this
   have hi' : ∀ j,ops[i + 1 + j]? = l[j]?:=fun j=>by have:=hi (j + 1); rw [show i + 1 + j = i + (j + 1) by omega]; simpa using this
   rw [List.length_cons,List.range'_succ]
   simp only [cReg] at hc
   split at hc
   · rename_i p hp
     obtain ⟨x,hw,hdst,hlt,hin,hop,hl⟩:=alias_ok hp
     have hv:=fun v h=>locOf_at (v:=v) hl h hf.tmp hg
     refine .value (v:=a.eval x) (w':=w) ho (by simp [Region.wanted,hw]) (.inr fun c e=>by rcases hop with hop | hop <;> (rw [hop] at e; cases e)) ?_ ?_
     · rcases hop with hop | hop <;> simp [execOp,hop]
     · have:=reg_ok hcf hc hi' (cs:=cs) (a:=a.put o.dst (a.eval x)) hh hr (by rw [hdst]; exact hf.name hlt hin hv) rh hg
       rw [hdst] at this ⊢
       exact this
   obtain ⟨v,h1,hc⟩:=Option.bind_eq_some_iff.1 hc
   obtain ⟨⟨d,T'⟩,h2,hc⟩:=Option.bind_eq_some_iff.1 hc
   obtain ⟨m,h3,rfl⟩:=Option.map_eq_some_iff.1 hc
   refine cGuard_ok (k:=fun u h'=>Dst.rec (motive:=fun _=>Res) (runL cf m L env h' K) (runL cf m (u :: L) env h' K) (fun x=>envk env x u fun env'=>runL cf m L env' h' K) d)
    (kp:=fun u h'=>K (.pan u) env h') hcf ⟨hf.tmp,hg,rh⟩ h1 hh hr ho ?_ ?_
   · intro u h' ρ' y w' h4 h5 h6 h7
     have hf':=hf.mono h7.le
     have hg' : GlobR ρ' ng:=fun g hlt=>let ⟨S,h8⟩:=hg g hlt; ⟨S,h7.le _ _ h8⟩
     have step : ∀ {L' : List V} {env' : Env} {a' : Act},a'.defers = a.defers→Le (runL cf m L' env' h' K) r→FrR ρ' fi T' L' env' a'.tmps→WO P b ops (List.range' (i + 1) l.length) (Left P fi ρ h w K r cs a.defers) a' cs w':=by
      intro L' env' a' hd h8 h9
      have:=reg_ok hcf h3 hi' (cs:=cs) rfl (hr.le h8) h9 h6 hg'
      rw [hd] at this
      exact this.mono fun e a cs w hl=>(hl.of h7).le h8
     unfold cDst at h2
     split at h2
     · rename_i hdst
       cases h2
       rw [hdst]
       exact step rfl h4 hf'
     · rename_i t hdst
       split at h2
       · rename_i hlt
         rw [hdst]
         split at h2
         · rename_i hin
           cases h2
           exact step rfl h4 (hf'.push hlt hin h5)
         · rename_i hin
           obtain ⟨x,hx,h2⟩:=Option.bind_eq_some_iff.1 h2
           split at h2
           · cases h2
           rename_i hn
           cases h2
           have h4 : Le (envk env x u (fun env'=>runL cf m L env' h' K)) r:=h4
           rw [envk_eq] at h4
           exact step rfl h4 (hf'.put hlt (by simpa using hin) hx (by simpa using hn) h5)
       · cases h2
   · intro u h' ρ' y w' h4 h5 h6 h7
     exact ⟨rfl,rfl,.pan u,env,h',ρ',h4,.pan h5,hf.env.mono h7.le,h6,h7⟩
end reg
end Go.Ev

/- EVALUATOR: memory that is made in the one order, and laid down in another: a block that stands in the abstract memory and nowhere in the world yet. -/
namespace Go.Ev
variable {P : Program}
theorem RH.thought {ρ : Rho} {h : Heap} {w : World} (r : RH P ρ h w) (x : Blk) : RH P ρ (h.new x h.nx.nxt) w∧Ext ρ h w ρ (h.new x h.nx.nxt) w:=by
 have hv:=h.nx.nxt_val
 have hf:=r.fresh h.nx (Nat.le_refl _)
 have ne : ∀ {b c z S},ρ b = some (c,z,S)→b ≠ h.nx:=fun hb e=>by rw [e,hf.1] at hb; cases hb
 refine ⟨⟨r.lt,?_,?_,?_,?_,?_⟩,⟨.refl _,by simp only [Heap.new]; omega,rfl,rfl,rfl,Nat.le_refl _,?_,?_⟩⟩
 · intro b hb
   simp only [Heap.new] at hb ⊢
   have e : b ≠ h.nx:=by rintro rfl; omega
   rw [HT.get_set_ne _ e]
   exact r.fresh b (by omega)
 · intro b b' c z S z' S' h1 h2 h3 h4
   simp only [Heap.new] at h1 h2
   rw [HT.get_set_ne _ (ne h3)] at h1
   rw [HT.get_set_ne _ (ne h4)] at h2
   exact r.inj b b' c z S z' S' h1 h2 h3 h4
 · intro b c z S g n t ro hb ht
   simp only [Heap.new] at ht
   rw [HT.get_set_ne _ (ne hb)] at ht
   exact r.arr b c z S g n t ro hb ht
 · intro b c z S y hb ht
   simp only [Heap.new] at ht
   rw [HT.get_set_ne _ (ne hb)] at ht
   exact r.ob b c z S y hb ht
 · intro p c z S m since seen last hb ht
   simp only [Heap.new] at ht
   rw [HT.get_set_ne _ (ne hb)] at ht
   exact r.itr p c z S m since seen last hb ht
 · intro c hc hw
   refine ⟨rfl,?_⟩
   rintro ⟨b,z,S,hb,hwr⟩
   simp only [Heap.new] at hwr
   rw [HT.get_set_ne _ (ne hb)] at hwr
   exact hw ⟨b,z,S,hb,hwr⟩
 · intro b hb hr
   have e : b ≠ h.nx:=by rintro rfl; omega
   simp only [Heap.new]
   rw [HT.get_set_ne _ e]
   exact ⟨hr,rfl⟩
theorem allocV {ρ₀ ρ : Rho} {h₀ h : Heap} {w₀ w : World} (r : RH P ρ h w) (X : Ext ρ₀ h₀ w₀ ρ h w) {b : Bid} (h0 : h₀.nx.val ≤ b.val) (hb : ρ b = none) (hlt : b.val < h.nx.val) {x : Blk} (hx : h.t.get b = x) {o : Obj} {S : Nat}
 (harr : ∀ g n t ro,x = .arr g n t ro→∃ cs el fz,0 < g∧o = .cells cs el fz∧Thaw fz S g∧cs.size = S∧n * g ≤ S ∧
   ∀ (j : Nat) (ch : List V),t.get j = some ch→j < n∧ch.length = g∧∀ (i : Nat) (v : V),ch[i]? = some v→∃ y,cs[j * g + i]? = some y∧VR ρ v y∧y.oneCell' = true)
 (hob : ∀ x',x = .ob x'→OthR P ρ x' o) (hbig : ∀ x',x = .ob x'→Big x' o S:=by intro x' e; cases e <;> (intro e; cases e))
 (hitr : ∀ m since seen last,x ≠ .ob (.mi (some m) since seen last):=by intro m s q l e; cases e) :
 RH P (ρ.put b (w.heap.size,0,S)) h { w with heap:=w.heap.push o }∧Ext ρ₀ h₀ w₀ (ρ.put b (w.heap.size,0,S)) h { w with heap:=w.heap.push o }:=by
 have hle:=Rho.le_put (ρ:=ρ) hb (w.heap.size,0,S)
 have old : ∀ c,c < w.heap.size→(w.heap.push o)[c]? = w.heap[c]?:=fun c hc=>Array.getElem?_push_lt hc ▸ (by simp [hc])
 have new : (w.heap.push o)[w.heap.size]? = some o:=by simp
 refine ⟨⟨?_,?_,?_,?_,?_,?_⟩,⟨X.le.trans hle,X.nx,X.os,X.tape,X.output,by simp only [Array.size_push]; exact Nat.le_succ_of_le X.size,?_,?_⟩⟩
 · intro b' c z S' h1
   by_cases e : b' = b
   · subst e; rw [Rho.put_same] at h1; cases h1; simp
   · rw [Rho.put_ne e] at h1; have:=r.lt _ _ _ _ h1; simp; omega
 · intro b' h1
   have e : b' ≠ b:=by rintro rfl; omega
   rw [Rho.put_ne e]
   exact r.fresh b' h1
 · intro b1 b2 c z S1 z' S2 h1 h2 h3 h4
   by_cases e : b1 = b
   · subst e
     rw [Rho.put_same] at h3; cases h3
     by_cases e' : b2 = b1
     · exact e'.symm
     · rw [Rho.put_ne e'] at h4; have:=r.lt _ _ _ _ h4; omega
   · rw [Rho.put_ne e] at h3
     by_cases e' : b2 = b
     · subst e'; rw [Rho.put_same] at h4; cases h4; have:=r.lt _ _ _ _ h3; omega
     · rw [Rho.put_ne e'] at h4
       exact r.inj b1 b2 c z S1 z' S2 h1 h2 h3 h4
 · intro b' c z S' g n t ro h1 ht
   by_cases e : b' = b
   · subst e
     rw [Rho.put_same] at h1; cases h1
     rw [hx] at ht
     obtain ⟨cs,el,fz,hg,rfl,h5,h6,h7,h8⟩:=harr g n t ro ht
     refine ⟨cs,⟨hg,⟨el,fz,new,fun _=>h5⟩,h6,by omega,fun j ch hj=>?_⟩⟩
     obtain ⟨h9,h10,h11⟩:=h8 j ch hj
     refine ⟨h9,h10,fun i v hi=>?_⟩
     obtain ⟨y,h12,h13,h14⟩:=h11 i v hi
     exact ⟨y,by simpa using h12,VR.mono hle h13,h14⟩
   · rw [Rho.put_ne e] at h1
     obtain ⟨cs,ha⟩:=r.arr b' c z S' g n t ro h1 ht
     exact ⟨cs,ha.mono hle (old c (r.lt _ _ _ _ h1))⟩
 · intro b' c z S' x' h1 ht
   by_cases e : b' = b
   · subst e
     rw [Rho.put_same] at h1; cases h1
     rw [hx] at ht
     exact ⟨o,new,(hob x' ht).mono hle,rfl,hbig x' ht⟩
   · rw [Rho.put_ne e] at h1
     obtain ⟨o',h5,h6,h7⟩:=r.ob b' c z S' x' h1 ht
     exact ⟨o',(old c (r.lt _ _ _ _ h1)).trans h5,h6.mono hle,h7⟩
 · intro p c z S' m since seen last h1 ht
   by_cases e : p = b
   · subst e; rw [hx] at ht; exact absurd ht (hitr _ _ _ _)
   · rw [Rho.put_ne e] at h1
     exact ((r.itr p c z S' m since seen last h1 ht).stay old).mono hle
 · intro c hc hw
   obtain ⟨h5,h6⟩:=X.keep c hc hw
   have hcs : c < w.heap.size:=Nat.lt_of_lt_of_le hc X.size
   refine ⟨(old c hcs).trans h5,?_⟩
   rintro ⟨b',z,S',h7,hwr⟩
   by_cases e : b' = b
   · subst e; rw [Rho.put_same] at h7; cases h7; omega
   · rw [Rho.put_ne e] at h7
     exact h6 ⟨b',z,S',h7,hwr⟩
 · intro b' h5 h6
   obtain ⟨h7,h8⟩:=X.virt b' h5 h6
   have e : b' ≠ b:=by rintro rfl; omega
   rw [Rho.put_ne e]
   exact ⟨h7,h8⟩
theorem new_cellsV {ρ₀ ρ : Rho} {h₀ h : Heap} {w₀ w : World} (r : RH P ρ h w) (X : Ext ρ₀ h₀ w₀ ρ h w) {b : Bid} (h0 : h₀.nx.val ≤ b.val) (hb : ρ b = none) (hlt : b.val < h.nx.val) {g n : Nat} {t : T} (hx : h.t.get b = .arr g n t false)
 (hg : 0 < g) {l : List V} {cs : Array Value} (hl : VRs ρ l cs.toList) (h1 : ∀ y ∈ cs.toList,y.oneCell' = true) (hlen : l.length = n * g)
 (ht : ∀ (j : Nat) (ch : List V),t.get j = some ch→j < n∧ch = (l.drop (j * g)).take g) (el : TypeId) {fz : Nat × Nat} (hfz : Thaw fz cs.size g) :
 RH P (ρ.put b (w.heap.size,0,cs.size)) h { w with heap:=w.heap.push (.cells cs el fz) }∧Ext ρ₀ h₀ w₀ (ρ.put b (w.heap.size,0,cs.size)) h { w with heap:=w.heap.push (.cells cs el fz) }:=by
 have hle:=hl.len_eq
 refine allocV r X h0 hb hlt hx (fun g' n' t' ro' e=>?_) (fun es e=>by cases e)
 cases e
 refine ⟨cs,el,fz,hg,rfl,hfz,rfl,by omega,fun j ch hj=>?_⟩
 obtain ⟨h2,h3⟩:=ht j ch hj
 have hjg : (j + 1) * g ≤ n * g:=Nat.mul_le_mul_right g h2
 rw [Nat.succ_mul] at hjg
 refine ⟨h2,by rw [h3]; simp only [List.length_take,List.length_drop]; omega,fun i v hi=>?_⟩
 rw [h3] at hi
 have hig : i < g:=by have:=(List.getElem?_eq_some_iff.1 hi).1; simp only [List.length_take,List.length_drop] at this; omega
 rw [List.getElem?_take_of_lt hig,List.getElem?_drop] at hi
 obtain ⟨x,h4,h5⟩:=hl.get hi
 rw [Array.getElem?_toList] at h4
 exact ⟨x,h4,h5,h1 x (by rw [Array.mem_toList_iff]; exact Array.mem_of_getElem? h4)⟩
theorem partsk_det {x : V} {k : Nat→List V→Res} {r : Res} (h : partsk x k = r) (hr : r ≠ .fail) : ∃ n l,k n l = r∧∀ k',partsk x k' = k' n l:=by
 cases x
 case agg n l=>exact ⟨n,l,h,fun _=>rfl⟩
 case und=>exact absurd h.symm hr
 case skip=>exact absurd h.symm hr
 case tup l=>exact absurd h.symm hr
 all_goals exact ⟨1,[_],h,fun _=>rfl⟩
theorem takek_det {n : Nat} {l : List V} {k : List V→List V→Res} {r : Res} (h : takek n l k = r) (hr : r ≠ .fail) : ∀ k',takek n l k' = k' (l.take n) (l.drop n):=fun k'=>
 takek_eq' (takek_ok h hr).1 k'
where
 takek_eq' {n : Nat} {l : List V} (h : n ≤ l.length) (k : List V→List V→Res) : takek n l k = k (l.take n) (l.drop n):=by
  induction n generalizing l k with
  | zero=>simp only [List.take_zero,List.drop_zero]; rfl
  | succ n ih=>
    cases l with
    | nil=>simp at h
    | cons v l=>exact (ih (by simpa using h) fun a b=>k (v :: a) b).trans (by simp)
theorem fillk_det : ∀ {ps : List (Nat × Nat × V)} {cur : List V} {k : List V→Res} {r : Res},fillk ps cur k = r→r ≠ .fail→∃ l,k l = r∧∀ k',fillk ps cur k' = k' l
 | [],cur,k,r,h,_=>⟨cur,h,fun _=>rfl⟩
 | (off,n,x) :: ps,cur,k,r,h,hr=>by
   have unf : ∀ k,fillk ((off,n,x) :: ps) cur k = partsk x fun m l=>ifk (Nat.beq m n) (takek off cur fun a rest=>takek n rest fun _ b=>appk l b fun c=>appk a c fun cur'=>fillk ps cur' k) .fail:=fun _=>rfl
   rw [unf] at h
   obtain ⟨m,l,h2,h3⟩:=partsk_det h hr
   obtain ⟨h6,h7⟩:=ifk_fail h2 hr
   have t1:=takek_det h7 hr
   rw [t1] at h7
   have t2:=takek_det h7 hr
   rw [t2,appk_eq,appk_eq] at h7
   obtain ⟨l',h8,h9⟩:=fillk_det h7 hr
   refine ⟨l',h8,fun k'=>?_⟩
   rw [unf,h3,h6]
   show takek off cur _ = _
   rw [t1,t2,appk_eq,appk_eq,h9]
theorem done_inj {l l' : List V} {h h' : Heap} (e : Res.done .normal l h = .done .normal l' h') : l = l':=by cases e; rfl
def OX.al : OX→Bool
 | .alloc _ _ _ | .box _ | .buildS _ _ _ _ | .mkS _ _ _ _=>true
 | .ex .mkm l=>l.isEmpty
 | .ex (.allocT _ _ _) l=>l.isEmpty
 | _=>false
def Promise (P : Program) (ng : Nat) (T : Nat→Option Loc) (L : List V) (env : Env) (o : Oper) (u : V) (b : Bid) (x : Blk) : Prop:=
 ∀ (ρ : Rho) (h : Heap) (w : World) (a : Act),Cx P ρ ng T L env h w a→∀ (ρ₀ : Rho) (h₀ : Heap) (w₀ : World),Ext ρ₀ h₀ w₀ ρ h w→h₀.nx.val ≤ b.val→ρ b = none→b.val < h.nx.val→h.t.get b = x →
  ∃ y w' S,(execOp a.eval o).run P w = .ok (.value y) w'∧VR (ρ.put b (w.heap.size,0,S)) u y∧RH P (ρ.put b (w.heap.size,0,S)) h w'∧Ext ρ₀ h₀ w₀ (ρ.put b (w.heap.size,0,S)) h w'
section made
variable {ng : Nat} {T : Nat→Option Loc} {L : List V} {env : Env} {hA : Heap} {k : V→Heap→Res} {r : Res}
theorem getk_at {loc : Loc} {k : V→Res} {r : Res} (h : getk loc L env k = r) (hr : r ≠ .fail) : ∃ v,loc.at L env = some v∧k v = r:=getk_ok h hr
theorem getpk_det : ∀ {ps : List (Nat × Nat × Loc)} {k : List (Nat × Nat × V)→Res} {r : Res},getpk ps L env k = r→r ≠ .fail→∃ l,k l = r∧∀ k',getpk ps L env k' = k' l
 | [],k,r,h,_=>⟨[],h,fun _=>rfl⟩
 | (x,y,loc) :: ps,k,r,h,hr=>by
   have unf : ∀ k,getpk ((x,y,loc) :: ps) L env k = getk loc L env fun v=>getpk ps L env fun l=>k ((x,y,v) :: l):=fun _=>rfl
   rw [unf] at h
   obtain ⟨v,h1,h2⟩:=getk_at h hr
   obtain ⟨l,h3,h4⟩:=getpk_det (k:=fun l=>k ((x,y,v) :: l)) h2 hr
   refine ⟨_,h3,fun k'=>?_⟩
   rw [unf]
   have:=getk_eq_of_at h1 (fun v=>getpk ps L env fun l=>k' ((x,y,v) :: l))
   rw [this,h4]
where
 getk_eq_of_at {loc : Loc} {v : V} (h : loc.at L env = some v) (k : V→Res) : getk loc L env k = k v:=by
  have h0 : getk loc L env (fun v=>.done .normal [v] ⟨[],⟨0,.d0,.d0,.d0,.d0⟩⟩) ≠ .fail ∨ True:=.inr trivial
  cases loc with
  | s i=>exact nthk_at (by simpa [Loc.at] using h) k
  | e x=>
    simp only [Loc.at,Option.some.injEq] at h
    obtain ⟨p,q⟩:=x
    show selR p env (fun row=>selV q row k) = _
    rw [selR_eq,selV_eq,← h]; rfl
  | k u=>simp only [Loc.at,Option.some.injEq] at h; rw [← h]; rfl
 nthk_at {l : List V} {i : Nat} {v : V} (h : l[i]? = some v) (k : V→Res) : nthk l i k = k v:=by
  induction l generalizing i with
  | nil=>simp at h
  | cons u l ih=>
    cases i with
    | zero=>simp at h; subst h; rfl
    | succ i=>exact ih (by simpa using h)
theorem alloc0_made {t : TypeId} {ox : OX} (hc : cAlloc0 P t = some ox) (hh : semOX ox L env hA k = r) (hr : r ≠ .fail) {o : Oper} (ho : o.op = .alloc t) :
 ∃ u x,k u (hA.new x hA.nx.nxt) = r∧Promise P ng T L env o u hA.nx x:=by
 simp only [cAlloc0] at hc
 split at hc
 · rename_i l hz
   split at hc
   · rename_i hcond
     cases hc
     obtain ⟨h1,h2,h3⟩:=hcond
     generalize grain P t l.length = gr at *
     obtain ⟨g,n⟩:=gr
     simp only at h1 h2 h3
     have hh : hA.newk (.arr g n (repT (l.take g) n n) false) (fun b h'=>k (.ptr b 0) h') = r:=hh
     rw [Heap.newk_eq] at hh
     refine ⟨_,_,hh,fun ρ h w a c ρ₀ h₀ w₀ X h4 h5 h6 h7=>?_⟩
     obtain ⟨z,e1,e2,e3⟩:=zeroL_ok hz
     have hl:=eqVs_ok h3
     have hlen : l.length = n * g:=by
      have:=congrArg List.length hl
      rwa [flat_len,h2] at this
     obtain ⟨g1,g2⟩:=new_cellsV c.rh X h4 h5 h6 h7 h1 (e2 ρ) e3 hlen (fun j ch hj=>by
      rw [repT_eq,_root_.Go.Ev.T.get_rep _ _ _ (Nat.le_refl _)] at hj
      split at hj
      · rename_i hlt
        cases hj
        refine ⟨hlt,?_⟩
        apply List.ext_getElem?
        intro i
        by_cases hi : i < g
        · have hji : j * g + i < n * g:=by
           have : (j + 1) * g ≤ n * g:=Nat.mul_le_mul_right _ hlt
           rw [Nat.succ_mul] at this
           omega
          have e : l[j * g + i]? = (l.take g)[(j * g + i) % g]?:=by
           have e0 : l[j * g + i]? = ((List.replicate n (l.take g)).flatten)[j * g + i]?:=congrArg (fun m : List V=>m[j * g + i]?) hl
           rw [e0,flat_get2 h2,if_pos hji]
          rw [List.getElem?_take_of_lt hi,List.getElem?_take_of_lt hi,List.getElem?_drop,e,Nat.mul_comm,Nat.mul_add_mod,Nat.mod_eq_of_lt hi,List.getElem?_take_of_lt hi]
        · rw [List.getElem?_eq_none (by rw [h2]; omega),List.getElem?_eq_none (by simp; omega)]
      · cases hj) t (fz:=(0,0)) (.inl rfl)
     refine ⟨.pointer (some ⟨w.heap.size,0,none⟩),_,_,?_,?_,g1,g2⟩
     · simp [execOp,ho,Instr.alloc,run_zero e1,newVar,newRow]
     · have:=VR.ptr (o:=0) (Rho.put_same ρ hA.nx (w.heap.size,0,z.cells.size))
       simpa using this
   · cases hc
 · cases hc
theorem alloc_made {t : TypeId} {ox : OX} (hc : cAlloc P t = some ox) (hh : semOX ox L env hA k = r) (hr : r ≠ .fail) {o : Oper} (ho : o.op = .alloc t) :
 ∃ u x,k u (hA.new x hA.nx.nxt) = r∧Promise P ng T L env o u hA.nx x:=by
 unfold cAlloc at hc
 split at hc
 · unfold cAllocT at hc
   split at hc
   · rename_i l g hz hs
     split at hc
     · rename_i hcc
       cases hc
       have hh : hA.newk (.ob (.st t g (.lf l))) (fun b h'=>k (.ptr b 0) h') = r:=hh
       rw [Heap.newk_eq] at hh
       refine ⟨_,_,hh,fun ρ h w a c ρ₀ h₀ w₀ X h6 h7 h8 h9=>?_⟩
       obtain ⟨z,e1,e2,e3⟩:=zeroL_ok hz
       have hlen : l.length = z.cells.size:=by have:=(e2 ρ).length; simpa using this
       have hcel : P.cellsOf t = g:=by unfold sz at hs; simp [Program.cellsOf,hs]
       obtain ⟨g1,g2⟩:=allocV c.rh X h6 h7 h8 h9 (o:=.cells z.cells t) (S:=z.cells.size) (fun g n t ro e=>by cases e) (fun x' e=>by
        cases e
        exact ⟨rfl,rfl,hcc.1,by omega,hcel,stc_lf (e2 ρ) e3 hcc.2⟩) (fun x' e=>by cases e; exact fun _=>⟨z.cells,_,_,rfl,rfl⟩)
       refine ⟨.pointer (some ⟨w.heap.size,0,none⟩),_,_,?_,.ptr (Rho.put_same ρ hA.nx _),g1,g2⟩
       simp [execOp,ho,Instr.alloc,run_zero e1,newVar,newRow]
     · cases hc
   · cases hc
 · exact alloc0_made hc hh hr ho
theorem box_made {x : Operand} {t : TypeId} {ox : OX} (hc : one (locOf T ng) true .box x = some ox) (hh : semOX ox L env hA k = r) (hr : r ≠ .fail) {o : Oper} (ho : o.op = .box t x) :
 ∃ u x,k u (hA.new x hA.nx.nxt) = r∧Promise P ng T L env o u hA.nx x:=by
 obtain ⟨_,loc,hl,rfl⟩:=one_inv hc
 obtain ⟨v,h1,h2⟩:=getk_at (show getk loc L env (fun v=>sBox v hA k) = r from hh) hr
 obtain ⟨n,l,h3,h4⟩:=partsk_det h2 hr
 obtain ⟨hn,h5⟩:=zk_pos h3 hr
 rw [Heap.newk_eq] at h5
 refine ⟨_,_,h5,fun ρ h w a c ρ₀ h₀ w₀ X h6 h7 h8 h9=>?_⟩
 have hv:=locOf_at (v:=v) hl h1 c.tmp c.glob
 obtain ⟨n',l',e1,e2,e3,e4⟩:=partsk_ok (k:=fun n l=>.done .normal (.int .i64 (.ofNat n) :: l) hA) (h4 _) (by simp) hv
 have e1:=done_inj e1
 simp only [List.cons.injEq,V.int.injEq,true_and,Int.ofNat_eq_natCast,Int.natCast_inj] at e1
 obtain ⟨rfl,rfl⟩:=e1
 obtain ⟨g1,g2⟩:=new_cellsV c.rh X h6 h7 h8 h9 hn e2 e4 (by omega) (fun j ch hj=>by
  simp only [_root_.Go.Ev.T.get] at hj
  split at hj
  · subst j; cases hj; exact ⟨by omega,by rw [Nat.zero_mul,List.drop_zero,List.take_of_length_le (by omega)]⟩
  · cases hj) t (fz:=(0,0)) (.inl rfl)
 refine ⟨.pointer (some ⟨w.heap.size,0,none⟩),_,_,?_,?_,g1,g2⟩
 · simp [execOp,ho,Instr.box,newVar,newRow]
 · have:=VR.ptr (o:=0) (Rho.put_same ρ hA.nx (w.heap.size,0,(a.eval x).cells.size))
   simpa using this
theorem buildS_made {t : TypeId} {n : Nat} {ps : Array (Nat × Operand)} {ox : OX} (hc : cBuildS P (locOf T ng) t n ps.toList = some ox) (hh : semOX ox L env hA k = r) (hr : r ≠ .fail) {o : Oper} (ho : o.op = .buildSlice t n ps) :
 ∃ u x,k u (hA.new x hA.nx.nxt) = r∧Promise P ng T L env o u hA.nx x:=by
 unfold cBuildS at hc
 split at hc
 · rename_i e ht
   split at hc
   · rename_i s z m hs hz hm
     split at hc
     · rename_i hcond
       obtain ⟨h1,h2,h3⟩:=hcond
       cases hc
       obtain ⟨l,h4,h5⟩:=getpk_det (show getpk m L env (fun l=>sBuildS s n (repeatL n z) l hA k) = r from hh) hr
       obtain ⟨q,h6,h7⟩:=fillk_det h4 hr
       obtain ⟨tr,h8,h9,h10⟩:=rowk_ok h6 hr
       rw [Heap.newk_eq] at h8
       refine ⟨_,_,h8,fun ρ h w a c ρ₀ h₀ w₀ X h11 h12 h13 h14=>?_⟩
       obtain ⟨zv,e1,e2,e3⟩:=zeroL_ok hz
       have hzs : zv.cells.size = s:=by have:=(e2 ρ).length; rw [h3] at this; simpa using this.symm
       have hcells : ((Array.range (n * s)).map ((if n * s = 0 then #[] else zv.cells)[· % (if n * s = 0 then #[] else zv.cells).size]!)).toList = (List.replicate n zv.cells.toList).flatten:=by
        by_cases h0 : n * s = 0
        · have : n = 0:=by rcases Nat.mul_eq_zero.1 h0 with h | h <;> omega
          subst this; simp
        · simp only [if_neg h0]; exact range_cells hzs h1
       have hv : VRs ρ (repeatL n z) ((Array.range (n * s)).map ((if n * s = 0 then #[] else zv.cells)[· % (if n * s = 0 then #[] else zv.cells).size]!)).toList:=by
        rw [hcells]; exact (e2 ρ).flatten_rep n
       have hv1 : ∀ y ∈ ((Array.range (n * s)).map ((if n * s = 0 then #[] else zv.cells)[· % (if n * s = 0 then #[] else zv.cells).size]!)).toList,y.oneCell' = true:=by
        rw [hcells]
        intro y hy
        obtain ⟨q,hq,hy⟩:=List.mem_flatten.1 hy
        rw [(List.mem_replicate.1 hq).2] at hy
        exact e3 y hy
       obtain ⟨l',f1,f2⟩:=c.parts hm (k:=fun l=>fillk l (repeatL n z) fun q=>.done .normal q hA) (r:=.done .normal q hA) (by rw [h5]; exact h7 _) (by simp)
       have f2 : FillR ρ (fun i=>some (i * s,s)) l' (ps.map fun (i,x)=>(i,a.eval x)).toList:=by
        have e : (fun i=>match sz P e with | some s=>some (i * s,s) | none=>none : Nat→Option (Nat × Nat)) = fun i=>some (i * s,s):=by funext i; rw [hs]
        rw [Array.toList_map,← e]; exact f2
       obtain ⟨q',cells',f3,f4,f5,f6⟩:=fillk_ok f1 (by simp) f2 hv hv1
       obtain rfl:=done_inj f3
       obtain ⟨g1,g2⟩:=new_cellsV c.rh X h11 h12 h13 h14 h1 f5 f6 h9 h10 e (fz:=(0,0)) (.inl rfl)
       refine ⟨.slice (some ⟨w.heap.size,0,none⟩) n n,_,_,?_,?_,g1,g2⟩
       · have hlim' : ¬ n * s > 2 ^ 24:=by omega
         simp only [execOp,ho,Instr.buildSlice,Sem.run_bind,run_und ht,Result.andThen_ok,run_size hs,Sem.run_ite]
         rw [if_neg hlim']
         by_cases h0 : n * s = 0
         · rw [if_pos h0]
           simp only [if_pos h0] at f4
           simp only [Sem.run_pure,Result.andThen_ok,f4]
           simp [newRow]
         · rw [if_neg h0]
           simp only [if_neg h0] at f4
           simp only [run_zero e1,Result.andThen_ok,Sem.run_pure,f4]
           simp [newRow]
       · have:=VR.slice (o:=0) (l:=n) (cp:=some n) (s:=s) (cap:=n) (Rho.put_same ρ hA.nx (w.heap.size,0,cells'.size)) (fun m e=>by cases e; rfl) (fun e=>by cases e) (Nat.le_refl _)
         simpa using this
     · cases hc
   · cases hc
 · cases hc
theorem mkm_made {t : TypeId} {q : Option Operand} {ls : List Loc} (hls : ls.isEmpty = true) (hq : locsOf (locOf T ng) q.toList = some ls) (hh : semOX (.ex .mkm ls) L env hA k = r) (hr : r ≠ .fail) {o : Oper} (ho : o.op = .makeMap t q) :
 ∃ u x,k u (hA.new x hA.nx.nxt) = r∧Promise P ng T L env o u hA.nx x:=by
 obtain rfl : ls = []:=by simpa using hls
 have hq0 : q = none:=by
  cases q with
  | none=>rfl
  | some x=>
    exfalso
    simp only [Option.toList_some,locsOf] at hq
    split at hq <;> simp at hq
 subst hq0
 have hh : hA.newk (.ob (.mp [] 0)) (fun b h'=>k (.map b) h') = r:=hh
 rw [Heap.newk_eq] at hh
 refine ⟨_,_,hh,fun ρ h w a c ρ₀ h₀ w₀ X h6 h7 h8 h9=>?_⟩
 obtain ⟨g1,g2⟩:=allocV c.rh X h6 h7 h8 h9 (o:=.map #[] 0) (S:=0) (fun g n t ro e=>by cases e) (fun x' e=>by cases e; exact ⟨⟨⟨[],.refl _,trivial⟩,.nil,⟨none,by simp⟩,by simp,.nil⟩,rfl⟩)
 exact ⟨.map (some w.heap.size),_,_,by simp [execOp,ho,Instr.makeMap],.map (Rho.put_same ρ hA.nx _),g1,g2⟩
theorem make_made {t : TypeId} {x y : Operand} {ox : OX} (hc : cMake P (locOf T ng) t x y = some ox) (hh : semOX ox L env hA k = r) (hr : r ≠ .fail) {o : Oper} (ho : o.op = .makeSlice t x y) :
 ∃ u x,k u (hA.new x hA.nx.nxt) = r∧Promise P ng T L env o u hA.nx x:=by
 unfold cMake at hc
 split at hc
 · rename_i e g he
   split at hc
   · rename_i z hz
     obtain ⟨hzl,lx,ly,hlx,hly,rfl⟩:=two_inv hc
     have hzl : z.length = g:=by simpa using hzl
     obtain ⟨v,h1,h2⟩:=getk_at (show getk lx L env (fun v=>getk ly L env fun u=>sMake g z v u hA k) = r from hh) hr
     obtain ⟨u,h3,h4⟩:=getk_at h2 hr
     obtain ⟨k1,a1,rfl,h5⟩:=intk_ok h4 hr
     obtain ⟨la,rfl,h6⟩:=natk_ok h5 hr
     obtain ⟨k2,b1,rfl,h7⟩:=intk_ok h6 hr
     obtain ⟨cb,rfl,h8⟩:=natk_ok h7 hr
     obtain ⟨hle,h9⟩:=ifk_fail h8 hr
     obtain ⟨hsm,h10⟩:=ifk_fail h9 hr
     have hle : la ≤ cb:=Nat.le_of_ble_eq_true hle
     have hsm : cb ≤ 16777216:=Nat.le_of_ble_eq_true hsm
     rw [Heap.newk_eq] at h10
     refine ⟨_,_,h10,fun ρ h w a c ρ₀ h₀ w₀ X g1 g2 g3 g4=>?_⟩
     have hl:=locOf_at hlx h1 c.tmp c.glob
     have hcc:=locOf_at hly h3 c.tmp c.glob
     have ht:=chkSl_ok he
     obtain ⟨zv,hz0,hzr,hz1⟩:=zeroL_ok hz
     have hzr:=hzr ρ
     have hpos:=ht.pos
     have hzs : zv.cells.size = g:=by have:=hzr.len_eq; omega
     let cs : Array Value:=(Array.range (cb * g)).map (zv.cells[· % zv.cells.size]!)
     have hcells : cs.toList = (List.replicate cb zv.cells.toList).flatten:=range_cells hzs hpos
     have hcs : cs.size = cb * g:=by simp [cs]
     obtain ⟨r1,r2⟩:=new_cellsV c.rh X g1 g2 g3 g4 hpos (l:=(List.replicate cb z).flatten) (cs:=cs) (by rw [hcells]; exact hzr.flatten_rep cb) (by
      rw [hcells]
      intro y hy
      obtain ⟨q,hq,hy⟩:=List.mem_flatten.1 hy
      rw [(List.mem_replicate.1 hq).2] at hy
      exact hz1 y hy) (by rw [flat_len,hzl]) (fun j ch hj=>by
      rw [repT_eq,_root_.Go.Ev.T.get_rep z cb cb (Nat.le_refl _)] at hj
      split at hj
      · rename_i hlt
        cases hj
        exact ⟨hlt,(flat_chunk hzl hlt).symm⟩
      · cases hj) e (fz:=(0,0)) (.inl rfl)
     obtain ⟨i,hi,hby⟩:=ht.bytes
     have hti : ∀ w : World,(typeInfo e).run P w = .ok i w:=fun w=>by simp [typeInfo,hi]
     refine ⟨.slice (some ⟨w.heap.size,0,none⟩) la cb,_,_,?_,?_,r1,r2⟩
     · have hw1 : IntKind.i64.wrap (la : Int) = la:=wrap_small .i64 _ (by omega) (by show (la : Int) ≤ (9223372036854775807 : Nat); omega)
       have hw2 : IntKind.i64.wrap (cb : Int) = cb:=wrap_small .i64 _ (by omega) (by show (cb : Int) ≤ (9223372036854775807 : Nat); omega)
       have hb1 : (i.bytes : Int) * (cb : Int) ≤ 1099511627776:=by
        have h1 : i.bytes * cb ≤ 65536 * 16777216:=Nat.mul_le_mul hby hsm
        rw [← Int.natCast_mul]; omega
       have hc1 : (decide ((cb : Int) < 0) || decide ((i.bytes : Int) * (cb : Int) > 2 ^ 48) || decide ((la : Int) < 0) || decide ((la : Int) > (cb : Int))) = false:=by
        rw [Bool.or_eq_false_iff,Bool.or_eq_false_iff,Bool.or_eq_false_iff]
        exact ⟨⟨⟨decide_eq_false (by omega),decide_eq_false (by omega)⟩,decide_eq_false (by omega)⟩,decide_eq_false (by omega)⟩
       have ex : execOp a.eval o = (do Pure.pure (.value (← Instr.makeSlice t (a.eval x) (a.eval y))) : Sem Next):=by simp only [execOp,ho]
       rw [ex,hl.int_inv,hcc.int_inv,Sem.run_bind]
       have run : (Instr.makeSlice t (.int k1 (la : Int)) (.int k2 (cb : Int))).run P w = .ok (.slice (some ⟨w.heap.size,0,none⟩) la cb) { w with heap:=w.heap.push (.cells cs e (0,0)) }:=by
        simp only [Instr.makeSlice,Sem.run_bind,run_und ht.und,Result.andThen_ok,asInt,asIntOf,Sem.run_pure,hti,hw1,hw2]
        rw [if_neg (by rw [hc1]; simp)]
        simp only [Sem.run_bind,run_askRoom,Result.andThen_ok,run_size ht.size,Int.toNat_natCast,Sem.run_ite]
        by_cases h0 : cb * g = 0
        · rw [if_pos h0]
          have : cs = #[]:=by
           apply Array.eq_empty_of_size_eq_zero; rw [hcs,h0]
          simp only [Sem.run_pure,Result.andThen_ok,newRow,Sem.run_bind,run_newObj,h0]
          have h2 : (Array.range 0).map (fun x=>(#[] : Array Value)[x % (#[] : Array Value).size]!) = cs:=by rw [this]; simp
          rw [h2]
        · rw [if_neg h0]
          simp only [run_zero hz0,Result.andThen_ok,Sem.run_pure,newRow,Sem.run_bind,run_newObj]
          rfl
       rw [run]
       rfl
     · have:=VR.slice (o:=0) (l:=la) (cp:=some cb) (s:=g) (cap:=cb) (Rho.put_same ρ hA.nx (w.heap.size,0,cs.size)) (fun m e=>by cases e; rfl) (fun e=>by cases e) hle
       simpa using this
   · cases hc
 · cases hc
theorem made_ok {o : Oper} {ox : OX} (hc : cOX P (locOf T ng) o.pos o.op = some ox) (hal : ox.al = true) (hop : (match o.op with | .alloc _ | .box _ _ | .buildSlice _ _ _ | .makeMap _ _ | .makeSlice _ _ _=>true | _=>false) = true)
 (hh : semOX ox L env hA k = r) (hr : r ≠ .fail) : ∃ u x,k u (hA.new x hA.nx.nxt) = r∧Promise P ng T L env o u hA.nx x:=by
 split at hop
 · rename_i t ho
   rw [ho] at hc
   exact alloc_made (show cAlloc P t = some ox from hc) hh hr ho
 · rename_i t x ho
   rw [ho] at hc
   exact box_made (show one (locOf T ng) true .box x = some ox from hc) hh hr ho
 · rename_i t n ps ho
   rw [ho] at hc
   exact buildS_made (show cBuildS P (locOf T ng) t n ps.toList = some ox from hc) hh hr ho
 · rename_i t q ho
   rw [ho] at hc
   have hc : cEX P (locOf T ng) (.makeMap t q) = some ox:=hc
   unfold cEX at hc
   simp only at hc
   split at hc
   · obtain ⟨ls,e1,rfl⟩:=Option.map_eq_some_iff.1 hc
     exact mkm_made (show ls.isEmpty = true from hal) e1 hh hr ho
   · cases hc
 · rename_i t x y ho
   rw [ho] at hc
   exact make_made (show cMake P (locOf T ng) t x y = some ox from hc) hh hr ho
 · cases hop
end made
end Go.Ev

/- EVALUATOR: operations that do not look into the memory: run over another memory they come to the same. -/
namespace Go.Ev
variable {g : Res→Res}
section nat
theorem ifk_nat (g : Res→Res) (b : Bool) (x y : Res) : g (ifk b x y) = ifk b (g x) (g y):=by cases b <;> rfl
theorem bk_nat (g : Res→Res) (b : Bool) (k : V→Res) : g (bk b k) = bk b fun u=>g (k u):=rfl
theorem wrapk_nat (g : Res→Res) (kd : IntKind) (n : Int) (k : Int→Res) : g (wrapk kd n k) = wrapk kd n fun m=>g (k m):=rfl
theorem forceI_nat (n : Int) (k : Int→Res) : g (forceI n k) = forceI n fun a=>g (k a):=by rw [forceI_eq,forceI_eq]
variable (hg : g .fail = .fail)
include hg
theorem intk_nat (x : V) (k : IntKind→Int→Res) : g (intk x k) = intk x fun a b=>g (k a b):=by cases x <;> first | exact hg | rfl
theorem boolk_nat (x : V) (k : Bool→Res) : g (boolk x k) = boolk x fun a=>g (k a):=by cases x <;> first | exact hg | rfl
theorem strk_nat (x : V) (k : Nat→Nat→Res) : g (strk x k) = strk x fun a b=>g (k a b):=by cases x <;> first | exact hg | rfl
theorem ptrk_nat (x : V) (k : Bid→Nat→Res) : g (ptrk x k) = ptrk x fun a b=>g (k a b):=by cases x <;> first | exact hg | rfl
theorem aggk_nat (x : V) (k : Nat→List V→Res) : g (aggk x k) = aggk x fun a b=>g (k a b):=by cases x <;> first | exact hg | rfl
theorem tupk_nat (x : V) (k : List V→Res) : g (tupk x k) = tupk x fun a=>g (k a):=by cases x <;> first | exact hg | rfl
theorem slk_nat (x : V) (k : Bid→Nat→Nat→Option Nat→Nat→Res) (y z : Res) : g (slk x k y z) = slk x (fun a b c d e=>g (k a b c d e)) (g y) (g z):=by cases x <;> first | exact hg | rfl
theorem pnk_nat (x : V) (k : Bool→Res) : g (pnk x k) = pnk x fun a=>g (k a):=by cases x <;> first | exact hg | rfl
theorem snk_nat (x : V) (k : Bool→Res) : g (snk x k) = snk x fun a=>g (k a):=by cases x <;> first | exact hg | rfl
theorem mnk_nat (x : V) (k : Bool→Res) : g (mnk x k) = mnk x fun a=>g (k a):=by cases x <;> first | exact hg | rfl
theorem fnk0_nat (x : V) (k : Bool→Res) : g (fnk0 x k) = fnk0 x fun a=>g (k a):=by cases x <;> first | exact hg | rfl
theorem ink_nat (x : V) (k : Bool→Res) : g (ink x k) = ink x fun a=>g (k a):=by cases x <;> first | exact hg | rfl
theorem natk_nat (i : Int) (k : Nat→Res) : g (natk i k) = natk i fun a=>g (k a):=by cases i <;> first | exact hg | rfl
theorem nthk_nat (l : List V) (i : Nat) (k : V→Res) : g (nthk l i k) = nthk l i fun a=>g (k a):=by
 induction l generalizing i with
 | nil=>exact hg
 | cons v l ih=>
   cases i with
   | zero=>rfl
   | succ j=>exact ih j
theorem takek_nat (n : Nat) (l : List V) (k : List V→List V→Res) : g (takek n l k) = takek n l fun a b=>g (k a b):=by
 induction n generalizing l k with
 | zero=>rfl
 | succ n ih=>
   cases l with
   | nil=>exact hg
   | cons v l=>exact ih l fun a b=>k (v :: a) b
omit hg in
theorem appk_nat (g : Res→Res) (l m : List V) (k : List V→Res) : g (appk l m k) = appk l m fun a=>g (k a):=by rw [appk_eq,appk_eq]
theorem lenk_nat (x : V) (k : Nat→Res) : g (lenk x k) = lenk x fun a=>g (k a):=by unfold lenk; rw [slk_nat hg]
theorem getk_nat (x : Loc) (L : List V) (env : Env) (k : V→Res) : g (getk x L env k) = getk x L env fun a=>g (k a):=by
 cases x with
 | s i=>exact nthk_nat hg L i k
 | e x=>
   obtain ⟨a,b⟩:=x
   show g (selR a env fun row=>selV b row k) = selR a env fun row=>selV b row fun u=>g (k u)
   rw [selR_eq,selV_eq,selR_eq,selV_eq]
 | k v=>rfl
theorem getsk_nat (xs : List Loc) (L : List V) (env : Env) (k : List V→Res) : g (getsk xs L env k) = getsk xs L env fun a=>g (k a):=by
 induction xs generalizing k with
 | nil=>rfl
 | cons x xs ih=>
   show g (getk x L env fun v=>getsk xs L env fun l=>k (v :: l)) = getk x L env fun v=>getsk xs L env fun l=>g (k (v :: l))
   rw [getk_nat hg]
   congr 1; funext v; exact ih _
theorem getpk_nat (ps : List (Nat × Nat × Loc)) (L : List V) (env : Env) (k : List (Nat × Nat × V)→Res) : g (getpk ps L env k) = getpk ps L env fun a=>g (k a):=by
 induction ps generalizing k with
 | nil=>rfl
 | cons p ps ih=>
   obtain ⟨a,b,x⟩:=p
   show g (getk x L env fun v=>getpk ps L env fun l=>k ((a,b,v) :: l)) = getk x L env fun v=>getpk ps L env fun l=>g (k ((a,b,v) :: l))
   rw [getk_nat hg]
   congr 1; funext v; exact ih _
theorem getok_nat (x : Option Loc) (L : List V) (env : Env) (k : Option V→Res) : g (getok x L env k) = getok x L env fun a=>g (k a):=by
 cases x with
 | none=>rfl
 | some x=>exact getk_nat hg x L env fun v=>k (some v)
theorem bndk_nat (x : Option V) (z : Nat) (k : Nat→Res) : g (bndk x z k) = bndk x z fun a=>g (k a):=by
 cases x with
 | none=>rfl
 | some v=>
   show g (intk v fun _ n=>natk n k) = intk v fun _ n=>natk n fun a=>g (k a)
   rw [intk_nat hg]
   congr 1; funext _ n; exact natk_nat hg n k
theorem partsk_nat (x : V) (k : Nat→List V→Res) : g (partsk x k) = partsk x fun a b=>g (k a b):=by cases x <;> first | exact hg | rfl
theorem fillk_nat (ps : List (Nat × Nat × V)) (cur : List V) (k : List V→Res) : g (fillk ps cur k) = fillk ps cur fun a=>g (k a):=by
 induction ps generalizing cur with
 | nil=>rfl
 | cons p ps ih=>
   obtain ⟨off,n,x⟩:=p
   show g (partsk x fun m l=>ifk (Nat.beq m n) (takek off cur fun a rest=>takek n rest fun _ b=>appk l b fun c=>appk a c fun cur'=>fillk ps cur' k) .fail) =
    partsk x fun m l=>ifk (Nat.beq m n) (takek off cur fun a rest=>takek n rest fun _ b=>appk l b fun c=>appk a c fun cur'=>fillk ps cur' fun a=>g (k a)) .fail
   simp only [partsk_nat hg,ifk_nat g,takek_nat hg,appk_nat g,ih,hg]
theorem ksel_nat (kd k0 : IntKind) (x : Res) : g (ksel kd k0 x) = ksel kd k0 (g x):=by cases kd <;> cases k0 <;> first | rfl | exact hg
theorem cast1_nat (s : Sh1) (v : V) (k : V→Res) : g (cast1 s v k) = cast1 s v fun a=>g (k a):=by
 cases s with
 | any=>rfl
 | bool=>exact boolk_nat hg v fun b=>k (.bool b)
 | int kd=>
   show g (intk v fun k0 n=>ksel kd k0 (k (.int kd n))) = intk v fun k0 n=>ksel kd k0 (g (k (.int kd n)))
   simp only [intk_nat hg,ksel_nat hg]
 | intF kd=>
   show g (intk v fun k0 n=>ksel kd k0 (forceI n fun n=>k (.int kd n))) = intk v fun k0 n=>ksel kd k0 (forceI n fun n=>g (k (.int kd n)))
   simp only [intk_nat hg,ksel_nat hg,forceI_nat]
 | str=>exact strk_nat hg v fun l n=>k (.str l n)
theorem castsk_nat (l : List Sh1) (vs : List V) (k : List V→Res) : g (castsk l vs k) = castsk l vs fun a=>g (k a):=by
 induction l generalizing vs k with
 | nil=>cases vs with
   | nil=>rfl
   | cons _ _=>exact hg
 | cons s l ih=>
   cases vs with
   | nil=>exact hg
   | cons v m=>
     show g (cast1 s v fun v=>castsk l m fun m=>k (v :: m)) = cast1 s v fun v=>castsk l m fun m=>g (k (v :: m))
     rw [cast1_nat hg]
     congr 1; funext v; exact ih m _
theorem castk_nat (s : Sh) (v : V) (k : V→Res) : g (castk s v k) = castk s v fun a=>g (k a):=by
 cases s with
 | one s=>exact cast1_nat hg s v k
 | tup l=>
   show g (tupk v fun vs=>castsk l vs fun vs=>k (.tup vs)) = tupk v fun vs=>castsk l vs fun vs=>g (k (.tup vs))
   simp only [tupk_nat hg,castsk_nat hg]
 | agg n l=>
   show g (aggk v fun m vs=>ifk (Nat.beq m n) (castsk l vs fun vs=>k (.agg n vs)) .fail) = aggk v fun m vs=>ifk (Nat.beq m n) (castsk l vs fun vs=>g (k (.agg n vs))) .fail
   simp only [aggk_nat hg,ifk_nat g,castsk_nat hg,hg]
theorem notIf_nat (o : BinOp) (b : Bool) (k : V→Res) : g (notIf o b k) = notIf o b fun a=>g (k a):=by cases o <;> first | exact hg | rfl
theorem arith_nat (f : Int→Int→Int) (x y : V) (k : V→Res) : g (arith f x y k) = arith f x y fun a=>g (k a):=by simp only [arith,intk_nat hg,ifk_nat g,hg,wrapk_nat g]
theorem cmpi_nat (f : Int→Int→Bool) (x y : V) (k : V→Res) : g (cmpi f x y k) = cmpi f x y fun a=>g (k a):=by simp only [cmpi,intk_nat hg,ifk_nat g,hg,bk_nat g]
theorem bits2_nat (f : IntKind→Int→Int→Int) (x y : V) (k : V→Res) : g (bits2 f x y k) = bits2 f x y fun a=>g (k a):=by simp only [bits2,intk_nat hg,ifk_nat g,hg]
theorem divk_nat (f : Int→Int→Int) (x y : V) (k : V→Res) : g (divk f x y k) = divk f x y fun a=>g (k a):=by simp only [divk,intk_nat hg,ifk_nat g,hg]
theorem quok_nat (x y : V) (k : V→Res) : g (quok x y k) = quok x y fun a=>g (k a):=by simp only [quok,intk_nat hg,ifk_nat g,hg,wrapk_nat g]
theorem shlk_nat (x y : V) (k : V→Res) : g (shlk x y k) = shlk x y fun a=>g (k a):=by simp only [shlk,intk_nat hg,natk_nat hg,wrapk_nat g]
theorem shrk_nat (x y : V) (k : V→Res) : g (shrk x y k) = shrk x y fun a=>g (k a):=by simp only [shrk,intk_nat hg,natk_nat hg]
theorem cats_nat (x y : V) (k : V→Res) : g (cats x y k) = cats x y fun a=>g (k a):=by simp only [cats,strk_nat hg,short,ifk_nat g,hg]
theorem cmps_nat (f : Nat→Nat→Nat→Nat→Bool) (x y : V) (k : V→Res) : g (cmps f x y k) = cmps f x y fun a=>g (k a):=by simp only [cmps,strk_nat hg,bk_nat g]
theorem binI_nat (o : BinOp) (x y : V) (k : V→Res) : g (binI o x y k) = binI o x y fun a=>g (k a):=by
 cases o <;> first | exact hg | exact arith_nat hg _ x y k | exact quok_nat hg x y k | exact divk_nat hg _ x y k | exact bits2_nat hg _ x y k | exact shlk_nat hg x y k | exact shrk_nat hg x y k | exact cmpi_nat hg _ x y k
theorem binS_nat (o : BinOp) (x y : V) (k : V→Res) : g (binS o x y k) = binS o x y fun a=>g (k a):=by
 cases o <;> first | exact hg | exact cats_nat hg x y k | exact cmps_nat hg _ x y k
end nat
def OX.pure : OX→Bool
 | .mv _ | .pick _ _ _ | .build _ _ _ | .nil _ | .binI _ _ _ | .binS _ _ _ | .binB _ _ _ | .binP _ _ _ | .binL _ _ _ | .binM _ _ _ | .binF _ _ _ | .binE _ _ _ | .neg _ | .not _ | .com _ | .convI _ _ | .convS _
 | .mkif _ _ | .mkfn _ _ | .sliS _ _ _ | .sliA _ _ _ _ _ | .faddr _ _ | .fld1 _ _ | .fldN _ _ _ | .iaddr _ _ _ | .iaddrA _ _ _ _ | .idxS _ _ | .idxA _ _ _ _ | .extract _ _ | .len _ | .lenS _ | .mm _ _ _=>true
 | _=>false
theorem OX.pure_heap {x : OX} (hx : x.pure = true) (L : List V) (env : Env) (h h' : Heap) (k : V→Heap→Res) : semOX x L env h k = semOX x L env h' fun u _=>k u h:=by
 cases x <;> first | (cases hx; done) | rfl
theorem OX.pure_nat {x : OX} (hx : x.pure = true) {g : Res→Res} (hg : g .fail = .fail) (L : List V) (env : Env) (h : Heap) (k : V→Res) : g (semOX x L env h fun u _=>k u) = semOX x L env h fun u _=>g (k u):=by
 cases x <;> first | (cases hx; done) | skip
 case mv x=>exact getk_nat hg x L env k
 case pick c a b=>show g (getk c L env fun v=>boolk v fun t=>getk a L env fun u=>getk b L env fun u'=>k (pickv t u u')) = getk c L env fun v=>boolk v fun t=>getk a L env fun u=>getk b L env fun u'=>g (k (pickv t u u')); simp only [getk_nat hg,boolk_nat hg]
 case build n t ps=>show g (getpk ps L env fun l=>fillk l t fun l=>k (.agg n l)) = getpk ps L env fun l=>fillk l t fun l=>g (k (.agg n l)); simp only [getpk_nat hg,fillk_nat hg]
 case nil x=>show g (getk x L env fun v=>ptrk v fun b o=>k (.ptr b o)) = getk x L env fun v=>ptrk v fun b o=>g (k (.ptr b o)); simp only [getk_nat hg,ptrk_nat hg]
 case binI o x y=>show g (getk x L env fun v=>getk y L env fun u=>Go.Ev.binI o v u fun z=>k z) = getk x L env fun v=>getk y L env fun u=>Go.Ev.binI o v u fun z=>g (k z); simp only [getk_nat hg,binI_nat hg]
 case binS o x y=>show g (getk x L env fun v=>getk y L env fun u=>Go.Ev.binS o v u fun z=>k z) = getk x L env fun v=>getk y L env fun u=>Go.Ev.binS o v u fun z=>g (k z); simp only [getk_nat hg,binS_nat hg]
 case binB o x y=>show g (getk x L env fun v=>getk y L env fun u=>boolk v fun a=>boolk u fun b=>notIf o (beqk a b) fun z=>k z) = getk x L env fun v=>getk y L env fun u=>boolk v fun a=>boolk u fun b=>notIf o (beqk a b) fun z=>g (k z); simp only [getk_nat hg,boolk_nat hg,notIf_nat hg]
 case binP o x y=>show g (getk x L env fun v=>getk y L env fun u=>pnk v fun a=>pnk u fun b=>ifk a (notIf o b fun z=>k z) (ifk b (notIf o false fun z=>k z) .fail)) = getk x L env fun v=>getk y L env fun u=>pnk v fun a=>pnk u fun b=>ifk a (notIf o b fun z=>g (k z)) (ifk b (notIf o false fun z=>g (k z)) .fail); simp only [getk_nat hg,pnk_nat hg,ifk_nat g,notIf_nat hg,hg]
 case binL o x y=>show g (getk x L env fun v=>getk y L env fun u=>snk v fun a=>snk u fun b=>ifk a (notIf o b fun z=>k z) (ifk b (notIf o false fun z=>k z) .fail)) = getk x L env fun v=>getk y L env fun u=>snk v fun a=>snk u fun b=>ifk a (notIf o b fun z=>g (k z)) (ifk b (notIf o false fun z=>g (k z)) .fail); simp only [getk_nat hg,snk_nat hg,ifk_nat g,notIf_nat hg,hg]
 case binM o x y=>show g (getk x L env fun v=>getk y L env fun u=>mnk v fun a=>mnk u fun b=>ifk a (notIf o b fun z=>k z) (ifk b (notIf o false fun z=>k z) .fail)) = getk x L env fun v=>getk y L env fun u=>mnk v fun a=>mnk u fun b=>ifk a (notIf o b fun z=>g (k z)) (ifk b (notIf o false fun z=>g (k z)) .fail); simp only [getk_nat hg,mnk_nat hg,ifk_nat g,notIf_nat hg,hg]
 case binF o x y=>show g (getk x L env fun v=>getk y L env fun u=>fnk0 v fun a=>fnk0 u fun b=>ifk a (notIf o b fun z=>k z) (ifk b (notIf o false fun z=>k z) .fail)) = getk x L env fun v=>getk y L env fun u=>fnk0 v fun a=>fnk0 u fun b=>ifk a (notIf o b fun z=>g (k z)) (ifk b (notIf o false fun z=>g (k z)) .fail); simp only [getk_nat hg,fnk0_nat hg,ifk_nat g,notIf_nat hg,hg]
 case binE o x y=>show g (getk x L env fun v=>getk y L env fun u=>ink v fun a=>ink u fun b=>ifk a (notIf o b fun z=>k z) (ifk b (notIf o false fun z=>k z) .fail)) = getk x L env fun v=>getk y L env fun u=>ink v fun a=>ink u fun b=>ifk a (notIf o b fun z=>g (k z)) (ifk b (notIf o false fun z=>g (k z)) .fail); simp only [getk_nat hg,ink_nat hg,ifk_nat g,notIf_nat hg,hg]
 case neg x=>show g (getk x L env fun v=>intk v fun kd n=>wrapk kd (Int.sub 0 n) fun m=>k (.int kd m)) = getk x L env fun v=>intk v fun kd n=>wrapk kd (Int.sub 0 n) fun m=>g (k (.int kd m)); simp only [getk_nat hg,intk_nat hg,wrapk_nat g]
 case not x=>show g (getk x L env fun v=>boolk v fun b=>bk (Bool.not b) fun u=>k u) = getk x L env fun v=>boolk v fun b=>bk (Bool.not b) fun u=>g (k u); simp only [getk_nat hg,boolk_nat hg,bk_nat g]
 case com x=>show g (getk x L env fun v=>intk v fun kd n=>k (.int kd (comv kd n))) = getk x L env fun v=>intk v fun kd n=>g (k (.int kd (comv kd n))); simp only [getk_nat hg,intk_nat hg]
 case convI kd x=>show g (getk x L env fun v=>intk v fun _ n=>wrapk kd n fun m=>k (.int kd m)) = getk x L env fun v=>intk v fun _ n=>wrapk kd n fun m=>g (k (.int kd m)); simp only [getk_nat hg,intk_nat hg,wrapk_nat g]
 case convS x=>show g (getk x L env fun v=>strk v fun l n=>k (.str l n)) = getk x L env fun v=>strk v fun l n=>g (k (.str l n)); simp only [getk_nat hg,strk_nat hg]
 case mkif t x=>show g (getk x L env fun v=>k (.iface t v)) = getk x L env fun v=>g (k (.iface t v)); simp only [getk_nat hg]
 case mkfn f c=>show g (getsk c L env fun l=>k (.func f l)) = getsk c L env fun l=>g (k (.func f l)); simp only [getsk_nat hg]
 case sliS x a b=>show g (getk x L env fun v=>getok a L env fun p=>getok b L env fun q=>sSliceS v p q h fun u _=>k u) = getk x L env fun v=>getok a L env fun p=>getok b L env fun q=>sSliceS v p q h fun u _=>g (k u); simp only [getk_nat hg,getok_nat hg,sSliceS,strk_nat hg,bndk_nat hg,ifk_nat g,hg]
 case sliA n s x a b=>show g (getk x L env fun v=>getok a L env fun p=>getok b L env fun q=>sSliceA n s v p q h fun u _=>k u) = getk x L env fun v=>getok a L env fun p=>getok b L env fun q=>sSliceA n s v p q h fun u _=>g (k u); simp only [getk_nat hg,getok_nat hg,sSliceA,ptrk_nat hg,bndk_nat hg,ifk_nat g,hg]
 case faddr off x=>show g (getk x L env fun v=>ptrk v fun b o=>k (.ptr b (addc o off))) = getk x L env fun v=>ptrk v fun b o=>g (k (.ptr b (addc o off))); simp only [getk_nat hg,ptrk_nat hg]
 case fld1 off x=>show g (getk x L env fun v=>aggk v fun _ l=>nthk l off fun u=>k u) = getk x L env fun v=>aggk v fun _ l=>nthk l off fun u=>g (k u); simp only [getk_nat hg,aggk_nat hg,nthk_nat hg]
 case fldN off n x=>show g (getk x L env fun v=>aggk v fun _ l=>takek off l fun _ rest=>takek n rest fun p _=>k (.agg n p)) = getk x L env fun v=>aggk v fun _ l=>takek off l fun _ rest=>takek n rest fun p _=>g (k (.agg n p)); simp only [getk_nat hg,aggk_nat hg,takek_nat hg]
 case iaddr s x i=>show g (getk x L env fun v=>getk i L env fun u=>sIaddr s v u h fun u _=>k u) = getk x L env fun v=>getk i L env fun u=>sIaddr s v u h fun u _=>g (k u); simp only [getk_nat hg,sIaddr,slk_nat hg,intk_nat hg,natk_nat hg,ifk_nat g,hg]
 case iaddrA n s x i=>show g (getk x L env fun v=>getk i L env fun u=>sIaddrA n s v u h fun u _=>k u) = getk x L env fun v=>getk i L env fun u=>sIaddrA n s v u h fun u _=>g (k u); simp only [getk_nat hg,sIaddrA,ptrk_nat hg,intk_nat hg,natk_nat hg,ifk_nat g,hg]
 case idxS x i=>show g (getk x L env fun v=>getk i L env fun u=>sIdxS v u h fun u _=>k u) = getk x L env fun v=>getk i L env fun u=>sIdxS v u h fun u _=>g (k u); simp only [getk_nat hg,sIdxS,strk_nat hg,intk_nat hg,natk_nat hg,ifk_nat g,hg]
 case idxA n s x i=>show g (getk x L env fun v=>getk i L env fun u=>sIdxA n s v u h fun u _=>k u) = getk x L env fun v=>getk i L env fun u=>sIdxA n s v u h fun u _=>g (k u); simp only [getk_nat hg,sIdxA,aggk_nat hg,intk_nat hg,natk_nat hg,nthk_nat hg,ifk_nat g,hg]
 case extract i x=>show g (getk x L env fun v=>tupk v fun l=>nthk l i fun u=>k u) = getk x L env fun v=>tupk v fun l=>nthk l i fun u=>g (k u); simp only [getk_nat hg,tupk_nat hg,nthk_nat hg]
 case len x=>show g (getk x L env fun v=>lenk v fun l=>k (.int .i64 (.ofNat l))) = getk x L env fun v=>lenk v fun l=>g (k (.int .i64 (.ofNat l))); simp only [getk_nat hg,lenk_nat hg]
 case lenS x=>show g (getk x L env fun v=>strk v fun l _=>k (.int .i64 (.ofNat l))) = getk x L env fun v=>strk v fun l _=>g (k (.int .i64 (.ofNat l))); simp only [getk_nat hg,strk_nat hg]
 case mm b x y=>show g (getk x L env fun v=>getk y L env fun u=>sMM b v u h fun u _=>k u) = getk x L env fun v=>getk y L env fun u=>sMM b v u h fun u _=>g (k u); simp only [getk_nat hg,sMM,intk_nat hg,ifk_nat g,hg]
def VI.pure : VI→Bool
 | .op x=>x.pure
 | .cast _ (.op x)=>x.pure
 | _=>false
noncomputable def reheap (h : Heap) (r : Res) : Res:=Res.rec (motive:=fun _=>Res) .fail (fun _ _ _=>.fail) (fun v _=>.ret v h) (fun _ _=>.fail) (fun _ _ _ _=>.fail) r
theorem pure_again {cf : CF} {v : VI} (hv : v.pure = true) {L : List V} {env : Env} {h h₁ : Heap} {u : V} (hh : runVI cf v L env h .ret .pan = .ret u h₁) (h' : Heap) : runVI cf v L env h' .ret .pan = .ret u h':=by
 have key : ∀ (x : OX) (c : V→(V→Res)→Res),x.pure = true→(∀ (g : Res→Res),g .fail = .fail→∀ v k,g (c v k) = c v fun a=>g (k a)) →
  semOX x L env h (fun u h'=>c u fun u=>.ret u h') = .ret u h₁→semOX x L env h' (fun u h'=>c u fun u=>.ret u h') = .ret u h':=by
  intro x c hx hc e
  rw [OX.pure_heap hx L env h h] at e
  rw [OX.pure_heap hx L env h' h]
  have e2:=congrArg (reheap h') e
  rw [OX.pure_nat hx (g:=reheap h') rfl] at e2
  simp only [hc (reheap h') rfl] at e2
  exact e2
 cases v with
 | op x=>exact key x (fun v k=>k v) hv (fun _ _ _ _=>rfl) hh
 | cast s i=>
   cases i with
   | op x=>exact key x (castk s) hv (fun g hg v k=>castk_nat hg s v k) hh
   | _=>cases hv
 | _=>cases hv
end Go.Ev
