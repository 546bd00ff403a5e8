/- EvPO: texts joined. -/
import Derived.Test.YtobbabhldblljaaGreatDoorEvDraw3
/- EVALUATOR, 23: code and functions. -/
namespace Go.Ev
variable {P : Program}
inductive PC where
 | skip
 | seq (x y : PC)
 | cond (c : Loc) (x y : PC)
 | block (id : Nat) (x : PC)
 | loop (x : PC)
 | exit (id : Nat)
 | ret
 | reg (l : List RI)
 | draw (l : List DI) (o : List (Slot × Nat))
 | jn (abn : Bool) (sl : List (Slot × Sh1)) (x y : PC)
 | lpv (sl : List (Slot × Sh1)) (x : PC)
 | stop (x : PC)
 | np (x : PC)
 | dead
 | rf (id inl : Nat) (f : Loc)
 | rfa (id inl mask : Nat) (f : Loc)
 | draw2 (l1 : List DI) (o1 : List (Slot × Nat)) (l2 : List DI) (o2 : List (Slot × Nat))
def PC.strip : PC→PC
 | .seq x y=>.seq x.strip y.strip
 | .cond c x y=>.cond c x.strip y.strip
 | .block id x=>.block id x.strip
 | .loop x=>.loop x.strip
 | .jn _ _ x y=>.seq x.strip y.strip
 | .lpv _ x=>.loop x.strip
 | .stop x=>x.strip
 | .np x=>x.strip
 | .rfa id inl _ f=>.rf id inl f
 | x=>x
def PC.plain : PC→Prop
 | .stop _ | .np _=>False
 | _=>True
theorem strip_seq {pc p q : PC} (hn : pc.plain) (h : PC.seq p q = pc.strip) : (∃ p' q',pc = .seq p' q'∧p = p'.strip∧q = q'.strip) ∨ ∃ abn sl p' q',pc = .jn abn sl p' q'∧p = p'.strip∧q = q'.strip:=by
 cases pc <;> simp only [PC.strip,PC.seq.injEq,reduceCtorEq,PC.plain] at h hn
 · exact .inl ⟨_,_,rfl,h⟩
 · exact .inr ⟨_,_,_,_,rfl,h⟩
theorem strip_cond {pc p q : PC} {c : Loc} (hn : pc.plain) (h : PC.cond c p q = pc.strip) : ∃ p' q',pc = .cond c p' q'∧p = p'.strip∧q = q'.strip:=by
 cases pc <;> simp only [PC.strip,PC.cond.injEq,reduceCtorEq,PC.plain] at h hn
 obtain ⟨rfl,h⟩:=h
 exact ⟨_,_,rfl,h⟩
theorem strip_block {pc p : PC} {id : Nat} (hn : pc.plain) (h : PC.block id p = pc.strip) : ∃ p',pc = .block id p'∧p = p'.strip:=by
 cases pc <;> simp only [PC.strip,PC.block.injEq,reduceCtorEq,PC.plain] at h hn
 obtain ⟨rfl,h⟩:=h
 exact ⟨_,rfl,h⟩
theorem strip_loop {pc p : PC} (hn : pc.plain) (h : PC.loop p = pc.strip) : (∃ p',pc = .loop p'∧p = p'.strip) ∨ ∃ sl p',pc = .lpv sl p'∧p = p'.strip:=by
 cases pc <;> simp only [PC.strip,PC.loop.injEq,reduceCtorEq,PC.plain] at h hn
 · exact .inl ⟨_,rfl,h⟩
 · exact .inr ⟨_,_,rfl,h⟩
noncomputable def nork (x : Ex) (a b : Res) : Res:=Ex.rec (motive:=fun _=>Res) a (fun _=>b) b (fun _=>b) x
noncomputable def exk (id : Nat) (x : Ex) (a b : Res) : Res:=Ex.rec (motive:=fun _=>Res) b (fun i=>ifk (Nat.beq i id) a b) b (fun _=>b) x
noncomputable def loopk (body : Env→Heap→Kont→Res) (n : Nat) (env : Env) (h : Heap) (K : Kont) : Res:=
 Nat.rec (motive:=fun _=>Env→Heap→Res) (fun _ _=>.fail) (fun _ again env h=>body env h fun x env' h'=>nork x (again env' h') (K x env' h')) n env h
noncomputable def savek (sl : List (Slot × Sh1)) (env : Env) (k : List V→Res) : Res:=
 List.rec (motive:=fun _=>(List V→Res)→Res) (fun k=>k []) (fun p _ ih k=>Prod.rec (motive:=fun _=>Res) (fun x _=>getk (.e x) [] env fun v=>ih fun l=>k (v :: l)) p) sl k
noncomputable def putsk (sl : List (Slot × Sh1)) (vs : List V) (env : Env) (k : Env→Res) : Res:=
 List.rec (motive:=fun _=>List V→Env→Res) (fun vs env=>nilk' vs (k env))
  (fun p _ ih vs env=>Prod.rec (motive:=fun _=>Res) (fun x s=>unc vs fun v vs=>cast1 s v fun v=>envk env x v fun env=>ih vs env) p) sl vs env
def anys (sl : List (Slot × Sh1)) : List (Slot × Sh1):=sl.map fun p=>(p.1,.any)
noncomputable def contk (r : Res) (k : Ex→List V→Heap→Res) : Res:=Res.rec (motive:=fun _=>Res) .fail k (fun _ _=>.fail) (fun _ _=>.fail) (fun _ _ a b=>mergk a b) r
theorem contk_le {k : Ex→List V→Heap→Res} {x : Res} : ∀ {q : Res},Leaf x q→Le (contk x k) (contk q k)
 | .alt a b,h=>h.elim (fun h=>(contk_le (q:=a) h).trans (mergk_l (q:=contk a k))) fun h=>(contk_le (q:=b) h).trans (mergk_r (q:=contk a k))
 | .fail,h=>by cases h; exact .refl _
 | .done e vs h0,h=>by cases h; exact .refl _
 | .ret v h0,h=>by cases h; exact .refl _
 | .pan v h0,h=>by cases h; exact .refl _
theorem contk_fine {q : Res} {k : Ex→List V→Heap→Res} (h : Fine (contk q k)) : Fine q:=fun e=>h (contk_le (k:=k) e _ rfl)
noncomputable def lpk (body : (List V→Heap→Res)→List V→Heap→Res) (n : Nat) (vs : List V) (h : Heap) : Res:=
 Nat.rec (motive:=fun _=>List V→Heap→Res) (fun _ _=>.fail) (fun _ again=>body again) n vs h
noncomputable def env0 : Env:=N.all (N.all .und)
noncomputable def npk (x : Ex) (a : Res) : Res:=Ex.rec (motive:=fun _=>Res) a (fun _=>a) a (fun _=>.fail) x
theorem npk_ok {x : Ex} {a r : Res} (h : npk x a = r) (hr : r ≠ .fail) : a = r:=by
 cases x with
 | pan v=>exact absurd h.symm hr
 | _=>exact h
def maskSl (mask : Nat) : List (Slot × Sh1):=(maskL mask).map fun t=>(⟨D.ofNat (t / 16),D.ofNat (t % 16)⟩,.any)
noncomputable def pendk (pd : Nat) (a b : Res) (c : Nat→Res) : Res:=Nat.rec (motive:=fun _=>Res) a (fun m _=>Nat.rec (motive:=fun _=>Res) b (fun i _=>c i) m) pd
noncomputable def leftk (st : Nat) (x : Res) : Res:=Nat.rec (motive:=fun _=>Res) x (fun m _=>Nat.rec (motive:=fun _=>Res) .fail (fun _ _=>x) m) st
noncomputable def rangek (cf : CF) (id mask : Nat) (fv : V) (vs : List V) (h : Heap) (K : Ex→Heap→Res) : Res:=
 h.newk (.ob (.lp id mask vs 0 0)) fun b h1=>backk (callf cf fv [.func 4294967296 [.ptr b 0]] h1 fun _=>.fail)
  (fun _ h2=>h2.getk b fun y=>obk y fun y=>lpq y fun _ _ _ st pd=>leftk st (h2.turnk b .none fun h3=>pendk pd (K .normal h3) (K .ret h3) fun i=>K (.exit i) h3))
  (fun u h2=>K (.pan u) h2)
noncomputable def firsts (o : List (Slot × Nat)) : List Slot:=List.rec (motive:=fun _=>List Slot) [] (fun p _ ih=>Prod.rec (motive:=fun _=>List Slot) (fun x _=>x :: ih) p) o
theorem firsts_eq (o : List (Slot × Nat)) : firsts o = o.map (·.1):=by
 induction o with
 | nil=>rfl
 | cons p o ih=>
   obtain ⟨x,n⟩:=p
   show x :: firsts o = _
   rw [ih]; rfl
noncomputable def bothk (q1 q2 : Res) (k : List V→Heap→Res) : Res:=reqk q2 q1 (contk q1 fun x vs h=>nork x (k vs h) .fail)
theorem bothk_ok {q1 q2 r : Res} {k : List V→Heap→Res} (h : bothk q1 q2 k = r) (hr : r ≠ .fail) : q2 = q1∧Fine q1∧∀ vs h',Leaf (.done .normal vs h') q1→Le (k vs h') r:=by
 obtain ⟨rfl,h1⟩:=reqk_ok h hr
 cases q2 with
 | alt a b=>exact absurd h.symm hr
 | fail=>exact absurd h.symm hr
 | ret v h0=>exact ⟨rfl,(fun e=>by cases e),fun vs h' e=>by cases e⟩
 | pan v h0=>exact ⟨rfl,(fun e=>by cases e),fun vs h' e=>by cases e⟩
 | done e vs0 h0=>exact ⟨rfl,(fun e=>by cases e),fun vs h' e=>by cases e; exact .of_eq h1⟩
noncomputable def runCg (sem : OX→Do) (cf : CF) (n : Nat) (c : PC) (env : Env) (h : Heap) (K : Kont) : Res:=
 PC.rec (motive:=fun _=>Env→Heap→Kont→Res)
  (fun env h K=>K .normal env h)
  (fun _ _ iha ihb env h K=>iha env h fun x env' h'=>nork x (ihb env' h' K) (K x env' h'))
  (fun c _ _ iha ihb env h K=>getk c [] env fun v=>boolk v fun t=>ifk t (iha env h K) (ihb env h K))
  (fun id _ ih env h K=>ih env h fun x env' h'=>exk id x (K .normal env' h') (K x env' h'))
  (fun _ ih env h K=>loopk ih n env h K)
  (fun id env h K=>K (.exit id) env h)
  (fun env h K=>K .ret env h)
  (fun l env h K=>runLg sem cf l [] env h K)
  (fun l o env h K=>runDg sem cf env l [] h (fun L h'=>backs o L env fun env'=>K .normal env' h') fun u h'=>undk o env fun env'=>K (.pan u) env' h')
  (fun abn sl _ _ iha ihb env h K=>contk (iha env h fun x env' h'=>savek sl env' fun vs=>.done x vs h')
    fun x vs h'=>nork x (putsk sl vs env0 fun env'=>ihb env' h' K) (Bool.rec (motive:=fun _=>Res) .fail (putsk (anys sl) vs env0 fun env'=>K x env' h') abn))
  (fun sl _ ih env h K=>savek sl env fun vs=>lpk (fun again vs h=>putsk sl vs env0 fun env=>ih env h fun x env' h'=>nork x (savek sl env' fun vs'=>again vs' h') (K x env' h')) n vs h)
  (fun _ _ _ _ _=>.fail)
  (fun _ ih env h K=>ih env h fun x env' h'=>npk x (K x env' h'))
  (fun _ _ _=>.fail)
  (fun _ _ _ _ _ _=>.fail)
  (fun id inl mask f env h K=>ifk (Nat.beq (Nat.land mask inl) 0) (getk f [] env fun fv=>savek (maskSl mask) env fun vs=>rangek cf id mask fv vs h fun x h'=>K x env h') .fail)
  (fun l1 o1 l2 o2 env h K=>bothk (runDg sem cf env l1 [] h (fun L h'=>picks o1 L fun vs=>.done .normal vs h') fun _ _=>.fail) (runDg sem cf env l2 [] h (fun L h'=>picks o2 L fun vs=>.done .normal vs h') fun _ _=>.fail)
    fun vs h'=>putl (firsts o1) vs env fun env'=>K .normal env' h')
  c env h K
noncomputable abbrev runC:=runCg semOX
def orDead (o : Option PC) : Option PC:=some (o.getD .dead)
theorem orDead_ok {o : Option PC} {p : PC} (h : orDead o = some p) : o = some p ∨ p = .dead:=by
 cases o with
 | none=>exact .inr (Option.some.inj h).symm
 | some q=>exact .inl h
def cCode (P : Program) (fi : FI) (ng : Nat) : Option Nat→Code→Option PC
 | _,.skip | _,.label _=>some .skip
 | i,.seq x y=>(cCode P fi ng i x).bind fun a=>(cCode P fi ng (i.map fun k=>k + (rfs x).length) y).map fun b=>.seq a b
 | i,.cond c x y=>(locOf (seqT fi []) ng c).bind fun l=>(cCode P fi ng i x).bind fun a=>(cCode P fi ng (i.map fun k=>k + (rfs x).length) y).map fun b=>.cond l a b
 | i,.block id x=>(cCode P fi ng i x).map (.block id)
 | i,.loop x=>(cCode P fi ng i x).map .loop
 | i,.scope x=>cCode P fi ng i x
 | _,.goto _=>some .dead
 | i,.rangeFunc f _ _ _=>orDead (i.bind fun k=>(locOf (seqT fi []) ng f).map fun l=>.rf k fi.inl l)
 | _,.exit id=>some (.exit id)
 | _,.ret=>some .ret
 | _,.region _ ops false=>orDead ((cReg P fi ng ops ops.toList []).map .reg)
 | _,.region _ ops true=>orDead (if P.follows .mixedOrders then if (dpOf fi ops).chk then ((dpOf fi ops).items P ng (dpOf fi ops).ord 0).bind fun l=>((dpOf fi ops).outs (List.range ops.size)).map fun o=>.draw l o
   else match (dpOf fi ops).pair with
    | some (x,y)=>if x ≠ y∧x < ops.size∧y < ops.size∧(dpX fi ops x y).chk = true∧(dpX fi ops y x).chk = true then
       ((dpX fi ops x y).items P ng (dpX fi ops x y).ord 0).bind fun l1=>((dpX fi ops x y).outs (List.range ops.size)).bind fun o1=>((dpX fi ops y x).items P ng (dpX fi ops y x).ord 0).bind fun l2=>((dpX fi ops y x).outs (List.range ops.size)).map fun o2=>.draw2 l1 o1 l2 o2
      else none
    | none=>none
   else none)
 | _,.refuse _=>some .dead
section code
variable {fi : FI} {ng n : Nat} {cf : CF} {b : Frame}
abbrev markOf (m : Nat) : Deferred:={ target:=.collected m,args:=#[] }
def Marked (n₀ : Nat) (ρ : Rho) (h : Heap) (w : World) (ds₀ ds : List Deferred) : Prop:=
 ∃ ms : List Nat,ds = ms.map markOf ++ ds₀∧ms.Nodup∧∀ m ∈ ms,n₀ ≤ m∧w.heap[m]? = some (.deferred (some []))∧¬ Wr ρ h m
def Mk (mk : Bool) (n₀ : Nat) (ρ : Rho) (h : Heap) (w : World) (ds₀ ds : List Deferred) : Prop:=if mk then Marked n₀ ρ h w ds₀ ds else ds = ds₀
theorem Mk.refl (mk : Bool) (n₀ : Nat) (ρ : Rho) (h : Heap) (w : World) (ds : List Deferred) : Mk mk n₀ ρ h w ds ds:=by
 cases mk
 · rfl
 · exact ⟨[],rfl,by simp,by simp⟩
theorem Mk.of_eq {mk : Bool} {n₀ : Nat} {ρ : Rho} {h : Heap} {w : World} {ds₀ ds : List Deferred} (e : ds = ds₀) : Mk mk n₀ ρ h w ds₀ ds:=e ▸ .refl _ _ _ _ _ _
theorem Mk.trans {mk : Bool} {n₀ : Nat} {ρ ρ' : Rho} {h h' : Heap} {w w' : World} {d₀ d₁ d₂ : List Deferred} (a : Mk mk n₀ ρ h w d₀ d₁) (x : Ext ρ h w ρ' h' w') (hn : n₀ ≤ w.heap.size) (c : Mk mk w.heap.size ρ' h' w' d₁ d₂) :
 Mk mk n₀ ρ' h' w' d₀ d₂:=by
 cases mk with
 | false=>exact Eq.trans (show d₂ = d₁ from c) a
 | true=>
   obtain ⟨ms,rfl,n1,h1⟩:=a
   obtain ⟨ns,rfl,n2,h2⟩:=c
   refine ⟨ns ++ ms,by simp,List.nodup_append.2 ⟨n2,n1,fun m hm k hk e=>?_⟩,fun m hm=>?_⟩
   · subst e
     have:=(Array.getElem?_eq_some_iff.1 (h1 m hk).2.1).1
     have:=(h2 m hm).1
     omega
   rcases List.mem_append.1 hm with hm | hm
   · exact ⟨Nat.le_trans hn (h2 m hm).1,(h2 m hm).2⟩
   · obtain ⟨h3,h4,h5⟩:=h1 m hm
     obtain ⟨h6,h7⟩:=x.keep m (Array.getElem?_eq_some_iff.1 h4).1 h5
     exact ⟨h3,h6.trans h4,h7⟩
def LeftM (P : Program) (mk : Bool) (fi : FI) (ρ₀ : Rho) (h₀ : Heap) (w₀ : World) (K : Kont) (r : Res) (cs₀ : List Frame) (ds : List Deferred) : Post:=fun e a cs w=>
 cs = cs₀∧∃ x env h ρ,Le (K x env h) r∧ExR ρ x e∧EnvR ρ fi env a.tmps∧RH P ρ h w∧Ext ρ₀ h₀ w₀ ρ h w∧Mk mk w₀.heap.size ρ h w ds a.defers
theorem Left.m {mk : Bool} {fi : FI} {ρ₀ : Rho} {h₀ : Heap} {w₀ : World} {K : Kont} {r : Res} {cs₀ : List Frame} {ds : List Deferred} {e : Exit} {a : Act} {cs : List Frame} {w : World}
 (h : Left P fi ρ₀ h₀ w₀ K r cs₀ ds e a cs w) : LeftM P mk fi ρ₀ h₀ w₀ K r cs₀ ds e a cs w:=
 let ⟨h1,h2,x,env,h',ρ,h3,h4,h5,h6,h7⟩:=h
 ⟨h1,x,env,h',ρ,h3,h4,h5,h6,h7,.of_eq h2⟩
theorem LeftM.of {mk : Bool} {fi : FI} {ρ₀ ρ₁ : Rho} {h₀ h₁ : Heap} {w₀ w₁ : World} {K : Kont} {r : Res} {cs₀ : List Frame} {d₀ d₁ : List Deferred} (x : Ext ρ₀ h₀ w₀ ρ₁ h₁ w₁) (m : Mk mk w₀.heap.size ρ₁ h₁ w₁ d₀ d₁)
 {e : Exit} {a : Act} {cs : List Frame} {w : World} (h : LeftM P mk fi ρ₁ h₁ w₁ K r cs₀ d₁ e a cs w) : LeftM P mk fi ρ₀ h₀ w₀ K r cs₀ d₀ e a cs w:=
 let ⟨h1,x',env,h',ρ,h3,h4,h5,h6,h7,h8⟩:=h
 ⟨h1,x',env,h',ρ,h3,h4,h5,h6,x.trans h7,m.trans h7 x.size h8⟩
theorem LeftM.le {mk : Bool} {fi : FI} {ρ₀ : Rho} {h₀ : Heap} {w₀ : World} {K : Kont} {q r : Res} {cs₀ : List Frame} {d₀ : List Deferred} (g : Le q r)
 {e : Exit} {a : Act} {cs : List Frame} {w : World} (h : LeftM P mk fi ρ₀ h₀ w₀ K q cs₀ d₀ e a cs w) : LeftM P mk fi ρ₀ h₀ w₀ K r cs₀ d₀ e a cs w:=
 let ⟨h1,x',env,h',ρ,h3,h4⟩:=h
 ⟨h1,x',env,h',ρ,h3.trans g,h4⟩
theorem LeftM.plain {fi : FI} {ρ₀ : Rho} {h₀ : Heap} {w₀ : World} {K : Kont} {r : Res} {cs₀ : List Frame} {ds : List Deferred} {e : Exit} {a : Act} {cs : List Frame} {w : World}
 (h : LeftM P false fi ρ₀ h₀ w₀ K r cs₀ ds e a cs w) : Left P fi ρ₀ h₀ w₀ K r cs₀ ds e a cs w:=
 let ⟨h1,x,env,h',ρ,h3,h4,h5,h6,h7,h8⟩:=h
 ⟨h1,h8,x,env,h',ρ,h3,h4,h5,h6,h7⟩
def CodeOk (P : Program) (mk : Bool) (fi : FI) (ng : Nat) (b : Frame) (c : Code) (run : Env→Heap→Kont→Res) : Prop:=
 ∀ ⦃env : Env⦄ ⦃h : Heap⦄ ⦃K : Kont⦄ ⦃r : Res⦄ ⦃ρ : Rho⦄ ⦃w : World⦄ ⦃a : Act⦄ ⦃cs : List Frame⦄,run env h K = r→Fine r→EnvR ρ fi env a.tmps→RH P ρ h w→GlobR ρ ng →
  WP P b c (LeftM P mk fi ρ h w K r cs a.defers) a cs w
theorem env0_at (x : Slot) : env0.at x = .und:=by
 obtain ⟨a,b⟩:=x
 cases a <;> cases b <;> rfl
theorem savek_eq (sl : List (Slot × Sh1)) (env : Env) (k : List V→Res) : savek sl env k = k (sl.map fun p=>env.at p.1):=by
 induction sl generalizing k with
 | nil=>rfl
 | cons p sl ih=>
   obtain ⟨⟨x,y⟩,s⟩:=p
   show selR x env (fun row=>selV y row fun v=>savek sl env fun l=>k (v :: l)) = _
   rw [selR_eq,selV_eq,ih]
   rfl
theorem putsk_ok {ρ : Rho} {tmps : Array Value} {env₁ : Env} (he : EnvR ρ fi env₁ tmps) : ∀ {sl : List (Slot × Sh1)} {env : Env} {k : Env→Res} {r : Res},putsk sl (sl.map fun p=>env₁.at p.1) env k = r→r ≠ .fail →
 EnvR ρ fi env tmps→∃ env',k env' = r∧EnvR ρ fi env' tmps
 | [],env,k,r,hh,hr,h0=>by
   obtain ⟨_,h1⟩:=nilk'_ok (show nilk' [] (k env) = r from hh) hr
   exact ⟨env,h1,h0⟩
 | (x,s) :: sl,env,k,r,hh,hr,h0=>by
   have hh : cast1 s (env₁.at x) (fun v=>envk env x v fun env=>putsk sl (sl.map fun p=>env₁.at p.1) env k) = r:=hh
   have h1:=cast1_ok hh hr
   rw [envk_eq] at h1
   refine putsk_ok he h1 hr ⟨h0.size,fun t y h2 h3=>?_⟩
   by_cases e : y = x
   · subst e; rw [Env.at_put]; exact he.val t y h2 h3
   · rw [Env.at_put_ne _ e]; exact h0.val t y h2 h3
theorem putsk0_ok {ρ : Rho} {tmps : Array Value} {env₁ : Env} (he : EnvR ρ fi env₁ tmps) {sl : List (Slot × Sh1)} {k : Env→Res} {r : Res} (hh : putsk sl (sl.map fun p=>env₁.at p.1) env0 k = r) (hr : r ≠ .fail) :
 ∃ env',k env' = r∧EnvR ρ fi env' tmps:=putsk_ok he hh hr ⟨he.size,fun t x _ _=>by rw [env0_at]; exact .und _⟩
theorem EnvR.frame {ρ : Rho} {env : Env} {tmps : Array Value} (e : EnvR ρ fi env tmps) : FrR ρ fi [] [] env tmps:=⟨e,⟨by simp,by simp⟩⟩
theorem marks {mk : Bool} {i : Option Nat} {c : Code} (H : ∀ {pc : PC},pc.plain→cCode P fi ng i c = some pc.strip→CodeOk P mk fi ng b c (runC cf n pc)) : ∀ {pc : PC},cCode P fi ng i c = some pc.strip→CodeOk P mk fi ng b c (runC cf n pc)
 | .stop x,_=>by
   intro env h K r ρ w a cs hh hr he rh hg
   exact absurd hh.symm hr.ne
 | .np x,hc=>by
   intro env h K r ρ w a cs hh hr he rh hg
   refine (marks H (pc:=x) hc (K:=fun x env' h'=>npk x (K x env' h')) hh hr he rh hg).mono ?_
   rintro e a' cs' w' ⟨h1,x,env',h',ρ',h3,h4,h5,h6,h7,hd⟩
   exact ⟨h1,x,env',h',ρ',(Le.of_eq (npk_ok rfl (hr.le h3).ne)).trans h3,h4,h5,h6,h7,hd⟩
 | .skip,hc | .seq _ _,hc | .cond _ _ _,hc | .block _ _,hc | .loop _,hc | .exit _,hc | .ret,hc | .reg _,hc | .draw _ _,hc | .jn _ _ _ _,hc | .lpv _ _,hc | .dead,hc | .rf _ _ _,hc | .rfa _ _ _ _,hc | .draw2 _ _ _ _,hc=>H trivial hc
theorem WP.scope {Q : Post} {a : Act} {cs : List Frame} {w : World} {c : Code} (h : WP P b c Q a cs w) : WP P b (.scope c) Q a cs w:=by
 intro k
 obtain ⟨e,a₁,cs₁,w₁,hq,harr⟩:=h (.inScope c :: k)
 have s0 : step P (lone (fr b a (.code (.scope c) :: k)) cs w) = .next (lone (fr b a (.code c :: .inScope c :: k)) cs w):=step_lone_go (by simp [stepG,stepG.exec,fr])
 have s1 : ∀ {a : Act} {cs : List Frame} {w : World},step P (lone (fr b a (.inScope c :: k)) cs w) = .next (lone (fr b a k) cs w):=step_lone_go (by simp [stepG,stepG.exec,fr])
 cases e with
 | normal=>exact ⟨.normal,a₁,cs₁,w₁,hq,.head s0 (Steps.trans harr (.one s1))⟩
 | exit id=>obtain ⟨k1,h1,h2⟩:=harr; exact ⟨.exit id,a₁,cs₁,w₁,hq,k1,h1.trans (by simp [exitTo]),.head s0 h2⟩
 | goto l=>exact harr.elim
 | ret=>obtain ⟨k1,h2⟩:=harr; exact ⟨.ret,a₁,cs₁,w₁,hq,k1,.head s0 h2⟩
 | panic ch=>obtain ⟨k1,h2⟩:=harr; exact ⟨.panic ch,a₁,cs₁,w₁,hq,k1,.head s0 h2⟩
 | outgrown=>exact harr.elim
def RfAt (P : Program) (fi : FI) (b : Frame) (i : Option Nat) (c : Code) : Prop:=
 ∀ k,i = some k→b.roundOf = none∧(∃ fn,P.funcs[b.fn]? = some fn∧fn.ntmps = fi.nt)∧∀ j x,(rfs c)[j]? = some x→roundAt P (k + j) = some (b.fn,x)∧k + j < 32768
theorem RfAt.none {c : Code} : RfAt P fi b none c:=fun _ h=>by cases h
theorem RfAt.sub {i : Option Nat} {c d : Code} (h : RfAt P fi b i c) (e : ∀ (j : Nat) (x : Array Tmp × Code × Code),(rfs d)[j]? = some x→(rfs c)[j]? = some x) : RfAt P fi b i d:=fun k hk=>
 let ⟨h1,h2,h3⟩:=h k hk
 ⟨h1,h2,fun j x hj=>h3 j x (e j x hj)⟩
theorem RfAt.left {i : Option Nat} {c x y : Code} (h : RfAt P fi b i c) (e : rfs c = rfs x ++ rfs y) : RfAt P fi b i x:=h.sub fun j u hj=>by
 rw [e,List.getElem?_append_left (List.getElem?_eq_some_iff.1 hj).1]; exact hj
theorem RfAt.right {i : Option Nat} {c x y : Code} (h : RfAt P fi b i c) (e : rfs c = rfs x ++ rfs y) : RfAt P fi b (i.map fun k=>k + (rfs x).length) y:=fun k hk=>by
 obtain ⟨k0,h0,rfl⟩:=Option.map_eq_some_iff.1 hk
 obtain ⟨h1,h2,h3⟩:=h k0 h0
 refine ⟨h1,h2,fun j u hj=>?_⟩
 rw [Nat.add_assoc]
 exact h3 _ u (by rw [e,List.getElem?_append_right (Nat.le_add_right _ _),Nat.add_sub_cancel_left]; exact hj)
theorem RH.pushed {ρ : Rho} {h : Heap} {w : World} (r : RH P ρ h w) (o : Obj) : RH P ρ h (w.alloc o)∧Ext ρ h w ρ h (w.alloc o):=by
 have old : ∀ c,c < w.heap.size→(w.alloc o).heap[c]? = w.heap[c]?:=fun c hc=>by
  show (w.heap.push o)[c]? = _
  rw [Array.getElem?_push_lt hc]; simp [hc]
 refine ⟨⟨fun b c z S hb=>?_,r.fresh,r.inj,fun b c z S g n t ro hb ht=>?_,fun b c z S x hb ht=>?_,fun p c z S m s q l hb ht=>(r.itr p c z S m s q l hb ht).stay old⟩,⟨.refl _,Nat.le_refl _,rfl,rfl,rfl,?_,fun c hc hn=>⟨old c hc,hn⟩,fun _ _ hb=>⟨hb,rfl⟩⟩⟩
 · have:=r.lt b c z S hb
   show c < (w.heap.push o).size
   simp; omega
 · obtain ⟨cs,ha⟩:=r.arr b c z S g n t ro hb ht
   exact ⟨cs,ha.mono (.refl _) (old c (r.lt _ _ _ _ hb))⟩
 · obtain ⟨o',h1,h2⟩:=r.ob b c z S x hb ht
   exact ⟨o',(old c (r.lt _ _ _ _ hb)).trans h1,h2⟩
 · show w.heap.size ≤ (w.heap.push o).size
   simp
theorem mask_ok {ρ : Rho} {env : Env} {tmps : Array Value} (he : EnvR ρ fi env tmps) {mask : Nat} (hm : Nat.land mask fi.inl = 0) :
 VRs ρ ((maskSl mask).map fun p=>env.at p.1) ((maskL mask).map fun t=>tmps.getD t Go.undef):=by
 have key : ∀ l : List Nat,(∀ t ∈ l,t < 256∧mask.testBit t = true)→VRs ρ ((l.map fun t=>((⟨D.ofNat (t / 16),D.ofNat (t % 16)⟩ : Slot),Sh1.any)).map fun p=>env.at p.1) (l.map fun t=>tmps.getD t Go.undef):=by
  intro l
  induction l with
  | nil=>intro _; exact .nil
  | cons t l ih=>
    intro hl
    obtain ⟨h1,h2⟩:=hl t (by simp)
    refine .cons (he.val t _ (by simp [slotOf,h1]) ?_) (ih fun u hu=>hl u (by simp [hu]))
    have : (Nat.land mask fi.inl).testBit t = false:=by rw [hm]; simp
    have h3 : (mask &&& fi.inl).testBit t = false:=this
    rw [Nat.testBit_and,h2] at h3
    simpa using h3
 refine key _ fun t ht=>?_
 simp only [maskL,List.mem_filter,List.mem_range] at ht
 exact ht
theorem pendk_ok {pd : Nat} {a b : Res} {c : Nat→Res} {r : Res} (h : pendk pd a b c = r) {j : Option Code} (hj : PendR pd j) : (j = none∧a = r) ∨ (j = some .ret∧b = r) ∨ ∃ id,j = some (.exit id)∧c id = r:=by
 match pd,j,hj with
 | 0,none,_=>exact .inl ⟨rfl,h⟩
 | 1,some .ret,_=>exact .inr (.inl ⟨rfl,h⟩)
 | n + 2,some (.exit id),hj=>exact .inr (.inr ⟨id,rfl,by cases hj; exact h⟩)
theorem leftk_ok {st : Nat} {x r : Res} (h : leftk st x = r) (hr : r ≠ .fail) : st ≠ 1∧x = r:=by
 rcases st with _ | _ | st
 · exact ⟨by simp,h⟩
 · exact absurd h.symm hr
 · exact ⟨by simp,h⟩
theorem range_ok (hcf : CFok P ng cf) {mk : Bool} {i : Option Nat} {g : Operand} {ps : Array Tmp} {assign body : Code} {k : Nat} (hk : i = some k) (hm : mk = true) (ha : RfAt P fi b i (.rangeFunc g ps assign body))
 {l : Loc} (hl : locOf (seqT fi []) ng g = some l) {mask : Nat} : CodeOk P mk fi ng b (.rangeFunc g ps assign body) (runC cf n (.rfa k fi.inl mask l)):=by
 subst hm
 intro env h K r ρ w a cs hh hr he rh hg
 obtain ⟨hb,⟨fn,hfn,hnt⟩,hrf⟩:=ha k hk
 obtain ⟨hra,hk2⟩:=hrf 0 (ps,assign,body) rfl
 have hh : ifk (Nat.beq (Nat.land mask fi.inl) 0) (getk l [] env fun fv=>savek (maskSl mask) env fun vs=>rangek cf k mask fv vs h fun x h'=>K x env h') .fail = r:=hh
 obtain ⟨hm0,hh⟩:=ifk_fail hh hr.ne
 have hm0 : Nat.land mask fi.inl = 0:=Nat.eq_of_beq_eq_true hm0
 obtain ⟨fv,h3,h4⟩:=(⟨he.frame.tmp,hg,rh⟩ : Cx P ρ ng (seqT fi []) [] env h w a).loc hl (k:=fun fv=>savek (maskSl mask) env fun vs=>rangek cf k mask fv vs h fun x h'=>K x env h') hh hr.ne
 rw [savek_eq] at h3
 have hvs:=mask_ok he hm0
 generalize (maskSl mask).map (fun p=>env.at p.1) = vs at h3 hvs
 unfold rangek at h3
 rw [Heap.newk_eq] at h3
 obtain ⟨rh1,x1⟩:=rh.pushed (.deferred (some []))
 let L : Loop:={ state:=.ready,pending:=none,fn:=b.fn,tmps:=a.tmps,params:=ps,assign,body,defers:=w.heap.size }
 obtain ⟨rh2,x2⟩:=alloc (P:=P) rh1 h.nx.next_some (x:=.ob (.lp k mask vs 0 0)) (o:=.loop L) (S:=0) (fun g n t ro e=>by cases e) (fun x' e=>by
  cases e
  exact ⟨fn,hra,hfn,by rw [hnt]; exact he.size,hvs,trivial,trivial⟩)
 have hsz : (w.alloc (.deferred (some []))).heap.size = w.heap.size + 1:=by show (w.heap.push _).size = _; simp
 rw [hsz] at rh2 x2
 generalize hρ : ρ.put h.nx (w.heap.size + 1,0,0) = ρ1 at rh2 x2
 have hb1 : ρ1 h.nx = some (w.heap.size + 1,0,0):=by rw [← hρ,Rho.put_same]
 generalize hH : h.new (.ob (.lp k mask vs 0 0)) h.nx.nxt = h1 at rh2 x2 h3
 have x12:=x1.trans x2
 obtain ⟨q,hq,h5⟩ : ∃ q,callf cf fv [.func 4294967296 [.ptr h.nx 0]] h1 (fun _=>.fail) = q∧backk q (fun _ h2=>h2.getk h.nx fun y=>obk y fun y=>lpq y fun _ _ _ st pd=>leftk st (h2.turnk h.nx .none fun h3=>
  pendk pd (K .normal env h3) (K .ret env h3) fun i=>K (.exit i) env h3)) (fun u h2=>K (.pan u) env h2) = r:=⟨_,rfl,h3⟩
 have hq' : Fine q:=backk_fine (k:=fun _ h2=>h2.getk h.nx fun y=>obk y fun y=>lpq y fun _ _ _ st pd=>leftk st (h2.turnk h.nx .none fun h3=>
  pendk pd (K .normal env h3) (K .ret env h3) fun i=>K (.exit i) env h3)) (kp:=fun u h2=>K (.pan u) env h2) (by rw [h5]; exact hr)
 generalize hw2 : ({ (w.alloc (.deferred (some []))) with heap:=(w.alloc (.deferred (some []))).heap.push (.loop L) } : World) = w2 at rh2 x2 x12
 have hw2' : w2 = (w.alloc (.deferred (some []))).alloc (.loop L):=hw2.symm
 have hmark : w2.heap[w.heap.size]? = some (.deferred (some [])):=by
  rw [hw2']
  show ((w.heap.push _).push _)[w.heap.size]? = _
  rw [Array.getElem?_push_lt (by simp)]; simp
 have hnwr : ¬ Wr ρ1 h1 w.heap.size:=by
  rintro ⟨b',z,S,hb',_⟩
  by_cases e : b' = h.nx
  · subst e; rw [hb1] at hb'; simp only [Option.some.injEq,Prod.mk.injEq] at hb'; omega
  · rw [← hρ,Rho.put_ne e] at hb'
    have:=rh.lt _ _ _ _ hb'; omega
 have mark0 : ∀ {ρ' h' w'},Ext ρ1 h1 w2 ρ' h' w'→Mk true w.heap.size ρ' h' w' a.defers (markOf w.heap.size :: a.defers):=fun {ρ' h' w'} x=>by
  obtain ⟨e1,e2⟩:=x.keep w.heap.size (Array.getElem?_eq_some_iff.1 hmark).1 hnwr
  exact ⟨[w.heap.size],rfl,by simp,fun m hm=>by
   obtain rfl : m = w.heap.size:=by simpa using hm
   exact ⟨Nat.le_refl _,e1.trans hmark,e2⟩⟩
 generalize hx : a.eval g = xv at h4
 rcases callf_ok hcf (hg.mono x12.le) rh2 hq hq' (h4.mono x12.le) (.cons (.yld hb1) .nil) with ⟨F,first,ccs,rfl,hen,hc⟩ | ⟨_,_,_,_,_,_,hz⟩
 · refine WP.rangeFunc hb hw2' (d:={ target:=.fn (.func F) ccs,args:=first ++ #[.func (.yield (w.heap.size + 1)) #[] #[]] }) (f:=F)
    (args:=(first.toList ++ ([Value.func (.yield (w.heap.size + 1)) #[] #[]] ++ ccs.toList)).toArray) (w₂:=w2) ?_ ?_ (hc.mono ?_)
   · simp [resolve,rangeCall,hx,Deferred.ofValue]
     rfl
   · simp only [invoke]
     rw [run_enter hen]
     simp
   · intro e w3 hcame
     rcases backk_came h5 hcame with ⟨v,h',h6,ρ',y,rfl,hy,rh3,x3⟩ | ⟨v,h',h6,ρ',y,rfl,hy,rh3,x3⟩
     · obtain ⟨r',hr6⟩ : ∃ r',(h'.getk h.nx fun y=>obk y fun y=>lpq y fun _ _ _ st pd=>leftk st (h'.turnk h.nx .none fun h3=>pendk pd (K .normal env h3) (K .ret env h3) fun i=>K (.exit i) env h3)) = r':=⟨_,rfl⟩
       have hle : Le r' r:=hr6 ▸ h6
       have hr':=hr.le hle
       clear h6
       have h6:=hr6
       have hb3:=x3.le _ _ hb1
       rw [Heap.getk_eq] at h6
       obtain ⟨ob,hob,h6⟩:=obk_ok h6 hr'.ne
       obtain ⟨id',mask',vs',st,pd,rfl,h6⟩:=lpq_ok h6 hr'.ne
       obtain ⟨hst,h6⟩:=leftk_ok h6 hr'.ne
       rw [Heap.turnk_eq] at h6
       obtain ⟨o,ho1,ho2,_⟩:=rh3.ob _ _ _ _ _ hb3 hob
       obtain ⟨lr,rfl⟩ : ∃ lr,o = .loop lr:=by cases o <;> first | exact ⟨_,rfl⟩ | exact absurd ho2 id
       obtain ⟨_,_,_,_,_,hS,hP⟩:=ho2
       have hbusy : lr.state ≠ .busy:=fun e=>by
        rw [e] at hS
        rcases st with _ | _ | _ | st <;> first | exact hS | exact hst rfl
       obtain ⟨rh4,x4⟩:=turn rh3 hb3 (by rw [hob]; rfl) (x:=.none) (o:=.loop { lr with state:=.exhausted }) (w':=w3.putObj (w.heap.size + 1) (.loop { lr with state:=.exhausted })) rfl rfl rfl (by simp [World.putObj])
        (World.putObj_heap_same (Array.getElem?_eq_some_iff.1 ho1).1) (fun k hk=>World.putObj_heap_other hk) (fun _ _ _ _ e=>by cases e) (fun _ e=>by cases e) (fun _ _ _ e=>by rw [hob] at e; cases e)
       have he':=(he.mono x12.le).mono (x3.le.trans x4.le)
       rcases pendk_ok h6 hP with ⟨e,h7⟩ | ⟨e,h7⟩ | ⟨j,e,h7⟩
       · exact ⟨none,_,(run_endLoop ho1 hbusy).trans (by rw [e]),rfl,.normal,env,_,_,(Le.of_eq h7).trans hle,.normal,he',rh4,x12.trans (x3.trans x4),mark0 (x3.trans x4)⟩
       · exact ⟨some .ret,_,(run_endLoop ho1 hbusy).trans (by rw [e]),rfl,.ret,env,_,_,(Le.of_eq h7).trans hle,.ret,he',rh4,x12.trans (x3.trans x4),mark0 (x3.trans x4)⟩
       · exact ⟨some (.exit j),_,(run_endLoop ho1 hbusy).trans (by rw [e]),rfl,.exit j,env,_,_,(Le.of_eq h7).trans hle,.exit j,he',rh4,x12.trans (x3.trans x4),mark0 (x3.trans x4)⟩
     · exact ⟨rfl,.pan v,env,_,_,h6,.pan hy,(he.mono x12.le).mono x3.le,rh3,x12.trans x3,mark0 x3⟩
 · exact absurd hz.symm hq'.ne
theorem dead_code {mk : Bool} {c : Code} {pc : PC} (hn : pc.plain) (hc : pc.strip = .dead) : CodeOk P mk fi ng b c (runC cf n pc):=by
 obtain rfl : pc = .dead:=by cases pc <;> simp [PC.strip,PC.plain] at hc hn <;> rfl
 intro env h K r ρ w a cs hh hr _ _ _
 exact absurd hh.symm hr.ne
theorem code_ok (hcf : CFok P ng cf) {mk : Bool} : ∀ {c : Code} {i : Option Nat} {pc : PC},(mk = false→i = none)→RfAt P fi b i c→cCode P fi ng i c = some pc.strip→CodeOk P mk fi ng b c (runC cf n pc)
 | .skip,i,_,hm,ha,hc=>marks (fun {pc} hn hc=>by
   obtain rfl : pc = .skip:=by cases pc <;> simp [cCode,PC.strip,PC.plain] at hc hn <;> first | rfl | (subst hc; rfl)
   intro env h K r ρ w a cs hh _ he rh _
   exact .skip ⟨rfl,.normal,env,h,ρ,.of_eq hh,.normal,he,rh,.refl _ _ _,.refl _ _ _ _ _ _⟩) hc
 | .label l,i,_,hm,ha,hc=>marks (fun {pc} hn hc=>by
   obtain rfl : pc = .skip:=by cases pc <;> simp [cCode,PC.strip,PC.plain] at hc hn <;> first | rfl | (subst hc; rfl)
   intro env h K r ρ w a cs hh _ he rh _
   exact .label ⟨rfl,.normal,env,h,ρ,.of_eq hh,.normal,he,rh,.refl _ _ _,.refl _ _ _ _ _ _⟩) hc
 | .exit id,i,_,hm,ha,hc=>marks (fun {pc} hn hc=>by
   obtain rfl : pc = .exit id:=by cases pc <;> simp [cCode,PC.strip,PC.plain] at hc hn <;> first | rfl | (subst hc; rfl)
   intro env h K r ρ w a cs hh _ he rh _
   exact .exit ⟨rfl,.exit id,env,h,ρ,.of_eq hh,.exit id,he,rh,.refl _ _ _,.refl _ _ _ _ _ _⟩) hc
 | .ret,i,_,hm,ha,hc=>marks (fun {pc} hn hc=>by
   obtain rfl : pc = .ret:=by cases pc <;> simp [cCode,PC.strip,PC.plain] at hc hn <;> first | rfl | (subst hc; rfl)
   intro env h K r ρ w a cs hh _ he rh _
   exact .ret ⟨rfl,.ret,env,h,ρ,.of_eq hh,.ret,he,rh,.refl _ _ _,.refl _ _ _ _ _ _⟩) hc
 | .seq x y,i,_,hm,ha,hc=>marks (fun {pc} hn hc=>by
   obtain ⟨p,h1,hc⟩:=Option.bind_eq_some_iff.1 hc
   obtain ⟨q,h2,hc⟩:=Option.map_eq_some_iff.1 hc
   rcases strip_seq hn hc with ⟨p',q',rfl,rfl,rfl⟩ | ⟨abn,sl,p',q',rfl,rfl,rfl⟩
   · intro env h K r ρ w a cs hh hr he rh hg
     refine .seq ((code_ok hcf hm (ha.left rfl) h1 (K:=fun x env' h'=>nork x (runC cf n q' env' h' K) (K x env' h')) hh hr he rh hg).mono ?_)
     rintro e a' cs' w' ⟨rfl,x,env',h',ρ',h3,h4,h5,h6,h7,hd⟩
     cases h4 with
     | normal=>
       exact (code_ok hcf (fun e=>by rw [hm e]; rfl) (ha.right rfl) h2 (cs:=cs') rfl (hr.le h3) h5 h6 (hg.mono h7.le)).mono fun e a cs w hl=>(hl.of h7 hd).le h3
     | exit i=>exact ⟨rfl,.exit i,env',h',ρ',h3,.exit i,h5,h6,h7,hd⟩
     | ret=>exact ⟨rfl,.ret,env',h',ρ',h3,.ret,h5,h6,h7,hd⟩
     | pan hv=>exact ⟨rfl,.pan _,env',h',ρ',h3,.pan hv,h5,h6,h7,hd⟩
   · intro env h K r ρ w a cs hh hr he rh hg
     have hh : contk (runC cf n p' env h fun x env' h'=>savek sl env' fun vs=>.done x vs h')
      (fun x vs h'=>nork x (putsk sl vs env0 fun env'=>runC cf n q' env' h' K) (Bool.rec (motive:=fun _=>Res) .fail (putsk (anys sl) vs env0 fun env'=>K x env' h') abn)) = r:=hh
     obtain ⟨q,e1⟩ : ∃ q,(runC cf n p' env h fun x env' h'=>savek sl env' fun vs=>.done x vs h') = q:=⟨_,rfl⟩
     rw [e1] at hh
     have hq : Fine q:=contk_fine (k:=fun x vs h'=>nork x (putsk sl vs env0 fun env'=>runC cf n q' env' h' K) (Bool.rec (motive:=fun _=>Res) .fail (putsk (anys sl) vs env0 fun env'=>K x env' h') abn)) (by rw [hh]; exact hr)
     refine .seq ((code_ok hcf hm (ha.left rfl) h1 (K:=fun x env' h'=>savek sl env' fun vs=>.done x vs h') e1 hq he rh hg).mono ?_)
     rintro e a' cs' w' ⟨rfl,x,env',h₁,ρ',h3,h4,h5,h6,h7,hd⟩
     have h3 : Le (savek sl env' (fun vs=>Res.done x vs h₁)) q:=h3
     rw [savek_eq] at h3
     have hh:=(contk_le (k:=fun x vs h'=>nork x (putsk sl vs env0 fun env'=>runC cf n q' env' h' K) (Bool.rec (motive:=fun _=>Res) .fail (putsk (anys sl) vs env0 fun env'=>K x env' h') abn)) (h3 _ rfl)).trans (.of_eq hh)
     have abK : ∀ {r'},Le (Bool.rec (motive:=fun _=>Res) .fail r' abn) r→Le r' r:=fun {r'} h=>by
      cases abn with
      | false=>exact absurd (h _ rfl) hr
      | true=>exact h
     have anyK : ∀ {x : Ex},Le (putsk (anys sl) (sl.map fun p=>env'.at p.1) env0 (fun env'=>K x env' h₁)) r→∃ env2,Le (K x env2 h₁) r∧EnvR ρ' fi env2 a'.tmps:=fun {x} h=>by
      have e : (sl.map fun p=>env'.at p.1) = (anys sl).map fun p=>env'.at p.1:=by simp [anys]
      rw [e] at h
      obtain ⟨env2,k1,k2⟩:=putsk0_ok h5 (k:=fun env'=>K x env' h₁) rfl (hr.le h).ne
      exact ⟨env2,(Le.of_eq k1).trans h,k2⟩
     cases h4 with
     | normal=>
       have hh : Le (putsk sl (sl.map fun p=>env'.at p.1) env0 (fun env'=>runC cf n q' env' h₁ K)) r:=hh
       obtain ⟨env',h8,h5⟩:=putsk0_ok h5 (k:=fun env'=>runC cf n q' env' h₁ K) rfl (hr.le hh).ne
       rw [← h8] at hh
       exact (code_ok hcf (fun e=>by rw [hm e]; rfl) (ha.right rfl) h2 (cs:=cs') rfl (hr.le hh) h5 h6 (hg.mono h7.le)).mono fun e a cs w hl=>(hl.of h7 hd).le hh
     | exit i=>
       obtain ⟨env2,h3,h5⟩:=anyK (abK hh)
       exact ⟨rfl,.exit i,env2,_,ρ',h3,.exit i,h5,h6,h7,hd⟩
     | ret=>
       obtain ⟨env2,h3,h5⟩:=anyK (abK hh)
       exact ⟨rfl,.ret,env2,_,ρ',h3,.ret,h5,h6,h7,hd⟩
     | pan hv=>
       obtain ⟨env2,h3,h5⟩:=anyK (abK hh)
       exact ⟨rfl,.pan _,env2,_,ρ',h3,.pan hv,h5,h6,h7,hd⟩) hc
 | .cond c x y,i,_,hm,ha,hc=>marks (fun {pc} hn hc=>by
   obtain ⟨l,h0,hc⟩:=Option.bind_eq_some_iff.1 hc
   obtain ⟨p,h1,hc⟩:=Option.bind_eq_some_iff.1 hc
   obtain ⟨q,h2,hc⟩:=Option.map_eq_some_iff.1 hc
   obtain ⟨p',q',rfl,rfl,rfl⟩:=strip_cond hn hc
   intro env h K r ρ w a cs hh hr he rh hg
   obtain ⟨v,h3,h4⟩:=(⟨he.frame.tmp,hg,rh⟩ : Cx P ρ ng (seqT fi []) [] env h w a).loc h0 (k:=fun v=>boolk v fun t=>ifk t (runC cf n p' env h K) (runC cf n q' env h K)) hh hr.ne
   obtain ⟨t,rfl,h5⟩:=boolk_ok h3 hr.ne
   generalize hx : a.eval c = cv at h4
   cases h4
   refine .cond hx ?_
   rcases ifk_ne h5 with ⟨rfl,h6⟩ | ⟨rfl,h6⟩
   · exact code_ok hcf hm (ha.left rfl) h1 h6 hr he rh hg
   · exact code_ok hcf (fun e=>by rw [hm e]; rfl) (ha.right rfl) h2 h6 hr he rh hg) hc
 | .block id x,i,_,hm,ha,hc=>marks (fun {pc} hn hc=>by
   obtain ⟨p,h1,hc⟩:=Option.map_eq_some_iff.1 hc
   obtain ⟨p',rfl,rfl⟩:=strip_block hn hc
   intro env h K r ρ w a cs hh hr he rh hg
   refine .block ((code_ok (c:=x) hcf hm (ha.sub fun _ _ h=>h) h1 (K:=fun x env' h'=>exk id x (K .normal env' h') (K x env' h')) hh hr he rh hg).mono ?_)
   rintro e a' cs' w' ⟨rfl,x,env',h',ρ',h3,h4,h5,h6,h7,hd⟩
   cases h4 with
   | normal=>exact ⟨rfl,.normal,env',h',ρ',h3,.normal,h5,h6,h7,hd⟩
   | exit i=>
     simp only [blockP]
     have h3 : Le (ifk (Nat.beq i id) (K .normal env' h') (K (.exit i) env' h')) r:=h3
     rcases ifk_ne (rfl : ifk (Nat.beq i id) (K .normal env' h') (K (.exit i) env' h') = _) with ⟨e,h8⟩ | ⟨e,h8⟩
     · rw [if_pos (Nat.eq_of_beq_eq_true e)]
       exact ⟨rfl,.normal,env',h',ρ',(Le.of_eq h8).trans h3,.normal,h5,h6,h7,hd⟩
     · rw [if_neg (by rintro rfl; rw [Nat.beq_refl] at e; cases e)]
       exact ⟨rfl,.exit i,env',h',ρ',(Le.of_eq h8).trans h3,.exit i,h5,h6,h7,hd⟩
   | ret=>exact ⟨rfl,.ret,env',h',ρ',h3,.ret,h5,h6,h7,hd⟩
   | pan hv=>exact ⟨rfl,.pan _,env',h',ρ',h3,.pan hv,h5,h6,h7,hd⟩) hc
 | .loop x,i,_,hm,ha,hc=>marks (fun {pc} hn hc=>by
   obtain ⟨p,h1,hc⟩:=Option.map_eq_some_iff.1 hc
   rcases strip_loop hn hc with ⟨p',rfl,rfl⟩ | ⟨sl,p',rfl,rfl⟩
   · intro env h K r ρ w a cs hh hr he rh hg
     refine .loop (fun m a' cs' w'=>cs' = cs∧∃ env' h' ρ',Le (loopk (runC cf n p') m env' h' K) r∧EnvR ρ' fi env' a'.tmps∧RH P ρ' h' w'∧Ext ρ h w ρ' h' w'∧Mk mk w.heap.size ρ' h' w' a.defers a'.defers)
      ⟨n,rfl,env,h,ρ,.of_eq hh,he,rh,.refl _ _ _,.refl _ _ _ _ _ _⟩ ?_ ?_
     · rintro m a' cs' w' ⟨rfl,env',h',ρ',h2,h3,h4,h5,hd⟩
       have h6:=code_ok (c:=x) hcf hm (ha.sub fun _ _ h=>h) h1 (cs:=cs') (K:=fun x env' h'=>nork x (loopk (runC cf n p') m env' h' K) (K x env' h')) rfl (hr.le h2) h3 h4 (hg.mono h5.le)
       refine h6.mono ?_
       rintro e a'' cs'' w'' ⟨rfl,x,env'',h'',ρ'',h7,h8,h9,h10,h11,hd'⟩
       have h7:=h7.trans h2
       have hd':=hd.trans h11 h5.size hd'
       cases h8 with
       | normal=>exact ⟨rfl,env'',h'',ρ'',h7,h9,h10,h5.trans h11,hd'⟩
       | exit i=>exact ⟨rfl,.exit i,env'',h'',ρ'',h7,.exit i,h9,h10,h5.trans h11,hd'⟩
       | ret=>exact ⟨rfl,.ret,env'',h'',ρ'',h7,.ret,h9,h10,h5.trans h11,hd'⟩
       | pan hv=>exact ⟨rfl,.pan _,env'',h'',ρ'',h7,.pan hv,h9,h10,h5.trans h11,hd'⟩
     · rintro a' cs' w' ⟨_,env',h',ρ',h2,_⟩
       exact hr (h2 _ rfl)
   · intro env h K r ρ w a cs hh hr he rh hg
     have hh : savek sl env (fun vs=>lpk (fun again vs h=>putsk sl vs env0 fun env=>runC cf n p' env h fun x env' h'=>nork x (savek sl env' fun vs'=>again vs' h') (K x env' h')) n vs h) = r:=hh
     rw [savek_eq] at hh
     refine .loop (fun m a' cs' w'=>cs' = cs∧∃ env' h' ρ',Le (lpk (fun again vs h=>putsk sl vs env0 fun env=>runC cf n p' env h fun x env' h'=>
      nork x (savek sl env' fun vs'=>again vs' h') (K x env' h')) m (sl.map fun p=>env'.at p.1) h') r∧EnvR ρ' fi env' a'.tmps∧RH P ρ' h' w'∧Ext ρ h w ρ' h' w'∧Mk mk w.heap.size ρ' h' w' a.defers a'.defers)
      ⟨n,rfl,env,h,ρ,.of_eq hh,he,rh,.refl _ _ _,.refl _ _ _ _ _ _⟩ ?_ ?_
     · rintro m a' cs' w' ⟨rfl,env',h',ρ',h2,h3,h4,h5,hd⟩
       have h2 : Le (putsk sl (sl.map fun p=>env'.at p.1) env0 (fun env=>runC cf n p' env h' fun x env' h'=>
        nork x (savek sl env' fun vs'=>lpk (fun again vs h=>putsk sl vs env0 fun env=>runC cf n p' env h fun x env' h'=>nork x (savek sl env' fun vs'=>again vs' h') (K x env' h')) m vs' h') (K x env' h'))) r:=h2
       obtain ⟨env1,h12,h3⟩:=putsk0_ok h3 (k:=fun env=>runC cf n p' env h' fun x env' h'=>
        nork x (savek sl env' fun vs'=>lpk (fun again vs h=>putsk sl vs env0 fun env=>runC cf n p' env h fun x env' h'=>nork x (savek sl env' fun vs'=>again vs' h') (K x env' h')) m vs' h') (K x env' h')) rfl (hr.le h2).ne
       rw [← h12] at h2
       have h6:=code_ok (c:=x) hcf hm (ha.sub fun _ _ h=>h) h1 (cs:=cs') (K:=fun x env' h'=>nork x (savek sl env' fun vs'=>lpk (fun again vs h=>putsk sl vs env0 fun env=>runC cf n p' env h fun x env' h'=>
        nork x (savek sl env' fun vs'=>again vs' h') (K x env' h')) m vs' h') (K x env' h')) rfl (hr.le h2) h3 h4 (hg.mono h5.le)
       refine h6.mono ?_
       rintro e a'' cs'' w'' ⟨rfl,x,env'',h'',ρ'',h7,h8,h9,h10,h11,hd'⟩
       have h7:=h7.trans h2
       have hd':=hd.trans h11 h5.size hd'
       cases h8 with
       | normal=>
         have h7 : Le (savek sl env'' (fun vs'=>lpk (fun again vs h=>putsk sl vs env0 fun env=>runC cf n p' env h fun x env' h'=>nork x (savek sl env' fun vs'=>again vs' h') (K x env' h')) m vs' h'')) r:=h7
         rw [savek_eq] at h7
         exact ⟨rfl,env'',h'',ρ'',h7,h9,h10,h5.trans h11,hd'⟩
       | exit i=>exact ⟨rfl,.exit i,env'',h'',ρ'',h7,.exit i,h9,h10,h5.trans h11,hd'⟩
       | ret=>exact ⟨rfl,.ret,env'',h'',ρ'',h7,.ret,h9,h10,h5.trans h11,hd'⟩
       | pan hv=>exact ⟨rfl,.pan _,env'',h'',ρ'',h7,.pan hv,h9,h10,h5.trans h11,hd'⟩
     · rintro a' cs' w' ⟨_,env',h',ρ',h2,_⟩
       exact hr (h2 _ rfl)) hc
 | .region id ops false,i,_,hm,ha,hc=>marks (fun {pc} hn hc=>by
   rcases orDead_ok hc with hc | hc
   case inr=>exact dead_code hn hc
   obtain ⟨l,h1,hc⟩:=Option.map_eq_some_iff.1 hc
   obtain rfl : pc = .reg l:=by cases pc <;> simp only [PC.strip,PC.reg.injEq,reduceCtorEq,PC.plain] at hc hn; subst hc; rfl
   intro env h K r ρ w a cs hh hr he rh hg
   refine .region ?_
   have:=reg_ok (b:=b) (cs:=cs) (i:=0) hcf h1 (fun j=>by simp) hh hr he.frame rh hg
   rw [Array.length_toList,← List.range_eq_range'] at this
   exact this.mono fun _ _ _ _ h=>h.m) hc
 | .region id ops true,i,_,hm,ha,hc=>marks (fun {pc} hn hc=>by
   simp only [cCode] at hc
   rcases orDead_ok hc with hc | hc
   case inr=>exact dead_code hn hc
   split at hc
   · rename_i hmo
     split at hc
     · rename_i hd
       obtain ⟨l,h1,hc⟩:=Option.bind_eq_some_iff.1 hc
       obtain ⟨o,h2,hc⟩:=Option.map_eq_some_iff.1 hc
       obtain rfl : pc = .draw l o:=by cases pc <;> simp only [PC.strip,PC.draw.injEq,reduceCtorEq,PC.plain] at hc hn; obtain ⟨rfl,rfl⟩:=hc; rfl
       intro env h K r ρ w a cs hh hr he rh hg
       exact (draw_ok hmo hcf hr hd h1 h2 hh he rh hg).mono fun _ _ _ _ h=>h.m
     · split at hc
       · rename_i x y hpair
         split at hc
         · rename_i hd
           obtain ⟨hne,hx,hy,hd1,hd2⟩:=hd
           obtain ⟨l1,h1,hc⟩:=Option.bind_eq_some_iff.1 hc
           obtain ⟨o1,h2,hc⟩:=Option.bind_eq_some_iff.1 hc
           obtain ⟨l2,h3,hc⟩:=Option.bind_eq_some_iff.1 hc
           obtain ⟨o2,h4,hc⟩:=Option.map_eq_some_iff.1 hc
           obtain rfl : pc = .draw2 l1 o1 l2 o2:=by cases pc <;> simp only [PC.strip,PC.draw2.injEq,reduceCtorEq,PC.plain] at hc hn; obtain ⟨rfl,rfl,rfl,rfl⟩:=hc; rfl
           intro env h K r ρ w a cs hh hr he rh hg
           have hh : bothk (runD cf env l1 [] h (fun L h'=>picks o1 L fun vs=>.done .normal vs h') fun _ _=>.fail) (runD cf env l2 [] h (fun L h'=>picks o2 L fun vs=>.done .normal vs h') fun _ _=>.fail)
            (fun vs h'=>putl (firsts o1) vs env fun env'=>K .normal env' h') = r:=hh
           obtain ⟨e1,e2,e3⟩:=bothk_ok hh hr.ne
           rw [firsts_eq] at e3
           exact (draw2_ok hmo hcf hr hne hx hy hd1 h1 h2 hd2 h3 h4 rfl e1 e2 e3 he rh hg).mono fun _ _ _ _ h=>h.m
         · cases hc
       · cases hc
   · cases hc) hc
 | .scope x,i,_,hm,ha,hc=>fun _ _ _ _ _ _ _ _ hh hr he rh hg=>.scope (code_ok hcf hm (ha.sub fun _ _ h=>h) (c:=x) (by simpa only [cCode] using hc) hh hr he rh hg)
 | .goto l,i,_,hm,ha,hc=>marks (fun {pc} hn hc=>by
   obtain rfl : pc = .dead:=by cases pc <;> simp [cCode,PC.strip,PC.plain] at hc hn <;> first | rfl | (subst hc; rfl)
   intro env h K r ρ w a cs hh hr _ _ _
   exact absurd hh.symm hr.ne) hc
 | .refuse s,i,_,hm,ha,hc=>marks (fun {pc} hn hc=>dead_code hn (by simp only [cCode,Option.some.injEq] at hc; exact hc.symm)) hc
 | .rangeFunc g ps assign body,i,_,hm,ha,hc=>marks (fun {pc} hn hc=>by
   rcases orDead_ok hc with hc | hc
   case inr=>exact dead_code hn hc
   obtain ⟨k,hk,hc⟩:=Option.bind_eq_some_iff.1 hc
   obtain ⟨l,hl,hc⟩:=Option.map_eq_some_iff.1 hc
   have hmk : mk = true:=by
    cases mk with
    | true=>rfl
    | false=>rw [hm rfl] at hk; cases hk
   cases pc <;> simp only [PC.strip,PC.rf.injEq,reduceCtorEq,PC.plain] at hc hn
   · intro env h K r ρ w a cs hh hr _ _ _
     exact absurd hh.symm hr.ne
   · obtain ⟨rfl,rfl,rfl⟩:=hc
     exact range_ok hcf hk hmk ha hl) hc
theorem code_plain (hcf : CFok P ng cf) {c : Code} {pc : PC} (hc : cCode P fi ng none c = some pc.strip) {env : Env} {h : Heap} {K : Kont} {r : Res} {ρ : Rho} {w : World} {a : Act} {cs : List Frame} (hh : runC cf n pc env h K = r)
 (hr : Fine r) (he : EnvR ρ fi env a.tmps) (rh : RH P ρ h w) (hg : GlobR ρ ng) : WP P b c (Left P fi ρ h w K r cs a.defers) a cs w:=
 (code_ok (mk:=false) hcf (fun _=>rfl) .none hc hh hr he rh hg).mono fun _ _ _ _ h=>h.plain
end code
end Go.Ev

/- EVALUATOR: the table of functions. Printed by gen_sel.py. -/
namespace Go.Ev
inductive RS where
 | tmp (x : Slot)
 | cell (x : Slot)
 | cells (n : Nat) (x : Slot)
structure PF where
 code : PC
 args : List (Slot × Sh1)
 res : List RS
 its : List Slot
inductive PO where
 | no
 | fn (f : PF)
 | orc (f : List V→Heap→Res)
 | sh (f : Nat→CF→List V→Heap→Res)
noncomputable def getP (d : D) (n : N (PO)) : PO:=D.rec (motive:=fun _=>PO) n.x0 n.x1 n.x2 n.x3 n.x4 n.x5 n.x6 n.x7 n.x8 n.x9 n.xa n.xb n.xc n.xd n.xe n.xf d
theorem getP_eq (d : D) (n : N (PO)) : getP d n = n.get d:=by cases d <;> rfl
noncomputable def getP1 (d : D) (n : N (N PO)) : N PO:=D.rec (motive:=fun _=>N PO) n.x0 n.x1 n.x2 n.x3 n.x4 n.x5 n.x6 n.x7 n.x8 n.x9 n.xa n.xb n.xc n.xd n.xe n.xf d
theorem getP1_eq (d : D) (n : N (N PO)) : getP1 d n = n.get d:=by cases d <;> rfl
noncomputable def getP2 (d : D) (n : N (N (N PO))) : N (N PO):=D.rec (motive:=fun _=>N (N PO)) n.x0 n.x1 n.x2 n.x3 n.x4 n.x5 n.x6 n.x7 n.x8 n.x9 n.xa n.xb n.xc n.xd n.xe n.xf d
theorem getP2_eq (d : D) (n : N (N (N PO))) : getP2 d n = n.get d:=by cases d <;> rfl
noncomputable def getP3 (d : D) (n : N (N (N (N PO)))) : N (N (N PO)):=D.rec (motive:=fun _=>N (N (N PO))) n.x0 n.x1 n.x2 n.x3 n.x4 n.x5 n.x6 n.x7 n.x8 n.x9 n.xa n.xb n.xc n.xd n.xe n.xf d
theorem getP3_eq (d : D) (n : N (N (N (N PO)))) : getP3 d n = n.get d:=by cases d <;> rfl
end Go.Ev
