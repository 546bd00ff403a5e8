/- EvDraw2: texts joined. -/
import Derived.Test.YtobbabhldblljaaGreatDoorEvEq
import Derived.Test.YtobbabhldblljaaGreatDoorEvPure
/- EVALUATOR, 26: a region whose order is drawn: how it is prepared and run. -/
namespace Go.Ev
variable {P : Program}
inductive DI where
 | light (v : VI)
 | heavy (v : VI)
 | again (i : Nat) (v : VI)
noncomputable def VI.shp (v : VI) : Sh:=VI.rec (motive:=fun _=>Sh) (fun _=>.one .any) (fun _ _=>.one .any) (fun _ _=>.one .any) (fun _=>.one .any) (fun _ _ _ _=>.one .any) (fun s _ _=>s) v
noncomputable def back1k (r : Res) (k kp : V→Heap→Res) : Res:=Res.rec (motive:=fun _=>Res) .fail (fun _ _ _=>.fail) k kp (fun _ _ _ _=>.fail) r
theorem back1k_ok {x : Res} {k kp : V→Heap→Res} {r : Res} (h : back1k x k kp = r) (hr : r ≠ .fail) : (∃ v h',x = .ret v h'∧k v h' = r) ∨ (∃ v h',x = .pan v h'∧kp v h' = r):=by
 cases x with
 | ret v h'=>exact .inl ⟨v,h',rfl,h⟩
 | pan v h'=>exact .inr ⟨v,h',rfl,h⟩
 | fail=>exact absurd h.symm hr
 | done _ _ _=>exact absurd h.symm hr
 | alt _ _=>exact absurd h.symm hr
noncomputable def runDg (sem : OX→Do) (cf : CF) (env : Env) (l : List DI) (L : List V) (h : Heap) (k : List V→Heap→Res) (kp : V→Heap→Res) : Res:=
 List.rec (motive:=fun _=>List V→Heap→Res) (fun L h=>k L h)
  (fun i _ ih L h=>DI.rec (motive:=fun _=>Res)
    (fun v=>back1k (runVIg sem cf v L env h .ret .pan) (fun u _=>castk v.shp u fun u=>appk L [u] fun L'=>ih L' h) fun _ _=>.fail)
    (fun v=>runVIg sem cf v L env h (fun u h'=>appk L [u] fun L'=>ih L' h') kp)
    (fun j v=>back1k (runVIg sem cf v L env h .ret .pan) (fun u _=>nthk L j fun x=>veqk u x (ih L h)) fun _ _=>.fail) i)
  l L h
noncomputable abbrev runD:=runDg semOX
noncomputable def backs (l : List (Slot × Nat)) (L : List V) (env : Env) (k : Env→Res) : Res:=
 List.rec (motive:=fun _=>Env→Res) (fun env=>k env) (fun p _ ih env=>Prod.rec (motive:=fun _=>Res) (fun x i=>nthk L i fun v=>envk env x v ih) p) l env
noncomputable def picks (l : List (Slot × Nat)) (L : List V) (k : List V→Res) : Res:=
 List.rec (motive:=fun _=>(List V→Res)→Res) (fun k=>k []) (fun p _ ih k=>Prod.rec (motive:=fun _=>Res) (fun _ i=>nthk L i fun v=>ih fun vs=>k (v :: vs)) p) l k
noncomputable def putl (sl : List Slot) (vs : List V) (env : Env) (k : Env→Res) : Res:=
 List.rec (motive:=fun _=>List V→Env→Res) (fun vs env=>nilk' vs (k env)) (fun x _ ih vs env=>unc vs fun v vs=>envk env x v fun env=>ih vs env) sl vs env
noncomputable def undk (l : List (Slot × Nat)) (env : Env) (k : Env→Res) : Res:=
 List.rec (motive:=fun _=>Env→Res) (fun env=>k env) (fun p _ ih env=>Prod.rec (motive:=fun _=>Res) (fun x _=>envk env x .und ih) p) l env
def VI.light : VI→Bool
 | .op x=>x.light
 | .guard _ _ i=>i.light
 | .cast _ i=>i.light
 | _=>false
def VI.makes : VI→Bool
 | .op x=>x.al
 | _=>false
def edgesOf (o : Oper) : List Nat:=(o.after.toList.filter (Region.binds .any)).map (·.on)
def ancGo : List Oper→List Nat→List Nat
 | [],acc=>acc
 | o :: l,acc=>ancGo l (acc ++ [(edgesOf o).foldl (fun m j=>m ||| (1 <<< j) ||| acc.getD j 0) 0])
def lightOp : Op→Bool
 | .move _ | .assign _ | .pick _ _ _ | .build _ _ | .load _ _ | .nilCheck _ | .binOp _ _ _ _ _ | .unOp _ _ _ | .convert _ _ _ | .makeInterface _ _ | .makeFunc _ _ _ | .slice _ _ _ _ _ | .fieldAddr _ _ _
 | .field _ _ _ | .indexAddr _ _ _ | .index _ _ _ | .extract _ _ | .lookup _ _ _ _ | .typeAssert _ _ _ _=>true
 | .call { callee:=.builtin .len,.. } | .call { callee:=.builtin .min,.. } | .call { callee:=.builtin .max,.. }=>true
 | _=>false
def makes : Op→Bool
 | .alloc _ | .box _ _ | .buildSlice _ _ _ | .makeMap _ _ | .makeSlice _ _ _=>true
 | _=>false
def makesO (o : Oper) : Bool:=o.guard.isNone && makes o.op
def floatO (o : Oper) : Bool:=lightOp o.op || makesO o
structure DP where
 ops : Array Oper
 anc : List Nat
 ord : List Nat
 fi : FI
 xs : List (Nat × Nat)
def DP.A (d : DP) (i j : Nat) : Bool:=(d.anc.getD i 0).testBit j
def DP.pos (d : DP) (j : Nat) : Nat:=d.ord.idxOf j
def DP.dst (d : DP) (j : Nat) : Option Tmp:=(d.ops[j]?).bind (·.dst)
def DP.lt (d : DP) (j : Nat) : Bool:=((d.ops[j]?).map floatO).getD false
def DP.al (d : DP) (j : Nat) : Bool:=((d.ops[j]?).map makesO).getD false
def DP.ed (d : DP) (j : Nat) : List Nat:=((d.ops[j]?).map edgesOf).getD []
def DP.writer (d : DP) (t : Nat) : Option Nat:=(List.range d.ops.size).find? fun j=>d.dst j == some t
def DP.T (d : DP) (i t : Nat) : Option Loc:=
 let old:=if d.fi.inl.testBit t then none else (slotOf t).map .e
 match d.writer t with
 | none=>old
 | some j=>if d.A i j then some (.s (d.pos j)) else if j == i || d.A j i then old else none
def ordGo (ops : Array Oper) : Nat→Nat→List Nat
 | 0,_=>[]
 | k + 1,m=>
   let rdy:=(List.range ops.size).filter fun i=>!m.testBit i && ((ops[i]?).map fun o=>(edgesOf o).all (m.testBit ·)).getD false
   match (rdy.find? fun i=>((ops[i]?).map makesO).getD false) <|> rdy.find? fun i=>((ops[i]?).map floatO).getD false with
   | some i=>i :: ordGo ops k (m ||| 1 <<< i)
   | none=>match rdy with
     | i :: _=>i :: ordGo ops k (m ||| 1 <<< i)
     | []=>[]
def dpOf (fi : FI) (ops : Array Oper) : DP:=⟨ops,ancGo ops.toList [],ordGo ops ops.size 0,fi,[]⟩
def dpX (fi : FI) (ops : Array Oper) (x y : Nat) : DP:=⟨ops,ancGo ops.toList [],ordGo (ops.modify y fun o=>{ o with after:=o.after.push { on:=x,ground:=.data } }) ops.size 0,fi,[(x,y)]⟩
def DP.pair (d : DP) : Option (Nat × Nat):=
 match (List.range d.ops.size).flatMap fun i=>if d.lt i then [] else ((List.range i).filter fun j=>!d.lt j && !d.A i j && !d.A j i).map fun j=>(j,i) with
 | [p]=>if p.1 == p.2 then none else some p
 | _=>none
def DP.chk (d : DP) : Bool:=
 let n:=d.ops.size
 d.ord.length == n && (d.ord.all fun j=>decide (j < n)) && (List.range n).all fun i=>
  decide (d.pos i < n) && (d.ord[i]?).any (fun j=>d.pos j == i) && ((List.range n).all fun x=>!d.A i x || (d.ed i).any fun e=>x == e || d.A e x)
   && ((d.ed i).all fun e=>decide (d.pos e < d.pos i)) && ((List.range n).all fun j=>d.lt j || j == i || !decide (d.pos j < d.pos i) || d.A i j || (!d.lt i && d.xs.contains (j,i)))
   && ((d.dst i).all fun t=>d.writer t == some i && decide (t < d.fi.nt))
def DP.vi (P : Program) (ng : Nat) (d : DP) (i : Nat) : Option VI:=(d.ops[i]?).bind fun o=>cGuard P (locOf (d.T i) ng) d.ops o
def DP.agains (P : Program) (ng : Nat) (d : DP) (i : Nat) (all : Bool) : List Nat→Option (List DI)
 | []=>some []
 | j :: js=>if d.lt j && !d.al j && (all || !d.A i j) then (d.vi P ng j).bind fun v=>if v.pure then d.agains P ng i all js else if v.light then (d.agains P ng i all js).map fun l=>.again (d.pos j) v :: l else none else d.agains P ng i all js
def DP.items (P : Program) (ng : Nat) (d : DP) : List Nat→Nat→Option (List DI)
 | [],_=>some []
 | i :: is,m=>(d.vi P ng i).bind fun v=>
   if d.al i then if v.makes then (d.agains P ng i true (d.ord.take m)).bind fun g=>(d.items P ng is (m + 1)).map fun l=>.heavy v :: (g ++ l) else none
   else if d.lt i then if v.light then (d.items P ng is (m + 1)).map fun l=>.light v :: l else none
   else (d.agains P ng i false (d.ord.take m)).bind fun g=>(d.items P ng is (m + 1)).map fun l=>.heavy v :: (g ++ l)
def DP.outs (d : DP) : List Nat→Option (List (Slot × Nat))
 | []=>some []
 | j :: js=>match d.dst j with
   | some t=>if d.fi.inl.testBit t then d.outs js else (slotOf t).bind fun x=>(d.outs js).map fun l=>(x,d.pos j) :: l
   | none=>d.outs js
section facts
variable {d : DP}
structure DP.Ok (d : DP) : Prop where
 len : d.ord.length = d.ops.size
 bnd : ∀ j ∈ d.ord,j < d.ops.size
 pos : ∀ i,i < d.ops.size→d.pos i < d.ops.size
 inj : ∀ m,m < d.ops.size→∃ j,d.ord[m]? = some j∧d.pos j = m
 anc : ∀ i,i < d.ops.size→∀ x,x < d.ops.size→d.A i x = true→∃ e ∈ d.ed i,x = e ∨ d.A e x = true
 edge : ∀ i,i < d.ops.size→∀ e ∈ d.ed i,d.pos e < d.pos i
 heavy : ∀ i,i < d.ops.size→∀ j,j < d.ops.size→d.lt j = false→j ≠ i→d.pos j < d.pos i→d.A i j = true ∨ (d.lt i = false∧(j,i) ∈ d.xs)
 dst : ∀ i,i < d.ops.size→∀ t,d.dst i = some t→d.writer t = some i∧t < d.fi.nt
theorem DP.chk_ok (h : d.chk = true) : d.Ok:=by
 simp only [DP.chk,Bool.and_eq_true,beq_iff_eq,List.all_eq_true,List.mem_range] at h
 obtain ⟨⟨h0,hb⟩,h⟩:=h
 refine ⟨h0,fun j hj=>of_decide_eq_true (hb j hj),fun i hi=>?_,fun m hm=>?_,fun i hi x hx ha=>?_,fun i hi e he=>?_,fun i hi j hj hl hne hp=>?_,fun i hi t ht=>?_⟩
 · exact of_decide_eq_true (h i hi).1.1.1.1.1
 · have:=(h m hm).1.1.1.1.2
   obtain ⟨j,h1,h2⟩:=Option.any_eq_true _ _ |>.1 this
   exact ⟨j,h1,by simpa using h2⟩
 · have:=(h i hi).1.1.1.2 x hx
   rw [ha] at this
   simp only [Bool.not_true,Bool.false_or,List.any_eq_true] at this
   obtain ⟨e,h1,h2⟩:=this
   exact ⟨e,h1,by simpa using h2⟩
 · exact of_decide_eq_true ((h i hi).1.1.2 e he)
 · have:=(h i hi).1.2 j hj
   simp only [hl,Bool.false_or,Bool.or_eq_true,Bool.and_eq_true,Bool.not_eq_true',decide_eq_false_iff_not,beq_iff_eq,List.contains_iff_mem] at this
   rcases this with ((h1 | h1) | h1) | h1
   · exact absurd h1 hne
   · exact absurd hp h1
   · exact .inl h1
   · exact .inr h1
 · have:=(h i hi).2
   rw [ht] at this
   simpa using this
end facts
end Go.Ev

/- EVALUATOR, 27: whatever order is drawn, the region comes to what the one order comes to. -/
namespace Go.Ev
variable {P : Program}
section light
variable {ρ : Rho} {h : Heap} {w : World} {ng : Nat} {T : Nat→Option Loc} {L : List V} {env : Env} {a : Act} {b : Frame} {ops : Array Oper} {i : Nat} {o : Oper} {cf : CF}
theorem vi_light (c : Cx P ρ ng T L env h w a) {v : VI} (hc : cVI P (locOf T ng) o.pos o.op = some v) (hl : v.light = true) {u : V} {h₁ : Heap} {k : V→Heap→Res} (hk : ∀ u',k u' h = .ret u h₁→u' = u)
 (hh : runVI cf v L env h k .pan = .ret u h₁) (ho : ops[i]? = some o) (hw : Region.wanted o (yielded ops a.tmps) = true) :
 ∃ y,VR ρ u y∧∀ (Q : Post) (rest : List Nat) (cs : List Frame),WO P b ops rest Q (a.put o.dst y) cs w→WO P b ops (i :: rest) Q a cs w:=by
 unfold cVI at hc
 split at hc
 · rename_i ox hox
   cases hc
   obtain ⟨u',y,h1,h2,h3⟩:=(cOX_ok c hox (show semOX ox L env h k = .ret u h₁ from hh) (by simp)).1 hl
   obtain rfl:=hk _ h1
   exact ⟨y,h3,fun Q rest cs hq=>.value ho hw (.inr fun c e=>by rw [e,cOX_defer] at hox; cases hox) h2 hq⟩
 · split at hc
   · split at hc
     · obtain ⟨_,_,rfl⟩:=Option.map_eq_some_iff.1 hc; cases hl
     · cases hc
   · obtain ⟨_,_,hc⟩:=Option.bind_eq_some_iff.1 hc
     obtain ⟨_,_,rfl⟩:=Option.map_eq_some_iff.1 hc; cases hl
   · obtain ⟨_,_,rfl⟩:=Option.map_eq_some_iff.1 hc; cases hl
   · cases hc
theorem castO_light {v : VI} (hl : (castO P o v).light = true) : v.light = true:=by
 unfold castO at hl
 split at hl
 · split at hl
   · exact hl
   · exact hl
 · exact hl
theorem vi_noalt (c : Cx P ρ ng T L env h w a) {v : VI} (hc : cVI P (locOf T ng) o.pos o.op = some v) (hl : v.light = true) {k : V→Heap→Res} (hk : ∀ u x y,k u h ≠ .alt x y) (x y : Res) : runVI cf v L env h k .pan ≠ .alt x y:=by
 intro hh
 unfold cVI at hc
 split at hc
 · rename_i ox hox
   cases hc
   obtain ⟨u',y',h1,_⟩:=(cOX_ok c hox (show semOX ox L env h k = .alt x y from hh) (by simp)).1 hl
   exact hk _ _ _ h1
 · split at hc
   · split at hc
     · obtain ⟨_,_,rfl⟩:=Option.map_eq_some_iff.1 hc; cases hl
     · cases hc
   · obtain ⟨_,_,hc⟩:=Option.bind_eq_some_iff.1 hc
     obtain ⟨_,_,rfl⟩:=Option.map_eq_some_iff.1 hc; cases hl
   · obtain ⟨_,_,rfl⟩:=Option.map_eq_some_iff.1 hc; cases hl
   · cases hc
theorem vi_noalt' (c : Cx P ρ ng T L env h w a) {v : VI} (hc : cVI P (locOf T ng) o.pos o.op = some v) (hl : (castO P o v).light = true) (x y : Res) : runVI cf (castO P o v) L env h .ret .pan ≠ .alt x y:=by
 have hl':=castO_light hl
 have cast : ∀ s,runVI cf (.cast s v) L env h .ret .pan ≠ .alt x y:=fun s=>
  vi_noalt (k:=fun u h'=>castk s u fun u=>.ret u h') c hc hl' (fun u x y e=>by
   have:=castk_ok (k:=fun u=>.ret u h) e (by simp)
   cases this) x y
 have plain : runVI cf v L env h .ret .pan ≠ .alt x y:=vi_noalt (k:=.ret) c hc hl' (fun _ _ _ e=>by cases e) x y
 unfold castO
 split
 · split
   · exact plain
   · exact cast _
 · exact plain
theorem vi_light' (c : Cx P ρ ng T L env h w a) {v : VI} (hc : cVI P (locOf T ng) o.pos o.op = some v) (hl : (castO P o v).light = true) {u : V} {h₁ : Heap} (hh : runVI cf (castO P o v) L env h .ret .pan = .ret u h₁)
 (ho : ops[i]? = some o) (hw : Region.wanted o (yielded ops a.tmps) = true) :
 ∃ y,VR ρ u y∧∀ (Q : Post) (rest : List Nat) (cs : List Frame),WO P b ops rest Q (a.put o.dst y) cs w→WO P b ops (i :: rest) Q a cs w:=by
 have hl':=castO_light hl
 have cast : ∀ s,runVI cf (.cast s v) L env h .ret .pan = .ret u h₁→∃ y,VR ρ u y∧∀ (Q : Post) (rest : List Nat) (cs : List Frame),WO P b ops rest Q (a.put o.dst y) cs w→WO P b ops (i :: rest) Q a cs w:=
  fun s hh=>vi_light (k:=fun u h'=>castk s u fun u=>.ret u h') c hc hl' (fun u' h1=>by
   have:=castk_ok (k:=fun u=>.ret u h) h1 (by simp)
   cases this; rfl) hh ho hw
 unfold castO at hh
 split at hh
 · split at hh
   · exact vi_light c hc hl' (fun u' h1=>by cases h1; rfl) hh ho hw
   · exact cast _ hh
 · exact vi_light c hc hl' (fun u' h1=>by cases h1; rfl) hh ho hw
theorem light_ok (c : Cx P ρ ng T L env h w a) {v : VI} (hc : cGuard P (locOf T ng) ops o = some v) (hl : v.light = true) {u : V} {h₁ : Heap} (hh : runVI cf v L env h .ret .pan = .ret u h₁)
 (ho : ops[i]? = some o) :
 ∃ y,VR ρ u y∧∀ (Q : Post) (rest : List Nat) (cs : List Frame),WO P b ops rest Q (a.put o.dst y) cs w→WO P b ops (i :: rest) Q a cs w:=by
 unfold cGuard at hc
 split at hc
 · rename_i hg
   obtain ⟨v,h1,rfl⟩:=Option.map_eq_some_iff.1 hc
   exact vi_light' c h1 hl hh ho (by simp [Region.wanted,hg])
 · rename_i j want hg
   obtain ⟨t,h1,hc⟩:=Option.bind_eq_some_iff.1 hc
   obtain ⟨lc,h2,hc⟩:=Option.bind_eq_some_iff.1 hc
   obtain ⟨v,h3,rfl⟩:=Option.map_eq_some_iff.1 hc
   obtain ⟨u',h4,h5⟩:=c.loc h2 (k:=fun x=>backk (grdk x (fun t=>ifk (wantb want t)
    (runVI cf (castO P o v) L env h .ret .pan) (.ret .skip h)) (.ret .skip h)) .ret .pan) hh (by simp)
   have hy:=yielded_eq (a:=a) h1
   obtain ⟨q,h6,hq⟩ : ∃ q,grdk u' (fun t=>ifk (wantb want t)
    (runVI cf (castO P o v) L env h .ret .pan) (.ret .skip h)) (.ret .skip h) = q∧backk q .ret .pan = .ret u h₁:=⟨_,rfl,h4⟩
   have hq1 : q = .ret u h₁:=by
    rcases backk_ok hq (by simp) with ⟨_,_,rfl,h7⟩ | ⟨_,_,_,h7⟩ | ⟨x,y,rfl⟩
    · exact h7
    · cases h7
    · rcases grdk_ok h6 (by simp) with ⟨_,_,h7⟩ | ⟨_,h7⟩
      · rcases ifk_ne h7 with ⟨_,h8⟩ | ⟨_,h8⟩
        · exact absurd h8 (vi_noalt' c h3 hl x y)
        · cases h8
      · cases h7
   subst hq1
   have skip : Region.wanted o (yielded ops a.tmps) = false→(Res.ret .skip h) = .ret u h₁ →
    ∃ y,VR ρ u y∧∀ (Q : Post) (rest : List Nat) (cs : List Frame),WO P b ops rest Q (a.put o.dst y) cs w→WO P b ops (i :: rest) Q a cs w:=fun hz h7=>by
    cases h7
    exact ⟨_,.skip,fun Q rest cs hq=>.skip ho hz hq⟩
   rcases grdk_ok h6 (by simp) with ⟨x,rfl,h6⟩ | ⟨rfl,h6⟩
   · generalize a.eval (.tmp t) = xv at h5 hy
     cases h5
     rcases ifk_ne h6 with ⟨h7,h8⟩ | ⟨h7,h8⟩
     · refine vi_light' c h3 hl h8 ho ?_
       simp only [Region.wanted,hg,hy]
       cases x <;> cases want <;> simp_all [wantb]
     · refine skip ?_ h8
       simp only [Region.wanted,hg,hy]
       cases x <;> cases want <;> simp_all [wantb]
   · generalize a.eval (.tmp t) = xv at h5 hy
     cases h5
     refine skip ?_ h6
     simp only [Region.wanted,hg,hy]
     rfl
end light
def Fact (P : Program) (ng : Nat) (d : DP) (cf : CF) (env : Env) (L : List V) (h : Heap) (i : Nat) : Prop:=
 ∃ (v : VI) (L₀ : List V) (u : V) (h₁ : Heap),d.vi P ng i = some v∧v.light = true∧(∀ (k : Nat) (x : V),L₀[k]? = some x→L[k]? = some x)∧L[d.pos i]? = some u∧runVI cf v L₀ env h .ret .pan = .ret u h₁
def AFact (P : Program) (ng : Nat) (d : DP) (env : Env) (ρ : Rho) (h₀ : Heap) (L : List V) (h : Heap) (i : Nat) (b : Bid) : Prop:=
 ∃ (o : Oper) (L₀ : List V) (u : V) (x : Blk),d.ops[i]? = some o∧o.guard = none∧(∀ (k : Nat) (x : V),L₀[k]? = some x→L[k]? = some x)∧L[d.pos i]? = some u∧Promise P ng (d.T i) L₀ env o u b x ∧
  h₀.nx.val ≤ b.val∧b.val < h.nx.val∧ρ b = none∧h.t.get b = x
def Lst (listed : Array Bool) (i : Nat) : Prop:=listed.getD i false = true
structure Sim (P : Program) (ng : Nat) (d : DP) (cf : CF) (env : Env) (k : List V→Heap→Res) (kp : V→Heap→Res) (r : Res) (ρ₀ : Rho) (h₀ : Heap) (w₀ : World)
 (listed : Array Bool) (m : Nat) (L : List V) (ρ : Rho) (h : Heap) (a : Act) (w : World) : Prop where
 sz : listed.size = d.ops.size
 closed : ∀ i j,Lst listed i→j < d.ops.size→d.A i j = true→Lst listed j
 len : L.length = m
 le : m ≤ d.ops.size
 run : ∃ l,d.items P ng (d.ord.drop m) m = some l∧runD cf env l L h k kp = r
 sub : ∀ i,Lst listed i→d.pos i < m
 hv : ∀ i,i < d.ops.size→d.lt i = false→d.pos i < m→Lst listed i
 vals : ∀ i,Lst listed i→∀ t,d.dst i = some t→∃ v,L[d.pos i]? = some v∧VR ρ v (a.tmps.getD t Go.undef)
 old : ∀ t x,slotOf t = some x→d.fi.inl.testBit t = false→(∀ j,d.writer t = some j→¬ Lst listed j)→VR ρ (env.at x) (a.tmps.getD t Go.undef)
 tsz : a.tmps.size = d.fi.nt
 rh : RH P ρ h w
 ext : Ext ρ₀ h₀ w₀ ρ h w
 glob : GlobR ρ ng
 facts : ∀ i,i < d.ops.size→d.lt i = true→d.al i = false→d.pos i < m→¬ Lst listed i→Fact P ng d cf env L h i
 made : ∃ B : Nat→Bid,(∀ i,i < d.ops.size→d.al i = true→d.pos i < m→¬ Lst listed i→AFact P ng d env ρ h₀ L h i (B i)) ∧
  ∀ i j,i < d.ops.size→d.al i = true→d.pos i < m→¬ Lst listed i→j < d.ops.size→d.al j = true→d.pos j < m→¬ Lst listed j→B i = B j→i = j
section sim
variable {ng : Nat} {d : DP} {cf : CF} {env : Env} {k : List V→Heap→Res} {kp : V→Heap→Res} {r : Res} {ρ₀ : Rho} {h₀ : Heap} {w₀ : World} {listed : Array Bool} {m : Nat} {L : List V} {ρ : Rho} {h : Heap} {a : Act} {w : World}
theorem vi_op {f : Operand→Option Loc} {ops : Array Oper} {o : Oper} {ox : OX} (hg : o.guard = none) (hop : makes o.op = true) (h : cGuard P f ops o = some (.op ox)) : cOX P f o.pos o.op = some ox:=by
 unfold cGuard at h
 rw [hg] at h
 obtain ⟨v,h1,h2⟩:=Option.map_eq_some_iff.1 h
 have hb : blindOp o.op = false:=by
  revert hop
  cases o.op <;> first | (intro h; cases h; done) | (intro _; rfl)
 have h3 : v = .op ox:=by
  unfold castO at h2
  rw [hb] at h2
  simpa using h2
 subst h3
 unfold cVI at h1
 split at h1
 · rename_i ox' hox
   cases h1
   exact hox
 · split at h1
   · split at h1
     · obtain ⟨_,_,h⟩:=Option.map_eq_some_iff.1 h1; cases h
     · cases h1
   · obtain ⟨_,_,h1⟩:=Option.bind_eq_some_iff.1 h1
     obtain ⟨_,_,h⟩:=Option.map_eq_some_iff.1 h1; cases h
   · obtain ⟨_,_,h⟩:=Option.map_eq_some_iff.1 h1; cases h
   · cases h1
theorem Lst.lt {i : Nat} (h : Lst listed i) : i < listed.size:=by
 unfold Lst at h
 rcases Nat.lt_or_ge i listed.size with h' | h'
 · exact h'
 · rw [Array.getD_eq_getD_getElem?,Array.getElem?_eq_none h'] at h; cases h
theorem DP.Ok.ord_pos (hd : d.Ok) {i : Nat} (hi : i < d.ops.size) : d.ord[d.pos i]? = some i:=by
 have h1 : d.pos i < d.ord.length:=by rw [hd.len]; exact hd.pos i hi
 have h2:=List.getElem_idxOf (xs:=d.ord) (x:=i) h1
 rw [List.getElem?_eq_getElem h1]
 exact congrArg some h2
theorem DP.Ok.eq_of_pos (hd : d.Ok) {i j : Nat} (hi : i < d.ops.size) (h : d.ord[d.pos i]? = some j) : j = i:=by
 rw [hd.ord_pos hi] at h; exact (Option.some.inj h).symm
theorem Fact.grow {i : Nat} {u : V} (f : Fact P ng d cf env L h i) : Fact P ng d cf env (L ++ [u]) h i:=by
 obtain ⟨v,L₀,x,h₁,h1,h2,h3,h4,h5⟩:=f
 have : ∀ (k : Nat) (x : V),L[k]? = some x→(L ++ [u])[k]? = some x:=fun k x hk=>by
  rw [List.getElem?_append_left (List.getElem?_eq_some_iff.1 hk).1]; exact hk
 exact ⟨v,L₀,x,h₁,h1,h2,fun k x hk=>this k x (h3 k x hk),this _ _ h4,h5⟩
theorem AFact.grow {i : Nat} {b : Bid} {u : V} (f : AFact P ng d env ρ h₀ L h i b) : AFact P ng d env ρ h₀ (L ++ [u]) h i b:=by
 obtain ⟨o,L₀,v,x,h1,h2,h3,h4,h5⟩:=f
 have : ∀ (k : Nat) (x : V),L[k]? = some x→(L ++ [u])[k]? = some x:=fun k x hk=>by
  rw [List.getElem?_append_left (List.getElem?_eq_some_iff.1 hk).1]; exact hk
 exact ⟨o,L₀,v,x,h1,h2,fun k x hk=>this k x (h3 k x hk),this _ _ h4,h5⟩
theorem AFact.step {i : Nat} {b : Bid} {ρ' : Rho} {h' : Heap} {w' : World} (f : AFact P ng d env ρ h₀ L h i b) (X : Ext ρ h w ρ' h' w') : AFact P ng d env ρ' h₀ L h' i b:=by
 obtain ⟨o,L₀,v,x,h1,h2,h3,h4,h5,h6,h7,h8,h9⟩:=f
 obtain ⟨g1,g2⟩:=X.virt b h7 h8
 exact ⟨o,L₀,v,x,h1,h2,h3,h4,h5,h6,Nat.lt_of_lt_of_le h7 X.nx,g1,g2.trans h9⟩
theorem al_lt {i : Nat} (h : d.al i = true) : d.lt i = true:=by
 unfold DP.al at h
 unfold DP.lt
 cases ho : d.ops[i]? with
 | none=>rw [ho] at h; cases h
 | some o=>
   rw [ho] at h
   simp only [Option.map_some,Option.getD_some] at h ⊢
   simp [floatO,h]
theorem Fact.pure {i : Nat} {v : VI} {h' : Heap} {L' : List V} (f : Fact P ng d cf env L h i) (hv : d.vi P ng i = some v) (hp : v.pure = true) (hL : ∀ (k : Nat) (x : V),L[k]? = some x→L'[k]? = some x) : Fact P ng d cf env L' h' i:=by
 obtain ⟨v',L₀,u,h₁,h1,h2,h3,h4,h5⟩:=f
 rw [hv] at h1
 cases h1
 exact ⟨v,L₀,u,h',hv,h2,fun k x hk=>hL k x (h3 k x hk),hL _ _ h4,pure_again hp h5 h'⟩
theorem agains_ok (hr : r ≠ .fail) {i : Nat} {all : Bool} (f : ∀ j v,d.vi P ng j = some v→v.pure = true→d.lt j = true→d.al j = false→(all = true ∨ d.A i j = false)→Fact P ng d cf env L h j ∨ ¬ d.pos j < m ∨ Lst listed j) :
 ∀ {js : List Nat} {g l : List DI},d.agains P ng i all js = some g→runD cf env (g ++ l) L h k kp = r →
 runD cf env l L h k kp = r∧∀ j ∈ js,d.lt j = true→d.al j = false→(all = true ∨ d.A i j = false)→d.pos j < m→¬ Lst listed j→Fact P ng d cf env L h j
 | [],g,l,hg,hh=>by cases hg; exact ⟨hh,by simp⟩
 | j :: js,g,l,hg,hh=>by
   simp only [DP.agains] at hg
   split at hg
   · rename_i hcond
     obtain ⟨v,h1,hg⟩:=Option.bind_eq_some_iff.1 hg
     split at hg
     · rename_i hvp
       obtain ⟨h6,h7⟩:=agains_ok hr f hg hh
       refine ⟨h6,fun j' hj' hl hal ha hpj hnl=>?_⟩
       rcases List.mem_cons.1 hj' with rfl | hj'
       · rcases f _ v h1 hvp hl hal ha with h | h | h
         · exact h
         · exact absurd hpj h
         · exact absurd h hnl
       · exact h7 j' hj' hl hal ha hpj hnl
     · split at hg
       · rename_i hvl
         obtain ⟨g',h2,rfl⟩:=Option.map_eq_some_iff.1 hg
         have hh : back1k (runVI cf v L env h .ret .pan) (fun u _=>nthk L (d.pos j) fun x=>veqk u x (runD cf env (g' ++ l) L h k kp)) (fun _ _=>.fail) = r:=hh
         rcases back1k_ok hh hr with ⟨u,h₁,h8,h9⟩ | ⟨u,h₁,h8,h9⟩
         · obtain ⟨x,h3,h4⟩:=nthk_ok h9 hr
           obtain ⟨rfl,h5⟩:=veqk_ok u h4 hr
           obtain ⟨h6,h7⟩:=agains_ok hr f h2 h5
           refine ⟨h6,fun j' hj' hl hal ha hpj hnl=>?_⟩
           rcases List.mem_cons.1 hj' with rfl | hj'
           · exact ⟨v,L,u,h₁,h1,hvl,fun _ _ h=>h,h3,h8⟩
           · exact h7 j' hj' hl hal ha hpj hnl
         · exact absurd h9.symm hr
       · cases hg
   · rename_i hc
     obtain ⟨h6,h7⟩:=agains_ok hr f hg hh
     refine ⟨h6,fun j' hj' hl hal ha hpj hnl=>?_⟩
     rcases List.mem_cons.1 hj' with rfl | hj'
     · exact absurd (by rcases ha with ha | ha <;> simp [hl,hal,ha]) hc
     · exact h7 j' hj' hl hal ha hpj hnl
theorem Sim.adv (hd : d.Ok) (hr : r ≠ .fail) (s : Sim P ng d cf env k kp r ρ₀ h₀ w₀ listed m L ρ h a w) : ∃ m' L' h',Sim P ng d cf env k kp r ρ₀ h₀ w₀ listed m' L' ρ h' a w ∧
 (m' = d.ops.size ∨ ∃ j,d.ord[m']? = some j∧d.lt j = false):=by
 obtain ⟨n,hn⟩ : ∃ n,d.ops.size - m = n:=⟨_,rfl⟩
 induction n generalizing m L h with
 | zero=>exact ⟨m,L,h,s,.inl (by have:=s.le; omega)⟩
 | succ n ih=>
   have hm : m < d.ops.size:=by omega
   obtain ⟨j,h1,h2⟩:=hd.inj m hm
   by_cases hl : d.lt j = false
   · exact ⟨m,L,h,s,.inr ⟨j,h1,hl⟩⟩
   · have hl : d.lt j = true:=by simpa using hl
     obtain ⟨l,h3,h4⟩:=s.run
     have hml : m < d.ord.length:=by rw [hd.len]; exact hm
     rw [List.drop_eq_getElem_cons hml] at h3
     have hj : d.ord[m] = j:=by rw [List.getElem?_eq_getElem hml] at h1; exact Option.some.inj h1
     rw [hj] at h3
     obtain ⟨v,h5,h6⟩:=Option.bind_eq_some_iff.1 h3
     have hltL : ∀ {u : V} {i},d.pos i < m→∀ {x},L[d.pos i]? = some x→(L ++ [u])[d.pos i]? = some x:=fun hi x hx=>by
      rw [List.getElem?_append_left (List.getElem?_eq_some_iff.1 hx).1]; exact hx
     have hjm : ∀ {i},i < d.ops.size→d.pos i = m→i = j:=fun hi e=>(hd.eq_of_pos hi (by rw [e]; exact h1)).symm
     have hjlt : j < d.ops.size:=hd.bnd j (List.mem_of_getElem? h1)
     have hnl : ¬ Lst listed j:=fun hh=>by have:=s.sub j hh; omega
     by_cases hal : d.al j = true
     ·
      rw [if_pos hal] at h6
      split at h6
      · rename_i hvm
        obtain ⟨g,h7,h6⟩:=Option.bind_eq_some_iff.1 h6
        obtain ⟨l',h8,rfl⟩:=Option.map_eq_some_iff.1 h6
        have ho : d.ops[j]? = some d.ops[j]:=Array.getElem?_eq_getElem hjlt
        have hmk : makesO d.ops[j] = true:=by simpa [DP.al,ho] using hal
        simp only [makesO,Bool.and_eq_true,Option.isNone_iff_eq_none] at hmk
        obtain ⟨hg,hop⟩:=hmk
        obtain ⟨ox,rfl,hxa⟩ : ∃ ox,v = .op ox∧ox.al = true:=by cases v <;> first | exact ⟨_,rfl,hvm⟩ | cases hvm
        have hc : cOX P (locOf (d.T j) ng) d.ops[j].pos d.ops[j].op = some ox:=by
         simp only [DP.vi,ho,Option.bind_some] at h5
         exact vi_op hg hop h5
        have h4 : semOX ox L env h (fun u h'=>appk L [u] fun L'=>runD cf env (g ++ l') L' h' k kp) = r:=h4
        obtain ⟨u,x,h9,h10⟩:=made_ok hc hxa (by revert hop; cases d.ops[j].op <;> exact id) h4 hr
        have h9 : appk L [u] (fun L'=>runD cf env (g ++ l') L' (h.new x h.nx.nxt) k kp) = r:=h9
        rw [appk_eq] at h9
        have hgrow : ∀ (k : Nat) (x : V),L[k]? = some x→(L ++ [u])[k]? = some x:=fun k x hk=>by
         rw [List.getElem?_append_left (List.getElem?_eq_some_iff.1 hk).1]; exact hk
        obtain ⟨h11,h12⟩:=agains_ok (m:=m) (listed:=listed) hr (fun i v hv hp hli hai _=>by
         rcases Nat.lt_or_ge (d.pos i) m with hpm | hpm
         · rcases Classical.em (Lst listed i) with hL | hL
           · exact .inr (.inr hL)
           · have hi : i < d.ops.size:=by
              rcases Nat.lt_or_ge i d.ops.size with h | h
              · exact h
              · unfold DP.lt at hli; rw [Array.getElem?_eq_none h] at hli; cases hli
             exact .inl ((s.facts i hi hli hai hpm hL).pure hv hp hgrow)
         · exact .inr (.inl (by omega))) h7 h9
        obtain ⟨t1,t2⟩:=s.rh.thought x
        obtain ⟨B,b1,b2⟩:=s.made
        have hnv:=h.nx.nxt_val
        have hnx0 : h₀.nx.val ≤ h.nx.val:=s.ext.nx
        have hB : ∀ i,i < d.ops.size→d.al i = true→d.pos i < m→¬ Lst listed i→(B i).val < h.nx.val:=fun i h13 h14 h15 h16=>by
         obtain ⟨_,_,_,_,_,_,_,_,_,_,g7,_⟩:=b1 i h13 h14 h15 h16
         exact g7
        refine ih (m:=m + 1) (L:=L ++ [u]) (h:=h.new x h.nx.nxt) ⟨s.sz,s.closed,by simp [s.len],hm,⟨l',h8,h11⟩,fun i hi=>Nat.lt_succ_of_lt (s.sub i hi),fun i hi hli hp=>?_,fun i hi t ht=>?_,s.old,s.tsz,t1,
         s.ext.trans t2,s.glob,fun i hi hli hai hp hnl'=>?_,fun i=>if i = j then h.nx else B i,fun i hi hai hp hnl'=>?_,fun i i' hi hai hp hnl' hi' hai' hp' hnl'' e=>?_⟩ (by omega)
        · refine s.hv i hi hli (Nat.lt_of_le_of_ne (Nat.le_of_lt_succ hp) fun e=>?_)
          obtain rfl:=hjm hi e
          rw [hl] at hli; cases hli
        · obtain ⟨x,h13,h14⟩:=s.vals i hi t ht
          exact ⟨x,hltL (s.sub i hi) h13,h14⟩
        · have hpm : d.pos i < m:=Nat.lt_of_le_of_ne (Nat.le_of_lt_succ hp) fun e=>by
           obtain rfl:=hjm hi e
           rw [hal] at hai; cases hai
          refine h12 i ?_ hli hai (.inl rfl) hpm hnl'
          have h17:=hd.ord_pos hi
          exact List.mem_of_getElem? (i:=d.pos i) (by rw [List.getElem?_take_of_lt hpm]; exact h17)
        · show AFact P ng d env ρ h₀ (L ++ [u]) (h.new x h.nx.nxt) i (if i = j then h.nx else B i)
          by_cases e : i = j
          · subst e
            rw [if_pos rfl]
            refine ⟨d.ops[i],L,u,x,ho,hg,fun k x hk=>?_,?_,h10,hnx0,by simp only [Heap.new]; omega,(s.rh.fresh _ (Nat.le_refl _)).1,by simp only [Heap.new]; exact HT.get_set _ _ _⟩
            · rw [List.getElem?_append_left (List.getElem?_eq_some_iff.1 hk).1]; exact hk
            · rw [h2,← s.len]; simp
          · rw [if_neg e]
            have hpm : d.pos i < m:=Nat.lt_of_le_of_ne (Nat.le_of_lt_succ hp) fun e'=>e (hjm hi e')
            exact ((b1 i hi hai hpm hnl').step t2).grow
        · have e : (if i = j then h.nx else B i) = (if i' = j then h.nx else B i'):=e
          by_cases e1 : i = j
          · by_cases e2 : i' = j
            · rw [e1,e2]
            · rw [if_pos e1,if_neg e2] at e
              have hpm : d.pos i' < m:=Nat.lt_of_le_of_ne (Nat.le_of_lt_succ hp') fun e'=>e2 (hjm hi' e')
              have:=hB i' hi' hai' hpm hnl''
              rw [← e] at this; omega
          · have hpm : d.pos i < m:=Nat.lt_of_le_of_ne (Nat.le_of_lt_succ hp) fun e'=>e1 (hjm hi e')
            by_cases e2 : i' = j
            · rw [if_neg e1,if_pos e2] at e
              have:=hB i hi hai hpm hnl'
              rw [e] at this; omega
            · rw [if_neg e1,if_neg e2] at e
              have hpm' : d.pos i' < m:=Nat.lt_of_le_of_ne (Nat.le_of_lt_succ hp') fun e'=>e2 (hjm hi' e')
              exact b2 i i' hi hai hpm hnl' hi' hai' hpm' hnl'' e
      · cases h6
     · have hal : d.al j = false:=by simpa using hal
       rw [if_neg (by rw [hal]; simp),if_pos hl] at h6
       split at h6
       · rename_i hvl
         obtain ⟨l',h7,rfl⟩:=Option.map_eq_some_iff.1 h6
         have h4 : back1k (runVI cf v L env h .ret .pan) (fun u _=>castk v.shp u fun u=>appk L [u] fun L'=>runD cf env l' L' h k kp) (fun _ _=>.fail) = r:=h4
         rcases back1k_ok h4 hr with ⟨u,h₁,h8,h9⟩ | ⟨u,h₁,h8,h9⟩
         · have h9:=castk_ok (k:=fun u=>appk L [u] fun L'=>runD cf env l' L' h k kp) h9 hr
           rw [appk_eq] at h9
           obtain ⟨B,b1,b2⟩:=s.made
           have hpm : ∀ {i},i < d.ops.size→d.al i = true→d.pos i < m + 1→d.pos i < m:=fun hi hai hp=>Nat.lt_of_le_of_ne (Nat.le_of_lt_succ hp) fun e=>by
            obtain rfl:=hjm hi e
            rw [hal] at hai; cases hai
           refine ih (m:=m + 1) (L:=L ++ [u]) ⟨s.sz,s.closed,by simp [s.len],hm,⟨l',h7,h9⟩,fun i hi=>Nat.lt_succ_of_lt (s.sub i hi),fun i hi hli hp=>?_,fun i hi t ht=>?_,s.old,s.tsz,s.rh,s.ext,s.glob,
            fun i hi hli hai hp hnl=>?_,B,fun i hi hai hp hnl'=>(b1 i hi hai (hpm hi hai hp) hnl').grow,fun i i' hi hai hp hnl' hi' hai' hp'=>b2 i i' hi hai (hpm hi hai hp) hnl' hi' hai' (hpm hi' hai' hp')⟩ (by omega)
           · refine s.hv i hi hli (Nat.lt_of_le_of_ne (Nat.le_of_lt_succ hp) ?_)
             intro e
             obtain rfl:=hjm hi e
             rw [hl] at hli; cases hli
           · obtain ⟨x,h10,h11⟩:=s.vals i hi t ht
             exact ⟨x,hltL (s.sub i hi) h10,h11⟩
           · rcases Nat.lt_or_eq_of_le (Nat.le_of_lt_succ hp) with hp | hp
             · exact (s.facts i hi hli hai hp hnl).grow
             · obtain rfl:=hjm hi hp
               refine ⟨v,L,u,h₁,h5,hvl,fun k x hk=>?_,?_,h8⟩
               · rw [List.getElem?_append_left (List.getElem?_eq_some_iff.1 hk).1]; exact hk
               · rw [hp,← s.len]; simp
         · exact absurd h9.symm hr
       · cases h6
end sim
end Go.Ev
