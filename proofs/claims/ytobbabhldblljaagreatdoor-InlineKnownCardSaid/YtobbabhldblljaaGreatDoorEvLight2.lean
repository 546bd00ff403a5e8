/- EvLight2: texts joined. -/
import Derived.Test.YtobbabhldblljaaGreatDoorEvEx0
import Derived.Test.YtobbabhldblljaaGreatDoorEvBulk
/- EVALUATOR, 17: an operation as it is prepared, what the kernel does at it. -/
namespace Go.Ev
variable {P : Program}
inductive OX where
 | mv (x : Loc)
 | pick (c a b : Loc)
 | alloc (g n : Nat) (c : List V)
 | box (x : Loc)
 | build (n : Nat) (tmpl : List V) (ps : List (Nat × Nat × Loc))
 | buildS (g n : Nat) (tmpl : List V) (ps : List (Nat × Nat × Loc))
 | load1 (x : Loc)
 | loadN (n : Nat) (x : Loc)
 | store1 (a x : Loc)
 | storeN (n : Nat) (a x : Loc)
 | nil (x : Loc)
 | binI (o : BinOp) (x y : Loc)
 | binS (o : BinOp) (x y : Loc)
 | binB (o : BinOp) (x y : Loc)
 | binP (o : BinOp) (x y : Loc)
 | binL (o : BinOp) (x y : Loc)
 | binM (o : BinOp) (x y : Loc)
 | binF (o : BinOp) (x y : Loc)
 | binE (o : BinOp) (x y : Loc)
 | neg (x : Loc)
 | not (x : Loc)
 | com (x : Loc)
 | convI (kd : IntKind) (x : Loc)
 | convS (x : Loc)
 | bytesS (x : Loc)
 | mkif (t : Nat) (x : Loc)
 | mkfn (f : Nat) (cap : List Loc)
 | mkS (g : Nat) (z : List V) (l c : Loc)
 | sliS (x : Loc) (lo hi : Option Loc)
 | sli (sz : Nat) (x : Loc) (lo hi mx : Option Loc)
 | sliA (n sz : Nat) (x : Loc) (lo hi : Option Loc)
 | faddr (off : Nat) (x : Loc)
 | fld1 (off : Nat) (x : Loc)
 | fldN (off n : Nat) (x : Loc)
 | iaddr (sz : Nat) (x i : Loc)
 | iaddrA (n sz : Nat) (x i : Loc)
 | idxS (x i : Loc)
 | idxA (n sz : Nat) (x i : Loc)
 | extract (i : Nat) (x : Loc)
 | len (x : Loc)
 | lenS (x : Loc)
 | app (sz : Nat) (x y : Loc)
 | appS (x y : Loc)
 | appZ (sz : Nat) (z : List V) (x y : Loc)
 | copy (sz : Nat) (x y : Loc)
 | copyS (x y : Loc)
 | mm (mx : Bool) (x y : Loc)
 | mark (x : Loc)
 | ex (x : EX) (l : List Loc)
def OX.light : OX→Bool
 | .alloc _ _ _ | .box _ | .buildS _ _ _ _ | .store1 _ _ | .storeN _ _ _ | .mkS _ _ _ _ | .app _ _ _ | .appS _ _ | .appZ _ _ _ _ | .copy _ _ _ | .copyS _ _ | .mark _=>false
 | .ex x _=>x.light
 | _=>true
noncomputable def getsk (xs : List Loc) (L : List V) (env : Env) : (List V→Res)→Res:=
 List.rec (motive:=fun _=>(List V→Res)→Res) (fun k=>k []) (fun x _ ih k=>getk x L env fun v=>ih fun l=>k (v :: l)) xs
noncomputable def getpk (ps : List (Nat × Nat × Loc)) (L : List V) (env : Env) : (List (Nat × Nat × V)→Res)→Res:=
 List.rec (motive:=fun _=>(List (Nat × Nat × V)→Res)→Res) (fun k=>k [])
  (fun p _ ih k=>Prod.rec (motive:=fun _=>Res) (fun a q=>Prod.rec (motive:=fun _=>Res) (fun b x=>getk x L env fun v=>ih fun l=>k ((a,b,v) :: l)) q) p) ps
noncomputable def getok (x : Option Loc) (L : List V) (env : Env) (k : Option V→Res) : Res:=Option.rec (motive:=fun _=>Res) (k none) (fun x=>getk x L env fun v=>k (some v)) x
abbrev Do:=List V→Env→Heap→(V→Heap→Res)→Res
noncomputable def do1 (f : V→Heap→(V→Heap→Res)→Res) (x : Loc) : Do:=fun L env h k=>getk x L env fun v=>f v h k
noncomputable def do2 (f : V→V→Heap→(V→Heap→Res)→Res) (x y : Loc) : Do:=fun L env h k=>getk x L env fun v=>getk y L env fun u=>f v u h k
noncomputable def doB (f : BinOp→V→V→(V→Res)→Res) (o : BinOp) (x y : Loc) : Do:=fun L env h k=>getk x L env fun v=>getk y L env fun u=>f o v u fun z=>k z h
noncomputable def sMM (mx : Bool) (x y : V) (h : Heap) (k : V→Heap→Res) : Res:=
 intk x fun kx a=>intk y fun ky b=>ifk (Nat.beq (kno kx) (kno ky)) (ifk (Bool.rec (motive:=fun _=>Bool) (ilt b a) (ilt a b) mx) (k (.int kx b) h) (k (.int kx a) h)) .fail
noncomputable def sCopy (sz : Nat) (v u : V) (h : Heap) (k : V→Heap→Res) : Res:=
 slk u (fun _ _ _ _ _=>copyk sz v h (fun d k=>srcTk sz d u h k) k) (copyk sz v h (fun d k=>srcTk sz d u h k) k) (copyk sz v h (fun d k=>srcTk sz d u h k) k)
noncomputable def pickv (t : Bool) (a b : V) : V:=Bool.rec (motive:=fun _=>V) b a t
noncomputable def semOX (x : OX) : Do:=
 OX.rec (motive:=fun _=>Do)
  (do1 fun v h k=>k v h)
  (fun c a b L env h k=>getk c L env fun v=>boolk v fun t=>getk a L env fun u=>getk b L env fun u'=>k (pickv t u u') h)
  (fun g n c _ _ h k=>sAlloc g n (repT c n n) h k)
  (do1 sBox)
  (fun n tmpl ps L env h k=>getpk ps L env fun l=>sBuild n tmpl l h k)
  (fun g n tmpl ps L env h k=>getpk ps L env fun l=>sBuildS g n tmpl l h k)
  (do1 sLoad1)
  (fun n=>do1 (sLoadN n))
  (do2 sStore1)
  (fun n=>do2 (sStoreN n))
  (do1 sNil)
  (doB Go.Ev.binI) (doB Go.Ev.binS) (doB Go.Ev.binB) (doB (binN pnk)) (doB (binN snk)) (doB (binN mnk)) (doB (binN fnk0)) (doB (binN ink))
  (do1 sNeg) (do1 sNot) (do1 sCom)
  (fun kd=>do1 (sConvI kd))
  (do1 sConvS)
  (do1 sBytesS)
  (fun t=>do1 fun v h k=>k (.iface t v) h)
  (fun f cap L env h k=>getsk cap L env fun l=>k (.func f l) h)
  (fun g z=>do2 (sMake g z))
  (fun x lo hi L env h k=>getk x L env fun v=>getok lo L env fun a=>getok hi L env fun b=>sSliceS v a b h k)
  (fun sz x lo hi mx L env h k=>getk x L env fun v=>getok lo L env fun a=>getok hi L env fun b=>getok mx L env fun c=>sSlice sz v a b c h k)
  (fun n sz x lo hi L env h k=>getk x L env fun v=>getok lo L env fun a=>getok hi L env fun b=>sSliceA n sz v a b h k)
  (fun off=>do1 (sFaddr off))
  (fun off=>do1 (sFld1 off))
  (fun off n=>do1 (sFldN off n))
  (fun sz=>do2 (sIaddr sz))
  (fun n sz=>do2 (sIaddrA n sz))
  (do2 sIdxS)
  (fun n sz=>do2 (sIdxA n sz))
  (fun i=>do1 (sExtract i))
  (do1 sLen)
  (do1 sLenS)
  (fun sz=>do2 (sApp sz))
  (do2 fun v u h k=>srcSk u fun m new=>appendk 1 v m new h k)
  (fun sz z=>do2 (sAppZ sz z))
  (fun sz=>do2 (sCopy sz))
  (do2 fun v u h k=>strk u fun _ _=>copyk 1 v h (fun d k=>srcTSk d u k) k)
  (fun mx=>do2 (sMM mx))
  (do1 sMark)
  (fun x xs L env h k=>getsk xs L env fun l=>semEX x l h k)
  x
structure Words where
 load1 : Heap→Bid→Nat→(V→Res)→Res
 load : Heap→Bid→Nat→Nat→(List V→Res)→Res
 store : Heap→Bid→Nat→Nat→List V→(Heap→Res)→Res
 new : Heap→Blk→(Bid→Heap→Res)→Res
 row : Nat→Nat→List V→(T→Res)→Res
 app : Nat→V→V→Heap→(V→Heap→Res)→Res
 appS : V→V→Heap→(V→Heap→Res)→Res
 appZ : Nat→List V→V→V→Heap→(V→Heap→Res)→Res
 copy : Nat→V→V→Heap→(V→Heap→Res)→Res
 copyS : V→V→Heap→(V→Heap→Res)→Res
 make : Nat→List V→V→V→Heap→(V→Heap→Res)→Res
 slice : Nat→V→Option V→Option V→Option V→Heap→(V→Heap→Res)→Res
 sliceA : Nat→Nat→V→Option V→Option V→Heap→(V→Heap→Res)→Res
 sliceS : V→Option V→Option V→Heap→(V→Heap→Res)→Res
 bytesS : V→Heap→(V→Heap→Res)→Res
 idxS : V→V→Heap→(V→Heap→Res)→Res
 mark : V→Heap→(V→Heap→Res)→Res
 ex : EX→List V→Heap→(V→Heap→Res)→Res
noncomputable def words : Words where
 load1:=load1k
 load:=loadk
 store:=storek
 new:=Heap.newk
 row:=rowk
 app:=sApp
 appS:=fun v u h k=>srcSk u fun m new=>appendk 1 v m new h k
 appZ:=sAppZ
 copy:=sCopy
 copyS:=fun v u h k=>strk u fun _ _=>copyk 1 v h (fun d k=>srcTSk d u k) k
 make:=sMake
 slice:=sSlice
 sliceA:=sSliceA
 sliceS:=sSliceS
 bytesS:=sBytesS
 idxS:=sIdxS
 mark:=sMark
 ex:=semEX
noncomputable def semOXg (S : Words) (x : OX) : Do:=
 OX.rec (motive:=fun _=>Do)
  (do1 fun v h k=>k v h)
  (fun c a b L env h k=>getk c L env fun v=>boolk v fun t=>getk a L env fun u=>getk b L env fun u'=>k (pickv t u u') h)
  (fun g n c _ _ h k=>S.new h (.arr g n (repT c n n) false) fun b h'=>k (.ptr b 0) h')
  (do1 fun v h k=>partsk v fun n l=>zk n .fail (S.new h (.arr n 1 (.lf l) false) fun b h'=>k (.ptr b 0) h'))
  (fun n tmpl ps L env h k=>getpk ps L env fun l=>sBuild n tmpl l h k)
  (fun g n tmpl ps L env h k=>getpk ps L env fun l=>fillk l tmpl fun l=>S.row g n l fun t=>S.new h (.arr g n t false) fun b h'=>k (.slice b 0 n (some n) g) h')
  (do1 fun v h k=>ptrk v fun b o=>S.load1 h b o fun u=>k u h)
  (fun n=>do1 fun v h k=>ptrk v fun b o=>S.load h b o n fun l=>k (.agg n l) h)
  (do2 fun a v h k=>ptrk a fun b o=>onek v (S.store h b o 1 [v] fun h'=>k .skip h'))
  (fun n=>do2 fun a v h k=>ptrk a fun b o=>aggk v fun m l=>ifk (Nat.beq m n) (S.store h b o n l fun h'=>k .skip h') .fail)
  (do1 sNil)
  (doB Go.Ev.binI) (doB Go.Ev.binS) (doB Go.Ev.binB) (doB (binN pnk)) (doB (binN snk)) (doB (binN mnk)) (doB (binN fnk0)) (doB (binN ink))
  (do1 sNeg) (do1 sNot) (do1 sCom)
  (fun kd=>do1 (sConvI kd))
  (do1 sConvS)
  (do1 S.bytesS)
  (fun t=>do1 fun v h k=>k (.iface t v) h)
  (fun f cap L env h k=>getsk cap L env fun l=>k (.func f l) h)
  (fun g z=>do2 (S.make g z))
  (fun x lo hi L env h k=>getk x L env fun v=>getok lo L env fun a=>getok hi L env fun b=>S.sliceS v a b h k)
  (fun sz x lo hi mx L env h k=>getk x L env fun v=>getok lo L env fun a=>getok hi L env fun b=>getok mx L env fun c=>S.slice sz v a b c h k)
  (fun n sz x lo hi L env h k=>getk x L env fun v=>getok lo L env fun a=>getok hi L env fun b=>S.sliceA n sz v a b h k)
  (fun off=>do1 (sFaddr off))
  (fun off=>do1 (sFld1 off))
  (fun off n=>do1 (sFldN off n))
  (fun sz=>do2 (sIaddr sz))
  (fun n sz=>do2 (sIaddrA n sz))
  (do2 S.idxS)
  (fun n sz=>do2 (sIdxA n sz))
  (fun i=>do1 (sExtract i))
  (do1 sLen)
  (do1 sLenS)
  (fun sz=>do2 (S.app sz))
  (do2 S.appS)
  (fun sz z=>do2 (S.appZ sz z))
  (fun sz=>do2 (S.copy sz))
  (do2 S.copyS)
  (fun mx=>do2 (sMM mx))
  (do1 S.mark)
  (fun x xs L env h k=>getsk xs L env fun l=>S.ex x l h k)
  x
theorem semOXg_words : semOXg words = semOX:=by funext x; cases x <;> rfl
def chkSl (P : Program) (t : TypeId) : Option (TypeId × Nat):=
 match P.underlying t with
 | some (.slice e)=>match sz P e with
   | some s=>match P.info? e with
     | some i=>match i.zero with
       | some z=>if 0 < s∧i.bytes ≤ 65536∧z.cells.size = s∧z.cells.toList.all Value.oneCell' then some (e,s) else none
       | none=>none
     | none=>none
   | none=>none
 | _=>none
theorem chkSl_ok {t e : TypeId} {s : Nat} (h : chkSl P t = some (e,s)) : SliceT P t e s:=by
 unfold chkSl at h
 split at h
 · rename_i e' hu
   split at h
   · rename_i s' hs
     split at h
     · rename_i i hi
       split at h
       · rename_i z hz
         split at h
         · rename_i hc
           cases h
           obtain ⟨h1,h2,h3,h4⟩:=hc
           exact ⟨hu,hs,h1,⟨i,hi,h2⟩,⟨z,by rw [hi]; exact hz,h3,List.all_eq_true.1 h4⟩⟩
         · cases h
       · cases h
     · cases h
   · cases h
 · cases h
def optLoc (f : Operand→Option Loc) : Option Operand→Option (Option Loc)
 | none=>some none
 | some x=>(f x).map some
def partLocs (f : Operand→Option Loc) (place : Nat→Option (Nat × Nat)) : List (Nat × Operand)→Option (List (Nat × Nat × Loc))
 | []=>some []
 | (i,x) :: ps=>match place i,f x,partLocs f place ps with
   | some (off,n),some l,some m=>some ((off,n,l) :: m)
   | _,_,_=>none
def locsOf (f : Operand→Option Loc) : List Operand→Option (List Loc)
 | []=>some []
 | x :: xs=>match f x,locsOf f xs with
   | some l,some m=>some (l :: m)
   | _,_=>none
def one (f : Operand→Option Loc) (c : Bool) (mk : Loc→OX) (x : Operand) : Option OX:=if c then (f x).map mk else none
def two (f : Operand→Option Loc) (c : Bool) (mk : Loc→Loc→OX) (x y : Operand) : Option OX:=if c then (f x).bind fun a=>(f y).map fun b=>mk a b else none
def isConst : Operand→Bool
 | .const _=>true
 | _=>false
def cBin (P : Program) (f : Operand→Option Loc) (o : BinOp) (t : TypeId) (x y : Operand) : Option OX:=
 match P.underlying t with
 | some (.int _)=>two f true (.binI o) x y
 | some .string=>two f true (.binS o) x y
 | some .bool=>two f true (.binB o) x y
 | some (.pointer e)=>if isConst x || isConst y then two f true (.binP o) x y else match sz P e with
   | some n=>if n = 0 then none else (locsOf f [x,y]).map (.ex (.eqp o))
   | none=>none
 | some (.slice _)=>two f true (.binL o) x y
 | some (.map _ _)=>two f true (.binM o) x y
 | some (.func _ _ _)=>two f true (.binF o) x y
 | some (.interface _)=>two f (isConst y) (.binE o) x y
 | some (.struct _)=>match strSt P t with
   | some n=>(locsOf f [x,y]).map (.ex (.eqs o n))
   | none=>none
 | _=>none
def cConv (P : Program) (f : Operand→Option Loc) (s d : TypeId) (x : Operand) : Option OX:=
 match P.underlying s,P.underlying d with
 | some (.int _),some (.int kd)=>one f true (.convI kd) x
 | some .string,some .string=>one f true .convS x
 | some (.slice e),some .string=>match P.underlying e with
   | some (.int .u8)=>one f true .bytesS x
   | _=>none
 | _,_=>none
def cMark (P : Program) (f : Operand→Option Loc) (s d : TypeId) (x : Operand) : Option OX:=
 if s = d then match P.underlying s with
  | some (.slice e)=>match P.underlying e with
    | some (.int .u8)=>one f true .mark x
    | _=>none
  | _=>none
 else none
def cConvM (P : Program) (f : Operand→Option Loc) (s d : TypeId) (x : Operand) : Option OX:=
 match cConv P f s d x with
 | some o=>some o
 | none=>cMark P f s d x
def cField (P : Program) (f : Operand→Option Loc) (t : TypeId) (x : Operand) (i : Nat) : Option OX:=
 match P.underlying t with
 | some (.struct fields)=>match fields[i]? with
   | some fd=>if scal P fd.type then one f true (.fld1 fd.offset) x else if aggr P fd.type then match sz P fd.type with
     | some n=>one f true (.fldN fd.offset n) x
     | none=>none
     else none
   | none=>none
 | _=>none
def cFaddr (P : Program) (f : Operand→Option Loc) (t : TypeId) (x : Operand) (i : Nat) : Option OX:=
 match P.underlying t with
 | some (.struct fields)=>match fields[i]? with
   | some fd=>match sz P fd.type with
     | some n=>one f (n != 0) (.faddr fd.offset) x
     | none=>none
   | none=>none
 | _=>none
def cIaddr (P : Program) (f : Operand→Option Loc) (t : TypeId) (x i : Operand) : Option OX:=
 match P.underlying t with
 | some (.slice e)=>match sz P e with
   | some s=>two f true (.iaddr s) x i
   | none=>none
 | some (.array n e)=>match sz P e with
   | some s=>two f true (.iaddrA n s) x i
   | none=>none
 | _=>none
def cIndex (P : Program) (f : Operand→Option Loc) (t : TypeId) (x i : Operand) : Option OX:=
 match P.underlying t with
 | some .string=>two f true .idxS x i
 | some (.array n e)=>match sz P e with
   | some s=>if aggr P e then (locsOf f [x,i]).map (.ex (.idxAN n s)) else two f (scal P e) (.idxA n s) x i
   | none=>none
 | _=>none
def cSlice (P : Program) (f : Operand→Option Loc) (t : TypeId) (x : Operand) (lo hi mx : Option Operand) : Option OX:=
 match f x,optLoc f lo,optLoc f hi,optLoc f mx with
 | some a,some l,some h,some m=>
   match P.underlying t with
   | some .string=>if mx.isNone then some (.sliS a l h) else none
   | some (.slice e)=>match sz P e with
     | some s=>if 0 < s then some (.sli s a l h m) else none
     | none=>none
   | some (.array n e)=>match sz P e with
     | some s=>if mx.isNone then some (.sliA n s a l h) else none
     | none=>none
   | _=>none
 | _,_,_,_=>none
def cAlloc0 (P : Program) (t : TypeId) : Option OX:=
 match zeroL P t with
 | some l=>let g:=grain P t l.length
   if 0 < g.1∧(l.take g.1).length = g.1∧eqVs l ((List.replicate g.2 (l.take g.1)).flatten) = true then some (.alloc g.1 g.2 (l.take g.1)) else none
 | none=>none
def cAllocT (P : Program) (t : TypeId) : Option OX:=
 match zeroL P t,sz P t with
 | some l,some g=>if 0 < g∧l.length = g then some (.ex (.allocT t g l) []) else none
 | _,_=>none
def cAlloc (P : Program) (t : TypeId) : Option OX:=if bldT P t then cAllocT P t else cAlloc0 P t
def cBuild (P : Program) (f : Operand→Option Loc) (t : TypeId) (ps : List (Nat × Operand)) : Option OX:=
 match zeroL P t with
 | some tmpl=>match P.underlying t with
   | some (.struct fields)=>match places P fields with
     | some pl=>match partLocs f (pl[·]?) ps with
       | some m=>some (.build tmpl.length tmpl m)
       | none=>none
     | none=>none
   | some (.array _ e)=>match sz P e with
     | some s=>match partLocs f (fun i=>some (i * s,s)) ps with
       | some m=>some (.build tmpl.length tmpl m)
       | none=>none
     | none=>none
   | _=>none
 | none=>none
def repeatL (n : Nat) (l : List V) : List V:=(List.replicate n l).flatten
def cBuildS (P : Program) (f : Operand→Option Loc) (t : TypeId) (n : Nat) (ps : List (Nat × Operand)) : Option OX:=
 match P.underlying t with
 | some (.slice e)=>match sz P e,zeroL P e,partLocs f (fun i=>match sz P e with | some s=>some (i * s,s) | none=>none) ps with
   | some s,some z,some m=>if 0 < s∧n * s ≤ 2 ^ 24∧z.length = s then some (.buildS s n (repeatL n z) m) else none
   | _,_,_=>none
 | _=>none
def cMake (P : Program) (f : Operand→Option Loc) (t : TypeId) (l c : Operand) : Option OX:=
 match chkSl P t with
 | some (e,s)=>match zeroL P e with
   | some z=>two f (z.length == s) (.mkS s z) l c
   | none=>none
 | none=>none
def zeroV (P : Program) (t : TypeId) : Option V:=((P.info? t).bind (·.zero)).bind toV
theorem zeroV_ok {t : TypeId} {z : V} (h : zeroV P t = some z) : ZeroV P t z:=by
 obtain ⟨v,h1,h2⟩:=Option.bind_eq_some_iff.1 h
 exact ⟨v,h1,fun ρ=>toV_ok h2 ρ⟩
def keyKind (P : Program) (t : TypeId) : Option Bool:=match P.underlying t with
 | some .string=>some true
 | some (.int _)=>some false
 | _=>none
theorem keyKind_ok {t : TypeId} {s : Bool} (h : keyKind P t = some s) : ∃ d,P.underlying t = some d∧keyD s d = true:=by
 unfold keyKind at h
 split at h
 · rename_i hu; cases h; exact ⟨_,hu,rfl⟩
 · rename_i hu; cases h; exact ⟨_,hu,rfl⟩
 · cases h
def cBuiltin (P : Program) (f : Operand→Option Loc) (b : Builtin) (args : List Operand) (ts : Array TypeId) : Option OX:=
 match b,args with
 | .len,[x]=>match ts[0]? with
   | some t=>match P.underlying t with
     | some .string=>one f true .lenS x
     | some (.slice _)=>one f true .len x
     | some (.map _ _)=>(locsOf f [x]).map (.ex .lenM)
     | _=>none
   | none=>none
 | .cap,[x]=>match ts[0]? with
   | some t=>match P.underlying t with
     | some (.slice _)=>(locsOf f [x]).map (.ex .capS)
     | _=>none
   | none=>none
 | .delete,[x,y]=>match ts[0]? with
   | some t=>match P.underlying t with
     | some (.map kt _)=>(keyKind P kt).bind fun s=>(locsOf f [x,y]).map (.ex (.del s))
     | _=>none
   | none=>none
 | .append,[x,y]=>match ts[0]?,ts[1]? with
   | some t,some u=>match chkSl P t,P.underlying u with
     | some (_,s),some (.slice _)=>two f true (.app s) x y
     | some (_,1),some .string=>two f true .appS x y
     | some (e,s),some (.int _)=>match zeroL P e with
       | some z=>two f (z.length == s) (.appZ s z) x y
       | none=>none
     | _,_=>none
   | _,_=>none
 | .copy,[x,y]=>match ts[0]?,ts[1]? with
   | some t,some u=>match P.underlying t,P.underlying u with
     | some (.slice e),some (.slice _)=>match sz P e with
       | some s=>two f true (.copy s) x y
       | none=>none
     | some (.slice e),some .string=>two f (sz P e == some 1) .copyS x y
     | _,_=>none
   | _,_=>none
 | .clear,[x]=>match ts[0]? with
   | some t=>match P.underlying t with
     | some (.slice e)=>match zeroL P e,sz P e with
       | some z,some s=>if z.length == s && s != 0 then (locsOf f [x]).map (.ex (.clr s z)) else none
       | _,_=>none
     | _=>none
   | none=>none
 | .min,[x,y]=>two f true (.mm false) x y
 | .max,[x,y]=>two f true (.mm true) x y
 | _,_=>none
def bldPos (pos : String) : Bool:=pos == "builder.go:97" || pos == "builder.go:114" || pos == "utf8.go:413"
def cAppB (P : Program) (f : Operand→Option Loc) (args : List Operand) (ts : Array TypeId) : Option OX:=
 match args with
 | [x,y]=>match ts[0]?,ts[1]? with
   | some t,some u=>match chkSl P t,P.underlying u with
     | some (e,1),some (.slice _)=>(locsOf f [x,y]).map (.ex (.appB false e))
     | some (e,1),some .string=>(locsOf f [x,y]).map (.ex (.appB true e))
     | _,_=>none
   | _,_=>none
 | _=>none
def cUns (P : Program) (f : Operand→Option Loc) (b : Builtin) (args : List Operand) (ts : Array TypeId) : Option OX:=
 match b,args with
 | .unsafeSliceData,[x]=>(locsOf f [x]).map (.ex .usd)
 | .unsafeString,[x,y]=>match ts.toList with
   | [pt,_]=>match P.underlying pt with
     | some (.pointer e)=>if P.cellsOf e == 1 then (locsOf f [x,y]).map (.ex (.ustr e)) else none
     | _=>none
   | _=>none
 | _,_=>none
def cBuiltinP (P : Program) (f : Operand→Option Loc) (pos : String) (b : Builtin) (args : List Operand) (ts : Array TypeId) : Option OX:=
 match b with
 | .append=>if bldPos pos then cAppB P f args ts else cBuiltin P f .append args ts
 | .unsafeSliceData=>cUns P f .unsafeSliceData args ts
 | .unsafeString=>cUns P f .unsafeString args ts
 | b=>cBuiltin P f b args ts
def nearT (P : Program) (t : TypeId) : List Nat:=((List.range 64).map (t + · - 8)).filter fun e=>bldT P e && liesAt P P.depth e 1 0 t 1
def cUp (P : Program) (f : Operand→Option Loc) (s d : TypeId) (x : Operand) : Option OX:=
 match P.underlying s,P.underlying d with
 | some (.pointer t),some .unsafePointer=>match sz P t with
   | some n=>if n != 0 then (locsOf f [x]).map (.ex .toU) else none
   | none=>none
 | some .unsafePointer,some (.pointer t)=>match sz P t with
   | some _=>(locsOf f [x]).map (.ex (.fromU (nearT P t)))
   | none=>none
 | some .string,some (.slice e)=>match P.underlying e with
   | some (.int .u8)=>(locsOf f [x]).map (.ex .s2b)
   | _=>none
 | _,_=>none
def cUpd (P : Program) (f : Operand→Option Loc) (t : TypeId) (m k x : Operand) : Option OX:=match P.underlying t with
 | some (.map kt _)=>(keyKind P kt).bind fun s=>(locsOf f [m,k,x]).map (.ex (.upd s))
 | _=>none
def cEX (P : Program) (f : Operand→Option Loc) : Op→Option OX
 | .range t x=>match P.underlying t with
   | some .string=>(locsOf f [x]).map (.ex .rngS)
   | some (.map _ _)=>(locsOf f [x]).map (.ex .rngM)
   | _=>none
 | .next x isS=>if isS then (locsOf f [x]).map (.ex .nxtS) else (locsOf f [x]).map (.ex .nxtM)
 | .entry x=>(locsOf f [x]).map (.ex .entM)
 | .makeMap t r=>match P.underlying t with
   | some (.map _ _)=>(locsOf f r.toList).map (.ex .mkm)
   | _=>none
 | .lookup t x i ok=>match P.underlying t with
   | some (.map kt et)=>(keyKind P kt).bind fun s=>(zeroV P et).bind fun z=>(locsOf f [x,i]).map (.ex (.look s ok z))
   | _=>none
 | .mapUpdate t m k x=>cUpd P f t m k x
 | .insert t m k x=>cUpd P f t m k x
 | .typeAssert x _ t ok=>match P.underlying t with
   | some d=>if notIface d then if ok then (zeroV P t).bind fun z=>(locsOf f [x]).map (.ex (.tas t true z)) else (locsOf f [x]).map (.ex (.tas t false .und)) else none
   | none=>none
 | .call { callee:=.value (.func g),args,.. }=>match args.toList with
   | [x,y]=>if extF P g "internal/bytealg.IndexByteString" then (locsOf f [x,y]).map (.ex .idxb) else if extF P g "internal/bytealg.abigen_runtime_cmpstring" then (locsOf f [x,y]).map (.ex .cmps) else none
   | [x]=>if extF P g "maps.clone" then (locsOf f [x]).map (.ex .cloneM) else if extF P g "internal/abi.NoEscape" then (locsOf f [x]).map (.ex .same) else none
   | _=>none
 | _=>none
def cOX (P : Program) (f : Operand→Option Loc) (pos : String) : Op→Option OX
 | .move x | .assign x=>one f true .mv x
 | .pick c a b=>(f c).bind fun lc=>(f a).bind fun la=>(f b).map fun lb=>.pick lc la lb
 | .alloc t=>cAlloc P t
 | .box _ x=>one f true .box x
 | .build t ps=>cBuild P f t ps.toList
 | .buildSlice t n ps=>cBuildS P f t n ps.toList
 | .load t x=>if scal P t then one f true .load1 x else if aggr P t then match sz P t with
    | some n=>one f true (.loadN n) x
    | none=>none
   else none
 | .store t a x=>match sz P t with
   | some n=>if scal P t then two f (n == 1) .store1 a x else two f (aggr P t) (.storeN n) a x
   | none=>none
 | .nilCheck x=>one f true .nil x
 | .binOp o t x y _=>cBin P f o t x y
 | .unOp .neg _ x=>one f true .neg x
 | .unOp .not _ x=>one f true .not x
 | .unOp .xor _ x=>one f true .com x
 | .convert s d x=>match cConvM P f s d x with
   | some o=>some o
   | none=>cUp P f s d x
 | .makeInterface t x=>match P.underlying t with
   | some (.interface _) | none=>none
   | some _=>one f true (.mkif t) x
 | .makeFunc (.func g) first cap=>if g < 32768∧first.size < 65536 then (locsOf f (first.toList ++ cap.toList)).map (.mkfn (g + 65536 * first.size)) else none
 | .makeSlice t l c=>cMake P f t l c
 | .slice t x lo hi mx=>cSlice P f t x lo hi mx
 | .fieldAddr t x i=>cFaddr P f t x i
 | .field t x i=>cField P f t x i
 | .indexAddr t x i=>cIaddr P f t x i
 | .index t x i=>cIndex P f t x i
 | .extract x i=>one f true (.extract i) x
 | .call { callee:=.builtin b,args,argTypes }=>cBuiltinP P f pos b args.toList argTypes
 | op=>cEX P f op
end Go.Ev

/- EVALUATOR, 18: an operation as it is prepared, and the model's own. -/
namespace Go.Ev
variable {P : Program} {ρ : Rho} {h : Heap} {w : World} {k : V→Heap→Res} {r : Res} {ng : Nat} {T : Nat→Option Loc} {L : List V} {env : Env} {a : Act}
def OkN (P : Program) (ρ : Rho) (h : Heap) (w : World) (s : Sem Next) (k : V→Heap→Res) (r : Res) : Prop:=
 ∃ u h' ρ' y w',Le (k u h') r∧(s.run P w = .ok (.value y) w' ∨ (s.run P w = .ok .skip w'∧y = Go.undef))∧VR ρ' u y∧RH P ρ' h' w'∧Ext ρ h w ρ' h' w'
theorem Ok.next {s : Sem Value} (h1 : Ok P ρ h w s k r) : OkN P ρ h w (do Pure.pure (.value (← s))) k r:=by
 obtain ⟨u,h',ρ',y,w',h2,h3,h4⟩:=h1
 exact ⟨u,h',ρ',y,w',.of_eq h2,.inl (by rw [Sem.run_bind,h3]; rfl),h4⟩
theorem OkLe.next {s : Sem Value} (h1 : OkLe P ρ h w s k r) : OkN P ρ h w (do Pure.pure (.value (← s))) k r:=by
 obtain ⟨u,h',ρ',y,w',h2,h3,h4⟩:=h1
 exact ⟨u,h',ρ',y,w',h2,.inl (by rw [Sem.run_bind,h3]; rfl),h4⟩
theorem OkU.next {s : Sem Unit} (h1 : OkU P ρ h w s k r) : OkN P ρ h w (do s; pure .skip) k r:=by
 obtain ⟨h',ρ',w',h2,h3,h4,h5⟩:=h1
 exact ⟨_,h',ρ',_,w',.of_eq h2,.inr ⟨by rw [Sem.run_bind,h3]; rfl,rfl⟩,.skip,h4,h5⟩
def OkPN (P : Program) (ρ : Rho) (h : Heap) (w : World) (s : Sem Next) (k : V→Heap→Res) (r : Res) : Prop:=∃ u y,k u h = r∧s.run P w = .ok (.value y) w∧VR ρ u y
theorem OkP.next {s : Sem Value} (h1 : OkP P ρ h w s k r) : OkPN P ρ h w (do Pure.pure (.value (← s))) k r:=by
 obtain ⟨u,y,h2,h3,h4⟩:=h1
 exact ⟨u,y,h2,by rw [Sem.run_bind,h3]; rfl,h4⟩
theorem OkN.pure {s : Sem Next} (rh : RH P ρ h w) (hh : ∃ u y,k u h = r∧s.run P w = .ok (.value y) w∧VR ρ u y) : OkN P ρ h w s k r:=
 let ⟨u,y,h1,h2,h3⟩:=hh; ⟨u,h,ρ,y,w,.of_eq h1,.inl h2,h3,rh,.refl _ _ _⟩
structure Cx (P : Program) (ρ : Rho) (ng : Nat) (T : Nat→Option Loc) (L : List V) (env : Env) (h : Heap) (w : World) (a : Act) : Prop where
 tmp : TmpR ρ T L env a.tmps
 glob : GlobR ρ ng
 rh : RH P ρ h w
theorem Cx.loc (c : Cx P ρ ng T L env h w a) {x : Operand} {loc : Loc} (hl : locOf T ng x = some loc) {k : V→Res} {r : Res} (h : getk loc L env k = r) (hr : r ≠ .fail) :
 ∃ v,k v = r∧VR ρ v (a.eval x):=locOf_ok hl h hr c.tmp c.glob
theorem Cx.locs (c : Cx P ρ ng T L env h w a) : ∀ {xs : List Operand} {ls : List Loc},locsOf (locOf T ng) xs = some ls→∀ {k : List V→Res} {r : Res},getsk ls L env k = r→r ≠ .fail →
 ∃ l,k l = r∧VRs ρ l (xs.map a.eval)
 | [],ls,h,k,r,h1,_=>by cases h; exact ⟨[],h1,.nil⟩
 | x :: xs,ls,h,k,r,h1,hr=>by
   simp only [locsOf] at h
   split at h
   · rename_i l m hx hxs
     cases h
     obtain ⟨v,h2,h3⟩:=c.loc hx (show getk l L env (fun v=>getsk m L env fun l=>k (v :: l)) = r from h1) hr
     obtain ⟨l',h4,h5⟩:=c.locs hxs h2 hr
     exact ⟨_,h4,.cons h3 h5⟩
   · cases h
theorem Cx.parts (c : Cx P ρ ng T L env h w a) {place : Nat→Option (Nat × Nat)} : ∀ {ps : List (Nat × Operand)} {m : List (Nat × Nat × Loc)},partLocs (locOf T ng) place ps = some m →
 ∀ {k : List (Nat × Nat × V)→Res} {r : Res},getpk m L env k = r→r ≠ .fail→∃ l,k l = r∧FillR ρ place l (ps.map fun (i,x)=>(i,a.eval x))
 | [],m,h,k,r,h1,_=>by cases h; exact ⟨[],h1,trivial⟩
 | (i,x) :: ps,m,h,k,r,h1,hr=>by
   simp only [partLocs] at h
   split at h
   · rename_i off n l m' hp hx hps
     cases h
     obtain ⟨v,h2,h3⟩:=c.loc hx (show getk l L env (fun v=>getpk m' L env fun q=>k ((off,n,v) :: q)) = r from h1) hr
     obtain ⟨l',h4,h5⟩:=c.parts hps h2 hr
     exact ⟨_,h4,hp,h3,h5⟩
   · cases h
theorem Cx.opt (c : Cx P ρ ng T L env h w a) {x : Option Operand} {l : Option Loc} (hl : optLoc (locOf T ng) x = some l) {k : Option V→Res} {r : Res} (h : getok l L env k = r) (hr : r ≠ .fail) :
 ∃ v,k v = r∧BndR ρ v (x.map a.eval):=by
 cases x with
 | none=>cases hl; exact ⟨none,h,trivial⟩
 | some x=>
   obtain ⟨y,h1,rfl⟩:=Option.map_eq_some_iff.1 hl
   obtain ⟨v,h2,h3⟩:=c.loc h1 (show getk y L env (fun v=>k (some v)) = r from h) hr
   exact ⟨some v,h2,h3⟩
theorem one_inv {f : Operand→Option Loc} {c : Bool} {mk : Loc→OX} {x : Operand} {ox : OX} (h : one f c mk x = some ox) : c = true∧∃ l,f x = some l∧ox = mk l:=by
 unfold one at h
 split at h
 · rename_i hc
   obtain ⟨l,h1,h2⟩:=Option.map_eq_some_iff.1 h
   exact ⟨hc,l,h1,h2.symm⟩
 · cases h
theorem two_inv {f : Operand→Option Loc} {c : Bool} {mk : Loc→Loc→OX} {x y : Operand} {ox : OX} (h : two f c mk x y = some ox) :
 c = true∧∃ l m,f x = some l∧f y = some m∧ox = mk l m:=by
 unfold two at h
 split at h
 · rename_i hc
   obtain ⟨l,h1,h2⟩:=Option.bind_eq_some_iff.1 h
   obtain ⟨m,h3,h4⟩:=Option.map_eq_some_iff.1 h2
   exact ⟨hc,l,m,h1,h3,h4.symm⟩
 · cases h
theorem Cx.do1 (c : Cx P ρ ng T L env h w a) {cnd : Bool} {mk : Loc→OX} {x : Operand} {ox : OX} (ho : one (locOf T ng) cnd mk x = some ox) {f : V→Heap→(V→Heap→Res)→Res}
 (hm : ∀ l,semOX (mk l) = Go.Ev.do1 f l) (hh : semOX ox L env h k = r) (hr : r ≠ .fail) : cnd = true∧∃ v,f v h k = r∧VR ρ v (a.eval x):=by
 obtain ⟨hc,l,h1,rfl⟩:=one_inv ho
 rw [hm] at hh
 exact ⟨hc,c.loc h1 (show getk l L env (fun v=>f v h k) = r from hh) hr⟩
theorem Cx.do2 (c : Cx P ρ ng T L env h w a) {cnd : Bool} {mk : Loc→Loc→OX} {x y : Operand} {ox : OX} (ho : two (locOf T ng) cnd mk x y = some ox) {f : V→V→Heap→(V→Heap→Res)→Res}
 (hm : ∀ l m,semOX (mk l m) = Go.Ev.do2 f l m) (hh : semOX ox L env h k = r) (hr : r ≠ .fail) : cnd = true∧∃ v u,f v u h k = r∧VR ρ v (a.eval x)∧VR ρ u (a.eval y):=by
 obtain ⟨hc,l,m,h1,h2,rfl⟩:=two_inv ho
 rw [hm] at hh
 obtain ⟨v,h3,h4⟩:=c.loc h1 (show getk l L env (fun v=>getk m L env fun u=>f v u h k) = r from hh) hr
 obtain ⟨u,h5,h6⟩:=c.loc h2 h3 hr
 exact ⟨hc,v,u,h5,h4,h6⟩
theorem bin_next {o : BinOp} {t : TypeId} {X Y : Operand} {x y : Value}
 (hh : ∃ u z,k u h = r∧(do eqGuard o t X Y x y; binOp o t x y : Sem Value).run P w = .ok z w∧VR ρ u z∧z.oneCell' = true) : OkPN P ρ h w (do pure (.value (← (do eqGuard o t X Y x y; binOp o t x y : Sem Value)))) k r:=by
 obtain ⟨u,z,h1,h2,h3,_⟩:=hh
 exact ⟨u,z,h1,by rw [Sem.run_bind,h2]; rfl,h3⟩
theorem cBin_ok (c : Cx P ρ ng T L env h w a) {o : BinOp} {t : TypeId} {x y : Operand} {ox : OX} (hc : cBin P (locOf T ng) o t x y = some ox) (hh : semOX ox L env h k = r) (hr : r ≠ .fail) :
 OkPN P ρ h w (do pure (.value (← (do eqGuard o t x y (a.eval x) (a.eval y); binOp o t (a.eval x) (a.eval y) : Sem Value)))) k r:=by
 unfold cBin at hc
 split at hc
 · obtain ⟨_,v,u,h1,h2,h3⟩:=c.do2 (f:=fun v u h k=>Go.Ev.binI o v u fun z=>k z h) hc (fun _ _=>rfl) hh hr
   exact bin_next (binI_ok (k:=fun z=>k z h) h1 hr h2 h3 t x y w)
 · obtain ⟨_,v,u,h1,h2,h3⟩:=c.do2 (f:=fun v u h k=>Go.Ev.binS o v u fun z=>k z h) hc (fun _ _=>rfl) hh hr
   exact bin_next (binS_ok (k:=fun z=>k z h) h1 hr h2 h3 t x y w)
 · rename_i ht
   obtain ⟨_,v,u,h1,h2,h3⟩:=c.do2 (f:=fun v u h k=>Go.Ev.binB o v u fun z=>k z h) hc (fun _ _=>rfl) hh hr
   exact bin_next (binB_ok (k:=fun z=>k z h) h1 hr h2 h3 ht x y w)
 · rename_i ht
   split at hc
   · obtain ⟨_,v,u,h1,h2,h3⟩:=c.do2 (f:=fun v u h k=>Go.Ev.binN pnk o v u fun z=>k z h) hc (fun _ _=>rfl) hh hr
     exact bin_next (binNP_ok (k:=fun z=>k z h) h1 hr h2 h3 ht x y w)
   · split at hc
     · rename_i n hn
       split at hc
       · cases hc
       · rename_i hn0
         obtain ⟨ls,e1,rfl⟩:=Option.map_eq_some_iff.1 hc
         obtain ⟨l,h1,h2⟩:=c.locs e1 (k:=fun l=>semEX (.eqp o) l h k) hh hr
         cases h2 with
         | cons h3 h4=>
           cases h4 with
           | cons h4 h5=>
             cases h5
             exact bin_next (sEqP_ok (k:=k) h1 hr c.rh h3 h4 ht hn hn0 x y)
     · cases hc
 · rename_i ht
   obtain ⟨_,v,u,h1,h2,h3⟩:=c.do2 (f:=fun v u h k=>Go.Ev.binN snk o v u fun z=>k z h) hc (fun _ _=>rfl) hh hr
   exact bin_next (binNS_ok (k:=fun z=>k z h) h1 hr h2 h3 ht x y w)
 · rename_i ht
   obtain ⟨_,v,u,h1,h2,h3⟩:=c.do2 (f:=fun v u h k=>Go.Ev.binN mnk o v u fun z=>k z h) hc (fun _ _=>rfl) hh hr
   exact bin_next (binNM_ok (k:=fun z=>k z h) h1 hr h2 h3 ht x y w)
 · rename_i ht
   obtain ⟨_,v,u,h1,h2,h3⟩:=c.do2 (f:=fun v u h k=>Go.Ev.binN fnk0 o v u fun z=>k z h) hc (fun _ _=>rfl) hh hr
   exact bin_next (binNF_ok (k:=fun z=>k z h) h1 hr h2 h3 ht x y w)
 · rename_i ht
   obtain ⟨hy,v,u,h1,h2,h3⟩:=c.do2 (f:=fun v u h k=>Go.Ev.binN ink o v u fun z=>k z h) hc (fun _ _=>rfl) hh hr
   have : ∃ u,y = .const u:=by cases y <;> first | exact ⟨_,rfl⟩ | cases hy
   exact bin_next (binNI_ok (k:=fun z=>k z h) h1 hr h2 h3 ht x y this w)
 · split at hc
   · rename_i n hn
     obtain ⟨ls,e1,rfl⟩:=Option.map_eq_some_iff.1 hc
     obtain ⟨l,h1,h2⟩:=c.locs e1 (k:=fun l=>semEX (.eqs o n) l h k) hh hr
     cases h2 with
     | cons h3 h4=>
       cases h4 with
       | cons h4 h5=>
         cases h5
         exact bin_next (sEqA_ok (k:=k) h1 hr h3 h4 hn x y)
   · cases hc
 · cases hc
theorem cConv_ok (c : Cx P ρ ng T L env h w a) {s d : TypeId} {x : Operand} {ox : OX} (hc : cConv P (locOf T ng) s d x = some ox) (hh : semOX ox L env h k = r) (hr : r ≠ .fail) :
 OkP P ρ h w (convert s d (a.eval x)) k r:=by
 unfold cConv at hc
 split at hc
 · rename_i hs hd
   obtain ⟨_,v,h1,h2⟩:=c.do1 (f:=sConvI _) hc (fun _=>rfl) hh hr
   exact sConvI_ok h1 hr c.rh h2 hs hd
 · rename_i hs hd
   obtain ⟨_,v,h1,h2⟩:=c.do1 (f:=sConvS) hc (fun _=>rfl) hh hr
   exact sConvS_ok h1 hr c.rh h2 hs hd
 · rename_i hs hd
   split at hc
   · rename_i he
     obtain ⟨_,v,h1,h2⟩:=c.do1 (f:=sBytesS) hc (fun _=>rfl) hh hr
     exact sBytesS_ok h1 hr c.rh h2 hs he hd
   · cases hc
 · cases hc
theorem cField_ok (c : Cx P ρ ng T L env h w a) {t : TypeId} {x : Operand} {i : Nat} {ox : OX} (hc : cField P (locOf T ng) t x i = some ox) (hh : semOX ox L env h k = r) (hr : r ≠ .fail) :
 OkP P ρ h w (Instr.field t (a.eval x) i) k r:=by
 unfold cField at hc
 split at hc
 · rename_i fields ht
   split at hc
   · rename_i fd hf
     split at hc
     · rename_i hs
       obtain ⟨_,v,h1,h2⟩:=c.do1 (f:=sFld1 _) hc (fun _=>rfl) hh hr
       exact sFld1_ok h1 hr c.rh h2 ht hf rfl hs
     · split at hc
       · rename_i hs
         split at hc
         · rename_i n hn
           obtain ⟨_,v,h1,h2⟩:=c.do1 (f:=sFldN _ _) hc (fun _=>rfl) hh hr
           exact sFldN_ok h1 hr c.rh h2 ht hf rfl hs hn
         · cases hc
       · cases hc
   · cases hc
 · cases hc
theorem cFaddr_ok (c : Cx P ρ ng T L env h w a) {t : TypeId} {x : Operand} {i : Nat} {ox : OX} (hc : cFaddr P (locOf T ng) t x i = some ox) (hh : semOX ox L env h k = r) (hr : r ≠ .fail) :
 OkP P ρ h w (Instr.fieldAt t (a.eval x) i) k r:=by
 unfold cFaddr at hc
 split at hc
 · rename_i fields ht
   split at hc
   · rename_i fd hf
     split at hc
     · rename_i n hn
       obtain ⟨h0,v,h1,h2⟩:=c.do1 (f:=sFaddr _) hc (fun _=>rfl) hh hr
       exact sFaddr_ok h1 hr c.rh h2 ht hf rfl hn (by simpa using h0)
     · cases hc
   · cases hc
 · cases hc
theorem cIaddr_ok (c : Cx P ρ ng T L env h w a) {t : TypeId} {x i : Operand} {ox : OX} (hc : cIaddr P (locOf T ng) t x i = some ox) (hh : semOX ox L env h k = r) (hr : r ≠ .fail) :
 OkP P ρ h w (Instr.indexAt t (a.eval x) (a.eval i)) k r:=by
 unfold cIaddr at hc
 split at hc
 · rename_i ht
   split at hc
   · rename_i hs
     obtain ⟨_,v,u,h1,h2,h3⟩:=c.do2 (f:=sIaddr _) hc (fun _ _=>rfl) hh hr
     exact sIaddr_ok h1 hr c.rh h2 h3 ht hs
   · cases hc
 · rename_i ht
   split at hc
   · rename_i hs
     obtain ⟨_,v,u,h1,h2,h3⟩:=c.do2 (f:=sIaddrA _ _) hc (fun _ _=>rfl) hh hr
     exact sIaddrA_ok h1 hr c.rh h2 h3 ht hs
   · cases hc
 · cases hc
theorem cIndex_ok (c : Cx P ρ ng T L env h w a) {t : TypeId} {x i : Operand} {ox : OX} (hc : cIndex P (locOf T ng) t x i = some ox) (hh : semOX ox L env h k = r) (hr : r ≠ .fail) :
 OkP P ρ h w (Instr.index t (a.eval x) (a.eval i)) k r:=by
 unfold cIndex at hc
 split at hc
 · rename_i ht
   obtain ⟨_,v,u,h1,h2,h3⟩:=c.do2 (f:=sIdxS) hc (fun _ _=>rfl) hh hr
   exact sIdxS_ok h1 hr c.rh h2 h3 ht
 · rename_i ht
   split at hc
   · rename_i n e _ s hs
     split at hc
     · rename_i he
       obtain ⟨ls,e1,rfl⟩:=Option.map_eq_some_iff.1 hc
       obtain ⟨l,h1,h2⟩:=c.locs e1 (k:=fun l=>semEX (.idxAN n s) l h k) hh hr
       have h2 : VRs ρ l [a.eval x,a.eval i]:=h2
       obtain ⟨v,u,rfl,h3,h4⟩ : ∃ v u,l = [v,u]∧VR ρ v (a.eval x)∧VR ρ u (a.eval i):=by
        cases h2 with | cons h3 h2=>cases h2 with | cons h4 h2=>cases h2; exact ⟨_,_,rfl,h3,h4⟩
       have h1 : sIdxAN n s v u h k = r:=h1
       exact sIdxAN_ok h1 hr h3 h4 ht hs he
     · obtain ⟨he,v,u,h1,h2,h3⟩:=c.do2 (f:=sIdxA _ _) hc (fun _ _=>rfl) hh hr
       exact sIdxA_ok h1 hr c.rh h2 h3 ht hs he
   · cases hc
 · cases hc
theorem cSlice_ok (c : Cx P ρ ng T L env h w a) {t : TypeId} {x : Operand} {lo hi mx : Option Operand} {ox : OX} (hc : cSlice P (locOf T ng) t x lo hi mx = some ox) (hh : semOX ox L env h k = r)
 (hr : r ≠ .fail) : OkP P ρ h w (Instr.sliceAt t (a.eval x) (lo.map a.eval) (hi.map a.eval) (mx.map a.eval)) k r:=by
 unfold cSlice at hc
 split at hc
 · rename_i lx ll lh lm hx hlo hhi hmx
   split at hc
   · rename_i ht
     split at hc
     · rename_i hm
       cases hc
       obtain ⟨v,h1,h2⟩:=c.loc hx (k:=fun v=>getok ll L env fun a=>getok lh L env fun b=>sSliceS v a b h k) hh hr
       obtain ⟨p,h3,h4⟩:=c.opt hlo h1 hr
       obtain ⟨q,h5,h6⟩:=c.opt hhi h3 hr
       have : mx = none:=by simpa using hm
       subst this
       exact sSliceS_ok h5 hr c.rh h2 h4 h6 ht
     · cases hc
   · rename_i ht
     split at hc
     · rename_i s hs
       split at hc
       · rename_i hpos
         cases hc
         obtain ⟨v,h1,h2⟩:=c.loc hx (k:=fun v=>getok ll L env fun a=>getok lh L env fun b=>getok lm L env fun d=>sSlice s v a b d h k) hh hr
         obtain ⟨p,h3,h4⟩:=c.opt hlo h1 hr
         obtain ⟨q,h5,h6⟩:=c.opt hhi h3 hr
         obtain ⟨m,h7,h8⟩:=c.opt hmx h5 hr
         exact sSlice_ok h7 hr c.rh h2 h4 h6 h8 ht hs hpos
       · cases hc
     · cases hc
   · rename_i n e ht
     split at hc
     · rename_i s hs
       split at hc
       · rename_i hm
         cases hc
         obtain ⟨v,h1,h2⟩:=c.loc hx (k:=fun v=>getok ll L env fun a=>getok lh L env fun b=>sSliceA n s v a b h k) hh hr
         obtain ⟨p,h3,h4⟩:=c.opt hlo h1 hr
         obtain ⟨q,h5,h6⟩:=c.opt hhi h3 hr
         have : mx = none:=by simpa using hm
         subst this
         exact sSliceA_ok h5 hr c.rh h2 h4 h6 ht hs
       · cases hc
     · cases hc
   · cases hc
 · cases hc
theorem cAlloc0_ok (c : Cx P ρ ng T L env h w a) {t : TypeId} {ox : OX} (hc : cAlloc0 P t = some ox) (hh : semOX ox L env h k = r) (hr : r ≠ .fail) :
 Ok P ρ h w (Instr.alloc t true (.tuple #[])) k r:=by
 simp only [cAlloc0] at hc
 split at hc
 · rename_i l hz
   split at hc
   · rename_i hcc
     obtain ⟨hpos,hlen,heq⟩:=hcc
     cases hc
     obtain ⟨z,h1,h2,h3⟩:=zeroL_ok hz
     have heq:=eqVs_ok heq
     have hh : sAlloc (grain P t l.length).fst (grain P t l.length).snd (repT (l.take (grain P t l.length).fst) (grain P t l.length).snd (grain P t l.length).snd) h k = r:=hh
     generalize hx : l.take (grain P t l.length).fst = x at heq hlen hh
     generalize (grain P t l.length).snd = n at heq hh
     generalize (grain P t l.length).fst = g at hpos hlen hh
     refine sAlloc_ok hh hr c.rh (l:=l) (z:=z) ⟨h1,h2,h3,hpos,?_,fun j ch hj=>?_⟩
     · rw [heq]; simp [hlen]
     · rw [repT_eq,Go.Ev.T.get_rep _ _ _ (Nat.le_refl _)] at hj
       split at hj
       · rename_i hlt
         cases hj
         exact ⟨hlt,by rw [heq,flat_chunk hlen hlt]⟩
       · cases hj
   · cases hc
 · cases hc
theorem cAllocT_ok (c : Cx P ρ ng T L env h w a) {t : TypeId} {ox : OX} (hc : cAllocT P t = some ox) (hh : semOX ox L env h k = r) (hr : r ≠ .fail) :
 Ok P ρ h w (Instr.alloc t true (.tuple #[])) k r:=by
 unfold cAllocT at hc
 split at hc
 · rename_i l g hz hs
   split at hc
   · rename_i hcc
     cases hc
     obtain ⟨z,h1,h2,h3⟩:=zeroL_ok hz
     exact sAllocT_ok (show sAllocT t g l h k = r from hh) hr c.rh h1 (h2 ρ) h3 hcc.2 hcc.1 hs
   · cases hc
 · cases hc
theorem cAlloc_ok (c : Cx P ρ ng T L env h w a) {t : TypeId} {ox : OX} (hc : cAlloc P t = some ox) (hh : semOX ox L env h k = r) (hr : r ≠ .fail) :
 Ok P ρ h w (Instr.alloc t true (.tuple #[])) k r:=by
 unfold cAlloc at hc
 split at hc
 · exact cAllocT_ok c hc hh hr
 · exact cAlloc0_ok c hc hh hr
theorem cBuild_ok (c : Cx P ρ ng T L env h w a) {t : TypeId} {ps : Array (Nat × Operand)} {ox : OX} (hc : cBuild P (locOf T ng) t ps.toList = some ox) (hh : semOX ox L env h k = r) (hr : r ≠ .fail) :
 OkP P ρ h w (Instr.build t (ps.map fun (i,x)=>(i,a.eval x))) k r:=by
 unfold cBuild at hc
 split at hc
 · rename_i tmpl hz
   obtain ⟨z,h1,h2,h3⟩:=zeroL_ok hz
   split at hc
   · rename_i fields ht
     split at hc
     · rename_i pl hpl
       split at hc
       · rename_i m hm
         cases hc
         obtain ⟨l,h4,h5⟩:=c.parts hm (k:=fun l=>sBuild tmpl.length tmpl l h k) hh hr
         exact sBuild_ok h4 hr c.rh h1 (h2 ρ) h3 rfl ht hpl (vs:=ps.map fun (i,x)=>(i,a.eval x)) (by rw [Array.toList_map]; exact h5)
       · cases hc
     · cases hc
   · rename_i ht
     split at hc
     · rename_i s hs
       split at hc
       · rename_i m hm
         cases hc
         obtain ⟨l,h4,h5⟩:=c.parts hm (k:=fun l=>sBuild tmpl.length tmpl l h k) hh hr
         exact sBuildA_ok h4 hr c.rh h1 (h2 ρ) h3 rfl ht hs (vs:=ps.map fun (i,x)=>(i,a.eval x)) (by rw [Array.toList_map]; exact h5)
       · cases hc
     · cases hc
   · cases hc
 · cases hc
theorem cMake_ok (c : Cx P ρ ng T L env h w a) {t : TypeId} {x y : Operand} {ox : OX} (hc : cMake P (locOf T ng) t x y = some ox) (hh : semOX ox L env h k = r) (hr : r ≠ .fail) :
 Ok P ρ h w (Instr.makeSlice t (a.eval x) (a.eval y)) k r:=by
 unfold cMake at hc
 split at hc
 · rename_i e s he
   split at hc
   · rename_i z hz
     obtain ⟨hl,v,u,h1,h2,h3⟩:=c.do2 (f:=sMake _ _) hc (fun _ _=>rfl) hh hr
     obtain ⟨zv,h4,h5,h6⟩:=zeroL_ok hz
     exact sMake_ok h1 hr c.rh h2 h3 (chkSl_ok he) h4 (h5 ρ) (by simpa using hl) h6
   · cases hc
 · cases hc
end Go.Ev

/- EVALUATOR, 19: the rest of the operations that neither call nor leave. -/
namespace Go.Ev
variable {P : Program} {ρ : Rho} {h : Heap} {w : World} {k : V→Heap→Res} {r : Res} {ng : Nat} {T : Nat→Option Loc} {L : List V} {env : Env} {a : Act}
theorem VRs.flatten_rep {ρ : Rho} {l : List V} {xs : List Value} (h : VRs ρ l xs) : ∀ n,VRs ρ (List.replicate n l).flatten (List.replicate n xs).flatten
 | 0=>.nil
 | n + 1=>by rw [List.replicate_succ,List.replicate_succ,List.flatten_cons,List.flatten_cons]; exact h.append (flatten_rep h n)
theorem flat_get2 {α : Type} {g : Nat} {z : List α} (hz : z.length = g) : ∀ (n i : Nat),((List.replicate n z).flatten)[i]? = if i < n * g then z[i % g]? else none
 | 0,i=>by simp
 | n + 1,i=>by
   rw [List.replicate_succ,List.flatten_cons,List.getElem?_append,flat_get2 hz n,Nat.succ_mul]
   split
   · rename_i h1; rw [if_pos (by omega),Nat.mod_eq_of_lt (by omega)]
   · rename_i h1
     obtain ⟨d,rfl⟩ : ∃ d,i = g + d:=⟨i - g,by omega⟩
     rw [hz,Nat.add_sub_cancel_left,Nat.add_mod_left]
     by_cases h2 : d < n * g
     · rw [if_pos h2,if_pos (by omega)]
     · rw [if_neg h2,if_neg (by omega)]
theorem flat_len {α : Type} (l : List α) (n : Nat) : (List.replicate n l).flatten.length = n * l.length:=by
 induction n with
 | zero=>simp
 | succ n ih=>rw [List.replicate_succ,List.flatten_cons,List.length_append,ih,Nat.succ_mul]; omega
theorem range_cells {z : Array Value} {n s : Nat} (hz : z.size = s) (hs : 0 < s) : ((Array.range (n * s)).map (z[· % z.size]!)).toList = (List.replicate n z.toList).flatten:=by
 apply List.ext_getElem?
 intro i
 by_cases hi : i < n * s
 · rw [flat_get2 (g:=s) (z:=z.toList) (by simpa using hz) n i,if_pos hi]
   have hm : i % s < z.size:=by rw [hz]; exact Nat.mod_lt _ hs
   simp [hi,hz,getElem!_pos z (i % s) hm]
 · rw [List.getElem?_eq_none (by simp; omega),List.getElem?_eq_none (by rw [flat_len]; simp [hz]; omega)]
theorem cBuildS_ok (c : Cx P ρ ng T L env h w a) {t : TypeId} {n : Nat} {ps : Array (Nat × Operand)} {ox : OX} (hc : cBuildS P (locOf T ng) t n ps.toList = some ox) (hh : semOX ox L env h k = r)
 (hr : r ≠ .fail) : Ok P ρ h w (Instr.buildSlice t n (ps.map fun (i,x)=>(i,a.eval x))) k r:=by
 unfold cBuildS at hc
 split at hc
 · rename_i e ht
   split at hc
   · rename_i s z m hs hz hm
     split at hc
     · rename_i hcond
       obtain ⟨h1,h2,h3⟩:=hcond
       cases hc
       obtain ⟨zv,h4,h5,h6⟩:=zeroL_ok hz
       have hzs : zv.cells.size = s:=by have:=(h5 ρ).length; rw [h3] at this; simpa using this.symm
       obtain ⟨l,h7,h8⟩:=c.parts hm (k:=fun l=>sBuildS s n (repeatL n z) l h k) hh hr
       have h8 : FillR ρ (fun i=>some (i * s,s)) l (ps.toList.map fun (i,x)=>(i,a.eval x)):=by
        have e : (fun i=>match sz P e with | some s=>some (i * s,s) | none=>none : Nat→Option (Nat × Nat)) = fun i=>some (i * s,s):=by funext i; rw [hs]
        rw [← e]; exact h8
       have hcells : ((Array.range (n * s)).map ((if n * s = 0 then #[] else zv.cells)[· % (if n * s = 0 then #[] else zv.cells).size]!)).toList = (List.replicate n zv.cells.toList).flatten:=by
        by_cases h0 : n * s = 0
        · have : n = 0:=by rcases Nat.mul_eq_zero.1 h0 with h | h <;> omega
          subst this; simp
        · simp only [if_neg h0]; exact range_cells hzs h1
       have hv : VRs ρ (repeatL n z) ((Array.range (n * s)).map ((if n * s = 0 then #[] else zv.cells)[· % (if n * s = 0 then #[] else zv.cells).size]!)).toList:=by
        rw [hcells]; exact (h5 ρ).flatten_rep n
       have h1' : ∀ y ∈ ((Array.range (n * s)).map ((if n * s = 0 then #[] else zv.cells)[· % (if n * s = 0 then #[] else zv.cells).size]!)).toList,y.oneCell' = true:=by
        rw [hcells]
        intro y hy
        obtain ⟨q,hq,hy⟩:=List.mem_flatten.1 hy
        rw [(List.mem_replicate.1 hq).2] at hy
        exact h6 y hy
       have h9 : FillR ρ (fun i=>some (i * s,s)) l (ps.map fun (i,x)=>(i,a.eval x)).toList:=by rw [Array.toList_map]; exact h8
       have h7 : sBuildS s n (repeatL n z) l h k = r:=h7
       clear hh hm hcells
       generalize repeatL n z = tmpl at *
       exact sBuildS_ok h7 hr c.rh ht hs h1 h2 (fun _=>h4) hv h1' h9
     · cases hc
   · cases hc
 · cases hc
theorem sNil_ok {x : V} (hh : sNil x h k = r) (hr : r ≠ .fail) {v : Value} (hv : VR ρ x v) : ∃ u ad,k u h = r∧v = .pointer (some ad)∧VR ρ u v:=by
 obtain ⟨b,o,rfl,h1⟩:=ptrk_ok hh hr
 obtain ⟨c,z,S,hb,rfl⟩:=hv.ptr_inv
 exact ⟨_,_,h1,rfl,.ptr hb⟩
theorem sMM_ok {mx : Bool} {x y : V} (hh : sMM mx x y h k = r) (hr : r ≠ .fail) {v u : Value} (hv : VR ρ x v) (hu : VR ρ y u) :
 ∃ z : V,∃ kx p q,k z h = r∧v = .int kx p∧u = .int kx q∧z = .int kx (if (if mx then p < q else q < p) then q else p):=by
 obtain ⟨kx,p,q,rfl,rfl,h1⟩:=int2_ok (G:=fun kx a b=>ifk (Bool.rec (motive:=fun _=>Bool) (ilt b a) (ilt a b) mx) (k (.int kx b) h) (k (.int kx a) h)) hh hr
 refine ⟨_,kx,p,q,?_,hv.int_inv,hu.int_inv,rfl⟩
 rw [ifk_eq] at h1
 rw [← h1]
 cases mx <;> simp only [ilt_eq,Bool.false_eq_true,if_false,if_true] <;> simp only [decide_eq_true_eq] <;> split <;> rfl
def Both (P : Program) (ρ : Rho) (h : Heap) (w : World) (ox : OX) (s : Sem Next) (k : V→Heap→Res) (r : Res) : Prop:=(ox.light = true→OkPN P ρ h w s k r)∧OkN P ρ h w s k r
theorem OkPN.both {ox : OX} {s : Sem Next} (h1 : OkPN P ρ h w s k r) (rh : RH P ρ h w) : Both P ρ h w ox s k r:=⟨fun _=>h1,.pure rh h1⟩
theorem OkN.both {ox : OX} {s : Sem Next} (h1 : OkN P ρ h w s k r) (hl : ox.light = false) : Both P ρ h w ox s k r:=⟨fun e=>(by rw [hl] at e; cases e),h1⟩
theorem one_light {f : Operand→Option Loc} {c : Bool} {mk : Loc→OX} {x : Operand} {ox : OX} (h : one f c mk x = some ox) (hm : ∀ l,(mk l).light = false) : ox.light = false:=by
 obtain ⟨_,l,_,rfl⟩:=one_inv h; exact hm l
theorem two_light {f : Operand→Option Loc} {c : Bool} {mk : Loc→Loc→OX} {x y : Operand} {ox : OX} (h : two f c mk x y = some ox) (hm : ∀ l m,(mk l m).light = false) : ox.light = false:=by
 obtain ⟨_,l,m,_,_,rfl⟩:=two_inv h; exact hm l m
theorem VRs.one {ρ : Rho} {l : List V} {x : Value} (h : VRs ρ l [x]) : ∃ v,l = [v]∧VR ρ v x:=by
 cases h with
 | cons h1 h2=>cases h2; exact ⟨_,rfl,h1⟩
theorem VRs.two {ρ : Rho} {l : List V} {x y : Value} (h : VRs ρ l [x,y]) : ∃ v u,l = [v,u]∧VR ρ v x∧VR ρ u y:=by
 cases h with
 | cons h1 h2=>
   obtain ⟨u,rfl,h3⟩:=h2.one
   exact ⟨_,_,rfl,h1,h3⟩
theorem VRs.three {ρ : Rho} {l : List V} {x y z : Value} (h : VRs ρ l [x,y,z]) : ∃ v u t,l = [v,u,t]∧VR ρ v x∧VR ρ u y∧VR ρ t z:=by
 cases h with
 | cons h1 h2=>
   obtain ⟨u,t,rfl,h3,h4⟩:=h2.two
   exact ⟨_,_,_,rfl,h1,h3,h4⟩
theorem map1 (f : Operand→Value) (x : Operand) : Array.map f (Array.mk [x]) = #[f x]:=by simp
theorem map2 (f : Operand→Value) (x y : Operand) : Array.map f (Array.mk [x,y]) = #[f x,f y]:=by simp
theorem cBuiltin_ok (c : Cx P ρ ng T L env h w a) {b : Builtin} {args : Array Operand} {ts : Array TypeId} {ox : OX} (hc : cBuiltin P (locOf T ng) b args.toList ts = some ox) (u : TypeId)
 (cs : Array Bool) (hh : semOX ox L env h k = r) (hr : r ≠ .fail) : Both P ρ h w ox (builtin b ts u cs (args.map a.eval)) k r:=by
 obtain ⟨args⟩:=args
 unfold cBuiltin at hc
 split at hc
 · rename_i x hx
   cases hx
   rw [map1]
   split at hc
   · rename_i t ht
     split at hc
     · rename_i hu
       obtain ⟨_,v,h1,h2⟩:=c.do1 (f:=sLenS) hc (fun _=>rfl) hh hr
       exact (sLenS_ok h1 hr c.rh h2 ht hu).next.both c.rh
     · rename_i hu
       obtain ⟨_,v,h1,h2⟩:=c.do1 (f:=sLen) hc (fun _=>rfl) hh hr
       exact (sLen_ok h1 hr c.rh h2 ht hu).next.both c.rh
     · rename_i hu
       obtain ⟨ls,e1,rfl⟩:=Option.map_eq_some_iff.1 hc
       obtain ⟨l,h1,h2⟩:=c.locs e1 (k:=fun l=>semEX .lenM l h k) hh hr
       obtain ⟨v,rfl,h3⟩:=h2.one
       have h1 : sLenM v h k = r:=h1
       exact (sLenM_ok h1 hr c.rh h3 ht hu).next.both c.rh
     · cases hc
   · cases hc
 · rename_i x hx
   cases hx
   rw [map1]
   split at hc
   · rename_i t ht
     split at hc
     · rename_i hu
       obtain ⟨ls,e1,rfl⟩:=Option.map_eq_some_iff.1 hc
       obtain ⟨l,h1,h2⟩:=c.locs e1 (k:=fun l=>semEX .capS l h k) hh hr
       obtain ⟨v,rfl,h3⟩:=h2.one
       have h1 : sCapS v h k = r:=h1
       exact (sCapS_ok h1 hr h3 ht hu).next.both c.rh
     · cases hc
   · cases hc
 · rename_i x y hx
   cases hx
   rw [map2]
   split at hc
   · rename_i t ht
     split at hc
     · rename_i hu
       obtain ⟨s,es,hc⟩:=Option.bind_eq_some_iff.1 hc
       obtain ⟨d,hd1,hd2⟩:=keyKind_ok es
       obtain ⟨ls,e1,rfl⟩:=Option.map_eq_some_iff.1 hc
       obtain ⟨l,h1,h2⟩:=c.locs e1 (k:=fun l=>semEX (.del s) l h k) hh hr
       obtain ⟨v,u',rfl,h3,h4⟩:=h2.two
       have h1 : sDel s v u' h k = r:=h1
       exact (sDel_ok h1 hr c.rh h3 h4 ht hu hd1 hd2).next.both rfl
     · cases hc
   · cases hc
 · rename_i x y hx
   cases hx
   rw [map2]
   split at hc
   · rename_i t1 t2 ht1 ht2
     split at hc
     · rename_i e s d he hu
       obtain ⟨_,v,v',h1,h2,h3⟩:=c.do2 (f:=sApp s) hc (fun _ _=>rfl) hh hr
       exact (sApp_ok h1 hr c.rh h2 h3 ⟨chkSl_ok he,ht1⟩ ht2 hu rfl).next.both (two_light hc fun _ _=>rfl)
     · rename_i e he hu
       obtain ⟨_,v,v',h1,h2,h3⟩:=c.do2 (f:=fun v u h k=>srcSk u fun m new=>appendk 1 v m new h k) hc (fun _ _=>rfl) hh hr
       obtain ⟨n,l,xs,h4,h5⟩:=srcSk_ok (P:=P) (w:=w) (k:=fun m new=>appendk 1 v m new h k) h1 hr h3
       exact (appendk_ok h4 hr c.rh h2 (h5.h ht2 hu rfl) ⟨chkSl_ok he,ht1⟩).next.both (two_light hc fun _ _=>rfl)
     · rename_i e s kd he hu
       split at hc
       · rename_i z hz
         obtain ⟨hl,v,v',h1,h2,h3⟩:=c.do2 (f:=sAppZ s z) hc (fun _ _=>rfl) hh hr
         obtain ⟨zv,g1,g2,g3⟩:=zeroL_ok hz
         exact (sAppZ_ok h1 hr c.rh h2 h3 ⟨chkSl_ok he,ht1⟩ ht2 hu g1 g2 (by simpa using hl) g3).next.both (two_light hc fun _ _=>rfl)
       · cases hc
     · cases hc
   · cases hc
 · rename_i x y hx
   cases hx
   rw [map2]
   split at hc
   · rename_i t1 t2 ht1 ht2
     split at hc
     · rename_i e1 e2 hu1 hu2
       split at hc
       · rename_i s hs
         obtain ⟨_,v,v',h1,h2,h3⟩:=c.do2 (f:=sCopy s) hc (fun _ _=>rfl) hh hr
         obtain ⟨h1,h4,h5⟩ : copyk s v h (fun d k=>srcTk s d v' h k) k = r∧(∃ m,(Builtin.lenOf (a.eval y)).run P w = .ok m w)∧(Builtin.firstCells s 0 (a.eval y)).run P w = .ok #[] w:=by
          rcases slk_ok h1 hr with ⟨b,o,l,cp,s',rfl,h1⟩ | ⟨rfl,h1⟩ | ⟨rfl,h1⟩
          · obtain ⟨c,z,S,cap,hb,_,_,_,e⟩:=h3.slice_inv
            rw [e]
            exact ⟨h1,⟨_,rfl⟩,by show (loadCells _ (0 * s)).run P _ = _; rw [Nat.zero_mul]; rfl⟩
          · rw [h3.nils_inv]
            exact ⟨h1,⟨_,rfl⟩,rfl⟩
          · generalize a.eval y = yv at h3
            cases h3
            exact ⟨h1,⟨_,rfl⟩,by show (loadCells _ (0 * s)).run P _ = _; rw [Nat.zero_mul]; rfl⟩
         exact (copyk_ok h1 hr c.rh h2 (fun d k r h4 h5=>srcTk_ok h4 h5 c.rh h3) h4 h5 ht1 hu1 hs).next.both (two_light hc fun _ _=>rfl)
       · cases hc
     · rename_i e1 hu1 hu2
       obtain ⟨hs,v,v',h1,h2,h3⟩:=c.do2 (f:=fun v u h k=>strk u fun _ _=>copyk 1 v h (fun d k=>srcTSk d u k) k) hc (fun _ _=>rfl) hh hr
       obtain ⟨l0,n0,rfl,h1⟩:=strk_ok h1 hr
       obtain ⟨s0,e0,e1,e2⟩:=h3.str_inv
       exact (copyk_ok h1 hr c.rh h2 (fun d k r h4 h5=>srcTSk_ok h4 h5 h3) (by rw [e0]; exact ⟨_,rfl⟩) (by rw [e0]; simp [Builtin.firstCells]) ht1 hu1 (by simpa using hs)).next.both (two_light hc fun _ _=>rfl)
     · cases hc
   · cases hc
 · rename_i x hx
   cases hx
   rw [map1]
   split at hc
   · rename_i t ht
     split at hc
     · rename_i e hu
       split at hc
       · rename_i z s hz hs
         split at hc
         · rename_i hl
           simp only [Bool.and_eq_true,beq_iff_eq,bne_iff_ne,ne_eq] at hl
           obtain ⟨ls,e1,rfl⟩:=Option.map_eq_some_iff.1 hc
           obtain ⟨l,h1,h2⟩:=c.locs e1 (k:=fun l=>semEX (.clr s z) l h k) hh hr
           obtain ⟨v,rfl,h3⟩:=h2.one
           have h1 : sClr s z v h k = r:=h1
           obtain ⟨zv,g1,g2,g3⟩:=zeroL_ok hz
           exact (sClr_ok h1 hr c.rh h3 u ht hu g1 g2 hl.1 (by omega) g3).next.both rfl
         · cases hc
       · cases hc
     · cases hc
   · cases hc
 · rename_i x y hx
   cases hx
   rw [map2]
   obtain ⟨_,v,v',h1,h2,h3⟩:=c.do2 (f:=sMM false) hc (fun _ _=>rfl) hh hr
   obtain ⟨z,kx,p,q,h4,h5,h6,rfl⟩:=sMM_ok h1 hr h2 h3
   refine OkPN.both (OkP.next ⟨_,_,h4,?_,.int _ _⟩) c.rh
   simp [Builtin.min_,Builtin.min2,h5,h6]
 · rename_i x y hx
   cases hx
   rw [map2]
   obtain ⟨_,v,v',h1,h2,h3⟩:=c.do2 (f:=sMM true) hc (fun _ _=>rfl) hh hr
   obtain ⟨z,kx,p,q,h4,h5,h6,rfl⟩:=sMM_ok h1 hr h2 h3
   refine OkPN.both (OkP.next ⟨_,_,h4,?_,.int _ _⟩) c.rh
   simp [Builtin.max_,Builtin.max2,h5,h6]
 · cases hc
theorem cBuiltinP_ok (c : Cx P ρ ng T L env h w a) {pos : String} {b : Builtin} {args : Array Operand} {ts : Array TypeId} {ox : OX} (hc : cBuiltinP P (locOf T ng) pos b args.toList ts = some ox) (u : TypeId)
 (cs : Array Bool) (hh : semOX ox L env h k = r) (hr : r ≠ .fail) : Both P ρ h w ox (builtin b ts u cs (args.map a.eval)) k r:=by
 unfold cBuiltinP at hc
 split at hc
 · split at hc
   · obtain ⟨args⟩:=args
     unfold cAppB at hc
     split at hc
     · rename_i x y hx
       simp only at hx
       subst hx
       rw [map2]
       split at hc
       · rename_i t1 t2 ht1 ht2
         split at hc
         · rename_i e d he hu
           obtain ⟨ls,e1,rfl⟩:=Option.map_eq_some_iff.1 hc
           obtain ⟨l,h1,h2⟩:=c.locs e1 (k:=fun l=>semEX (.appB false e) l h k) hh hr
           obtain ⟨v,v',rfl,h3,h4⟩:=h2.two
           have h1 : sAppB false e v v' h k = r:=h1
           exact (sAppB_ok h1 hr c.rh h3 h4 ⟨chkSl_ok he,ht1⟩ ht2 hu rfl).next.both rfl
         · rename_i e he hu
           obtain ⟨ls,e1,rfl⟩:=Option.map_eq_some_iff.1 hc
           obtain ⟨l,h1,h2⟩:=c.locs e1 (k:=fun l=>semEX (.appB true e) l h k) hh hr
           obtain ⟨v,v',rfl,h3,h4⟩:=h2.two
           have h1 : sAppB true e v v' h k = r:=h1
           exact (sAppB_ok h1 hr c.rh h3 h4 ⟨chkSl_ok he,ht1⟩ ht2 hu rfl).next.both rfl
         · cases hc
       · cases hc
     · cases hc
   · exact cBuiltin_ok c hc u cs hh hr
 · obtain ⟨args⟩:=args
   unfold cUns at hc
   split at hc
   · rename_i x hb hx
     simp only at hx
     subst hx
     rw [map1]
     obtain ⟨ls,e1,rfl⟩:=Option.map_eq_some_iff.1 hc
     obtain ⟨l,h1,h2⟩:=c.locs e1 (k:=fun l=>semEX .usd l h k) hh hr
     obtain ⟨v,rfl,h3⟩:=h2.one
     have h1 : sUsd v h k = r:=h1
     exact (sUsd_ok h1 hr h3).next.both c.rh
   · rename_i hb _; cases hb
   · cases hc
 · obtain ⟨args⟩:=args
   unfold cUns at hc
   split at hc
   · rename_i hb _; cases hb
   · rename_i x y hb hx
     simp only at hx
     subst hx
     rw [map2]
     split at hc
     · rename_i pt it hts
       obtain ⟨ts⟩:=ts
       simp only at hts
       subst hts
       split at hc
       · rename_i e hp
         split at hc
         · rename_i h1e
           obtain ⟨ls,e1,rfl⟩:=Option.map_eq_some_iff.1 hc
           obtain ⟨l,h1,h2⟩:=c.locs e1 (k:=fun l=>semEX (.ustr e) l h k) hh hr
           obtain ⟨v,v',rfl,h3,h4⟩:=h2.two
           have h1 : sUstr e v v' h k = r:=h1
           exact (sUstr_ok h1 hr c.rh h3 h4 hp (by simpa using h1e)).next.both rfl
         · cases hc
       · cases hc
     · cases hc
   · cases hc
 · exact cBuiltin_ok c hc u cs hh hr
end Go.Ev
