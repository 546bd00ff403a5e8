/- EVALUATOR: going over a map, in whatever order; results that are one. -/
import Derived.Test.YtobbabhldblljaaGreatDoorEvExt
import Derived.Test.YtobbabhldblljaaGreatDoorEvExt
import Derived.Test.YtobbabhldblljaaGreatDoorEvEq
import Derived.Maps.RangeRun
namespace Go.Ev
variable {P : Program}
noncomputable def teqk (a b : T) (k : Res) : Res:=
 T.rec (motive:=fun _=>T→Res→Res)
  (fun b k=>T.rec (motive:=fun _=>Res) k (fun _=>.fail) (fun _ _ _ _=>.fail) b)
  (fun c b k=>T.rec (motive:=fun _=>Res) .fail (fun d=>veqsk c d k) (fun _ _ _ _=>.fail) b)
  (fun _ _ ih1 ih2 b k=>T.rec (motive:=fun _=>Res) .fail (fun _=>.fail) (fun x y _ _=>ih1 x (ih2 y k)) b) a b k
theorem teqk_ok : ∀ (a : T) {b : T} {k r : Res},teqk a b k = r→r ≠ .fail→a = b∧k = r
 | .e,b,k,r,h,hr=>by
   cases b with
   | e=>exact ⟨rfl,h⟩
   | _=>exact absurd h.symm hr
 | .lf c,b,k,r,h,hr=>by
   cases b with
   | lf d=>
     obtain ⟨rfl,h1⟩:=veqs_ok c (show veqsk c d k = r from h) hr
     exact ⟨rfl,h1⟩
   | _=>exact absurd h.symm hr
 | .nd x y,b,k,r,h,hr=>by
   cases b with
   | nd x' y'=>
     obtain ⟨rfl,h1⟩:=teqk_ok x (show teqk x x' (teqk y y' k) = r from h) hr
     obtain ⟨rfl,h2⟩:=teqk_ok y h1 hr
     exact ⟨rfl,h2⟩
   | _=>exact absurd h.symm hr
noncomputable def meqk (x y : ME) (k : Res) : Res:=
 ME.rec (motive:=fun _=>Res) (fun k0 v0=>ME.rec (motive:=fun _=>Res) (fun k1 v1=>veqk k0 k1 (veqk v0 v1 k)) y) x
theorem meqk_ok {x y : ME} {k r : Res} (h : meqk x y k = r) (hr : r ≠ .fail) : x = y∧k = r:=by
 obtain ⟨k0,v0⟩:=x
 obtain ⟨k1,v1⟩:=y
 obtain ⟨rfl,h1⟩:=veqk_ok k0 (show veqk k0 k1 (veqk v0 v1 k) = r from h) hr
 obtain ⟨rfl,h2⟩:=veqk_ok v0 h1 hr
 exact ⟨rfl,h2⟩
noncomputable def mesk (l : List ME) : List ME→Res→Res:=
 List.rec (motive:=fun _=>List ME→Res→Res) (fun ys k=>List.rec (motive:=fun _=>Res) k (fun _ _ _=>.fail) ys)
  (fun x _ ih ys k=>List.rec (motive:=fun _=>Res) .fail (fun y ys _=>meqk x y (ih ys k)) ys) l
theorem mesk_ok : ∀ (l : List ME) {ys : List ME} {k r : Res},mesk l ys k = r→r ≠ .fail→l = ys∧k = r
 | [],ys,k,r,h,hr=>by
   cases ys with
   | nil=>exact ⟨rfl,h⟩
   | cons _ _=>exact absurd h.symm hr
 | x :: l,ys,k,r,h,hr=>by
   cases ys with
   | nil=>exact absurd h.symm hr
   | cons y ys=>
     obtain ⟨rfl,h1⟩:=meqk_ok (show meqk x y (mesk l ys k) = r from h) hr
     obtain ⟨rfl,h2⟩:=mesk_ok l h1 hr
     exact ⟨rfl,h2⟩
noncomputable def obeqk (a b : Option Bid) (k : Res) : Res:=
 Option.rec (motive:=fun _=>Res) (Option.rec (motive:=fun _=>Res) k (fun _=>.fail) b) (fun x=>Option.rec (motive:=fun _=>Res) .fail (fun y=>ifk (Nat.beq x.val y.val) k .fail) b) a
theorem obeqk_ok {a b : Option Bid} {k r : Res} (h : obeqk a b k = r) (hr : r ≠ .fail) : a = b∧k = r:=by
 cases a with
 | none=>cases b with
   | none=>exact ⟨rfl,h⟩
   | some _=>exact absurd h.symm hr
 | some x=>cases b with
   | none=>exact absurd h.symm hr
   | some y=>
     obtain ⟨h0,h1⟩:=ifk_fail (show ifk (Nat.beq x.val y.val) k .fail = r from h) hr
     obtain rfl:=Bid.val_inj (Nat.eq_of_beq_eq_true h0)
     exact ⟨rfl,h1⟩
noncomputable def oeqk (a b : Oth) (k : Res) : Res:=
 Oth.rec (motive:=fun _=>Res)
  (fun es c=>Oth.rec (motive:=fun _=>Res) (fun es' c'=>mesk es es' (ifk (Nat.beq c c') k .fail)) (fun _ _ _=>.fail) (fun _ _ _ _ _=>.fail) (fun _ _ _ _=>.fail) (fun _ _ _=>.fail) (fun _ _ _=>.fail) (fun _=>.fail) b)
  (fun l n p=>Oth.rec (motive:=fun _=>Res) (fun _ _=>.fail) (fun l' n' p'=>ifk (Nat.beq l l') (ifk (Nat.beq n n') (ifk (Nat.beq p p') k .fail) .fail) .fail) (fun _ _ _ _ _=>.fail) (fun _ _ _ _=>.fail) (fun _ _ _=>.fail) (fun _ _ _=>.fail) (fun _=>.fail) b)
  (fun i m vs st pd=>Oth.rec (motive:=fun _=>Res) (fun _ _=>.fail) (fun _ _ _=>.fail) (fun i' m' vs' st' pd'=>ifk (Nat.beq i i') (ifk (Nat.beq m m') (veqsk vs vs' (ifk (Nat.beq st st') (ifk (Nat.beq pd pd') k .fail) .fail)) .fail) .fail) (fun _ _ _ _=>.fail) (fun _ _ _=>.fail) (fun _ _ _=>.fail) (fun _=>.fail) b)
  (fun m s sn la=>Oth.rec (motive:=fun _=>Res) (fun _ _=>.fail) (fun _ _ _=>.fail) (fun _ _ _ _ _=>.fail) (fun m' s' sn' la'=>obeqk m m' (ifk (Nat.beq s s') (veqsk sn sn' (ifk (Nat.beq la la') k .fail)) .fail)) (fun _ _ _=>.fail) (fun _ _ _=>.fail) (fun _=>.fail) b)
  (fun e g t=>Oth.rec (motive:=fun _=>Res) (fun _ _=>.fail) (fun _ _ _=>.fail) (fun _ _ _ _ _=>.fail) (fun _ _ _ _=>.fail) (fun e' g' t'=>ifk (Nat.beq e e') (ifk (Nat.beq g g') (teqk t t' k) .fail) .fail) (fun _ _ _=>.fail) (fun _=>.fail) b)
  (fun e l n=>Oth.rec (motive:=fun _=>Res) (fun _ _=>.fail) (fun _ _ _=>.fail) (fun _ _ _ _ _=>.fail) (fun _ _ _ _=>.fail) (fun _ _ _=>.fail) (fun e' l' n'=>ifk (Nat.beq e e') (ifk (Nat.beq l l') (ifk (Nat.beq n n') k .fail) .fail) .fail) (fun _=>.fail) b)
  (fun k0=>Oth.rec (motive:=fun _=>Res) (fun _ _=>.fail) (fun _ _ _=>.fail) (fun _ _ _ _ _=>.fail) (fun _ _ _ _=>.fail) (fun _ _ _=>.fail) (fun _ _ _=>.fail) (fun k1=>ifk (Nat.beq (kno k0) (kno k1)) k .fail) b) a
theorem oeqk_ok {a b : Oth} {k r : Res} (h : oeqk a b k = r) (hr : r ≠ .fail) : a = b∧k = r:=by
 cases a with
 | mp es c=>cases b with
   | mp es' c'=>
     obtain ⟨rfl,h1⟩:=mesk_ok es (show mesk es es' (ifk (Nat.beq c c') k .fail) = r from h) hr
     obtain ⟨h0,h2⟩:=ifk_fail h1 hr
     obtain rfl:=Nat.eq_of_beq_eq_true h0
     exact ⟨rfl,h2⟩
   | _=>exact absurd h.symm hr
 | it l n p=>cases b with
   | it l' n' p'=>
     obtain ⟨e1,h1⟩:=ifk_fail (show ifk (Nat.beq l l') (ifk (Nat.beq n n') (ifk (Nat.beq p p') k .fail) .fail) .fail = r from h) hr
     obtain ⟨e2,h2⟩:=ifk_fail h1 hr
     obtain ⟨e3,h3⟩:=ifk_fail h2 hr
     obtain rfl:=Nat.eq_of_beq_eq_true e1
     obtain rfl:=Nat.eq_of_beq_eq_true e2
     obtain rfl:=Nat.eq_of_beq_eq_true e3
     exact ⟨rfl,h3⟩
   | _=>exact absurd h.symm hr
 | lp i m vs st pd=>cases b with
   | lp i' m' vs' st' pd'=>
     obtain ⟨e1,h1⟩:=ifk_fail (show ifk (Nat.beq i i') (ifk (Nat.beq m m') (veqsk vs vs' (ifk (Nat.beq st st') (ifk (Nat.beq pd pd') k .fail) .fail)) .fail) .fail = r from h) hr
     obtain ⟨e2,h2⟩:=ifk_fail h1 hr
     obtain ⟨rfl,h3⟩:=veqs_ok vs h2 hr
     obtain ⟨e4,h4⟩:=ifk_fail h3 hr
     obtain ⟨e5,h5⟩:=ifk_fail h4 hr
     obtain rfl:=Nat.eq_of_beq_eq_true e1
     obtain rfl:=Nat.eq_of_beq_eq_true e2
     obtain rfl:=Nat.eq_of_beq_eq_true e4
     obtain rfl:=Nat.eq_of_beq_eq_true e5
     exact ⟨rfl,h5⟩
   | _=>exact absurd h.symm hr
 | mi m s sn la=>cases b with
   | mi m' s' sn' la'=>
     obtain ⟨rfl,h1⟩:=obeqk_ok (show obeqk m m' (ifk (Nat.beq s s') (veqsk sn sn' (ifk (Nat.beq la la') k .fail)) .fail) = r from h) hr
     obtain ⟨e2,h2⟩:=ifk_fail h1 hr
     obtain ⟨rfl,h3⟩:=veqs_ok sn h2 hr
     obtain ⟨e4,h4⟩:=ifk_fail h3 hr
     obtain rfl:=Nat.eq_of_beq_eq_true e2
     obtain rfl:=Nat.eq_of_beq_eq_true e4
     exact ⟨rfl,h4⟩
   | _=>exact absurd h.symm hr
 | st l n t=>cases b with
   | st l' n' t'=>
     obtain ⟨e1,h1⟩:=ifk_fail (show ifk (Nat.beq l l') (ifk (Nat.beq n n') (teqk t t' k) .fail) .fail = r from h) hr
     obtain ⟨e2,h2⟩:=ifk_fail h1 hr
     obtain ⟨rfl,h3⟩:=teqk_ok t h2 hr
     obtain rfl:=Nat.eq_of_beq_eq_true e1
     obtain rfl:=Nat.eq_of_beq_eq_true e2
     exact ⟨rfl,h3⟩
   | _=>exact absurd h.symm hr
 | bs l n p=>cases b with
   | bs l' n' p'=>
     obtain ⟨e1,h1⟩:=ifk_fail (show ifk (Nat.beq l l') (ifk (Nat.beq n n') (ifk (Nat.beq p p') k .fail) .fail) .fail = r from h) hr
     obtain ⟨e2,h2⟩:=ifk_fail h1 hr
     obtain ⟨e3,h3⟩:=ifk_fail h2 hr
     obtain rfl:=Nat.eq_of_beq_eq_true e1
     obtain rfl:=Nat.eq_of_beq_eq_true e2
     obtain rfl:=Nat.eq_of_beq_eq_true e3
     exact ⟨rfl,h3⟩
   | _=>exact absurd h.symm hr
 | num k0=>cases b with
   | num k1=>
     obtain ⟨e1,h1⟩:=ifk_fail (show ifk (Nat.beq (kno k0) (kno k1)) k .fail = r from h) hr
     obtain rfl:=kno_inj e1
     exact ⟨rfl,h1⟩
   | _=>exact absurd h.symm hr
noncomputable def blkq (a b : Blk) (k : Res) : Res:=
 Blk.rec (motive:=fun _=>Res) (Blk.rec (motive:=fun _=>Res) k (fun _ _ _ _=>.fail) (fun _=>.fail) b)
  (fun g n t ro=>Blk.rec (motive:=fun _=>Res) .fail (fun g' n' t' ro'=>ifk (Nat.beq g g') (ifk (Nat.beq n n') (teqk t t' (ifk (Bool.rec (motive:=fun _=>Bool) (Bool.rec (motive:=fun _=>Bool) true false ro') ro' ro) k .fail)) .fail) .fail) (fun _=>.fail) b)
  (fun o=>Blk.rec (motive:=fun _=>Res) .fail (fun _ _ _ _=>.fail) (fun o'=>oeqk o o' k) b) a
theorem blkq_ok {a b : Blk} {k r : Res} (h : blkq a b k = r) (hr : r ≠ .fail) : a = b∧k = r:=by
 cases a with
 | none=>cases b with
   | none=>exact ⟨rfl,h⟩
   | _=>exact absurd h.symm hr
 | arr g n t ro=>cases b with
   | arr g' n' t' ro'=>
     obtain ⟨e1,h1⟩:=ifk_fail (show ifk (Nat.beq g g') (ifk (Nat.beq n n') (teqk t t' (ifk (Bool.rec (motive:=fun _=>Bool) (Bool.rec (motive:=fun _=>Bool) true false ro') ro' ro) k .fail)) .fail) .fail = r from h) hr
     obtain ⟨e2,h2⟩:=ifk_fail h1 hr
     obtain ⟨rfl,h3⟩:=teqk_ok t h2 hr
     obtain ⟨e4,h4⟩:=ifk_fail h3 hr
     obtain rfl:=Nat.eq_of_beq_eq_true e1
     obtain rfl:=Nat.eq_of_beq_eq_true e2
     obtain rfl:=beqB e4
     exact ⟨rfl,h4⟩
   | _=>exact absurd h.symm hr
 | ob o=>cases b with
   | ob o'=>
     obtain ⟨rfl,h1⟩:=oeqk_ok (show oeqk o o' k = r from h) hr
     exact ⟨rfl,h1⟩
   | _=>exact absurd h.symm hr
noncomputable def rowq {α : Type} (f : α→α→Res→Res) (n m : N α) (k : Res) : Res:=
 N.rec (motive:=fun _=>Res) (fun a0 a1 a2 a3 a4 a5 a6 a7 a8 a9 aa ab ac ad ae af=>N.rec (motive:=fun _=>Res) (fun b0 b1 b2 b3 b4 b5 b6 b7 b8 b9 ba bb bc bd be bf=>
  f a0 b0 (f a1 b1 (f a2 b2 (f a3 b3 (f a4 b4 (f a5 b5 (f a6 b6 (f a7 b7 (f a8 b8 (f a9 b9 (f aa ba (f ab bb (f ac bc (f ad bd (f ae be (f af bf k)))))))))))))))) m) n
def EqOk' {α : Type} (f : α→α→Res→Res) : Prop:=∀ {a b : α} {k r : Res},f a b k = r→r ≠ .fail→a = b∧k = r
theorem rowq_ok {α : Type} {f : α→α→Res→Res} (hf : EqOk' f) : EqOk' (rowq f):=by
 rintro ⟨a0,a1,a2,a3,a4,a5,a6,a7,a8,a9,aa,ab,ac,ad,ae,af⟩ ⟨b0,b1,b2,b3,b4,b5,b6,b7,b8,b9,ba,bb,bc,bd,be,bf⟩ k r h hr
 have h : f a0 b0 (f a1 b1 (f a2 b2 (f a3 b3 (f a4 b4 (f a5 b5 (f a6 b6 (f a7 b7 (f a8 b8 (f a9 b9 (f aa ba (f ab bb (f ac bc (f ad bd (f ae be (f af bf k))))))))))))))) = r:=h
 obtain ⟨rfl,g0⟩:=hf h hr
 obtain ⟨rfl,g1⟩:=hf g0 hr
 obtain ⟨rfl,g2⟩:=hf g1 hr
 obtain ⟨rfl,g3⟩:=hf g2 hr
 obtain ⟨rfl,g4⟩:=hf g3 hr
 obtain ⟨rfl,g5⟩:=hf g4 hr
 obtain ⟨rfl,g6⟩:=hf g5 hr
 obtain ⟨rfl,g7⟩:=hf g6 hr
 obtain ⟨rfl,g8⟩:=hf g7 hr
 obtain ⟨rfl,g9⟩:=hf g8 hr
 obtain ⟨rfl,g10⟩:=hf g9 hr
 obtain ⟨rfl,g11⟩:=hf g10 hr
 obtain ⟨rfl,g12⟩:=hf g11 hr
 obtain ⟨rfl,g13⟩:=hf g12 hr
 obtain ⟨rfl,g14⟩:=hf g13 hr
 obtain ⟨rfl,g15⟩:=hf g14 hr
 exact ⟨rfl,g15⟩
noncomputable def okR : Res:=.pan .und ⟨[],⟨0,.d0,.d0,.d0,.d0⟩⟩
noncomputable def okb (r : Res) : Bool:=Res.rec (motive:=fun _=>Bool) false (fun _ _ _=>true) (fun _ _=>true) (fun _ _=>true) (fun _ _ _ _=>false) r
noncomputable def memo {α : Type} (f : α→α→Res→Res) (a b : α) (k : Res) : Res:=ifk (okb (f a b okR)) k .fail
theorem memo_ok {α : Type} {f : α→α→Res→Res} (hf : EqOk' f) : EqOk' (memo f):=by
 intro a b k r h hr
 obtain ⟨h1,h2⟩:=ifk_fail (show ifk (okb (f a b okR)) k .fail = r from h) hr
 refine ⟨(hf (r:=f a b okR) rfl fun e=>?_).1,h2⟩
 rw [e] at h1; cases h1
noncomputable def row1q : N Blk→N Blk→Res→Res:=memo (rowq blkq)
noncomputable def row2q : N (N Blk)→N (N Blk)→Res→Res:=memo (rowq row1q)
noncomputable def row3q : N (N (N Blk))→N (N (N Blk))→Res→Res:=memo (rowq row2q)
noncomputable def row4q : H4→H4→Res→Res:=memo (rowq row3q)
theorem row1q_ok : EqOk' row1q:=@memo_ok _ _ (@rowq_ok _ blkq @blkq_ok)
theorem row2q_ok : EqOk' row2q:=@memo_ok _ _ (@rowq_ok _ row1q @row1q_ok)
theorem row3q_ok : EqOk' row3q:=@memo_ok _ _ (@rowq_ok _ row2q @row2q_ok)
theorem row4q_ok : EqOk' row4q:=@memo_ok _ _ (@rowq_ok _ row3q @row3q_ok)
noncomputable def htq (t : HT) : HT→Res→Res:=
 List.rec (motive:=fun _=>HT→Res→Res) (fun ys k=>List.rec (motive:=fun _=>Res) k (fun _ _ _=>.fail) ys) (fun x _ ih ys k=>List.rec (motive:=fun _=>Res) .fail (fun y ys _=>row4q x y (ih ys k)) ys) t
theorem htq_ok : ∀ (t : HT) {t' : HT} {k r : Res},htq t t' k = r→r ≠ .fail→t = t'∧k = r
 | [],ys,k,r,h,hr=>by
   cases ys with
   | nil=>exact ⟨rfl,h⟩
   | cons _ _=>exact absurd h.symm hr
 | x :: l,ys,k,r,h,hr=>by
   cases ys with
   | nil=>exact absurd h.symm hr
   | cons y ys=>
     obtain ⟨rfl,h1⟩:=row4q_ok (show row4q x y (htq l ys k) = r from h) hr
     obtain ⟨rfl,h2⟩:=htq_ok l h1 hr
     exact ⟨rfl,h2⟩
noncomputable def hpq (a b : Heap) (k : Res) : Res:=
 Heap.rec (motive:=fun _=>Res) (fun t n=>Heap.rec (motive:=fun _=>Res) (fun t' n'=>ifk (Nat.beq n.val n'.val) (htq t t' k) .fail) b) a
theorem hpq_ok {a b : Heap} {k r : Res} (h : hpq a b k = r) (hr : r ≠ .fail) : a = b∧k = r:=by
 obtain ⟨t,n⟩:=a
 obtain ⟨t',n'⟩:=b
 obtain ⟨e1,h1⟩:=ifk_fail (show ifk (Nat.beq n.val n'.val) (htq t t' k) .fail = r from h) hr
 obtain rfl:=Bid.val_inj (Nat.eq_of_beq_eq_true e1)
 obtain ⟨rfl,h2⟩:=htq_ok t h1 hr
 exact ⟨rfl,h2⟩
noncomputable def exq (a b : Ex) (k : Res) : Res:=
 Ex.rec (motive:=fun _=>Res) (Ex.rec (motive:=fun _=>Res) k (fun _=>.fail) .fail (fun _=>.fail) b) (fun i=>Ex.rec (motive:=fun _=>Res) .fail (fun j=>ifk (Nat.beq i j) k .fail) .fail (fun _=>.fail) b)
  (Ex.rec (motive:=fun _=>Res) .fail (fun _=>.fail) k (fun _=>.fail) b) (fun u=>Ex.rec (motive:=fun _=>Res) .fail (fun _=>.fail) .fail (fun v=>veqk u v k) b) a
theorem exq_ok {a b : Ex} {k r : Res} (h : exq a b k = r) (hr : r ≠ .fail) : a = b∧k = r:=by
 cases a <;> cases b <;> first | exact ⟨rfl,h⟩ | exact absurd h.symm hr | skip
 · rename_i i j
   obtain ⟨e1,h1⟩:=ifk_fail (show ifk (Nat.beq i j) k .fail = r from h) hr
   obtain rfl:=Nat.eq_of_beq_eq_true e1
   exact ⟨rfl,h1⟩
 · rename_i u v
   obtain ⟨rfl,h1⟩:=veqk_ok u (show veqk u v k = r from h) hr
   exact ⟨rfl,h1⟩
noncomputable def reqk (a b : Res) (k : Res) : Res:=
 Res.rec (motive:=fun _=>Res) .fail
  (fun x vs h=>Res.rec (motive:=fun _=>Res) .fail (fun x' vs' h'=>exq x x' (veqsk vs vs' (hpq h h' k))) (fun _ _=>.fail) (fun _ _=>.fail) (fun _ _ _ _=>.fail) b)
  (fun v h=>Res.rec (motive:=fun _=>Res) .fail (fun _ _ _=>.fail) (fun v' h'=>veqk v v' (hpq h h' k)) (fun _ _=>.fail) (fun _ _ _ _=>.fail) b)
  (fun v h=>Res.rec (motive:=fun _=>Res) .fail (fun _ _ _=>.fail) (fun _ _=>.fail) (fun v' h'=>veqk v v' (hpq h h' k)) (fun _ _ _ _=>.fail) b)
  (fun _ _ _ _=>.fail) a
theorem reqk_ok {a b : Res} {k r : Res} (h : reqk a b k = r) (hr : r ≠ .fail) : a = b∧k = r:=by
 cases a with
 | fail=>exact absurd h.symm hr
 | done x vs H=>cases b with
   | done x' vs' H'=>
     obtain ⟨rfl,h1⟩:=exq_ok (show exq x x' (veqsk vs vs' (hpq H H' k)) = r from h) hr
     obtain ⟨rfl,h2⟩:=veqs_ok vs h1 hr
     obtain ⟨rfl,h3⟩:=hpq_ok h2 hr
     exact ⟨rfl,h3⟩
   | _=>exact absurd h.symm hr
 | ret v H=>cases b with
   | ret v' H'=>
     obtain ⟨rfl,h1⟩:=veqk_ok v (show veqk v v' (hpq H H' k) = r from h) hr
     obtain ⟨rfl,h3⟩:=hpq_ok h1 hr
     exact ⟨rfl,h3⟩
   | _=>exact absurd h.symm hr
 | pan v H=>cases b with
   | pan v' H'=>
     obtain ⟨rfl,h1⟩:=veqk_ok v (show veqk v v' (hpq H H' k) = r from h) hr
     obtain ⟨rfl,h3⟩:=hpq_ok h1 hr
     exact ⟨rfl,h3⟩
   | _=>exact absurd h.symm hr
 | alt _ _=>exact absurd h.symm hr
noncomputable def hasb (q r : Res) : Bool:=
 Res.rec (motive:=fun _=>Bool) false (fun e vs h=>okb (reqk q (.done e vs h) okR)) (fun v h=>okb (reqk q (.ret v h) okR)) (fun v h=>okb (reqk q (.pan v h) okR)) (fun _ _ a b=>Bool.rec (motive:=fun _=>Bool) b true a) r
theorem hasb_ok {q : Res} : ∀ {r : Res},hasb q r = true→Leaf q r
 | .fail,h=>by cases h
 | .done e vs h0,h=>by
   have h : okb (reqk q (.done e vs h0) okR) = true:=h
   exact (reqk_ok (r:=reqk q (.done e vs h0) okR) rfl fun e=>by rw [e] at h; cases h).1
 | .ret v h0,h=>by
   have h : okb (reqk q (.ret v h0) okR) = true:=h
   exact (reqk_ok (r:=reqk q (.ret v h0) okR) rfl fun e=>by rw [e] at h; cases h).1
 | .pan v h0,h=>by
   have h : okb (reqk q (.pan v h0) okR) = true:=h
   exact (reqk_ok (r:=reqk q (.pan v h0) okR) rfl fun e=>by rw [e] at h; cases h).1
 | .alt a b,h=>by
   have h : Bool.rec (motive:=fun _=>Bool) (hasb q b) true (hasb q a) = true:=h
   cases e : hasb q a with
   | true=>exact .inl (hasb_ok e)
   | false=>rw [e] at h; exact .inr (hasb_ok h)
noncomputable def addw (q r : Res) : Res:=ifk (hasb q r) r (.alt q r)
theorem addw_l {q r : Res} (hq : q.one) : Le q (addw q r):=by
 unfold addw
 cases e : hasb q r with
 | true=>
   intro x hx
   have : x = q:=by
    cases q with
    | alt a b=>exact hq.elim
    | _=>exact hx
   subst this
   exact hasb_ok e
 | false=>exact fun x hx=>.inl hx
theorem addw_r {q r : Res} : Le r (addw q r):=by
 unfold addw
 cases e : hasb q r with
 | true=>exact .refl _
 | false=>exact fun x hx=>.inr hx
noncomputable def mergk (q : Res) : Res→Res:=
 Res.rec (motive:=fun _=>Res→Res) (fun r=>addw .fail r) (fun e vs h r=>addw (.done e vs h) r) (fun v h r=>addw (.ret v h) r) (fun v h r=>addw (.pan v h) r) (fun _ _ ia ib r=>ia (ib r)) q
theorem mergk_r : ∀ {q r : Res},Le r (mergk q r)
 | .fail,r=>addw_r (q:=.fail)
 | .done e vs h,r=>addw_r (q:=.done e vs h)
 | .ret v h,r=>addw_r (q:=.ret v h)
 | .pan v h,r=>addw_r (q:=.pan v h)
 | .alt a b,r=>(mergk_r (q:=b)).trans (mergk_r (q:=a))
theorem mergk_l : ∀ {q r : Res},Le q (mergk q r)
 | .fail,r=>addw_l (q:=.fail) trivial
 | .done e vs h,r=>addw_l (q:=.done e vs h) trivial
 | .ret v h,r=>addw_l (q:=.ret v h) trivial
 | .pan v h,r=>addw_l (q:=.pan v h) trivial
 | .alt a b,r=>fun x hx=>hx.elim (fun hx=>mergk_l (q:=a) x hx) fun hx=>mergk_r (q:=a) x (mergk_l (q:=b) x hx)
noncomputable def agrk (r : Res) (f : ME→Res) (l : List ME) : Res:=List.rec (motive:=fun _=>Res→Res) (fun r=>r) (fun e _ ih r=>ih (mergk (f e) r)) l r
theorem agrk_le {f : ME→Res} : ∀ {l : List ME} {r : Res},Le r (agrk r f l)∧∀ e ∈ l,Le (f e) (agrk r f l)
 | [],r=>⟨.refl _,by simp⟩
 | e :: l,r=>by
   obtain ⟨h1,h2⟩:=agrk_le (f:=f) (l:=l) (r:=mergk (f e) r)
   refine ⟨mergk_r.trans h1,fun x hx=>?_⟩
   rcases List.mem_cons.1 hx with rfl | hx
   · exact mergk_l.trans h1
   · exact h2 x hx
noncomputable def allk (f : ME→Res) (l : List ME) (z : Res) : Res:=List.rec (motive:=fun _=>Res) z (fun e l _=>agrk (f e) f l) l
theorem allk_le {f : ME→Res} {l : List ME} {z : Res} : (l = []∧allk f l z = z) ∨ (l ≠ []∧∀ e ∈ l,Le (f e) (allk f l z)):=by
 cases l with
 | nil=>exact .inl ⟨rfl,rfl⟩
 | cons e l=>
   obtain ⟨h1,h2⟩:=agrk_le (f:=f) (l:=l) (r:=f e)
   refine .inr ⟨by simp,fun x hx=>?_⟩
   rcases List.mem_cons.1 hx with rfl | hx
   · exact h1
   · exact h2 x hx
noncomputable def mik (x : Oth) (k : Option Bid→Nat→List V→Nat→Res) : Res:=Oth.rec (motive:=fun _=>Res) (fun _ _=>.fail) (fun _ _ _=>.fail) (fun _ _ _ _ _=>.fail) k (fun _ _ _=>.fail) (fun _ _ _=>.fail) (fun _=>.fail) x
theorem mik_ok {x : Oth} {k : Option Bid→Nat→List V→Nat→Res} {r : Res} (h : mik x k = r) (hr : r ≠ .fail) : ∃ m s sn la,x = .mi m s sn la∧k m s sn la = r:=by
 cases x with
 | mi m s sn la=>exact ⟨m,s,sn,la,rfl,h⟩
 | _=>exact absurd h.symm hr
noncomputable def obk' (x : Option Bid) (k : Bid→Res) (z : Res) : Res:=Option.rec (motive:=fun _=>Res) z k x
noncomputable def keyc (x : V) (fi : IntKind→Int→Res) (fs : Nat→Nat→Res) : Res:=
 V.rec (motive_1:=fun _=>Res) (motive_2:=fun _=>PUnit) .fail .fail (fun _=>.fail) fi fs .fail (fun _ _=>.fail) .fail (fun _ _ _ _ _=>.fail) .fail .fail (fun _=>.fail) .fail (fun _ _ _=>.fail) .fail (fun _ _ _=>.fail) (fun _ _ _=>.fail) (fun _ _=>.fail) PUnit.unit (fun _ _ _ _=>PUnit.unit) x
noncomputable def eqkk (x y : V) (k : Bool→Res) : Res:=keyc x (fun kd n=>eqI kd n y k) (fun l n=>eqS l n y k)
theorem eqkk_ok {x y : V} {k : Bool→Res} {r : Res} (h : eqkk x y k = r) (hr : r ≠ .fail) : ∃ t,k t = r∧(t = true ↔ y = x):=by
 cases x with
 | int kd n=>exact (eqI_ok (show eqI kd n y k = r from h) hr).2
 | str l n=>exact (eqS_ok (show eqS l n y k = r from h) hr).2
 | _=>exact absurd h.symm hr
noncomputable def memk (x : V) (l : List V) (k : Bool→Res) : Res:=List.rec (motive:=fun _=>Res) (k false) (fun y _ ih=>eqkk x y fun t=>ifk t (k true) ih) l
theorem memk_ok {x : V} {k : Bool→Res} {r : Res} (hr : r ≠ .fail) : ∀ {l : List V},memk x l k = r→∃ t,k t = r∧(t = true ↔ x ∈ l)
 | [],h=>⟨false,h,by simp⟩
 | y :: l,h=>by
   obtain ⟨t,h1,h2⟩:=eqkk_ok (show eqkk x y (fun t=>ifk t (k true) (memk x l k)) = r from h) hr
   rcases ifk_ne h1 with ⟨rfl,h3⟩ | ⟨rfl,h3⟩
   · exact ⟨true,h3,by simp [h2.1 rfl]⟩
   · obtain ⟨t,h4,h5⟩:=memk_ok hr h3
     refine ⟨t,h4,h5.trans ⟨fun h=>by simp [h],fun h=>?_⟩⟩
     rcases List.mem_cons.1 h with rfl | h
     · have:=h2.2 rfl; cases this
     · exact h
noncomputable def restk (seen : List V) (es : List ME) : (List ME→Res)→Res:=
 List.rec (motive:=fun _=>(List ME→Res)→Res) (fun k=>k []) (fun e _ ih k=>ME.rec (motive:=fun _=>Res) (fun key _=>memk key seen fun t=>ifk t (ih k) (ih fun l=>k (e :: l))) e) es
theorem restk_ok {seen : List V} {r : Res} (hr : r ≠ .fail) : ∀ {es : List ME} {k : List ME→Res},restk seen es k = r→∃ L,k L = r∧∀ m,m ∈ L ↔ m ∈ es∧m.key ∉ seen
 | [],k,h=>⟨[],h,by simp⟩
 | ⟨key,v⟩ :: es,k,h=>by
   obtain ⟨t,h1,h2⟩:=memk_ok hr (show memk key seen (fun t=>ifk t (restk seen es k) (restk seen es fun l=>k (⟨key,v⟩ :: l))) = r from h)
   rcases ifk_ne h1 with ⟨rfl,h3⟩ | ⟨rfl,h3⟩
   · obtain ⟨L,h4,h5⟩:=restk_ok hr h3
     refine ⟨L,h4,fun m=>(h5 m).trans ⟨fun h=>⟨by simp [h.1],h.2⟩,fun h=>⟨?_,h.2⟩⟩⟩
     rcases List.mem_cons.1 h.1 with rfl | h6
     · exact absurd (h2.1 rfl) h.2
     · exact h6
   · have hn : key ∉ seen:=fun e=>by have:=h2.2 e; cases this
     obtain ⟨L,h4,h5⟩:=restk_ok hr h3
     refine ⟨_,h4,fun m=>?_⟩
     rw [List.mem_cons,List.mem_cons,h5]
     constructor
     · rintro (rfl | h)
       · exact ⟨.inl rfl,hn⟩
       · exact ⟨.inr h.1,h.2⟩
     · rintro ⟨rfl | h,h'⟩
       · exact .inl rfl
       · exact .inr ⟨h,h'⟩
theorem pair_one : ∀ {l : List MapEntry},l.Pairwise (fun a b=>a.born ≠ b.born)→∀ {e e' : MapEntry},e ∈ l→e' ∈ l→e.born = e'.born→e = e'
 | [],_,_,_,h,_,_=>by cases h
 | x :: l,hp,e,e',he,he',hb=>by
   obtain ⟨h1,h2⟩:=List.pairwise_cons.1 hp
   rcases List.mem_cons.1 he with rfl | he1
   · rcases List.mem_cons.1 he' with rfl | he2
     · rfl
     · exact absurd hb (h1 _ he2)
   · rcases List.mem_cons.1 he' with rfl | he2
     · exact absurd hb.symm (h1 _ he1)
     · exact pair_one h2 he1 he2 hb
theorem find_born {l : List MapEntry} (hp : l.Pairwise (fun a b=>a.born ≠ b.born)) {e : MapEntry} (he : e ∈ l) {s : Nat} (hb : e.born = s) : l.find? (fun e=>e.born == s) = some e:=by
 cases hf : l.find? (fun e=>e.born == s) with
 | none=>
   have:=List.find?_eq_none.1 hf e he
   simp [hb] at this
 | some e'=>
   have h1:=List.find?_some hf
   have h2:=List.mem_of_find?_eq_some hf
   rw [pair_one hp h2 he (by rw [hb]; simpa using h1)]
theorem turn_ob {ρ : Rho} {h : Heap} {w : World} (rh : RH P ρ h w) {b : Bid} {i S : Nat} (hb : ρ b = some (i,0,S)) {y : Oth} (hy : h.t.get b = .ob y) (hn : ∀ es c,y ≠ .mp es c) (hwr : (Blk.ob y).wr = true) {x' : Oth} {o' : Obj} (ho : OthR P ρ x' o') (hbig : Big x' o' S:=by intro e; cases e)
 (hitr : ∀ m since seen last,Blk.ob x' = .ob (.mi (some m) since seen last)→ItrR ρ { w with heap:=w.heap.setIfInBounds i o' } i m since seen:=by intro m s q l e; cases e) :
 RH P ρ (h.turn b (.ob x')) { w with heap:=w.heap.setIfInBounds i o' }∧Ext ρ h w ρ (h.turn b (.ob x')) { w with heap:=w.heap.setIfInBounds i o' }:=by
 have hlt:=rh.lt _ _ _ _ hb
 exact turn (w':={ w with heap:=w.heap.setIfInBounds i o' }) rh hb (by rw [hy]; exact hwr) (x:=.ob x') (o:=o') rfl rfl rfl (by simp) (by simp [hlt]) (fun k hk=>by simp [Array.getElem?_setIfInBounds,Ne.symm hk])
  (fun g n t ro e=>by cases e) (fun x e=>by cases e; exact ⟨ho,rfl⟩) (fun _ _ es e=>by rw [hy] at e; cases e; exact absurd rfl (hn _ _)) (fun x e=>by cases e; exact hbig) hitr
noncomputable def sRngM (x : V) (h : Heap) (k : V→Heap→Res) : Res:=
 mapb x h (fun b _ c=>h.newk (.ob (.mi (some b) c [] c)) fun p h'=>k (.ptr p 0) h') (h.newk (.ob (.mi none 0 [] 0)) fun p h'=>k (.ptr p 0) h')
theorem sRngM_ok {x : V} {h : Heap} {k : V→Heap→Res} {r : Res} (hh : sRngM x h k = r) (hr : r ≠ .fail) {ρ : Rho} {w : World} (rh : RH P ρ h w) {v : Value} (hv : VR ρ x v)
 {t a b : TypeId} (ht : P.underlying t = some (.map a b)) : Ok P ρ h w (Instr.range t v) k r:=by
 rcases mapb_ok hh hr rh hv with ⟨rfl,h1⟩ | ⟨bb,es,c,i,S,ces,rfl,hb,hy,h1,rfl,h3,h4⟩
 · obtain ⟨nx,h2,h3⟩:=Heap.newk_ok h1 hr
   obtain ⟨h4,h5⟩:=alloc rh h2 (x:=.ob (.mi none 0 [] 0)) (o:=.mapIter none 0 #[] 0) (S:=0) (fun g n t ro e=>by cases e) (fun x' e=>by cases e; exact ⟨trivial,rfl,rfl,rfl⟩)
   exact ⟨_,_,_,.pointer (some ⟨w.heap.size,0,none⟩),_,h3,by simp [Instr.range,run_und ht],VR.ptr_new _ _ _ _,h4,h5⟩
 · obtain ⟨nx,h2,h5⟩:=Heap.newk_ok h1 hr
   have hlt:=rh.lt _ _ _ _ hb
   obtain ⟨h6,h7⟩:=alloc rh h2 (x:=.ob (.mi (some bb) c [] c)) (o:=.mapIter (some i) c #[] c) (S:=0) (fun g n t ro e=>by cases e)
    (fun x' e=>by cases e; exact ⟨⟨S,hb⟩,rfl,rfl,rfl⟩) (hitr:=fun m since seen last e=>by
      cases e
      exact ⟨i,S,#[],c,ces,c,by simp,hb,by rw [Array.getElem?_push_lt hlt,← Array.getElem?_eq_getElem hlt]; exact h3,Nat.le_refl _,fun j k s e=>by simp at e⟩)
   exact ⟨_,_,_,.pointer (some ⟨w.heap.size,0,none⟩),_,h5,by simp [Instr.range,run_und ht,run_getObj h3],VR.ptr_new _ _ _ _,h6,h7⟩
noncomputable def nextk (p b : Bid) (since clock : Nat) (seen : List V) (h : Heap) (k : V→Heap→Res) (L : List ME) : Res:=
 allk (fun e=>ME.rec (motive:=fun _=>Res) (fun key v=>h.turnk p (.ob (.mi (some b) since (key :: seen) clock)) fun h'=>k (.tup [.bool true,key,v]) h') e) L (h.turnk p .none fun h'=>k (.tup [.bool false]) h')
noncomputable def sNxtM (x : V) (h : Heap) (k : V→Heap→Res) : Res:=
 ptrk x fun p o=>zk o (h.getk p fun y=>obk y fun y=>mik y fun m since seen last=>obk' m (fun b=>h.getk b fun z=>obk z fun z=>mpk z fun es clock=>
  ifk (Nat.beq clock since) (ifk (Nat.ble since last) (restk seen es (nextk p b since clock seen h k)) .fail) .fail) (h.turnk p .none fun h'=>k (.tup [.bool false]) h')) .fail
def OkLe (P : Program) (ρ : Rho) (h : Heap) (w : World) (s : Sem Value) (k : V→Heap→Res) (r : Res) : Prop:=
 ∃ u h' ρ' y w',Le (k u h') r∧s.run P w = .ok y w'∧VR ρ' u y∧RH P ρ' h' w'∧Ext ρ h w ρ' h' w'
theorem sNxtM_ok {x : V} {h : Heap} {k : V→Heap→Res} {r : Res} (hh : sNxtM x h k = r) (hr : r ≠ .fail) {ρ : Rho} {w : World} (rh : RH P ρ h w) {v : Value} (hv : VR ρ x v) (t : TypeId) :
 OkLe P ρ h w (Instr.next v false t) k r:=by
 obtain ⟨p,o,rfl,h1⟩:=ptrk_ok hh hr
 obtain ⟨c,z,S,hp,rfl⟩:=hv.ptr_inv
 have h0 : o = 0∧_ = r:=(zk_ok0 h1).elim id fun h2=>absurd h2.2.symm hr
 obtain ⟨rfl,h2⟩:=h0
 rw [Heap.getk_eq] at h2
 obtain ⟨y,hy,h3⟩:=obk_ok h2 hr
 obtain ⟨m,since,seen,last,rfl,h4⟩:=mik_ok h3 hr
 obtain ⟨ob,g1,g2,rfl,_⟩:=rh.ob p c z S _ hp hy
 obtain ⟨m',sn,rfl,g3,g4⟩ : ∃ m' sn,ob = .mapIter m' since sn last∧ItR ρ m m'∧sn.size = seen.length:=by
  cases ob <;> first | exact absurd g2 (fun x=>x) | exact ⟨_,_,by rw [g2.2.1,g2.2.2.2],g2.1,g2.2.2.1⟩
 have over : ∀ {q : Res},(h.turnk p .none fun h'=>k (.tup [.bool false]) h') = q→q = r→(Instr.next (.pointer (some ⟨c,0 + 0,none⟩)) false t).run P w = .ok (.tuple #[.bool false]) w →
  OkLe P ρ h w (Instr.next (.pointer (some ⟨c,0 + 0,none⟩)) false t) k r:=fun {q} e1 e2 e3=>by
  rw [Heap.turnk_eq] at e1
  obtain ⟨d1,d2⟩:=drop_block rh hp (by rw [hy]; rfl)
  exact ⟨_,_,_,_,_,.of_eq (e1.trans e2),e3,.tup (.cons (.bool _) .nil),d1,d2⟩
 cases m with
 | none=>
   obtain rfl : m' = none:=by cases m' with | none=>rfl | some _=>exact g3.elim
   refine over rfl h4 ?_
   have hget : (getObj c).run P w = .ok (.mapIter none since sn last) w:=by
    show Sem.run P (.getObj c .pure) w = _
    simp only [Sem.run,g1]
   simp only [Instr.next,Nat.add_zero,Sem.run_bind,hget,Result.andThen_ok,Sem.run_pure]
 | some b=>
   obtain ⟨i,S',rfl,hb⟩ : ∃ i S',m' = some i∧ρ b = some (i,0,S'):=by
    cases m' with
    | none=>exact g3.elim
    | some i=>obtain ⟨S',hS⟩:=g3; exact ⟨i,S',rfl,hS⟩
   have h4 : (h.getk b fun z=>obk z fun z=>mpk z fun es clock=>ifk (Nat.beq clock since) (ifk (Nat.ble since last) (restk seen es (nextk p b since clock seen h k)) .fail) .fail) = r:=h4
   rw [Heap.getk_eq] at h4
   obtain ⟨y',hy',h5⟩:=obk_ok h4 hr
   obtain ⟨es,clock,rfl,h6⟩:=mpk_ok h5 hr
   obtain ⟨k1,h7⟩:=ifk_fail h6 hr
   obtain rfl:=Nat.eq_of_beq_eq_true k1
   obtain ⟨k2,h8⟩:=ifk_fail h7 hr
   obtain ⟨L,h8,hL⟩:=restk_ok hr h8
   obtain ⟨ob',g5,g6,_⟩:=rh.ob b i 0 S' _ hb hy'
   obtain ⟨ces,rfl,g7⟩ : ∃ ces,ob' = .map ces clock∧MapR ρ es ces.toList clock:=by cases ob' <;> first | exact absurd g6 (fun x=>x) | exact ⟨_,by rw [g6.2],g6.1⟩
   obtain ⟨i2,S2,sn2,la2,ces2,clk2,q1,q2,q3,_,q4⟩:=rh.itr p c 0 S b clock seen last hp hy
   rw [g1] at q1; cases q1
   rw [hb] at q2; cases q2
   rw [g5] at q3; cases q3
   have hsc : clock ≤ last:=Nat.le_of_ble_eq_true k2
   have came : ∀ e ∈ ces.toList,∀ m ∈ es,KeyR m.key e.key→(e.born ∈ sn.toList ↔ m.key ∈ seen):=fun e he m hm hk=>by
    constructor
    · intro hb
      obtain ⟨j,hj⟩:=List.getElem?_of_mem (List.mem_reverse.2 hb)
      have hj2 : j < seen.length:=by have:=(List.getElem?_eq_some_iff.1 hj).1; simp at this; omega
      have:=(q4 j seen[j] e.born (List.getElem?_eq_getElem hj2) hj e he (g7.old e he)).1 rfl
      rw [hk.inj this]; exact List.getElem_mem _
    · intro hb
      obtain ⟨j,hj⟩:=List.getElem?_of_mem hb
      have hj2 : j < sn.toList.reverse.length:=by have:=(List.getElem?_eq_some_iff.1 hj).1; simp; omega
      have:=(q4 j m.key _ hj (List.getElem?_eq_getElem hj2) e he (g7.old e he)).2 hk
      rw [this]; exact List.mem_reverse.1 (List.getElem_mem _)
   have hmem : ∀ e ∈ (leftOf ces sn).toList,∃ m ∈ L,KeyR m.key e.key∧VR ρ m.val e.val:=fun e he=>by
    simp only [leftOf,Array.toList_filter,List.mem_filter] at he
    obtain ⟨m,m1,m2,m3⟩:=g7.mem he.1
    refine ⟨m,(hL m).2 ⟨m1,fun hs=>?_⟩,m2,m3⟩
    have:=(came e he.1 m m1 m2).2 hs
    have h2:=he.2
    simp at h2
    exact h2 (by simpa using this)
   rcases run_next_at (P:=P) w t c i clock last sn ces clock g1 g5 (fun x hx=>g7.old x hx) hsc with ⟨e0,hrun⟩ | ⟨e,he,w1,hw1,hrun⟩
   · rcases allk_le (f:=fun e=>ME.rec (motive:=fun _=>Res) (fun key v=>h.turnk p (.ob (.mi (some b) clock (key :: seen) clock)) fun h'=>k (.tup [.bool true,key,v]) h') e) (l:=L) (z:=h.turnk p .none fun h'=>k (.tup [.bool false]) h') with ⟨_,h9⟩ | ⟨hne,_⟩
     · exact over rfl (h9.symm.trans h8) hrun
     · obtain ⟨m,hm⟩:=List.exists_mem_of_ne_nil _ hne
       obtain ⟨m1,m2⟩:=(hL m).1 hm
       obtain ⟨e,e1,e2,_⟩:=g7.mem' m1
       have : e ∈ (leftOf ces sn).toList:=by
        simp only [leftOf,Array.toList_filter,List.mem_filter]
        refine ⟨e1,?_⟩
        have:=mt (came e e1 m m1 e2).1 m2
        simpa using this
       have : 0 < (leftOf ces sn).toList.length:=List.length_pos_of_mem this
       simp at this; omega
   · obtain ⟨m,m1,m2,m3⟩:=hmem e he
     have hece : e ∈ ces.toList:=by simp only [leftOf,Array.toList_filter,List.mem_filter] at he; exact he.1
     rcases allk_le (f:=fun e=>ME.rec (motive:=fun _=>Res) (fun key v=>h.turnk p (.ob (.mi (some b) clock (key :: seen) clock)) fun h'=>k (.tup [.bool true,key,v]) h') e) (l:=L) (z:=h.turnk p .none fun h'=>k (.tup [.bool false]) h') with ⟨h9,_⟩ | ⟨_,h9⟩
     · rw [h9] at m1; cases m1
     · have h10:=(h9 m m1).trans (.of_eq h8)
       obtain ⟨mk,mv⟩:=m
       have h10 : Le (h.turnk p (.ob (.mi (some b) clock (mk :: seen) clock)) fun h'=>k (.tup [.bool true,mk,mv]) h') r:=h10
       rw [Heap.turnk_eq] at h10
       have rh1 : RH P ρ h w1:=hw1.elim (fun e=>e ▸ rh) (fun e=>e ▸ rh.drew _)
       have x1 : Ext ρ h w ρ h w1:=hw1.elim (fun e=>e ▸ .refl _ _ _) (fun e=>e ▸ Ext.drew _ _ _ _)
       have hh1 : w1.heap = w.heap:=hw1.elim (fun e=>by rw [e]) (fun e=>by rw [e]; rfl)
       have hic : i ≠ c:=by rintro rfl; rw [g1] at g5; cases g5
       have hclt:=rh.lt _ _ _ _ hp
       obtain ⟨d1,d2⟩:=turn_ob rh1 hp hy (fun _ _ e=>by cases e) rfl (x':=.mi (some b) clock (mk :: seen) clock) (o':=.mapIter (some i) clock (sn.push e.born) clock) ⟨⟨S',hb⟩,rfl,by simp [g4],rfl⟩ (hitr:=fun m' since' seen' last' ee=>by
        cases ee
        refine ⟨i,S',sn.push e.born,clock,ces,clock,by rw [hh1]; simp [hclt],hb,by rw [hh1,Array.getElem?_setIfInBounds,if_neg (Ne.symm hic)]; exact g5,Nat.le_refl _,fun j kk s a1 a2 e' he' hb'=>?_⟩
        simp only [Array.toList_push,List.reverse_append,List.reverse_cons,List.reverse_nil,List.nil_append,List.singleton_append] at a2
        cases j with
        | zero=>
          simp only [List.getElem?_cons_zero,Option.some.injEq] at a1 a2
          subst a1; subst a2
          constructor
          · intro hbb
            have : e' = e:=by
             have hp:=g7.born
             exact pair_one hp he' hece hbb
            rw [this]; exact m2
          · intro hk
            obtain ⟨l,pp,hl⟩:=g7.perm
            rw [MapL.uniq hl g7.keys (pp.mem_iff.2 he') (pp.mem_iff.2 hece) (hk.one m2)]
        | succ j=>
          simp only [List.getElem?_cons_succ] at a1 a2
          exact q4 j kk s a1 a2 e' he' hb')
       exact ⟨_,_,_,_,_,h10,hrun,.tup (.cons (.bool _) (.cons (m2.vr _) (.cons m3 .nil))),d1,x1.trans d2⟩
noncomputable def findm (s : V) (es : List ME) (k : V→V→Res) : Res:=List.rec (motive:=fun _=>Res) .fail (fun e _ ih=>ME.rec (motive:=fun _=>Res) (fun key v=>eqkk s key fun t=>ifk t (k key v) ih) e) es
theorem findm_ok {s : V} {k : V→V→Res} {r : Res} (hr : r ≠ .fail) : ∀ {es : List ME},findm s es k = r→∃ m ∈ es,m.key = s∧k m.key m.val = r
 | [],h=>absurd h.symm hr
 | ⟨key,v⟩ :: es,h=>by
   obtain ⟨t,h1,h2⟩:=eqkk_ok (show eqkk s key (fun t=>ifk t (k key v) (findm s es k)) = r from h) hr
   rcases ifk_ne h1 with ⟨rfl,h6⟩ | ⟨rfl,h6⟩
   · exact ⟨⟨key,v⟩,List.mem_cons_self,h2.1 rfl,h6⟩
   · obtain ⟨m,h7,h8⟩:=findm_ok hr h6
     exact ⟨m,List.mem_cons_of_mem _ h7,h8⟩
noncomputable def sEntM (x : V) (h : Heap) (k : V→Heap→Res) : Res:=
 ptrk x fun p o=>zk o (h.getk p fun y=>obk y fun y=>mik y fun m since seen last=>obk' m (fun b=>h.getk b fun z=>obk z fun z=>mpk z fun es clock=>
  ifk (Nat.beq clock last) (ifk (Nat.beq clock since) (List.rec (motive:=fun _=>Res) .fail (fun s _ _=>findm s es fun key v=>k (.tup [key,v]) h) seen) .fail) .fail) .fail) .fail
theorem sEntM_ok {x : V} {h : Heap} {k : V→Heap→Res} {r : Res} (hh : sEntM x h k = r) (hr : r ≠ .fail) {ρ : Rho} {w : World} (rh : RH P ρ h w) {v : Value} (hv : VR ρ x v) : OkP P ρ h w (Instr.entry v) k r:=by
 obtain ⟨p,o,rfl,h1⟩:=ptrk_ok hh hr
 obtain ⟨c,z,S,hp,rfl⟩:=hv.ptr_inv
 have h0 : o = 0∧_ = r:=(zk_ok0 h1).elim id fun h2=>absurd h2.2.symm hr
 obtain ⟨rfl,h2⟩:=h0
 rw [Heap.getk_eq] at h2
 obtain ⟨y,hy,h3⟩:=obk_ok h2 hr
 obtain ⟨m,since,seen,last,rfl,h4⟩:=mik_ok h3 hr
 obtain ⟨ob,g1,g2,rfl,_⟩:=rh.ob p c z S _ hp hy
 obtain ⟨m',sn,rfl,g3,g4⟩ : ∃ m' sn,ob = .mapIter m' since sn last∧ItR ρ m m'∧sn.size = seen.length:=by
  cases ob <;> first | exact absurd g2 (fun x=>x) | exact ⟨_,_,by rw [g2.2.1,g2.2.2.2],g2.1,g2.2.2.1⟩
 cases m with
 | none=>exact absurd h4.symm hr
 | some b=>
   obtain ⟨i,S',rfl,hb⟩ : ∃ i S',m' = some i∧ρ b = some (i,0,S'):=by
    cases m' with
    | none=>exact g3.elim
    | some i=>obtain ⟨S',hS⟩:=g3; exact ⟨i,S',rfl,hS⟩
   have h4 : (h.getk b fun z=>obk z fun z=>mpk z fun es clock=>ifk (Nat.beq clock last) (ifk (Nat.beq clock since) (List.rec (motive:=fun _=>Res) .fail (fun s _ _=>findm s es fun key v=>k (.tup [key,v]) h) seen) .fail) .fail) = r:=h4
   rw [Heap.getk_eq] at h4
   obtain ⟨y',hy',h5⟩:=obk_ok h4 hr
   obtain ⟨es,clock,rfl,h6⟩:=mpk_ok h5 hr
   obtain ⟨k1,h7⟩:=ifk_fail h6 hr
   obtain rfl:=Nat.eq_of_beq_eq_true k1
   obtain ⟨k2,h8⟩:=ifk_fail h7 hr
   clear h7
   obtain rfl:=Nat.eq_of_beq_eq_true k2
   obtain ⟨ob',g5,g6,_⟩:=rh.ob b i 0 S' _ hb hy'
   obtain ⟨ces,rfl,g7⟩ : ∃ ces,ob' = .map ces clock∧MapR ρ es ces.toList clock:=by cases ob' <;> first | exact absurd g6 (fun x=>x) | exact ⟨_,by rw [g6.2],g6.1⟩
   obtain ⟨i2,S2,sn2,la2,ces2,clk2,q1,q2,q3,_,q4⟩:=rh.itr p c 0 S b clock seen clock hp hy
   rw [g1] at q1; cases q1
   rw [hb] at q2; cases q2
   rw [g5] at q3; cases q3
   cases seen with
   | nil=>exact absurd h8.symm hr
   | cons s rest=>
     obtain ⟨m,hm,hk,f4⟩:=findm_ok hr (show findm s es (fun key v=>k (.tup [key,v]) h) = r from h8)
     obtain ⟨e,he,k3,k4⟩:=g7.mem' hm
     obtain ⟨st,hst⟩ : ∃ st,sn.toList.reverse[0]? = some st:=⟨_,List.getElem?_eq_getElem (by simp; simp at g4; omega)⟩
     have hb2:=(q4 0 s st rfl hst e he (g7.old e he)).2 (hk ▸ k3)
     have hback : sn.back? = some st:=by
      rw [← Array.getLast?_toList,← List.head?_reverse,List.head?_eq_getElem?]; exact hst
     have hfind : ces.find? (fun e=>e.born == st) = some e:=by
      rw [← Array.find?_toList]
      exact find_born g7.born he hb2
     refine ⟨_,_,f4,?_,.tup (.cons (k3.vr _) (.cons k4 .nil))⟩
     have hget : (getObj c).run P w = .ok (.mapIter (some i) clock sn clock) w:=by
      show Sem.run P (.getObj c .pure) w = _
      simp only [Sem.run,g1]
     simp only [Instr.entry,Nat.add_zero,Sem.run_bind,hget,Result.andThen_ok,hback,run_getObj g5,bne_self_eq_false,Bool.false_eq_true,if_false,hfind,Sem.run_pure]
noncomputable def sCloneM (x : V) (h : Heap) (k : V→Heap→Res) : Res:=
 ifk2 x (fun t v=>mapb v h (fun _ es c=>h.newk (.ob (.mp es c)) fun b h'=>k (.iface t (.map b)) h') .fail) .fail
theorem sCloneM_ok {x : V} {h : Heap} {k : V→Heap→Res} {r : Res} (hh : sCloneM x h k = r) (hr : r ≠ .fail) {ρ : Rho} {w : World} (rh : RH P ρ h w) {v : Value} (hv : VR ρ x v)
 {g : Nat} (hg : extF P g "maps.clone" = true) : ∃ u h' ρ' y w',k u h' = r∧(callFunc g #[v]).run P w = .ok (.value y) w'∧VR ρ' u y∧RH P ρ' h' w'∧Ext ρ h w ρ' h' w':=by
 obtain ⟨fn,h1,h2,h3,h4⟩:=extF_ok hg
 rcases ifk2_ok hh hr with ⟨t,u,rfl,h5⟩ | ⟨_,h5⟩
 · cases hv with
   | iface hu=>
     rename_i y
     rcases mapb_ok h5 hr rh hu with ⟨_,h6⟩ | ⟨b,es,c,i,S,ces,rfl,hb,hy,h6,rfl,h7,h8⟩
     · exact absurd h6.symm hr
     · obtain ⟨nx,h9,h10⟩:=Heap.newk_ok h6 hr
       obtain ⟨d1,d2⟩:=alloc rh h9 (x:=.ob (.mp es c)) (o:=.map ces c) (S:=0) (fun g n t ro e=>by cases e) (fun x' e=>by cases e; exact ⟨h8,rfl⟩)
       refine ⟨_,_,_,.iface t (.map (some w.heap.size)),_,h10,?_,.iface (.map (Rho.put_same ρ h.nx _)),d1,d2⟩
       rw [run_callFunc_standIn h1 (by rw [h3]; decide) h2 (findNext_of h3 h4 (by kernel_rfl) next_none) (e:=Extern.MapsClone.clone) (find_of h3 (by kernel_rfl) (by kernel_rfl) (by kernel_rfl))]
       have e : Extern.MapsClone.clone #[.iface t (.map (some i))] = (getObj i >>= fun o=>match o with
        | .map entries clock=>(newObj (.map entries clock) >>= fun n=>pure (.iface t (.map (some n))))
        | _=>stuck "maps.clone: a map expected"):=rfl
       rw [e,Sem.run_bind,run_getObj h7]
       simp [Result.andThen]
 · exact absurd h5.symm hr
noncomputable def sCapS (x : V) (h : Heap) (k : V→Heap→Res) : Res:=slk x (fun _ _ _ c _=>optk c (fun n=>k (.int .i64 (.ofNat n)) h) .fail) (k (.int .i64 (.ofNat 0)) h) .fail
theorem sCapS_ok {x : V} {h : Heap} {k : V→Heap→Res} {r : Res} (hh : sCapS x h k = r) (hr : r ≠ .fail) {ρ : Rho} {w : World} {v : Value} (hv : VR ρ x v) {t e u : TypeId} {more : Array TypeId} (ht : more[0]? = some t)
 (hu : P.underlying t = some (.slice e)) : OkP P ρ h w (Builtin.cap_ more u #[v]) k r:=by
 rcases slk_ok hh hr with ⟨b,o,l,cp,s,rfl,h1⟩ | ⟨rfl,h1⟩ | ⟨rfl,h1⟩
 · obtain ⟨c,z,S,cap,hb,hc,_,_,rfl⟩:=hv.slice_inv
   cases cp with
   | none=>exact absurd h1.symm hr
   | some n=>
     obtain rfl:=hc n rfl
     exact ⟨_,.int .i64 cap,h1,by simp [Builtin.cap_,ht,run_und hu,goInt],.int _ _⟩
 · rw [hv.nils_inv]
   exact ⟨_,.int .i64 0,h1,by simp [Builtin.cap_,ht,run_und hu,goInt],.int _ _⟩
 · exact absurd h1.symm hr
noncomputable def sIdxAN (n sz : Nat) (x i : V) (h : Heap) (k : V→Heap→Res) : Res:=
 aggk x fun _ l=>intk i fun _ j=>natk j fun m=>ifk (Nat.blt m n) (takek (Nat.mul m sz) l fun _ rest=>takek sz rest fun p _=>k (.agg sz p) h) .fail
theorem sIdxAN_ok {n s0 : Nat} {x i : V} {h : Heap} {k : V→Heap→Res} {r : Res} (hh : sIdxAN n s0 x i h k = r) (hr : r ≠ .fail) {ρ : Rho} {w : World} {v iv : Value}
 (hv : VR ρ x v) (hi : VR ρ i iv) {t e : TypeId} (ht : P.underlying t = some (.array n e)) (hs : sz P e = some s0) (he : aggr P e = true) : OkP P ρ h w (Instr.index t v iv) k r:=by
 obtain ⟨m0,l,rfl,h1⟩:=aggk_ok hh hr
 obtain ⟨kd,j,rfl,h2⟩:=intk_ok h1 hr
 obtain ⟨m,rfl,h3⟩:=natk_ok h2 hr
 obtain ⟨hlt,h4⟩:=ifk_fail h3 hr
 have hlt : m < n:=by simpa [Nat.blt_eq] using hlt
 obtain ⟨h5,h6⟩:=takek_ok h4 hr
 obtain ⟨h7,h8⟩:=takek_ok h6 hr
 obtain ⟨cs,rfl,g1,g2,g3⟩:=hv.agg_inv
 rw [hi.int_inv]
 refine ⟨_,.agg (cs.extract (m * s0) (m * s0 + s0)),h8,?_,.agg (g1.part (m * s0) s0) (fun y hy=>?_) ?_⟩
 · have hb1 : (0 : Int) ≤ (m : Int)∧(m : Int) < (n : Int):=⟨by omega,by omega⟩
   simp only [Instr.index,asIntOf,Sem.run_bind,Sem.run_pure,Result.andThen_ok,run_und ht]
   rw [if_pos hb1]
   simp only [Sem.run_bind,run_size hs,Result.andThen_ok,Int.toNat_natCast]
   exact run_partN he hs
 · rw [extract_list] at hy
   exact g2 y (List.mem_of_mem_drop (List.mem_of_mem_take hy))
 · simp only [List.length_take]; omega
noncomputable def sS2B (x : V) (h : Heap) (k : V→Heap→Res) : Res:=strk x fun l n=>bytesk l n fun cs=>freshk 1 l cs h k
theorem freeze_new {w : World} {cs : Array Value} {e : TypeId} : ({ w with heap:=w.heap.push (.cells cs e) } : World).freeze ⟨w.heap.size,cs.size,none⟩ 1 = { w with heap:=w.heap.push (.cells cs e (cs.size,cs.size + 1)) }:=by
 simp only [World.freeze]
 rw [if_neg (by decide)]
 congr 1
 apply Array.ext_getElem?
 intro i
 rw [Array.getElem?_modify]
 by_cases hi : w.heap.size = i
 · subst hi
   rw [if_pos rfl]
   simp
 · rw [if_neg hi,Array.getElem?_push,Array.getElem?_push,if_neg (fun h=>hi h.symm),if_neg (fun h=>hi h.symm)]
theorem sS2B_ok {x : V} {h : Heap} {k : V→Heap→Res} {r : Res} (hh : sS2B x h k = r) (hr : r ≠ .fail) {ρ : Rho} {w : World} (rh : RH P ρ h w) {v : Value} (hv : VR ρ x v)
 {s d e : TypeId} (hs : P.underlying s = some .string) (hd : P.underlying d = some (.slice e)) (he : P.underlying e = some (.int .u8)) : Ok P ρ h w (convert s d v) k r:=by
 obtain ⟨l,n,rfl,h1⟩:=strk_ok hh hr
 obtain ⟨s',rfl,e1,_⟩:=hv.str_inv
 obtain ⟨m,h2,h3,h4⟩:=bytesk_ok (ρ:=ρ) h1
 have hsz:=str_size e1
 obtain ⟨t,h5,h6,h7⟩:=rowk_ok h2 hr
 obtain ⟨nx,h8,h9⟩:=Heap.newk_ok h5 hr
 obtain ⟨cap,hcap,hch⟩ : ∃ cap,s'.size ≤ cap∧(choose (.appendCap s'.size 0 e)).run P w = .ok cap { w with drawn:=w.drawn + 1 }:=
  ⟨(Question.appendCap s'.size 0 e).cut (w.tape w.drawn (.appendCap s'.size 0 e)),by simp [Question.cut],by simp [run_choose,Question.forced]⟩
 let cs : Array Value:=(s'.data.map fun b=>Value.int .u8 b.toNat) ++ Array.replicate (cap - s'.size) (.int .u8 0)
 have hcs : cs.size = cap:=by simp only [cs,Array.size_append,Array.size_map,Array.size_replicate]; have : s'.data.size = s'.size:=rfl; omega
 have htl : cs.toList = (s'.data.toList.map fun b=>Value.int .u8 b.toNat) ++ List.replicate (cap - s'.size) (.int .u8 0):=by simp [cs]
 have hone : ∀ y ∈ cs.toList,y.oneCell' = true:=by
  intro y hy
  rw [htl] at hy
  rcases List.mem_append.1 hy with hy | hy
  · obtain ⟨b,_,rfl⟩:=List.mem_map.1 hy; rfl
  · rw [(List.mem_replicate.1 hy).2]; rfl
 have hvr : VRs ρ m (cs.toList.take m.length):=by
  rw [htl,List.take_append_of_le_length (by rw [List.length_map,e1,dig_length]; omega),List.take_of_length_le (by rw [List.length_map,e1,dig_length]; omega),e1]
  exact h4
 obtain ⟨h10,h11⟩:=new_cells (rh.drew (w.drawn + 1)) h8 (g:=1) (by omega) hvr hone h6 h7 e (fz:=(cs.size,cs.size + 1)) (.inr ⟨Nat.le_refl _,rfl⟩) (by omega)
 refine ⟨_,_,_,.slice (some ⟨w.heap.size,0,none⟩) l cap,_,h9,?_,?_,h10,(Ext.drew ρ h w (w.drawn + 1)).trans h11⟩
 · have hm:=run_mark (P:=P) (zo:=0) (c:=w.heap.size) (cs:=cs) (el:=e) (fz:=(0,0)) (w:={ { w with drawn:=w.drawn + 1 } with heap:=w.heap.push (.cells cs e) }) (by simp)
   rw [freeze_new (w:={ w with drawn:=w.drawn + 1 })] at hm
   simp only [convert,Sem.run_bind,run_und hs,run_und hd,Result.andThen_ok,run_und he,Conv.stringToBytes,hch,newRow,run_newObj,Sem.run_pure]
   exact (congrArg (fun x=>Result.andThen x _) hm).trans (by rw [Result.andThen_ok]; simp [Sem.run_pure,hsz])
 · have:=VR.slice (o:=0) (l:=l) (cp:=none) (s:=1) (cap:=cap) (Rho.put_same ρ h.nx (w.heap.size,0,cs.size)) (fun m e=>by cases e) (fun _=>by omega) (by omega)
   simpa using this
end Go.Ev
