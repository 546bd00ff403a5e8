/- EvEq: texts joined. -/
import Derived.Test.YtobbabhldblljaaGreatDoorEvVal
import Derived.Laws.Strings
/- EVALUATOR, 6: numbers, bools and strings, as the kernel reckons with them and as the model does. -/
namespace Go.Ev
variable {P : Program}
noncomputable def kno (k : IntKind) : Nat:=IntKind.rec (motive:=fun _=>Nat) 0 1 2 3 4 5 6 7 k
theorem kno_inj {a b : IntKind} (h : Nat.beq (kno a) (kno b) = true) : a = b:=by cases a <;> cases b <;> first | rfl | exact absurd h (by decide)
noncomputable def kmax (k : IntKind) : Nat:=IntKind.rec (motive:=fun _=>Nat) 127 32767 2147483647 9223372036854775807 255 65535 4294967295 18446744073709551615 k
noncomputable def kmin (k : IntKind) : Nat:=IntKind.rec (motive:=fun _=>Nat) 128 32768 2147483648 9223372036854775808 0 0 0 0 k
noncomputable def wrapv (k : IntKind) (n : Int) : Int:=
 Int.rec (motive:=fun _=>Int) (fun m=>Bool.rec (motive:=fun _=>Int) (k.wrap (.ofNat m)) (.ofNat m) (Nat.ble m (kmax k)))
  (fun m=>Bool.rec (motive:=fun _=>Int) (k.wrap (.negSucc m)) (.negSucc m) (Nat.blt m (kmin k))) n
noncomputable def wrapk (k : IntKind) (n : Int) (c : Int→Res) : Res:=c (wrapv k n)
theorem wrap_small (k : IntKind) (n : Int) (h1 : -(kmin k : Int) ≤ n) (h2 : n ≤ kmax k) : k.wrap n = n:=by
 unfold IntKind.wrap
 cases k <;> simp only [kmin,kmax] at h1 h2 <;> simp [IntKind.bits,IntKind.signed] <;> omega
theorem wrapv_eq (k : IntKind) (n : Int) : wrapv k n = k.wrap n:=by
 cases n with
 | ofNat m=>
   show Bool.rec (motive:=fun _=>Int) (k.wrap (.ofNat m)) (.ofNat m) (Nat.ble m (kmax k)) = _
   cases h : Nat.ble m (kmax k) with
   | false=>rfl
   | true=>
     have:=Nat.le_of_ble_eq_true h
     exact (wrap_small k (.ofNat m) (by simp only [Int.ofNat_eq_natCast]; omega) (by simp only [Int.ofNat_eq_natCast]; omega)).symm
 | negSucc m=>
   show Bool.rec (motive:=fun _=>Int) (k.wrap (.negSucc m)) (.negSucc m) (Nat.blt m (kmin k)) = _
   cases h : Nat.blt m (kmin k) with
   | false=>rfl
   | true=>
     have : m < kmin k:=Nat.le_of_ble_eq_true h
     exact (wrap_small k (.negSucc m) (by omega) (by omega)).symm
theorem wrapk_eq (k : IntKind) (n : Int) (c : Int→Res) : wrapk k n c = c (k.wrap n):=by rw [wrapk,wrapv_eq]
noncomputable def ieq (a b : Int) : Bool:=
 Int.rec (motive:=fun _=>Bool) (fun m=>Int.rec (motive:=fun _=>Bool) (fun n=>Nat.beq m n) (fun _=>false) b) (fun m=>Int.rec (motive:=fun _=>Bool) (fun _=>false) (fun n=>Nat.beq m n) b) a
theorem ieq_eq (a b : Int) : ieq a b = (a == b):=by
 cases a with
 | ofNat m=>cases b with
   | ofNat n=>show Nat.beq m n = _; rw [Bool.eq_iff_iff]; simp only [Nat.beq_eq,beq_iff_eq,Int.ofNat_eq_natCast]; omega
   | negSucc n=>show false = _; simp
 | negSucc m=>cases b with
   | ofNat n=>show false = _; simp
   | negSucc n=>show Nat.beq m n = _; rw [Bool.eq_iff_iff]; simp [Nat.beq_eq]
noncomputable def ilt (a b : Int) : Bool:=
 Int.rec (motive:=fun _=>Bool) (fun m=>Int.rec (motive:=fun _=>Bool) (fun n=>Nat.blt m n) (fun _=>false) b) (fun m=>Int.rec (motive:=fun _=>Bool) (fun _=>true) (fun n=>Nat.blt n m) b) a
theorem ilt_eq (a b : Int) : ilt a b = decide (a < b):=by
 cases a with
 | ofNat m=>cases b with
   | ofNat n=>show Nat.blt m n = _; rw [Bool.eq_iff_iff]; simp only [Nat.blt_eq,decide_eq_true_eq,Int.ofNat_eq_natCast]; omega
   | negSucc n=>show false = _; symm; simp; omega
 | negSucc m=>cases b with
   | ofNat n=>show true = _; symm; simp; omega
   | negSucc n=>show Nat.blt n m = _; rw [Bool.eq_iff_iff]; simp only [Nat.blt_eq,decide_eq_true_eq]; omega
noncomputable def bk (b : Bool) (k : V→Res) : Res:=k (.bool b)
theorem bk_eq (b : Bool) (k : V→Res) : bk b k = k (.bool b):=rfl
noncomputable def bitv (f : Nat→Nat→Nat) (g : (n : Nat)→BitVec n→BitVec n→BitVec n) (kx : IntKind) (a b : Int) : Int:=
 Int.rec (motive:=fun _=>Int) (fun m=>Int.rec (motive:=fun _=>Int)
  (fun n=>Bool.rec (motive:=fun _=>Int) (kx.wrap (g kx.bits (BitVec.ofInt kx.bits (.ofNat m)) (BitVec.ofInt kx.bits (.ofNat n))).toNat)
    (Bool.rec (motive:=fun _=>Int) (kx.wrap (g kx.bits (BitVec.ofInt kx.bits (.ofNat m)) (BitVec.ofInt kx.bits (.ofNat n))).toNat) (.ofNat (f m n)) (Nat.ble n (kmax kx))) (Nat.ble m (kmax kx)))
  (fun n=>kx.wrap (g kx.bits (BitVec.ofInt kx.bits (.ofNat m)) (BitVec.ofInt kx.bits (.negSucc n))).toNat) b)
  (fun m=>kx.wrap (g kx.bits (BitVec.ofInt kx.bits (.negSucc m)) (BitVec.ofInt kx.bits b)).toNat) a
theorem kmax_lt (k : IntKind) : kmax k < 2 ^ k.bits∧(kmax k + 1 = 2 ^ k.bits ∨ kmax k + 1 = 2 ^ (k.bits - 1)):=by cases k <;> simp only [kmax,IntKind.bits] <;> decide
theorem ofInt_toNat {n m : Nat} (h : m < 2 ^ n) : (BitVec.ofInt n (.ofNat m)).toNat = m:=by
 simp only [BitVec.toNat_ofInt,Int.ofNat_eq_natCast]
 have : ((m : Int) % ((2 ^ n : Nat) : Int)) = m:=Int.emod_eq_of_lt (by omega) (by exact_mod_cast h)
 rw [this]; simp
theorem bitv_eq {f : Nat→Nat→Nat} {g : (n : Nat)→BitVec n→BitVec n→BitVec n} (hfg : ∀ n (x y : BitVec n),(g n x y).toNat = f x.toNat y.toNat)
 (hf : ∀ m n M,m < 2 ^ M→n < 2 ^ M→f m n < 2 ^ M) (kx : IntKind) (a b : Int) : bitv f g kx a b = kx.wrap (g kx.bits (BitVec.ofInt kx.bits a) (BitVec.ofInt kx.bits b)).toNat:=by
 cases a with
 | ofNat m=>cases b with
   | ofNat n=>
     show Bool.rec (motive:=fun _=>Int) _ (Bool.rec (motive:=fun _=>Int) _ (.ofNat (f m n)) (Nat.ble n (kmax kx))) (Nat.ble m (kmax kx)) = _
     cases h1 : Nat.ble m (kmax kx) with
     | false=>rfl
     | true=>
       cases h2 : Nat.ble n (kmax kx) with
       | false=>rfl
       | true=>
         have h1:=Nat.le_of_ble_eq_true h1
         have h2:=Nat.le_of_ble_eq_true h2
         obtain ⟨h3,h4⟩:=kmax_lt kx
         show Int.ofNat (f m n) = _
         rw [hfg,ofInt_toNat (by omega),ofInt_toNat (by omega)]
         have h5 : f m n ≤ kmax kx:=by
          rcases h4 with h4 | h4
          · have:=hf m n kx.bits (by omega) (by omega); omega
          · have:=hf m n (kx.bits - 1) (by omega) (by omega); omega
         exact (wrap_small kx _ (by simp only [Int.ofNat_eq_natCast]; omega) (by simp only [Int.ofNat_eq_natCast]; omega)).symm
   | negSucc n=>rfl
 | negSucc m=>rfl
noncomputable def band (k : IntKind) (a b : Int) : Int:=bitv Nat.land (fun _ x y=>x &&& y) k a b
noncomputable def bor (k : IntKind) (a b : Int) : Int:=bitv Nat.lor (fun _ x y=>x ||| y) k a b
noncomputable def bxor (k : IntKind) (a b : Int) : Int:=bitv Nat.xor (fun _ x y=>x ^^^ y) k a b
noncomputable def bano (k : IntKind) (a b : Int) : Int:=bitv (fun m n=>Nat.xor m (Nat.land m n)) (fun _ x y=>x &&& ~~~y) k a b
theorem and_lt (m n M : Nat) (h : m < 2 ^ M) (_ : n < 2 ^ M) : Nat.land m n < 2 ^ M:=Nat.lt_of_le_of_lt Nat.and_le_left h
theorem or_lt (m n M : Nat) (h : m < 2 ^ M) (h' : n < 2 ^ M) : Nat.lor m n < 2 ^ M:=Nat.or_lt_two_pow h h'
theorem xor_lt (m n M : Nat) (h : m < 2 ^ M) (h' : n < 2 ^ M) : Nat.xor m n < 2 ^ M:=Nat.xor_lt_two_pow h h'
theorem ano_lt (m n M : Nat) (h : m < 2 ^ M) (h' : n < 2 ^ M) : Nat.xor m (Nat.land m n) < 2 ^ M:=xor_lt _ _ _ h (and_lt m n M h h')
theorem ano_nat (n : Nat) (x y : BitVec n) : (x &&& ~~~y).toNat = Nat.xor x.toNat (Nat.land x.toNat y.toNat):=by
 have : x &&& ~~~y = x ^^^ (x &&& y):=by
  apply BitVec.eq_of_getLsbD_eq
  intro i hi
  simp [hi]
  cases x[i] <;> cases y[i] <;> rfl
 rw [this,BitVec.toNat_xor,BitVec.toNat_and]; rfl
noncomputable def arith (f : Int→Int→Int) (x y : V) (k : V→Res) : Res:=
 intk x fun kx a=>intk y fun ky b=>ifk (Nat.beq (kno kx) (kno ky)) (wrapk kx (f a b) fun n=>k (.int kx n)) .fail
noncomputable def cmpi (f : Int→Int→Bool) (x y : V) (k : V→Res) : Res:=
 intk x fun kx a=>intk y fun ky b=>ifk (Nat.beq (kno kx) (kno ky)) (bk (f a b) k) .fail
noncomputable def bits2 (f : IntKind→Int→Int→Int) (x y : V) (k : V→Res) : Res:=
 intk x fun kx a=>intk y fun ky b=>ifk (Nat.beq (kno kx) (kno ky)) (k (.int kx (f kx a b))) .fail
noncomputable def divk (f : Int→Int→Int) (x y : V) (k : V→Res) : Res:=
 intk x fun kx a=>intk y fun ky b=>ifk (Nat.beq (kno kx) (kno ky)) (ifk (ieq b 0) .fail (k (.int kx (f a b)))) .fail
noncomputable def quok (x y : V) (k : V→Res) : Res:=
 intk x fun kx a=>intk y fun ky b=>ifk (Nat.beq (kno kx) (kno ky)) (ifk (ieq b 0) .fail (wrapk kx (Int.tdiv a b) fun n=>k (.int kx n))) .fail
noncomputable def shrv (a : Int) (d : Nat) : Int:=Int.rec (motive:=fun _=>Int) (fun m=>.ofNat (Nat.div m d)) (fun m=>Int.fdiv (.negSucc m) (.ofNat d)) a
theorem shrv_eq (a : Int) (d : Nat) : shrv a d = Int.fdiv a (.ofNat d):=by
 cases a with
 | ofNat m=>
   show Int.ofNat (m / d) = _
   rw [Int.fdiv_eq_ediv_of_nonneg _ (by simp)]
   rfl
 | negSucc m=>rfl
noncomputable def natk (i : Int) (k : Nat→Res) : Res:=Int.rec (motive:=fun _=>Res) (fun m=>k m) (fun _=>.fail) i
theorem natk_ok {i : Int} {k : Nat→Res} {r : Res} (h : natk i k = r) (hr : r ≠ .fail) : ∃ m : Nat,i = m∧k m = r:=by
 cases i with
 | ofNat m=>exact ⟨m,rfl,h⟩
 | negSucc m=>exact absurd (show Res.fail = r from h).symm hr
noncomputable def shlk (x y : V) (k : V→Res) : Res:=
 intk x fun kx a=>intk y fun _ b=>natk b fun m=>wrapk kx (Int.mul a (.ofNat (Nat.pow 2 (Nat.min m kx.bits)))) fun n=>k (.int kx n)
noncomputable def shrk (x y : V) (k : V→Res) : Res:=
 intk x fun kx a=>intk y fun _ b=>natk b fun m=>k (.int kx (shrv a (Nat.pow 2 (Nat.min m kx.bits))))
noncomputable def binI (o : BinOp) : V→V→(V→Res)→Res:=
 BinOp.rec (motive:=fun _=>V→V→(V→Res)→Res)
  (arith Int.add) (arith Int.sub) (arith Int.mul) quok (divk Int.tmod) (bits2 band) (bits2 bor) (bits2 bxor)
  shlk shrk (bits2 bano)
  (cmpi ieq) (cmpi fun a b=>not (ieq a b)) (cmpi ilt) (cmpi fun a b=>not (ilt b a)) (cmpi fun a b=>ilt b a) (cmpi fun a b=>not (ilt a b)) o
theorem int2_ok {G : IntKind→Int→Int→Res} {x y : V} {r : Res} (h : (intk x fun kx a=>intk y fun ky b=>ifk (Nat.beq (kno kx) (kno ky)) (G kx a b) .fail) = r) (hr : r ≠ .fail) :
 ∃ kx p q,x = .int kx p∧y = .int kx q∧G kx p q = r:=by
 obtain ⟨kx,p,e1,h1⟩:=intk_ok h hr
 obtain ⟨ky,q,e2,h2⟩:=intk_ok h1 hr
 obtain ⟨hk,h3⟩:=ifk_fail h2 hr
 obtain rfl:=kno_inj hk
 exact ⟨kx,p,q,e1,e2,h3⟩
theorem VR.int_inv {ρ : Rho} {k : IntKind} {n : Int} {x : Value} (h : VR ρ (.int k n) x) : x = .int k n:=by cases h; rfl
theorem guard_int (o : BinOp) (t : TypeId) (X Y : Operand) (w : World) (kx ky : IntKind) (p q : Int) :
 (do eqGuard o t X Y (.int kx p) (.int ky q); binOp o t (.int kx p) (.int ky q) : Sem Value).run P w = (binOp o t (.int kx p) (.int ky q)).run P w:=by
 have : (eqGuard o t X Y (.int kx p) (.int ky q)).run P w = .ok () w:=by unfold eqGuard; cases o <;> rfl
 rw [Sem.run_bind,this]; rfl
theorem binI_ok {o : BinOp} {x y : V} {k : V→Res} {r : Res} (h : binI o x y k = r) (hr : r ≠ .fail) {ρ : Rho} {a b : Value} (ha : VR ρ x a) (hb : VR ρ y b) (t : TypeId) (X Y : Operand) (w : World) :
 ∃ u z,k u = r∧(do eqGuard o t X Y a b; binOp o t a b : Sem Value).run P w = .ok z w∧VR ρ u z∧z.oneCell' = true:=by
 cases o
 case add | sub | mul=>
  obtain ⟨kx,p,q,rfl,rfl,h1⟩:=int2_ok (G:=fun kx a b=>wrapk kx _ fun n=>k (.int kx n)) h hr
  rw [ha.int_inv,hb.int_inv]
  rw [wrapk_eq] at h1
  exact ⟨_,_,h1,by rw [guard_int]; simp [binOp,Op.intArith] <;> rfl,.int _ _,rfl⟩
 case quo=>
  obtain ⟨kx,p,q,rfl,rfl,h1⟩:=int2_ok (G:=fun kx a b=>ifk (ieq b 0) .fail (wrapk kx (Int.tdiv a b) fun n=>k (.int kx n))) h hr
  rw [ha.int_inv,hb.int_inv]
  rcases ifk_ne h1 with ⟨_,h2⟩ | ⟨h0,h2⟩
  · exact absurd h2.symm hr
  · rw [ieq_eq] at h0
    have h0 : q ≠ 0:=by simpa using h0
    rw [wrapk_eq] at h2
    exact ⟨_,_,h2,by rw [guard_int]; simp [binOp,Op.intDiv,h0],.int _ _,rfl⟩
 case rem=>
  obtain ⟨kx,p,q,rfl,rfl,h1⟩:=int2_ok (G:=fun kx a b=>ifk (ieq b 0) .fail (k (.int kx (Int.tmod a b)))) h hr
  rw [ha.int_inv,hb.int_inv]
  rcases ifk_ne h1 with ⟨_,h2⟩ | ⟨h0,h2⟩
  · exact absurd h2.symm hr
  · rw [ieq_eq] at h0
    have h0 : q ≠ 0:=by simpa using h0
    exact ⟨_,_,h2,by rw [guard_int]; simp [binOp,Op.intDiv,h0],.int _ _,rfl⟩
 case and=>
  obtain ⟨kx,p,q,rfl,rfl,h1⟩:=int2_ok (G:=fun kx a b=>k (.int kx (band kx a b))) h hr
  rw [ha.int_inv,hb.int_inv]
  have h2 : k (.int kx (kx.wrap (BitVec.ofInt kx.bits p &&& BitVec.ofInt kx.bits q).toNat)) = r:=by rw [← h1,band,bitv_eq (fun n x y=>by simp <;> rfl) and_lt]
  exact ⟨_,_,h2,by rw [guard_int]; simp [binOp,Op.intBits],.int _ _,rfl⟩
 case or=>
  obtain ⟨kx,p,q,rfl,rfl,h1⟩:=int2_ok (G:=fun kx a b=>k (.int kx (bor kx a b))) h hr
  rw [ha.int_inv,hb.int_inv]
  have h2 : k (.int kx (kx.wrap (BitVec.ofInt kx.bits p ||| BitVec.ofInt kx.bits q).toNat)) = r:=by rw [← h1,bor,bitv_eq (fun n x y=>by simp <;> rfl) or_lt]
  exact ⟨_,_,h2,by rw [guard_int]; simp [binOp,Op.intBits],.int _ _,rfl⟩
 case xor=>
  obtain ⟨kx,p,q,rfl,rfl,h1⟩:=int2_ok (G:=fun kx a b=>k (.int kx (bxor kx a b))) h hr
  rw [ha.int_inv,hb.int_inv]
  have h2 : k (.int kx (kx.wrap (BitVec.ofInt kx.bits p ^^^ BitVec.ofInt kx.bits q).toNat)) = r:=by rw [← h1,bxor,bitv_eq (fun n x y=>by simp <;> rfl) xor_lt]
  exact ⟨_,_,h2,by rw [guard_int]; simp [binOp,Op.intBits],.int _ _,rfl⟩
 case shl=>
  obtain ⟨kx,p,rfl,h1⟩:=intk_ok (show intk x (fun kx a=>intk y fun _ b=>natk b fun m=>wrapk kx (Int.mul a (.ofNat (Nat.pow 2 (Nat.min m kx.bits)))) fun n=>k (.int kx n)) = r from h) hr
  obtain ⟨ky,q,rfl,h2⟩:=intk_ok h1 hr
  rw [ha.int_inv,hb.int_inv]
  obtain ⟨m,rfl,h3⟩:=natk_ok h2 hr
  rw [wrapk_eq] at h3
  refine ⟨_,_,h3,?_,.int _ _,rfl⟩
  rw [guard_int]
  have h0 : ¬ ((m : Int) < 0):=by omega
  simp only [binOp,Op.shift,h0,if_false]
  simp [Nat.min_def,Int.natCast_pow] <;> rfl
 case shr=>
  obtain ⟨kx,p,rfl,h1⟩:=intk_ok (show intk x (fun kx a=>intk y fun _ b=>natk b fun m=>k (.int kx (shrv a (Nat.pow 2 (Nat.min m kx.bits))))) = r from h) hr
  obtain ⟨ky,q,rfl,h2⟩:=intk_ok h1 hr
  rw [ha.int_inv,hb.int_inv]
  obtain ⟨m,rfl,h3⟩:=natk_ok h2 hr
  rw [shrv_eq] at h3
  refine ⟨_,_,h3,?_,.int _ _,rfl⟩
  rw [guard_int]
  have h0 : ¬ ((m : Int) < 0):=by omega
  simp only [binOp,Op.shift,h0,if_false]
  simp [Nat.min_def,Int.natCast_pow]
 case andNot=>
  obtain ⟨kx,p,q,rfl,rfl,h1⟩:=int2_ok (G:=fun kx a b=>k (.int kx (bano kx a b))) h hr
  rw [ha.int_inv,hb.int_inv]
  have h2 : k (.int kx (kx.wrap (BitVec.ofInt kx.bits p &&& ~~~BitVec.ofInt kx.bits q).toNat)) = r:=by rw [← h1,bano,bitv_eq ano_nat ano_lt]
  exact ⟨_,_,h2,by rw [guard_int]; simp [binOp,Op.intBits],.int _ _,rfl⟩
 case eql | neq | lss | leq | gtr | geq=>
  obtain ⟨kx,p,q,rfl,rfl,h1⟩:=int2_ok (G:=fun kx a b=>bk _ k) h hr
  rw [ha.int_inv,hb.int_inv]
  rw [bk_eq] at h1
  refine ⟨_,_,h1,?_,.bool _,rfl⟩
  rw [guard_int]
  simp only [ieq_eq,ilt_eq]
  simp only [binOp,ne_eq,not_true_eq_false,if_false,Op.intCmp,Sem.run_pure]
  all_goals first
   | rfl
   | (refine congrArg (fun b=>Result.ok (Value.bool b) w) ?_
      rw [Bool.eq_iff_iff]
      simp
      try omega)
end Go.Ev

/- EVALUATOR, 7: strings, packed into one number, the first byte lowest. -/
namespace Go.Ev
variable {P : Program}
theorem dig_length (l n : Nat) : (dig l n).length = l:=by induction l generalizing n with | zero=>rfl | succ l ih=>simp [dig,ih]
theorem dig_inj {l n m : Nat} (hn : n < 256 ^ l) (hm : m < 256 ^ l) (h : dig l n = dig l m) : n = m:=by
 induction l generalizing n m with
 | zero=>simp at hn hm; omega
 | succ l ih=>
   simp only [dig,List.cons.injEq] at h
   obtain ⟨h1,h2⟩:=h
   have e1 : n % 256 = m % 256:=by
    have:=congrArg UInt8.toNat h1
    simpa using this
   rw [Nat.pow_succ] at hn hm
   have:=ih (by omega) (by omega) h2
   omega
theorem dig_append (l l' n m : Nat) (hn : n < 256 ^ l) : dig (l + l') (n + m * 256 ^ l) = dig l n ++ dig l' m:=by
 induction l generalizing n with
 | zero=>simp at hn; subst hn; simp [dig]
 | succ l ih=>
   have e : l + 1 + l' = (l + l') + 1:=by omega
   rw [e,dig,dig,List.cons_append]
   rw [Nat.pow_succ] at hn ⊢
   have e1 : (n + m * (256 ^ l * 256)) % 256 = n % 256:=by rw [← Nat.mul_assoc]; omega
   have e2 : (n + m * (256 ^ l * 256)) / 256 = n / 256 + m * 256 ^ l:=by rw [← Nat.mul_assoc]; omega
   rw [e1,e2,ih (n / 256) (by omega)]
theorem dig_drop (a l n : Nat) : (dig (a + l) n).drop a = dig l (n / 256 ^ a):=by
 induction a generalizing n with
 | zero=>simp
 | succ a ih=>
   have e : a + 1 + l = (a + l) + 1:=by omega
   rw [e,dig,List.drop_succ_cons,ih,Nat.pow_succ,Nat.div_div_eq_div_mul,Nat.mul_comm]
theorem dig_take (a l n : Nat) : (dig (a + l) n).take a = dig a (n % 256 ^ a):=by
 induction a generalizing n with
 | zero=>simp [dig]
 | succ a ih=>
   have e : a + 1 + l = (a + l) + 1:=by omega
   rw [e,dig,List.take_succ_cons,ih,dig,Nat.pow_succ]
   have h1 : n % (256 ^ a * 256) % 256 = n % 256:=Nat.mod_mul_left_mod _ _ _
   have h2 : n % (256 ^ a * 256) / 256 = n / 256 % 256 ^ a:=by rw [Nat.mul_comm,Nat.mod_mul_right_div_self]
   rw [h1,h2]
theorem dig_get {l n i : Nat} (h : i < l) : (dig l n)[i]? = some (UInt8.ofNat (n / 256 ^ i % 256)):=by
 obtain ⟨d,rfl⟩ : ∃ d,l = i + (d + 1):=⟨l - i - 1,by omega⟩
 have : (dig (i + (d + 1)) n)[i]? = ((dig (i + (d + 1)) n).drop i)[0]?:=by rw [List.getElem?_drop]; simp
 rw [this,dig_drop,dig]; rfl
theorem pow256 (i : Nat) : 256 ^ i = 2 ^ (8 * i):=by rw [Nat.pow_mul]
def pack : List UInt8→Nat
 | []=>0
 | b :: l=>b.toNat + 256 * pack l
theorem pack_lt (l : List UInt8) : pack l < 256 ^ l.length:=by
 induction l with
 | nil=>simp [pack]
 | cons b l ih=>have:=b.toNat_lt; simp only [pack,List.length_cons,Nat.pow_succ]; omega
theorem dig_pack (l : List UInt8) : dig l.length (pack l) = l:=by
 induction l with
 | nil=>rfl
 | cons b l ih=>
   have h1:=b.toNat_lt
   simp only [pack,List.length_cons,dig]
   have e1 : (b.toNat + 256 * pack l) % 256 = b.toNat:=by omega
   have e2 : (b.toNat + 256 * pack l) / 256 = pack l:=by omega
   rw [e1,e2,ih]; simp
noncomputable def slt (f : Nat) : Nat→Nat→Nat→Nat→Bool:=
 Nat.rec (motive:=fun _=>Nat→Nat→Nat→Nat→Bool) (fun _ _ _ _=>false)
  (fun _ ih l n l' m=>Nat.rec (motive:=fun _=>Bool) false (fun l'1 _=>Nat.rec (motive:=fun _=>Bool) true (fun l1 _=>
    Bool.rec (motive:=fun _=>Bool) (Bool.rec (motive:=fun _=>Bool) false (ih l1 (Nat.div n 256) l'1 (Nat.div m 256)) (Nat.beq (Nat.mod n 256) (Nat.mod m 256))) true (Nat.blt (Nat.mod n 256) (Nat.mod m 256))) l) l') f
theorem slt_eq (f l n l' m : Nat) (hf : l' < f) : slt f l n l' m = Op.bytesLess (dig l n) (dig l' m):=by
 induction f generalizing l n l' m with
 | zero=>omega
 | succ f ih=>
   cases l' with
   | zero=>cases l <;> rfl
   | succ l'=>
     cases l with
     | zero=>rfl
     | succ l=>
       show Bool.rec (motive:=fun _=>Bool) (Bool.rec (motive:=fun _=>Bool) false (slt f l (n / 256) l' (m / 256)) (Nat.beq (n % 256) (m % 256))) true (Nat.blt (n % 256) (m % 256)) = _
       rw [ih _ _ _ _ (by omega)]
       simp only [dig,Op.bytesLess]
       have e1 : (UInt8.ofNat (n % 256) < UInt8.ofNat (m % 256)) = (n % 256 < m % 256):=by
        rw [UInt8.lt_iff_toNat_lt]; simp
       have e2 : (UInt8.ofNat (n % 256) == UInt8.ofNat (m % 256)) = Nat.beq (n % 256) (m % 256):=by
        rw [Bool.eq_iff_iff,Nat.beq_eq,beq_iff_eq]
        constructor
        · intro h; have:=congrArg UInt8.toNat h; simpa using this
        · intro h; rw [h]
       have e3 : (decide (n % 256 < m % 256)) = Nat.blt (n % 256) (m % 256):=by rw [Bool.eq_iff_iff]; simp [Nat.blt_eq]
       simp only [e1,e2,e3]
       cases Nat.blt (n % 256) (m % 256) <;> cases Nat.beq (n % 256) (m % 256) <;> rfl
noncomputable def seq (l n l' m : Nat) : Bool:=Bool.rec (motive:=fun _=>Bool) false (Nat.beq n m) (Nat.beq l l')
theorem seq_eq {l n l' m : Nat} (hn : n < 256 ^ l) (hm : m < 256 ^ l') : seq l n l' m = (dig l n == dig l' m):=by
 unfold seq
 rw [Bool.eq_iff_iff,beq_iff_eq]
 cases hb : Nat.beq l l' with
 | false=>
   have : l ≠ l':=fun e=>by subst e; simp at hb
   constructor
   · intro h; cases h
   · intro h; have:=congrArg List.length h; rw [dig_length,dig_length] at this; contradiction
 | true=>
   obtain rfl:=Nat.eq_of_beq_eq_true hb
   show Nat.beq n m = true ↔ _
   constructor
   · intro h; rw [Nat.eq_of_beq_eq_true h]
   · intro h; rw [dig_inj hn hm h]; simp
noncomputable def short (l : Nat) (x : Res) : Res:=ifk (Nat.ble l 2305843009213693952) x .fail
noncomputable def cmps (f : Nat→Nat→Nat→Nat→Bool) (x y : V) (k : V→Res) : Res:=strk x fun l n=>strk y fun l' m=>bk (f l n l' m) k
noncomputable def cats (x y : V) (k : V→Res) : Res:=
 strk x fun l n=>strk y fun l' m=>short l (short l' (k (.str (Nat.add l l') (Nat.add n (Nat.mul m (Nat.pow 2 (Nat.mul 8 l)))))))
noncomputable def binS (o : BinOp) : V→V→(V→Res)→Res:=
 BinOp.rec (motive:=fun _=>V→V→(V→Res)→Res)
  cats (fun _ _ _=>.fail) (fun _ _ _=>.fail) (fun _ _ _=>.fail) (fun _ _ _=>.fail) (fun _ _ _=>.fail) (fun _ _ _=>.fail) (fun _ _ _=>.fail) (fun _ _ _=>.fail)
  (fun _ _ _=>.fail) (fun _ _ _=>.fail)
  (cmps seq) (cmps fun l n l' m=>not (seq l n l' m)) (cmps fun l n l' m=>slt (Nat.succ l') l n l' m) (cmps fun l n l' m=>or (slt (Nat.succ l') l n l' m) (seq l n l' m))
  (cmps fun l n l' m=>not (or (slt (Nat.succ l') l n l' m) (seq l n l' m))) (cmps fun l n l' m=>not (slt (Nat.succ l') l n l' m)) o
theorem short_ok {l : Nat} {x r : Res} (h : short l x = r) (hr : r ≠ .fail) : l ≤ 2305843009213693952∧x = r:=by
 obtain ⟨h1,h2⟩:=ifk_fail h hr
 exact ⟨Nat.le_of_ble_eq_true h1,h2⟩
theorem str_size {s : ByteArray} {l n : Nat} (h : s.data.toList = dig l n) : s.size = l:=by
 have:=congrArg List.length h
 rw [dig_length] at this
 exact this
theorem VR.str_inv {ρ : Rho} {l n : Nat} {x : Value} (h : VR ρ (.str l n) x) : ∃ s : ByteArray,x = .string s∧s.data.toList = dig l n∧n < 256 ^ l:=by
 cases h with | str h hn=>exact ⟨_,rfl,h,hn⟩
theorem guard_str (o : BinOp) (t : TypeId) (X Y : Operand) (w : World) (p q : ByteArray) :
 (do eqGuard o t X Y (.string p) (.string q); binOp o t (.string p) (.string q) : Sem Value).run P w = (Op.stringOp o p q).run P w:=by
 have : (eqGuard o t X Y (.string p) (.string q)).run P w = .ok () w:=by unfold eqGuard; cases o <;> rfl
 rw [Sem.run_bind,this]
 cases o <;> rfl
theorem cmps_ok {f : Nat→Nat→Nat→Nat→Bool} {x y : V} {k : V→Res} {r : Res} (h : cmps f x y k = r) (hr : r ≠ .fail) {ρ : Rho} {a b : Value} (ha : VR ρ x a) (hb : VR ρ y b) :
 ∃ l n l' m s s',a = .string s∧b = .string s'∧s.toList = dig l n∧s'.toList = dig l' m∧n < 256 ^ l∧m < 256 ^ l'∧k (.bool (f l n l' m)) = r:=by
 obtain ⟨l,n,rfl,h1⟩:=strk_ok h hr
 obtain ⟨l',m,rfl,h2⟩:=strk_ok h1 hr
 obtain ⟨s,rfl,e1,e2⟩:=ha.str_inv
 obtain ⟨s',rfl,e3,e4⟩:=hb.str_inv
 rw [bk_eq] at h2
 exact ⟨l,n,l',m,s,s',rfl,rfl,by rw [ByteArray.toList_eq,e1],by rw [ByteArray.toList_eq,e3],e2,e4,h2⟩
theorem binS_ok {o : BinOp} {x y : V} {k : V→Res} {r : Res} (h : binS o x y k = r) (hr : r ≠ .fail) {ρ : Rho} {a b : Value} (ha : VR ρ x a) (hb : VR ρ y b) (t : TypeId) (X Y : Operand) (w : World) :
 ∃ u z,k u = r∧(do eqGuard o t X Y a b; binOp o t a b : Sem Value).run P w = .ok z w∧VR ρ u z∧z.oneCell' = true:=by
 cases o
 case add=>
  obtain ⟨l,n,rfl,h1⟩:=strk_ok (show strk x (fun l n=>strk y fun l' m=>short l (short l' (k (.str (Nat.add l l') (Nat.add n (Nat.mul m (Nat.pow 2 (Nat.mul 8 l)))))))) = r from h) hr
  obtain ⟨l',m,rfl,h2⟩:=strk_ok h1 hr
  obtain ⟨hl,h3⟩:=short_ok h2 hr
  obtain ⟨hl',h4⟩:=short_ok h3 hr
  obtain ⟨s,rfl,e1,e2⟩:=ha.str_inv
  obtain ⟨s',rfl,e3,e4⟩:=hb.str_inv
  refine ⟨_,.string (s ++ s'),h4,?_,.str ?_ ?_,rfl⟩
  · rw [guard_str]
    have hs:=str_size e1
    have hs':=str_size e3
    have hlt : ¬ ((s.size + s'.size : Nat) : Int) > IntKind.i64.max:=by
     rw [hs,hs']
     have : IntKind.i64.max = 9223372036854775807:=by decide
     rw [this]; omega
    simp only [Op.stringOp]
    rw [if_neg hlt]; rfl
  · show (s ++ s').data.toList = dig (l + l') (n + m * 2 ^ (8 * l))
    rw [← pow256,dig_append _ _ _ _ e2,← e1,← e3]; simp
  · show n + m * 2 ^ (8 * l) < 256 ^ (l + l')
    rw [← pow256,Nat.pow_add]
    have : m * 256 ^ l + 256 ^ l ≤ 256 ^ l' * 256 ^ l:=by
     have:=Nat.mul_le_mul_right (256 ^ l) (Nat.succ_le_of_lt e4)
     rw [Nat.succ_mul] at this; exact this
    rw [Nat.mul_comm (256 ^ l)]; omega
 case eql | neq | lss | leq | gtr | geq=>
  obtain ⟨l,n,l',m,s,s',rfl,rfl,e1,e2,e3,e4,h1⟩:=cmps_ok h hr ha hb
  refine ⟨_,_,h1,?_,.bool _,rfl⟩
  rw [guard_str]
  simp only [Op.stringOp,e1,e2,slt_eq _ _ _ _ _ (Nat.lt_succ_self l'),seq_eq e3 e4]
  rfl
 all_goals exact absurd (show Res.fail = r from h).symm hr
end Go.Ev

/- EVALUATOR: values of a known shape. -/
namespace Go.Ev
inductive Sh1 where
 | any
 | bool
 | int (k : IntKind)
 | intF (k : IntKind)
 | str
inductive Sh where
 | one (s : Sh1)
 | tup (l : List Sh1)
 | agg (n : Nat) (l : List Sh1)
noncomputable def forceN (n : Nat) (k : Nat→Res) : Res:=Nat.rec (motive:=fun _=>Res) (k 0) (fun m _=>k (Nat.succ m)) n
theorem forceN_eq (n : Nat) (k : Nat→Res) : forceN n k = k n:=by cases n <;> rfl
noncomputable def forceI (n : Int) (k : Int→Res) : Res:=Int.rec (motive:=fun _=>Res) (fun m=>forceN m fun m=>k (.ofNat m)) (fun m=>forceN m fun m=>k (.negSucc m)) n
theorem forceI_eq (n : Int) (k : Int→Res) : forceI n k = k n:=by
 cases n with
 | ofNat m=>exact forceN_eq m fun m=>k (.ofNat m)
 | negSucc m=>exact forceN_eq m fun m=>k (.negSucc m)
noncomputable def ksel (kd k0 : IntKind) (x : Res) : Res:=
 IntKind.rec (motive:=fun _=>IntKind→Res→Res)
  (fun k x=>IntKind.rec (motive:=fun _=>Res) x .fail .fail .fail .fail .fail .fail .fail k)
  (fun k x=>IntKind.rec (motive:=fun _=>Res) .fail x .fail .fail .fail .fail .fail .fail k)
  (fun k x=>IntKind.rec (motive:=fun _=>Res) .fail .fail x .fail .fail .fail .fail .fail k)
  (fun k x=>IntKind.rec (motive:=fun _=>Res) .fail .fail .fail x .fail .fail .fail .fail k)
  (fun k x=>IntKind.rec (motive:=fun _=>Res) .fail .fail .fail .fail x .fail .fail .fail k)
  (fun k x=>IntKind.rec (motive:=fun _=>Res) .fail .fail .fail .fail .fail x .fail .fail k)
  (fun k x=>IntKind.rec (motive:=fun _=>Res) .fail .fail .fail .fail .fail .fail x .fail k)
  (fun k x=>IntKind.rec (motive:=fun _=>Res) .fail .fail .fail .fail .fail .fail .fail x k)
  kd k0 x
theorem ksel_ok {kd k0 : IntKind} {x r : Res} (h : ksel kd k0 x = r) (hr : r ≠ .fail) : k0 = kd∧x = r:=by
 cases kd <;> cases k0 <;> first | exact ⟨rfl,h⟩ | exact absurd h.symm hr
noncomputable def castB (v : V) (k : Bool→Res) : Res:=boolk v k
noncomputable def castI (kd : IntKind) (v : V) (k : Int→Res) : Res:=intk v fun k0 n=>ksel kd k0 (k n)
noncomputable def castF (kd : IntKind) (v : V) (k : Int→Res) : Res:=intk v fun k0 n=>ksel kd k0 (forceI n k)
noncomputable def castS (v : V) (k : Nat→Nat→Res) : Res:=strk v k
noncomputable def cast1 (s : Sh1) (v : V) (k : V→Res) : Res:=
 Sh1.rec (motive:=fun _=>Res) (k v) (castB v fun b=>k (.bool b)) (fun kd=>castI kd v fun n=>k (.int kd n)) (fun kd=>castF kd v fun n=>k (.int kd n)) (castS v fun l n=>k (.str l n)) s
theorem cast1_ok {s : Sh1} {v : V} {k : V→Res} {r : Res} (h : cast1 s v k = r) (hr : r ≠ .fail) : k v = r:=by
 cases s with
 | any=>exact h
 | bool=>
   obtain ⟨b,rfl,h1⟩:=boolk_ok (show boolk v (fun b=>k (.bool b)) = r from h) hr
   exact h1
 | int kd=>
   obtain ⟨k0,n,rfl,h1⟩:=intk_ok (show intk v (fun k0 n=>ksel kd k0 (k (.int kd n))) = r from h) hr
   obtain ⟨rfl,h3⟩:=ksel_ok h1 hr
   exact h3
 | intF kd=>
   obtain ⟨k0,n,rfl,h1⟩:=intk_ok (show intk v (fun k0 n=>ksel kd k0 (forceI n fun n=>k (.int kd n))) = r from h) hr
   obtain ⟨rfl,h3⟩:=ksel_ok h1 hr
   rw [forceI_eq] at h3
   exact h3
 | str=>
   obtain ⟨l,n,rfl,h1⟩:=strk_ok (show strk v (fun l n=>k (.str l n)) = r from h) hr
   exact h1
noncomputable def unc (l : List V) (k : V→List V→Res) : Res:=List.rec (motive:=fun _=>Res) .fail (fun v l _=>k v l) l
noncomputable def nilk' (l : List V) (k : Res) : Res:=List.rec (motive:=fun _=>Res) k (fun _ _ _=>.fail) l
theorem unc_ok {l : List V} {k : V→List V→Res} {r : Res} (h : unc l k = r) (hr : r ≠ .fail) : ∃ v m,l = v :: m∧k v m = r:=by
 cases l with
 | nil=>exact absurd h.symm hr
 | cons v m=>exact ⟨v,m,rfl,h⟩
theorem nilk'_ok {l : List V} {k r : Res} (h : nilk' l k = r) (hr : r ≠ .fail) : l = []∧k = r:=by
 cases l with
 | nil=>exact ⟨rfl,h⟩
 | cons v m=>exact absurd h.symm hr
noncomputable def castsk (l : List Sh1) (vs : List V) (k : List V→Res) : Res:=
 List.rec (motive:=fun _=>List V→(List V→Res)→Res) (fun vs k=>nilk' vs (k [])) (fun s _ ih vs k=>unc vs fun v m=>cast1 s v fun v=>ih m fun m=>k (v :: m)) l vs k
theorem castsk_ok {l : List Sh1} {vs : List V} {k : List V→Res} {r : Res} (h : castsk l vs k = r) (hr : r ≠ .fail) : k vs = r:=by
 induction l generalizing vs k with
 | nil=>
   obtain ⟨rfl,h1⟩:=nilk'_ok (show nilk' vs (k []) = r from h) hr
   exact h1
 | cons s l ih=>
   obtain ⟨v,m,rfl,h1⟩:=unc_ok (show unc vs (fun v m=>cast1 s v fun v=>castsk l m fun m=>k (v :: m)) = r from h) hr
   exact ih (k:=fun m=>k (v :: m)) (cast1_ok h1 hr)
noncomputable def castk (s : Sh) (v : V) (k : V→Res) : Res:=
 Sh.rec (motive:=fun _=>Res) (fun s=>cast1 s v k) (fun l=>tupk v fun vs=>castsk l vs fun vs=>k (.tup vs)) (fun n l=>aggk v fun m vs=>ifk (Nat.beq m n) (castsk l vs fun vs=>k (.agg n vs)) .fail) s
theorem castk_ok {s : Sh} {v : V} {k : V→Res} {r : Res} (h : castk s v k = r) (hr : r ≠ .fail) : k v = r:=by
 cases s with
 | one s=>exact cast1_ok h hr
 | tup l=>
   obtain ⟨vs,rfl,h1⟩:=tupk_ok (show tupk v (fun vs=>castsk l vs fun vs=>k (.tup vs)) = r from h) hr
   exact castsk_ok (k:=fun vs=>k (.tup vs)) h1 hr
 | agg n l=>
   obtain ⟨m,vs,rfl,h1⟩:=aggk_ok (show aggk v (fun m vs=>ifk (Nat.beq m n) (castsk l vs fun vs=>k (.agg n vs)) .fail) = r from h) hr
   obtain ⟨h2,h3⟩:=ifk_fail h1 hr
   obtain rfl:=Nat.eq_of_beq_eq_true h2
   exact castsk_ok (k:=fun vs=>k (.agg m vs)) h3 hr
end Go.Ev

/- EVALUATOR, 25: equality of values, as the kernel runs it. Printed by gen_eq.py. -/
namespace Go.Ev
noncomputable def oeq (a b : Option Nat) : Bool:=Option.rec (motive:=fun _=>Bool) (Option.rec (motive:=fun _=>Bool) true (fun _=>false) b) (fun x=>Option.rec (motive:=fun _=>Bool) false (fun y=>Nat.beq x y) b) a
theorem oeq_eq {a b : Option Nat} (h : oeq a b = true) : a = b:=by
 cases a <;> cases b <;> first | rfl | cases h | exact congrArg some (Nat.eq_of_beq_eq_true h)
theorem beqB {a b : Bool} (h : (Bool.rec (motive:=fun _=>Bool) (Bool.rec (motive:=fun _=>Bool) true false b) b a : Bool) = true) : a = b:=by cases a <;> cases b <;> first | rfl | cases h
noncomputable def veqk (x y : V) (k : Res) : Res:=
 V.rec (motive_1:=fun _=>V→Res→Res) (motive_2:=fun _=>List V→Res→Res)
  (fun  y k=>V.rec (motive_1:=fun _=>Res) (motive_2:=fun _=>PUnit) k .fail (fun _=>.fail) (fun _ _=>.fail) (fun _ _=>.fail) .fail (fun _ _=>.fail) .fail (fun _ _ _ _ _=>.fail) .fail .fail (fun _=>.fail) .fail (fun _ _ _=>.fail) .fail (fun _ _ _=>.fail) (fun _ _ _=>.fail) (fun _ _=>.fail) PUnit.unit (fun _ _ _ _=>PUnit.unit) y)
  (fun  y k=>V.rec (motive_1:=fun _=>Res) (motive_2:=fun _=>PUnit) .fail k (fun _=>.fail) (fun _ _=>.fail) (fun _ _=>.fail) .fail (fun _ _=>.fail) .fail (fun _ _ _ _ _=>.fail) .fail .fail (fun _=>.fail) .fail (fun _ _ _=>.fail) .fail (fun _ _ _=>.fail) (fun _ _ _=>.fail) (fun _ _=>.fail) PUnit.unit (fun _ _ _ _=>PUnit.unit) y)
  (fun b0 y k=>V.rec (motive_1:=fun _=>Res) (motive_2:=fun _=>PUnit) .fail .fail (fun b1=>(ifk (Bool.rec (motive:=fun _=>Bool) (Bool.rec (motive:=fun _=>Bool) true false b1) b1 b0) k .fail)) (fun _ _=>.fail) (fun _ _=>.fail) .fail (fun _ _=>.fail) .fail (fun _ _ _ _ _=>.fail) .fail .fail (fun _=>.fail) .fail (fun _ _ _=>.fail) .fail (fun _ _ _=>.fail) (fun _ _ _=>.fail) (fun _ _=>.fail) PUnit.unit (fun _ _ _ _=>PUnit.unit) y)
  (fun k0 n0 y k=>V.rec (motive_1:=fun _=>Res) (motive_2:=fun _=>PUnit) .fail .fail (fun _=>.fail) (fun k1 n1=>(ifk (Nat.beq (kno k0) (kno k1)) (ifk (ieq n0 n1) k .fail) .fail)) (fun _ _=>.fail) .fail (fun _ _=>.fail) .fail (fun _ _ _ _ _=>.fail) .fail .fail (fun _=>.fail) .fail (fun _ _ _=>.fail) .fail (fun _ _ _=>.fail) (fun _ _ _=>.fail) (fun _ _=>.fail) PUnit.unit (fun _ _ _ _=>PUnit.unit) y)
  (fun l0 n0 y k=>V.rec (motive_1:=fun _=>Res) (motive_2:=fun _=>PUnit) .fail .fail (fun _=>.fail) (fun _ _=>.fail) (fun l1 n1=>(ifk (Nat.beq l0 l1) (ifk (Nat.beq n0 n1) k .fail) .fail)) .fail (fun _ _=>.fail) .fail (fun _ _ _ _ _=>.fail) .fail .fail (fun _=>.fail) .fail (fun _ _ _=>.fail) .fail (fun _ _ _=>.fail) (fun _ _ _=>.fail) (fun _ _=>.fail) PUnit.unit (fun _ _ _ _=>PUnit.unit) y)
  (fun  y k=>V.rec (motive_1:=fun _=>Res) (motive_2:=fun _=>PUnit) .fail .fail (fun _=>.fail) (fun _ _=>.fail) (fun _ _=>.fail) k (fun _ _=>.fail) .fail (fun _ _ _ _ _=>.fail) .fail .fail (fun _=>.fail) .fail (fun _ _ _=>.fail) .fail (fun _ _ _=>.fail) (fun _ _ _=>.fail) (fun _ _=>.fail) PUnit.unit (fun _ _ _ _=>PUnit.unit) y)
  (fun b0 o0 y k=>V.rec (motive_1:=fun _=>Res) (motive_2:=fun _=>PUnit) .fail .fail (fun _=>.fail) (fun _ _=>.fail) (fun _ _=>.fail) .fail (fun b1 o1=>(ifk (Nat.beq b0.val b1.val) (ifk (Nat.beq o0 o1) k .fail) .fail)) .fail (fun _ _ _ _ _=>.fail) .fail .fail (fun _=>.fail) .fail (fun _ _ _=>.fail) .fail (fun _ _ _=>.fail) (fun _ _ _=>.fail) (fun _ _=>.fail) PUnit.unit (fun _ _ _ _=>PUnit.unit) y)
  (fun  y k=>V.rec (motive_1:=fun _=>Res) (motive_2:=fun _=>PUnit) .fail .fail (fun _=>.fail) (fun _ _=>.fail) (fun _ _=>.fail) .fail (fun _ _=>.fail) k (fun _ _ _ _ _=>.fail) .fail .fail (fun _=>.fail) .fail (fun _ _ _=>.fail) .fail (fun _ _ _=>.fail) (fun _ _ _=>.fail) (fun _ _=>.fail) PUnit.unit (fun _ _ _ _=>PUnit.unit) y)
  (fun b0 o0 l0 c0 s0 y k=>V.rec (motive_1:=fun _=>Res) (motive_2:=fun _=>PUnit) .fail .fail (fun _=>.fail) (fun _ _=>.fail) (fun _ _=>.fail) .fail (fun _ _=>.fail) .fail (fun b1 o1 l1 c1 s1=>(ifk (Nat.beq b0.val b1.val) (ifk (Nat.beq o0 o1) (ifk (Nat.beq l0 l1) (ifk (oeq c0 c1) (ifk (Nat.beq s0 s1) k .fail) .fail) .fail) .fail) .fail)) .fail .fail (fun _=>.fail) .fail (fun _ _ _=>.fail) .fail (fun _ _ _=>.fail) (fun _ _ _=>.fail) (fun _ _=>.fail) PUnit.unit (fun _ _ _ _=>PUnit.unit) y)
  (fun  y k=>V.rec (motive_1:=fun _=>Res) (motive_2:=fun _=>PUnit) .fail .fail (fun _=>.fail) (fun _ _=>.fail) (fun _ _=>.fail) .fail (fun _ _=>.fail) .fail (fun _ _ _ _ _=>.fail) k .fail (fun _=>.fail) .fail (fun _ _ _=>.fail) .fail (fun _ _ _=>.fail) (fun _ _ _=>.fail) (fun _ _=>.fail) PUnit.unit (fun _ _ _ _=>PUnit.unit) y)
  (fun  y k=>V.rec (motive_1:=fun _=>Res) (motive_2:=fun _=>PUnit) .fail .fail (fun _=>.fail) (fun _ _=>.fail) (fun _ _=>.fail) .fail (fun _ _=>.fail) .fail (fun _ _ _ _ _=>.fail) .fail k (fun _=>.fail) .fail (fun _ _ _=>.fail) .fail (fun _ _ _=>.fail) (fun _ _ _=>.fail) (fun _ _=>.fail) PUnit.unit (fun _ _ _ _=>PUnit.unit) y)
  (fun b0 y k=>V.rec (motive_1:=fun _=>Res) (motive_2:=fun _=>PUnit) .fail .fail (fun _=>.fail) (fun _ _=>.fail) (fun _ _=>.fail) .fail (fun _ _=>.fail) .fail (fun _ _ _ _ _=>.fail) .fail .fail (fun b1=>(ifk (Nat.beq b0.val b1.val) k .fail)) .fail (fun _ _ _=>.fail) .fail (fun _ _ _=>.fail) (fun _ _ _=>.fail) (fun _ _=>.fail) PUnit.unit (fun _ _ _ _=>PUnit.unit) y)
  (fun  y k=>V.rec (motive_1:=fun _=>Res) (motive_2:=fun _=>PUnit) .fail .fail (fun _=>.fail) (fun _ _=>.fail) (fun _ _=>.fail) .fail (fun _ _=>.fail) .fail (fun _ _ _ _ _=>.fail) .fail .fail (fun _=>.fail) k (fun _ _ _=>.fail) .fail (fun _ _ _=>.fail) (fun _ _ _=>.fail) (fun _ _=>.fail) PUnit.unit (fun _ _ _ _=>PUnit.unit) y)
  (fun f0 _ ih y k=>V.rec (motive_1:=fun _=>Res) (motive_2:=fun _=>PUnit) .fail .fail (fun _=>.fail) (fun _ _=>.fail) (fun _ _=>.fail) .fail (fun _ _=>.fail) .fail (fun _ _ _ _ _=>.fail) .fail .fail (fun _=>.fail) .fail (fun f1 cap1 _=>(ifk (Nat.beq f0 f1) (ih cap1 k) .fail)) .fail (fun _ _ _=>.fail) (fun _ _ _=>.fail) (fun _ _=>.fail) PUnit.unit (fun _ _ _ _=>PUnit.unit) y)
  (fun  y k=>V.rec (motive_1:=fun _=>Res) (motive_2:=fun _=>PUnit) .fail .fail (fun _=>.fail) (fun _ _=>.fail) (fun _ _=>.fail) .fail (fun _ _=>.fail) .fail (fun _ _ _ _ _=>.fail) .fail .fail (fun _=>.fail) .fail (fun _ _ _=>.fail) k (fun _ _ _=>.fail) (fun _ _ _=>.fail) (fun _ _=>.fail) PUnit.unit (fun _ _ _ _=>PUnit.unit) y)
  (fun t0 _ ih y k=>V.rec (motive_1:=fun _=>Res) (motive_2:=fun _=>PUnit) .fail .fail (fun _=>.fail) (fun _ _=>.fail) (fun _ _=>.fail) .fail (fun _ _=>.fail) .fail (fun _ _ _ _ _=>.fail) .fail .fail (fun _=>.fail) .fail (fun _ _ _=>.fail) .fail (fun t1 v1 _=>(ifk (Nat.beq t0 t1) (ih v1 k) .fail)) (fun _ _ _=>.fail) (fun _ _=>.fail) PUnit.unit (fun _ _ _ _=>PUnit.unit) y)
  (fun n0 _ ih y k=>V.rec (motive_1:=fun _=>Res) (motive_2:=fun _=>PUnit) .fail .fail (fun _=>.fail) (fun _ _=>.fail) (fun _ _=>.fail) .fail (fun _ _=>.fail) .fail (fun _ _ _ _ _=>.fail) .fail .fail (fun _=>.fail) .fail (fun _ _ _=>.fail) .fail (fun _ _ _=>.fail) (fun n1 l1 _=>(ifk (Nat.beq n0 n1) (ih l1 k) .fail)) (fun _ _=>.fail) PUnit.unit (fun _ _ _ _=>PUnit.unit) y)
  (fun _ ih y k=>V.rec (motive_1:=fun _=>Res) (motive_2:=fun _=>PUnit) .fail .fail (fun _=>.fail) (fun _ _=>.fail) (fun _ _=>.fail) .fail (fun _ _=>.fail) .fail (fun _ _ _ _ _=>.fail) .fail .fail (fun _=>.fail) .fail (fun _ _ _=>.fail) .fail (fun _ _ _=>.fail) (fun _ _ _=>.fail) (fun l1 _=>(ih l1 k)) PUnit.unit (fun _ _ _ _=>PUnit.unit) y)
  (fun ys k=>nilk' ys k) (fun _ _ ih1 ih2 ys k=>unc ys fun y ys=>ih1 y (ih2 ys k)) x y k
noncomputable def veqsk (l : List V) : List V→Res→Res:=List.rec (motive:=fun _=>List V→Res→Res) (fun ys k=>nilk' ys k) (fun v _ ih ys k=>unc ys fun y ys=>veqk v y (ih ys k)) l
theorem veqsk_eq (l : List V) : (V.rec_1 (motive_1:=fun _=>V→Res→Res) (motive_2:=fun _=>List V→Res→Res)
 (fun  y k=>V.rec (motive_1:=fun _=>Res) (motive_2:=fun _=>PUnit) k .fail (fun _=>.fail) (fun _ _=>.fail) (fun _ _=>.fail) .fail (fun _ _=>.fail) .fail (fun _ _ _ _ _=>.fail) .fail .fail (fun _=>.fail) .fail (fun _ _ _=>.fail) .fail (fun _ _ _=>.fail) (fun _ _ _=>.fail) (fun _ _=>.fail) PUnit.unit (fun _ _ _ _=>PUnit.unit) y)
 (fun  y k=>V.rec (motive_1:=fun _=>Res) (motive_2:=fun _=>PUnit) .fail k (fun _=>.fail) (fun _ _=>.fail) (fun _ _=>.fail) .fail (fun _ _=>.fail) .fail (fun _ _ _ _ _=>.fail) .fail .fail (fun _=>.fail) .fail (fun _ _ _=>.fail) .fail (fun _ _ _=>.fail) (fun _ _ _=>.fail) (fun _ _=>.fail) PUnit.unit (fun _ _ _ _=>PUnit.unit) y)
 (fun b0 y k=>V.rec (motive_1:=fun _=>Res) (motive_2:=fun _=>PUnit) .fail .fail (fun b1=>(ifk (Bool.rec (motive:=fun _=>Bool) (Bool.rec (motive:=fun _=>Bool) true false b1) b1 b0) k .fail)) (fun _ _=>.fail) (fun _ _=>.fail) .fail (fun _ _=>.fail) .fail (fun _ _ _ _ _=>.fail) .fail .fail (fun _=>.fail) .fail (fun _ _ _=>.fail) .fail (fun _ _ _=>.fail) (fun _ _ _=>.fail) (fun _ _=>.fail) PUnit.unit (fun _ _ _ _=>PUnit.unit) y)
 (fun k0 n0 y k=>V.rec (motive_1:=fun _=>Res) (motive_2:=fun _=>PUnit) .fail .fail (fun _=>.fail) (fun k1 n1=>(ifk (Nat.beq (kno k0) (kno k1)) (ifk (ieq n0 n1) k .fail) .fail)) (fun _ _=>.fail) .fail (fun _ _=>.fail) .fail (fun _ _ _ _ _=>.fail) .fail .fail (fun _=>.fail) .fail (fun _ _ _=>.fail) .fail (fun _ _ _=>.fail) (fun _ _ _=>.fail) (fun _ _=>.fail) PUnit.unit (fun _ _ _ _=>PUnit.unit) y)
 (fun l0 n0 y k=>V.rec (motive_1:=fun _=>Res) (motive_2:=fun _=>PUnit) .fail .fail (fun _=>.fail) (fun _ _=>.fail) (fun l1 n1=>(ifk (Nat.beq l0 l1) (ifk (Nat.beq n0 n1) k .fail) .fail)) .fail (fun _ _=>.fail) .fail (fun _ _ _ _ _=>.fail) .fail .fail (fun _=>.fail) .fail (fun _ _ _=>.fail) .fail (fun _ _ _=>.fail) (fun _ _ _=>.fail) (fun _ _=>.fail) PUnit.unit (fun _ _ _ _=>PUnit.unit) y)
 (fun  y k=>V.rec (motive_1:=fun _=>Res) (motive_2:=fun _=>PUnit) .fail .fail (fun _=>.fail) (fun _ _=>.fail) (fun _ _=>.fail) k (fun _ _=>.fail) .fail (fun _ _ _ _ _=>.fail) .fail .fail (fun _=>.fail) .fail (fun _ _ _=>.fail) .fail (fun _ _ _=>.fail) (fun _ _ _=>.fail) (fun _ _=>.fail) PUnit.unit (fun _ _ _ _=>PUnit.unit) y)
 (fun b0 o0 y k=>V.rec (motive_1:=fun _=>Res) (motive_2:=fun _=>PUnit) .fail .fail (fun _=>.fail) (fun _ _=>.fail) (fun _ _=>.fail) .fail (fun b1 o1=>(ifk (Nat.beq b0.val b1.val) (ifk (Nat.beq o0 o1) k .fail) .fail)) .fail (fun _ _ _ _ _=>.fail) .fail .fail (fun _=>.fail) .fail (fun _ _ _=>.fail) .fail (fun _ _ _=>.fail) (fun _ _ _=>.fail) (fun _ _=>.fail) PUnit.unit (fun _ _ _ _=>PUnit.unit) y)
 (fun  y k=>V.rec (motive_1:=fun _=>Res) (motive_2:=fun _=>PUnit) .fail .fail (fun _=>.fail) (fun _ _=>.fail) (fun _ _=>.fail) .fail (fun _ _=>.fail) k (fun _ _ _ _ _=>.fail) .fail .fail (fun _=>.fail) .fail (fun _ _ _=>.fail) .fail (fun _ _ _=>.fail) (fun _ _ _=>.fail) (fun _ _=>.fail) PUnit.unit (fun _ _ _ _=>PUnit.unit) y)
 (fun b0 o0 l0 c0 s0 y k=>V.rec (motive_1:=fun _=>Res) (motive_2:=fun _=>PUnit) .fail .fail (fun _=>.fail) (fun _ _=>.fail) (fun _ _=>.fail) .fail (fun _ _=>.fail) .fail (fun b1 o1 l1 c1 s1=>(ifk (Nat.beq b0.val b1.val) (ifk (Nat.beq o0 o1) (ifk (Nat.beq l0 l1) (ifk (oeq c0 c1) (ifk (Nat.beq s0 s1) k .fail) .fail) .fail) .fail) .fail)) .fail .fail (fun _=>.fail) .fail (fun _ _ _=>.fail) .fail (fun _ _ _=>.fail) (fun _ _ _=>.fail) (fun _ _=>.fail) PUnit.unit (fun _ _ _ _=>PUnit.unit) y)
 (fun  y k=>V.rec (motive_1:=fun _=>Res) (motive_2:=fun _=>PUnit) .fail .fail (fun _=>.fail) (fun _ _=>.fail) (fun _ _=>.fail) .fail (fun _ _=>.fail) .fail (fun _ _ _ _ _=>.fail) k .fail (fun _=>.fail) .fail (fun _ _ _=>.fail) .fail (fun _ _ _=>.fail) (fun _ _ _=>.fail) (fun _ _=>.fail) PUnit.unit (fun _ _ _ _=>PUnit.unit) y)
 (fun  y k=>V.rec (motive_1:=fun _=>Res) (motive_2:=fun _=>PUnit) .fail .fail (fun _=>.fail) (fun _ _=>.fail) (fun _ _=>.fail) .fail (fun _ _=>.fail) .fail (fun _ _ _ _ _=>.fail) .fail k (fun _=>.fail) .fail (fun _ _ _=>.fail) .fail (fun _ _ _=>.fail) (fun _ _ _=>.fail) (fun _ _=>.fail) PUnit.unit (fun _ _ _ _=>PUnit.unit) y)
 (fun b0 y k=>V.rec (motive_1:=fun _=>Res) (motive_2:=fun _=>PUnit) .fail .fail (fun _=>.fail) (fun _ _=>.fail) (fun _ _=>.fail) .fail (fun _ _=>.fail) .fail (fun _ _ _ _ _=>.fail) .fail .fail (fun b1=>(ifk (Nat.beq b0.val b1.val) k .fail)) .fail (fun _ _ _=>.fail) .fail (fun _ _ _=>.fail) (fun _ _ _=>.fail) (fun _ _=>.fail) PUnit.unit (fun _ _ _ _=>PUnit.unit) y)
 (fun  y k=>V.rec (motive_1:=fun _=>Res) (motive_2:=fun _=>PUnit) .fail .fail (fun _=>.fail) (fun _ _=>.fail) (fun _ _=>.fail) .fail (fun _ _=>.fail) .fail (fun _ _ _ _ _=>.fail) .fail .fail (fun _=>.fail) k (fun _ _ _=>.fail) .fail (fun _ _ _=>.fail) (fun _ _ _=>.fail) (fun _ _=>.fail) PUnit.unit (fun _ _ _ _=>PUnit.unit) y)
 (fun f0 _ ih y k=>V.rec (motive_1:=fun _=>Res) (motive_2:=fun _=>PUnit) .fail .fail (fun _=>.fail) (fun _ _=>.fail) (fun _ _=>.fail) .fail (fun _ _=>.fail) .fail (fun _ _ _ _ _=>.fail) .fail .fail (fun _=>.fail) .fail (fun f1 cap1 _=>(ifk (Nat.beq f0 f1) (ih cap1 k) .fail)) .fail (fun _ _ _=>.fail) (fun _ _ _=>.fail) (fun _ _=>.fail) PUnit.unit (fun _ _ _ _=>PUnit.unit) y)
 (fun  y k=>V.rec (motive_1:=fun _=>Res) (motive_2:=fun _=>PUnit) .fail .fail (fun _=>.fail) (fun _ _=>.fail) (fun _ _=>.fail) .fail (fun _ _=>.fail) .fail (fun _ _ _ _ _=>.fail) .fail .fail (fun _=>.fail) .fail (fun _ _ _=>.fail) k (fun _ _ _=>.fail) (fun _ _ _=>.fail) (fun _ _=>.fail) PUnit.unit (fun _ _ _ _=>PUnit.unit) y)
 (fun t0 _ ih y k=>V.rec (motive_1:=fun _=>Res) (motive_2:=fun _=>PUnit) .fail .fail (fun _=>.fail) (fun _ _=>.fail) (fun _ _=>.fail) .fail (fun _ _=>.fail) .fail (fun _ _ _ _ _=>.fail) .fail .fail (fun _=>.fail) .fail (fun _ _ _=>.fail) .fail (fun t1 v1 _=>(ifk (Nat.beq t0 t1) (ih v1 k) .fail)) (fun _ _ _=>.fail) (fun _ _=>.fail) PUnit.unit (fun _ _ _ _=>PUnit.unit) y)
 (fun n0 _ ih y k=>V.rec (motive_1:=fun _=>Res) (motive_2:=fun _=>PUnit) .fail .fail (fun _=>.fail) (fun _ _=>.fail) (fun _ _=>.fail) .fail (fun _ _=>.fail) .fail (fun _ _ _ _ _=>.fail) .fail .fail (fun _=>.fail) .fail (fun _ _ _=>.fail) .fail (fun _ _ _=>.fail) (fun n1 l1 _=>(ifk (Nat.beq n0 n1) (ih l1 k) .fail)) (fun _ _=>.fail) PUnit.unit (fun _ _ _ _=>PUnit.unit) y)
 (fun _ ih y k=>V.rec (motive_1:=fun _=>Res) (motive_2:=fun _=>PUnit) .fail .fail (fun _=>.fail) (fun _ _=>.fail) (fun _ _=>.fail) .fail (fun _ _=>.fail) .fail (fun _ _ _ _ _=>.fail) .fail .fail (fun _=>.fail) .fail (fun _ _ _=>.fail) .fail (fun _ _ _=>.fail) (fun _ _ _=>.fail) (fun l1 _=>(ih l1 k)) PUnit.unit (fun _ _ _ _=>PUnit.unit) y)
 (fun ys k=>nilk' ys k) (fun _ _ ih1 ih2 ys k=>unc ys fun y ys=>ih1 y (ih2 ys k)) l : List V→Res→Res) = veqsk l:=by
 induction l with
 | nil=>rfl
 | cons v l ih=>
   funext ys k
   show (unc ys fun y ys=>veqk v y (V.rec_1 (motive_1:=fun _=>V→Res→Res) (motive_2:=fun _=>List V→Res→Res)
   (fun  y k=>V.rec (motive_1:=fun _=>Res) (motive_2:=fun _=>PUnit) k .fail (fun _=>.fail) (fun _ _=>.fail) (fun _ _=>.fail) .fail (fun _ _=>.fail) .fail (fun _ _ _ _ _=>.fail) .fail .fail (fun _=>.fail) .fail (fun _ _ _=>.fail) .fail (fun _ _ _=>.fail) (fun _ _ _=>.fail) (fun _ _=>.fail) PUnit.unit (fun _ _ _ _=>PUnit.unit) y)
   (fun  y k=>V.rec (motive_1:=fun _=>Res) (motive_2:=fun _=>PUnit) .fail k (fun _=>.fail) (fun _ _=>.fail) (fun _ _=>.fail) .fail (fun _ _=>.fail) .fail (fun _ _ _ _ _=>.fail) .fail .fail (fun _=>.fail) .fail (fun _ _ _=>.fail) .fail (fun _ _ _=>.fail) (fun _ _ _=>.fail) (fun _ _=>.fail) PUnit.unit (fun _ _ _ _=>PUnit.unit) y)
   (fun b0 y k=>V.rec (motive_1:=fun _=>Res) (motive_2:=fun _=>PUnit) .fail .fail (fun b1=>(ifk (Bool.rec (motive:=fun _=>Bool) (Bool.rec (motive:=fun _=>Bool) true false b1) b1 b0) k .fail)) (fun _ _=>.fail) (fun _ _=>.fail) .fail (fun _ _=>.fail) .fail (fun _ _ _ _ _=>.fail) .fail .fail (fun _=>.fail) .fail (fun _ _ _=>.fail) .fail (fun _ _ _=>.fail) (fun _ _ _=>.fail) (fun _ _=>.fail) PUnit.unit (fun _ _ _ _=>PUnit.unit) y)
   (fun k0 n0 y k=>V.rec (motive_1:=fun _=>Res) (motive_2:=fun _=>PUnit) .fail .fail (fun _=>.fail) (fun k1 n1=>(ifk (Nat.beq (kno k0) (kno k1)) (ifk (ieq n0 n1) k .fail) .fail)) (fun _ _=>.fail) .fail (fun _ _=>.fail) .fail (fun _ _ _ _ _=>.fail) .fail .fail (fun _=>.fail) .fail (fun _ _ _=>.fail) .fail (fun _ _ _=>.fail) (fun _ _ _=>.fail) (fun _ _=>.fail) PUnit.unit (fun _ _ _ _=>PUnit.unit) y)
   (fun l0 n0 y k=>V.rec (motive_1:=fun _=>Res) (motive_2:=fun _=>PUnit) .fail .fail (fun _=>.fail) (fun _ _=>.fail) (fun l1 n1=>(ifk (Nat.beq l0 l1) (ifk (Nat.beq n0 n1) k .fail) .fail)) .fail (fun _ _=>.fail) .fail (fun _ _ _ _ _=>.fail) .fail .fail (fun _=>.fail) .fail (fun _ _ _=>.fail) .fail (fun _ _ _=>.fail) (fun _ _ _=>.fail) (fun _ _=>.fail) PUnit.unit (fun _ _ _ _=>PUnit.unit) y)
   (fun  y k=>V.rec (motive_1:=fun _=>Res) (motive_2:=fun _=>PUnit) .fail .fail (fun _=>.fail) (fun _ _=>.fail) (fun _ _=>.fail) k (fun _ _=>.fail) .fail (fun _ _ _ _ _=>.fail) .fail .fail (fun _=>.fail) .fail (fun _ _ _=>.fail) .fail (fun _ _ _=>.fail) (fun _ _ _=>.fail) (fun _ _=>.fail) PUnit.unit (fun _ _ _ _=>PUnit.unit) y)
   (fun b0 o0 y k=>V.rec (motive_1:=fun _=>Res) (motive_2:=fun _=>PUnit) .fail .fail (fun _=>.fail) (fun _ _=>.fail) (fun _ _=>.fail) .fail (fun b1 o1=>(ifk (Nat.beq b0.val b1.val) (ifk (Nat.beq o0 o1) k .fail) .fail)) .fail (fun _ _ _ _ _=>.fail) .fail .fail (fun _=>.fail) .fail (fun _ _ _=>.fail) .fail (fun _ _ _=>.fail) (fun _ _ _=>.fail) (fun _ _=>.fail) PUnit.unit (fun _ _ _ _=>PUnit.unit) y)
   (fun  y k=>V.rec (motive_1:=fun _=>Res) (motive_2:=fun _=>PUnit) .fail .fail (fun _=>.fail) (fun _ _=>.fail) (fun _ _=>.fail) .fail (fun _ _=>.fail) k (fun _ _ _ _ _=>.fail) .fail .fail (fun _=>.fail) .fail (fun _ _ _=>.fail) .fail (fun _ _ _=>.fail) (fun _ _ _=>.fail) (fun _ _=>.fail) PUnit.unit (fun _ _ _ _=>PUnit.unit) y)
   (fun b0 o0 l0 c0 s0 y k=>V.rec (motive_1:=fun _=>Res) (motive_2:=fun _=>PUnit) .fail .fail (fun _=>.fail) (fun _ _=>.fail) (fun _ _=>.fail) .fail (fun _ _=>.fail) .fail (fun b1 o1 l1 c1 s1=>(ifk (Nat.beq b0.val b1.val) (ifk (Nat.beq o0 o1) (ifk (Nat.beq l0 l1) (ifk (oeq c0 c1) (ifk (Nat.beq s0 s1) k .fail) .fail) .fail) .fail) .fail)) .fail .fail (fun _=>.fail) .fail (fun _ _ _=>.fail) .fail (fun _ _ _=>.fail) (fun _ _ _=>.fail) (fun _ _=>.fail) PUnit.unit (fun _ _ _ _=>PUnit.unit) y)
   (fun  y k=>V.rec (motive_1:=fun _=>Res) (motive_2:=fun _=>PUnit) .fail .fail (fun _=>.fail) (fun _ _=>.fail) (fun _ _=>.fail) .fail (fun _ _=>.fail) .fail (fun _ _ _ _ _=>.fail) k .fail (fun _=>.fail) .fail (fun _ _ _=>.fail) .fail (fun _ _ _=>.fail) (fun _ _ _=>.fail) (fun _ _=>.fail) PUnit.unit (fun _ _ _ _=>PUnit.unit) y)
   (fun  y k=>V.rec (motive_1:=fun _=>Res) (motive_2:=fun _=>PUnit) .fail .fail (fun _=>.fail) (fun _ _=>.fail) (fun _ _=>.fail) .fail (fun _ _=>.fail) .fail (fun _ _ _ _ _=>.fail) .fail k (fun _=>.fail) .fail (fun _ _ _=>.fail) .fail (fun _ _ _=>.fail) (fun _ _ _=>.fail) (fun _ _=>.fail) PUnit.unit (fun _ _ _ _=>PUnit.unit) y)
   (fun b0 y k=>V.rec (motive_1:=fun _=>Res) (motive_2:=fun _=>PUnit) .fail .fail (fun _=>.fail) (fun _ _=>.fail) (fun _ _=>.fail) .fail (fun _ _=>.fail) .fail (fun _ _ _ _ _=>.fail) .fail .fail (fun b1=>(ifk (Nat.beq b0.val b1.val) k .fail)) .fail (fun _ _ _=>.fail) .fail (fun _ _ _=>.fail) (fun _ _ _=>.fail) (fun _ _=>.fail) PUnit.unit (fun _ _ _ _=>PUnit.unit) y)
   (fun  y k=>V.rec (motive_1:=fun _=>Res) (motive_2:=fun _=>PUnit) .fail .fail (fun _=>.fail) (fun _ _=>.fail) (fun _ _=>.fail) .fail (fun _ _=>.fail) .fail (fun _ _ _ _ _=>.fail) .fail .fail (fun _=>.fail) k (fun _ _ _=>.fail) .fail (fun _ _ _=>.fail) (fun _ _ _=>.fail) (fun _ _=>.fail) PUnit.unit (fun _ _ _ _=>PUnit.unit) y)
   (fun f0 _ ih y k=>V.rec (motive_1:=fun _=>Res) (motive_2:=fun _=>PUnit) .fail .fail (fun _=>.fail) (fun _ _=>.fail) (fun _ _=>.fail) .fail (fun _ _=>.fail) .fail (fun _ _ _ _ _=>.fail) .fail .fail (fun _=>.fail) .fail (fun f1 cap1 _=>(ifk (Nat.beq f0 f1) (ih cap1 k) .fail)) .fail (fun _ _ _=>.fail) (fun _ _ _=>.fail) (fun _ _=>.fail) PUnit.unit (fun _ _ _ _=>PUnit.unit) y)
   (fun  y k=>V.rec (motive_1:=fun _=>Res) (motive_2:=fun _=>PUnit) .fail .fail (fun _=>.fail) (fun _ _=>.fail) (fun _ _=>.fail) .fail (fun _ _=>.fail) .fail (fun _ _ _ _ _=>.fail) .fail .fail (fun _=>.fail) .fail (fun _ _ _=>.fail) k (fun _ _ _=>.fail) (fun _ _ _=>.fail) (fun _ _=>.fail) PUnit.unit (fun _ _ _ _=>PUnit.unit) y)
   (fun t0 _ ih y k=>V.rec (motive_1:=fun _=>Res) (motive_2:=fun _=>PUnit) .fail .fail (fun _=>.fail) (fun _ _=>.fail) (fun _ _=>.fail) .fail (fun _ _=>.fail) .fail (fun _ _ _ _ _=>.fail) .fail .fail (fun _=>.fail) .fail (fun _ _ _=>.fail) .fail (fun t1 v1 _=>(ifk (Nat.beq t0 t1) (ih v1 k) .fail)) (fun _ _ _=>.fail) (fun _ _=>.fail) PUnit.unit (fun _ _ _ _=>PUnit.unit) y)
   (fun n0 _ ih y k=>V.rec (motive_1:=fun _=>Res) (motive_2:=fun _=>PUnit) .fail .fail (fun _=>.fail) (fun _ _=>.fail) (fun _ _=>.fail) .fail (fun _ _=>.fail) .fail (fun _ _ _ _ _=>.fail) .fail .fail (fun _=>.fail) .fail (fun _ _ _=>.fail) .fail (fun _ _ _=>.fail) (fun n1 l1 _=>(ifk (Nat.beq n0 n1) (ih l1 k) .fail)) (fun _ _=>.fail) PUnit.unit (fun _ _ _ _=>PUnit.unit) y)
   (fun _ ih y k=>V.rec (motive_1:=fun _=>Res) (motive_2:=fun _=>PUnit) .fail .fail (fun _=>.fail) (fun _ _=>.fail) (fun _ _=>.fail) .fail (fun _ _=>.fail) .fail (fun _ _ _ _ _=>.fail) .fail .fail (fun _=>.fail) .fail (fun _ _ _=>.fail) .fail (fun _ _ _=>.fail) (fun _ _ _=>.fail) (fun l1 _=>(ih l1 k)) PUnit.unit (fun _ _ _ _=>PUnit.unit) y)
   (fun ys k=>nilk' ys k) (fun _ _ ih1 ih2 ys k=>unc ys fun y ys=>ih1 y (ih2 ys k)) l ys k)) = _
   rw [ih]
   rfl
mutual
theorem veqk_ok : ∀ (x : V) {y : V} {k r : Res},veqk x y k = r→r ≠ .fail→x = y∧k = r
 | .und,y,k,r,h,hr=>by
   cases y <;> first | exact absurd h.symm hr | skip
   exact ⟨rfl,h⟩
 | .skip,y,k,r,h,hr=>by
   cases y <;> first | exact absurd h.symm hr | skip
   exact ⟨rfl,h⟩
 | .bool b0,y,k,r,h,hr=>by
   cases y <;> first | exact absurd h.symm hr | skip
   obtain ⟨e0,h1⟩:=ifk_fail h hr
   have e0:=beqB e0
   subst e0
   exact ⟨rfl,h1⟩
 | .int k0 n0,y,k,r,h,hr=>by
   cases y <;> first | exact absurd h.symm hr | skip
   obtain ⟨e0,h1⟩:=ifk_fail h hr
   have e0:=kno_inj e0
   obtain ⟨e1,h2⟩:=ifk_fail h1 hr
   have e1:=of_decide_eq_true ((ieq_eq _ _).symm.trans e1)
   subst e0 e1
   exact ⟨rfl,h2⟩
 | .str l0 n0,y,k,r,h,hr=>by
   cases y <;> first | exact absurd h.symm hr | skip
   obtain ⟨e0,h1⟩:=ifk_fail h hr
   have e0:=Nat.eq_of_beq_eq_true e0
   obtain ⟨e1,h2⟩:=ifk_fail h1 hr
   have e1:=Nat.eq_of_beq_eq_true e1
   subst e0 e1
   exact ⟨rfl,h2⟩
 | .nilp,y,k,r,h,hr=>by
   cases y <;> first | exact absurd h.symm hr | skip
   exact ⟨rfl,h⟩
 | .ptr b0 o0,y,k,r,h,hr=>by
   cases y <;> first | exact absurd h.symm hr | skip
   obtain ⟨e0,h1⟩:=ifk_fail h hr
   have e0:=Bid.val_inj (Nat.eq_of_beq_eq_true e0)
   obtain ⟨e1,h2⟩:=ifk_fail h1 hr
   have e1:=Nat.eq_of_beq_eq_true e1
   subst e0 e1
   exact ⟨rfl,h2⟩
 | .nils,y,k,r,h,hr=>by
   cases y <;> first | exact absurd h.symm hr | skip
   exact ⟨rfl,h⟩
 | .slice b0 o0 l0 c0 s0,y,k,r,h,hr=>by
   cases y <;> first | exact absurd h.symm hr | skip
   obtain ⟨e0,h1⟩:=ifk_fail h hr
   have e0:=Bid.val_inj (Nat.eq_of_beq_eq_true e0)
   obtain ⟨e1,h2⟩:=ifk_fail h1 hr
   have e1:=Nat.eq_of_beq_eq_true e1
   obtain ⟨e2,h3⟩:=ifk_fail h2 hr
   have e2:=Nat.eq_of_beq_eq_true e2
   obtain ⟨e3,h4⟩:=ifk_fail h3 hr
   have e3:=oeq_eq e3
   obtain ⟨e4,h5⟩:=ifk_fail h4 hr
   have e4:=Nat.eq_of_beq_eq_true e4
   subst e0 e1 e2 e3 e4
   exact ⟨rfl,h5⟩
 | .emp,y,k,r,h,hr=>by
   cases y <;> first | exact absurd h.symm hr | skip
   exact ⟨rfl,h⟩
 | .nilm,y,k,r,h,hr=>by
   cases y <;> first | exact absurd h.symm hr | skip
   exact ⟨rfl,h⟩
 | .map b0,y,k,r,h,hr=>by
   cases y <;> first | exact absurd h.symm hr | skip
   obtain ⟨e0,h1⟩:=ifk_fail h hr
   have e0:=Bid.val_inj (Nat.eq_of_beq_eq_true e0)
   subst e0
   exact ⟨rfl,h1⟩
 | .nilf,y,k,r,h,hr=>by
   cases y <;> first | exact absurd h.symm hr | skip
   exact ⟨rfl,h⟩
 | .func f0 cap0,y,k,r,h,hr=>by
   cases y <;> first | exact absurd h.symm hr | skip
   obtain ⟨e0,h1⟩:=ifk_fail h hr
   have e0:=Nat.eq_of_beq_eq_true e0
   have g1:=h1
   obtain ⟨e1,h2⟩:=veqs_ok cap0 ((congrFun (congrFun (veqsk_eq cap0) _) _).symm.trans h1) hr
   subst e0 e1
   exact ⟨rfl,h2⟩
 | .nili,y,k,r,h,hr=>by
   cases y <;> first | exact absurd h.symm hr | skip
   exact ⟨rfl,h⟩
 | .iface t0 v0,y,k,r,h,hr=>by
   cases y <;> first | exact absurd h.symm hr | skip
   obtain ⟨e0,h1⟩:=ifk_fail h hr
   have e0:=Nat.eq_of_beq_eq_true e0
   obtain ⟨e1,h2⟩:=veqk_ok v0 h1 hr
   subst e0 e1
   exact ⟨rfl,h2⟩
 | .agg n0 l0,y,k,r,h,hr=>by
   cases y <;> first | exact absurd h.symm hr | skip
   obtain ⟨e0,h1⟩:=ifk_fail h hr
   have e0:=Nat.eq_of_beq_eq_true e0
   have g1:=h1
   obtain ⟨e1,h2⟩:=veqs_ok l0 ((congrFun (congrFun (veqsk_eq l0) _) _).symm.trans h1) hr
   subst e0 e1
   exact ⟨rfl,h2⟩
 | .tup l0,y,k,r,h,hr=>by
   cases y <;> first | exact absurd h.symm hr | skip
   have g0:=h
   obtain ⟨e0,h1⟩:=veqs_ok l0 ((congrFun (congrFun (veqsk_eq l0) _) _).symm.trans h) hr
   subst e0
   exact ⟨rfl,h1⟩
theorem veqs_ok : ∀ (l : List V) {ys : List V} {k r : Res},veqsk l ys k = r→r ≠ .fail→l = ys∧k = r
 | [],ys,k,r,h,hr=>by
   obtain ⟨rfl,h1⟩:=nilk'_ok (show nilk' ys k = r from h) hr
   exact ⟨rfl,h1⟩
 | v :: l,ys,k,r,h,hr=>by
   obtain ⟨y,ys,rfl,h1⟩:=unc_ok (show unc ys (fun y ys=>veqk v y (veqsk l ys k)) = r from h) hr
   obtain ⟨rfl,h2⟩:=veqk_ok v h1 hr
   obtain ⟨rfl,h3⟩:=veqs_ok l h2 hr
   exact ⟨rfl,h3⟩
end
end Go.Ev
