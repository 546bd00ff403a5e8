/- EvHeap: texts joined. -/
import Derived.Orders
import Derived.Laws.Sem
import Derived.Laws.Cells
/- EVALUATOR, 1: abstract values, the abstract heap, and what they stand for. -/
namespace Go.Ev
inductive D where
 | d0 | d1 | d2 | d3 | d4 | d5 | d6 | d7 | d8 | d9 | da | db | dc | dd | de | df
structure N (α : Type) where
 (x0 x1 x2 x3 x4 x5 x6 x7 x8 x9 xa xb xc xd xe xf : α)
def N.get {α : Type} (n : N α) : D→α
 | .d0=>n.x0
 | .d1=>n.x1
 | .d2=>n.x2
 | .d3=>n.x3
 | .d4=>n.x4
 | .d5=>n.x5
 | .d6=>n.x6
 | .d7=>n.x7
 | .d8=>n.x8
 | .d9=>n.x9
 | .da=>n.xa
 | .db=>n.xb
 | .dc=>n.xc
 | .dd=>n.xd
 | .de=>n.xe
 | .df=>n.xf
def N.set {α : Type} (n : N α) (d : D) (v : α) : N α:=
 match d with
 | .d0=>{ n with x0:=v }
 | .d1=>{ n with x1:=v }
 | .d2=>{ n with x2:=v }
 | .d3=>{ n with x3:=v }
 | .d4=>{ n with x4:=v }
 | .d5=>{ n with x5:=v }
 | .d6=>{ n with x6:=v }
 | .d7=>{ n with x7:=v }
 | .d8=>{ n with x8:=v }
 | .d9=>{ n with x9:=v }
 | .da=>{ n with xa:=v }
 | .db=>{ n with xb:=v }
 | .dc=>{ n with xc:=v }
 | .dd=>{ n with xd:=v }
 | .de=>{ n with xe:=v }
 | .df=>{ n with xf:=v }
def N.all {α : Type} (v : α) : N α:=⟨v,v,v,v,v,v,v,v,v,v,v,v,v,v,v,v⟩
def D.val : D→Nat
 | .d0=>0
 | .d1=>1
 | .d2=>2
 | .d3=>3
 | .d4=>4
 | .d5=>5
 | .d6=>6
 | .d7=>7
 | .d8=>8
 | .d9=>9
 | .da=>10
 | .db=>11
 | .dc=>12
 | .dd=>13
 | .de=>14
 | .df=>15
def D.ofNat : Nat→D
 | 0=>.d0
 | 1=>.d1
 | 2=>.d2
 | 3=>.d3
 | 4=>.d4
 | 5=>.d5
 | 6=>.d6
 | 7=>.d7
 | 8=>.d8
 | 9=>.d9
 | 10=>.da
 | 11=>.db
 | 12=>.dc
 | 13=>.dd
 | 14=>.de
 | _=>.df
theorem N.get_set {α : Type} (n : N α) (d : D) (v : α) : (n.set d v).get d = v:=by cases d <;> rfl
theorem N.get_set_ne {α : Type} (n : N α) {d d' : D} (h : d' ≠ d) (v : α) : (n.set d v).get d' = n.get d':=by
 cases d <;> cases d' <;> first | rfl | exact absurd rfl h
theorem N.get_all {α : Type} (v : α) (d : D) : (N.all v).get d = v:=by cases d <;> rfl
structure Bid where
 a : Nat
 (b c d e : D)
def Bid.val (b : Bid) : Nat:=((((b.a * 16 + b.b.val) * 16 + b.c.val) * 16 + b.d.val) * 16 + b.e.val)
inductive V where
 | und
 | skip
 | bool (b : Bool)
 | int (k : IntKind) (n : Int)
 | str (l n : Nat)
 | nilp
 | ptr (b : Bid) (o : Nat)
 | nils
 | slice (b : Bid) (o l : Nat) (c : Option Nat) (s : Nat)
 | emp
 | nilm
 | map (b : Bid)
 | nilf
 | func (f : Nat) (cap : List V)
 | nili
 | iface (t : Nat) (v : V)
 | agg (n : Nat) (l : List V)
 | tup (l : List V)
def dig : Nat→Nat→List UInt8
 | 0,_=>[]
 | l + 1,n=>UInt8.ofNat (n % 256) :: dig l (n / 256)
abbrev Rho:=Bid→Option (Nat × Nat × Nat)
mutual
inductive VR (ρ : Rho) : V→Value→Prop where
 | und (x : Value) : VR ρ .und x
 | skip : VR ρ .skip Go.undef
 | bool (b : Bool) : VR ρ (.bool b) (.bool b)
 | int (k : IntKind) (n : Int) : VR ρ (.int k n) (.int k n)
 | str {l n : Nat} {s : ByteArray} (h : s.data.toList = dig l n) (hn : n < 256 ^ l) : VR ρ (.str l n) (.string s)
 | nilp : VR ρ .nilp (.pointer none)
 | ptr {b : Bid} {o c z S : Nat} (h : ρ b = some (c,z,S)) : VR ρ (.ptr b o) (.pointer (some ⟨c,z + o,none⟩))
 | nils : VR ρ .nils (.slice none 0 0)
 | slice {b : Bid} {o l : Nat} {cp : Option Nat} {s cap c z S : Nat} (h : ρ b = some (c,z,S)) (hc : ∀ n,cp = some n→cap = n) (ht : cp = none→z + o + cap * s = S)
    (hl : l ≤ cap) : VR ρ (.slice b o l cp s) (.slice (some ⟨c,z + o,none⟩) l cap)
 | emp (a : Addr) (cap : Nat) : VR ρ .emp (.slice (some a) 0 cap)
 | nilm : VR ρ .nilm (.map none)
 | map {b : Bid} {c z S : Nat} (h : ρ b = some (c,z,S)) : VR ρ (.map b) (.map (some c))
 | nilf : VR ρ .nilf .nilFunc
 | yld {b : Bid} {c z S : Nat} (h : ρ b = some (c,z,S)) : VR ρ (.func 4294967296 [.ptr b 0]) (.func (.yield c) #[] #[])
 | func {f k F : Nat} {cap : List V} {first cs : Array Value} (hf : f < 32768) (hk : first.size = k) (hk2 : k < 65536) (hF : F = f + 65536 * k) (h : VRs ρ cap (first.toList ++ cs.toList)) : VR ρ (.func F cap) (.func (.func f) first cs)
 | nili : VR ρ .nili .nilIface
 | iface {t : Nat} {v : V} {x : Value} (h : VR ρ v x) : VR ρ (.iface t v) (.iface t x)
 | agg {n : Nat} {l : List V} {cs : Array Value} (h : VRs ρ l cs.toList) (hc : ∀ x ∈ cs.toList,x.oneCell' = true) (hn : l.length = n) : VR ρ (.agg n l) (.agg cs)
 | tup {l : List V} {cs : Array Value} (h : VRs ρ l cs.toList) : VR ρ (.tup l) (.tuple cs)
inductive VRs (ρ : Rho) : List V→List Value→Prop where
 | nil : VRs ρ [] []
 | cons {v : V} {x : Value} {l : List V} {xs : List Value} (h : VR ρ v x) (hs : VRs ρ l xs) : VRs ρ (v :: l) (x :: xs)
end
def Rho.le (ρ ρ' : Rho) : Prop:=∀ b x,ρ b = some x→ρ' b = some x
theorem Rho.le.refl (ρ : Rho) : ρ.le ρ:=fun _ _ h=>h
theorem Rho.le.trans {ρ ρ' ρ'' : Rho} (h : ρ.le ρ') (h' : ρ'.le ρ'') : ρ.le ρ'':=fun b x hx=>h' b x (h b x hx)
mutual
theorem VR.mono {ρ ρ' : Rho} (h : ρ.le ρ') {v : V} {x : Value} : VR ρ v x→VR ρ' v x
 | .und x=>.und x
 | .skip=>.skip
 | .bool b=>.bool b
 | .int k n=>.int k n
 | .str h hn=>.str h hn
 | .nilp=>.nilp
 | .ptr hb=>.ptr (h _ _ hb)
 | .nils=>.nils
 | .slice hb hc ht hl=>.slice (h _ _ hb) hc ht hl
 | .emp a cap=>.emp a cap
 | .nilm=>.nilm
 | .map hb=>.map (h _ _ hb)
 | .nilf=>.nilf
 | .yld hb=>.yld (h _ _ hb)
 | .func hf hk hk2 hF hs=>.func hf hk hk2 hF (VRs.mono h hs)
 | .nili=>.nili
 | .iface hv=>.iface (VR.mono h hv)
 | .agg hs hc hn=>.agg (VRs.mono h hs) hc hn
 | .tup hs=>.tup (VRs.mono h hs)
theorem VRs.mono {ρ ρ' : Rho} (h : ρ.le ρ') {l : List V} {xs : List Value} : VRs ρ l xs→VRs ρ' l xs
 | .nil=>.nil
 | .cons hv hs=>.cons (VR.mono h hv) (VRs.mono h hs)
end
theorem VRs.length {ρ : Rho} {l : List V} {xs : List Value} (h : VRs ρ l xs) : l.length = xs.length:=by
 induction l generalizing xs with
 | nil=>cases h; rfl
 | cons v l ih=>cases h with | cons hv hs=>simp [ih hs]
theorem VRs.get {ρ : Rho} {l : List V} {xs : List Value} (h : VRs ρ l xs) {i : Nat} {v : V} (hi : l[i]? = some v) : ∃ x,xs[i]? = some x∧VR ρ v x:=by
 induction l generalizing xs i with
 | nil=>simp at hi
 | cons u l ih=>
   cases h with
   | cons hv hs=>
     cases i with
     | zero=>simp at hi; subst hi; exact ⟨_,by simp,hv⟩
     | succ i=>simp at hi; obtain ⟨x,h1,h2⟩:=ih hs hi; exact ⟨x,by simpa using h1,h2⟩
theorem VRs.append {ρ : Rho} {l l' : List V} {xs xs' : List Value} (h : VRs ρ l xs) (h' : VRs ρ l' xs') : VRs ρ (l ++ l') (xs ++ xs'):=by
 induction l generalizing xs with
 | nil=>cases h; exact h'
 | cons v l ih=>cases h with | cons hv hs=>exact .cons hv (ih hs)
theorem VRs.of_get {ρ : Rho} {l : List V} {xs : List Value} (hl : l.length = xs.length) (h : ∀ (i : Nat) (v : V),l[i]? = some v→∃ x,xs[i]? = some x∧VR ρ v x) : VRs ρ l xs:=by
 induction l generalizing xs with
 | nil=>cases xs with | nil=>exact .nil | cons x xs=>simp at hl
 | cons v l ih=>
   cases xs with
   | nil=>simp at hl
   | cons x xs=>
     obtain ⟨y,h1,h2⟩:=h 0 v (by simp)
     simp at h1; subst h1
     exact .cons h2 (ih (by simpa using hl) fun i u hu=>by simpa using h (i + 1) u (by simpa using hu))
theorem VRs.drop {ρ : Rho} {l : List V} {xs : List Value} (h : VRs ρ l xs) (n : Nat) : VRs ρ (l.drop n) (xs.drop n):=by
 induction n generalizing l xs with
 | zero=>simpa using h
 | succ n ih=>cases h with | nil=>simpa using VRs.nil | cons hv hs=>simpa using ih hs
theorem VRs.take {ρ : Rho} {l : List V} {xs : List Value} (h : VRs ρ l xs) (n : Nat) : VRs ρ (l.take n) (xs.take n):=by
 induction n generalizing l xs with
 | zero=>simpa using VRs.nil
 | succ n ih=>cases h with | nil=>simpa using VRs.nil | cons hv hs=>simpa using VRs.cons hv (ih hs)
inductive T where
 | e
 | lf (c : List V)
 | nd (a b : T)
def T.get : T→Nat→Option (List V)
 | .e,_=>none
 | .lf c,i=>if i = 0 then some c else none
 | .nd a b,i=>if i % 2 = 0 then a.get (i / 2) else b.get (i / 2)
def T.set : T→Nat→List V→Option T
 | .e,i,c=>if i = 0 then some (.lf c) else none
 | .lf c0,i,c=>if i = 0 then some (.lf c) else if i = 1 then some (.nd (.lf c0) (.lf c)) else none
 | .nd a b,i,c=>if i % 2 = 0 then (a.set (i / 2) c).map (.nd · b) else (b.set (i / 2) c).map (.nd a ·)
theorem T.get_set {t t' : T} {i : Nat} {c : List V} (h : t.set i c = some t') (j : Nat) : t'.get j = if j = i then some c else t.get j:=by
 induction t generalizing t' i j with
 | e=>
   simp only [T.set] at h
   split at h
   · subst i; cases h; simp [T.get]
   · cases h
 | lf c0=>
   simp only [T.set] at h
   split at h
   · subst i; cases h; simp only [T.get]; split <;> rfl
   · split at h
     · subst i; cases h
       simp only [T.get]
       by_cases h1 : j = 1
       · subst h1; simp
       · rw [if_neg h1]
         by_cases h2 : j % 2 = 0
         · rw [if_pos h2]
           by_cases h3 : j = 0
           · subst h3; simp
           · rw [if_neg h3,if_neg (by omega)]
         · rw [if_neg h2,if_neg (by omega),if_neg (by omega)]
     · cases h
 | nd a b iha ihb=>
   simp only [T.set] at h
   split at h
   · rename_i hi
     obtain ⟨a',ha,rfl⟩:=Option.map_eq_some_iff.1 h
     simp only [T.get]
     by_cases hj : j % 2 = 0
     · rw [if_pos hj,if_pos hj,iha ha]
       by_cases e : j = i
       · subst e; simp
       · rw [if_neg e,if_neg (by omega)]
     · rw [if_neg hj,if_neg hj,if_neg (by omega)]
   · rename_i hi
     obtain ⟨b',hb,rfl⟩:=Option.map_eq_some_iff.1 h
     simp only [T.get]
     by_cases hj : j % 2 = 0
     · rw [if_pos hj,if_pos hj,if_neg (by omega)]
     · rw [if_neg hj,if_neg hj,ihb hb]
       by_cases e : j = i
       · subst e; simp
       · rw [if_neg e,if_neg (by omega)]
def T.rep (c : List V) : Nat→Nat→T
 | 0,_=>.e
 | f + 1,n=>if n = 0 then .e else if n = 1 then .lf c else .nd (T.rep c f ((n + 1) / 2)) (T.rep c f (n / 2))
theorem T.get_rep (c : List V) (f n : Nat) (hf : n ≤ f) (i : Nat) : (T.rep c f n).get i = if i < n then some c else none:=by
 induction f generalizing n i with
 | zero=>obtain rfl : n = 0:=by omega
         simp [T.rep,T.get]
 | succ f ih=>
   simp only [T.rep]
   split
   · subst n; simp [T.get]
   · split
     · subst n; simp only [T.get]; (split <;> first | (rw [if_pos (by omega)]; done) | (rw [if_neg (by omega)]; done))
     · simp only [T.get]
       split
       · rw [ih _ (by omega)]; (split <;> first | (rw [if_pos (by omega)]; done) | (rw [if_neg (by omega)]; done))
       · rw [ih _ (by omega)]; (split <;> first | (rw [if_pos (by omega)]; done) | (rw [if_neg (by omega)]; done))
structure ME where
 (key val : V)
inductive Oth where
 | mp (es : List ME) (clock : Nat)
 | it (l n p : Nat)
 | lp (id mask : Nat) (vs : List V) (st pend : Nat)
 | mi (m : Option Bid) (since : Nat) (seen : List V) (last : Nat)
 | st (el g : Nat) (t : T)
 | bs (el l n : Nat)
 | num (k : IntKind)
inductive Blk where
 | none
 | arr (g n : Nat) (t : T) (op : Bool)
 | ob (x : Oth)
abbrev H4:=N (N (N (N Blk)))
def H4.e : H4:=N.all (N.all (N.all (N.all Blk.none)))
abbrev HT:=List H4
structure Heap where
 (t : HT)
 (nx : Bid)
def H4.get (t : H4) (b : Bid) : Blk:=N.get (N.get (N.get (N.get t b.b) b.c) b.d) b.e
def H4.set (t : H4) (b : Bid) (x : Blk) : H4:=N.set t b.b (N.set (N.get t b.b) b.c (N.set (N.get (N.get t b.b) b.c) b.d (N.set (N.get (N.get (N.get t b.b) b.c) b.d) b.e x)))
def HT.top : HT→Nat→H4
 | [],_=>H4.e
 | x :: _,0=>x
 | _ :: l,n + 1=>HT.top l n
def HT.put : HT→Nat→H4→HT
 | [],0,y=>[y]
 | [],n + 1,y=>H4.e :: HT.put [] n y
 | _ :: l,0,y=>y :: l
 | x :: l,n + 1,y=>x :: HT.put l n y
theorem HT.top_put (t : HT) (n : Nat) (y : H4) (m : Nat) : (HT.put t n y).top m = if m = n then y else t.top m:=by
 induction n generalizing t m with
 | zero=>cases t <;> cases m <;> simp [HT.put,HT.top]
 | succ n ih=>cases t <;> cases m <;> simp [HT.put,HT.top,ih]
def HT.get (t : HT) (b : Bid) : Blk:=(t.top b.a).get b
def HT.set (t : HT) (b : Bid) (x : Blk) : HT:=t.put b.a ((t.top b.a).set b x)
def HT.empty : HT:=[]
theorem H4.get_set (t : H4) (b : Bid) (x : Blk) : (t.set b x).get b = x:=by
 simp [H4.get,H4.set,N.get_set]
theorem H4.get_set_ne (t : H4) {b b' : Bid} (h : b' ≠ b) (ha : b'.a = b.a) (x : Blk) : (t.set b x).get b' = t.get b':=by
 obtain ⟨a,b,c,d,e⟩:=b
 obtain ⟨a',b',c',d',e'⟩:=b'
 cases ha
 simp only [H4.get,H4.set]
 by_cases h2 : b' = b
 · subst h2
   rw [N.get_set]
   by_cases h3 : c' = c
   · subst h3
     rw [N.get_set]
     by_cases h4 : d' = d
     · subst h4
       rw [N.get_set,N.get_set_ne]
       rintro rfl; exact h rfl
     · rw [N.get_set_ne _ h4]
   · rw [N.get_set_ne _ h3]
 · rw [N.get_set_ne _ h2]
theorem HT.get_set (t : HT) (b : Bid) (x : Blk) : (t.set b x).get b = x:=by
 rw [HT.get,HT.set,HT.top_put,if_pos rfl,H4.get_set]
theorem HT.get_set_ne (t : HT) {b b' : Bid} (h : b' ≠ b) (x : Blk) : (t.set b x).get b' = t.get b':=by
 rw [HT.get,HT.set,HT.top_put]
 by_cases e : b'.a = b.a
 · rw [if_pos e,H4.get_set_ne _ h e,HT.get,e]
 · rw [if_neg e]; rfl
theorem HT.get_empty (b : Bid) : HT.empty.get b = .none:=by simp [HT.get,HT.empty,HT.top,H4.get,H4.e,N.get_all]
theorem D.val_lt (d : D) : d.val < 16:=by cases d <;> decide
theorem D.val_inj {d e : D} (h : d.val = e.val) : d = e:=by cases d <;> cases e <;> first | rfl | (exfalso; revert h; decide)
theorem Bid.val_inj {x y : Bid} (h : x.val = y.val) : x = y:=by
 obtain ⟨a,b,c,d,e⟩:=x
 obtain ⟨a',b',c',d',e'⟩:=y
 have h2:=b.val_lt; have h3:=c.val_lt; have h4:=d.val_lt; have h5:=e.val_lt
 have h2':=b'.val_lt; have h3':=c'.val_lt; have h4':=d'.val_lt; have h5':=e'.val_lt
 simp only [Bid.val] at h
 have e5 : e.val = e'.val:=by omega
 have e4 : d.val = d'.val:=by omega
 have e3 : c.val = c'.val:=by omega
 have e2 : b.val = b'.val:=by omega
 have e1 : a = a':=by omega
 rw [e1,D.val_inj e2,D.val_inj e3,D.val_inj e4,D.val_inj e5]
def D.next : D→Option D
 | .d0=>some .d1 | .d1=>some .d2 | .d2=>some .d3 | .d3=>some .d4 | .d4=>some .d5 | .d5=>some .d6 | .d6=>some .d7 | .d7=>some .d8
 | .d8=>some .d9 | .d9=>some .da | .da=>some .db | .db=>some .dc | .dc=>some .dd | .dd=>some .de | .de=>some .df | .df=>none
theorem D.next_val {d e : D} (h : d.next = some e) : e.val = d.val + 1:=by cases d <;> simp [D.next] at h <;> subst h <;> rfl
theorem D.next_none {d : D} (h : d.next = none) : d.val = 15:=by cases d <;> simp [D.next] at h <;> rfl
theorem D.val_d0 : D.d0.val = 0:=rfl
def Bid.next (x : Bid) : Option Bid:=
 match x.e.next with
 | some e=>some { x with e }
 | none=>match x.d.next with
   | some d=>some { x with d,e:=.d0 }
   | none=>match x.c.next with
     | some c=>some { x with c,d:=.d0,e:=.d0 }
     | none=>match x.b.next with
       | some b=>some { x with b,c:=.d0,d:=.d0,e:=.d0 }
       | none=>some { a:=x.a + 1,b:=.d0,c:=.d0,d:=.d0,e:=.d0 }
theorem Bid.next_val {x y : Bid} (h : x.next = some y) : y.val = x.val + 1:=by
 unfold Bid.next at h
 split at h
 · rename_i e he; cases h; simp only [Bid.val,D.next_val he]; omega
 · rename_i he; have:=D.next_none he
   split at h
   · rename_i d hd; cases h; simp only [Bid.val,D.next_val hd,this,D.val_d0]; omega
   · rename_i hd; have:=D.next_none hd
     split at h
     · rename_i c hc; cases h; simp only [Bid.val,D.next_val hc, *,D.val_d0]; omega
     · rename_i hc; have:=D.next_none hc
       split at h
       · rename_i b hb; cases h; simp only [Bid.val,D.next_val hb, *,D.val_d0]; omega
       · rename_i hb; have:=D.next_none hb
         cases h; simp only [Bid.val, *,D.val_d0]; omega
abbrev Env:=N (N V)
structure Slot where
 (a b : D)
inductive Ex where
 | normal
 | exit (id : Nat)
 | ret
 | pan (v : V)
inductive Res where
 | fail
 | done (e : Ex) (vs : List V) (h : Heap)
 | ret (v : V) (h : Heap)
 | pan (v : V) (h : Heap)
 | alt (a b : Res)
def Leaf (x : Res) : Res→Prop
 | .alt a b=>Leaf x a ∨ Leaf x b
 | .fail=>x = .fail
 | .done e vs h=>x = .done e vs h
 | .ret v h=>x = .ret v h
 | .pan v h=>x = .pan v h
def Le (q r : Res) : Prop:=∀ x,Leaf x q→Leaf x r
theorem Le.refl (r : Res) : Le r r:=fun _ h=>h
theorem Le.trans {a b c : Res} (h : Le a b) (g : Le b c) : Le a c:=fun x hx=>g x (h x hx)
theorem Le.of_eq {a b : Res} (h : a = b) : Le a b:=h ▸ .refl _
def Fine (r : Res) : Prop:=¬ Leaf .fail r
theorem Fine.ne {r : Res} (h : Fine r) : r ≠ .fail:=by rintro rfl; exact h rfl
theorem Fine.le {q r : Res} (h : Fine r) (g : Le q r) : Fine q:=fun hx=>h (g _ hx)
theorem fine_ret (v : V) (h : Heap) : Fine (.ret v h):=fun e=>by cases e
def Res.one : Res→Prop
 | .alt _ _=>False
 | _=>True
theorem Leaf.one {x r : Res} (h : Leaf x r) : x.one:=by
 induction r with
 | alt a b ha hb=>exact h.elim ha hb
 | _=>cases h; trivial
end Go.Ev

/- EVALUATOR: readings and writings of nodes. Printed by gen_sel.py. -/
namespace Go.Ev
noncomputable def selV (d : D) (n : N (V)) (k : V→Res) : Res:=
 D.rec (motive:=fun _=>N (V)→(V→Res)→Res)
  (fun n k=>N.rec (motive:=fun _=>Res) (fun x0 _ _ _ _ _ _ _ _ _ _ _ _ _ _ _=>k x0) n)
  (fun n k=>N.rec (motive:=fun _=>Res) (fun _ x1 _ _ _ _ _ _ _ _ _ _ _ _ _ _=>k x1) n)
  (fun n k=>N.rec (motive:=fun _=>Res) (fun _ _ x2 _ _ _ _ _ _ _ _ _ _ _ _ _=>k x2) n)
  (fun n k=>N.rec (motive:=fun _=>Res) (fun _ _ _ x3 _ _ _ _ _ _ _ _ _ _ _ _=>k x3) n)
  (fun n k=>N.rec (motive:=fun _=>Res) (fun _ _ _ _ x4 _ _ _ _ _ _ _ _ _ _ _=>k x4) n)
  (fun n k=>N.rec (motive:=fun _=>Res) (fun _ _ _ _ _ x5 _ _ _ _ _ _ _ _ _ _=>k x5) n)
  (fun n k=>N.rec (motive:=fun _=>Res) (fun _ _ _ _ _ _ x6 _ _ _ _ _ _ _ _ _=>k x6) n)
  (fun n k=>N.rec (motive:=fun _=>Res) (fun _ _ _ _ _ _ _ x7 _ _ _ _ _ _ _ _=>k x7) n)
  (fun n k=>N.rec (motive:=fun _=>Res) (fun _ _ _ _ _ _ _ _ x8 _ _ _ _ _ _ _=>k x8) n)
  (fun n k=>N.rec (motive:=fun _=>Res) (fun _ _ _ _ _ _ _ _ _ x9 _ _ _ _ _ _=>k x9) n)
  (fun n k=>N.rec (motive:=fun _=>Res) (fun _ _ _ _ _ _ _ _ _ _ xa _ _ _ _ _=>k xa) n)
  (fun n k=>N.rec (motive:=fun _=>Res) (fun _ _ _ _ _ _ _ _ _ _ _ xb _ _ _ _=>k xb) n)
  (fun n k=>N.rec (motive:=fun _=>Res) (fun _ _ _ _ _ _ _ _ _ _ _ _ xc _ _ _=>k xc) n)
  (fun n k=>N.rec (motive:=fun _=>Res) (fun _ _ _ _ _ _ _ _ _ _ _ _ _ xd _ _=>k xd) n)
  (fun n k=>N.rec (motive:=fun _=>Res) (fun _ _ _ _ _ _ _ _ _ _ _ _ _ _ xe _=>k xe) n)
  (fun n k=>N.rec (motive:=fun _=>Res) (fun _ _ _ _ _ _ _ _ _ _ _ _ _ _ _ xf=>k xf) n) d n k
theorem selV_eq (d : D) (n : N (V)) (k : V→Res) : selV d n k = k (n.get d):=by cases d <;> rfl
noncomputable def updV (d : D) (f : V→(V→Res)→Res) (n : N (V)) (k : N (V)→Res) : Res:=
 D.rec (motive:=fun _=>(V→(V→Res)→Res)→N (V)→(N (V)→Res)→Res)
  (fun f n k=>N.rec (motive:=fun _=>Res) (fun x0 x1 x2 x3 x4 x5 x6 x7 x8 x9 xa xb xc xd xe xf=>f x0 fun y=>k (N.mk y x1 x2 x3 x4 x5 x6 x7 x8 x9 xa xb xc xd xe xf)) n)
  (fun f n k=>N.rec (motive:=fun _=>Res) (fun x0 x1 x2 x3 x4 x5 x6 x7 x8 x9 xa xb xc xd xe xf=>f x1 fun y=>k (N.mk x0 y x2 x3 x4 x5 x6 x7 x8 x9 xa xb xc xd xe xf)) n)
  (fun f n k=>N.rec (motive:=fun _=>Res) (fun x0 x1 x2 x3 x4 x5 x6 x7 x8 x9 xa xb xc xd xe xf=>f x2 fun y=>k (N.mk x0 x1 y x3 x4 x5 x6 x7 x8 x9 xa xb xc xd xe xf)) n)
  (fun f n k=>N.rec (motive:=fun _=>Res) (fun x0 x1 x2 x3 x4 x5 x6 x7 x8 x9 xa xb xc xd xe xf=>f x3 fun y=>k (N.mk x0 x1 x2 y x4 x5 x6 x7 x8 x9 xa xb xc xd xe xf)) n)
  (fun f n k=>N.rec (motive:=fun _=>Res) (fun x0 x1 x2 x3 x4 x5 x6 x7 x8 x9 xa xb xc xd xe xf=>f x4 fun y=>k (N.mk x0 x1 x2 x3 y x5 x6 x7 x8 x9 xa xb xc xd xe xf)) n)
  (fun f n k=>N.rec (motive:=fun _=>Res) (fun x0 x1 x2 x3 x4 x5 x6 x7 x8 x9 xa xb xc xd xe xf=>f x5 fun y=>k (N.mk x0 x1 x2 x3 x4 y x6 x7 x8 x9 xa xb xc xd xe xf)) n)
  (fun f n k=>N.rec (motive:=fun _=>Res) (fun x0 x1 x2 x3 x4 x5 x6 x7 x8 x9 xa xb xc xd xe xf=>f x6 fun y=>k (N.mk x0 x1 x2 x3 x4 x5 y x7 x8 x9 xa xb xc xd xe xf)) n)
  (fun f n k=>N.rec (motive:=fun _=>Res) (fun x0 x1 x2 x3 x4 x5 x6 x7 x8 x9 xa xb xc xd xe xf=>f x7 fun y=>k (N.mk x0 x1 x2 x3 x4 x5 x6 y x8 x9 xa xb xc xd xe xf)) n)
  (fun f n k=>N.rec (motive:=fun _=>Res) (fun x0 x1 x2 x3 x4 x5 x6 x7 x8 x9 xa xb xc xd xe xf=>f x8 fun y=>k (N.mk x0 x1 x2 x3 x4 x5 x6 x7 y x9 xa xb xc xd xe xf)) n)
  (fun f n k=>N.rec (motive:=fun _=>Res) (fun x0 x1 x2 x3 x4 x5 x6 x7 x8 x9 xa xb xc xd xe xf=>f x9 fun y=>k (N.mk x0 x1 x2 x3 x4 x5 x6 x7 x8 y xa xb xc xd xe xf)) n)
  (fun f n k=>N.rec (motive:=fun _=>Res) (fun x0 x1 x2 x3 x4 x5 x6 x7 x8 x9 xa xb xc xd xe xf=>f xa fun y=>k (N.mk x0 x1 x2 x3 x4 x5 x6 x7 x8 x9 y xb xc xd xe xf)) n)
  (fun f n k=>N.rec (motive:=fun _=>Res) (fun x0 x1 x2 x3 x4 x5 x6 x7 x8 x9 xa xb xc xd xe xf=>f xb fun y=>k (N.mk x0 x1 x2 x3 x4 x5 x6 x7 x8 x9 xa y xc xd xe xf)) n)
  (fun f n k=>N.rec (motive:=fun _=>Res) (fun x0 x1 x2 x3 x4 x5 x6 x7 x8 x9 xa xb xc xd xe xf=>f xc fun y=>k (N.mk x0 x1 x2 x3 x4 x5 x6 x7 x8 x9 xa xb y xd xe xf)) n)
  (fun f n k=>N.rec (motive:=fun _=>Res) (fun x0 x1 x2 x3 x4 x5 x6 x7 x8 x9 xa xb xc xd xe xf=>f xd fun y=>k (N.mk x0 x1 x2 x3 x4 x5 x6 x7 x8 x9 xa xb xc y xe xf)) n)
  (fun f n k=>N.rec (motive:=fun _=>Res) (fun x0 x1 x2 x3 x4 x5 x6 x7 x8 x9 xa xb xc xd xe xf=>f xe fun y=>k (N.mk x0 x1 x2 x3 x4 x5 x6 x7 x8 x9 xa xb xc xd y xf)) n)
  (fun f n k=>N.rec (motive:=fun _=>Res) (fun x0 x1 x2 x3 x4 x5 x6 x7 x8 x9 xa xb xc xd xe xf=>f xf fun y=>k (N.mk x0 x1 x2 x3 x4 x5 x6 x7 x8 x9 xa xb xc xd xe y)) n) d f n k
theorem updV_eq (d : D) (f : V→(V→Res)→Res) (n : N (V)) (k : N (V)→Res) : updV d f n k = f (n.get d) (fun y=>k (n.set d y)):=by cases d <;> rfl
noncomputable def selR (d : D) (n : N (N V)) (k : N V→Res) : Res:=
 D.rec (motive:=fun _=>N (N V)→(N V→Res)→Res)
  (fun n k=>N.rec (motive:=fun _=>Res) (fun x0 _ _ _ _ _ _ _ _ _ _ _ _ _ _ _=>k x0) n)
  (fun n k=>N.rec (motive:=fun _=>Res) (fun _ x1 _ _ _ _ _ _ _ _ _ _ _ _ _ _=>k x1) n)
  (fun n k=>N.rec (motive:=fun _=>Res) (fun _ _ x2 _ _ _ _ _ _ _ _ _ _ _ _ _=>k x2) n)
  (fun n k=>N.rec (motive:=fun _=>Res) (fun _ _ _ x3 _ _ _ _ _ _ _ _ _ _ _ _=>k x3) n)
  (fun n k=>N.rec (motive:=fun _=>Res) (fun _ _ _ _ x4 _ _ _ _ _ _ _ _ _ _ _=>k x4) n)
  (fun n k=>N.rec (motive:=fun _=>Res) (fun _ _ _ _ _ x5 _ _ _ _ _ _ _ _ _ _=>k x5) n)
  (fun n k=>N.rec (motive:=fun _=>Res) (fun _ _ _ _ _ _ x6 _ _ _ _ _ _ _ _ _=>k x6) n)
  (fun n k=>N.rec (motive:=fun _=>Res) (fun _ _ _ _ _ _ _ x7 _ _ _ _ _ _ _ _=>k x7) n)
  (fun n k=>N.rec (motive:=fun _=>Res) (fun _ _ _ _ _ _ _ _ x8 _ _ _ _ _ _ _=>k x8) n)
  (fun n k=>N.rec (motive:=fun _=>Res) (fun _ _ _ _ _ _ _ _ _ x9 _ _ _ _ _ _=>k x9) n)
  (fun n k=>N.rec (motive:=fun _=>Res) (fun _ _ _ _ _ _ _ _ _ _ xa _ _ _ _ _=>k xa) n)
  (fun n k=>N.rec (motive:=fun _=>Res) (fun _ _ _ _ _ _ _ _ _ _ _ xb _ _ _ _=>k xb) n)
  (fun n k=>N.rec (motive:=fun _=>Res) (fun _ _ _ _ _ _ _ _ _ _ _ _ xc _ _ _=>k xc) n)
  (fun n k=>N.rec (motive:=fun _=>Res) (fun _ _ _ _ _ _ _ _ _ _ _ _ _ xd _ _=>k xd) n)
  (fun n k=>N.rec (motive:=fun _=>Res) (fun _ _ _ _ _ _ _ _ _ _ _ _ _ _ xe _=>k xe) n)
  (fun n k=>N.rec (motive:=fun _=>Res) (fun _ _ _ _ _ _ _ _ _ _ _ _ _ _ _ xf=>k xf) n) d n k
theorem selR_eq (d : D) (n : N (N V)) (k : N V→Res) : selR d n k = k (n.get d):=by cases d <;> rfl
noncomputable def updR (d : D) (f : N V→(N V→Res)→Res) (n : N (N V)) (k : N (N V)→Res) : Res:=
 D.rec (motive:=fun _=>(N V→(N V→Res)→Res)→N (N V)→(N (N V)→Res)→Res)
  (fun f n k=>N.rec (motive:=fun _=>Res) (fun x0 x1 x2 x3 x4 x5 x6 x7 x8 x9 xa xb xc xd xe xf=>f x0 fun y=>k (N.mk y x1 x2 x3 x4 x5 x6 x7 x8 x9 xa xb xc xd xe xf)) n)
  (fun f n k=>N.rec (motive:=fun _=>Res) (fun x0 x1 x2 x3 x4 x5 x6 x7 x8 x9 xa xb xc xd xe xf=>f x1 fun y=>k (N.mk x0 y x2 x3 x4 x5 x6 x7 x8 x9 xa xb xc xd xe xf)) n)
  (fun f n k=>N.rec (motive:=fun _=>Res) (fun x0 x1 x2 x3 x4 x5 x6 x7 x8 x9 xa xb xc xd xe xf=>f x2 fun y=>k (N.mk x0 x1 y x3 x4 x5 x6 x7 x8 x9 xa xb xc xd xe xf)) n)
  (fun f n k=>N.rec (motive:=fun _=>Res) (fun x0 x1 x2 x3 x4 x5 x6 x7 x8 x9 xa xb xc xd xe xf=>f x3 fun y=>k (N.mk x0 x1 x2 y x4 x5 x6 x7 x8 x9 xa xb xc xd xe xf)) n)
  (fun f n k=>N.rec (motive:=fun _=>Res) (fun x0 x1 x2 x3 x4 x5 x6 x7 x8 x9 xa xb xc xd xe xf=>f x4 fun y=>k (N.mk x0 x1 x2 x3 y x5 x6 x7 x8 x9 xa xb xc xd xe xf)) n)
  (fun f n k=>N.rec (motive:=fun _=>Res) (fun x0 x1 x2 x3 x4 x5 x6 x7 x8 x9 xa xb xc xd xe xf=>f x5 fun y=>k (N.mk x0 x1 x2 x3 x4 y x6 x7 x8 x9 xa xb xc xd xe xf)) n)
  (fun f n k=>N.rec (motive:=fun _=>Res) (fun x0 x1 x2 x3 x4 x5 x6 x7 x8 x9 xa xb xc xd xe xf=>f x6 fun y=>k (N.mk x0 x1 x2 x3 x4 x5 y x7 x8 x9 xa xb xc xd xe xf)) n)
  (fun f n k=>N.rec (motive:=fun _=>Res) (fun x0 x1 x2 x3 x4 x5 x6 x7 x8 x9 xa xb xc xd xe xf=>f x7 fun y=>k (N.mk x0 x1 x2 x3 x4 x5 x6 y x8 x9 xa xb xc xd xe xf)) n)
  (fun f n k=>N.rec (motive:=fun _=>Res) (fun x0 x1 x2 x3 x4 x5 x6 x7 x8 x9 xa xb xc xd xe xf=>f x8 fun y=>k (N.mk x0 x1 x2 x3 x4 x5 x6 x7 y x9 xa xb xc xd xe xf)) n)
  (fun f n k=>N.rec (motive:=fun _=>Res) (fun x0 x1 x2 x3 x4 x5 x6 x7 x8 x9 xa xb xc xd xe xf=>f x9 fun y=>k (N.mk x0 x1 x2 x3 x4 x5 x6 x7 x8 y xa xb xc xd xe xf)) n)
  (fun f n k=>N.rec (motive:=fun _=>Res) (fun x0 x1 x2 x3 x4 x5 x6 x7 x8 x9 xa xb xc xd xe xf=>f xa fun y=>k (N.mk x0 x1 x2 x3 x4 x5 x6 x7 x8 x9 y xb xc xd xe xf)) n)
  (fun f n k=>N.rec (motive:=fun _=>Res) (fun x0 x1 x2 x3 x4 x5 x6 x7 x8 x9 xa xb xc xd xe xf=>f xb fun y=>k (N.mk x0 x1 x2 x3 x4 x5 x6 x7 x8 x9 xa y xc xd xe xf)) n)
  (fun f n k=>N.rec (motive:=fun _=>Res) (fun x0 x1 x2 x3 x4 x5 x6 x7 x8 x9 xa xb xc xd xe xf=>f xc fun y=>k (N.mk x0 x1 x2 x3 x4 x5 x6 x7 x8 x9 xa xb y xd xe xf)) n)
  (fun f n k=>N.rec (motive:=fun _=>Res) (fun x0 x1 x2 x3 x4 x5 x6 x7 x8 x9 xa xb xc xd xe xf=>f xd fun y=>k (N.mk x0 x1 x2 x3 x4 x5 x6 x7 x8 x9 xa xb xc y xe xf)) n)
  (fun f n k=>N.rec (motive:=fun _=>Res) (fun x0 x1 x2 x3 x4 x5 x6 x7 x8 x9 xa xb xc xd xe xf=>f xe fun y=>k (N.mk x0 x1 x2 x3 x4 x5 x6 x7 x8 x9 xa xb xc xd y xf)) n)
  (fun f n k=>N.rec (motive:=fun _=>Res) (fun x0 x1 x2 x3 x4 x5 x6 x7 x8 x9 xa xb xc xd xe xf=>f xf fun y=>k (N.mk x0 x1 x2 x3 x4 x5 x6 x7 x8 x9 xa xb xc xd xe y)) n) d f n k
theorem updR_eq (d : D) (f : N V→(N V→Res)→Res) (n : N (N V)) (k : N (N V)→Res) : updR d f n k = f (n.get d) (fun y=>k (n.set d y)):=by cases d <;> rfl
noncomputable def updB (d : D) (f : Blk→(Blk→Res)→Res) (n : N (Blk)) (k : N (Blk)→Res) : Res:=
 D.rec (motive:=fun _=>(Blk→(Blk→Res)→Res)→N (Blk)→(N (Blk)→Res)→Res)
  (fun f n k=>N.rec (motive:=fun _=>Res) (fun x0 x1 x2 x3 x4 x5 x6 x7 x8 x9 xa xb xc xd xe xf=>f x0 fun y=>k (N.mk y x1 x2 x3 x4 x5 x6 x7 x8 x9 xa xb xc xd xe xf)) n)
  (fun f n k=>N.rec (motive:=fun _=>Res) (fun x0 x1 x2 x3 x4 x5 x6 x7 x8 x9 xa xb xc xd xe xf=>f x1 fun y=>k (N.mk x0 y x2 x3 x4 x5 x6 x7 x8 x9 xa xb xc xd xe xf)) n)
  (fun f n k=>N.rec (motive:=fun _=>Res) (fun x0 x1 x2 x3 x4 x5 x6 x7 x8 x9 xa xb xc xd xe xf=>f x2 fun y=>k (N.mk x0 x1 y x3 x4 x5 x6 x7 x8 x9 xa xb xc xd xe xf)) n)
  (fun f n k=>N.rec (motive:=fun _=>Res) (fun x0 x1 x2 x3 x4 x5 x6 x7 x8 x9 xa xb xc xd xe xf=>f x3 fun y=>k (N.mk x0 x1 x2 y x4 x5 x6 x7 x8 x9 xa xb xc xd xe xf)) n)
  (fun f n k=>N.rec (motive:=fun _=>Res) (fun x0 x1 x2 x3 x4 x5 x6 x7 x8 x9 xa xb xc xd xe xf=>f x4 fun y=>k (N.mk x0 x1 x2 x3 y x5 x6 x7 x8 x9 xa xb xc xd xe xf)) n)
  (fun f n k=>N.rec (motive:=fun _=>Res) (fun x0 x1 x2 x3 x4 x5 x6 x7 x8 x9 xa xb xc xd xe xf=>f x5 fun y=>k (N.mk x0 x1 x2 x3 x4 y x6 x7 x8 x9 xa xb xc xd xe xf)) n)
  (fun f n k=>N.rec (motive:=fun _=>Res) (fun x0 x1 x2 x3 x4 x5 x6 x7 x8 x9 xa xb xc xd xe xf=>f x6 fun y=>k (N.mk x0 x1 x2 x3 x4 x5 y x7 x8 x9 xa xb xc xd xe xf)) n)
  (fun f n k=>N.rec (motive:=fun _=>Res) (fun x0 x1 x2 x3 x4 x5 x6 x7 x8 x9 xa xb xc xd xe xf=>f x7 fun y=>k (N.mk x0 x1 x2 x3 x4 x5 x6 y x8 x9 xa xb xc xd xe xf)) n)
  (fun f n k=>N.rec (motive:=fun _=>Res) (fun x0 x1 x2 x3 x4 x5 x6 x7 x8 x9 xa xb xc xd xe xf=>f x8 fun y=>k (N.mk x0 x1 x2 x3 x4 x5 x6 x7 y x9 xa xb xc xd xe xf)) n)
  (fun f n k=>N.rec (motive:=fun _=>Res) (fun x0 x1 x2 x3 x4 x5 x6 x7 x8 x9 xa xb xc xd xe xf=>f x9 fun y=>k (N.mk x0 x1 x2 x3 x4 x5 x6 x7 x8 y xa xb xc xd xe xf)) n)
  (fun f n k=>N.rec (motive:=fun _=>Res) (fun x0 x1 x2 x3 x4 x5 x6 x7 x8 x9 xa xb xc xd xe xf=>f xa fun y=>k (N.mk x0 x1 x2 x3 x4 x5 x6 x7 x8 x9 y xb xc xd xe xf)) n)
  (fun f n k=>N.rec (motive:=fun _=>Res) (fun x0 x1 x2 x3 x4 x5 x6 x7 x8 x9 xa xb xc xd xe xf=>f xb fun y=>k (N.mk x0 x1 x2 x3 x4 x5 x6 x7 x8 x9 xa y xc xd xe xf)) n)
  (fun f n k=>N.rec (motive:=fun _=>Res) (fun x0 x1 x2 x3 x4 x5 x6 x7 x8 x9 xa xb xc xd xe xf=>f xc fun y=>k (N.mk x0 x1 x2 x3 x4 x5 x6 x7 x8 x9 xa xb y xd xe xf)) n)
  (fun f n k=>N.rec (motive:=fun _=>Res) (fun x0 x1 x2 x3 x4 x5 x6 x7 x8 x9 xa xb xc xd xe xf=>f xd fun y=>k (N.mk x0 x1 x2 x3 x4 x5 x6 x7 x8 x9 xa xb xc y xe xf)) n)
  (fun f n k=>N.rec (motive:=fun _=>Res) (fun x0 x1 x2 x3 x4 x5 x6 x7 x8 x9 xa xb xc xd xe xf=>f xe fun y=>k (N.mk x0 x1 x2 x3 x4 x5 x6 x7 x8 x9 xa xb xc xd y xf)) n)
  (fun f n k=>N.rec (motive:=fun _=>Res) (fun x0 x1 x2 x3 x4 x5 x6 x7 x8 x9 xa xb xc xd xe xf=>f xf fun y=>k (N.mk x0 x1 x2 x3 x4 x5 x6 x7 x8 x9 xa xb xc xd xe y)) n) d f n k
theorem updB_eq (d : D) (f : Blk→(Blk→Res)→Res) (n : N (Blk)) (k : N (Blk)→Res) : updB d f n k = f (n.get d) (fun y=>k (n.set d y)):=by cases d <;> rfl
noncomputable def getB (d : D) (n : N (Blk)) : Blk:=D.rec (motive:=fun _=>Blk) n.x0 n.x1 n.x2 n.x3 n.x4 n.x5 n.x6 n.x7 n.x8 n.x9 n.xa n.xb n.xc n.xd n.xe n.xf d
theorem getB_eq (d : D) (n : N (Blk)) : getB d n = n.get d:=by cases d <;> rfl
noncomputable def updB1 (d : D) (f : N Blk→(N Blk→Res)→Res) (n : N (N Blk)) (k : N (N Blk)→Res) : Res:=
 D.rec (motive:=fun _=>(N Blk→(N Blk→Res)→Res)→N (N Blk)→(N (N Blk)→Res)→Res)
  (fun f n k=>N.rec (motive:=fun _=>Res) (fun x0 x1 x2 x3 x4 x5 x6 x7 x8 x9 xa xb xc xd xe xf=>f x0 fun y=>k (N.mk y x1 x2 x3 x4 x5 x6 x7 x8 x9 xa xb xc xd xe xf)) n)
  (fun f n k=>N.rec (motive:=fun _=>Res) (fun x0 x1 x2 x3 x4 x5 x6 x7 x8 x9 xa xb xc xd xe xf=>f x1 fun y=>k (N.mk x0 y x2 x3 x4 x5 x6 x7 x8 x9 xa xb xc xd xe xf)) n)
  (fun f n k=>N.rec (motive:=fun _=>Res) (fun x0 x1 x2 x3 x4 x5 x6 x7 x8 x9 xa xb xc xd xe xf=>f x2 fun y=>k (N.mk x0 x1 y x3 x4 x5 x6 x7 x8 x9 xa xb xc xd xe xf)) n)
  (fun f n k=>N.rec (motive:=fun _=>Res) (fun x0 x1 x2 x3 x4 x5 x6 x7 x8 x9 xa xb xc xd xe xf=>f x3 fun y=>k (N.mk x0 x1 x2 y x4 x5 x6 x7 x8 x9 xa xb xc xd xe xf)) n)
  (fun f n k=>N.rec (motive:=fun _=>Res) (fun x0 x1 x2 x3 x4 x5 x6 x7 x8 x9 xa xb xc xd xe xf=>f x4 fun y=>k (N.mk x0 x1 x2 x3 y x5 x6 x7 x8 x9 xa xb xc xd xe xf)) n)
  (fun f n k=>N.rec (motive:=fun _=>Res) (fun x0 x1 x2 x3 x4 x5 x6 x7 x8 x9 xa xb xc xd xe xf=>f x5 fun y=>k (N.mk x0 x1 x2 x3 x4 y x6 x7 x8 x9 xa xb xc xd xe xf)) n)
  (fun f n k=>N.rec (motive:=fun _=>Res) (fun x0 x1 x2 x3 x4 x5 x6 x7 x8 x9 xa xb xc xd xe xf=>f x6 fun y=>k (N.mk x0 x1 x2 x3 x4 x5 y x7 x8 x9 xa xb xc xd xe xf)) n)
  (fun f n k=>N.rec (motive:=fun _=>Res) (fun x0 x1 x2 x3 x4 x5 x6 x7 x8 x9 xa xb xc xd xe xf=>f x7 fun y=>k (N.mk x0 x1 x2 x3 x4 x5 x6 y x8 x9 xa xb xc xd xe xf)) n)
  (fun f n k=>N.rec (motive:=fun _=>Res) (fun x0 x1 x2 x3 x4 x5 x6 x7 x8 x9 xa xb xc xd xe xf=>f x8 fun y=>k (N.mk x0 x1 x2 x3 x4 x5 x6 x7 y x9 xa xb xc xd xe xf)) n)
  (fun f n k=>N.rec (motive:=fun _=>Res) (fun x0 x1 x2 x3 x4 x5 x6 x7 x8 x9 xa xb xc xd xe xf=>f x9 fun y=>k (N.mk x0 x1 x2 x3 x4 x5 x6 x7 x8 y xa xb xc xd xe xf)) n)
  (fun f n k=>N.rec (motive:=fun _=>Res) (fun x0 x1 x2 x3 x4 x5 x6 x7 x8 x9 xa xb xc xd xe xf=>f xa fun y=>k (N.mk x0 x1 x2 x3 x4 x5 x6 x7 x8 x9 y xb xc xd xe xf)) n)
  (fun f n k=>N.rec (motive:=fun _=>Res) (fun x0 x1 x2 x3 x4 x5 x6 x7 x8 x9 xa xb xc xd xe xf=>f xb fun y=>k (N.mk x0 x1 x2 x3 x4 x5 x6 x7 x8 x9 xa y xc xd xe xf)) n)
  (fun f n k=>N.rec (motive:=fun _=>Res) (fun x0 x1 x2 x3 x4 x5 x6 x7 x8 x9 xa xb xc xd xe xf=>f xc fun y=>k (N.mk x0 x1 x2 x3 x4 x5 x6 x7 x8 x9 xa xb y xd xe xf)) n)
  (fun f n k=>N.rec (motive:=fun _=>Res) (fun x0 x1 x2 x3 x4 x5 x6 x7 x8 x9 xa xb xc xd xe xf=>f xd fun y=>k (N.mk x0 x1 x2 x3 x4 x5 x6 x7 x8 x9 xa xb xc y xe xf)) n)
  (fun f n k=>N.rec (motive:=fun _=>Res) (fun x0 x1 x2 x3 x4 x5 x6 x7 x8 x9 xa xb xc xd xe xf=>f xe fun y=>k (N.mk x0 x1 x2 x3 x4 x5 x6 x7 x8 x9 xa xb xc xd y xf)) n)
  (fun f n k=>N.rec (motive:=fun _=>Res) (fun x0 x1 x2 x3 x4 x5 x6 x7 x8 x9 xa xb xc xd xe xf=>f xf fun y=>k (N.mk x0 x1 x2 x3 x4 x5 x6 x7 x8 x9 xa xb xc xd xe y)) n) d f n k
theorem updB1_eq (d : D) (f : N Blk→(N Blk→Res)→Res) (n : N (N Blk)) (k : N (N Blk)→Res) : updB1 d f n k = f (n.get d) (fun y=>k (n.set d y)):=by cases d <;> rfl
noncomputable def getB1 (d : D) (n : N (N Blk)) : N Blk:=D.rec (motive:=fun _=>N Blk) n.x0 n.x1 n.x2 n.x3 n.x4 n.x5 n.x6 n.x7 n.x8 n.x9 n.xa n.xb n.xc n.xd n.xe n.xf d
theorem getB1_eq (d : D) (n : N (N Blk)) : getB1 d n = n.get d:=by cases d <;> rfl
noncomputable def updB2 (d : D) (f : N (N Blk)→(N (N Blk)→Res)→Res) (n : N (N (N Blk))) (k : N (N (N Blk))→Res) : Res:=
 D.rec (motive:=fun _=>(N (N Blk)→(N (N Blk)→Res)→Res)→N (N (N Blk))→(N (N (N Blk))→Res)→Res)
  (fun f n k=>N.rec (motive:=fun _=>Res) (fun x0 x1 x2 x3 x4 x5 x6 x7 x8 x9 xa xb xc xd xe xf=>f x0 fun y=>k (N.mk y x1 x2 x3 x4 x5 x6 x7 x8 x9 xa xb xc xd xe xf)) n)
  (fun f n k=>N.rec (motive:=fun _=>Res) (fun x0 x1 x2 x3 x4 x5 x6 x7 x8 x9 xa xb xc xd xe xf=>f x1 fun y=>k (N.mk x0 y x2 x3 x4 x5 x6 x7 x8 x9 xa xb xc xd xe xf)) n)
  (fun f n k=>N.rec (motive:=fun _=>Res) (fun x0 x1 x2 x3 x4 x5 x6 x7 x8 x9 xa xb xc xd xe xf=>f x2 fun y=>k (N.mk x0 x1 y x3 x4 x5 x6 x7 x8 x9 xa xb xc xd xe xf)) n)
  (fun f n k=>N.rec (motive:=fun _=>Res) (fun x0 x1 x2 x3 x4 x5 x6 x7 x8 x9 xa xb xc xd xe xf=>f x3 fun y=>k (N.mk x0 x1 x2 y x4 x5 x6 x7 x8 x9 xa xb xc xd xe xf)) n)
  (fun f n k=>N.rec (motive:=fun _=>Res) (fun x0 x1 x2 x3 x4 x5 x6 x7 x8 x9 xa xb xc xd xe xf=>f x4 fun y=>k (N.mk x0 x1 x2 x3 y x5 x6 x7 x8 x9 xa xb xc xd xe xf)) n)
  (fun f n k=>N.rec (motive:=fun _=>Res) (fun x0 x1 x2 x3 x4 x5 x6 x7 x8 x9 xa xb xc xd xe xf=>f x5 fun y=>k (N.mk x0 x1 x2 x3 x4 y x6 x7 x8 x9 xa xb xc xd xe xf)) n)
  (fun f n k=>N.rec (motive:=fun _=>Res) (fun x0 x1 x2 x3 x4 x5 x6 x7 x8 x9 xa xb xc xd xe xf=>f x6 fun y=>k (N.mk x0 x1 x2 x3 x4 x5 y x7 x8 x9 xa xb xc xd xe xf)) n)
  (fun f n k=>N.rec (motive:=fun _=>Res) (fun x0 x1 x2 x3 x4 x5 x6 x7 x8 x9 xa xb xc xd xe xf=>f x7 fun y=>k (N.mk x0 x1 x2 x3 x4 x5 x6 y x8 x9 xa xb xc xd xe xf)) n)
  (fun f n k=>N.rec (motive:=fun _=>Res) (fun x0 x1 x2 x3 x4 x5 x6 x7 x8 x9 xa xb xc xd xe xf=>f x8 fun y=>k (N.mk x0 x1 x2 x3 x4 x5 x6 x7 y x9 xa xb xc xd xe xf)) n)
  (fun f n k=>N.rec (motive:=fun _=>Res) (fun x0 x1 x2 x3 x4 x5 x6 x7 x8 x9 xa xb xc xd xe xf=>f x9 fun y=>k (N.mk x0 x1 x2 x3 x4 x5 x6 x7 x8 y xa xb xc xd xe xf)) n)
  (fun f n k=>N.rec (motive:=fun _=>Res) (fun x0 x1 x2 x3 x4 x5 x6 x7 x8 x9 xa xb xc xd xe xf=>f xa fun y=>k (N.mk x0 x1 x2 x3 x4 x5 x6 x7 x8 x9 y xb xc xd xe xf)) n)
  (fun f n k=>N.rec (motive:=fun _=>Res) (fun x0 x1 x2 x3 x4 x5 x6 x7 x8 x9 xa xb xc xd xe xf=>f xb fun y=>k (N.mk x0 x1 x2 x3 x4 x5 x6 x7 x8 x9 xa y xc xd xe xf)) n)
  (fun f n k=>N.rec (motive:=fun _=>Res) (fun x0 x1 x2 x3 x4 x5 x6 x7 x8 x9 xa xb xc xd xe xf=>f xc fun y=>k (N.mk x0 x1 x2 x3 x4 x5 x6 x7 x8 x9 xa xb y xd xe xf)) n)
  (fun f n k=>N.rec (motive:=fun _=>Res) (fun x0 x1 x2 x3 x4 x5 x6 x7 x8 x9 xa xb xc xd xe xf=>f xd fun y=>k (N.mk x0 x1 x2 x3 x4 x5 x6 x7 x8 x9 xa xb xc y xe xf)) n)
  (fun f n k=>N.rec (motive:=fun _=>Res) (fun x0 x1 x2 x3 x4 x5 x6 x7 x8 x9 xa xb xc xd xe xf=>f xe fun y=>k (N.mk x0 x1 x2 x3 x4 x5 x6 x7 x8 x9 xa xb xc xd y xf)) n)
  (fun f n k=>N.rec (motive:=fun _=>Res) (fun x0 x1 x2 x3 x4 x5 x6 x7 x8 x9 xa xb xc xd xe xf=>f xf fun y=>k (N.mk x0 x1 x2 x3 x4 x5 x6 x7 x8 x9 xa xb xc xd xe y)) n) d f n k
theorem updB2_eq (d : D) (f : N (N Blk)→(N (N Blk)→Res)→Res) (n : N (N (N Blk))) (k : N (N (N Blk))→Res) : updB2 d f n k = f (n.get d) (fun y=>k (n.set d y)):=by cases d <;> rfl
noncomputable def getB2 (d : D) (n : N (N (N Blk))) : N (N Blk):=D.rec (motive:=fun _=>N (N Blk)) n.x0 n.x1 n.x2 n.x3 n.x4 n.x5 n.x6 n.x7 n.x8 n.x9 n.xa n.xb n.xc n.xd n.xe n.xf d
theorem getB2_eq (d : D) (n : N (N (N Blk))) : getB2 d n = n.get d:=by cases d <;> rfl
noncomputable def updB3 (d : D) (f : N (N (N Blk))→(N (N (N Blk))→Res)→Res) (n : N (N (N (N Blk)))) (k : N (N (N (N Blk)))→Res) : Res:=
 D.rec (motive:=fun _=>(N (N (N Blk))→(N (N (N Blk))→Res)→Res)→N (N (N (N Blk)))→(N (N (N (N Blk)))→Res)→Res)
  (fun f n k=>N.rec (motive:=fun _=>Res) (fun x0 x1 x2 x3 x4 x5 x6 x7 x8 x9 xa xb xc xd xe xf=>f x0 fun y=>k (N.mk y x1 x2 x3 x4 x5 x6 x7 x8 x9 xa xb xc xd xe xf)) n)
  (fun f n k=>N.rec (motive:=fun _=>Res) (fun x0 x1 x2 x3 x4 x5 x6 x7 x8 x9 xa xb xc xd xe xf=>f x1 fun y=>k (N.mk x0 y x2 x3 x4 x5 x6 x7 x8 x9 xa xb xc xd xe xf)) n)
  (fun f n k=>N.rec (motive:=fun _=>Res) (fun x0 x1 x2 x3 x4 x5 x6 x7 x8 x9 xa xb xc xd xe xf=>f x2 fun y=>k (N.mk x0 x1 y x3 x4 x5 x6 x7 x8 x9 xa xb xc xd xe xf)) n)
  (fun f n k=>N.rec (motive:=fun _=>Res) (fun x0 x1 x2 x3 x4 x5 x6 x7 x8 x9 xa xb xc xd xe xf=>f x3 fun y=>k (N.mk x0 x1 x2 y x4 x5 x6 x7 x8 x9 xa xb xc xd xe xf)) n)
  (fun f n k=>N.rec (motive:=fun _=>Res) (fun x0 x1 x2 x3 x4 x5 x6 x7 x8 x9 xa xb xc xd xe xf=>f x4 fun y=>k (N.mk x0 x1 x2 x3 y x5 x6 x7 x8 x9 xa xb xc xd xe xf)) n)
  (fun f n k=>N.rec (motive:=fun _=>Res) (fun x0 x1 x2 x3 x4 x5 x6 x7 x8 x9 xa xb xc xd xe xf=>f x5 fun y=>k (N.mk x0 x1 x2 x3 x4 y x6 x7 x8 x9 xa xb xc xd xe xf)) n)
  (fun f n k=>N.rec (motive:=fun _=>Res) (fun x0 x1 x2 x3 x4 x5 x6 x7 x8 x9 xa xb xc xd xe xf=>f x6 fun y=>k (N.mk x0 x1 x2 x3 x4 x5 y x7 x8 x9 xa xb xc xd xe xf)) n)
  (fun f n k=>N.rec (motive:=fun _=>Res) (fun x0 x1 x2 x3 x4 x5 x6 x7 x8 x9 xa xb xc xd xe xf=>f x7 fun y=>k (N.mk x0 x1 x2 x3 x4 x5 x6 y x8 x9 xa xb xc xd xe xf)) n)
  (fun f n k=>N.rec (motive:=fun _=>Res) (fun x0 x1 x2 x3 x4 x5 x6 x7 x8 x9 xa xb xc xd xe xf=>f x8 fun y=>k (N.mk x0 x1 x2 x3 x4 x5 x6 x7 y x9 xa xb xc xd xe xf)) n)
  (fun f n k=>N.rec (motive:=fun _=>Res) (fun x0 x1 x2 x3 x4 x5 x6 x7 x8 x9 xa xb xc xd xe xf=>f x9 fun y=>k (N.mk x0 x1 x2 x3 x4 x5 x6 x7 x8 y xa xb xc xd xe xf)) n)
  (fun f n k=>N.rec (motive:=fun _=>Res) (fun x0 x1 x2 x3 x4 x5 x6 x7 x8 x9 xa xb xc xd xe xf=>f xa fun y=>k (N.mk x0 x1 x2 x3 x4 x5 x6 x7 x8 x9 y xb xc xd xe xf)) n)
  (fun f n k=>N.rec (motive:=fun _=>Res) (fun x0 x1 x2 x3 x4 x5 x6 x7 x8 x9 xa xb xc xd xe xf=>f xb fun y=>k (N.mk x0 x1 x2 x3 x4 x5 x6 x7 x8 x9 xa y xc xd xe xf)) n)
  (fun f n k=>N.rec (motive:=fun _=>Res) (fun x0 x1 x2 x3 x4 x5 x6 x7 x8 x9 xa xb xc xd xe xf=>f xc fun y=>k (N.mk x0 x1 x2 x3 x4 x5 x6 x7 x8 x9 xa xb y xd xe xf)) n)
  (fun f n k=>N.rec (motive:=fun _=>Res) (fun x0 x1 x2 x3 x4 x5 x6 x7 x8 x9 xa xb xc xd xe xf=>f xd fun y=>k (N.mk x0 x1 x2 x3 x4 x5 x6 x7 x8 x9 xa xb xc y xe xf)) n)
  (fun f n k=>N.rec (motive:=fun _=>Res) (fun x0 x1 x2 x3 x4 x5 x6 x7 x8 x9 xa xb xc xd xe xf=>f xe fun y=>k (N.mk x0 x1 x2 x3 x4 x5 x6 x7 x8 x9 xa xb xc xd y xf)) n)
  (fun f n k=>N.rec (motive:=fun _=>Res) (fun x0 x1 x2 x3 x4 x5 x6 x7 x8 x9 xa xb xc xd xe xf=>f xf fun y=>k (N.mk x0 x1 x2 x3 x4 x5 x6 x7 x8 x9 xa xb xc xd xe y)) n) d f n k
theorem updB3_eq (d : D) (f : N (N (N Blk))→(N (N (N Blk))→Res)→Res) (n : N (N (N (N Blk)))) (k : N (N (N (N Blk)))→Res) : updB3 d f n k = f (n.get d) (fun y=>k (n.set d y)):=by cases d <;> rfl
noncomputable def getB3 (d : D) (n : N (N (N (N Blk)))) : N (N (N Blk)):=D.rec (motive:=fun _=>N (N (N Blk))) n.x0 n.x1 n.x2 n.x3 n.x4 n.x5 n.x6 n.x7 n.x8 n.x9 n.xa n.xb n.xc n.xd n.xe n.xf d
theorem getB3_eq (d : D) (n : N (N (N (N Blk)))) : getB3 d n = n.get d:=by cases d <;> rfl
end Go.Ev

/- EVALUATOR, 2: an abstract heap and the world that it stands for; what an allocation, a load and a store do to both. -/
namespace Go.Ev
variable {P : Program}
def Blk.wr : Blk→Bool
 | .none=>false
 | .arr _ _ _ ro=>!ro
 | .ob (.num _)=>false
 | .ob _=>true
def Thaw (fz : Nat × Nat) (S g : Nat) : Prop:=fz.1 = fz.2 ∨ (S ≤ fz.1∧g = 1)
theorem Thaw.not {fz : Nat × Nat} {S g : Nat} (h : Thaw fz S g) (i : Nat) (hi : i < S) : ¬ (fz.1 ≤ i∧i < fz.2):=by
 rcases h with h | h <;> omega
structure ArrR (ρ : Rho) (w : World) (c z S g n : Nat) (t : T) (ro : Bool) (cs : Array Value) : Prop where
 pos : 0 < g
 at_ : ∃ el fz,w.heap[c]? = some (.cells cs el fz)∧(ro = false→Thaw fz S g)
 size : cs.size = S
 fits : z + n * g ≤ S
 cells : ∀ (j : Nat) (ch : List V),t.get j = some ch→j < n∧ch.length = g∧∀ (i : Nat) (v : V),ch[i]? = some v→∃ x,cs[z + j * g + i]? = some x∧VR ρ v x∧x.oneCell' = true
def KeyR : V→Value→Prop
 | .str l n,.string s=>s.data.toList = dig l n∧n < 256 ^ l
 | .int k n,.int k' n'=>k = k'∧n = n'
 | _,_=>False
def ksort : V→Option (Option IntKind)
 | .str _ _=>some none
 | .int k _=>some (some k)
 | _=>none
def MapL (ρ : Rho) : List ME→List MapEntry→Prop
 | [],[]=>True
 | m :: l,e :: es=>KeyR m.key e.key∧VR ρ m.val e.val∧MapL ρ l es
 | _,_=>False
structure MapR (ρ : Rho) (es : List ME) (ces : List MapEntry) (clock : Nat) : Prop where
 perm : ∃ l,l.Perm ces∧MapL ρ es l
 keys : es.Pairwise fun a b=>a.key ≠ b.key
 sort : ∃ s,∀ m ∈ es,ksort m.key = s
 old : ∀ e ∈ ces,e.born < clock
 born : ces.Pairwise fun a b=>a.born ≠ b.born
def SeenR (ces : List MapEntry) (since : Nat) (sn : List Nat) (seen : List V) : Prop:=
 ∀ (j : Nat) (k : V) (s : Nat),seen[j]? = some k→sn.reverse[j]? = some s→∀ e ∈ ces,e.born < since→(e.born = s ↔ KeyR k e.key)
def ItrR (ρ : Rho) (w : World) (c : Nat) (m : Bid) (since : Nat) (seen : List V) : Prop:=
 ∃ i S sn last ces clk,w.heap[c]? = some (.mapIter (some i) since sn last)∧ρ m = some (i,0,S)∧w.heap[i]? = some (.map ces clk)∧since ≤ clk∧SeenR ces.toList since sn.toList seen
def Evo (ces : List MapEntry) (clk : Nat) (ces' : List MapEntry) (clk' : Nat) : Prop:=
 clk ≤ clk'∧∀ e' ∈ ces',clk ≤ e'.born ∨ ∃ e ∈ ces,e.born = e'.born∧∀ k,KeyR k e.key ↔ KeyR k e'.key
theorem Evo.refl (ces : List MapEntry) (clk : Nat) : Evo ces clk ces clk:=⟨Nat.le_refl _,fun e he=>.inr ⟨e,he,rfl,fun _=>.rfl⟩⟩
theorem SeenR.evo {ces ces' : List MapEntry} {clk clk' since : Nat} {sn : List Nat} {seen : List V} (h : SeenR ces since sn seen) (e : Evo ces clk ces' clk') (hs : since ≤ clk) : SeenR ces' since sn seen:=by
 intro j k s h1 h2 e' he' hb
 rcases e.2 e' he' with h3 | ⟨e0,h3,h4,h5⟩
 · omega
 · rw [← h4,← h5]; exact h j k s h1 h2 e0 h3 (by omega)
def rfs : Code→List (Array Tmp × Code × Code)
 | .seq a b | .cond _ a b=>rfs a ++ rfs b
 | .block _ a | .loop a | .scope a=>rfs a
 | .rangeFunc _ ps a b=>(ps,a,b) :: (rfs a ++ rfs b)
 | _=>[]
def roundAt (P : Program) (id : Nat) : Option (FuncId × Array Tmp × Code × Code):=
 (P.funcs[id / 16]?).bind fun fn=>fn.body.bind fun c=>((rfs c)[id % 16]?).map fun x=>(id / 16,x)
def maskL (mask : Nat) : List Nat:=(List.range 256).filter (mask.testBit ·)
def StR : Nat→LoopState→Prop
 | 0,.ready | 1,.busy | 2,.done=>True
 | _,_=>False
def PendR : Nat→Option Code→Prop
 | 0,none=>True
 | 1,some .ret=>True
 | n + 2,some (.exit id)=>n = id
 | _,_=>False
def ItR (ρ : Rho) : Option Bid→Option Nat→Prop
 | none,none=>True
 | some b,some c=>∃ S,ρ b = some (c,0,S)
 | _,_=>False
def StcR (ρ : Rho) (g : Nat) (t : T) (cs : Array Value) : Prop:=
 ∀ (j : Nat) (ch : List V),t.get j = some ch→j < 1∧ch.length = g∧∀ (i : Nat) (v : V),ch[i]? = some v→∃ x,cs[0 + j * g + i]? = some x∧VR ρ v x∧x.oneCell' = true
def OthR (P : Program) (ρ : Rho) : Oth→Obj→Prop
 | .lp id mask vs st pend,.loop r=>∃ fn,roundAt P id = some (r.fn,r.params,r.assign,r.body)∧P.funcs[r.fn]? = some fn∧r.tmps.size = fn.ntmps ∧
   VRs ρ vs ((maskL mask).map fun t=>r.tmps.getD t Go.undef)∧StR st r.state∧PendR pend r.pending
 | .mi m since seen last,.mapIter m' since' seen' last'=>ItR ρ m m'∧since = since'∧seen'.size = seen.length∧last = last'
 | .mp es clock,.map ces clock'=>MapR ρ es ces.toList clock∧clock = clock'
 | .it l n p,.stringIter s p'=>s.data.toList = dig l n∧n < 256 ^ l∧p = p'
 | .st el g t,.cells cs el' fz=>el' = el∧fz.1 = fz.2∧0 < g∧cs.size = g∧P.cellsOf el = g∧StcR ρ g t cs
 | .bs el l n,.cells cs el' fz=>el' = el∧P.cellsOf el = 1∧n < 256 ^ l∧l ≤ cs.size∧(fz.1 = fz.2 ∨ fz.2 ≤ l)∧∀ (i : Nat) (b : UInt8),(dig l n)[i]? = some b→cs[i]? = some (.int .u8 b.toNat)
 | .num k,.cells cs _ _=>∃ n,cs = #[.int k n]
 | _,_=>False
def Oth.cel : Oth→Bool
 | .st _ _ _ | .bs _ _ _=>true
 | _=>false
def Big (x : Oth) (o : Obj) (S : Nat) : Prop:=x.cel = true→∃ cs e fz,o = .cells cs e fz∧cs.size = S
structure RH (P : Program) (ρ : Rho) (h : Heap) (w : World) : Prop where
 lt : ∀ b c z S,ρ b = some (c,z,S)→c < w.heap.size
 fresh : ∀ b : Bid,h.nx.val ≤ b.val→ρ b = none∧h.t.get b = .none
 inj : ∀ b b' c z S z' S',(h.t.get b).wr = true→h.t.get b' ≠ .none→ρ b = some (c,z,S)→ρ b' = some (c,z',S')→b = b'
 arr : ∀ b c z S g n t ro,ρ b = some (c,z,S)→h.t.get b = .arr g n t ro→∃ cs,ArrR ρ w c z S g n t ro cs
 ob : ∀ b c z S x,ρ b = some (c,z,S)→h.t.get b = .ob x→∃ o,w.heap[c]? = some o∧OthR P ρ x o∧z = 0∧Big x o S
 itr : ∀ p c z S m since seen last,ρ p = some (c,z,S)→h.t.get p = .ob (.mi (some m) since seen last)→ItrR ρ w c m since seen
def Wr (ρ : Rho) (h : Heap) (c : Nat) : Prop:=∃ b z S,ρ b = some (c,z,S)∧(h.t.get b).wr = true
structure Ext (ρ : Rho) (h : Heap) (w : World) (ρ' : Rho) (h' : Heap) (w' : World) : Prop where
 le : ρ.le ρ'
 nx : h.nx.val ≤ h'.nx.val
 os : w'.os = w.os
 tape : w'.tape = w.tape
 output : w'.output = w.output
 size : w.heap.size ≤ w'.heap.size
 keep : ∀ c,c < w.heap.size→¬ Wr ρ h c→w'.heap[c]? = w.heap[c]?∧¬ Wr ρ' h' c
 virt : ∀ b : Bid,b.val < h.nx.val→ρ b = none→ρ' b = none∧h'.t.get b = h.t.get b
theorem Ext.refl (ρ : Rho) (h : Heap) (w : World) : Ext ρ h w ρ h w:=
 ⟨.refl ρ,Nat.le_refl _,rfl,rfl,rfl,Nat.le_refl _,fun _ _ hc=>⟨rfl,hc⟩,fun _ _ hb=>⟨hb,rfl⟩⟩
theorem Ext.trans {ρ ρ' ρ'' : Rho} {h h' h'' : Heap} {w w' w'' : World} (a : Ext ρ h w ρ' h' w') (b : Ext ρ' h' w' ρ'' h'' w'') : Ext ρ h w ρ'' h'' w'' where
 le:=a.le.trans b.le
 nx:=Nat.le_trans a.nx b.nx
 os:=b.os.trans a.os
 tape:=b.tape.trans a.tape
 output:=b.output.trans a.output
 size:=Nat.le_trans a.size b.size
 keep:=fun c hc hw=>
  let ⟨h1,h2⟩:=a.keep c hc hw
  let ⟨h3,h4⟩:=b.keep c (Nat.lt_of_lt_of_le hc a.size) h2
  ⟨h3.trans h1,h4⟩
 virt:=fun x hx hb=>
  let ⟨h1,h2⟩:=a.virt x hx hb
  let ⟨h3,h4⟩:=b.virt x (Nat.lt_of_lt_of_le hx a.nx) h1
  ⟨h3,h4.trans h2⟩
theorem RH.drew {ρ : Rho} {h : Heap} {w : World} (r : RH P ρ h w) (n : Nat) : RH P ρ h { w with drawn:=n } where
 lt:=r.lt
 fresh:=r.fresh
 inj:=r.inj
 arr:=fun b c z S g m t ro hb ht=>let ⟨cs,ha⟩:=r.arr b c z S g m t ro hb ht; ⟨cs,ha.pos,ha.at_,ha.size,ha.fits,ha.cells⟩
 ob:=r.ob
 itr:=r.itr
theorem Ext.drew (ρ : Rho) (h : Heap) (w : World) (n : Nat) : Ext ρ h w ρ h { w with drawn:=n }:=
 ⟨.refl ρ,Nat.le_refl _,rfl,rfl,rfl,Nat.le_refl _,fun _ _ hc=>⟨rfl,hc⟩,fun _ _ hb=>⟨hb,rfl⟩⟩
theorem MapL.mono {ρ ρ' : Rho} (hl : ρ.le ρ') : ∀ {l : List ME} {es : List MapEntry},MapL ρ l es→MapL ρ' l es
 | [],[],_=>trivial
 | _ :: _,_ :: _,h=>⟨h.1,VR.mono hl h.2.1,MapL.mono hl h.2.2⟩
 | [],_ :: _,h=>h.elim
 | _ :: _,[],h=>h.elim
theorem MapR.mono {ρ ρ' : Rho} (hl : ρ.le ρ') {l : List ME} {es : List MapEntry} {c : Nat} (h : MapR ρ l es c) : MapR ρ' l es c:=
 ⟨h.perm.imp fun _ h=>⟨h.1,h.2.mono hl⟩,h.keys,h.sort,h.old,h.born⟩
theorem ItrR.mono {ρ ρ' : Rho} (hl : ρ.le ρ') {w : World} {c : Nat} {m : Bid} {since : Nat} {seen : List V} : ItrR ρ w c m since seen→ItrR ρ' w c m since seen
 | ⟨i,S,sn,last,ces,clk,h1,h2,h3⟩=>⟨i,S,sn,last,ces,clk,h1,hl _ _ h2,h3⟩
theorem ItrR.stay {ρ : Rho} {w w' : World} {c : Nat} {m : Bid} {since : Nat} {seen : List V} (h : ItrR ρ w c m since seen) (hw : ∀ k,k < w.heap.size→w'.heap[k]? = w.heap[k]?) : ItrR ρ w' c m since seen:=by
 obtain ⟨i,S,sn,last,ces,clk,h1,h2,h3,h4⟩:=h
 exact ⟨i,S,sn,last,ces,clk,(hw _ (Array.getElem?_eq_some_iff.1 h1).1).trans h1,h2,(hw _ (Array.getElem?_eq_some_iff.1 h3).1).trans h3,h4⟩
theorem RH.map_of {ρ : Rho} {h : Heap} {w : World} (r : RH P ρ h w) {b : Bid} {c z S : Nat} (hb : ρ b = some (c,z,S)) (hl : h.t.get b ≠ .none) {ces : Array MapEntry} {clk : Nat} (hw : w.heap[c]? = some (.map ces clk)) : ∃ es,h.t.get b = .ob (.mp es clk):=by
 cases hx : h.t.get b with
 | none=>exact absurd hx hl
 | arr g n t ro=>
   obtain ⟨cs,ha⟩:=r.arr b c z S g n t ro hb hx
   obtain ⟨el,fz,h1,_⟩:=ha.at_
   rw [hw] at h1; cases h1
 | ob x=>
   obtain ⟨o,h1,h2,_⟩:=r.ob b c z S x hb hx
   rw [hw] at h1; cases h1
   cases x <;> first | exact ⟨_,by rw [h2.2]⟩ | exact h2.elim
theorem RH.itr_turn {ρ : Rho} {h : Heap} {w w' : World} (r : RH P ρ h w) {b : Bid} {c z S : Nat} (hb : ρ b = some (c,z,S)) (hwr : (h.t.get b).wr = true) {o : Obj} (hc : w'.heap[c]? = some o) (hne : ∀ k,k ≠ c→w'.heap[k]? = w.heap[k]?)
 (hevo : ∀ ces clk es,h.t.get b = .ob (.mp es clk)→w.heap[c]? = some (.map ces clk)→∃ ces' clk',o = .map ces' clk'∧Evo ces.toList clk ces'.toList clk') {p : Bid} {c' z' S' : Nat} {m : Bid} {since : Nat} {seen : List V} {last : Nat}
 (hp : ρ p = some (c',z',S')) (hx : h.t.get p = .ob (.mi (some m) since seen last)) (hpb : p ≠ b) : ItrR ρ w' c' m since seen:=by
 obtain ⟨i,Si,sn,la,ces,clk,h1,h2,h3,h4,h5⟩:=r.itr p c' z' S' m since seen last hp hx
 have hcc : c' ≠ c:=by rintro rfl; exact hpb (r.inj b p _ _ _ _ _ hwr (by rw [hx]; simp) hb hp).symm
 by_cases hi : i = c
 · subst hi
   obtain ⟨es,e1⟩:=r.map_of hb (by intro e; rw [e] at hwr; cases hwr) h3
   obtain ⟨ces',clk',rfl,ev⟩:=hevo ces clk es e1 h3
   exact ⟨i,Si,sn,la,ces',clk',(hne _ hcc).trans h1,h2,hc,Nat.le_trans h4 ev.1,h5.evo ev h4⟩
 · exact ⟨i,Si,sn,la,ces,clk,(hne _ hcc).trans h1,h2,(hne _ hi).trans h3,h4,h5⟩
theorem ItR.mono {ρ ρ' : Rho} (hl : ρ.le ρ') {m : Option Bid} {m' : Option Nat} (h : ItR ρ m m') : ItR ρ' m m':=by
 cases m <;> cases m' <;> first | exact h.elim | exact trivial | exact h.imp fun S hS=>hl _ _ hS
theorem StcR.mono {ρ ρ' : Rho} (hl : ρ.le ρ') {g : Nat} {t : T} {cs : Array Value} (h : StcR ρ g t cs) : StcR ρ' g t cs:=fun j ch hj=>
 let ⟨h1,h2,h3⟩:=h j ch hj; ⟨h1,h2,fun i v hi=>let ⟨x,h4,h5,h6⟩:=h3 i v hi; ⟨x,h4,VR.mono hl h5,h6⟩⟩
theorem OthR.mono {ρ ρ' : Rho} (hl : ρ.le ρ') {x : Oth} {o : Obj} (h : OthR P ρ x o) : OthR P ρ' x o:=by
 cases x <;> cases o <;> first | exact h.elim | exact ⟨h.1,h.2.1,h.2.2.1,h.2.2.2.1,h.2.2.2.2.1,StcR.mono hl h.2.2.2.2.2⟩ | exact ⟨MapR.mono hl h.1,h.2⟩ | exact ⟨ItR.mono hl h.1,h.2⟩ | (obtain ⟨fn,h1,h2,h3,h4,h5⟩:=h; exact ⟨fn,h1,h2,h3,VRs.mono hl h4,h5⟩) | exact h
theorem RH.itr_off {ρ : Rho} {h : Heap} {w w' : World} (r : RH P ρ h w) {b : Bid} {c z S : Nat} (hb : ρ b = some (c,z,S)) (hwr : (h.t.get b).wr = true) (hne : ∀ k,k ≠ c→w'.heap[k]? = w.heap[k]?)
 (hnm : ∀ es clk,h.t.get b ≠ .ob (.mp es clk)) {p : Bid} {c' z' S' : Nat} {m : Bid} {since : Nat} {seen : List V} {last : Nat}
 (hp : ρ p = some (c',z',S')) (hx : h.t.get p = .ob (.mi (some m) since seen last)) (hpb : p ≠ b) : ItrR ρ w' c' m since seen:=by
 obtain ⟨i,Si,sn,la,ces,clk,h1,h2,h3,h4⟩:=r.itr p c' z' S' m since seen last hp hx
 have hcc : c' ≠ c:=by rintro rfl; exact hpb (r.inj b p _ _ _ _ _ hwr (by rw [hx]; simp) hb hp).symm
 have hi : i ≠ c:=by
  rintro rfl
  obtain ⟨es,e1⟩:=r.map_of hb (by intro e; rw [e] at hwr; cases hwr) h3
  exact hnm es clk e1
 exact ⟨i,Si,sn,la,ces,clk,(hne _ hcc).trans h1,h2,(hne _ hi).trans h3,h4⟩
def Rho.put (ρ : Rho) (b : Bid) (x : Nat × Nat × Nat) : Rho:=fun b'=>if b'.val = b.val then some x else ρ b'
theorem Rho.put_same (ρ : Rho) (b : Bid) (x : Nat × Nat × Nat) : ρ.put b x b = some x:=by simp [Rho.put]
theorem Rho.put_ne {ρ : Rho} {b b' : Bid} (h : b' ≠ b) (x : Nat × Nat × Nat) : ρ.put b x b' = ρ b':=by
 simp only [Rho.put]; rw [if_neg fun e=>h (Bid.val_inj e)]
theorem Rho.le_put {ρ : Rho} {b : Bid} (h : ρ b = none) (x : Nat × Nat × Nat) : ρ.le (ρ.put b x):=fun b' y hy=>by
 by_cases e : b' = b
 · subst e; rw [h] at hy; cases hy
 · rw [Rho.put_ne e]; exact hy
def Heap.new (h : Heap) (x : Blk) (nx : Bid) : Heap:=⟨h.t.set h.nx x,nx⟩
theorem ArrR.mono {ρ ρ' : Rho} (hl : ρ.le ρ') {w w' : World} {c z S g n : Nat} {t : T} {ro : Bool} {cs : Array Value} (h : ArrR ρ w c z S g n t ro cs) (hw : w'.heap[c]? = w.heap[c]?) :
 ArrR ρ' w' c z S g n t ro cs where
 pos:=h.pos
 at_:=hw ▸ h.at_
 size:=h.size
 fits:=h.fits
 cells:=fun j ch hj=>let ⟨h1,h2,h3⟩:=h.cells j ch hj; ⟨h1,h2,fun i v hi=>let ⟨x,h4,h5,h6⟩:=h3 i v hi; ⟨x,h4,VR.mono hl h5,h6⟩⟩
theorem alloc {ρ : Rho} {h : Heap} {w : World} (r : RH P ρ h w) {x : Blk} {nx : Bid} (hn : h.nx.next = some nx) {o : Obj} {S : Nat}
 (harr : ∀ g n t ro,x = .arr g n t ro→∃ cs el fz,0 < g∧o = .cells cs el fz∧Thaw fz S g∧cs.size = S∧n * g ≤ S ∧
   ∀ (j : Nat) (ch : List V),t.get j = some ch→j < n∧ch.length = g∧∀ (i : Nat) (v : V),ch[i]? = some v→∃ y,cs[j * g + i]? = some y∧VR ρ v y∧y.oneCell' = true)
 (hob : ∀ x',x = .ob x'→OthR P ρ x' o) (hbig : ∀ x',x = .ob x'→Big x' o S:=by intro x' e; cases e <;> (intro e; cases e))
 (hitr : ∀ m since seen last,x = .ob (.mi (some m) since seen last)→ItrR ρ { w with heap:=w.heap.push o } w.heap.size m since seen:=by intro m s q l e; cases e) :
 RH P (ρ.put h.nx (w.heap.size,0,S)) (h.new x nx) { w with heap:=w.heap.push o } ∧
 Ext ρ h w (ρ.put h.nx (w.heap.size,0,S)) (h.new x nx) { w with heap:=w.heap.push o }:=by
 have hv:=Bid.next_val hn
 have hf:=r.fresh h.nx (Nat.le_refl _)
 have hle:=Rho.le_put (ρ:=ρ) hf.1 (w.heap.size,0,S)
 have old : ∀ c,c < w.heap.size→(w.heap.push o)[c]? = w.heap[c]?:=fun c hc=>Array.getElem?_push_lt hc ▸ (by simp [hc])
 have new : (w.heap.push o)[w.heap.size]? = some o:=by simp
 refine ⟨⟨?_,?_,?_,?_,?_,?_⟩,⟨hle,by simp only [Heap.new]; omega,rfl,rfl,rfl,by simp,?_,?_⟩⟩
 · intro b c z S' hb
   by_cases e : b = h.nx
   · subst e; rw [Rho.put_same] at hb; cases hb; simp
   · rw [Rho.put_ne e] at hb; have:=r.lt _ _ _ _ hb; simp; omega
 · intro b hb
   simp only [Heap.new] at hb ⊢
   have e : b ≠ h.nx:=by rintro rfl; omega
   rw [Rho.put_ne e,HT.get_set_ne _ e]
   exact r.fresh b (by omega)
 · intro b b' c z S1 z' S2 h1 h2 h3 h4
   simp only [Heap.new] at h1 h2
   by_cases e : b = h.nx
   · subst e
     rw [Rho.put_same] at h3; cases h3
     by_cases e' : b' = h.nx
     · exact e'.symm
     · rw [Rho.put_ne e'] at h4; have:=r.lt _ _ _ _ h4; omega
   · rw [Rho.put_ne e] at h3
     by_cases e' : b' = h.nx
     · subst e'; rw [Rho.put_same] at h4; cases h4; have:=r.lt _ _ _ _ h3; omega
     · rw [Rho.put_ne e'] at h4
       rw [HT.get_set_ne _ e] at h1; rw [HT.get_set_ne _ e'] at h2
       exact r.inj b b' c z S1 z' S2 h1 h2 h3 h4
 · intro b c z S' g n t ro hb ht
   simp only [Heap.new] at ht
   by_cases e : b = h.nx
   · subst e
     rw [Rho.put_same] at hb; cases hb
     rw [HT.get_set] at ht
     obtain ⟨cs,el,fz,hg,rfl,h1,h2,h3,h4⟩:=harr g n t ro ht
     refine ⟨cs,⟨hg,⟨el,fz,new,fun _=>h1⟩,h2,by omega,fun j ch hj=>?_⟩⟩
     obtain ⟨h5,h6,h7⟩:=h4 j ch hj
     refine ⟨h5,h6,fun i v hi=>?_⟩
     obtain ⟨y,h8,h9,h10⟩:=h7 i v hi
     exact ⟨y,by simpa using h8,VR.mono hle h9,h10⟩
   · rw [Rho.put_ne e] at hb
     rw [HT.get_set_ne _ e] at ht
     obtain ⟨cs,ha⟩:=r.arr b c z S' g n t ro hb ht
     exact ⟨cs,ha.mono hle (old c (r.lt _ _ _ _ hb))⟩
 · intro b c z S' x' hb ht
   simp only [Heap.new] at ht
   by_cases e : b = h.nx
   · subst e
     rw [Rho.put_same] at hb; cases hb
     rw [HT.get_set] at ht
     exact ⟨o,new,(hob x' ht).mono hle,rfl,hbig x' ht⟩
   · rw [Rho.put_ne e] at hb
     rw [HT.get_set_ne _ e] at ht
     obtain ⟨o',h1,h2,h3⟩:=r.ob b c z S' x' hb ht
     exact ⟨o',(old c (r.lt _ _ _ _ hb)).trans h1,h2.mono hle,h3⟩
 · intro p c z S' m since seen last hb ht
   simp only [Heap.new] at ht
   by_cases e : p = h.nx
   · subst e
     rw [Rho.put_same] at hb; cases hb
     rw [HT.get_set] at ht
     exact (hitr m since seen last ht).mono hle
   · rw [Rho.put_ne e] at hb
     rw [HT.get_set_ne _ e] at ht
     exact ((r.itr p c z S' m since seen last hb ht).stay old).mono hle
 · intro c hc hw
   refine ⟨old c hc,?_⟩
   rintro ⟨b,z,S',hb,hwr⟩
   simp only [Heap.new] at hwr
   by_cases e : b = h.nx
   · subst e; rw [Rho.put_same] at hb; cases hb; omega
   · rw [Rho.put_ne e] at hb; rw [HT.get_set_ne _ e] at hwr
     exact hw ⟨b,z,S',hb,hwr⟩
 · intro b hb hr
   have e : b ≠ h.nx:=by rintro rfl; omega
   simp only [Heap.new]
   rw [Rho.put_ne e,HT.get_set_ne _ e]
   exact ⟨hr,rfl⟩
def Heap.turn (h : Heap) (b : Bid) (x : Blk) : Heap:=⟨h.t.set b x,h.nx⟩
theorem turn {ρ : Rho} {h : Heap} {w : World} (r : RH P ρ h w) {b : Bid} {c z S : Nat} (hb : ρ b = some (c,z,S)) (hwr : (h.t.get b).wr = true) {x : Blk} {o : Obj}
 {w' : World} (hos : w'.os = w.os) (htape : w'.tape = w.tape) (hout : w'.output = w.output) (hsz : w'.heap.size = w.heap.size)
 (hc : w'.heap[c]? = some o) (hne : ∀ k,k ≠ c→w'.heap[k]? = w.heap[k]?)
 (harr : ∀ g n t ro,x = .arr g n t ro→∃ cs,ArrR ρ w' c z S g n t ro cs)
 (hob : ∀ x',x = .ob x'→OthR P ρ x' o∧z = 0) (hevo : ∀ ces clk es,h.t.get b = .ob (.mp es clk)→w.heap[c]? = some (.map ces clk)→∃ ces' clk',o = .map ces' clk'∧Evo ces.toList clk ces'.toList clk')
 (hbig : ∀ x',x = .ob x'→Big x' o S:=by intro x' e; cases e <;> (intro e; cases e))
 (hitr : ∀ m since seen last,x = .ob (.mi (some m) since seen last)→ItrR ρ w' c m since seen:=by intro m s q l e; cases e) :
 RH P ρ (h.turn b x) w'∧Ext ρ h w ρ (h.turn b x) w':=by
 have hlive : h.t.get b ≠ .none:=by intro e; rw [e] at hwr; cases hwr
 refine ⟨⟨?_,?_,?_,?_,?_,?_⟩,⟨.refl _,Nat.le_refl _,hos,htape,hout,by omega,?_,?_⟩⟩
 · intro b' c' z' S' h1; rw [hsz]; exact r.lt _ _ _ _ h1
 · intro b' h1
   simp only [Heap.turn] at h1 ⊢
   have e : b' ≠ b:=by rintro rfl; rw [(r.fresh _ h1).1] at hb; cases hb
   rw [HT.get_set_ne _ e]; exact r.fresh b' h1
 · intro b1 b2 c' z1 S1 z2 S2 h1 h2 h3 h4
   simp only [Heap.turn] at h1 h2
   refine r.inj b1 b2 c' z1 S1 z2 S2 ?_ ?_ h3 h4
   · by_cases e : b1 = b
     · rw [e]; exact hwr
     · rwa [HT.get_set_ne _ e] at h1
   · by_cases e : b2 = b
     · rw [e]; exact hlive
     · rwa [HT.get_set_ne _ e] at h2
 · intro b' c' z' S' g n t ro h1 h2
   simp only [Heap.turn] at h2
   by_cases e : b' = b
   · subst e; rw [hb] at h1; cases h1; rw [HT.get_set] at h2; exact harr g n t ro h2
   · rw [HT.get_set_ne _ e] at h2
     obtain ⟨cs,ha⟩:=r.arr b' c' z' S' g n t ro h1 h2
     have hcc : c' ≠ c:=by rintro rfl; exact e (r.inj b b' _ _ _ _ _ hwr (by rw [h2]; simp) hb h1).symm
     exact ⟨cs,ha.mono (.refl _) (hne c' hcc)⟩
 · intro b' c' z' S' x' h1 h2
   simp only [Heap.turn] at h2
   by_cases e : b' = b
   · subst e; rw [hb] at h1; cases h1; rw [HT.get_set] at h2
     exact ⟨o,hc,(hob x' h2).1,(hob x' h2).2,hbig x' h2⟩
   · rw [HT.get_set_ne _ e] at h2
     obtain ⟨o',h3,h4,h5⟩:=r.ob b' c' z' S' x' h1 h2
     have hcc : c' ≠ c:=by rintro rfl; exact e (r.inj b b' _ _ _ _ _ hwr (by rw [h2]; simp) hb h1).symm
     exact ⟨o',(hne c' hcc).trans h3,h4,h5⟩
 · intro p c' z' S' m since seen last h1 h2
   simp only [Heap.turn] at h2
   by_cases e : p = b
   · subst e; rw [hb] at h1; cases h1; rw [HT.get_set] at h2; exact hitr m since seen last h2
   · rw [HT.get_set_ne _ e] at h2
     exact r.itr_turn hb hwr hc hne hevo h1 h2 e
 · intro k hk hw
   have e : k ≠ c:=by rintro rfl; exact hw ⟨b,z,S,hb,hwr⟩
   refine ⟨hne k e,?_⟩
   rintro ⟨b',z',S',h1,h2⟩
   simp only [Heap.turn] at h2
   by_cases e' : b' = b
   · subst e'; rw [hb] at h1; cases h1; exact e rfl
   · rw [HT.get_set_ne _ e'] at h2; exact hw ⟨b',z',S',h1,h2⟩
 · intro b' h1 h2
   have e : b' ≠ b:=by rintro rfl; rw [hb] at h2; cases h2
   simp only [Heap.turn]
   rw [HT.get_set_ne _ e]
   exact ⟨h2,rfl⟩
end Go.Ev
