/- EvExt: texts joined. -/
import Derived.Test.YtobbabhldblljaaGreatDoorEvEx0
import Derived.Laws.StandIn
import Derived.Lib.Bytealg
import Derived.KernelRfl
/- EVALUATOR: maps with keys that are strings or integers; type assertions. -/
namespace Go.Ev
variable {P : Program}
theorem baeq (s s' : ByteArray) : (s == s') = (s.data.toList == s'.data.toList):=by
 show (s.data == s'.data) = _
 rw [Bool.eq_iff_iff,beq_iff_eq,beq_iff_eq]
 exact Array.toList_inj.symm
noncomputable def eqS (l n : Nat) (y : V) (k : Bool→Res) : Res:=strk y fun l' n'=>k (seq l n l' n')
noncomputable def eqI (kd : IntKind) (n : Int) (y : V) (k : Bool→Res) : Res:=intk y fun kd' n'=>ifk (Nat.beq (kno kd) (kno kd')) (k (ieq n n')) .fail
def EqOk (key : V) (E : V→(Bool→Res)→Res) : Prop:=∀ {y : V} {k : Bool→Res} {r : Res},E y k = r→r ≠ .fail→ksort y = ksort key∧∃ t,k t = r∧(t = true ↔ y = key)
theorem eqS_ok {l n : Nat} : EqOk (.str l n) (eqS l n):=by
 intro y k r h hr
 obtain ⟨l',n',rfl,h1⟩:=strk_ok (show strk y (fun l' n'=>k (seq l n l' n')) = r from h) hr
 refine ⟨rfl,_,h1,?_⟩
 unfold seq
 cases hb : Nat.beq l l' with
 | false=>
   simp only [Bool.false_eq_true,false_iff]
   intro e; cases e; simp at hb
 | true=>
   obtain rfl:=Nat.eq_of_beq_eq_true hb
   show Nat.beq n n' = true ↔ _
   rw [Nat.beq_eq]
   exact ⟨fun e=>by rw [e],fun e=>by cases e; rfl⟩
theorem eqI_ok {kd : IntKind} {n : Int} : EqOk (.int kd n) (eqI kd n):=by
 intro y k r h hr
 obtain ⟨k1,n',rfl,h1⟩:=intk_ok (show intk y (fun kd' n'=>ifk (Nat.beq (kno kd) (kno kd')) (k (ieq n n')) .fail) = r from h) hr
 obtain ⟨h2,h3⟩:=ifk_fail h1 hr
 obtain rfl:=kno_inj h2
 rw [ieq_eq] at h3
 refine ⟨rfl,_,h3,?_⟩
 rw [beq_iff_eq]
 exact ⟨fun e=>by rw [e],fun e=>by cases e; rfl⟩
noncomputable def keyk (s : Bool) (x : V) (k : (V→(Bool→Res)→Res)→Res) : Res:=Bool.rec (motive:=fun _=>Res) (intk x fun kd n=>k (eqI kd n)) (strk x fun l n=>k (eqS l n)) s
def keyD : Bool→TypeDesc→Bool
 | true,.string=>true
 | false,.int _=>true
 | _,_=>false
def KeyD (d : TypeDesc) : V→Prop
 | .str _ _=>d = .string
 | .int _ _=>∃ k,d = .int k
 | _=>False
theorem keyk_ok {s : Bool} {x : V} {k : (V→(Bool→Res)→Res)→Res} {r : Res} (h : keyk s x k = r) (hr : r ≠ .fail) {ρ : Rho} {a : Value} (ha : VR ρ x a) {d : TypeDesc} (hd : keyD s d = true) :
 ∃ E,k E = r∧EqOk x E∧KeyR x a∧KeyD d x:=by
 cases s with
 | true=>
   obtain ⟨l,n,rfl,h1⟩:=strk_ok (show strk x (fun l n=>k (eqS l n)) = r from h) hr
   obtain rfl : d = .string:=by cases d <;> first | rfl | cases hd
   obtain ⟨s,rfl,e1,e2⟩:=ha.str_inv
   exact ⟨_,h1,eqS_ok,⟨e1,e2⟩,rfl⟩
 | false=>
   obtain ⟨kd,n,rfl,h1⟩:=intk_ok (show intk x (fun kd n=>k (eqI kd n)) = r from h) hr
   obtain ⟨k0,rfl⟩ : ∃ k0,d = .int k0:=by cases d <;> first | exact ⟨_,rfl⟩ | cases hd
   rw [ha.int_inv]
   exact ⟨_,h1,eqI_ok,⟨rfl,rfl⟩,_,rfl⟩
theorem KeyR.vr {k : V} {a : Value} (h : KeyR k a) (ρ : Rho) : VR ρ k a:=by
 cases k <;> cases a <;> first | exact h.elim | exact .str h.1 h.2 | (obtain ⟨rfl,rfl⟩:=h; exact .int _ _)
theorem KeyR.one {k : V} {a b : Value} (h : KeyR k a) (g : KeyR k b) : a = b:=by
 cases k <;> cases a <;> first | exact h.elim | skip
 · cases b <;> first | exact g.elim | skip
   obtain ⟨rfl,rfl⟩:=h
   obtain ⟨rfl,rfl⟩:=g
   rfl
 · cases b <;> first | exact g.elim | skip
   rename_i s s'
   have : s = s':=by
    have e:=h.1.trans g.1.symm
    have e2:=Array.toList_inj.1 e
    cases s; cases s'; simp only at e2; rw [e2]
   rw [this]
theorem KeyR.inj {k k' : V} {a : Value} (h : KeyR k a) (g : KeyR k' a) : k = k':=by
 cases k <;> cases a <;> first | exact h.elim | skip
 · cases k' <;> first | exact g.elim | skip
   obtain ⟨rfl,rfl⟩:=h
   obtain ⟨rfl,rfl⟩:=g
   rfl
 · cases k' <;> first | exact g.elim | skip
   rename_i l n s l' n'
   have e : dig l n = dig l' n':=h.1.symm.trans g.1
   have e1 : l = l':=by have:=congrArg List.length e; simpa [dig_length] using this
   subst e1
   have e2:=(seq_eq h.2 g.2).trans (by rw [e]; simp : (dig l n == dig l n') = true)
   unfold seq at e2
   simp only [Nat.beq_refl] at e2
   obtain rfl:=Nat.eq_of_beq_eq_true e2
   rfl
theorem KeyR.same {d : TypeDesc} {x y : V} {a b : Value} (hd : KeyD d x) (h : KeyR x a) (g : KeyR y b) (hs : ksort y = ksort x) : (y = x∧a = b∧Instr.sameNow d a b = some true) ∨ (y ≠ x∧Instr.sameNow d a b = some false):=by
 by_cases e : y = x
 · subst e
   obtain rfl:=h.one g
   refine .inl ⟨rfl,rfl,?_⟩
   cases y <;> first | exact hd.elim | skip
   · obtain ⟨k,rfl⟩:=hd
     cases a <;> first | exact h.elim | simp [Instr.sameNow]
   · obtain rfl:=hd
     cases a <;> first | exact h.elim | (simp only [Instr.sameNow,baeq]; simp)
 · refine .inr ⟨e,?_⟩
   have hab : a ≠ b:=fun e'=>e (by subst e'; exact g.inj h)
   cases x <;> first | exact hd.elim | skip
   · obtain ⟨k,rfl⟩:=hd
     cases a <;> first | exact h.elim | skip
     cases y <;> first | (simp [ksort] at hs; done) | skip
     cases b <;> first | exact g.elim | skip
     obtain ⟨rfl,rfl⟩:=h
     obtain ⟨rfl,rfl⟩:=g
     simp only [ksort,Option.some.injEq] at hs
     subst hs
     simp only [Instr.sameNow,if_true,Option.some.injEq,beq_eq_false_iff_ne,ne_eq]
     rintro rfl; exact hab rfl
   · obtain rfl:=hd
     cases a <;> first | exact h.elim | skip
     cases y <;> first | (simp [ksort] at hs; done) | skip
     cases b <;> first | exact g.elim | skip
     simp only [Instr.sameNow,Option.some.injEq,baeq,beq_eq_false_iff_ne,ne_eq]
     intro e'; exact e (g.inj (a:=.string _) ⟨by rw [← e']; exact h.1,h.2⟩)
theorem KeyR.bits {k : V} {a : Value} (h : KeyR k a) (n : Nat) : Instr.sameBits n a a = true:=by
 cases k <;> cases a <;> first | exact h.elim | (simp [Instr.sameBits]; done) | (simp only [Instr.sameBits,baeq]; simp)
theorem checkKey_succ {w : World} {b s : Bool} {t : TypeId} {d : TypeDesc} (ht : P.underlying t = some d) (hd : keyD s d = true) (v : Value) (n : Nat) : (Instr.checkKey b (n + 1) t v).run P w = .ok () w:=by
 simp only [Instr.checkKey,Sem.run_bind,run_und ht,Result.andThen_ok]
 cases s <;> cases d <;> first | (cases hd; done) | (cases v <;> rfl)
theorem run_checkKey {w : World} {b s : Bool} {t : TypeId} {d : TypeDesc} (ht : P.underlying t = some d) (hd : keyD s d = true) (v : Value) : (Instr.checkKey b 10000 t v).run P w = .ok () w:=checkKey_succ ht hd v 9999
theorem MapL.app {ρ : Rho} : ∀ {a b : List ME} {l : List MapEntry},MapL ρ (a ++ b) l→∃ l1 l2,l = l1 ++ l2∧MapL ρ a l1∧MapL ρ b l2
 | [],_,l,h=>⟨[],l,rfl,trivial,h⟩
 | _ :: _,_,[],h=>h.elim
 | _ :: _,_,e :: l,h=>by
   obtain ⟨l1,l2,rfl,h1,h2⟩:=MapL.app h.2.2
   exact ⟨e :: l1,l2,rfl,⟨h.1,h.2.1,h1⟩,h2⟩
theorem MapL.mk {ρ : Rho} : ∀ {a b : List ME} {l1 l2 : List MapEntry},MapL ρ a l1→MapL ρ b l2→MapL ρ (a ++ b) (l1 ++ l2)
 | [],_,[],_,_,h=>h
 | _ :: _,_,_ :: _,_,h,g=>⟨h.1,h.2.1,MapL.mk h.2.2 g⟩
 | [],_,_ :: _,_,h,_=>h.elim
 | _ :: _,_,[],_,h,_=>h.elim
theorem MapL.mem {ρ : Rho} : ∀ {a : List ME} {l : List MapEntry},MapL ρ a l→∀ e ∈ l,∃ m ∈ a,KeyR m.key e.key∧VR ρ m.val e.val
 | [],[],_=>by simp
 | m :: a,e :: l,h=>by
   intro x hx
   rcases List.mem_cons.1 hx with rfl | hx
   · exact ⟨m,by simp,h.1,h.2.1⟩
   · obtain ⟨m',h1,h2⟩:=MapL.mem h.2.2 x hx
     exact ⟨m',by simp [h1],h2⟩
 | [],_ :: _,h=>h.elim
 | _ :: _,[],h=>h.elim
theorem MapL.mem' {ρ : Rho} : ∀ {a : List ME} {l : List MapEntry},MapL ρ a l→∀ m ∈ a,∃ e ∈ l,KeyR m.key e.key∧VR ρ m.val e.val
 | [],[],_=>by simp
 | m :: a,e :: l,h=>by
   intro x hx
   rcases List.mem_cons.1 hx with rfl | hx
   · exact ⟨e,by simp,h.1,h.2.1⟩
   · obtain ⟨m',h1,h2⟩:=MapL.mem' h.2.2 x hx
     exact ⟨m',by simp [h1],h2⟩
 | [],_ :: _,h=>h.elim
 | _ :: _,[],h=>h.elim
theorem MapL.length {ρ : Rho} : ∀ {a : List ME} {l : List MapEntry},MapL ρ a l→a.length = l.length
 | [],[],_=>rfl
 | _ :: _,_ :: _,h=>by simp [MapL.length h.2.2]
 | [],_ :: _,h=>h.elim
 | _ :: _,[],h=>h.elim
theorem MapL.perm {ρ : Rho} {a b : List ME} (p : a.Perm b) : ∀ {l : List MapEntry},MapL ρ b l→∃ l',l'.Perm l∧MapL ρ a l':=by
 induction p with
 | nil=>intro l h; exact ⟨l,.refl _,h⟩
 | cons m _ ih=>
   intro l h
   cases l with
   | nil=>exact h.elim
   | cons e l=>
     obtain ⟨l',h1,h2⟩:=ih h.2.2
     exact ⟨e :: l',h1.cons e,h.1,h.2.1,h2⟩
 | swap m m' a=>
   intro l h
   cases l with
   | nil=>exact h.elim
   | cons e l=>
     cases l with
     | nil=>exact h.2.2.elim
     | cons e' l=>exact ⟨e' :: e :: l,.swap _ _ _,h.2.2.1,h.2.2.2.1,h.1,h.2.1,h.2.2.2.2⟩
 | trans _ _ ih1 ih2=>
   intro l h
   obtain ⟨l1,h1,h2⟩:=ih2 h
   obtain ⟨l2,h3,h4⟩:=ih1 h2
   exact ⟨l2,h3.trans h1,h4⟩
theorem MapL.uniq {ρ : Rho} : ∀ {a : List ME} {l : List MapEntry},MapL ρ a l→a.Pairwise (fun a b=>a.key ≠ b.key)→∀ {e e' : MapEntry},e ∈ l→e' ∈ l→e.key = e'.key→e = e'
 | [],[],_,_,_,_,h,_,_=>by cases h
 | m :: a,x :: l,h,hp,e,e',he,he',hk=>by
   obtain ⟨h1,h2⟩:=List.pairwise_cons.1 hp
   rcases List.mem_cons.1 he with rfl | he1
   · rcases List.mem_cons.1 he' with rfl | he2
     · rfl
     · obtain ⟨m',g1,g2,_⟩:=MapL.mem h.2.2 _ he2
       rw [← hk] at g2
       exact absurd (h.1.inj g2) (h1 m' g1)
   · rcases List.mem_cons.1 he' with rfl | he2
     · obtain ⟨m',g1,g2,_⟩:=MapL.mem h.2.2 _ he1
       rw [hk] at g2
       exact absurd (h.1.inj g2) (h1 m' g1)
     · exact MapL.uniq h.2.2 h2 he1 he2 hk
 | [],_ :: _,h,_,_,_,_,_,_=>h.elim
 | _ :: _,[],h,_,_,_,_,_,_=>h.elim
theorem MapR.mem {ρ : Rho} {es : List ME} {ces : List MapEntry} {c : Nat} (h : MapR ρ es ces c) {e : MapEntry} (he : e ∈ ces) : ∃ m ∈ es,KeyR m.key e.key∧VR ρ m.val e.val:=by
 obtain ⟨l,p,hl⟩:=h.perm
 exact hl.mem e (p.mem_iff.2 he)
theorem MapR.mem' {ρ : Rho} {es : List ME} {ces : List MapEntry} {c : Nat} (h : MapR ρ es ces c) {m : ME} (hm : m ∈ es) : ∃ e ∈ ces,KeyR m.key e.key∧VR ρ m.val e.val:=by
 obtain ⟨l,p,hl⟩:=h.perm
 obtain ⟨e,h1,h2⟩:=hl.mem' m hm
 exact ⟨e,p.mem_iff.1 h1,h2⟩
theorem MapR.length {ρ : Rho} {es : List ME} {ces : List MapEntry} {c : Nat} (h : MapR ρ es ces c) : es.length = ces.length:=by
 obtain ⟨l,p,hl⟩:=h.perm
 rw [hl.length,p.length_eq]
theorem find_none {d : TypeDesc} {a : Value} : ∀ {ces : List MapEntry} (i : Nat),(∀ e ∈ ces,Instr.sameNow d a e.key = some false)→Instr.findNow d a ces i = some none
 | [],_,_=>rfl
 | e :: ces,i,h=>by
   have h1:=find_none (d:=d) (a:=a) (ces:=ces) (i + 1) fun x hx=>h x (List.mem_cons_of_mem _ hx)
   simp only [Instr.findNow,h e (by simp),h1]
theorem find_some {d : TypeDesc} {a : Value} : ∀ {ces : List MapEntry} (i : Nat) {e : MapEntry},e ∈ ces→Instr.sameNow d a e.key = some true→(∀ e' ∈ ces,Instr.sameNow d a e'.key = some false ∨ e' = e) →
 ∃ c1 c2,ces = c1 ++ e :: c2∧Instr.findNow d a ces i = some (some (i + c1.length,e.val))
 | [],_,_,h,_,_=>by cases h
 | x :: ces,i,e,hm,hs,hu=>by
   rcases hu x (by simp) with h1 | rfl
   · have hx : e ∈ ces:=by
      rcases List.mem_cons.1 hm with rfl | h2
      · rw [hs] at h1; cases h1
      · exact h2
     obtain ⟨c1,c2,e1,e2⟩:=find_some (i + 1) hx hs fun e' he'=>hu e' (by simp [he'])
     refine ⟨x :: c1,c2,by rw [e1]; rfl,?_⟩
     simp only [Instr.findNow,h1,e2,List.length_cons,Option.some.injEq,Prod.mk.injEq,and_true]
     omega
   · exact ⟨[],ces,rfl,by simp [Instr.findNow,hs]⟩
theorem MapR.found {ρ : Rho} {es : List ME} {ces : List MapEntry} {c : Nat} (h : MapR ρ es ces c) {d : TypeDesc} {x : V} {a : Value} (hd : KeyD d x) (hx : KeyR x a) {m : ME} (hm : m ∈ es) (hk : m.key = x) :
 ∃ e c1 c2,ces = c1 ++ e :: c2∧e.key = a∧VR ρ m.val e.val∧Instr.findNow d a ces 0 = some (some (c1.length,e.val)):=by
 obtain ⟨e,he,h1,h2⟩:=h.mem' hm
 obtain ⟨s,hs⟩:=h.sort
 have hsx : s = ksort x:=by rw [← hs m hm,hk]
 rw [hk] at h1
 obtain rfl:=hx.one h1
 obtain ⟨c1,c2,e1,e2⟩:=find_some (d:=d) (a:=e.key) 0 he ((KeyR.same hd hx h1 rfl).elim (fun h3=>h3.2.2) fun h3=>absurd rfl h3.1) fun e' he'=>by
  obtain ⟨m',hm',g1,g2⟩:=h.mem he'
  rcases KeyR.same hd hx g1 ((hs m' hm').trans hsx) with h3 | h3
  · right
    obtain ⟨l,p,hl⟩:=h.perm
    exact MapL.uniq hl h.keys (p.mem_iff.2 he') (p.mem_iff.2 he) (by rw [← h3.2.1])
  · exact .inl h3.2
 exact ⟨e,c1,c2,e1,rfl,h2,by simpa using e2⟩
theorem MapR.lost {ρ : Rho} {es : List ME} {ces : List MapEntry} {c : Nat} (h : MapR ρ es ces c) {d : TypeDesc} {x : V} {a : Value} (hd : KeyD d x) (hx : KeyR x a) (hn : ∀ m ∈ es,ksort m.key = ksort x∧m.key ≠ x) :
 Instr.findNow d a ces 0 = some none:=find_none 0 fun e he=>by
 obtain ⟨m,hm,h1,_⟩:=h.mem he
 obtain ⟨h2,h3⟩:=hn m hm
 rcases KeyR.same hd hx h1 h2 with h4 | h4
 · exact absurd h4.1 h3
 · exact h4.2
noncomputable def lookm (E : V→(Bool→Res)→Res) (kf : V→Res) (kn : Res) (es : List ME) : Res:=
 List.rec (motive:=fun _=>Res) kn (fun m _ ih=>ME.rec (motive:=fun _=>Res) (fun key v=>E key fun t=>ifk t (kf v) ih) m) es
theorem lookm_ok {E : V→(Bool→Res)→Res} {kf : V→Res} {kn : Res} {key : V} (hE : EqOk key E) {r : Res} (hr : r ≠ .fail) : ∀ {es : List ME},lookm E kf kn es = r →
 (kn = r∧∀ m ∈ es,ksort m.key = ksort key∧m.key ≠ key) ∨ ∃ m ∈ es,m.key = key∧kf m.val = r
 | [],h=>.inl ⟨h,by simp⟩
 | ⟨key0,v⟩ :: es,h=>by
   obtain ⟨h1,t,h5,h6⟩:=hE (show E key0 (fun t=>ifk t (kf v) (lookm E kf kn es)) = r from h) hr
   rcases ifk_ne h5 with ⟨rfl,h7⟩ | ⟨rfl,h7⟩
   · exact .inr ⟨⟨key0,v⟩,List.mem_cons_self,h6.1 rfl,h7⟩
   · have hne : key0 ≠ key:=fun e=>by have:=h6.2 e; cases this
     rcases lookm_ok hE hr h7 with ⟨h8,h9⟩ | ⟨m,h8,h9⟩
     · refine .inl ⟨h8,fun m hm=>?_⟩
       rcases List.mem_cons.1 hm with rfl | hm
       · exact ⟨h1,hne⟩
       · exact h9 m hm
     · exact .inr ⟨m,by simp [h8],h9⟩
noncomputable def repm (E : V→(Bool→Res)→Res) (key v : V) (es : List ME) (kn : Res) : (List ME→Res)→Res:=
 List.rec (motive:=fun _=>(List ME→Res)→Res) (fun _=>kn)
  (fun m l ih k=>ME.rec (motive:=fun _=>Res) (fun key0 _=>E key0 fun t=>ifk t (k (⟨key,v⟩ :: l)) (ih fun l'=>k (m :: l'))) m) es
theorem repm_ok {E : V→(Bool→Res)→Res} {key v : V} (hE : EqOk key E) {kn r : Res} (hr : r ≠ .fail) : ∀ {es : List ME} {k : List ME→Res},repm E key v es kn k = r →
 (kn = r∧∀ m ∈ es,ksort m.key = ksort key∧m.key ≠ key) ∨ ∃ a m b,es = a ++ m :: b∧m.key = key∧k (a ++ ⟨key,v⟩ :: b) = r
 | [],_,h=>.inl ⟨h,by simp⟩
 | ⟨key0,v0⟩ :: es,k,h=>by
   obtain ⟨h1,t,h5,h6⟩:=hE (show E key0 (fun t=>ifk t (k (⟨key,v⟩ :: es)) (repm E key v es kn fun l'=>k (⟨key0,v0⟩ :: l'))) = r from h) hr
   rcases ifk_ne h5 with ⟨rfl,h7⟩ | ⟨rfl,h7⟩
   · exact .inr ⟨[],_,es,rfl,h6.1 rfl,h7⟩
   · have hne : key0 ≠ key:=fun e=>by have:=h6.2 e; cases this
     rcases repm_ok hE hr h7 with ⟨h8,h9⟩ | ⟨a,m,b,h8,h9,h10⟩
     · refine .inl ⟨h8,fun m hm=>?_⟩
       rcases List.mem_cons.1 hm with rfl | hm
       · exact ⟨h1,hne⟩
       · exact h9 m hm
     · exact .inr ⟨⟨key0,v0⟩ :: a,m,b,by rw [h8]; rfl,h9,h10⟩
noncomputable def ltS (l n : Nat) (y : V) (a b : Res) : Res:=strk y fun l' n'=>ifk (Nat.blt l l') a (ifk (Nat.beq l l') (ifk (Nat.blt n n') a b) b)
noncomputable def ltI (n : Int) (y : V) (a b : Res) : Res:=intk y fun _ n'=>ifk (ilt n n') a b
noncomputable def ltk (s : Bool) (x y : V) (a b : Res) : Res:=Bool.rec (motive:=fun _=>Res) (intk x fun _ n=>ltI n y a b) (strk x fun l n=>ltS l n y a b) s
theorem ltk_ok {s : Bool} {x y : V} {a b r : Res} (h : ltk s x y a b = r) (hr : r ≠ .fail) : a = r ∨ b = r:=by
 cases s with
 | true=>
   obtain ⟨l,n,rfl,h1⟩:=strk_ok (show strk x (fun l n=>ltS l n y a b) = r from h) hr
   obtain ⟨l',n',rfl,h2⟩:=strk_ok (show strk y _ = r from h1) hr
   rcases ifk_ne h2 with ⟨_,h3⟩ | ⟨_,h3⟩
   · exact .inl h3
   · rcases ifk_ne h3 with ⟨_,h4⟩ | ⟨_,h4⟩
     · rcases ifk_ne h4 with ⟨_,h5⟩ | ⟨_,h5⟩
       · exact .inl h5
       · exact .inr h5
     · exact .inr h4
 | false=>
   obtain ⟨_,n,rfl,h1⟩:=intk_ok (show intk x (fun _ n=>ltI n y a b) = r from h) hr
   obtain ⟨_,n',rfl,h2⟩:=intk_ok (show intk y _ = r from h1) hr
   rcases ifk_ne h2 with ⟨_,h3⟩ | ⟨_,h3⟩
   · exact .inl h3
   · exact .inr h3
noncomputable def insm (s : Bool) (key v : V) (es : List ME) : (List ME→Res)→Res:=
 List.rec (motive:=fun _=>(List ME→Res)→Res) (fun k=>k [⟨key,v⟩]) (fun m l ih k=>ME.rec (motive:=fun _=>Res) (fun key0 _=>ltk s key key0 (k (⟨key,v⟩ :: m :: l)) (ih fun l'=>k (m :: l'))) m) es
theorem insm_ok {s : Bool} {key v : V} {r : Res} (hr : r ≠ .fail) : ∀ {es : List ME} {k : List ME→Res},insm s key v es k = r→∃ es',k es' = r∧es'.Perm (⟨key,v⟩ :: es)
 | [],k,h=>⟨_,h,.refl _⟩
 | ⟨key0,v0⟩ :: es,k,h=>by
   rcases ltk_ok (show ltk s key key0 (k (⟨key,v⟩ :: ⟨key0,v0⟩ :: es)) (insm s key v es fun l'=>k (⟨key0,v0⟩ :: l')) = r from h) hr with h1 | h1
   · exact ⟨_,h1,.refl _⟩
   · obtain ⟨es',h2,h3⟩:=insm_ok hr h1
     exact ⟨_,h2,(h3.cons _).trans (.swap _ _ _)⟩
noncomputable def cutm (E : V→(Bool→Res)→Res) (es : List ME) : (List ME→Res)→Res:=
 List.rec (motive:=fun _=>(List ME→Res)→Res) (fun k=>k []) (fun m l ih k=>ME.rec (motive:=fun _=>Res) (fun key0 _=>E key0 fun t=>ifk t (k l) (ih fun l'=>k (m :: l'))) m) es
theorem cutm_ok {E : V→(Bool→Res)→Res} {key : V} (hE : EqOk key E) {r : Res} (hr : r ≠ .fail) : ∀ {es : List ME} {k : List ME→Res},cutm E es k = r →
 (k es = r∧∀ m ∈ es,ksort m.key = ksort key∧m.key ≠ key) ∨ ∃ a m b,es = a ++ m :: b∧m.key = key∧k (a ++ b) = r
 | [],_,h=>.inl ⟨h,by simp⟩
 | ⟨key0,v0⟩ :: es,k,h=>by
   obtain ⟨h1,t,h5,h6⟩:=hE (show E key0 (fun t=>ifk t (k es) (cutm E es fun l'=>k (⟨key0,v0⟩ :: l'))) = r from h) hr
   rcases ifk_ne h5 with ⟨rfl,h7⟩ | ⟨rfl,h7⟩
   · exact .inr ⟨[],_,es,rfl,h6.1 rfl,h7⟩
   · have hne : key0 ≠ key:=fun e=>by have:=h6.2 e; cases this
     rcases cutm_ok hE hr h7 with ⟨h8,h9⟩ | ⟨a,m,b,h8,h9,h10⟩
     · refine .inl ⟨h8,fun m hm=>?_⟩
       rcases List.mem_cons.1 hm with rfl | hm
       · exact ⟨h1,hne⟩
       · exact h9 m hm
     · exact .inr ⟨⟨key0,v0⟩ :: a,m,b,by rw [h8]; rfl,h9,h10⟩
theorem perm_mid {α : Type} {l1 l2 c1 c2 : List α} {e e' : α} (p : (l1 ++ e :: l2).Perm (c1 ++ e :: c2)) : (l1 ++ e' :: l2).Perm (c1 ++ e' :: c2)∧(l1 ++ l2).Perm (c1 ++ c2):=by
 have h : (l1 ++ l2).Perm (c1 ++ c2):=(List.perm_middle.symm.trans (p.trans List.perm_middle)).cons_inv
 exact ⟨List.perm_middle.trans ((h.cons e').trans List.perm_middle.symm),h⟩
noncomputable def mapb (x : V) (h : Heap) (k : Bid→List ME→Nat→Res) (z : Res) : Res:=mapk x (fun b=>h.getk b fun y=>obk y fun y=>mpk y fun es c=>k b es c) z
theorem mapb_ok {x : V} {h : Heap} {k : Bid→List ME→Nat→Res} {z r : Res} (hh : mapb x h k z = r) (hr : r ≠ .fail) {ρ : Rho} {w : World} (rh : RH P ρ h w) {v : Value} (hv : VR ρ x v) :
 (v = .map none∧z = r) ∨ ∃ b es c i S ces,x = .map b∧ρ b = some (i,0,S)∧h.t.get b = .ob (.mp es c)∧k b es c = r∧v = .map (some i)∧w.heap[i]? = some (.map ces c)∧MapR ρ es ces.toList c:=by
 rcases mapk_ok hh hr with ⟨b,rfl,h1⟩ | ⟨rfl,h1⟩
 · rw [Heap.getk_eq] at h1
   obtain ⟨y,hy,h1⟩:=obk_ok h1 hr
   obtain ⟨es,c,rfl,h1⟩:=mpk_ok h1 hr
   cases hv with
   | map hb=>
     rename_i i z0 S
     obtain ⟨ob,g1,g2,rfl,_⟩:=rh.ob b i z0 S _ hb hy
     have : ∃ ces,ob = .map ces c∧MapR ρ es ces.toList c:=by cases ob <;> first | exact absurd g2 id | exact ⟨_,by rw [g2.2],g2.1⟩
     obtain ⟨ces,rfl,g3⟩:=this
     exact .inr ⟨b,es,c,i,S,ces,rfl,hb,hy,h1,rfl,g1,g3⟩
 · cases hv; exact .inl ⟨rfl,h1⟩
theorem run_getObj {w : World} {i : Nat} {es : Array MapEntry} {c : Nat} (h : w.heap[i]? = some (.map es c)) : (getObj i).run P w = .ok (.map es c) w:=by
 show Sem.run P (.getObj i .pure) w = _
 simp only [Sem.run,h]
theorem run_setObj {w : World} {i : Nat} {es : Array MapEntry} {c : Nat} {o' : Obj} (h : w.heap[i]? = some (.map es c)) : (setObj i o').run P w = .ok () { w with heap:=w.heap.setIfInBounds i o' }:=by
 show Sem.run P (.setObj i o' (.pure ())) w = _
 simp only [Sem.run,h]
noncomputable def sMkM (l : List V) (h : Heap) (k : V→Heap→Res) : Res:=
 List.rec (motive:=fun _=>Res) (h.newk (.ob (.mp [] 0)) fun b h'=>k (.map b) h') (fun v m _=>intk v fun _ _=>nilk' m (h.newk (.ob (.mp [] 0)) fun b h'=>k (.map b) h')) l
theorem sMkM_new {h : Heap} {k : V→Heap→Res} {r : Res} (hh : (h.newk (.ob (.mp [] 0)) fun b h'=>k (.map b) h') = r) (hr : r ≠ .fail) {ρ : Rho} {w : World} (rh : RH P ρ h w) :
 ∃ u h' ρ',k u h' = r∧VR ρ' u (.map (some w.heap.size))∧RH P ρ' h' { w with heap:=w.heap.push (.map #[] 0) }∧Ext ρ h w ρ' h' { w with heap:=w.heap.push (.map #[] 0) }:=by
 obtain ⟨nx,h2,h3⟩:=Heap.newk_ok hh hr
 obtain ⟨h4,h5⟩:=alloc rh h2 (x:=.ob (.mp [] 0)) (o:=.map #[] 0) (S:=0) (fun g n t ro e=>by cases e) (fun x' e=>by cases e; exact ⟨⟨⟨[],.refl _,trivial⟩,.nil,⟨none,by simp⟩,by simp,.nil⟩,rfl⟩)
 exact ⟨_,_,_,h3,.map (Rho.put_same ρ h.nx _),h4,h5⟩
theorem sMkM_ok {l : List V} {h : Heap} {k : V→Heap→Res} {r : Res} (hh : sMkM l h k = r) (hr : r ≠ .fail) {ρ : Rho} {w : World} (rh : RH P ρ h w) {x : Option Value} (hv : VRs ρ l x.toList)
 {t a b : TypeId} (ht : P.underlying t = some (.map a b)) : Ok P ρ h w (Instr.makeMap t x) k r:=by
 cases x with
 | none=>
   cases hv
   obtain ⟨u,h',ρ',h1,h2,h3,h4⟩:=sMkM_new hh hr rh
   exact ⟨u,h',ρ',_,_,h1,by simp [Instr.makeMap],h2,h3,h4⟩
 | some x=>
   cases hv with
   | cons hv hs=>
     cases hs
     obtain ⟨kd,n,rfl,h1⟩:=intk_ok (show intk _ (fun _ _=>nilk' [] (h.newk (.ob (.mp [] 0)) fun b h'=>k (.map b) h')) = r from hh) hr
     obtain ⟨_,h1⟩:=nilk'_ok h1 hr
     obtain ⟨u,h',ρ',h1,h2,h3,h4⟩:=sMkM_new h1 hr rh
     rw [hv.int_inv]
     exact ⟨u,h',ρ',_,_,h1,by simp [Instr.makeMap,run_und ht,asInt,asIntOf],h2,h3,h4⟩
noncomputable def okv (ok : Bool) (v : V) (t : Bool) : V:=Bool.rec (motive:=fun _=>V) v (.tup [v,.bool t]) ok
theorem okv_ok {ρ : Rho} {ok t : Bool} {v : V} {x : Value} (h : VR ρ v x) : VR ρ (okv ok v t) (if ok then .tuple #[x,.bool t] else x):=by
 cases ok with
 | true=>exact .tup (.cons h (.cons (.bool _) .nil))
 | false=>exact h
def ZeroV (P : Program) (t : TypeId) (z : V) : Prop:=∃ zv,(P.info? t).bind (·.zero) = some zv∧∀ ρ,VR ρ z zv
noncomputable def sLook (s ok : Bool) (z x key : V) (h : Heap) (k : V→Heap→Res) : Res:=
 keyk s key fun E=>mapb x h (fun _ es _=>lookm E (fun v=>k (okv ok v true) h) (k (okv ok z false) h) es) (k (okv ok z false) h)
theorem sLook_ok {s ok : Bool} {z x key : V} {h : Heap} {k : V→Heap→Res} {r : Res} (hh : sLook s ok z x key h k = r) (hr : r ≠ .fail) {ρ : Rho} {w : World} (rh : RH P ρ h w) {v a : Value} (hv : VR ρ x v) (ha : VR ρ key a)
 {t kt et : TypeId} {d : TypeDesc} (ht : P.underlying t = some (.map kt et)) (hk : P.underlying kt = some d) (hd : keyD s d = true) (hz : ZeroV P et z) : OkP P ρ h w (Instr.lookup t v a ok) k r:=by
 obtain ⟨zv,hz1,hz2⟩:=hz
 obtain ⟨E,h1,hE,hka,hkd⟩:=keyk_ok hh hr ha hd
 rcases mapb_ok h1 hr rh hv with ⟨rfl,h2⟩ | ⟨b,es,c,i,S,ces,rfl,hb,hy,h2,rfl,h3,h4⟩
 · refine ⟨_,_,h2,?_,okv_ok (hz2 ρ)⟩
   simp only [Instr.lookup,Sem.run_bind,run_und ht,Result.andThen_ok,Sem.run_pure,run_checkKey hk hd,Instr.findKey,run_und hk,Instr.findNow,run_zero hz1]
 · rcases lookm_ok hE hr h2 with ⟨h5,h6⟩ | ⟨m,hm,h6,h5⟩
   · refine ⟨_,_,h5,?_,okv_ok (hz2 ρ)⟩
     simp only [Instr.lookup,Sem.run_bind,run_und ht,Result.andThen_ok,Sem.run_pure,run_getObj h3,run_checkKey hk hd,Instr.findKey,run_und hk,h4.lost hkd hka h6,run_zero hz1]
   · obtain ⟨e,c1,c2,e1,e2,e3,e4⟩:=h4.found hkd hka hm h6
     refine ⟨_,_,h5,?_,okv_ok e3⟩
     simp only [Instr.lookup,Sem.run_bind,run_und ht,Result.andThen_ok,Sem.run_pure,run_getObj h3,run_checkKey hk hd,Instr.findKey,run_und hk,e4]
theorem turn_map {ρ : Rho} {h : Heap} {w : World} (rh : RH P ρ h w) {b : Bid} {i S : Nat} (hb : ρ b = some (i,0,S)) {y : Oth} (hy : h.t.get b = .ob y) {ces ces' : Array MapEntry} {c c' : Nat} (hw : w.heap[i]? = some (.map ces c)) {es' : List ME}
 (hm : MapR ρ es' ces'.toList c') (ev : Evo ces.toList c ces'.toList c') : RH P ρ (h.turn b (.ob (.mp es' c'))) { w with heap:=w.heap.setIfInBounds i (.map ces' c') }∧Ext ρ h w ρ (h.turn b (.ob (.mp es' c'))) { w with heap:=w.heap.setIfInBounds i (.map ces' c') }:=by
 have hlt:=rh.lt _ _ _ _ hb
 obtain ⟨es0,e0⟩:=rh.map_of hb (by rw [hy]; simp) hw
 exact turn (w':={ w with heap:=w.heap.setIfInBounds i (.map ces' c') }) rh hb (by rw [e0]; rfl) (x:=.ob (.mp es' c')) (o:=.map ces' c') rfl rfl rfl (by simp) (by simp [hlt]) (fun k hk=>by simp [Array.getElem?_setIfInBounds,Ne.symm hk])
  (fun g n t ro e=>by cases e) (fun x' e=>by cases e; exact ⟨⟨hm,rfl⟩,rfl⟩) (fun ces0 clk0 _ _ e=>by rw [hw] at e; cases e; exact ⟨_,_,rfl,ev⟩)
noncomputable def sUpd (s : Bool) (x key v : V) (h : Heap) (k : V→Heap→Res) : Res:=
 keyk s key fun E=>mapb x h (fun b es c=>repm E key v es (insm s key v es fun es'=>h.turnk b (.ob (.mp es' (Nat.succ c))) fun h'=>k .skip h') fun es'=>h.turnk b (.ob (.mp es' c)) fun h'=>k .skip h') .fail
theorem MapR.add {ρ : Rho} {es es' : List ME} {ces : List MapEntry} {c : Nat} (h : MapR ρ es ces c) {key v : V} {a x : Value} (hka : KeyR key a) (hv : VR ρ v x) (hn : ∀ m ∈ es,ksort m.key = ksort key∧m.key ≠ key) (hp : es'.Perm (⟨key,v⟩ :: es)) :
 MapR ρ es' (ces ++ [{ key:=a,val:=x,born:=c }]) (c + 1)∧Evo ces c (ces ++ [{ key:=a,val:=x,born:=c }]) (c + 1):=by
 obtain ⟨l,p,hl⟩:=h.perm
 refine ⟨⟨?_,?_,⟨ksort key,fun m hm=>?_⟩,fun e he=>?_,?_⟩,by omega,fun e he=>?_⟩
 · obtain ⟨l',h1,h2⟩:=MapL.perm hp (l:={ key:=a,val:=x,born:=c } :: l) ⟨hka,hv,hl⟩
   exact ⟨l',h1.trans ((p.cons _).trans (List.perm_append_singleton _ _).symm),h2⟩
 · refine (hp.pairwise_iff fun h=>Ne.symm h).2 (List.pairwise_cons.2 ⟨fun m hm=>Ne.symm (hn m hm).2,h.keys⟩)
 · rcases List.mem_cons.1 (hp.mem_iff.1 hm) with rfl | hm
   · rfl
   · exact (hn m hm).1
 · rcases List.mem_append.1 he with he | he
   · have:=h.old e he; omega
   · simp only [List.mem_singleton] at he; subst he; simp
 · refine List.pairwise_append.2 ⟨h.born,List.pairwise_singleton _ _,fun e he e' he'=>?_⟩
   simp only [List.mem_singleton] at he'; subst he'
   have:=h.old e he
   simp only; omega
 · rcases List.mem_append.1 he with he | he
   · exact .inr ⟨e,he,rfl,fun _=>.rfl⟩
   · simp only [List.mem_singleton] at he; subst he; exact .inl (Nat.le_refl _)
theorem MapR.sub {ρ : Rho} {a b : List ME} {m : ME} {ces : List MapEntry} {c : Nat} (h : MapR ρ (a ++ m :: b) ces c) {v : V} {x : Value} (hv : VR ρ v x) {c1 c2 : List MapEntry} {e : MapEntry} (he : ces = c1 ++ e :: c2) (hk : KeyR m.key e.key) :
 (MapR ρ (a ++ ⟨m.key,v⟩ :: b) (c1 ++ { e with val:=x } :: c2) c∧Evo ces c (c1 ++ { e with val:=x } :: c2) c)∧MapR ρ (a ++ b) (c1 ++ c2) c∧Evo ces c (c1 ++ c2) c:=by
 subst he
 obtain ⟨l,p,hl⟩:=h.perm
 obtain ⟨l1,l2,rfl,h1,h2⟩:=MapL.app hl
 cases l2 with
 | nil=>exact h2.elim
 | cons e' l2=>
   obtain ⟨g1,g2,g3⟩:=h2
   obtain rfl : e' = e:=MapL.uniq hl h.keys (by simp) (p.mem_iff.2 (by simp)) (g1.one hk)
   obtain ⟨p1,p2⟩:=perm_mid (e':={ e' with val:=x }) p
   obtain ⟨s,hs⟩:=h.sort
   have kp:=h.keys
   have bp:=h.born
   rw [List.pairwise_append,List.pairwise_cons] at kp bp
   obtain ⟨k1,⟨k2,k3⟩,k4⟩:=kp
   obtain ⟨b1,⟨b2,b3⟩,b4⟩:=bp
   refine ⟨⟨⟨⟨_,p1,.mk h1 ⟨hk,hv,g3⟩⟩,?_,⟨s,fun q hq=>?_⟩,fun q hq=>?_,?_⟩,Nat.le_refl _,fun q hq=>.inr ?_⟩,⟨⟨_,p2,.mk h1 g3⟩,?_,⟨s,fun q hq=>hs q ?_⟩,fun q hq=>h.old q ?_,?_⟩,Nat.le_refl _,fun q hq=>.inr ⟨q,?_,rfl,fun _=>.rfl⟩⟩
   · rw [List.pairwise_append,List.pairwise_cons]
     refine ⟨k1,⟨k2,k3⟩,fun q hq q' hq'=>?_⟩
     rcases List.mem_cons.1 hq' with rfl | hq'
     · exact k4 q hq m (by simp)
     · exact k4 q hq q' (by simp [hq'])
   · rcases List.mem_append.1 hq with hq | hq
     · exact hs q (by simp [hq])
     · rcases List.mem_cons.1 hq with rfl | hq
       · exact hs m (by simp)
       · exact hs q (by simp [hq])
   · rcases List.mem_append.1 hq with hq | hq
     · exact h.old q (by simp [hq])
     · rcases List.mem_cons.1 hq with rfl | hq
       · exact h.old e' (by simp)
       · exact h.old q (by simp [hq])
   · rw [List.pairwise_append,List.pairwise_cons]
     refine ⟨b1,⟨b2,b3⟩,fun q hq q' hq'=>?_⟩
     rcases List.mem_cons.1 hq' with rfl | hq'
     · exact b4 q hq e' (by simp)
     · exact b4 q hq q' (by simp [hq'])
   · rcases List.mem_append.1 hq with hq | hq
     · exact ⟨q,by simp [hq],rfl,fun _=>.rfl⟩
     · rcases List.mem_cons.1 hq with rfl | hq
       · exact ⟨e',by simp,rfl,fun _=>.rfl⟩
       · exact ⟨q,by simp [hq],rfl,fun _=>.rfl⟩
   · rw [List.pairwise_append]
     exact ⟨k1,k3,fun q hq q' hq'=>k4 q hq q' (by simp [hq'])⟩
   · rcases List.mem_append.1 hq with hq | hq <;> simp [hq]
   · rcases List.mem_append.1 hq with hq | hq <;> simp [hq]
   · rw [List.pairwise_append]
     exact ⟨b1,b3,fun q hq q' hq'=>b4 q hq q' (by simp [hq'])⟩
   · rcases List.mem_append.1 hq with hq | hq <;> simp [hq]
theorem modify_mid {α : Type} (f : α→α) : ∀ (c1 : List α) (e : α) (c2 : List α),(c1 ++ e :: c2).modify c1.length f = c1 ++ f e :: c2
 | [],_,_=>rfl
 | x :: c1,e,c2=>by simpa using modify_mid f c1 e c2
theorem erase_mid {α : Type} : ∀ (c1 : List α) (e : α) (c2 : List α),(c1 ++ e :: c2).eraseIdx c1.length = c1 ++ c2
 | [],_,_=>rfl
 | x :: c1,e,c2=>by simpa using erase_mid c1 e c2
theorem sUpd_ok {s : Bool} {x key u : V} {h : Heap} {k : V→Heap→Res} {r : Res} (hh : sUpd s x key u h k = r) (hr : r ≠ .fail) {ρ : Rho} {w : World} (rh : RH P ρ h w) {v a y : Value} (hv : VR ρ x v) (ha : VR ρ key a) (hu : VR ρ u y)
 {t kt et : TypeId} {d : TypeDesc} (ht : P.underlying t = some (.map kt et)) (hk : P.underlying kt = some d) (hd : keyD s d = true) : OkU P ρ h w (Instr.mapUpdate t v a y) k r:=by
 obtain ⟨E,h1,hE,hka,hkd⟩:=keyk_ok hh hr ha hd
 rcases mapb_ok h1 hr rh hv with ⟨rfl,h2⟩ | ⟨b,es,c,i,S,ces,rfl,hb,hy,h2,rfl,h3,h4⟩
 · exact absurd h2.symm hr
 · rcases repm_ok hE hr h2 with ⟨h5,h6⟩ | ⟨a1,m,b1,rfl,h6,h5⟩
   · obtain ⟨es',h7,h8⟩:=insm_ok hr h5
     rw [Heap.turnk_eq] at h7
     obtain ⟨g1,g2⟩:=h4.add hka hu h6 h8
     obtain ⟨h10,h11⟩:=turn_map rh hb hy h3 (c':=c + 1) (ces':=ces.push { key:=a,val:=y,born:=c }) (by simpa using g1) (by simpa using g2)
     refine ⟨_,_,_,h7,?_,h10,h11⟩
     simp only [Instr.mapUpdate,Sem.run_bind,run_und ht,Result.andThen_ok,run_getObj h3,run_checkKey hk hd,Instr.findKey,run_und hk,h4.lost hkd hka h6,Sem.run_pure,run_setObj h3]
   · rw [Heap.turnk_eq] at h5
     obtain ⟨e,c1,c2,e1,rfl,e3,e4⟩:=h4.found hkd hka (m:=m) (by simp) h6
     obtain ⟨⟨g1,g2⟩,_⟩:=h4.sub hu e1 (h6 ▸ hka)
     have hmod : (ces.modify c1.length fun e0=>{ e0 with key:=e.key,val:=y }).toList = c1 ++ { e with val:=y } :: c2:=by
      rw [Array.toList_modify,e1,modify_mid]
     rw [h6] at g1
     obtain ⟨h10,h11⟩:=turn_map rh hb hy h3 (c':=c) (ces':=ces.modify c1.length fun e0=>{ e0 with key:=e.key,val:=y }) (by rw [hmod]; exact g1) (by rw [hmod]; exact g2)
     refine ⟨_,_,_,h5,?_,h10,h11⟩
     have hj : ces[c1.length]? = some e:=by rw [← Array.getElem?_toList,e1]; simp
     simp only [Instr.mapUpdate,Sem.run_bind,run_und ht,Result.andThen_ok,run_getObj h3,run_checkKey hk hd,Instr.findKey,run_und hk,e4,Sem.run_pure,hj,Option.map_some,Option.getD_some,Instr.keyThatStays,hka.bits 10000,if_true,run_setObj h3]
noncomputable def sDel (s : Bool) (x key : V) (h : Heap) (k : V→Heap→Res) : Res:=
 keyk s key fun E=>mapb x h (fun b es c=>cutm E es fun es'=>h.turnk b (.ob (.mp es' c)) fun h'=>k (.tup []) h') (k (.tup []) h)
theorem sDel_ok {s : Bool} {x key : V} {h : Heap} {k : V→Heap→Res} {r : Res} (hh : sDel s x key h k = r) (hr : r ≠ .fail) {ρ : Rho} {w : World} (rh : RH P ρ h w) {v a : Value} (hv : VR ρ x v) (ha : VR ρ key a)
 {ts : Array TypeId} {t kt et tt : TypeId} {d : TypeDesc} (hts : ts[0]? = some t) (ht : P.underlying t = some (.map kt et)) (hk : P.underlying kt = some d) (hd : keyD s d = true) : Ok P ρ h w (Builtin.delete_ ts tt #[v,a]) k r:=by
 obtain ⟨E,h1,hE,hka,hkd⟩:=keyk_ok hh hr ha hd
 rcases mapb_ok h1 hr rh hv with ⟨rfl,h2⟩ | ⟨b,es,c,i,S,ces,rfl,hb,hy,h2,rfl,h3,h4⟩
 · refine .pure rh ⟨_,.tuple #[],h2,?_,.tup .nil⟩
   simp [Builtin.delete_,hts,run_und ht,run_checkKey hk hd]
 · rcases cutm_ok hE hr h2 with ⟨h5,h6⟩ | ⟨a1,m,b1,rfl,h6,h5⟩
   · rw [Heap.turnk_eq] at h5
     obtain ⟨h10,h11⟩:=turn_map rh hb hy h3 (c':=c) (ces':=ces) h4 (.refl _ _)
     refine ⟨_,_,_,.tuple #[],_,h5,?_,.tup .nil,h10,h11⟩
     simp only [Builtin.delete_,hts,Sem.run_bind,run_und ht,Result.andThen_ok,run_getObj h3,run_checkKey hk hd,Instr.findKey,run_und hk,h4.lost hkd hka h6,Sem.run_pure,run_setObj h3,List.getElem?_toArray,List.getElem?_cons_zero,List.getElem?_cons_succ]
   · rw [Heap.turnk_eq] at h5
     obtain ⟨e,c1,c2,e1,rfl,e3,e4⟩:=h4.found hkd hka (m:=m) (by simp) h6
     obtain ⟨_,g1,g2⟩:=h4.sub e3 e1 (h6 ▸ hka)
     have hmod : (ces.eraseIdxIfInBounds c1.length).toList = c1 ++ c2:=by
      rw [Array.toList_eraseIdxIfInBounds,e1,erase_mid]
     obtain ⟨h10,h11⟩:=turn_map rh hb hy h3 (c':=c) (ces':=ces.eraseIdxIfInBounds c1.length) (by rw [hmod]; exact g1) (by rw [hmod]; exact g2)
     refine ⟨_,_,_,.tuple #[],_,h5,?_,.tup .nil,h10,h11⟩
     simp only [Builtin.delete_,hts,Sem.run_bind,run_und ht,Result.andThen_ok,run_getObj h3,run_checkKey hk hd,Instr.findKey,run_und hk,e4,Sem.run_pure,run_setObj h3,List.getElem?_toArray,List.getElem?_cons_zero,List.getElem?_cons_succ]
noncomputable def lenl (es : List ME) : Nat:=List.rec (motive:=fun _=>Nat) 0 (fun _ _ n=>Nat.succ n) es
theorem lenl_eq (es : List ME) : lenl es = es.length:=by
 induction es with
 | nil=>rfl
 | cons m es ih=>show Nat.succ (lenl es) = _; rw [ih]; rfl
noncomputable def sLenM (x : V) (h : Heap) (k : V→Heap→Res) : Res:=mapb x h (fun _ es _=>k (.int .i64 (.ofNat (lenl es))) h) (k (.int .i64 (.ofNat 0)) h)
theorem sLenM_ok {x : V} {h : Heap} {k : V→Heap→Res} {r : Res} (hh : sLenM x h k = r) (hr : r ≠ .fail) {ρ : Rho} {w : World} (rh : RH P ρ h w) {v : Value} (hv : VR ρ x v)
 {ts : Array TypeId} {t kt et tt : TypeId} (hts : ts[0]? = some t) (ht : P.underlying t = some (.map kt et)) : OkP P ρ h w (Builtin.len_ ts tt #[v]) k r:=by
 rcases mapb_ok hh hr rh hv with ⟨rfl,h2⟩ | ⟨b,es,c,i,S,ces,rfl,hb,hy,h2,rfl,h3,h4⟩
 · refine ⟨_,_,h2,?_,.int _ _⟩
   simp [Builtin.len_,hts,run_und ht,goInt]
 · rw [lenl_eq,h4.length] at h2
   refine ⟨_,_,h2,?_,.int _ _⟩
   simp [Builtin.len_,hts,run_und ht,run_getObj h3,goInt]
noncomputable def sEqP (o : BinOp) (x y : V) (h : Heap) (k : V→Heap→Res) : Res:=
 pnk x fun a=>pnk y fun b=>ifk a (notIf o b fun u=>k u h) (ifk b (notIf o false fun u=>k u h)
  (ptrk x fun b1 o1=>ptrk y fun b2 o2=>ifk (Nat.beq b1.val b2.val) (notIf o (Nat.beq o1 o2) fun u=>k u h)
    (h.getk b1 fun y1=>arrk y1 fun g1 _ _ ro1=>h.getk b2 fun y2=>arrk y2 fun g2 _ _ ro2=>ifk (or (or ro1 ro2) (or (Nat.beq g1 1) (Nat.beq g2 1))) .fail (notIf o false fun u=>k u h))))
theorem run_sameAddr {w : World} {c c' o o' : Nat} {cs cs' : Array Value} {el el' : TypeId} {fz fz' : Nat × Nat} (h : w.heap[c]? = some (.cells cs el fz)) (h' : w.heap[c']? = some (.cells cs' el' fz')) (hf : fz.1 = fz.2) (hf' : fz'.1 = fz'.2)
 (hne : c ≠ c') : (sameAddr ⟨c,o,none⟩ ⟨c',o',none⟩).run P w = .ok false w:=by
 have e1 : w.shape? c = some (el,cs.size):=by simp [World.shape?,h]
 have e2 : w.shape? c' = some (el',cs'.size):=by simp [World.shape?,h']
 have f1 : ∀ o,w.frozen? ⟨c,o,none⟩ = false:=fun o=>by
  obtain ⟨lo,hi⟩:=fz
  simp only at hf
  simp only [World.frozen?,h]
  simp; omega
 have f2 : ∀ o,w.frozen? ⟨c',o,none⟩ = false:=fun o=>by
  obtain ⟨lo,hi⟩:=fz'
  simp only at hf'
  simp only [World.frozen?,h']
  simp; omega
 have r1 : ∀ o,(frozen ⟨c,o,none⟩).run P w = .ok false w:=fun o=>by
  show Sem.run P (.frozen _ .pure) w = _
  simp only [Sem.run,f1]
 have r2 : ∀ o,(frozen ⟨c',o,none⟩).run P w = .ok false w:=fun o=>by
  show Sem.run P (.frozen _ .pure) w = _
  simp only [Sem.run,f2]
 have s1 : (shape c).run P w = .ok (some (el,cs.size)) w:=by
  show Sem.run P (.shape c .pure) w = _
  simp only [Sem.run,e1]
 have s2 : (shape c').run P w = .ok (some (el',cs'.size)) w:=by
  show Sem.run P (.shape c' .pure) w = _
  simp only [Sem.run,e2]
 have hb : (c == c') = false:=by simpa using hne
 simp only [sameAddr,hb,Bool.false_eq_true,if_false,Sem.run_bind,r1,r2,Result.andThen_ok,Bool.false_and,noView,viewAt,s1,s2,Option.isSome_some,if_true,Sem.run_pure,Option.isSome_none,mayBeOne,stringish,Bool.or_false]
theorem sEqP_ok {o : BinOp} {x y : V} {h : Heap} {k : V→Heap→Res} {r : Res} (hh : sEqP o x y h k = r) (hr : r ≠ .fail) {ρ : Rho} {w : World} (rh : RH P ρ h w) {a b : Value} (ha : VR ρ x a) (hb : VR ρ y b) {t e : TypeId}
 (ht : P.underlying t = some (.pointer e)) {n : Nat} (hs : sz P e = some n) (hn : n ≠ 0) (X Y : Operand) :
 ∃ u z,k u h = r∧(do eqGuard o t X Y a b; binOp o t a b : Sem Value).run P w = .ok z w∧VR ρ u z∧z.oneCell' = true:=by
 have done : ∀ {q : Bool},notIf o q (fun u=>k u h) = r→(Op.equal t a b).run P w = .ok q w→(∃ p,a = .pointer p) →
  ∃ u z,k u h = r∧(do eqGuard o t X Y a b; binOp o t a b : Sem Value).run P w = .ok z w∧VR ρ u z∧z.oneCell' = true:=fun {q} h1 h2 h3=>by
  obtain ⟨p,rfl⟩:=h3
  exact eqop_ok (k:=fun u=>k u h) h1 hr (by unfold eqGuard; cases o <;> rfl) h2 (eql_shape (by cases b <;> trivial)).1 (eql_shape (by cases b <;> trivial)).2
 rcases pnk_ok hh hr ha with ⟨rfl,h1⟩ | ⟨p,rfl,h1⟩ <;> rcases pnk_ok h1 hr hb with ⟨rfl,h2⟩ | ⟨q,rfl,h2⟩
 · exact done (q:=true) h2 (run_equal_of fun d=>by simp [Op.equalIn,run_und ht]) ⟨_,rfl⟩
 · exact done (q:=false) h2 (run_equal_of fun d=>by simp [Op.equalIn,run_und ht]) ⟨_,rfl⟩
 · exact done (q:=false) h2 (run_equal_of fun d=>by simp [Op.equalIn,run_und ht]) ⟨_,rfl⟩
 · obtain ⟨b1,o1,rfl,h3⟩:=ptrk_ok (show ptrk x _ = r from h2) hr
   obtain ⟨b2,o2,rfl,h4⟩:=ptrk_ok h3 hr
   obtain ⟨c1,z1,S1,r1,e1⟩:=ha.ptr_inv
   obtain ⟨c2,z2,S2,r2,e2⟩:=hb.ptr_inv
   cases e1; cases e2
   have run : ∀ {q : Bool},(sameAddr ⟨c1,z1 + o1,none⟩ ⟨c2,z2 + o2,none⟩).run P w = .ok q w→(Op.equal t (.pointer (some ⟨c1,z1 + o1,none⟩)) (.pointer (some ⟨c2,z2 + o2,none⟩))).run P w = .ok q w:=fun {q} h=>by
    refine run_equal_of fun d=>?_
    simp only [Op.equalIn,Sem.run_bind,run_und ht,Result.andThen_ok,run_size hs]
    rw [if_pos hn]
    exact h
   rcases ifk_ne h4 with ⟨h5,h6⟩ | ⟨h5,h6⟩
   · obtain rfl:=Bid.val_inj (Nat.eq_of_beq_eq_true h5)
     rw [r1] at r2
     cases r2
     refine done h6 (run ?_) ⟨_,rfl⟩
     simp only [sameAddr,beq_self_eq_true,if_true,Sem.run_pure]
     congr 1
     rw [Bool.eq_iff_iff,Nat.beq_eq,beq_iff_eq]
     constructor
     · intro h
       have:=congrArg Addr.off h
       simp only at this; omega
     · rintro rfl; rfl
   · rw [Heap.getk_eq] at h6
     obtain ⟨g1,m1,t1,ro1,k1,h7⟩:=arrk_ok h6 hr
     rw [Heap.getk_eq] at h7
     obtain ⟨g2,m2,t2,ro2,k2,h8⟩:=arrk_ok h7 hr
     rcases ifk_ne h8 with ⟨_,h9⟩ | ⟨h9,h10⟩
     · exact absurd h9.symm hr
     · simp only [Bool.or_eq_false_iff] at h9
       obtain ⟨⟨rfl,rfl⟩,h11,h12⟩:=h9
       obtain ⟨cs1,a1⟩:=rh.arr _ _ _ _ _ _ _ _ r1 k1
       obtain ⟨cs2,a2⟩:=rh.arr _ _ _ _ _ _ _ _ r2 k2
       obtain ⟨el1,fz1,w1,f1⟩:=a1.at_
       obtain ⟨el2,fz2,w2,f2⟩:=a2.at_
       have g1 : fz1.1 = fz1.2:=(f1 rfl).elim id fun h=>by rw [h.2] at h11; cases h11
       have g2 : fz2.1 = fz2.2:=(f2 rfl).elim id fun h=>by rw [h.2] at h12; cases h12
       refine done h10 (run (run_sameAddr w1 w2 g1 g2 ?_)) ⟨_,rfl⟩
       rintro rfl
       have:=rh.inj _ _ _ _ _ _ _ (by rw [k1]; rfl) (by rw [k2]; simp) r1 r2
       subst this
       rw [Nat.beq_refl] at h5; cases h5
noncomputable def sTas (t : Nat) (ok : Bool) (z x : V) (h : Heap) (k : V→Heap→Res) : Res:=
 ifk2 x (fun t' v=>ifk (Nat.beq t' t) (k (okv ok v true) h) (ifk ok (k (okv ok z false) h) .fail)) (ifk ok (k (okv ok z false) h) .fail)
def notIface : TypeDesc→Bool
 | .interface _=>false
 | _=>true
theorem sTas_ok {t : Nat} {ok : Bool} {z x : V} {h : Heap} {k : V→Heap→Res} {r : Res} (hh : sTas t ok z x h k = r) (hr : r ≠ .fail) {ρ : Rho} {w : World} {v : Value} (hv : VR ρ x v) {xt : TypeId}
 {d : TypeDesc} (ht : P.underlying t = some d) (hd : notIface d = true) (hz : ok = true→ZeroV P t z) : OkP P ρ h w (Instr.typeAssert v xt t ok) k r:=by
 have dm : ∀ {α : Type} (f : Array (String × TypeId)→α) (g : α),(match d with | .interface ms=>f ms | _=>g) = g:=fun f g=>by cases d <;> first | rfl | cases hd
 rcases ifk2_ok hh hr with ⟨t',v',rfl,h1⟩ | ⟨rfl,h1⟩
 · cases hv with
   | iface hv'=>
     rename_i x'
     rcases ifk_ne h1 with ⟨e,h2⟩ | ⟨e,h2⟩
     · obtain rfl:=Nat.eq_of_beq_eq_true e
       refine ⟨_,_,h2,?_,okv_ok hv'⟩
       simp only [Instr.typeAssert,Sem.run_bind,run_und ht,Result.andThen_ok]
       cases d <;> first | (cases hd; done) | (simp only [if_true,Sem.run_pure])
     · obtain ⟨rfl,h3⟩:=ifk_fail h2 hr
       obtain ⟨zv,hz1,hz2⟩:=hz rfl
       refine ⟨_,_,h3,?_,okv_ok (hz2 ρ)⟩
       have hne : ¬ t' = t:=by rintro rfl; rw [Nat.beq_refl] at e; cases e
       simp only [Instr.typeAssert,Sem.run_bind,run_und ht,Result.andThen_ok]
       cases d <;> first | (cases hd; done) | (simp only [if_neg hne,if_true,Sem.run_bind,run_zero hz1,Result.andThen_ok,Sem.run_pure])
 · cases hv
   obtain ⟨rfl,h3⟩:=ifk_fail h1 hr
   obtain ⟨zv,hz1,hz2⟩:=hz rfl
   refine ⟨_,_,h3,?_,okv_ok (hz2 ρ)⟩
   simp only [Instr.typeAssert,Sem.run_bind,run_und ht,Result.andThen_ok]
   cases d <;> first | (cases hd; done) | (simp only [if_true,Sem.run_bind,run_zero hz1,Result.andThen_ok,Sem.run_pure])
end Go.Ev

/- EVALUATOR: functions without a Go body: looking for a byte in a string, comparing two strings. -/
namespace Go.Ev
variable {P : Program}
theorem findNext_of {fn : Func} {a b : String} (h1 : fn.name = a) (h2 : fn.origin = b) (l1 : Extern.allNextRows.lookup a = none) (l2 : Extern.allNextRows.lookup b = none) : Extern.findNext fn = none:=by
 unfold Extern.findNext
 simp only [h1,h2,l1,l2,Option.map_none]
 rfl
theorem find_of {fn : Func} {a : String} (h1 : fn.name = a) {e : Array Value→Sem Value} (l1 : Extern.allGenericRows.lookup a = none) (l2 : Extern.allTypedRows.lookup a = none) (l3 : Extern.allRows.lookup a = some e) : Extern.find fn = some e:=by
 unfold Extern.find
 simp only [h1,l1,l2,l3,Option.map_none]
 rfl
def extF (P : Program) (g : Nat) (name : String) : Bool:=match P.funcs[g]? with
 | some fn=>fn.body.isNone && fn.name == name && fn.origin == ""
 | none=>false
theorem extF_ok {g : Nat} {name : String} (h : extF P g name = true) : ∃ fn,P.funcs[g]? = some fn∧fn.body.isNone = true∧fn.name = name∧fn.origin = "":=by
 unfold extF at h
 split at h
 · rename_i fn hf
   simp only [Bool.and_eq_true,beq_iff_eq] at h
   exact ⟨fn,hf,h.1.1,h.1.2,h.2⟩
 · cases h
theorem next_none : Extern.allNextRows.lookup "" = none:=by kernel_rfl
noncomputable def idxb (f : Nat) : Nat→Nat→Nat→(Int→Res)→Res:=
 Nat.rec (motive:=fun _=>Nat→Nat→Nat→(Int→Res)→Res) (fun _ _ _ k=>k (.negSucc 0))
  (fun _ ih i n c k=>ifk (Nat.beq (Nat.mod n 256) c) (k (.ofNat i)) (ih (Nat.succ i) (Nat.div n 256) c k)) f
theorem idxb_eq (f i n c : Nat) (hc : c < 256) (k : Int→Res) : idxb f i n c k = k (if Lib.indexByte (dig f n) (UInt8.ofNat c) = -1 then -1 else Lib.indexByte (dig f n) (UInt8.ofNat c) + i):=by
 induction f generalizing i n with
 | zero=>rfl
 | succ f ih=>
   show ifk (Nat.beq (n % 256) c) (k (.ofNat i)) (idxb f (i + 1) (n / 256) c k) = _
   rw [ifk_eq,ih]
   have e : (UInt8.ofNat (n % 256) == UInt8.ofNat c) = Nat.beq (n % 256) c:=by
    rw [Bool.eq_iff_iff,Nat.beq_eq,beq_iff_eq]
    constructor
    · intro h
      have:=congrArg UInt8.toNat h
      simp at this
      omega
    · intro h; rw [h]
   simp only [dig,Lib.indexByte,e]
   have hge:=Lib.indexByte_ge (dig f (n / 256)) (UInt8.ofNat c)
   cases hb : Nat.beq (n % 256) c with
   | true=>simp
   | false=>
     simp only [Bool.false_eq_true,if_false]
     by_cases h1 : Lib.indexByte (dig f (n / 256)) (UInt8.ofNat c) = -1
     · simp [h1]
     · have : (Lib.indexByte (dig f (n / 256)) (UInt8.ofNat c) == -1) = false:=by simpa using h1
       rw [if_neg h1,this]
       simp only [Bool.false_eq_true,if_false]
       rw [if_neg (by omega)]
       congr 1; omega
noncomputable def sIdxB (x y : V) (h : Heap) (k : V→Heap→Res) : Res:=
 strk x fun l n=>intk y fun kd c=>ifk (Nat.beq (kno kd) 4) (natk c fun c=>ifk (Nat.blt c 256) (idxb l 0 n c fun i=>k (.int .i64 i) h) .fail) .fail
theorem sIdxB_ok {x y : V} {h : Heap} {k : V→Heap→Res} {r : Res} (hh : sIdxB x y h k = r) (hr : r ≠ .fail) {ρ : Rho} {w : World} {v u : Value} (hv : VR ρ x v) (hu : VR ρ y u)
 {g : Nat} (hg : extF P g "internal/bytealg.IndexByteString" = true) : ∃ u' y,k u' h = r∧(callFunc g #[v,u]).run P w = .ok (.value y) w∧VR ρ u' y:=by
 obtain ⟨fn,h1,h2,h3,h4⟩:=extF_ok hg
 obtain ⟨l,n,rfl,h5⟩:=strk_ok hh hr
 obtain ⟨kd,c,rfl,h6⟩:=intk_ok h5 hr
 obtain ⟨hk,h7⟩:=ifk_fail h6 hr
 obtain ⟨c,rfl,h8⟩:=natk_ok h7 hr
 obtain ⟨hc,h9⟩:=ifk_fail h8 hr
 have hc : c < 256:=by simpa [Nat.blt_eq] using hc
 obtain rfl : kd = .u8:=by cases kd <;> first | rfl | exact absurd hk (by decide)
 obtain ⟨s,rfl,e1,e2⟩:=hv.str_inv
 rw [hu.int_inv]
 rw [idxb_eq _ _ _ _ hc] at h9
 refine ⟨_,.int .i64 (Lib.indexByte (dig l n) (UInt8.ofNat c)),h9,?_,?_⟩
 · rw [run_callFunc_standIn h1 (by rw [h3]; decide) h2 (findNext_of h3 h4 (by kernel_rfl) next_none) (e:=Extern.BytealgIndexByte.indexByte) (find_of h3 (by kernel_rfl) (by kernel_rfl) (by kernel_rfl)),
    Lib.run_indexByteString,e1]
   simp [Result.andThen]
 · have : (if Lib.indexByte (dig l n) (UInt8.ofNat c) = -1 then -1 else Lib.indexByte (dig l n) (UInt8.ofNat c) + (0 : Nat)) = Lib.indexByte (dig l n) (UInt8.ofNat c):=by split <;> simp_all
   rw [this]
   exact .int _ _
theorem cmp_less : ∀ (a b : List UInt8),Lib.compareBytes a b = if a == b then 0 else if Op.bytesLess a b then -1 else 1
 | [],[]=>rfl
 | [],b :: bs=>rfl
 | a :: as,[]=>rfl
 | a :: as,b :: bs=>by
   have ih:=cmp_less as bs
   simp only [Lib.compareBytes,Op.bytesLess,ih]
   by_cases h1 : a < b
   · have hne : ¬ a = b:=by rintro rfl; exact UInt8.lt_irrefl _ h1
     simp [h1,hne]
   · by_cases h2 : b < a
     · have hne : ¬ a = b:=by rintro rfl; exact UInt8.lt_irrefl _ h2
       simp [h1,h2,hne]
     · have : a = b:=UInt8.le_antisymm (UInt8.not_lt.1 h2) (UInt8.not_lt.1 h1)
       subst this
       simp [h1]
noncomputable def sCmpS (x y : V) (h : Heap) (k : V→Heap→Res) : Res:=
 strk x fun l n=>strk y fun l' m=>ifk (seq l n l' m) (k (.int .i64 (.ofNat 0)) h) (ifk (slt (Nat.succ l') l n l' m) (k (.int .i64 (.negSucc 0)) h) (k (.int .i64 (.ofNat 1)) h))
theorem sCmpS_ok {x y : V} {h : Heap} {k : V→Heap→Res} {r : Res} (hh : sCmpS x y h k = r) (hr : r ≠ .fail) {ρ : Rho} {w : World} {v u : Value} (hv : VR ρ x v) (hu : VR ρ y u)
 {g : Nat} (hg : extF P g "internal/bytealg.abigen_runtime_cmpstring" = true) : ∃ u' y,k u' h = r∧(callFunc g #[v,u]).run P w = .ok (.value y) w∧VR ρ u' y:=by
 obtain ⟨fn,h1,h2,h3,h4⟩:=extF_ok hg
 obtain ⟨l,n,rfl,h5⟩:=strk_ok hh hr
 obtain ⟨l',m,rfl,h6⟩:=strk_ok h5 hr
 obtain ⟨s,rfl,e1,e2⟩:=hv.str_inv
 obtain ⟨s',rfl,e3,e4⟩:=hu.str_inv
 have key : ∀ i,Lib.compareBytes s.data.toList s'.data.toList = i→k (.int .i64 i) h = r→∃ u' y,k u' h = r∧(callFunc g #[.string s,.string s']).run P w = .ok (.value y) w∧VR ρ u' y:=fun i hi hk=>by
  refine ⟨_,.int .i64 i,hk,?_,.int _ _⟩
  rw [run_callFunc_standIn h1 (by rw [h3]; decide) h2 (findNext_of h3 h4 (by kernel_rfl) next_none) (e:=Extern.BytealgCompare.compare) (find_of h3 (by kernel_rfl) (by kernel_rfl) (by kernel_rfl)),
   Lib.run_compareString,hi]
  simp [Result.andThen]
 rw [e1,e3,cmp_less] at key
 rw [seq_eq e2 e4,slt_eq _ _ _ _ _ (by omega)] at h6
 rcases ifk_ne h6 with ⟨h7,h8⟩ | ⟨h7,h8⟩
 · exact key _ (by rw [h7]; rfl) h8
 · rcases ifk_ne h8 with ⟨h9,h10⟩ | ⟨h9,h10⟩
   · exact key _ (by rw [h7,h9]; rfl) h10
   · exact key _ (by rw [h7,h9]; rfl) h10
end Go.Ev
