/- EvVal: texts joined. -/
import Derived.Test.YtobbabhldblljaaGreatDoorEvHeap
/- EVALUATOR, 3: how the kernel reads and writes an abstract heap, and what each reading and writing says of the world. -/
namespace Go.Ev
noncomputable def ifk (b : Bool) (x y : Res) : Res:=Bool.rec (motive:=fun _=>Res) y x b
theorem ifk_eq (b : Bool) (x y : Res) : ifk b x y = if b then x else y:=by cases b <;> rfl
noncomputable def zk (n : Nat) (x y : Res) : Res:=Nat.rec (motive:=fun _=>Res) x (fun _ _=>y) n
theorem zk_eq (n : Nat) (x y : Res) : zk n x y = if n = 0 then x else y:=by cases n <;> rfl
theorem ifk_ne {b : Bool} {x y r : Res} (h : ifk b x y = r) : (b = true∧x = r) ∨ (b = false∧y = r):=by cases b <;> simp_all [ifk]
theorem ifk_fail {b : Bool} {x r : Res} (h : ifk b x .fail = r) (hr : r ≠ .fail) : b = true∧x = r:=by
 cases b
 · exact absurd h.symm hr
 · exact ⟨rfl,h⟩
theorem zk_fail {n : Nat} {x r : Res} (h : zk n x .fail = r) (hr : r ≠ .fail) : n = 0∧x = r:=by
 cases n
 · exact ⟨rfl,h⟩
 · exact absurd h.symm hr
noncomputable def T.getk (t : T) : Nat→(List V→Res)→Res:=
 T.rec (motive:=fun _=>Nat→(List V→Res)→Res) (fun _ _=>.fail) (fun c i k=>Nat.rec (motive:=fun _=>Res) (k c) (fun _ _=>.fail) i)
  (fun _ _ iha ihb i k=>Nat.rec (motive:=fun _=>Res) (iha (Nat.div i 2) k) (fun _ _=>ihb (Nat.div i 2) k) (Nat.mod i 2)) t
theorem T.getk_eq (t : T) (i : Nat) (k : List V→Res) : t.getk i k = match t.get i with | some c=>k c | none=>.fail:=by
 induction t generalizing i with
 | e=>rfl
 | lf c=>
   show zk i (k c) .fail = _
   simp only [T.get,zk_eq]; split <;> rfl
 | nd a b iha ihb=>
   show zk (i % 2) (a.getk (i / 2) k) (b.getk (i / 2) k) = _
   rw [zk_eq,iha,ihb]
   simp only [T.get]
   split <;> rfl
noncomputable def T.setk (t : T) : Nat→List V→(T→Res)→Res:=
 T.rec (motive:=fun _=>Nat→List V→(T→Res)→Res) (fun i c k=>zk i (k (.lf c)) .fail)
  (fun c0 i c k=>zk i (k (.lf c)) (zk (Nat.pred i) (k (.nd (.lf c0) (.lf c))) .fail))
  (fun a b iha ihb i c k=>zk (Nat.mod i 2) (iha (Nat.div i 2) c (fun a'=>k (.nd a' b))) (ihb (Nat.div i 2) c (fun b'=>k (.nd a b')))) t
theorem T.setk_eq (t : T) (i : Nat) (c : List V) (k : T→Res) : t.setk i c k = match t.set i c with | some t'=>k t' | none=>.fail:=by
 induction t generalizing i k with
 | e=>simp only [T.setk,T.set,zk_eq]; split <;> rfl
 | lf c0=>
   simp only [T.setk,T.set,zk_eq]
   split
   · rfl
   · rename_i h
     obtain ⟨j,rfl⟩ : ∃ j,i = j + 1:=⟨i - 1,by omega⟩
     simp only [Nat.pred_succ]
     by_cases hj : j = 0
     · subst hj; simp
     · rw [if_neg hj,if_neg (by omega)]
 | nd a b iha ihb=>
   show zk (i % 2) (a.setk (i / 2) c (fun a'=>k (.nd a' b))) (b.setk (i / 2) c (fun b'=>k (.nd a b'))) = _
   rw [zk_eq,iha,ihb]
   simp only [T.set]
   split
   · cases a.set (i / 2) c <;> rfl
   · cases b.set (i / 2) c <;> rfl
theorem T.getk_ok {t : T} {i : Nat} {k : List V→Res} {r : Res} (h : t.getk i k = r) (hr : r ≠ .fail) : ∃ c,t.get i = some c∧k c = r:=by
 rw [T.getk_eq] at h
 split at h
 · exact ⟨_,by assumption,h⟩
 · exact absurd h.symm hr
theorem T.setk_ok {t : T} {i : Nat} {c : List V} {k : T→Res} {r : Res} (h : t.setk i c k = r) (hr : r ≠ .fail) : ∃ t',t.set i c = some t'∧k t' = r:=by
 rw [T.setk_eq] at h
 split at h
 · exact ⟨_,by assumption,h⟩
 · exact absurd h.symm hr
noncomputable def nthk (l : List V) : Nat→(V→Res)→Res:=
 List.rec (motive:=fun _=>Nat→(V→Res)→Res) (fun _ _=>.fail) (fun v _ ih i k=>Nat.rec (motive:=fun _=>Res) (k v) (fun m _=>ih m k) i) l
theorem nthk_ok {l : List V} {i : Nat} {k : V→Res} {r : Res} (h : nthk l i k = r) (hr : r ≠ .fail) : ∃ v,l[i]? = some v∧k v = r:=by
 induction l generalizing i with
 | nil=>exact absurd h.symm hr
 | cons v l ih=>
   cases i with
   | zero=>exact ⟨v,by simp,h⟩
   | succ j=>
     obtain ⟨u,h1,h2⟩:=ih (i:=j) h
     exact ⟨u,by simpa using h1,h2⟩
noncomputable def takek (n : Nat) : List V→(List V→List V→Res)→Res:=
 Nat.rec (motive:=fun _=>List V→(List V→List V→Res)→Res) (fun l k=>k [] l)
  (fun _ ih l k=>List.rec (motive:=fun _=>Res) .fail (fun v l' _=>ih l' (fun a b=>k (v :: a) b)) l) n
theorem takek_ok {n : Nat} {l : List V} {k : List V→List V→Res} {r : Res} (h : takek n l k = r) (hr : r ≠ .fail) : n ≤ l.length∧k (l.take n) (l.drop n) = r:=by
 induction n generalizing l k with
 | zero=>exact ⟨by omega,by simp only [List.take_zero,List.drop_zero]; exact h⟩
 | succ n ih=>
   cases l with
   | nil=>exact absurd h.symm hr
   | cons v l=>obtain ⟨h1,h2⟩:=ih (k:=fun a b=>k (v :: a) b) h; exact ⟨by simpa using h1,by simpa using h2⟩
noncomputable def appk (l : List V) : List V→(List V→Res)→Res:=
 List.rec (motive:=fun _=>List V→(List V→Res)→Res) (fun m k=>k m) (fun v _ ih m k=>ih m (fun a=>k (v :: a))) l
theorem appk_eq (l m : List V) (k : List V→Res) : appk l m k = k (l ++ m):=by
 induction l generalizing k with
 | nil=>rfl
 | cons v l ih=>exact ih (fun a=>k (v :: a))
noncomputable def gatherk (t : T) (g : Nat) (f : Nat) : Nat→Nat→(List V→Res)→Res:=
 Nat.rec (motive:=fun _=>Nat→Nat→(List V→Res)→Res) (fun _ _ _=>.fail)
  (fun _ ih o n k=>t.getk (Nat.div o g) fun ch=>takek (Nat.mod o g) ch fun _ rest=>
    ifk (Nat.ble n (Nat.sub g (Nat.mod o g))) (takek n rest fun p _=>k p)
     (ih (Nat.add o (Nat.sub g (Nat.mod o g))) (Nat.sub n (Nat.sub g (Nat.mod o g))) fun q=>appk rest q k)) f
noncomputable def cellsk (t : T) (g o n : Nat) (k : List V→Res) : Res:=
 zk n (k []) (ifk (Nat.beq n g) (zk (Nat.mod o g) (t.getk (Nat.div o g) k) (gatherk t g n o n k)) (gatherk t g n o n k))
noncomputable def cellk (t : T) (g o : Nat) (k : V→Res) : Res:=t.getk (Nat.div o g) fun ch=>nthk ch (Nat.mod o g) k
def T.cell (t : T) (g o : Nat) : Option V:=(t.get (o / g)).bind fun ch=>ch[o % g]?
theorem gatherk_ok {t : T} {g : Nat} (hg : 0 < g) (hw : ∀ j ch,t.get j = some ch→ch.length = g) {f o n : Nat} {k : List V→Res} {r : Res}
 (h : gatherk t g f o n k = r) (hr : r ≠ .fail) : ∃ l,k l = r∧l.length = n∧∀ i v,l[i]? = some v→t.cell g (o + i) = some v:=by
 induction f generalizing o n k with
 | zero=>exact absurd h.symm hr
 | succ f ih=>
   change (t.getk (o / g) fun ch=>takek (o % g) ch fun _ rest=>ifk (Nat.ble n (g - o % g)) (takek n rest fun p _=>k p)
    (gatherk t g f (o + (g - o % g)) (n - (g - o % g)) fun q=>appk rest q k)) = r at h
   obtain ⟨ch,h1,h⟩:=T.getk_ok h hr
   obtain ⟨h2,h⟩:=takek_ok h hr
   have hlen:=hw _ _ h1
   have hmod:=Nat.mod_lt o hg
   have hdm:=Nat.div_add_mod o g
   have hin : ∀ i,i < g - o % g→(o + i) / g = o / g∧(o + i) % g = o % g + i:=by
    intro i hi
    have e : o + i = g * (o / g) + (o % g + i):=by omega
    have hlt : o % g + i < g:=by omega
    rw [e]
    exact ⟨by rw [Nat.mul_add_div hg,Nat.div_eq_of_lt hlt]; omega,by rw [Nat.mul_add_mod]; exact Nat.mod_eq_of_lt hlt⟩
   rcases ifk_ne h with ⟨hb,h⟩ | ⟨hb,h⟩
   · have hb' : n ≤ g - o % g:=Nat.le_of_ble_eq_true hb
     obtain ⟨h3,h⟩:=takek_ok h hr
     refine ⟨_,h,by simp only [List.length_take,List.length_drop]; omega,?_⟩
     intro i v hi
     have hin' : i < n:=by
      have:=(List.getElem?_eq_some_iff.1 hi).1
      simp only [List.length_take,List.length_drop] at this; omega
     obtain ⟨e1,e2⟩:=hin i (by omega)
     rw [List.getElem?_take_of_lt hin',List.getElem?_drop] at hi
     simp only [T.cell,e1,h1,Option.bind_some,e2,hi]
   · have hb' : ¬ n ≤ g - o % g:=fun hle=>by rw [Nat.ble_eq_true_of_le hle] at hb; cases hb
     obtain ⟨l,h3,h4,h5⟩:=ih h
     rw [appk_eq] at h3
     refine ⟨_,h3,by simp only [List.length_append,List.length_drop]; omega,?_⟩
     intro i v hi
     by_cases hlt : i < g - o % g
     · obtain ⟨e1,e2⟩:=hin i hlt
       rw [List.getElem?_append_left (by simp only [List.length_drop]; omega),List.getElem?_drop] at hi
       simp only [T.cell,e1,h1,Option.bind_some,e2,hi]
     · rw [List.getElem?_append_right (by simp only [List.length_drop]; omega)] at hi
       have:=h5 _ _ hi
       rw [← this]
       congr 1
       simp only [List.length_drop]; omega
theorem cellsk_ok {t : T} {g : Nat} (hg : 0 < g) (hw : ∀ j ch,t.get j = some ch→ch.length = g) {o n : Nat} {k : List V→Res} {r : Res}
 (h : cellsk t g o n k = r) (hr : r ≠ .fail) : ∃ l,k l = r∧l.length = n∧∀ i v,l[i]? = some v→t.cell g (o + i) = some v:=by
 unfold cellsk at h
 rw [zk_eq] at h
 split at h
 · subst n; exact ⟨[],h,rfl,fun i v hi=>by simp at hi⟩
 · rcases ifk_ne h with ⟨hb,h⟩ | ⟨hb,h⟩
   · rw [zk_eq] at h
     split at h
     · rename_i hm
       obtain ⟨ch,h1,h2⟩:=T.getk_ok h hr
       have hlen:=hw _ _ h1
       have hng : n = g:=Nat.eq_of_beq_eq_true hb
       refine ⟨ch,h2,by omega,fun i v hi=>?_⟩
       have hi' : i < g:=by have:=(List.getElem?_eq_some_iff.1 hi).1; omega
       have hdm:=Nat.div_add_mod o g
       have hm' : o % g = 0:=hm
       have e : o + i = g * (o / g) + i:=by omega
       have h1' : t.get (o / g) = some ch:=h1
       have e1 : (o + i) / g = o / g:=by rw [e,Nat.mul_add_div hg,Nat.div_eq_of_lt hi']; omega
       have e2 : (o + i) % g = i:=by rw [e,Nat.mul_add_mod]; exact Nat.mod_eq_of_lt hi'
       simp only [T.cell,e1,h1',Option.bind_some,e2,hi]
     · exact gatherk_ok hg hw h hr
   · exact gatherk_ok hg hw h hr
theorem cellk_ok {t : T} {g o : Nat} {k : V→Res} {r : Res} (h : cellk t g o k = r) (hr : r ≠ .fail) : ∃ v,t.cell g o = some v∧k v = r:=by
 obtain ⟨ch,h1,h2⟩:=T.getk_ok h hr
 obtain ⟨v,h3,h4⟩:=nthk_ok h2 hr
 have h1' : t.get (o / g) = some ch:=h1
 have h3' : ch[o % g]? = some v:=h3
 exact ⟨v,by simp only [T.cell,h1',Option.bind_some,h3'],h4⟩
theorem ArrR.cell {ρ : Rho} {w : World} {c z S g n : Nat} {t : T} {ro : Bool} {cs : Array Value} (a : ArrR ρ w c z S g n t ro cs) {o : Nat} {v : V} (h : t.cell g o = some v) :
 o < n * g∧∃ x,cs[z + o]? = some x∧VR ρ v x∧x.oneCell' = true:=by
 simp only [T.cell,Option.bind_eq_some_iff] at h
 obtain ⟨ch,h1,h2⟩:=h
 obtain ⟨h3,h4,h5⟩:=a.cells _ _ h1
 obtain ⟨x,h6,h7⟩:=h5 _ _ h2
 have hlt:=(List.getElem?_eq_some_iff.1 h2).1
 have hdm:=Nat.div_add_mod o g
 have hg : 0 < g:=by omega
 have e : z + o / g * g + o % g = z + o:=by rw [Nat.mul_comm (o / g) g]; omega
 rw [e] at h6
 refine ⟨?_,x,h6,h7⟩
 have : (o / g + 1) * g ≤ n * g:=Nat.mul_le_mul_right g h3
 rw [Nat.add_mul,Nat.mul_comm (o / g) g] at this
 omega
theorem ArrR.wf {ρ : Rho} {w : World} {c z S g n : Nat} {t : T} {ro : Bool} {cs : Array Value} (a : ArrR ρ w c z S g n t ro cs) (j : Nat) (ch : List V) (h : t.get j = some ch) : ch.length = g:=
 (a.cells j ch h).2.1
noncomputable def scatk (g : Nat) (f : Nat) : T→Nat→Nat→List V→(T→Res)→Res:=
 Nat.rec (motive:=fun _=>T→Nat→Nat→List V→(T→Res)→Res) (fun _ _ _ _ _=>.fail)
  (fun _ ih t o n vs k=>t.getk (Nat.div o g) fun ch=>takek (Nat.mod o g) ch fun a rest=>
    ifk (Nat.ble n (Nat.sub g (Nat.mod o g)))
     (takek n rest fun _ b=>appk vs b fun c=>appk a c fun ch'=>t.setk (Nat.div o g) ch' k)
     (takek (Nat.sub g (Nat.mod o g)) vs fun p q=>appk a p fun ch'=>t.setk (Nat.div o g) ch' fun t'=>
       ih t' (Nat.add o (Nat.sub g (Nat.mod o g))) (Nat.sub n (Nat.sub g (Nat.mod o g))) q k)) f
noncomputable def putk (t : T) (g m o n : Nat) (vs : List V) (k : T→Res) : Res:=
 zk n (k t) (ifk (Nat.ble (Nat.add o n) (Nat.mul m g)) (ifk (Nat.beq n g) (zk (Nat.mod o g) (t.setk (Nat.div o g) vs k) (scatk g n t o n vs k)) (scatk g n t o n vs k)) .fail)
structure Put (t : T) (g m o : Nat) (vs : List V) (t' : T) : Prop where
 wf : ∀ j ch,t'.get j = some ch→j < m∧ch.length = g
 old : ∀ i v,t'.cell g i = some v→(i < o ∨ o + vs.length ≤ i)→t.cell g i = some v
 new : ∀ i v,t'.cell g i = some v→o ≤ i→i < o + vs.length→vs[i - o]? = some v
theorem cell_set {t t' : T} {j g : Nat} {ch : List V} (h : t.set j ch = some t') (i : Nat) : t'.cell g i = if i / g = j then ch[i % g]? else t.cell g i:=by
 simp only [T.cell,T.get_set h]
 split <;> rfl
theorem scatk_ok {g m : Nat} (hg : 0 < g) {f : Nat} {t : T} (hw : ∀ j ch,t.get j = some ch→j < m∧ch.length = g) {o n : Nat} {vs : List V} (hn : vs.length = n)
 {k : T→Res} {r : Res} (h : scatk g f t o n vs k = r) (hr : r ≠ .fail) : ∃ t',k t' = r∧Put t g m o vs t':=by
 induction f generalizing t o n vs k with
 | zero=>exact absurd h.symm hr
 | succ f ih=>
   change (t.getk (o / g) fun ch=>takek (o % g) ch fun a rest=>ifk (Nat.ble n (g - o % g))
    (takek n rest fun _ b=>appk vs b fun c=>appk a c fun ch'=>t.setk (o / g) ch' k)
    (takek (g - o % g) vs fun p q=>appk a p fun ch'=>t.setk (o / g) ch' fun t'=>scatk g f t' (o + (g - o % g)) (n - (g - o % g)) q k)) = r at h
   obtain ⟨ch,h1,h⟩:=T.getk_ok h hr
   obtain ⟨h2,h⟩:=takek_ok h hr
   obtain ⟨hlt,hlen⟩:=hw _ _ h1
   have hmod:=Nat.mod_lt o hg
   have hdm:=Nat.div_add_mod o g
   have key : ∀ i,i / g = o / g→i = g * (o / g) + i % g:=fun i hi=>by have:=Nat.div_add_mod i g; rw [hi] at this; omega
   have key2 : ∀ i,o ≤ i→i < g * (o / g) + g→i / g = o / g:=fun i h1 h2=>by
    have h3 : i / g < o / g + 1:=by rw [Nat.div_lt_iff_lt_mul hg,Nat.add_mul]; rw [Nat.mul_comm]; omega
    have h4 : o / g ≤ i / g:=Nat.div_le_div_right h1
    omega
   have key3 : ∀ i,i < o→i / g = o / g→i % g < o % g:=fun i h1 h2=>by have:=key i h2; omega
   rcases ifk_ne h with ⟨hb,h⟩ | ⟨hb,h⟩
   · have hb' : n ≤ g - o % g:=Nat.le_of_ble_eq_true hb
     obtain ⟨h3,h⟩:=takek_ok h hr
     rw [appk_eq,appk_eq] at h
     obtain ⟨t',h4,h⟩:=T.setk_ok h hr
     refine ⟨t',h,?_,?_,?_⟩
     · intro j c hj
       rw [T.get_set h4] at hj
       split at hj
       · cases hj; rename_i e; exact ⟨by rw [e]; exact hlt,by simp only [List.length_append,List.length_take,List.length_drop]; omega⟩
       · exact hw j c hj
     · intro i v hi hout
       rw [cell_set h4] at hi
       split at hi
       · rename_i e
         have h1' : t.get (i / g) = some ch:=by rw [e]; exact h1
         simp only [T.cell,h1',Option.bind_some]
         have e':=key i e
         rcases hout with hout | hout
         · have:=key3 i hout e
           rw [List.getElem?_append_left (by simp only [List.length_take]; omega),List.getElem?_take_of_lt this] at hi
           exact hi
         · rw [List.getElem?_append_right (by simp only [List.length_take]; omega),List.getElem?_append_right (by simp only [List.length_take]; omega),List.getElem?_drop,List.getElem?_drop] at hi
           rw [← hi]; congr 1; simp only [List.length_take]; omega
       · exact hi
     · intro i v hi h5 h6
       rw [cell_set h4] at hi
       have e:=key2 i h5 (by omega)
       rw [if_pos e] at hi
       have e':=key i e
       rw [List.getElem?_append_right (by simp only [List.length_take]; omega),List.getElem?_append_left (by simp only [List.length_take]; omega)] at hi
       rw [← hi]; congr 1; simp only [List.length_take]; omega
   · have hb' : ¬ n ≤ g - o % g:=fun hle=>by rw [Nat.ble_eq_true_of_le hle] at hb; cases hb
     obtain ⟨h3,h⟩:=takek_ok h hr
     rw [appk_eq] at h
     obtain ⟨t1,h4,h⟩:=T.setk_ok h hr
     have hw1 : ∀ j c,t1.get j = some c→j < m∧c.length = g:=by
      intro j c hj
      rw [T.get_set h4] at hj
      split at hj
      · cases hj; rename_i e; exact ⟨by rw [e]; exact hlt,by simp only [List.length_append,List.length_take]; omega⟩
      · exact hw j c hj
     obtain ⟨t',h5,h6⟩:=ih hw1 (by simp only [List.length_drop]; omega) h
     refine ⟨t',h5,h6.wf,?_,?_⟩
     · intro i v hi hout
       have hout' : i < o + (g - o % g) ∨ o + (g - o % g) + (vs.drop (g - o % g)).length ≤ i:=by simp only [List.length_drop]; omega
       have:=h6.old i v hi hout'
       rw [cell_set h4] at this
       split at this
       · rename_i e
         have h1' : t.get (i / g) = some ch:=by rw [e]; exact h1
         simp only [T.cell,h1',Option.bind_some]
         have e':=key i e
         have hm:=Nat.mod_lt i hg
         rcases hout with hout | hout
         · have h7:=key3 i hout e
           rw [List.getElem?_append_left (by simp only [List.length_take]; omega),List.getElem?_take_of_lt h7] at this
           exact this
         · omega
       · exact this
     · intro i v hi h7 h8
       by_cases hc : i < o + (g - o % g)
       · have:=h6.old i v hi (.inl hc)
         rw [cell_set h4] at this
         have e:=key2 i h7 (by omega)
         rw [if_pos e] at this
         have e':=key i e
         rw [List.getElem?_append_right (by simp only [List.length_take]; omega),List.getElem?_take_of_lt (by simp only [List.length_take]; omega)] at this
         rw [← this]; congr 1; simp only [List.length_take]; omega
       · have:=h6.new i v hi (by omega) (by simp only [List.length_drop]; omega)
         rw [List.getElem?_drop] at this
         rw [← this]; congr 1; omega
theorem putk_ok {t : T} {g m o n : Nat} (hg : 0 < g) (hw : ∀ j ch,t.get j = some ch→j < m∧ch.length = g) {vs : List V} (hn : vs.length = n) {k : T→Res} {r : Res}
 (h : putk t g m o n vs k = r) (hr : r ≠ .fail) : ∃ t',k t' = r∧Put t g m o vs t'∧(n = 0 ∨ o + n ≤ m * g):=by
 unfold putk at h
 rw [zk_eq] at h
 split at h
 · rename_i h0
   subst h0
   have : vs = []:=List.length_eq_zero_iff.1 hn
   subst this
   exact ⟨t,h,⟨hw,fun i v hi _=>hi,fun i v _ h1 h2=>by simp only [List.length_nil] at h2; omega⟩,.inl rfl⟩
 · obtain ⟨hb0,h⟩:=ifk_fail h hr
   have hle : o + n ≤ m * g:=Nat.le_of_ble_eq_true hb0
   suffices hs : ∃ t',k t' = r∧Put t g m o vs t' from let ⟨t',h1,h2⟩:=hs; ⟨t',h1,h2,.inr hle⟩
   rcases ifk_ne h with ⟨hb,h⟩ | ⟨hb,h⟩
   · rw [zk_eq] at h
     split at h
     · rename_i hm
       have hm : o % g = 0:=hm
       have hng : n = g:=Nat.eq_of_beq_eq_true hb
       obtain ⟨t',h4,h⟩:=T.setk_ok h hr
       have hdm:=Nat.div_add_mod o g
       have h4 : t.set (o / g) vs = some t':=h4
       refine ⟨t',h,?_,?_,?_⟩
       · intro j c hj
         rw [T.get_set h4] at hj
         split at hj
         · cases hj; rename_i e
           refine ⟨?_,by omega⟩
           rw [e,Nat.div_lt_iff_lt_mul hg]; omega
         · exact hw j c hj
       · intro i v hi hout
         rw [cell_set h4] at hi
         split at hi
         · rename_i e
           have:=Nat.div_add_mod i g
           have:=Nat.mod_lt i hg
           rw [e] at *
           omega
         · exact hi
       · intro i v hi h5 h6
         rw [cell_set h4] at hi
         have h3 : i / g < o / g + 1:=by rw [Nat.div_lt_iff_lt_mul hg,Nat.add_mul,Nat.mul_comm]; omega
         have h4 : o / g ≤ i / g:=Nat.div_le_div_right h5
         rw [if_pos (by omega)] at hi
         have:=Nat.div_add_mod i g
         have e : i / g = o / g:=by omega
         rw [e] at this
         rw [← hi]; congr 1; omega
     · exact scatk_ok hg hw hn h hr
   · exact scatk_ok hg hw hn h hr
end Go.Ev

/- EVALUATOR, 4: loads and stores by an abstract address, and the model's own loads and stores. -/
namespace Go.Ev
theorem add_addr (c o i : Nat) : (⟨c,o,none⟩ : Addr).add i = ⟨c,o + i,none⟩:=by unfold Addr.add; split <;> simp_all
noncomputable def topv (a : Nat) (t : HT) : H4:=
 Nat.rec (motive:=fun _=>HT→H4) (fun t=>List.rec (motive:=fun _=>H4) H4.e (fun x _ _=>x) t) (fun _ ih t=>List.rec (motive:=fun _=>H4) (ih []) (fun _ l _=>ih l) t) a t
theorem topv_eq (a : Nat) (t : HT) : topv a t = t.top a:=by
 induction a generalizing t with
 | zero=>cases t <;> rfl
 | succ a ih=>
   cases t with
   | nil=>exact (ih []).trans (by cases a <;> rfl)
   | cons x l=>exact ih l
noncomputable def putv (a : Nat) (t : HT) (y : H4) : HT:=
 Nat.rec (motive:=fun _=>HT→H4→HT) (fun t y=>List.rec (motive:=fun _=>HT) [y] (fun _ l _=>y :: l) t) (fun _ ih t y=>List.rec (motive:=fun _=>HT) (H4.e :: ih [] y) (fun x l _=>x :: ih l y) t) a t y
theorem putv_eq (a : Nat) (t : HT) (y : H4) : putv a t y = t.put a y:=by
 induction a generalizing t with
 | zero=>cases t <;> rfl
 | succ a ih=>
   cases t with
   | nil=>exact congrArg (H4.e :: ·) (ih [])
   | cons x l=>exact congrArg (x :: ·) (ih l)
noncomputable def HT.getk (t : HT) (b : Bid) (k : Blk→Res) : Res:=
 Bid.rec (motive:=fun _=>Res) (fun b1 b2 b3 b4 b5=>k (getB b5 (getB1 b4 (getB2 b3 (getB3 b2 (topv b1 t)))))) b
theorem HT.getk_eq (t : HT) (b : Bid) (k : Blk→Res) : HT.getk t b k = k (t.get b):=by
 cases b; simp only [HT.getk,topv_eq,getB3_eq,getB2_eq,getB1_eq,getB_eq,HT.get,H4.get]
noncomputable def HT.setk (t : HT) (b : Bid) (x : Blk) (k : HT→Res) : Res:=
 Bid.rec (motive:=fun _=>Res) (fun b1 b2 b3 b4 b5=>updB3 b2 (fun t2 k=>updB2 b3 (fun t3 k=>updB1 b4 (fun t4 k=>updB b5 (fun _ k=>k x) t4 k) t3 k) t2 k) (topv b1 t) fun y=>k (putv b1 t y)) b
theorem HT.setk_eq (t : HT) (b : Bid) (x : Blk) (k : HT→Res) : HT.setk t b x k = k (t.set b x):=by
 cases b; simp only [HT.setk,topv_eq,putv_eq,updB3_eq,updB2_eq,updB1_eq,updB_eq,HT.set,H4.set]
noncomputable def Heap.getk (h : Heap) (b : Bid) (k : Blk→Res) : Res:=Heap.rec (motive:=fun _=>Res) (fun t _=>HT.getk t b k) h
theorem Heap.getk_eq (h : Heap) (b : Bid) (k : Blk→Res) : h.getk b k = k (h.t.get b):=by cases h; simp only [Heap.getk,HT.getk_eq]
noncomputable def Heap.turnk (h : Heap) (b : Bid) (x : Blk) (k : Heap→Res) : Res:=Heap.rec (motive:=fun _=>Res) (fun t nx=>HT.setk t b x fun t'=>k ⟨t',nx⟩) h
theorem Heap.turnk_eq (h : Heap) (b : Bid) (x : Blk) (k : Heap→Res) : h.turnk b x k = k (h.turn b x):=by cases h; simp only [Heap.turnk,HT.setk_eq,Heap.turn]
noncomputable def arrk (x : Blk) (k : Nat→Nat→T→Bool→Res) : Res:=Blk.rec (motive:=fun _=>Res) .fail (fun g n t ro=>k g n t ro) (fun _=>.fail) x
theorem arrk_ok {x : Blk} {k : Nat→Nat→T→Bool→Res} {r : Res} (h : arrk x k = r) (hr : r ≠ .fail) : ∃ g n t ro,x = .arr g n t ro∧k g n t ro = r:=by
 cases x with
 | none=>exact absurd h.symm hr
 | arr g n t ro=>exact ⟨g,n,t,ro,rfl,h⟩
 | ob x=>exact absurd h.symm hr
noncomputable def D.nextk (d : D) (k : D→Res) (z : Res) : Res:=
 D.rec (motive:=fun _=>Res) (k .d1) (k .d2) (k .d3) (k .d4) (k .d5) (k .d6) (k .d7) (k .d8) (k .d9) (k .da) (k .db) (k .dc) (k .dd) (k .de) (k .df) z d
theorem D.nextk_eq (d : D) (k : D→Res) (z : Res) : d.nextk k z = match d.next with | some e=>k e | none=>z:=by cases d <;> rfl
noncomputable def Bid.nextk (x : Bid) (k : Bid→Res) : Res:=
 Bid.rec (motive:=fun _=>Res) (fun a b c d e=>e.nextk (fun e=>k ⟨a,b,c,d,e⟩) (d.nextk (fun d=>k ⟨a,b,c,d,.d0⟩) (c.nextk (fun c=>k ⟨a,b,c,.d0,.d0⟩)
  (b.nextk (fun b=>k ⟨a,b,.d0,.d0,.d0⟩) (k ⟨Nat.succ a,.d0,.d0,.d0,.d0⟩))))) x
def Bid.nxt (x : Bid) : Bid:=x.next.getD x
theorem Bid.next_some (x : Bid) : x.next = some x.nxt:=by
 unfold Bid.nxt Bid.next
 split <;> first | rfl | (split <;> first | rfl | (split <;> first | rfl | (split <;> rfl)))
theorem Bid.nxt_val (x : Bid) : x.nxt.val = x.val + 1:=Bid.next_val x.next_some
theorem Bid.nextk_eq (x : Bid) (k : Bid→Res) : x.nextk k = k x.nxt:=by
 obtain ⟨a,b,c,d,e⟩:=x
 simp only [Bid.nextk,D.nextk_eq]
 unfold Bid.nxt Bid.next
 simp only
 split
 · rename_i e' he; rw [he]; rfl
 · rename_i he; rw [he]
   split
   · rename_i d' hd; simp only [hd]; rfl
   · rename_i hd; simp only [hd]
     split
     · rename_i c' hc; simp only [hc]; rfl
     · rename_i hc; simp only [hc]
       split
       · rename_i b' hb; simp only [hb]; rfl
       · rename_i hb; simp only [hb]; rfl
noncomputable def Heap.newk (h : Heap) (x : Blk) (k : Bid→Heap→Res) : Res:=
 Heap.rec (motive:=fun _=>Res) (fun t nx=>nx.nextk fun nx'=>HT.setk t nx x fun t'=>k nx ⟨t',nx'⟩) h
theorem Heap.newk_eq (h : Heap) (x : Blk) (k : Bid→Heap→Res) : h.newk x k = k h.nx (h.new x h.nx.nxt):=by
 obtain ⟨t,nx⟩:=h
 show (nx.nextk fun nx'=>HT.setk t nx x fun t'=>k nx ⟨t',nx'⟩) = _
 rw [Bid.nextk_eq,HT.setk_eq]; rfl
theorem Heap.newk_ok {h : Heap} {x : Blk} {k : Bid→Heap→Res} {r : Res} (hh : h.newk x k = r) (_ : r ≠ .fail) : ∃ nx',h.nx.next = some nx'∧k h.nx (h.new x nx') = r:=
 ⟨_,h.nx.next_some,(Heap.newk_eq h x k).symm.trans hh⟩
noncomputable def arlk (x : Blk) (k : Nat→Nat→T→Bool→Res) : Res:=
 Blk.rec (motive:=fun _=>Res) .fail (fun g n t ro=>k g n t ro) (fun y=>Oth.rec (motive:=fun _=>Res) (fun _ _=>.fail) (fun _ _ _=>.fail) (fun _ _ _ _ _=>.fail) (fun _ _ _ _=>.fail) (fun _ g t=>k g 1 t false) (fun _ _ _=>.fail) (fun _=>.fail) y) x
theorem arlk_ok {x : Blk} {k : Nat→Nat→T→Bool→Res} {r : Res} (h : arlk x k = r) (hr : r ≠ .fail) : ∃ g n t ro,(x = .arr g n t ro ∨ ∃ el,x = .ob (.st el g t))∧k g n t ro = r:=by
 cases x with
 | none=>exact absurd h.symm hr
 | arr g n t ro=>exact ⟨g,n,t,ro,.inl rfl,h⟩
 | ob x=>
   cases x
   case st el g t=>exact ⟨g,1,t,false,.inr ⟨el,rfl⟩,h⟩
   all_goals exact absurd h.symm hr
noncomputable def loadk (h : Heap) (b : Bid) (o n : Nat) (k : List V→Res) : Res:=h.getk b fun x=>arlk x fun g _ t _=>cellsk t g o n k
noncomputable def load1k (h : Heap) (b : Bid) (o : Nat) (k : V→Res) : Res:=h.getk b fun x=>arlk x fun g _ t _=>cellk t g o k
variable {P : Program}
theorem st_arr {ρ : Rho} {w : World} {c el g : Nat} {t : T} {o : Obj} (h : w.heap[c]? = some o) (ho : OthR P ρ (.st el g t) o) : ∃ cs,ArrR ρ w c 0 g g 1 t false cs:=by
 cases o with
 | cells cs el' fz=>
   obtain ⟨rfl,h1,h2,h3,_,h4⟩:=ho
   exact ⟨cs,h2,⟨_,fz,h,fun _=>.inl h1⟩,h3,by omega,h4⟩
 | _=>exact ho.elim
theorem RH.cells {ρ : Rho} {h : Heap} {w : World} (rh : RH P ρ h w) {b : Bid} {c z S g n : Nat} {t : T} {ro : Bool} (hb : ρ b = some (c,z,S)) (hx : h.t.get b = .arr g n t ro ∨ ∃ el,h.t.get b = .ob (.st el g t)) :
 ∃ m cs,ArrR ρ w c z S g m t ro cs ∨ ArrR ρ w c z S g m t false cs:=by
 rcases hx with hx | ⟨el,hx⟩
 · obtain ⟨cs,ha⟩:=rh.arr b c z S g n t ro hb hx
   exact ⟨n,cs,.inl ha⟩
 · obtain ⟨o,h1,h2,rfl,h3⟩:=rh.ob b c z S _ hb hx
   obtain ⟨cs,ha⟩:=st_arr h1 h2
   obtain ⟨cs',e,fz,rfl,h4⟩:=h3 rfl
   obtain ⟨el,fz',h5,_⟩:=ha.at_
   rw [h1] at h5
   cases h5
   have:=ha.size
   obtain rfl : g = S:=by omega
   exact ⟨_,cs,.inr ha⟩
theorem RH.cells' {ρ : Rho} {h : Heap} {w : World} (rh : RH P ρ h w) {b : Bid} {c z S g n : Nat} {t : T} {ro : Bool} (hb : ρ b = some (c,z,S)) (hx : h.t.get b = .arr g n t ro ∨ ∃ el,h.t.get b = .ob (.st el g t)) :
 ∃ m ro cs,ArrR ρ w c z S g m t ro cs:=by
 obtain ⟨m,cs,h1 | h1⟩:=rh.cells hb hx
 · exact ⟨m,_,cs,h1⟩
 · exact ⟨m,_,cs,h1⟩
theorem load1k_ok {h : Heap} {b : Bid} {o : Nat} {k : V→Res} {r : Res} (hh : load1k h b o k = r) (hr : r ≠ .fail) {ρ : Rho} {w : World} (rh : RH P ρ h w) {c z S : Nat}
 (hb : ρ b = some (c,z,S)) : ∃ v x,k v = r∧w.cell? ⟨c,z + o,none⟩ = some x∧VR ρ v x∧x.oneCell' = true:=by
 unfold load1k at hh
 rw [Heap.getk_eq] at hh
 obtain ⟨g,n,t,ro,h1,hh⟩:=arlk_ok hh hr
 obtain ⟨v,h2,hh⟩:=cellk_ok hh hr
 obtain ⟨n,ro,cs,ha⟩:=rh.cells' hb h1
 obtain ⟨_,x,h3,h4,h5⟩:=ha.cell h2
 obtain ⟨el,fz,h6,_⟩:=ha.at_
 exact ⟨v,x,hh,by simp [World.cell?,h6,h3],h4,h5⟩
theorem loadk_ok {h : Heap} {b : Bid} {o n : Nat} {k : List V→Res} {r : Res} (hh : loadk h b o n k = r) (hr : r ≠ .fail) {ρ : Rho} {w : World} (rh : RH P ρ h w) {c z S : Nat}
 (hb : ρ b = some (c,z,S)) : ∃ l xs,k l = r∧(∀ d,(loadCells ⟨c,z + o,none⟩ n).run P { w with drawn:=d } = .ok xs.toArray { w with drawn:=d })∧VRs ρ l xs∧xs.length = n∧∀ x ∈ xs,x.oneCell' = true:=by
 unfold loadk at hh
 rw [Heap.getk_eq] at hh
 obtain ⟨g,m,t,ro,h1,hh⟩:=arlk_ok hh hr
 obtain ⟨m,ro,cs,ha⟩:=rh.cells' hb h1
 obtain ⟨l,hk,hl,hc⟩:=cellsk_ok ha.pos ha.wf hh hr
 obtain ⟨el,fz,h6,_⟩:=ha.at_
 have hx : ∀ i,i < n→∃ x,cs[z + o + i]? = some x∧VR ρ (l.getD i .und) x∧x.oneCell' = true:=by
  intro i hi
  have hi' : i < l.length:=by omega
  obtain ⟨_,x,h3,h4,h5⟩:=ha.cell (hc i _ (List.getElem?_eq_getElem hi'))
  refine ⟨x,by rw [← h3]; congr 1; omega,?_,h5⟩
  rw [List.getD_eq_getElem?_getD,List.getElem?_eq_getElem hi']; exact h4
 have hlen : ∀ i,i < n→z + o + i < cs.size:=by
  intro i hi; obtain ⟨x,h3,_⟩:=hx i hi; exact (Array.getElem?_eq_some_iff.1 h3).1
 let xs : List Value:=(List.range n).map fun i=>cs[z + o + i]?.getD Go.undef
 have hxs : ∀ i,i < n→xs[i]? = cs[z + o + i]?:=by
  intro i hi
  obtain ⟨x,h3,_⟩:=hx i hi
  simp only [xs,List.getElem?_map,List.getElem?_range hi,Option.map_some,h3,Option.getD_some]
 have hxl : xs.length = n:=by simp [xs]
 have hrun : ∀ d,(loadCells ⟨c,z + o,none⟩ xs.length).run P { w with drawn:=d } = .ok xs.toArray { w with drawn:=d }:=fun d=>run_loadCells_list (P:=P) { w with drawn:=d } ⟨c,z + o,none⟩ xs (fun j v hj=>by
  have hj' : j < n:=by have:=(List.getElem?_eq_some_iff.1 hj).1; omega
  rw [add_addr]
  simp only [World.cell?,h6]
  rw [hxs j hj'] at hj
  simpa using hj)
 rw [hxl] at hrun
 refine ⟨l,xs,hk,hrun,?_,hxl,?_⟩
 · refine VRs.of_get (by omega) fun i v hi=>?_
   have hi' : i < n:=by have:=(List.getElem?_eq_some_iff.1 hi).1; omega
   obtain ⟨x,h3,h4,_⟩:=hx i hi'
   rw [List.getD_eq_getElem?_getD,hi] at h4
   exact ⟨x,by rw [hxs i hi',h3],h4⟩
 · intro x hxm
   obtain ⟨i,hi⟩:=List.getElem?_of_mem hxm
   have hi' : i < n:=by have:=(List.getElem?_eq_some_iff.1 hi).1; omega
   obtain ⟨y,h3,_,h5⟩:=hx i hi'
   rw [hxs i hi',h3] at hi
   cases hi; exact h5
theorem run_storeCells_any {c o : Nat} {el : TypeId} {fz : Nat × Nat} : ∀ (vs : List Value) (i : Nat) (cs : Array Value) (w : World),w.heap[c]? = some (.cells cs el fz)→o + i + vs.length ≤ cs.size →
 (∀ k,o + i ≤ k→k < o + i + vs.length→¬ (fz.1 ≤ k∧k < fz.2))→(∀ v ∈ vs,v.oneCell' = true) →
 ∃ w' cs',(storeCells ⟨c,o,none⟩ vs i).run P w = .ok () w'∧w'.os = w.os∧w'.tape = w.tape∧w'.output = w.output∧w'.heap.size = w.heap.size ∧
  w'.heap[c]? = some (.cells cs' el fz)∧(∀ k,k ≠ c→w'.heap[k]? = w.heap[k]?)∧cs'.size = cs.size ∧
  ∀ k,cs'[k]? = if o + i ≤ k∧k < o + i + vs.length then vs[k - (o + i)]? else cs[k]?
 | [],i,cs,w,hg,_,_,_=>⟨w,cs,rfl,rfl,rfl,rfl,rfl,hg,fun _ _=>rfl,rfl,fun k=>by rw [if_neg (by simp only [List.length_nil]; omega)]⟩
 | v :: vs,i,cs,w,hg,hl,hf,h1=>by
   have hi : o + i < cs.size:=by simp only [List.length_cons] at hl; omega
   have hcell : w.cell? ⟨c,o + i,none⟩ = some cs[o + i]:=by simp [World.cell?,hg,hi]
   have hfro : w.frozen? ⟨c,o + i,none⟩ = false:=by
    have:=hf (o + i) (Nat.le_refl _) (by simp only [List.length_cons]; omega)
    obtain ⟨lo,hi'⟩:=fz
    simp only [World.frozen?,hg]
    simp only at this
    rw [Bool.and_eq_false_iff]
    by_cases hlo : lo ≤ o + i
    · exact .inr (by simp; omega)
    · exact .inl (by simpa using hlo)
   have hst : (store ((⟨c,o,none⟩ : Addr).add i) v).run P w = .ok () (w.setCell ⟨c,o + i,none⟩ v):=by
    rw [add_addr,run_store P w _ v _ (h1 v (by simp)),hcell]
    simp [hfro]
   have hlt : c < w.heap.size:=(Array.getElem?_eq_some_iff.1 hg).1
   have hnew : (w.setCell ⟨c,o + i,none⟩ v).heap[c]? = some (.cells (cs.setIfInBounds (o + i) v) el fz):=by
    simp [World.setCell,Array.getElem?_modify,hg]
   have hold : ∀ k,k ≠ c→(w.setCell ⟨c,o + i,none⟩ v).heap[k]? = w.heap[k]?:=by
    intro k hk
    simp only [World.setCell,Array.getElem?_modify]
    rw [if_neg (fun e=>hk e.symm)]
   obtain ⟨w',cs',r1,r2,r3,r4,r5,r6,r7,r8,r9⟩:=run_storeCells_any (o:=o) vs (i + 1) (cs.setIfInBounds (o + i) v) (w.setCell ⟨c,o + i,none⟩ v) hnew
    (by simp only [List.length_cons,Array.size_setIfInBounds] at hl ⊢; omega) (fun k a b=>hf k (by omega) (by simp only [List.length_cons]; omega)) (fun x hx=>h1 x (by simp [hx]))
   refine ⟨w',cs',?_,r2,r3,r4,?_,r6,fun k hk=>(r7 k hk).trans (hold k hk),by rw [r8]; simp,fun k=>?_⟩
   · simp only [storeCells,Sem.run_bind,hst,Result.andThen_ok,r1]
   · rw [r5]; simp [World.setCell]
   · rw [r9 k]
     by_cases h : o + i ≤ k∧k < o + i + (v :: vs).length
     · rw [if_pos h]
       by_cases e : k = o + i
       · subst e
         rw [if_neg (by omega)]
         simp [hi]
       · rw [if_pos (by simp only [List.length_cons] at h; omega)]
         have : k - (o + i) = (k - (o + (i + 1))) + 1:=by omega
         rw [this,List.getElem?_cons_succ]
     · rw [if_neg h,if_neg (by simp only [List.length_cons] at h; omega)]
       rw [Array.getElem?_setIfInBounds_ne]
       simp only [List.length_cons] at h; omega
noncomputable def arsk (x : Blk) (k : Nat→Nat→T→Bool→(T→Blk)→Res) : Res:=
 Blk.rec (motive:=fun _=>Res) .fail (fun g n t ro=>k g n t ro fun t'=>.arr g n t' ro)
  (fun y=>Oth.rec (motive:=fun _=>Res) (fun _ _=>.fail) (fun _ _ _=>.fail) (fun _ _ _ _ _=>.fail) (fun _ _ _ _=>.fail) (fun el g t=>k g 1 t false fun t'=>.ob (.st el g t')) (fun _ _ _=>.fail) (fun _=>.fail) y) x
theorem arsk_ok {x : Blk} {k : Nat→Nat→T→Bool→(T→Blk)→Res} {r : Res} (h : arsk x k = r) (hr : r ≠ .fail) :
 ∃ g n t ro mk,((x = .arr g n t ro∧mk = fun t'=>.arr g n t' ro) ∨ ∃ el,x = .ob (.st el g t)∧n = 1∧ro = false∧mk = fun t'=>.ob (.st el g t'))∧k g n t ro mk = r:=by
 cases x with
 | none=>exact absurd h.symm hr
 | arr g n t ro=>exact ⟨g,n,t,ro,_,.inl ⟨rfl,rfl⟩,h⟩
 | ob x=>
   cases x
   case st el g t=>exact ⟨g,1,t,false,_,.inr ⟨el,rfl,rfl,rfl,rfl⟩,h⟩
   all_goals exact absurd h.symm hr
noncomputable def storek (h : Heap) (b : Bid) (o n : Nat) (vs : List V) (k : Heap→Res) : Res:=
 h.getk b fun x=>arsk x fun g m t ro mk=>ifk ro .fail (putk t g m o n vs fun t'=>h.turnk b (mk t') k)
theorem store_arr {ρ : Rho} {w : World} {c z S g m o : Nat} {t t' : T} {cs : Array Value} (ha : ArrR ρ w c z S g m t false cs) {vs : List V} (hp : Put t g m o vs t') (hfit : vs.length = 0 ∨ o + vs.length ≤ m * g) {xs : List Value}
 (hxs : VRs ρ vs xs) (h1c : ∀ x ∈ xs,x.oneCell' = true) :
 ∃ w' cs' el fz,w.heap[c]? = some (.cells cs el fz)∧Thaw fz S g∧(storeCells ⟨c,z + o,none⟩ xs).run P w = .ok () w'∧w'.os = w.os∧w'.tape = w.tape∧w'.output = w.output∧w'.heap.size = w.heap.size ∧
  w'.heap[c]? = some (.cells cs' el fz)∧(∀ k,k ≠ c→w'.heap[k]? = w.heap[k]?)∧ArrR ρ w' c z S g m t' false cs':=by
 obtain ⟨el,fz,h6,h7⟩:=ha.at_
 have h7:=h7 rfl
 have hxl:=hxs.length
 have hS:=ha.fits
 have hsz:=ha.size
 have hfit' : z + o + xs.length ≤ S ∨ xs.length = 0:=by
  rcases hfit with h0 | h0
  · right; omega
  · left; omega
 rcases Nat.eq_zero_or_pos xs.length with h0 | h0
 ·
  have e1 : xs = []:=List.length_eq_zero_iff.1 h0
  have e2 : vs = []:=List.length_eq_zero_iff.1 (by omega)
  subst e1; subst e2
  refine ⟨w,cs,el,fz,h6,h7,rfl,rfl,rfl,rfl,rfl,h6,fun _ _=>rfl,ha.pos,⟨el,fz,h6,fun _=>h7⟩,hsz,hS,fun j ch hj=>?_⟩
  obtain ⟨h8,h9⟩:=hp.wf j ch hj
  refine ⟨h8,h9,fun i v hi=>?_⟩
  have hi' : i < g:=by have:=(List.getElem?_eq_some_iff.1 hi).1; omega
  have hcell : t'.cell g (j * g + i) = some v:=by
   have e1 : (j * g + i) / g = j:=by rw [Nat.mul_comm,Nat.mul_add_div ha.pos,Nat.div_eq_of_lt hi']; omega
   have e2 : (j * g + i) % g = i:=by rw [Nat.mul_comm,Nat.mul_add_mod]; exact Nat.mod_eq_of_lt hi'
   simp only [T.cell,e1,hj,Option.bind_some,e2,hi]
  have:=hp.old _ _ hcell (by simp only [List.length_nil]; omega)
  obtain ⟨_,x,h10,h11⟩:=ha.cell this
  exact ⟨x,by rw [← h10]; congr 1; omega,h11⟩
 · have hle : z + o + xs.length ≤ S:=by omega
   obtain ⟨w',cs',r1,r2,r3,r4,r5,r6,r7,r8,r9⟩:=run_storeCells_any (P:=P) (o:=z + o) xs 0 cs w h6 (by omega) (fun k a b=>h7.not k (by omega)) h1c
   refine ⟨w',cs',el,fz,h6,h7,r1,r2,r3,r4,r5,r6,r7,ha.pos,⟨el,fz,r6,fun _=>h7⟩,by omega,hS,fun j ch hj=>?_⟩
   obtain ⟨h8,h9⟩:=hp.wf j ch hj
   refine ⟨h8,h9,fun i v hi=>?_⟩
   have hi' : i < g:=by have:=(List.getElem?_eq_some_iff.1 hi).1; omega
   have hcell : t'.cell g (j * g + i) = some v:=by
    have e1 : (j * g + i) / g = j:=by rw [Nat.mul_comm,Nat.mul_add_div ha.pos,Nat.div_eq_of_lt hi']; omega
    have e2 : (j * g + i) % g = i:=by rw [Nat.mul_comm,Nat.mul_add_mod]; exact Nat.mod_eq_of_lt hi'
    simp only [T.cell,e1,hj,Option.bind_some,e2,hi]
   rw [r9]
   by_cases hin : o ≤ j * g + i∧j * g + i < o + vs.length
   · have h10:=hp.new _ _ hcell hin.1 hin.2
     rw [if_pos (by omega)]
     obtain ⟨x,h11,h12⟩:=hxs.get h10
     refine ⟨x,by rw [← h11]; congr 1; omega,h12,h1c x (List.mem_of_getElem? h11)⟩
   · have h10:=hp.old _ _ hcell (by omega)
     rw [if_neg (by omega)]
     obtain ⟨_,x,h11,h12⟩:=ha.cell h10
     exact ⟨x,by rw [← h11]; congr 1; omega,h12⟩
theorem storek_ok {h : Heap} {b : Bid} {o n : Nat} {vs : List V} (hn : vs.length = n) {k : Heap→Res} {r : Res} (hh : storek h b o n vs k = r) (hr : r ≠ .fail) {ρ : Rho} {w : World}
 (rh : RH P ρ h w) {c z S : Nat} (hb : ρ b = some (c,z,S)) : ∃ h',k h' = r∧∀ xs,VRs ρ vs xs→(∀ x ∈ xs,x.oneCell' = true) →
   ∃ w',(storeCells ⟨c,z + o,none⟩ xs).run P w = .ok () w'∧RH P ρ h' w'∧Ext ρ h w ρ h' w':=by
 unfold storek at hh
 rw [Heap.getk_eq] at hh
 obtain ⟨g,m,t,ro,mk,h1,hi⟩:=arsk_ok hh hr
 clear hh
 obtain ⟨hro,hh⟩ : ro = false∧_ = r:=by
  rcases ifk_ne hi with ⟨_,h2⟩ | ⟨h2,h3⟩
  · exact absurd h2.symm hr
  · exact ⟨h2,h3⟩
 clear hi
 subst hro
 rcases h1 with ⟨h1,rfl⟩ | ⟨el,h1,rfl,_,rfl⟩
 · obtain ⟨cs,ha⟩:=rh.arr b c z S g m t false hb h1
   obtain ⟨t',hh,hp,hfit⟩:=putk_ok ha.pos (fun j ch hj=>⟨(ha.cells j ch hj).1,(ha.cells j ch hj).2.1⟩) hn hh hr
   rw [Heap.turnk_eq] at hh
   refine ⟨_,hh,fun xs hxs h1c=>?_⟩
   obtain ⟨w',cs',el,fz,h6,_,r1,r2,r3,r4,r5,r6,r7,ha'⟩:=store_arr (P:=P) ha hp (by omega) hxs h1c
   refine ⟨w',r1,?_⟩
   refine turn rh hb (by rw [h1]; rfl) r2 r3 r4 r5 r6 r7 (fun g' n' t'' ro' e=>?_) (fun es e=>by cases e) (fun _ _ _ e=>by rw [h1] at e; cases e)
   cases e
   exact ⟨cs',ha'⟩
 · obtain ⟨o0,h2,h3,rfl,hbig⟩:=rh.ob b c z S _ hb h1
   cases o0 with
   | cells cs el' fz=>
     obtain ⟨rfl,f1,f2,f3,f4,f5⟩:=h3
     have ha : ArrR ρ w c 0 g g 1 t false cs:=⟨f2,⟨_,fz,h2,fun _=>.inl f1⟩,f3,by omega,f5⟩
     obtain ⟨t',hh,hp,hfit⟩:=putk_ok ha.pos (fun j ch hj=>⟨(ha.cells j ch hj).1,(ha.cells j ch hj).2.1⟩) hn hh hr
     rw [Heap.turnk_eq] at hh
     refine ⟨_,hh,fun xs hxs h1c=>?_⟩
     obtain ⟨w',cs',el,fz',h6,_,r1,r2,r3,r4,r5,r6,r7,ha'⟩:=store_arr (P:=P) ha hp (by omega) hxs h1c
     rw [h2] at h6
     cases h6
     refine ⟨w',r1,?_⟩
     refine turn rh hb (by rw [h1]; rfl) r2 r3 r4 r5 r6 r7 (fun g' n' t'' ro' e=>by cases e) (fun es e=>by cases e; exact ⟨⟨rfl,f1,f2,ha'.size,f4,ha'.cells⟩,rfl⟩) (fun _ _ _ e=>by rw [h1] at e; cases e) (fun es e=>by
      cases e
      intro _
      obtain ⟨cs0,e0,fz0,e1,e2⟩:=hbig rfl
      cases e1
      exact ⟨cs',_,_,rfl,by rw [ha'.size]; omega⟩)
   | _=>exact h3.elim
end Go.Ev

/- EVALUATOR: what a value is, by continuation. -/
namespace Go.Ev
noncomputable def intk (x : V) (k : IntKind→Int→Res) : Res:=
 V.rec (motive_1:=fun _=>(IntKind→Int→Res)→Res) (motive_2:=fun _=>PUnit) (fun _=>.fail) (fun _=>.fail) (fun _ _=>.fail) (fun k0 n0 k=>k k0 n0) (fun _ _ _=>.fail) (fun _=>.fail) (fun _ _ _=>.fail) (fun _=>.fail) (fun _ _ _ _ _ _=>.fail) (fun _=>.fail) (fun _=>.fail) (fun _ _=>.fail) (fun _=>.fail) (fun _ _ _ _=>.fail) (fun _=>.fail) (fun _ _ _ _=>.fail) (fun _ _ _ _=>.fail) (fun _ _ _=>.fail) PUnit.unit (fun _ _ _ _=>PUnit.unit) x k
theorem intk_ok {x : V} {k : IntKind→Int→Res} {r : Res} (h : intk x k = r) (hr : r ≠ .fail) : (∃ k0 n0,x = V.int k0 n0∧k k0 n0 = r):=by
 cases x
 case int k0 n0=>exact ⟨k0,n0,rfl,h⟩
 all_goals exact absurd h.symm hr
noncomputable def boolk (x : V) (k : Bool→Res) : Res:=
 V.rec (motive_1:=fun _=>(Bool→Res)→Res) (motive_2:=fun _=>PUnit) (fun _=>.fail) (fun _=>.fail) (fun b0 k=>k b0) (fun _ _ _=>.fail) (fun _ _ _=>.fail) (fun _=>.fail) (fun _ _ _=>.fail) (fun _=>.fail) (fun _ _ _ _ _ _=>.fail) (fun _=>.fail) (fun _=>.fail) (fun _ _=>.fail) (fun _=>.fail) (fun _ _ _ _=>.fail) (fun _=>.fail) (fun _ _ _ _=>.fail) (fun _ _ _ _=>.fail) (fun _ _ _=>.fail) PUnit.unit (fun _ _ _ _=>PUnit.unit) x k
theorem boolk_ok {x : V} {k : Bool→Res} {r : Res} (h : boolk x k = r) (hr : r ≠ .fail) : (∃ b0,x = V.bool b0∧k b0 = r):=by
 cases x
 case bool b0=>exact ⟨b0,rfl,h⟩
 all_goals exact absurd h.symm hr
noncomputable def strk (x : V) (k : Nat→Nat→Res) : Res:=
 V.rec (motive_1:=fun _=>(Nat→Nat→Res)→Res) (motive_2:=fun _=>PUnit) (fun _=>.fail) (fun _=>.fail) (fun _ _=>.fail) (fun _ _ _=>.fail) (fun l0 n0 k=>k l0 n0) (fun _=>.fail) (fun _ _ _=>.fail) (fun _=>.fail) (fun _ _ _ _ _ _=>.fail) (fun _=>.fail) (fun _=>.fail) (fun _ _=>.fail) (fun _=>.fail) (fun _ _ _ _=>.fail) (fun _=>.fail) (fun _ _ _ _=>.fail) (fun _ _ _ _=>.fail) (fun _ _ _=>.fail) PUnit.unit (fun _ _ _ _=>PUnit.unit) x k
theorem strk_ok {x : V} {k : Nat→Nat→Res} {r : Res} (h : strk x k = r) (hr : r ≠ .fail) : (∃ l0 n0,x = V.str l0 n0∧k l0 n0 = r):=by
 cases x
 case str l0 n0=>exact ⟨l0,n0,rfl,h⟩
 all_goals exact absurd h.symm hr
noncomputable def ptrk (x : V) (k : Bid→Nat→Res) : Res:=
 V.rec (motive_1:=fun _=>(Bid→Nat→Res)→Res) (motive_2:=fun _=>PUnit) (fun _=>.fail) (fun _=>.fail) (fun _ _=>.fail) (fun _ _ _=>.fail) (fun _ _ _=>.fail) (fun _=>.fail) (fun b0 o0 k=>k b0 o0) (fun _=>.fail) (fun _ _ _ _ _ _=>.fail) (fun _=>.fail) (fun _=>.fail) (fun _ _=>.fail) (fun _=>.fail) (fun _ _ _ _=>.fail) (fun _=>.fail) (fun _ _ _ _=>.fail) (fun _ _ _ _=>.fail) (fun _ _ _=>.fail) PUnit.unit (fun _ _ _ _=>PUnit.unit) x k
theorem ptrk_ok {x : V} {k : Bid→Nat→Res} {r : Res} (h : ptrk x k = r) (hr : r ≠ .fail) : (∃ b0 o0,x = V.ptr b0 o0∧k b0 o0 = r):=by
 cases x
 case ptr b0 o0=>exact ⟨b0,o0,rfl,h⟩
 all_goals exact absurd h.symm hr
noncomputable def slk (x : V) (k : Bid→Nat→Nat→(Option Nat)→Nat→Res) (z : Res) (m : Res) : Res:=
 V.rec (motive_1:=fun _=>(Bid→Nat→Nat→(Option Nat)→Nat→Res)→(Res)→(Res)→Res) (motive_2:=fun _=>PUnit) (fun _ _ _=>.fail) (fun _ _ _=>.fail) (fun _ _ _ _=>.fail) (fun _ _ _ _ _=>.fail) (fun _ _ _ _ _=>.fail) (fun _ _ _=>.fail) (fun _ _ _ _ _=>.fail) (fun _ z _=>z) (fun b0 o0 l0 c0 s0 k _ _=>k b0 o0 l0 c0 s0) (fun _ _ m=>m) (fun _ _ _=>.fail) (fun _ _ _ _=>.fail) (fun _ _ _=>.fail) (fun _ _ _ _ _ _=>.fail) (fun _ _ _=>.fail) (fun _ _ _ _ _ _=>.fail) (fun _ _ _ _ _ _=>.fail) (fun _ _ _ _ _=>.fail) PUnit.unit (fun _ _ _ _=>PUnit.unit) x k z m
theorem slk_ok {x : V} {k : Bid→Nat→Nat→(Option Nat)→Nat→Res} {z : Res} {m : Res} {r : Res} (h : slk x k z m = r) (hr : r ≠ .fail) : (∃ b0 o0 l0 c0 s0,x = V.slice b0 o0 l0 c0 s0∧k b0 o0 l0 c0 s0 = r) ∨ (x = V.nils∧z = r) ∨ (x = V.emp∧m = r):=by
 cases x
 case nils=>exact (.inr (.inl ⟨rfl,h⟩))
 case slice b0 o0 l0 c0 s0=>exact (.inl ⟨b0,o0,l0,c0,s0,rfl,h⟩)
 case emp=>exact (.inr (.inr ⟨rfl,h⟩))
 all_goals exact absurd h.symm hr
noncomputable def aggk (x : V) (k : Nat→(List V)→Res) : Res:=
 V.rec (motive_1:=fun _=>(Nat→(List V)→Res)→Res) (motive_2:=fun _=>PUnit) (fun _=>.fail) (fun _=>.fail) (fun _ _=>.fail) (fun _ _ _=>.fail) (fun _ _ _=>.fail) (fun _=>.fail) (fun _ _ _=>.fail) (fun _=>.fail) (fun _ _ _ _ _ _=>.fail) (fun _=>.fail) (fun _=>.fail) (fun _ _=>.fail) (fun _=>.fail) (fun _ _ _ _=>.fail) (fun _=>.fail) (fun _ _ _ _=>.fail) (fun n0 l0 _ k=>k n0 l0) (fun _ _ _=>.fail) PUnit.unit (fun _ _ _ _=>PUnit.unit) x k
theorem aggk_ok {x : V} {k : Nat→(List V)→Res} {r : Res} (h : aggk x k = r) (hr : r ≠ .fail) : (∃ n0 l0,x = V.agg n0 l0∧k n0 l0 = r):=by
 cases x
 case agg n0 l0=>exact ⟨n0,l0,rfl,h⟩
 all_goals exact absurd h.symm hr
noncomputable def tupk (x : V) (k : (List V)→Res) : Res:=
 V.rec (motive_1:=fun _=>((List V)→Res)→Res) (motive_2:=fun _=>PUnit) (fun _=>.fail) (fun _=>.fail) (fun _ _=>.fail) (fun _ _ _=>.fail) (fun _ _ _=>.fail) (fun _=>.fail) (fun _ _ _=>.fail) (fun _=>.fail) (fun _ _ _ _ _ _=>.fail) (fun _=>.fail) (fun _=>.fail) (fun _ _=>.fail) (fun _=>.fail) (fun _ _ _ _=>.fail) (fun _=>.fail) (fun _ _ _ _=>.fail) (fun _ _ _ _=>.fail) (fun l0 _ k=>k l0) PUnit.unit (fun _ _ _ _=>PUnit.unit) x k
theorem tupk_ok {x : V} {k : (List V)→Res} {r : Res} (h : tupk x k = r) (hr : r ≠ .fail) : (∃ l0,x = V.tup l0∧k l0 = r):=by
 cases x
 case tup l0=>exact ⟨l0,rfl,h⟩
 all_goals exact absurd h.symm hr
noncomputable def fnk (x : V) (k : Nat→(List V)→Res) : Res:=
 V.rec (motive_1:=fun _=>(Nat→(List V)→Res)→Res) (motive_2:=fun _=>PUnit) (fun _=>.fail) (fun _=>.fail) (fun _ _=>.fail) (fun _ _ _=>.fail) (fun _ _ _=>.fail) (fun _=>.fail) (fun _ _ _=>.fail) (fun _=>.fail) (fun _ _ _ _ _ _=>.fail) (fun _=>.fail) (fun _=>.fail) (fun _ _=>.fail) (fun _=>.fail) (fun f0 cap0 _ k=>k f0 cap0) (fun _=>.fail) (fun _ _ _ _=>.fail) (fun _ _ _ _=>.fail) (fun _ _ _=>.fail) PUnit.unit (fun _ _ _ _=>PUnit.unit) x k
theorem fnk_ok {x : V} {k : Nat→(List V)→Res} {r : Res} (h : fnk x k = r) (hr : r ≠ .fail) : (∃ f0 cap0,x = V.func f0 cap0∧k f0 cap0 = r):=by
 cases x
 case func f0 cap0=>exact ⟨f0,cap0,rfl,h⟩
 all_goals exact absurd h.symm hr
noncomputable def ifk2 (x : V) (k : Nat→V→Res) (z : Res) : Res:=
 V.rec (motive_1:=fun _=>(Nat→V→Res)→(Res)→Res) (motive_2:=fun _=>PUnit) (fun _ _=>.fail) (fun _ _=>.fail) (fun _ _ _=>.fail) (fun _ _ _ _=>.fail) (fun _ _ _ _=>.fail) (fun _ _=>.fail) (fun _ _ _ _=>.fail) (fun _ _=>.fail) (fun _ _ _ _ _ _ _=>.fail) (fun _ _=>.fail) (fun _ _=>.fail) (fun _ _ _=>.fail) (fun _ _=>.fail) (fun _ _ _ _ _=>.fail) (fun _ z=>z) (fun t0 v0 _ k _=>k t0 v0) (fun _ _ _ _ _=>.fail) (fun _ _ _ _=>.fail) PUnit.unit (fun _ _ _ _=>PUnit.unit) x k z
theorem ifk2_ok {x : V} {k : Nat→V→Res} {z : Res} {r : Res} (h : ifk2 x k z = r) (hr : r ≠ .fail) : (∃ t0 v0,x = V.iface t0 v0∧k t0 v0 = r) ∨ (x = V.nili∧z = r):=by
 cases x
 case nili=>exact (.inr ⟨rfl,h⟩)
 case iface t0 v0=>exact (.inl ⟨t0,v0,rfl,h⟩)
 all_goals exact absurd h.symm hr
noncomputable def mapk (x : V) (k : Bid→Res) (z : Res) : Res:=
 V.rec (motive_1:=fun _=>(Bid→Res)→(Res)→Res) (motive_2:=fun _=>PUnit) (fun _ _=>.fail) (fun _ _=>.fail) (fun _ _ _=>.fail) (fun _ _ _ _=>.fail) (fun _ _ _ _=>.fail) (fun _ _=>.fail) (fun _ _ _ _=>.fail) (fun _ _=>.fail) (fun _ _ _ _ _ _ _=>.fail) (fun _ _=>.fail) (fun _ z=>z) (fun b0 k _=>k b0) (fun _ _=>.fail) (fun _ _ _ _ _=>.fail) (fun _ _=>.fail) (fun _ _ _ _ _=>.fail) (fun _ _ _ _ _=>.fail) (fun _ _ _ _=>.fail) PUnit.unit (fun _ _ _ _=>PUnit.unit) x k z
theorem mapk_ok {x : V} {k : Bid→Res} {z : Res} {r : Res} (h : mapk x k z = r) (hr : r ≠ .fail) : (∃ b0,x = V.map b0∧k b0 = r) ∨ (x = V.nilm∧z = r):=by
 cases x
 case nilm=>exact (.inr ⟨rfl,h⟩)
 case map b0=>exact (.inl ⟨b0,rfl,h⟩)
 all_goals exact absurd h.symm hr
noncomputable def pnk (x : V) (k : Bool→Res) : Res:=
 V.rec (motive_1:=fun _=>(Bool→Res)→Res) (motive_2:=fun _=>PUnit) (fun _=>.fail) (fun _=>.fail) (fun _ _=>.fail) (fun _ _ _=>.fail) (fun _ _ _=>.fail) (fun k=>k true) (fun _ _ k=>k false) (fun _=>.fail) (fun _ _ _ _ _ _=>.fail) (fun _=>.fail) (fun _=>.fail) (fun _ _=>.fail) (fun _=>.fail) (fun _ _ _ _=>.fail) (fun _=>.fail) (fun _ _ _ _=>.fail) (fun _ _ _ _=>.fail) (fun _ _ _=>.fail) PUnit.unit (fun _ _ _ _=>PUnit.unit) x k
noncomputable def snk (x : V) (k : Bool→Res) : Res:=
 V.rec (motive_1:=fun _=>(Bool→Res)→Res) (motive_2:=fun _=>PUnit) (fun _=>.fail) (fun _=>.fail) (fun _ _=>.fail) (fun _ _ _=>.fail) (fun _ _ _=>.fail) (fun _=>.fail) (fun _ _ _=>.fail) (fun k=>k true) (fun _ _ _ _ _ k=>k false) (fun k=>k false) (fun _=>.fail) (fun _ _=>.fail) (fun _=>.fail) (fun _ _ _ _=>.fail) (fun _=>.fail) (fun _ _ _ _=>.fail) (fun _ _ _ _=>.fail) (fun _ _ _=>.fail) PUnit.unit (fun _ _ _ _=>PUnit.unit) x k
noncomputable def mnk (x : V) (k : Bool→Res) : Res:=
 V.rec (motive_1:=fun _=>(Bool→Res)→Res) (motive_2:=fun _=>PUnit) (fun _=>.fail) (fun _=>.fail) (fun _ _=>.fail) (fun _ _ _=>.fail) (fun _ _ _=>.fail) (fun _=>.fail) (fun _ _ _=>.fail) (fun _=>.fail) (fun _ _ _ _ _ _=>.fail) (fun _=>.fail) (fun k=>k true) (fun _ k=>k false) (fun _=>.fail) (fun _ _ _ _=>.fail) (fun _=>.fail) (fun _ _ _ _=>.fail) (fun _ _ _ _=>.fail) (fun _ _ _=>.fail) PUnit.unit (fun _ _ _ _=>PUnit.unit) x k
noncomputable def fnk0 (x : V) (k : Bool→Res) : Res:=
 V.rec (motive_1:=fun _=>(Bool→Res)→Res) (motive_2:=fun _=>PUnit) (fun _=>.fail) (fun _=>.fail) (fun _ _=>.fail) (fun _ _ _=>.fail) (fun _ _ _=>.fail) (fun _=>.fail) (fun _ _ _=>.fail) (fun _=>.fail) (fun _ _ _ _ _ _=>.fail) (fun _=>.fail) (fun _=>.fail) (fun _ _=>.fail) (fun k=>k true) (fun _ _ _ k=>k false) (fun _=>.fail) (fun _ _ _ _=>.fail) (fun _ _ _ _=>.fail) (fun _ _ _=>.fail) PUnit.unit (fun _ _ _ _=>PUnit.unit) x k
noncomputable def ink (x : V) (k : Bool→Res) : Res:=
 V.rec (motive_1:=fun _=>(Bool→Res)→Res) (motive_2:=fun _=>PUnit) (fun _=>.fail) (fun _=>.fail) (fun _ _=>.fail) (fun _ _ _=>.fail) (fun _ _ _=>.fail) (fun _=>.fail) (fun _ _ _=>.fail) (fun _=>.fail) (fun _ _ _ _ _ _=>.fail) (fun _=>.fail) (fun _=>.fail) (fun _ _=>.fail) (fun _=>.fail) (fun _ _ _ _=>.fail) (fun k=>k true) (fun _ _ _ k=>k false) (fun _ _ _ _=>.fail) (fun _ _ _=>.fail) PUnit.unit (fun _ _ _ _=>PUnit.unit) x k
end Go.Ev
