/- EVALUATOR: what comes in as an argument, as trees in a memory that is only read. -/
import Derived.Test.YtcglhljoepefaaaEvRules
import Derived.Test.YtcglhljoepefaaaEvSimp
import Derived.Test.YtcglhljoepefaaaIbD
import Derived.Test.YtcglhljoepefaaaEvSimp
import Derived.ChangeArms
import Derived.DataReads
import GoSem.ClaimJoined
namespace Go.Ev
variable {P : Program}
def fieldsGood (P : Program) (L : List TypeId) : Nat→List Field→Nat→Bool
 | o,[],n=>o == n
 | o,f :: fs,n=>f.offset == o && L.contains f.type && fieldsGood P L (o + P.cellsOf f.type) fs n
def tyGood (P : Program) (L : List TypeId) (t : TypeId) : Bool:=
 match P.underlying t with
 | some .bool=>P.cellsOf t == 1
 | some (.int _)=>P.cellsOf t == 1
 | some .string=>P.cellsOf t == 1
 | some (.slice e)=>P.cellsOf t == 1 && L.contains e && decide (0 < P.cellsOf e) && decide (0 < P.bytesOf e)
 | some (.struct fs)=>fieldsGood P L 0 fs.toList (P.cellsOf t)
 | _=>false
def tysGood (P : Program) (L : List TypeId) : Bool:=L.all (tyGood P L)
mutual
inductive Ty (P : Program) : TypeId→List Tr→Prop where
 | int {t : TypeId} {k : IntKind} (n : Int) (hu : P.underlying t = some (.int k)) (hn : (Lit.int k n).wf = true) : Ty P t [.i k n]
 | str {t : TypeId} (l n : Nat) (hu : P.underlying t = some .string) (hl : l ≤ reachBytes) (hn : n < 256 ^ l) : Ty P t [.s l n]
 | bool {t : TypeId} (b : Bool) (hu : P.underlying t = some .bool) : Ty P t [.b b]
 | sl {t e : TypeId} (rows : List (List Tr)) (hu : P.underlying t = some (.slice e)) (hl : rows.length ≤ reachBytes) (hr : ∀ r ∈ rows,Ty P e r) : Ty P t [.sl (P.cellsOf e) rows]
 | struct {t : TypeId} {fs : Array Field} (tr : List Tr) (hu : P.underlying t = some (.struct fs)) (h : Tys P fs.toList tr) : Ty P t tr
inductive Tys (P : Program) : List Field→List Tr→Prop where
 | nil : Tys P [] []
 | cons {f : Field} {fs : List Field} (r s : List Tr) (h : Ty P f.type r) (hs : Tys P fs s) : Tys P (f :: fs) (r ++ s)
end
section
variable {t e : TypeId} {tr : List Tr}
theorem Ty.int_inv {k : IntKind} (h : Ty P t tr) (hu : P.underlying t = some (.int k)) : ∃ n,tr = [.i k n]∧(Lit.int k n).wf = true:=by
 cases h with
 | int n hu' hn=>rw [hu] at hu'; cases hu'; exact ⟨n,rfl,hn⟩
 | str l n hu'=>rw [hu] at hu'; cases hu'
 | bool b hu'=>rw [hu] at hu'; cases hu'
 | sl rows hu'=>rw [hu] at hu'; cases hu'
 | struct tr hu'=>rw [hu] at hu'; cases hu'
theorem Ty.str_inv (h : Ty P t tr) (hu : P.underlying t = some .string) : ∃ l n,tr = [.s l n]∧l ≤ reachBytes∧n < 256 ^ l:=by
 cases h with
 | int n hu' hn=>rw [hu] at hu'; cases hu'
 | str l n hu' hl hn=>exact ⟨l,n,rfl,hl,hn⟩
 | bool b hu'=>rw [hu] at hu'; cases hu'
 | sl rows hu'=>rw [hu] at hu'; cases hu'
 | struct tr hu'=>rw [hu] at hu'; cases hu'
theorem Ty.sl_inv (h : Ty P t tr) (hu : P.underlying t = some (.slice e)) : ∃ rows,tr = [.sl (P.cellsOf e) rows]∧rows.length ≤ reachBytes∧∀ r ∈ rows,Ty P e r:=by
 cases h with
 | int n hu' hn=>rw [hu] at hu'; cases hu'
 | str l n hu'=>rw [hu] at hu'; cases hu'
 | bool b hu'=>rw [hu] at hu'; cases hu'
 | sl rows hu' hl hr=>rw [hu] at hu'; cases hu'; exact ⟨rows,rfl,hl,hr⟩
 | struct tr hu'=>rw [hu] at hu'; cases hu'
theorem Ty.struct_inv {fs : Array Field} (h : Ty P t tr) (hu : P.underlying t = some (.struct fs)) : Tys P fs.toList tr:=by
 cases h with
 | int n hu' hn=>rw [hu] at hu'; cases hu'
 | str l n hu'=>rw [hu] at hu'; cases hu'
 | bool b hu'=>rw [hu] at hu'; cases hu'
 | sl rows hu'=>rw [hu] at hu'; cases hu'
 | struct tr hu' h=>rw [hu] at hu'; cases hu'; exact h
theorem Tys.cons_inv {f : Field} {fs : List Field} (h : Tys P (f :: fs) tr) : ∃ r s,tr = r ++ s∧Ty P f.type r∧Tys P fs s:=by
 cases h with | cons r s h hs=>exact ⟨r,s,rfl,h,hs⟩
theorem Tys.nil_inv (h : Tys P [] tr) : tr = []:=by cases h; rfl
end
theorem tree_get {t : T} {g n : Nat} {l : List V} (w : Wf t g n) (hc : ∀ i,t.cell g i = l[i]?) (hl : l.length = n * g) (j : Nat) : t.get j = if 0 ≤ j∧j < 0 + n then some ((l.drop ((j - 0) * g)).take g) else T.e.get j:=by
 by_cases hj : j < n
 · rw [if_pos (by omega)]
   obtain ⟨ch,e1⟩:=w.shape.get hj
   have e2:=w.len _ _ e1
   have hp:=w.pos
   rw [e1]
   congr 1
   apply List.ext_getElem?
   intro i
   rw [List.getElem?_take]
   by_cases hi : i < g
   · rw [if_pos hi,List.getElem?_drop]
     have e3:=hc (j * g + i)
     have d1 : (j * g + i) / g = j:=by rw [Nat.mul_comm,Nat.mul_add_div hp,Nat.div_eq_of_lt hi,Nat.add_zero]
     have d2 : (j * g + i) % g = i:=by rw [Nat.mul_comm,Nat.mul_add_mod,Nat.mod_eq_of_lt hi]
     simp only [T.cell,d1,d2,e1,Option.bind_some] at e3
     rw [e3,Nat.sub_zero]
   · rw [if_neg hi,List.getElem?_eq_none (by omega)]
 · rw [if_neg (by omega)]
   cases e1 : t.get j with
   | none=>rfl
   | some ch=>exact absurd (w.shape.get_lt e1) hj
theorem addr_add (a : Addr) (k j : Nat) : (a.add k).add j = a.add (k + j):=by
 unfold Addr.add
 by_cases hk : k = 0
 · subst hk; simp
 · by_cases hj : j = 0
   · subst hj; simp
   · rw [if_neg hk,if_neg hj,if_neg (by omega),Nat.add_assoc]
theorem cells_len {w : World} {base : Nat} {a : Addr} {n : Nat} {cs : List Value} (h : w.cells? base a n = some cs) : cs.length = n∧∀ (i : Nat) (y : Value),cs[i]? = some y→w.cell? (a.add i) = some y:=by
 unfold World.cells? at h
 split at h
 · have main : ∀ (l : List Nat) (f : Nat→Option Value) (r : List Value),l.mapM f = some r→r.length = l.length∧∀ (i : Nat) (y : Value),r[i]? = some y→∃ x,l[i]? = some x∧f x = some y:=by
    intro l f
    induction l with
    | nil=>intro r hr; simp at hr; subst hr; simp
    | cons x l ih=>
      intro r hr
      rw [List.mapM_cons] at hr
      cases h1 : f x with
      | none=>simp [h1] at hr
      | some y=>
        cases h2 : l.mapM f with
        | none=>simp [h1,h2] at hr
        | some ys=>
          simp [h1,h2] at hr
          subst hr
          obtain ⟨i1,i2⟩:=ih ys h2
          refine ⟨by simp [i1],fun i z hz=>?_⟩
          cases i with
          | zero=>simp at hz; subst hz; exact ⟨x,rfl,h1⟩
          | succ i=>exact i2 i z (by simpa using hz)
   obtain ⟨h1,h2⟩:=main _ _ _ h
   refine ⟨by simpa using h1,fun i y hy=>?_⟩
   obtain ⟨x,h3,h4⟩:=h2 i y hy
   have hi:=(List.getElem?_eq_some_iff.1 h3)
   obtain ⟨hi1,hi2⟩:=hi
   rw [List.getElem_range] at hi2
   subst hi2
   exact h4
 · cases h
theorem VRs.le {ρ ρ' : Rho} (h : ρ.le ρ') : ∀ {l : List V} {xs : List Value},VRs ρ l xs→VRs ρ' l xs
 | [],_,w=>by cases w; exact .nil
 | _ :: _,_,w=>by cases w with | cons a b=>exact .cons (a.mono h) (VRs.le h b)
theorem RowA.app {h : Heap} {A : Nat→Prop} {r s : List Tr} {l m : List V} (w : RowA h A r l) (u : RowA h A s m) : RowA h A (r ++ s) (l ++ m):=by
 induction w with
 | nil=>exact u
 | cons ht _ ih=>exact .cons ht ih
mutual
def trB : Tr→Nat
 | .i _ _=>0
 | .s _ _=>0
 | .b _=>0
 | .sl _ rows=>trBrows rows
def trBs : List Tr→Nat
 | []=>0
 | t :: r=>trB t + trBs r
def trBrows : List (List Tr)→Nat
 | []=>0
 | r :: rs=>1 + trBs r + trBrows rs
end
theorem trBs_app : ∀ (r s : List Tr),trBs (r ++ s) = trBs r + trBs s
 | [],s=>by simp [trBs]
 | t :: r,s=>by rw [List.cons_append,trBs,trBs,trBs_app r s]; omega
theorem trBrows_app : ∀ (a : List (List Tr)) (r : List Tr),trBrows (a ++ [r]) = trBrows a + (1 + trBs r)
 | [],r=>by simp [trBrows]
 | x :: a,r=>by rw [List.cons_append,trBrows,trBrows,trBrows_app a r]; omega
theorem trBs_sl (g : Nat) (rows : List (List Tr)) : trBs [.sl g rows] = trBrows rows:=by simp [trBs,trB]
mutual
def dwB {H : Type} : DataW H→Nat
 | .slice elems _=>dwBs elems + 1
 | .agg parts=>dwBs parts + 1
 | .lit _=>1
 | .nil=>1
 | .ptr _=>1
 | .iface _ _=>1
 | .map _=>1
 | .held _=>1
def dwBs {H : Type} : List (DataW H)→Nat
 | []=>0
 | d :: r=>dwB d + dwBs r
end
def sumN (K : Nat→Nat) : Nat→Nat
 | 0=>0
 | m + 1=>sumN K m + K m
theorem sumN_succ (K : Nat→Nat) : ∀ m,sumN K (m + 1) = K 0 + sumN (fun i=>K (i + 1)) m
 | 0=>by simp [sumN]
 | m + 1=>by rw [sumN,sumN_succ K m,sumN]; omega
theorem sumN_le {H : Type} : ∀ (l : List (DataW H)) (m : Nat),sumN (fun i=>((l[i]?).map dwB).getD 0) m ≤ dwBs l
 | [],m=>by
   induction m with
   | zero=>simp [sumN]
   | succ m ih=>rw [sumN]; simpa using ih
 | x :: l,0=>by simp [sumN]
 | x :: l,m + 1=>by
   rw [sumN_succ,dwBs]
   have:=sumN_le l m
   simp only [List.getElem?_cons_zero,List.getElem?_cons_succ,Option.map_some,Option.getD_some]
   omega
structure InR (P : Program) (W : World) (ρ : Rho) (h : Heap) (ρ' : Rho) (h' : Heap) : Prop where
 le : ρ.le ρ'
 rh : RH P ρ' h' W
 nw : ∀ c,¬ Wr ρ' h' c
 up : Up h h'
theorem InR.refl {W : World} {ρ : Rho} {h : Heap} (r : RH P ρ h W) (nw : ∀ c,¬ Wr ρ h c) : InR P W ρ h ρ h:=⟨.refl _,r,nw,.refl _⟩
theorem InR.trans {W : World} {ρ ρ' ρ'' : Rho} {h h' h'' : Heap} (a : InR P W ρ h ρ' h') (b : InR P W ρ' h' ρ'' h'') : InR P W ρ h ρ'' h'':=⟨a.le.trans b.le,b.rh,b.nw,a.up.trans b.up⟩
section
variable {H : Type} {enc : TypeId × Value→H} {W : World} {base : Nat} {spare : Nat→Bool} {held : Bool} {L : List TypeId}
def Brings (P : Program) (W : World) (t : TypeId) (cs : List Value) (K : Nat) : Prop:=
 ∀ ρ h,RH P ρ h W→(∀ c,¬ Wr ρ h c)→∃ ρ' h' tr vs,InR P W ρ h ρ' h'∧VRs ρ' vs cs∧RowR h' h'.nx.val tr vs∧Ty P t tr∧(∀ y ∈ cs,y.oneCell' = true)∧cs.length = P.cellsOf t∧1 + trBs tr ≤ K
theorem weights_mem {e : TypeId} : ∀ {l : List (DataW H)} {d : DataW H},d ∈ l→∀ k ∈ d.weights P e,k ∈ DataW.weightsAll P e l
 | x :: l,d,hd,k,hk=>by
   rw [DataW.weightsAll]
   rcases List.mem_cons.1 hd with rfl | hd
   · exact List.mem_append_left _ hk
   · exact List.mem_append_right _ (weights_mem hd k hk)
theorem els_in {e : TypeId} {a : Addr} (K : Nat→Nat) : ∀ (m : Nat),(∀ i,i < m→∃ ci,W.cells? base (a.add (i * P.cellsOf e)) (P.cellsOf e) = some ci∧Brings P W e ci (K i))→∀ ρ h,RH P ρ h W→(∀ c,¬ Wr ρ h c) →
 ∃ (ρ' : Rho) (h' : Heap) (rows : List (List Tr)) (vs : List V) (ys : List Value),InR P W ρ h ρ' h'∧VRs ρ' vs ys∧rows.length = m∧ys.length = m * P.cellsOf e∧(∀ (i : Nat) (y : Value),ys[i]? = some y→W.cell? (a.add i) = some y∧y.oneCell' = true) ∧
  (∀ r ∈ rows,Ty P e r∧r.length = P.cellsOf e)∧(∀ (i : Nat) (r : List Tr) (j : Nat) (t : Tr) (v : V),rows[i]? = some r→r[j]? = some t→vs[i * P.cellsOf e + j]? = some v→CellR h' h'.nx.val t v)∧trBrows rows ≤ sumN K m
 | 0,_,ρ,h,r,nw=>⟨ρ,h,[],[],[],.refl r nw,.nil,rfl,by simp,fun i y hy=>by simp at hy,fun r hr=>by simp at hr,fun i r j t v hi=>by simp at hi,by simp [trBrows]⟩
 | m + 1,ih,ρ,h,r,nw=>by
   obtain ⟨ρ1,h1,rows,vs,ys,I1,v1,l1,l2,c1,t1,s1,b1⟩:=els_in K m (fun i hi=>ih i (by omega)) ρ h r nw
   obtain ⟨ci,hc,br⟩:=ih m (by omega)
   obtain ⟨ρ2,h2,tr,vi,I2,v2,w2,t2,o2,n2,b2⟩:=br ρ1 h1 I1.rh I1.nw
   obtain ⟨_,cc⟩:=cells_len hc
   have lvs:=v1.len
   have lvi:=v2.len
   have ltr:=w2.len
   refine ⟨ρ2,h2,rows ++ [tr],vs ++ vi,ys ++ ci,I1.trans I2,(v1.le I2.le).app v2,by simp [l1],by simp [l2,n2,Nat.succ_mul],?_,?_,?_,by rw [trBrows_app,sumN]; omega⟩
   · intro i y hy
     by_cases hi : i < ys.length
     · rw [List.getElem?_append_left hi] at hy; exact c1 i y hy
     · rw [List.getElem?_append_right (by omega)] at hy
       have:=cc _ _ hy
       rw [addr_add] at this
       rw [show m * P.cellsOf e + (i - ys.length) = i by omega] at this
       exact ⟨this,o2 _ (List.mem_of_getElem? hy)⟩
   · intro r hr
     rcases List.mem_append.1 hr with hr | hr
     · exact t1 r hr
     · simp at hr; subst hr; exact ⟨t2,by omega⟩
   · intro i r j t v hi hj hv
     by_cases him : i < rows.length
     · rw [List.getElem?_append_left him] at hi
       have hr:=t1 r (List.mem_of_getElem? hi)
       have hj':=(List.getElem?_eq_some_iff.1 hj).1
       have hb : (i + 1) * P.cellsOf e ≤ rows.length * P.cellsOf e:=Nat.mul_le_mul_right _ him
       rw [Nat.succ_mul] at hb
       rw [List.getElem?_append_left (by rw [lvs,l2,← l1]; omega)] at hv
       exact (s1 i r j t v hi hj hv).up I2.up.nx fun b hb=>I2.up.get b hb
     · rw [List.getElem?_append_right (by omega)] at hi
       have e0 : i - rows.length = 0:=by have:=(List.getElem?_eq_some_iff.1 hi).1; simp at this; omega
       rw [e0] at hi
       simp at hi
       subst hi
       have ei : i = m:=by omega
       subst ei
       rw [List.getElem?_append_right (by omega),show i * P.cellsOf e + j - vs.length = j by omega] at hv
       exact w2.at_ hj hv
theorem fields_in {n : Nat} {cs : List Value} (ih : ∀ (t : TypeId) (cs : List Value) (x : DataW H × List MemPlace),t ∈ L→DataW.trod enc P W base spare held n t cs = some x→(∀ k ∈ x.1.weights P t,k ≤ reachBytes)→Brings P W t cs (dwB x.1)) :
 ∀ (fs : List Field) (o : Nat) (xs : List (DataW H × List MemPlace)),fieldsGood P L o fs cs.length = true→xs.length = fs.length →
  (∀ (i : Nat) (f : Field),fs[i]? = some f→DataW.trod enc P W base spare held n f.type ((cs.drop f.offset).take (P.cellsOf f.type)) = xs[i]?) →
  (∀ k ∈ DataW.weightsEach P (fs.map (·.type)) (xs.map (·.1)),k ≤ reachBytes)→∀ ρ h,RH P ρ h W→(∀ c,¬ Wr ρ h c) →
  ∃ ρ' h' tr vs,InR P W ρ h ρ' h'∧VRs ρ' vs (cs.drop o)∧RowR h' h'.nx.val tr vs∧Tys P fs tr∧(∀ y ∈ cs.drop o,y.oneCell' = true)∧o ≤ cs.length∧trBs tr ≤ dwBs (xs.map (·.1))
 | [],o,xs,hg,hl,hf,hw,ρ,h,r,nw=>by
   simp [fieldsGood] at hg
   subst hg
   exact ⟨ρ,h,[],[],.refl r nw,by simpa using VRs.nil,.nil,.nil,by simp,Nat.le_refl _,by simp [trBs]⟩
 | f :: fs,o,x :: xs,hg,hl,hf,hw,ρ,h,r,nw=>by
   simp only [fieldsGood,Bool.and_eq_true,beq_iff_eq,List.contains_iff_mem] at hg
   obtain ⟨⟨ho,hm⟩,hg⟩:=hg
   have h0:=hf 0 f rfl
   simp only [List.getElem?_cons_zero] at h0
   rw [ho] at h0
   rw [List.map_cons,List.map_cons,DataW.weightsEach] at hw
   obtain ⟨ρ1,h1,tr,vs,I1,v1,w1,t1,o1,n1,b1⟩:=ih f.type _ x hm h0 (fun k hk=>hw k (List.mem_append_left _ hk)) ρ h r nw
   obtain ⟨ρ2,h2,tr2,vs2,I2,v2,w2,t2,o2,n2,b2⟩:=fields_in ih fs (o + P.cellsOf f.type) xs hg (by simpa using hl) (fun i f' hi=>by simpa using hf (i + 1) f' (by simpa using hi)) (fun k hk=>hw k (List.mem_append_right _ hk)) ρ1 h1 I1.rh I1.nw
   have e : cs.drop o = (cs.drop o).take (P.cellsOf f.type) ++ cs.drop (o + P.cellsOf f.type):=by rw [← List.drop_drop,List.take_append_drop]
   refine ⟨ρ2,h2,tr ++ tr2,vs ++ vs2,I1.trans I2,?_,(w1.up I2.up.nx fun b hb=>I2.up.get b hb).app w2,.cons tr tr2 t1 t2,?_,by omega,by rw [trBs_app,List.map_cons,dwBs]; omega⟩
   · rw [e]; exact (v1.le I2.le).app v2
   · intro y hy
     rw [e] at hy
     rcases List.mem_append.1 hy with hy | hy
     · exact o1 y hy
     · exact o2 y hy
 | _ :: _,_,[],_,hl,_,_,_,_,_,_=>by simp at hl
theorem dat_in (hL : tysGood P L = true) : ∀ (fuel : Nat) (t : TypeId) (cs : List Value) (x : DataW H × List MemPlace),t ∈ L→DataW.trod enc P W base spare held fuel t cs = some x→(∀ k ∈ x.1.weights P t,k ≤ reachBytes)→Brings P W t cs (dwB x.1)
 | 0,t,cs,x,_,h,_=>by simp [DataW.trod] at h
 | fuel + 1,t,cs,x,ht,hx,hw=>by
   have hg:=List.all_eq_true.1 hL t ht
   unfold tyGood at hg
   split at hg
   · rename_i hu
     obtain ⟨b,rfl,rfl⟩:=DataW.trod_bool hu hx
     intro ρ h r nw
     exact ⟨ρ,h,[.b b],[.bool b],.refl r nw,.cons (.bool b) .nil,.cons (.b b) .nil,.bool b hu,by simp [Value.oneCell'],by simpa using (beq_iff_eq.1 hg).symm,by simp [trBs,trB,dwB]⟩
   · rename_i k hu
     obtain ⟨z,rfl,rfl,hz⟩:=DataW.trod_int hu hx
     intro ρ h r nw
     exact ⟨ρ,h,[.i k z],[.int k z],.refl r nw,.cons (.int k z) .nil,.cons (.i k z) .nil,.int z hu hz,by simp [Value.oneCell'],by simpa using (beq_iff_eq.1 hg).symm,by simp [trBs,trB,dwB]⟩
   · rename_i hu
     obtain ⟨s,rfl,rfl,hs⟩:=DataW.trod_string hu hx
     intro ρ h r nw
     obtain ⟨bs,b1,b2,b3⟩:=bytes_in (ρ:=ρ) s
     have hl:=hw s.data.toList.length (by simp [DataW.weights])
     have hl' : bs.length ≤ reachBytes:=by rw [b2]; exact hl
     exact ⟨ρ,h,[.s bs.length (packN bs)],[sV bs],.refl r nw,.cons b3 .nil,.cons (.s _ _ (packN_lt b1)) .nil,.str _ _ hu hl' (packN_lt b1),by simp [Value.oneCell'],by simpa using (beq_iff_eq.1 hg).symm,by simp [trBs,trB,dwB]⟩
   · rename_i e hu
     simp only [Bool.and_eq_true,beq_iff_eq,decide_eq_true_eq,List.contains_iff_mem] at hg
     obtain ⟨⟨⟨g1,g2⟩,g3⟩,g4⟩:=hg
     rcases DataW.trod_slice hu hx with ⟨rfl,rfl⟩ | ⟨a,len,cap,elems,rest,n,hn,rfl,rfl,hba,hlc,hcap,hel,hf,_,_⟩
     · intro ρ h r nw
       exact ⟨ρ,h,[.sl (P.cellsOf e) []],[.nils],.refl r nw,.cons .nils .nil,.cons (.nils _) .nil,.sl [] hu (by simp) (by simp),by simp [Value.oneCell'],by simpa using g1.symm,by simp [trBs,trB,trBrows,dwB]⟩
     · cases hn
       simp only [DataW.weights,hu,List.length_map] at hw
       have hlen : len ≤ reachBytes:=by
        have h1:=hw _ List.mem_cons_self
        have h2 : (elems.length + rest.length) * 1 ≤ (elems.length + rest.length) * P.bytesOf e:=Nat.mul_le_mul_left _ g4
        omega
       intro ρ h r nw
       by_cases h0 : len = 0
       · subst h0
         exact ⟨ρ,h,[.sl (P.cellsOf e) []],[.emp],.refl r nw,.cons (.emp _ _) .nil,.cons (.emp _) .nil,.sl [] hu (by simp) (by simp),by simp [Value.oneCell'],by simpa using g1.symm,by simp only [trBs,trB,trBrows,dwB]; omega⟩
       · have hb : ∀ i,i < len→∃ ci,W.cells? base (a.add (i * P.cellsOf e)) (P.cellsOf e) = some ci∧Brings P W e ci ((((elems.map (·.1))[i]?).map dwB).getD 0):=by
          intro i hi
          have h1:=hf i hi
          rw [List.getElem?_eq_getElem (by omega)] at h1
          obtain ⟨ci,h2,h3⟩:=Option.bind_eq_some_iff.1 h1
          rw [List.getElem?_eq_getElem (by simp; omega),Option.map_some,Option.getD_some,List.getElem_map]
          refine ⟨ci,h2,dat_in hL fuel e ci _ g2 h3 fun k hk=>hw k ?_⟩
          refine List.mem_cons_of_mem _ (List.mem_append_left _ (weights_mem (d:=elems[i].1) (by simp; exact ⟨_,List.getElem_mem _⟩) k hk))
         obtain ⟨ρ1,h1,rows,vs,ys,I1,v1,l1,l2,c1,t1,s1,b1⟩:=els_in (fun i=>(((elems.map (·.1))[i]?).map dwB).getD 0) len hb ρ h r nw
         have b2:=sumN_le (elems.map (·.1)) len
         have lvs:=v1.len
         have hpos : 0 < len * P.cellsOf e:=Nat.mul_pos (by omega) g3
         obtain ⟨cs0,el,fz,hh,hspot⟩ : ∃ cs0 el fz,W.heap[a.block]? = some (.cells cs0 el fz)∧a.spot = none:=by
          have hy:=(c1 0 ys[0] (by simp [l2,hpos])).1
          unfold World.cell? at hy
          have e0 : a.add 0 = a:=rfl
          rw [e0] at hy
          split at hy
          · rename_i q1 q2 q3 hq
            split at hy
            · cases hy
            · rename_i hq2
              exact ⟨_,_,_,hq,by simpa using hq2⟩
          · cases hy
         obtain ⟨blk,off,sp⟩:=a
         simp only at hspot hh
         subst hspot
         have Ls : Lies W blk off cs0.size (len * P.cellsOf e) ys:=by
          refine ⟨⟨cs0,el,fz,hh,rfl,fun i y hy=>?_⟩,l2,hpos⟩
          obtain ⟨h2,h3⟩:=c1 i y hy
          rw [add_addr] at h2
          simp only [World.cell?,hh] at h2
          exact ⟨by simpa using h2,h3⟩
         obtain ⟨t,hk,wt,ct⟩:=chopk_law (g:=P.cellsOf e) g3 (wf_e g3) (l:=vs) (m:=len) (by omega)
         rw [Nat.zero_add] at wt
         have ct' : ∀ j,t.cell (P.cellsOf e) j = vs[j]?:=fun j=>by simpa using ct j
         obtain ⟨le2,rh2,nw2⟩:=I1.rh.view I1.nw (g:=P.cellsOf e) (n:=len) g3 (cells:=vs) (t:=t) (by omega) (tree_get wt ct' (by omega)) Ls v1
         have gx : ((Heap.new h1 (.arr (P.cellsOf e) len t true) h1.nx.nxt).t.get h1.nx) = .arr (P.cellsOf e) len t true:=HT.get_set _ _ _
         have up2 : Up h1 (Heap.new h1 (.arr (P.cellsOf e) len t true) h1.nx.nxt):=⟨by show h1.nx.val ≤ h1.nx.nxt.val; rw [Bid.nxt_val]; omega,fun b hb=>HT.get_set_ne _ (by rintro rfl; omega) ..⟩
         subst l1
         refine ⟨_,_,[.sl (P.cellsOf e) rows],[.slice h1.nx 0 rows.length (some cap) (P.cellsOf e)],I1.trans ⟨le2,rh2,nw2,up2⟩,?_,?_,.sl rows hu hlen fun r hr=>(t1 r hr).1,by simp [Value.oneCell'],by simpa using g1.symm,by rw [trBs_sl,dwB]; omega⟩
         · refine .cons ?_ .nil
           have:=VR.slice (ρ:=ρ1.put h1.nx (blk,off,cs0.size)) (o:=0) (cp:=some cap) (s:=P.cellsOf e) (cap:=cap) (l:=rows.length) (Rho.put_same _ _ _) (fun n hn=>by cases hn; rfl) (fun hn=>by cases hn) hlc
           simpa using this
         · refine .cons ?_ .nil
           refine .sl _ rows h1.nx 0 (some cap) true vs ?_ ⟨_,t,gx,wt,by omega,ct'⟩ (by omega) (fun r hr=>(t1 r hr).2) ?_
           · show h1.nx.val < h1.nx.nxt.val
             rw [Bid.nxt_val]; omega
           · intro i r j u v hi hj hv
             rw [Nat.zero_add] at hv
             exact (s1 i r j u v hi hj hv).up up2.nx fun b hb=>up2.get b hb
   · rename_i fs hu
     obtain ⟨xs,n,hn,rfl,hl,hlen,hf⟩:=DataW.trod_struct hu hx
     cases hn
     intro ρ h r nw
     have hw' : ∀ k ∈ DataW.weightsEach P (fs.toList.map (·.type)) (xs.map (·.1)),k ≤ reachBytes:=by
      simpa only [DataW.weights,hu] using hw
     obtain ⟨ρ1,h1,tr,vs,I1,v1,w1,t1,o1,_,b1⟩:=fields_in (fun t cs x ht hx hw=>dat_in hL fuel t cs x ht hx hw) fs.toList 0 xs (by rw [hl]; exact hg) (by simpa using hlen) (fun i f hi=>hf i f (by simpa using hi)) hw' ρ h r nw
     exact ⟨ρ1,h1,tr,vs,I1,by simpa using v1,w1,.struct tr hu t1,by simpa using o1,hl,by rw [dwB]; omega⟩
   · cases hg
end
end Go.Ev
