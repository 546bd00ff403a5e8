/- EvRules: texts joined. -/
import Derived.Test.YtcglhljoepefaaaEvSimp
import Derived.Test.YtcglhljoepefaaaEvAbb
/- EVALUATOR: slices of one-cell elements on a memory that is known. -/
namespace Go.Ev
theorem blt_of {a b : Nat} (h : a < b) : Nat.blt a b = true:=by simpa [Nat.blt_eq] using h
theorem blt_not {a b : Nat} (h : ¬ a < b) : Nat.blt a b = false:=by
 cases e : Nat.blt a b
 · rfl
 · rw [Nat.blt_eq] at e; exact absurd e h
theorem ble_of {a b : Nat} (h : a ≤ b) : Nat.ble a b = true:=Nat.ble_eq_true_of_le h
theorem ble_not {a b : Nat} (h : ¬ a ≤ b) : Nat.ble a b = false:=by
 cases e : Nat.ble a b
 · rfl
 · exact absurd (Nat.le_of_ble_eq_true e) h
theorem beq_of {a b : Nat} (h : a = b) : Nat.beq a b = true:=by subst h; exact Nat.beq_refl a
theorem beq_not {a b : Nat} (h : a ≠ b) : Nat.beq a b = false:=by
 cases e : Nat.beq a b
 · rfl
 · exact absurd (Nat.eq_of_beq_eq_true e) h
structure Up (h h' : Heap) : Prop where
 nx : h.nx.val ≤ h'.nx.val
 get : ∀ b : Bid,b.val < h.nx.val→h'.t.get b = h.t.get b
theorem Up.refl (h : Heap) : Up h h:=⟨Nat.le_refl _,fun _ _=>rfl⟩
theorem Up.trans {h h' h'' : Heap} (a : Up h h') (b : Up h' h'') : Up h h'':=⟨Nat.le_trans a.nx b.nx,fun x hx=>(b.get x (Nat.lt_of_lt_of_le hx a.nx)).trans (a.get x hx)⟩
theorem New.up {h h' : Heap} (n : New h h') : Up h h':=⟨by rw [n.nx,Bid.nxt_val]; omega,fun b hb=>n.get b (by rintro rfl; omega)⟩
theorem New.lt {h h' : Heap} (n : New h h') : h.nx.val < h'.nx.val:=by rw [n.nx,Bid.nxt_val]; omega
inductive IsS (h : Heap) : V→List V→Prop where
 | nils : IsS h .nils []
 | emp : IsS h .emp []
 | sl (b : Bid) (o : Nat) (c : Option Nat) (op : Bool) (cs l : List V) (row : RowO op (h.t.get b) 1 cs) (fit : o + l.length ≤ cs.length) (is : (cs.drop o).take l.length = l)
    (cap : ∀ n,c = some n→l.length ≤ n∧o + n ≤ cs.length) : IsS h (.slice b o l.length c 1) l
theorem IsS.len {h : Heap} {v : V} {l : List V} (w : IsS h v l) (k : Nat→Res) : lenk v k = k l.length:=by cases w <;> rfl
theorem IsS.snk {h : Heap} {v : V} {l : List V} (w : IsS h v l) (hl : l ≠ []) (k : Bool→Res) : Go.Ev.snk v k = k false:=by cases w <;> first | rfl | exact absurd rfl hl
theorem IsS.at_ {h : Heap} {v : V} {l : List V} (w : IsS h v l) {i : Nat} (hi : i < l.length) : ∃ b o n c s,v = .slice b o n c s∧i < n∧∀ k,load1k h b (Nat.add o i) k = k l[i]:=by
 cases w with
 | nils=>simp at hi
 | emp=>simp at hi
 | sl b o c op cs _ row fit is cap=>
   refine ⟨b,o,_,c,1,rfl,hi,fun k=>load1k_law row ?_ k⟩
   show cs[o + i]? = _
   have : ((cs.drop o).take l.length)[i]? = l[i]?:=by rw [is]
   rw [List.getElem?_take_of_lt hi,List.getElem?_drop] at this
   rw [this,List.getElem?_eq_getElem hi]
theorem IsS.up {h h' : Heap} {v : V} {l : List V} (w : IsS h v l) (hb : ∀ b o n c s,v = .slice b o n c s→h'.t.get b = h.t.get b) : IsS h' v l:=by
 cases w with
 | nils=>exact .nils
 | emp=>exact .emp
 | sl b o c op cs _ row fit is cap=>exact .sl b o c op cs l (by rw [hb b o _ c 1 rfl]; exact row) fit is cap
def Low (v : V) (n : Nat) : Prop:=∀ b o l c s,v = .slice b o l c s→b.val < n
theorem IsS.upto {h h' : Heap} {v : V} {l : List V} (w : IsS h v l) (lo : Low v h.nx.val) (u : Up h h') : IsS h' v l:=w.up fun b o n c s e=>u.get b (lo b o n c s e)
theorem Low.mono {v : V} {m n : Nat} (h : Low v m) (hm : m ≤ n) : Low v n:=fun b o l c s e=>Nat.lt_of_lt_of_le (h b o l c s e) hm
theorem IsS.src {h : Heap} {v : V} {l : List V} (w : IsS h v l) (k : Nat→List V→Res) : srck 1 v h k = k l.length l:=by
 cases w with
 | nils=>rfl
 | emp=>rfl
 | sl b o c op cs _ row fit is cap=>
   show loadk h b o (l.length * 1) (fun cs=>k l.length cs) = _
   rw [Nat.mul_one,loadk_law row fit,is]
inductive Own (h : Heap) (lo : Nat) : V→List V→Prop where
 | nils : Own h lo .nils []
 | sl (b : Bid) (c : Option Nat) (l : List V) (blo : lo ≤ b.val) (bhi : b.val < h.nx.val) (row : Row (h.t.get b) 1 l) (cap : ∀ n,c = some n→n = l.length) : Own h lo (.slice b 0 l.length c 1) l
theorem Own.isS {h : Heap} {lo : Nat} {v : V} {l : List V} (w : Own h lo v l) : IsS h v l:=by
 cases w with
 | nils=>exact .nils
 | sl b c _ blo bhi row cap=>exact .sl b 0 c false l l row (by omega) (by simp) fun n hn=>by have:=cap n hn; omega
theorem Own.low {h : Heap} {lo : Nat} {v : V} {l : List V} (w : Own h lo v l) : Low v h.nx.val:=by
 intro b o n c s e
 cases w with
 | nils=>cases e
 | sl b c _ blo bhi row cap=>cases e; exact bhi
theorem Own.mono {h : Heap} {lo lo' : Nat} {v : V} {l : List V} (w : Own h lo v l) (hl : lo' ≤ lo) : Own h lo' v l:=by
 cases w with
 | nils=>exact .nils
 | sl b c _ blo bhi row cap=>exact .sl b c l (by omega) bhi row cap
theorem Own.up {h h' : Heap} {lo : Nat} {v : V} {l : List V} (w : Own h lo v l) (u : Up h h') : Own h' lo v l:=by
 cases w with
 | nils=>exact .nils
 | sl b c _ blo bhi row cap=>exact .sl b c l blo (Nat.lt_of_lt_of_le bhi u.nx) (by rw [u.get b bhi]; exact row) cap
structure UpTo (n : Nat) (h h' : Heap) : Prop where
 nx : h.nx.val ≤ h'.nx.val
 get : ∀ b : Bid,b.val < n→h'.t.get b = h.t.get b
theorem Up.to {h h' : Heap} {n : Nat} (u : Up h h') (hn : n ≤ h.nx.val) : UpTo n h h':=⟨u.nx,fun b hb=>u.get b (by omega)⟩
theorem UpTo.up {h h' : Heap} (u : UpTo h.nx.val h h') : Up h h':=⟨u.nx,u.get⟩
theorem UpTo.trans {n : Nat} {h h' h'' : Heap} (a : UpTo n h h') (b : UpTo n h' h'') : UpTo n h h'':=⟨Nat.le_trans a.nx b.nx,fun x hx=>(b.get x hx).trans (a.get x hx)⟩
theorem UpTo.refl (n : Nat) (h : Heap) : UpTo n h h:=⟨Nat.le_refl _,fun _ _=>rfl⟩
theorem UpTo.mono {n m : Nat} {h h' : Heap} (a : UpTo n h h') (hm : m ≤ n) : UpTo m h h':=⟨a.nx,fun b hb=>a.get b (by omega)⟩
theorem IsS.upTo {n : Nat} {h h' : Heap} {v : V} {l : List V} (w : IsS h v l) (lo : Low v n) (u : UpTo n h h') : IsS h' v l:=w.up fun b o m c s e=>u.get b (lo b o m c s e)
theorem row_ext {op : Bool} {x : Blk} {g : Nat} {l m : List V} (a : RowO op x g l) (e : l = m) : RowO op x g m:=e ▸ a
theorem freshk_law {l : List V} (h : Heap) : ∃ h',(∀ k : V→Heap→Res,freshk 1 l.length l h k = k (.slice h.nx 0 l.length none 1) h')∧Row (h'.t.get h.nx) 1 l∧New h h':=by
 obtain ⟨t,h1,h2⟩:=rowk_law (g:=1) (n:=l.length) (by omega) (l:=l) (by omega)
 obtain ⟨h',h3,h4,h5⟩:=newk_law h (.arr 1 l.length t false)
 exact ⟨h',fun k=>by unfold freshk; rw [h1,h3],by rw [h4]; exact h2,h5⟩
theorem movek_law {b : Bid} {l : List V} {t : T} (h : Heap) (ht : Row (.arr 1 l.length t false) 1 l) :
 ∃ h',(∀ k : V→Heap→Res,movek b 1 l.length t h k = k (.slice h.nx 0 l.length none 1) h')∧Row (h'.t.get h.nx) 1 l∧h'.nx = h.nx.nxt∧∀ b',b' ≠ b→b' ≠ h.nx→h'.t.get b' = h.t.get b':=by
 obtain ⟨h',h3,h4,h5⟩:=newk_law (h.turn b .none) (.arr 1 l.length t false)
 refine ⟨h',fun k=>by unfold movek; rw [Heap.turnk_eq,h3]; rfl,?_,h5.nx,fun b' h6 h7=>?_⟩
 · rw [show h.nx = (h.turn b .none).nx from rfl,h4]; exact ht
 · rw [h5.get b' h7]; exact HT.get_set_ne _ h6 _
theorem appendk_own {lo : Nat} {v : V} {l new : List V} {h : Heap} (w : Own h lo v l) (hlo : lo ≤ h.nx.val) (hs : l.length + new.length ≤ 16777216) :
 ∃ h' v',(∀ k,appendk 1 v new.length new h k = k v' h')∧Own h' lo v' (l ++ new)∧UpTo lo h h':=by
 cases w with
 | nils=>
   cases new with
   | nil=>exact ⟨h,.nils,fun k=>rfl,.nils,.refl _ _⟩
   | cons x new=>
     obtain ⟨h',h1,h2,h3⟩:=freshk_law (l:=x :: new) h
     refine ⟨h',_,fun k=>?_,.sl h.nx none (x :: new) hlo h3.lt h2 (fun n e=>by cases e),h3.up.to hlo⟩
     show zk (x :: new).length (k .nils h) (ifk (Nat.ble (x :: new).length 16777216) (freshk 1 (x :: new).length (x :: new) h k) .fail) = _
     rw [ble_of (by simpa using hs)]
     exact h1 k
 | sl b c _ blo bhi row cap=>
   have unf : ∀ k,appendk 1 (.slice b 0 l.length c 1) new.length new h k = optk c
    (fun cap=>ifk (Nat.ble (l.length + new.length) cap) (storek h b (0 + l.length * 1) (new.length * 1) new fun h'=>k (.slice b 0 (l.length + new.length) c 1) h')
      (loadk h b 0 (l.length * 1) fun old=>appk old new fun all=>freshk 1 (l.length + new.length) all h k))
    (h.getk b fun blk=>arrk blk fun g n t ro=>ifk (Nat.ble (0 + (l.length + new.length) * 1) (n * g))
      (storek h b (0 + l.length * 1) (new.length * 1) new fun h'=>k (.slice b 0 (l.length + new.length) c 1) h')
      (ifk ro .fail (ifk (Nat.beq g 1)
        (ifk (Nat.beq n l.length) (zk 0 (chopk 1 new.length l.length new t fun t'=>movek b 1 (l.length + new.length) t' h k) .fail)
          (loadk h b 0 (l.length * 1) fun old=>appk old new fun all=>rowk 1 (l.length + new.length) all fun t'=>movek b 1 (l.length + new.length) t' h k))
        (ifk (Nat.beq g 1) .fail (loadk h b 0 (l.length * 1) fun old=>appk old new fun all=>rowk 1 (l.length + new.length) all fun t'=>movek b 1 (l.length + new.length) t' h k))))):=by
    intro k
    show ifk (Nat.beq 1 1) (ifk (Nat.ble (l.length + new.length) 16777216) _ .fail) .fail = _
    rw [show Nat.beq 1 1 = true from rfl,ifk_true,ble_of hs,ifk_true]
    rfl
   have sto : new = []→∃ h' v',(∀ k : V→Heap→Res,storek h b (0 + l.length * 1) (new.length * 1) new (fun h'=>k (.slice b 0 (l.length + new.length) c 1) h') = k v' h')∧Own h' lo v' (l ++ new)∧UpTo lo h h':=by
    rintro rfl
    obtain ⟨h',h1,h2,h3⟩:=storek_law row (vs:=[]) (o:=0 + l.length * 1) (n:=0 * 1) rfl (by omega)
    refine ⟨h',.slice b 0 (l.length + 0) c 1,fun k=>h1 _,?_,⟨by rw [h3.nx]; exact Nat.le_refl _,fun b' hb'=>h3.get b' (by rintro rfl; omega)⟩⟩
    rw [List.append_nil]
    exact .sl b c l blo (by rw [h3.nx]; exact bhi) (row_ext h2 (by simp [splice])) cap
   cases c with
   | some n=>
     have hn:=cap n rfl
     subst hn
     cases new with
     | nil=>
       obtain ⟨h',v',h1,h2⟩:=sto rfl
       refine ⟨h',v',fun k=>?_,h2⟩
       rw [unf,optk_some,ble_of (by simp),ifk_true]
       exact h1 k
     | cons x new=>
       obtain ⟨h',h1,h2,h3⟩:=freshk_law (l:=l ++ x :: new) h
       rw [List.length_append] at h1
       refine ⟨h',.slice h.nx 0 (l.length + (x :: new).length) none 1,fun k=>?_,?_,h3.up.to hlo⟩
       · rw [unf,optk_some,ble_not (by simp),ifk_false,loadk_law row (by omega),appk_eq]
         have e : (l.drop 0).take (l.length * 1) ++ x :: new = l ++ x :: new:=by simp
         rw [e]
         exact h1 k
       · have:=Own.sl (h:=h') (lo:=lo) h.nx none (l ++ x :: new) hlo h3.lt h2 (fun n e=>by cases e)
         rwa [List.length_append] at this
   | none=>
     obtain ⟨n,t,g1,g2,g3,g4⟩:=row.is
     have hnl : n = l.length:=by omega
     subst hnl
     cases new with
     | nil=>
       obtain ⟨h',v',h1,h2⟩:=sto rfl
       refine ⟨h',v',fun k=>?_,h2⟩
       rw [unf,optk_none,Heap.getk_eq,g1]
       show (ifk (Nat.ble (0 + (l.length + ([] : List V).length) * 1) (l.length * 1)) _ _) = _
       rw [ble_of (by simp),ifk_true]
       exact h1 k
     | cons x new=>
       obtain ⟨t',h1,h2,h3⟩:=chopk_law (g:=1) (by omega) g2 (l:=x :: new) (m:=(x :: new).length) (by omega)
       have hr : Row (.arr 1 (l ++ x :: new).length t' false) 1 (l ++ x :: new):=by
        refine ⟨_,_,rfl,by rw [List.length_append]; exact h2,by omega,fun i=>?_⟩
        rw [h3]
        by_cases hi : l.length * 1 ≤ i
        · rw [if_pos hi,List.getElem?_append_right (by omega),Nat.mul_one]
        · rw [if_neg hi,g4,List.getElem?_append_left (by omega)]
       obtain ⟨h',h4,h5,h6,h7⟩:=movek_law (b:=b) h hr
       rw [List.length_append] at h4
       refine ⟨h',.slice h.nx 0 (l.length + (x :: new).length) none 1,fun k=>?_,?_,⟨by rw [h6,Bid.nxt_val]; omega,fun b' hb'=>h7 b' (by rintro rfl; omega) (by rintro rfl; omega)⟩⟩
       · rw [unf,optk_none,Heap.getk_eq,g1]
         show (ifk (Nat.ble (0 + (l.length + (x :: new).length) * 1) (l.length * 1)) _ _) = _
         rw [ble_not (by simp),ifk_false,ifk_false,show Nat.beq 1 1 = true from rfl,ifk_true,Nat.beq_refl,ifk_true,zk_zero]
         exact (h1 _).trans (h4 k)
       · have:=Own.sl (h:=h') (lo:=lo) h.nx none (l ++ x :: new) hlo (by rw [h6,Bid.nxt_val]; omega) h5 (fun n e=>by cases e)
         rwa [List.length_append] at this
theorem app_own {lo : Nat} {v u : V} {l new : List V} {h : Heap} (w : Own h lo v l) (x : IsS h u new) (hlo : lo ≤ h.nx.val) (hs : l.length + new.length ≤ 16777216) :
 ∃ h' v',(∀ k,words.app 1 v u h k = k v' h')∧Own h' lo v' (l ++ new)∧UpTo lo h h':=by
 obtain ⟨h',v',h1,h2⟩:=appendk_own w hlo hs
 refine ⟨h',v',fun k=>?_,h2⟩
 show srck 1 u h (fun m new=>appendk 1 v m new h k) = _
 rw [x.src]
 exact h1 k
end Go.Ev

/- EVALUATOR: data as trees: what lies in a memory, as deep as it goes. -/
namespace Go.Ev
inductive Tr where
 | i (k : IntKind) (n : Int)
 | s (l n : Nat)
 | b (x : Bool)
 | sl (g : Nat) (rows : List (List Tr))
mutual
def Tr.wt : Tr→Nat
 | .i _ _=>0
 | .s l _=>l
 | .b _=>0
 | .sl _ rows=>wtRows rows
def wtRow : List Tr→Nat
 | []=>0
 | t :: r=>t.wt + wtRow r
def wtRows : List (List Tr)→Nat
 | []=>0
 | r :: rs=>1 + wtRow r + wtRows rs
end
inductive CellA (h : Heap) (A : Nat→Prop) : Tr→V→Prop where
 | i (k : IntKind) (n : Int) : CellA h A (.i k n) (.int k n)
 | s (l n : Nat) (hn : n < 256 ^ l) : CellA h A (.s l n) (.str l n)
 | b (x : Bool) : CellA h A (.b x) (.bool x)
 | nils (g : Nat) : CellA h A (.sl g []) .nils
 | emp (g : Nat) : CellA h A (.sl g []) .emp
 | sl (g : Nat) (rows : List (List Tr)) (b : Bid) (o : Nat) (c : Option Nat) (op : Bool) (cs : List V) (hb : A b.val) (row : RowO op (h.t.get b) g cs) (fit : o + rows.length * g ≤ cs.length)
    (wid : ∀ r ∈ rows,r.length = g)
    (hs : ∀ (i : Nat) (r : List Tr) (j : Nat) (t : Tr) (v : V),rows[i]? = some r→r[j]? = some t→cs[o + i * g + j]? = some v→CellA h A t v) : CellA h A (.sl g rows) (.slice b o rows.length c g)
inductive RowA (h : Heap) (A : Nat→Prop) : List Tr→List V→Prop where
 | nil : RowA h A [] []
 | cons {t : Tr} {v : V} {r : List Tr} {l : List V} (ht : CellA h A t v) (hr : RowA h A r l) : RowA h A (t :: r) (v :: l)
abbrev CellR (h : Heap) (N : Nat):=CellA h (· < N)
abbrev RowR (h : Heap) (N : Nat):=RowA h (· < N)
theorem RowA.len {h : Heap} {A : Nat→Prop} {r : List Tr} {l : List V} (w : RowA h A r l) : l.length = r.length:=by
 induction w with
 | nil=>rfl
 | cons _ _ ih=>simp [ih]
theorem RowA.at_ {h : Heap} {A : Nat→Prop} {r : List Tr} {l : List V} (w : RowA h A r l) : ∀ {j : Nat} {t : Tr} {v : V},r[j]? = some t→l[j]? = some v→CellA h A t v:=by
 induction w with
 | nil=>intro j t v h; simp at h
 | cons ht _ ih=>
   intro j t v h1 h2
   cases j with
   | zero=>simp at h1 h2; subst h1; subst h2; exact ht
   | succ j=>exact ih (by simpa using h1) (by simpa using h2)
theorem RowA.of {h : Heap} {A : Nat→Prop} : ∀ {r : List Tr} {l : List V},r.length = l.length→(∀ (j : Nat) (t : Tr) (v : V),r[j]? = some t→l[j]? = some v→CellA h A t v)→RowA h A r l
 | [],[],_,_=>.nil
 | t :: r,v :: l,hl,w=>.cons (w 0 t v rfl rfl) (RowA.of (by simpa using hl) fun j t v h1 h2=>w (j + 1) t v (by simpa using h1) (by simpa using h2))
 | [],_ :: _,hl,_=>by simp at hl
 | _ :: _,[],hl,_=>by simp at hl
theorem CellA.mv {h h' : Heap} {A A' : Nat→Prop} (hA : ∀ b,A b→A' b) (u : ∀ b : Bid,A b.val→h'.t.get b = h.t.get b) {t : Tr} {v : V} (w : CellA h A t v) : CellA h' A' t v:=by
 induction w with
 | i k n=>exact .i k n
 | s l n hn=>exact .s l n hn
 | b x=>exact .b x
 | nils g=>exact .nils g
 | emp g=>exact .emp g
 | sl g rows b o c op cs hb row fit wid hs ih=>exact .sl g rows b o c op cs (hA _ hb) (by rw [u b hb]; exact row) fit wid fun i r j t v h1 h2 h3=>ih i r j t v h1 h2 h3
theorem RowA.mv {h h' : Heap} {A A' : Nat→Prop} (hA : ∀ b,A b→A' b) (u : ∀ b : Bid,A b.val→h'.t.get b = h.t.get b) {r : List Tr} {l : List V} (w : RowA h A r l) : RowA h' A' r l:=by
 induction w with
 | nil=>exact .nil
 | cons ht _ ih=>exact .cons (ht.mv hA u) ih
theorem CellA.up {h h' : Heap} {N N' : Nat} (hN : N ≤ N') (u : ∀ b : Bid,b.val < N→h'.t.get b = h.t.get b) {t : Tr} {v : V} (w : CellR h N t v) : CellR h' N' t v:=w.mv (fun _ hb=>Nat.lt_of_lt_of_le hb hN) u
theorem RowA.up {h h' : Heap} {N N' : Nat} (hN : N ≤ N') (u : ∀ b : Bid,b.val < N→h'.t.get b = h.t.get b) {r : List Tr} {l : List V} (w : RowR h N r l) : RowR h' N' r l:=w.mv (fun _ hb=>Nat.lt_of_lt_of_le hb hN) u
theorem CellA.to {h h' : Heap} {N : Nat} (hN : N ≤ h.nx.val) (u : Up h h') {t : Tr} {v : V} (w : CellR h N t v) : CellR h' N t v:=w.up (Nat.le_refl _) fun b hb=>u.get b (Nat.lt_of_lt_of_le hb hN)
theorem RowA.to {h h' : Heap} {N : Nat} (hN : N ≤ h.nx.val) (u : Up h h') {r : List Tr} {l : List V} (w : RowR h N r l) : RowR h' N r l:=w.up (Nat.le_refl _) fun b hb=>u.get b (Nat.lt_of_lt_of_le hb hN)
theorem CellA.lenk {h : Heap} {A : Nat→Prop} {g : Nat} {rows : List (List Tr)} {v : V} (w : CellA h A (.sl g rows) v) (k : Nat→Res) : lenk v k = k rows.length:=by cases w <;> rfl
theorem CellA.row {h : Heap} {A : Nat→Prop} {g : Nat} {rows : List (List Tr)} {v : V} (w : CellA h A (.sl g rows) v) {i : Nat} (hi : i < rows.length) :
 ∃ b o c l,v = .slice b o rows.length c g∧RowA h A rows[i] l∧l.length = g∧rows[i].length = g∧(∀ k,loadk h b (o + i * g) g k = k l)∧∀ (j : Nat) (x : V),l[j]? = some x→∀ k,load1k h b (o + i * g + j) k = k x:=by
 cases w with
 | nils=>simp at hi
 | emp=>simp at hi
 | sl _ _ b o c op cs hb row fit wid hs=>
   have hfit : o + i * g + g ≤ cs.length:=by
    have : (i + 1) * g ≤ rows.length * g:=Nat.mul_le_mul_right g hi
    rw [Nat.succ_mul] at this; omega
   have hw:=wid rows[i] (List.getElem_mem hi)
   have hl : ((cs.drop (o + i * g)).take g).length = g:=by simp; omega
   have hat : ∀ (j : Nat) (x : V),((cs.drop (o + i * g)).take g)[j]? = some x→cs[o + i * g + j]? = some x:=fun j x hx=>by
    have hj : j < g:=by have:=(List.getElem?_eq_some_iff.1 hx).1; omega
    rw [List.getElem?_take_of_lt hj,List.getElem?_drop] at hx
    exact hx
   refine ⟨b,o,c,(cs.drop (o + i * g)).take g,rfl,.of (by rw [hl,hw]) fun j t v h1 h2=>hs i rows[i] j t v (List.getElem?_eq_getElem hi) h1 (hat j v h2),hl,hw,fun k=>loadk_law row hfit k,fun j x hx k=>load1k_law row (hat j x hx) k⟩
theorem CellA.bid {h : Heap} {A : Nat→Prop} {t : Tr} {b : Bid} {o n g : Nat} {c : Option Nat} (w : CellA h A t (.slice b o n c g)) : A b.val:=by
 cases w with
 | sl _ _ _ _ _ _ _ hb=>exact hb
inductive IsE : List Tr→Prop where
 | mk (op : Int) (l n : Nat) (z : Int) (args : List (List Tr)) (p : Int) (ha : ∀ a ∈ args,IsE a) : IsE [.i .u8 op,.s l n,.i .i64 z,.sl 5 args,.i .i64 p]
inductive IsL : List Tr→Prop where
 | mk (op : Int) (l n : Nat) (args body : List (List Tr)) (p : Int) (ha : ∀ a ∈ args,IsE a) (hb : ∀ a ∈ body,IsL a) : IsL [.i .u8 op,.s l n,.sl 5 args,.sl 5 body,.i .i64 p]
inductive IsRu : List Tr→Prop where
 | mk (l n : Nat) (args body : List (List Tr)) (p : Int) (ha : ∀ a ∈ args,IsE a) (hb : ∀ a ∈ body,IsL a) : IsRu [.s l n,.sl 5 args,.sl 5 body,.i .i64 p]
inductive IsF : List Tr→Prop where
 | mk (l n l' n' : Nat) : IsF [.s l n,.s l' n']
inductive IsC : List Tr→Prop where
 | mk (l n : Nat) (fs : List (List Tr)) (hf : ∀ a ∈ fs,IsF a) : IsC [.s l n,.sl 2 fs]
inductive IsT : List Tr→Prop where
 | mk (kd : Int) (l n l' n' : Nat) (fs cs : List (List Tr)) (p : Int) (hf : ∀ a ∈ fs,IsF a) (hc : ∀ a ∈ cs,IsC a) : IsT [.i .u8 kd,.s l n,.s l' n',.sl 2 fs,.sl 2 cs,.i .i64 p]
inductive IsR : List Tr→Prop where
 | mk (l n : Nat) (fs : List (List Tr)) (x y z : Bool) (p : Int) (hf : ∀ a ∈ fs,IsF a) : IsR [.s l n,.sl 2 fs,.b x,.b y,.b z,.i .i64 p]
inductive IsX : List Tr→Prop where
 | mk (l n : Nat) : IsX [.s l n]
inductive IsI : List Tr→Prop where
 | mk (l n l' n' : Nat) (ts : List (List Tr)) (p : Int) (ht : ∀ a ∈ ts,IsX a) (lt : ts.length ≤ 1152921504606846976) : IsI [.s l n,.s l' n',.sl 1 ts,.i .i64 p]
inductive IsO : List Tr→Prop where
 | mk (l n : Nat) (p : Int) : IsO [.s l n,.i .i64 p]
mutual
inductive IsU : List Tr→Prop where
 | mk (ts rs us cs is os : List (List Tr)) (ht : ∀ a ∈ ts,IsT a) (hr : ∀ a ∈ rs,IsR a) (hu : ∀ a ∈ us,IsRu a) (hc : ∀ a ∈ cs,IsK a) (hi : ∀ a ∈ is,IsI a) (ho : ∀ a ∈ os,IsO a) :
   IsU [.sl 6 ts,.sl 6 rs,.sl 4 us,.sl 11 cs,.sl 4 is,.sl 2 os]
inductive IsK : List Tr→Prop where
 | mk (l n l' n' : Nat) (ps qs : List (List Tr)) (a b c d e f : Tr) (p : Int) (hp : ps.length ≤ 1152921504606846976) (hq : qs.length ≤ 1152921504606846976) (hu : IsU [a,b,c,d,e,f]) :
   IsK [.s l n,.sl 1 ps,.s l' n',.sl 1 qs,a,b,c,d,e,f,.i .i64 p]
end
end Go.Ev

/- InternBack, InternLoads: works(), run by the kernel, as a table entry; the calls of the other functions. -/
namespace Go.Ev.WIB
open Go.Proofs
set_option maxRecDepth 1000000
abbrev nx0 : Bid:=⟨0,.d0,.d0,.d0,.d0⟩
theorem nx0g : ∀ g,g < nx0.val→(gid g).val = g:=by decide
theorem worksR : yes (call tabA 1000000 300 f6 [] ⟨[],nx0⟩) = true:=by kernel_rfl
theorem worksY : Yes0 Try.prog 0 6 []:=yes0 tabAOk worksR nx0g fun _=>.nil
theorem enters6 : Enters Try.prog 6:=enters_of Try.func6 (by kernel_rfl) (by decide +kernel)
noncomputable def tabW : FT:=tabA.put f6 (.orc orcY)
theorem tabWOk : TabOk Try.prog 0 tabW:=tabAOk.put (fnok_Y enters6 worksY)
theorem worksC (n d : Nat) (h : Heap) : call tabW n (d + 1) f6 [] h = .ret (.bool true) h:=by kernel_rfl
theorem call4 (n d : Nat) (l : List V) (h : Heap) : call tabW n (d + 1) f4 l h = sh4 words n (call tabW n d) l h:=by kernel_rfl
theorem call5 (n d : Nat) (l : List V) (h : Heap) : call tabW n (d + 1) f5 l h = sh5 words n (call tabW n d) l h:=by kernel_rfl
theorem call8 (n d : Nat) (l : List V) (h : Heap) : call tabW n (d + 1) f8 l h = sh8 words n (call tabW n d) l h:=by kernel_rfl
theorem call12 (n d : Nat) (l : List V) (h : Heap) : call tabW n (d + 1) f12 l h = sh12 words n (call tabW n d) l h:=by kernel_rfl
theorem call13 (n d : Nat) (l : List V) (h : Heap) : call tabW n (d + 1) f13 l h = sh13 words n (call tabW n d) l h:=by kernel_rfl
theorem call14 (n d : Nat) (l : List V) (h : Heap) : call tabW n (d + 1) f14 l h = sh14 words n (call tabW n d) l h:=by kernel_rfl
theorem call15 (n d : Nat) (l : List V) (h : Heap) : call tabW n (d + 1) f15 l h = sh15 words n (call tabW n d) l h:=by kernel_rfl
theorem call16 (n d : Nat) (l : List V) (h : Heap) : call tabW n (d + 1) f16 l h = sh16 words n (call tabW n d) l h:=by kernel_rfl
theorem call17 (n d : Nat) (l : List V) (h : Heap) : call tabW n (d + 1) f17 l h = sh17 words n (call tabW n d) l h:=by kernel_rfl
theorem call19 (n d : Nat) (l : List V) (h : Heap) : call tabW n (d + 1) f19 l h = sh19 words n (call tabW n d) l h:=by kernel_rfl
theorem call23 (n d : Nat) (l : List V) (h : Heap) : call tabW n (d + 1) f23 l h = sh23 words n (call tabW n d) l h:=by kernel_rfl
theorem call25 (n d : Nat) (l : List V) (h : Heap) : call tabW n (d + 1) f25 l h = sh25 words n (call tabW n d) l h:=by kernel_rfl
theorem call26 (n d : Nat) (l : List V) (h : Heap) : call tabW n (d + 1) f26 l h = sh26 words n (call tabW n d) l h:=by kernel_rfl
theorem call27 (n d : Nat) (l : List V) (h : Heap) : call tabW n (d + 1) f27 l h = sh27 words n (call tabW n d) l h:=by kernel_rfl
theorem call28 (n d : Nat) (l : List V) (h : Heap) : call tabW n (d + 1) f28 l h = sh28 words n (call tabW n d) l h:=by kernel_rfl
theorem call29 (n d : Nat) (l : List V) (h : Heap) : call tabW n (d + 1) f29 l h = sh29 words n (call tabW n d) l h:=by kernel_rfl
theorem call30 (n d : Nat) (l : List V) (h : Heap) : call tabW n (d + 1) f30 l h = sh30 words n (call tabW n d) l h:=by kernel_rfl
theorem call31 (n d : Nat) (l : List V) (h : Heap) : call tabW n (d + 1) f31 l h = sh31 words n (call tabW n d) l h:=by kernel_rfl
theorem call32 (n d : Nat) (l : List V) (h : Heap) : call tabW n (d + 1) f32 l h = sh32 words n (call tabW n d) l h:=by kernel_rfl
theorem call33 (n d : Nat) (l : List V) (h : Heap) : call tabW n (d + 1) f33 l h = sh33 words n (call tabW n d) l h:=by kernel_rfl
theorem call34 (n d : Nat) (l : List V) (h : Heap) : call tabW n (d + 1) f34 l h = sh34 words n (call tabW n d) l h:=by kernel_rfl
theorem call35 (n d : Nat) (l : List V) (h : Heap) : call tabW n (d + 1) f35 l h = sh35 words n (call tabW n d) l h:=by kernel_rfl
theorem call36 (n d : Nat) (l : List V) (h : Heap) : call tabW n (d + 1) f36 l h = sh36 words n (call tabW n d) l h:=by kernel_rfl
theorem call37 (n d : Nat) (l : List V) (h : Heap) : call tabW n (d + 1) f37 l h = sh37 words n (call tabW n d) l h:=by kernel_rfl
theorem call38 (n d : Nat) (l : List V) (h : Heap) : call tabW n (d + 1) f38 l h = sh38 words n (call tabW n d) l h:=by kernel_rfl
theorem call39 (n d : Nat) (l : List V) (h : Heap) : call tabW n (d + 1) f39 l h = sh39 words n (call tabW n d) l h:=by kernel_rfl
theorem call40 (n d : Nat) (l : List V) (h : Heap) : call tabW n (d + 1) f40 l h = sh40 words n (call tabW n d) l h:=by kernel_rfl
theorem call41 (n d : Nat) (l : List V) (h : Heap) : call tabW n (d + 1) f41 l h = sh41 words n (call tabW n d) l h:=by kernel_rfl
theorem call42 (n d : Nat) (l : List V) (h : Heap) : call tabW n (d + 1) f42 l h = sh42 words n (call tabW n d) l h:=by kernel_rfl
theorem call44 (n d : Nat) (l : List V) (h : Heap) : call tabW n (d + 1) f44 l h = sh44 words n (call tabW n d) l h:=by kernel_rfl
theorem call45 (n d : Nat) (l : List V) (h : Heap) : call tabW n (d + 1) f45 l h = sh45 words n (call tabW n d) l h:=by kernel_rfl
theorem call46 (n d : Nat) (l : List V) (h : Heap) : call tabW n (d + 1) f46 l h = sh46 words n (call tabW n d) l h:=by kernel_rfl
theorem call47 (n d : Nat) (l : List V) (h : Heap) : call tabW n (d + 1) f47 l h = sh47 words n (call tabW n d) l h:=by kernel_rfl
theorem call48 (n d : Nat) (l : List V) (h : Heap) : call tabW n (d + 1) f48 l h = sh48 words n (call tabW n d) l h:=by kernel_rfl
theorem call49 (n d : Nat) (l : List V) (h : Heap) : call tabW n (d + 1) f49 l h = sh49 words n (call tabW n d) l h:=by kernel_rfl
theorem call50 (n d : Nat) (l : List V) (h : Heap) : call tabW n (d + 1) f50 l h = sh50 words n (call tabW n d) l h:=by kernel_rfl
theorem call51 (n d : Nat) (l : List V) (h : Heap) : call tabW n (d + 1) f51 l h = sh51 words n (call tabW n d) l h:=by kernel_rfl
theorem call52 (n d : Nat) (l : List V) (h : Heap) : call tabW n (d + 1) f52 l h = sh52 words n (call tabW n d) l h:=by kernel_rfl
theorem call53 (n d : Nat) (l : List V) (h : Heap) : call tabW n (d + 1) f53 l h = sh53 words n (call tabW n d) l h:=by kernel_rfl
theorem call54 (n d : Nat) (l : List V) (h : Heap) : call tabW n (d + 1) f54 l h = sh54 words n (call tabW n d) l h:=by kernel_rfl
theorem call59 (n d : Nat) (l : List V) (h : Heap) : call tabW n (d + 1) f59 l h = sh59 words n (call tabW n d) l h:=by kernel_rfl
theorem call60 (n d : Nat) (l : List V) (h : Heap) : call tabW n (d + 1) f60 l h = sh60 words n (call tabW n d) l h:=by kernel_rfl
theorem call61 (n d : Nat) (l : List V) (h : Heap) : call tabW n (d + 1) f61 l h = sh61 words n (call tabW n d) l h:=by kernel_rfl
theorem call62 (n d : Nat) (l : List V) (h : Heap) : call tabW n (d + 1) f62 l h = sh62 words n (call tabW n d) l h:=by kernel_rfl
theorem call63 (n d : Nat) (l : List V) (h : Heap) : call tabW n (d + 1) f63 l h = sh63 words n (call tabW n d) l h:=by kernel_rfl
end Go.Ev.WIB

/- EVALUATOR: the short words on values that are known: rules for simp. -/
namespace Go.Ev
theorem gd_true (h h' : Heap) (v : V) (k : V→Heap→Res) : gd true h (.ret v h') k = k v h':=rfl
theorem gd_false (h : Heap) (x : Res) (k : V→Heap→Res) : gd false h x k = k .skip h:=rfl
theorem an_true (b : Bool) (k : Bool→Res) : an true (.bool b) k = k b:=rfl
theorem an_false (v : V) (k : Bool→Res) : an false v k = k false:=rfl
theorem or_true' (v : V) (k : Bool→Res) : or' true v k = k true:=rfl
theorem or_false' (b : Bool) (k : Bool→Res) : or' false (.bool b) k = k b:=rfl
theorem lb_eq (b : Bool) (k : Bool→Res) : lb b k = k b:=rfl
theorem ak_true (x : Res) : ak true x = x:=rfl
theorem bf_ret (v : V) (h : Heap) (k : V→Res) : bf (.ret v h) k = k v:=rfl
theorem bh_ret (v : V) (h : Heap) (k : V→Heap→Res) : bh (.ret v h) k = k v h:=rfl
theorem bp_ret (v : V) (h : Heap) (k : V→Heap→Res) : bp (.ret v h) k = k v h:=rfl
theorem gr_skip (h : Heap) (x : Bool→Res) (k : V→Heap→Res) : gr .skip h x k = k .skip h:=rfl
theorem kno_refl (k : IntKind) : Nat.beq (kno k) (kno k) = true:=Nat.beq_refl _
theorem sMM_min (a b : Nat) (h : Heap) (k : V→Heap→Res) : sMM false (.int .i64 (.ofNat a)) (.int .i64 (.ofNat b)) h k = k (.int .i64 (.ofNat (min a b))) h:=by
 show ifk (Nat.beq (kno .i64) (kno .i64)) (ifk (ilt (.ofNat b) (.ofNat a)) (k (.int .i64 (.ofNat b)) h) (k (.int .i64 (.ofNat a)) h)) .fail = _
 rw [kno_refl,ifk_true,ilt_nat,ifk_eq]
 by_cases hab : b < a
 · rw [if_pos (by simpa using hab),Nat.min_eq_right (by omega)]
 · rw [if_neg (by simpa using hab),Nat.min_eq_left (by omega)]
theorem small_i64 {m : Nat} (h : m ≤ 4611686018427387904) : m ≤ kmax .i64:=Nat.le_trans h (by decide)
theorem ad_nat {a b : Nat} (h : a + b ≤ 4611686018427387904) : ad (.ofNat a) b = .ofNat (a + b):=wrapv_small .i64 (a + b) (small_i64 h)
theorem ai_nat {a b : Nat} (h : a + b ≤ 4611686018427387904) : ai (.ofNat a) (.ofNat b) = .ofNat (a + b):=wrapv_small .i64 (a + b) (small_i64 h)
theorem ilt_true {a b : Nat} (h : a < b) : ilt (.ofNat a) (.ofNat b) = true:=by rw [ilt_nat]; simpa using h
theorem ilt_false {a b : Nat} (h : ¬ a < b) : ilt (.ofNat a) (.ofNat b) = false:=by rw [ilt_nat]; simpa using h
theorem new_row (h : Heap) {g : Nat} {l : List V} (hl : l.length = g) (hg : 0 < g) : ∃ h',(∀ k,h.newk (.arr g 1 (.lf l) false) k = k h.nx h')∧Row (h'.t.get h.nx) g l∧Up h h'∧h.nx.val < h'.nx.val:=by
 obtain ⟨h',e,g1,w⟩:=newk_law h (.arr g 1 (.lf l) false)
 refine ⟨h',e,⟨1,.lf l,g1,⟨hg,.lf _,fun j ch hj=>?_⟩,by omega,fun i=>?_⟩,w.up,w.lt⟩
 · simp only [T.get] at hj
   split at hj
   · cases hj; exact hl
   · cases hj
 · simp only [T.cell,T.get]
   by_cases hi : i < g
   · rw [if_pos (Nat.div_eq_of_lt hi),Option.bind_some,Nat.mod_eq_of_lt hi]
   · rw [if_neg (by intro h0; rw [Nat.div_eq_zero_iff] at h0; omega),List.getElem?_eq_none (by omega)]; rfl
theorem Row.later {h h' : Heap} {b : Bid} {g : Nat} {l : List V} (r : Row (h.t.get b) g l) (hb : b.val < h.nx.val) (u : Up h h') : Row (h'.t.get b) g l:=by rw [u.get b hb]; exact r
theorem new_store (h : Heap) {g : Nat} {z l : List V} (hz : z.length = g) (hl : l.length = g) (hg : 0 < g) : ∃ h5 h6,(∀ q,h.newk (.arr g 1 (repT z 1 1) false) q = q h.nx h5)∧(∀ q : Heap→Res,storek h5 h.nx 0 g l q = q h6) ∧
 Row (h6.t.get h.nx) g l∧Up h h6∧h.nx.val < h6.nx.val:=by
 have e : repT z 1 1 = .lf z:=by rw [repT_eq]; rfl
 rw [e]
 obtain ⟨h5,e1,row,u,lt⟩:=new_row h hz hg
 obtain ⟨h6,e2,r2,b2⟩:=storek_law (o:=0) (n:=g) (vs:=l) row hl (by omega)
 refine ⟨h5,h6,e1,e2,row_ext r2 ?_,⟨by rw [b2.nx]; exact u.nx,fun b hb=>(b2.get b (by rintro rfl; omega)).trans (u.get b hb)⟩,by rw [b2.nx]; exact lt⟩
 simp only [splice,List.take_zero,List.nil_append]
 rw [List.drop_eq_nil_of_le (by omega),List.append_nil]
theorem veqk_str' (l n : Nat) (r : Res) : veqk (.str l n) (.str l n) r = r:=by
 show ifk (Nat.beq l l) (ifk (Nat.beq n n) r .fail) .fail = r
 simp only [Nat.beq_refl,ifk_true]
theorem oeq_refl (c : Option Nat) : oeq c c = true:=by
 cases c with
 | none=>rfl
 | some n=>exact Nat.beq_refl n
theorem CellA.veqk {h : Heap} {A : Nat→Prop} {t : Tr} {v : V} (w : CellA h A t v) (r : Res) : veqk v v r = r:=by
 cases w with
 | i k n=>
   show ifk (Nat.beq (kno k) (kno k)) (ifk (ieq n n) r .fail) .fail = r
   rw [Nat.beq_refl,ieq_eq]; simp
 | s l n hn=>exact veqk_str' l n r
 | b x=>cases x <;> rfl
 | nils g=>rfl
 | emp g=>rfl
 | sl g rows b o c=>
   show ifk (Nat.beq b.val b.val) (ifk (Nat.beq o o) (ifk (Nat.beq rows.length rows.length) (ifk (oeq c c) (ifk (Nat.beq g g) r .fail) .fail) .fail) .fail) .fail = r
   simp only [Nat.beq_refl,oeq_refl,ifk_true]
theorem parts_agg (n : Nat) (l : List V) (q : Nat→List V→Res) : partsk (.agg n l) q = q n l:=rfl
theorem parts_str (a b : Nat) (q : Nat→List V→Res) : partsk (.str a b) q = q 1 [.str a b]:=rfl
theorem parts_nils (q : Nat→List V→Res) : partsk .nils q = q 1 [.nils]:=rfl
theorem parts_slice (b : Bid) (o l : Nat) (c : Option Nat) (s : Nat) (q : Nat→List V→Res) : partsk (.slice b o l c s) q = q 1 [.slice b o l c s]:=rfl
theorem zk1 (x y : Res) : zk 1 x y = y:=rfl
theorem zk2 (x y : Res) : zk 2 x y = y:=rfl
theorem zk3 (x y : Res) : zk 3 x y = y:=rfl
theorem zk4 (x y : Res) : zk 4 x y = y:=rfl
theorem zk5 (x y : Res) : zk 5 x y = y:=rfl
theorem zk6 (x y : Res) : zk 6 x y = y:=rfl
theorem onek_str (a b : Nat) (r : Res) : onek (.str a b) r = r:=rfl
theorem onek_int (k : IntKind) (n : Int) (r : Res) : onek (.int k n) r = r:=rfl
theorem onek_nils (r : Res) : onek .nils r = r:=rfl
theorem onek_slice (b : Bid) (o l : Nat) (c : Option Nat) (s : Nat) (r : Res) : onek (.slice b o l c s) r = r:=rfl
theorem onek_ptr (b : Bid) (o : Nat) (r : Res) : onek (.ptr b o) r = r:=rfl
theorem onek_bool (b : Bool) (r : Res) : onek (.bool b) r = r:=rfl
theorem CellA.onek {h : Heap} {A : Nat→Prop} {t : Tr} {v : V} (w : CellA h A t v) (r : Res) : onek v r = r:=by cases w <;> rfl
theorem CellA.parts {h : Heap} {A : Nat→Prop} {t : Tr} {v : V} (w : CellA h A t v) (q : Nat→List V→Res) : partsk v q = q 1 [v]:=by cases w <;> rfl
theorem veqk_ptr' (p : Bid) (o : Nat) (r : Res) : veqk (.ptr p o) (.ptr p o) r = r:=by
 show ifk (Nat.beq p.val p.val) (ifk (Nat.beq o o) r .fail) .fail = r
 simp only [Nat.beq_refl,ifk_true]
theorem veqk_int' (k : IntKind) (n : Int) (r : Res) : veqk (.int k n) (.int k n) r = r:=by
 show ifk (Nat.beq (kno k) (kno k)) (ifk (ieq n n) r .fail) .fail = r
 rw [Nat.beq_refl,ieq_eq]; simp
theorem seq_self (l n : Nat) : seq l n l n = true:=by
 show Bool.rec (motive:=fun _=>Bool) false (Nat.beq n n) (Nat.beq l l) = true
 rw [Nat.beq_refl,Nat.beq_refl]
theorem seq_law (l n l' m : Nat) : seq l n l' m = decide (l = l'∧n = m):=by
 show Bool.rec (motive:=fun _=>Bool) false (Nat.beq n m) (Nat.beq l l') = _
 by_cases h2 : l = l'
 · rw [beq_of h2]
   by_cases h1 : n = m
   · rw [beq_of h1]; simp [h1,h2]
   · rw [beq_not h1]; simp [h1]
 · rw [beq_not h2]; simp [h2]
theorem ieq_self (n : Int) : ieq n n = true:=by rw [ieq_eq]; simp
theorem appk_nil (m : List V) (k : List V→Res) : appk [] m k = k m:=rfl
theorem appk_cons (v : V) (l m : List V) (k : List V→Res) : appk (v :: l) m k = appk l m fun q=>k (v :: q):=rfl
theorem takek1 (v : V) (l : List V) (k : List V→List V→Res) : takek 1 (v :: l) k = k [v] l:=rfl
theorem takek2 (v u : V) (l : List V) (k : List V→List V→Res) : takek 2 (v :: u :: l) k = k [v,u] l:=rfl
theorem row_one {g : Nat} {l : List V} (hl : l.length = g) (k : T→Res) : words.row g 1 l k = k (.lf l):=by
 show takek g l (fun _ rest=>List.rec (motive:=fun _=>Res) (k (.lf l)) (fun _ _ _=>.fail) rest) = _
 rw [takek_eq (by omega)]
 have : l.drop g = []:=List.drop_of_length_le (by omega)
 rw [this]
theorem backk_gw_false (h : Heap) (x : Res) (k kp : V→Heap→Res) : backk (ifk false x (.ret .skip h)) k kp = k .skip h:=rfl
theorem veqk_self (v : V) : ∀ r,veqk v v r = r:=by
 refine V.rec (motive_1:=fun v=>∀ r,veqk v v r = r) (motive_2:=fun l=>∀ r,veqsk l l r = r) (fun _=>rfl) (fun _=>rfl) ?_ ?_ ?_ (fun _=>rfl) ?_ (fun _=>rfl) ?_ (fun _=>rfl) (fun _=>rfl) ?_ (fun _=>rfl) ?_ (fun _=>rfl) ?_ ?_ ?_ (fun _=>rfl) ?_ v
 · intro b r; cases b <;> rfl
 · intro k n r; exact veqk_int' k n r
 · intro l n r; exact veqk_str' l n r
 · intro b o r; exact veqk_ptr' b o r
 · intro b o l c s r
   show ifk (Nat.beq b.val b.val) (ifk (Nat.beq o o) (ifk (Nat.beq l l) (ifk (oeq c c) (ifk (Nat.beq s s) r .fail) .fail) .fail) .fail) .fail = r
   simp only [Nat.beq_refl,oeq_refl,ifk_true]
 · intro b r
   show ifk (Nat.beq b.val b.val) r .fail = r
   rw [Nat.beq_refl]; rfl
 · intro f l ih r
   have e : veqk (.func f l) (.func f l) r = ifk (Nat.beq f f) (veqsk l l r) .fail:=by rw [← veqsk_eq]; rfl
   rw [e,Nat.beq_refl,ifk_true,ih]
 · intro t v ih r
   show ifk (Nat.beq t t) (veqk v v r) .fail = r
   rw [Nat.beq_refl,ifk_true,ih]
 · intro n l ih r
   have e : veqk (.agg n l) (.agg n l) r = ifk (Nat.beq n n) (veqsk l l r) .fail:=by rw [← veqsk_eq]; rfl
   rw [e,Nat.beq_refl,ifk_true,ih]
 · intro l ih r
   have e : veqk (.tup l) (.tup l) r = veqsk l l r:=by rw [← veqsk_eq]; rfl
   rw [e,ih]
 · intro v l ih1 ih2 r
   show veqk v v (veqsk l l r) = r
   rw [ih1,ih2]
theorem beqk_self (b : Bool) : beqk b b = true:=by cases b <;> rfl
theorem Up.ld {h h' : Heap} (u : Up h h') {b : Bid} (hb : b.val < h.nx.val) {o : Nat} (k : V→Res) : load1k h' b o k = load1k h b o k:=by
 unfold load1k
 rw [Heap.getk_eq,Heap.getk_eq,u.get b hb]
@[congr] theorem bf_cg (k : V→Res) {x x' : Res} (e : x = x') : bf  x k = bf  x' k:=by rw [e]
@[congr] theorem bh_cg (k : V→Heap→Res) {x x' : Res} (e : x = x') : bh  x k = bh  x' k:=by rw [e]
@[congr] theorem bp_cg (k : V→Heap→Res) {x x' : Res} (e : x = x') : bp  x k = bp  x' k:=by rw [e]
@[congr] theorem backk_cg (k : V→Heap→Res) (kp : V→Heap→Res) {x x' : Res} (e : x = x') : backk  x k kp = backk  x' k kp:=by rw [e]
@[congr] theorem contk_cg (k : Ex→List V→Heap→Res) {x x' : Res} (e : x = x') : contk  x k = contk  x' k:=by rw [e]
@[congr] theorem ifk_cg (a : Res) (b : Res) {x x' : Bool} (e : x = x') : ifk  x a b = ifk  x' a b:=by rw [e]
@[congr] theorem ak_cg (a : Res) {x x' : Bool} (e : x = x') : ak  x a = ak  x' a:=by rw [e]
@[congr] theorem gd_cg (h : Heap) (a : Res) (k : V→Heap→Res) {x x' : Bool} (e : x = x') : gd  x h a k = gd  x' h a k:=by rw [e]
@[congr] theorem an_cg (v : V) (k : Bool→Res) {x x' : Bool} (e : x = x') : an  x v k = an  x' v k:=by rw [e]
@[congr] theorem or__cg (v : V) (k : Bool→Res) {x x' : Bool} (e : x = x') : or'  x v k = or'  x' v k:=by rw [e]
@[congr] theorem natk_cg (k : Nat→Res) {x x' : Int} (e : x = x') : natk  x k = natk  x' k:=by rw [e]
@[congr] theorem words_store_cg (h : Heap) (p : Bid) (g : Nat) (k : Heap→Res) {x x' : Nat} {l l' : List V} (e : x = x') (e2 : l = l') : words.store h p x g l k = words.store h p x' g l' k:=by rw [e,e2]
@[congr] theorem words_new_cg (h : Heap) (k : Bid→Heap→Res) {x x' : Blk} (e : x = x') : words.new h x k = words.new h x' k:=by rw [e]
end Go.Ev

/- EVALUATOR: slices of rows that nobody else holds: one row more. -/
namespace Go.Ev
def Off (v : V) (x : Nat) : Prop:=∀ b o l c s,v = .slice b o l c s→b.val ≠ x
structure UpBut (v : V) (h h' : Heap) : Prop where
 nx : h.nx.val ≤ h'.nx.val
 get : ∀ b : Bid,b.val < h.nx.val→Off v b.val→h'.t.get b = h.t.get b
inductive OwnT (h : Heap) (lo g : Nat) : V→List (List Tr)→Prop where
 | nils : OwnT h lo g .nils []
 | sl (b : Bid) (rows : List (List Tr)) (cells : List V) (blo : lo ≤ b.val) (bhi : b.val < h.nx.val) (row : Row (h.t.get b) g cells) (len : cells.length = rows.length * g) (wid : ∀ r ∈ rows,r.length = g)
    (hs : ∀ (i : Nat) (r : List Tr) (j : Nat) (t : Tr) (v : V),rows[i]? = some r→r[j]? = some t→cells[i * g + j]? = some v→CellA h (fun x=>lo ≤ x∧x < b.val) t v) : OwnT h lo g (.slice b 0 rows.length none g) rows
theorem OwnT.cell {h : Heap} {lo g : Nat} {v : V} {rows : List (List Tr)} (w : OwnT h lo g v rows) : CellA h (fun x=>lo ≤ x∧x < h.nx.val) (.sl g rows) v:=by
 cases w with
 | nils=>exact .nils g
 | sl b _ cells blo bhi row len wid hs=>
   refine .sl g rows b 0 none false cells ⟨blo,bhi⟩ row (by omega) wid fun i r j t v h1 h2 h3=>?_
   rw [Nat.zero_add] at h3
   exact (hs i r j t v h1 h2 h3).mv (fun x hx=>⟨hx.1,by omega⟩) fun _ _=>rfl
theorem OwnT.mono {h : Heap} {lo lo' g : Nat} {v : V} {rows : List (List Tr)} (w : OwnT h lo g v rows) (hl : lo' ≤ lo) : OwnT h lo' g v rows:=by
 cases w with
 | nils=>exact .nils
 | sl b _ cells blo bhi row len wid hs=>exact .sl b rows cells (by omega) bhi row len wid fun i r j t v h1 h2 h3=>(hs i r j t v h1 h2 h3).mv (fun x hx=>⟨by omega,hx.2⟩) fun _ _=>rfl
theorem OwnT.keep {h h' : Heap} {lo g : Nat} {v : V} {rows : List (List Tr)} (w : OwnT h lo g v rows) (hn : h.nx.val ≤ h'.nx.val) (u : ∀ b : Bid,lo ≤ b.val→b.val < h.nx.val→h'.t.get b = h.t.get b) : OwnT h' lo g v rows:=by
 cases w with
 | nils=>exact .nils
 | sl b _ cells blo bhi row len wid hs=>exact .sl b rows cells blo (by omega) (by rw [u b blo bhi]; exact row) len wid fun i r j t v h1 h2 h3=>(hs i r j t v h1 h2 h3).mv (fun _ hx=>hx) fun b' hb'=>u b' hb'.1 (by omega)
theorem OwnT.up {h h' : Heap} {lo g : Nat} {v : V} {rows : List (List Tr)} (w : OwnT h lo g v rows) (u : Up h h') : OwnT h' lo g v rows:=w.keep u.nx fun b _ hb=>u.get b hb
theorem OwnT.lenk {h : Heap} {lo g : Nat} {v : V} {rows : List (List Tr)} (w : OwnT h lo g v rows) (k : Nat→Res) : Go.Ev.lenk v k = k rows.length:=by cases w <;> rfl
theorem OwnT.onek {h : Heap} {lo g : Nat} {v : V} {rows : List (List Tr)} (w : OwnT h lo g v rows) (r : Res) : Go.Ev.onek v r = r:=by cases w <;> rfl
theorem OwnT.low {h : Heap} {lo g : Nat} {v : V} {rows : List (List Tr)} (w : OwnT h lo g v rows) {x : Nat} (hx : x < lo ∨ h.nx.val ≤ x) : Off v x:=by
 intro b o l c s e
 cases w with
 | nils=>cases e
 | sl b' _ cells blo bhi=>cases e; omega
theorem fresh_rows {g n : Nat} (hg : 0 < g) {l : List V} (hl : l.length = n * g) (h : Heap) : ∃ h',(∀ k : V→Heap→Res,freshk g n l h k = k (.slice h.nx 0 n none g) h')∧Row (h'.t.get h.nx) g l∧New h h':=by
 obtain ⟨t,h1,h2⟩:=rowk_law hg hl
 obtain ⟨h',h3,h4,h5⟩:=newk_law h (.arr g n t false)
 exact ⟨h',fun k=>by unfold freshk; rw [h1,h3],by rw [h4]; exact h2,h5⟩
theorem move_rows {b : Bid} {g n : Nat} {l : List V} {t : T} (h : Heap) (ht : Row (.arr g n t false) g l) :
 ∃ h',(∀ k : V→Heap→Res,movek b g n t h k = k (.slice h.nx 0 n none g) h')∧Row (h'.t.get h.nx) g l∧h'.nx = h.nx.nxt∧∀ b',b' ≠ b→b' ≠ h.nx→h'.t.get b' = h.t.get b':=by
 obtain ⟨h',h3,h4,h5⟩:=newk_law (h.turn b .none) (.arr g n t false)
 refine ⟨h',fun k=>by unfold movek; rw [Heap.turnk_eq,h3]; rfl,?_,h5.nx,fun b' h6 h7=>?_⟩
 · rw [show h.nx = (h.turn b .none).nx from rfl,h4]; exact ht
 · rw [h5.get b' h7]; exact HT.get_set_ne _ h6 _
theorem bid_ne {a b : Bid} (h : a.val ≠ b.val) : a ≠ b:=fun e=>h (by rw [e])
theorem app_one {h : Heap} {lo g : Nat} {v : V} {rows : List (List Tr)} {p : Bid} {r : List Tr} {cells : List V} (w : OwnT h lo g v rows) (hg : 0 < g) (hp : Row (h.t.get p) g cells) (hl : cells.length = g) (hr : r.length = g) (hlo : lo ≤ h.nx.val)
 (hc : RowA h (fun x=>lo ≤ x∧x < h.nx.val∧Off v x) r cells) (hs : rows.length < 16777216) :
 ∃ h' v',(∀ k,words.app g v (.slice p 0 1 (.some 1) g) h k = k v' h')∧OwnT h' lo g v' (rows ++ [r])∧UpBut v h h'∧h'.nx.val = h.nx.val + 1∧∃ l,v' = .slice h.nx 0 l none g:=by
 have src : ∀ k : Nat→List V→Res,srck g (.slice p 0 1 (.some 1) g) h k = k 1 cells:=fun k=>by
  show loadk h p 0 (1 * g) (fun cs=>k 1 cs) = _
  rw [loadk_law hp (by omega),List.drop_zero,List.take_of_length_le (by omega)]
 cases w with
 | nils=>
   obtain ⟨h',h1,h2,h3⟩:=fresh_rows (g:=g) (n:=1) hg (l:=cells) (by omega) h
   refine ⟨h',.slice h.nx 0 1 none g,fun k=>?_,.sl h.nx [r] cells hlo h3.lt h2 (by simp; omega) (by simpa using hr) ?_,⟨h3.up.nx,fun b hb _=>h3.up.get b hb⟩,by rw [h3.nx,Bid.nxt_val],1,rfl⟩
   · have e : sApp g .nils (.slice p 0 1 (.some 1) g) h k = srck g (.slice p 0 1 (.some 1) g) h fun m new=>appendk g .nils m new h k:=by
      show ifk (Nat.blt 1 g) _ _ = _
      rw [ifk_eq]
      split <;> rfl
     show sApp g .nils (.slice p 0 1 (.some 1) g) h k = _
     rw [e,src]
     exact h1 k
   · intro i r' j t v e1 e2 e3
     match i,e1 with
     | 0,e1=>
       cases e1
       rw [Nat.zero_mul,Nat.zero_add] at e3
       exact (hc.at_ e2 e3).mv (fun x hx=>⟨hx.1,hx.2.1⟩) fun b hb=>h3.up.get b hb.2.1
     | i + 1,e1=>simp at e1
 | sl b _ old blo bhi row len wid hs'=>
   obtain ⟨n,t,g1,g2,g3,g4⟩:=row.is
   have hnl : n = rows.length:=Nat.eq_of_mul_eq_mul_right hg (by omega)
   subst hnl
   obtain ⟨t',h1,h2,h3⟩:=chopk_law (g:=g) hg g2 (l:=cells) (m:=1) (by omega)
   have hrow : Row (.arr g (rows.length + 1) t' false) g (old ++ cells):=by
    refine ⟨_,_,rfl,h2,by rw [List.length_append,Nat.succ_mul]; omega,fun i=>?_⟩
    rw [h3]
    by_cases hi : rows.length * g ≤ i
    · rw [if_pos hi,List.getElem?_append_right (by omega),len]
    · rw [if_neg hi,g4,List.getElem?_append_left (by omega)]
   obtain ⟨h',h4,h5,h6,h7⟩:=move_rows (b:=b) h hrow
   have hoff : ∀ x,Off (.slice b 0 rows.length none g) x ↔ x ≠ b.val:=fun x=>⟨fun o e=>o b 0 rows.length none g rfl e.symm,fun hx b' o l c s e=>by cases e; exact fun e=>hx e.symm⟩
   have hget : ∀ b' : Bid,b'.val < h.nx.val→b'.val ≠ b.val→h'.t.get b' = h.t.get b':=fun b' hb1 hb2=>h7 b' (bid_ne hb2) (bid_ne (by omega))
   have hnx : h'.nx.val = h.nx.val + 1:=by rw [h6,Bid.nxt_val]
   refine ⟨h',.slice h.nx 0 (rows.length + 1) none g,fun k=>?_,?_,⟨by omega,fun b' hb1 hb2=>hget b' hb1 ((hoff _).1 hb2)⟩,hnx,_,rfl⟩
   · have e : sApp g (.slice b 0 rows.length none g) (.slice p 0 1 (.some 1) g) h k = srck g (.slice p 0 1 (.some 1) g) h fun m new=>appendk g (.slice b 0 rows.length none g) m new h k:=by
      show ifk (Nat.blt 1 g) (ifk (and (Nat.beq 0 0) (and (Nat.beq rows.length 0) (and (Nat.beq 0 0) (and (Nat.blt 16 1) (and (Nat.beq g g) (Nat.ble 1 16777216)))))) _ _) _ = _
      have : (and (Nat.beq 0 0) (and (Nat.beq rows.length 0) (and (Nat.beq 0 0) (and (Nat.blt 16 1) (and (Nat.beq g g) (Nat.ble 1 16777216)))))) = false:=by cases Nat.beq rows.length 0 <;> rfl
      rw [this,ifk_false,ifk_eq]
      split <;> rfl
     show sApp g (.slice b 0 rows.length none g) (.slice p 0 1 (.some 1) g) h k = _
     rw [e,src]
     show ifk (Nat.beq g g) (ifk (Nat.ble (rows.length + 1) 16777216) (h.getk b fun blk=>arrk blk fun g' n t ro=>ifk (Nat.ble (0 + (rows.length + 1) * g) (n * g'))
      (storek h b (0 + rows.length * g) (1 * g) cells fun h'=>k (.slice b 0 (rows.length + 1) none g) h')
      (ifk ro .fail (ifk (Nat.beq g' g)
        (ifk (Nat.beq n rows.length) (zk 0 (chopk g 1 rows.length cells t fun t'=>movek b g (rows.length + 1) t' h k) .fail)
          (loadk h b 0 (rows.length * g) fun old=>appk old cells fun all=>rowk g (rows.length + 1) all fun t'=>movek b g (rows.length + 1) t' h k))
        (ifk (Nat.beq g' 1) .fail (loadk h b 0 (rows.length * g) fun old=>appk old cells fun all=>rowk g (rows.length + 1) all fun t'=>movek b g (rows.length + 1) t' h k))))) .fail) .fail = _
     rw [Nat.beq_refl,ifk_true,ble_of (by omega),ifk_true,Heap.getk_eq,g1]
     show (ifk (Nat.ble (0 + (rows.length + 1) * g) (rows.length * g)) _ _) = _
     rw [ble_not (by rw [Nat.succ_mul]; omega),ifk_false,ifk_false,Nat.beq_refl,ifk_true,Nat.beq_refl,ifk_true,zk_zero]
     exact (h1 _).trans (h4 k)
   · have:=OwnT.sl (h:=h') (lo:=lo) (g:=g) h.nx (rows ++ [r]) (old ++ cells) hlo (by omega) h5 (by rw [List.length_append,List.length_append,len]; simp [Nat.succ_mul]; omega) (by
      intro x hx
      rcases List.mem_append.1 hx with hx | hx
      · exact wid x hx
      · simp at hx; subst hx; exact hr) (by
      intro i r' j t v e1 e2 e3
      by_cases hi : i < rows.length
      · rw [List.getElem?_append_left hi] at e1
        have hj : j < g:=by
         have:=wid r' (List.mem_of_getElem? e1)
         have:=(List.getElem?_eq_some_iff.1 e2).1
         omega
        have hlt : i * g + j < old.length:=by
         have : (i + 1) * g ≤ rows.length * g:=Nat.mul_le_mul_right g hi
         rw [Nat.succ_mul] at this; omega
        rw [List.getElem?_append_left hlt] at e3
        exact (hs' i r' j t v e1 e2 e3).mv (fun x hx=>⟨hx.1,by omega⟩) fun b' hb'=>hget b' (by omega) (by omega)
      · have hi' : i = rows.length:=by
         have:=(List.getElem?_eq_some_iff.1 e1).1
         simp at this; omega
        subst hi'
        rw [List.getElem?_append_right (by omega),Nat.sub_self] at e1
        cases e1
        rw [List.getElem?_append_right (by omega),show rows.length * g + j - old.length = j by omega] at e3
        exact (hc.at_ e2 e3).mv (fun x hx=>⟨hx.1,hx.2.1⟩) fun b' hb'=>hget b' hb'.2.1 ((hoff _).1 hb'.2.2))
     simpa using this
def Apart (v u : V) : Prop:=∀ x,Off v x ∨ Off u x
theorem Apart.symm {v u : V} (h : Apart v u) : Apart u v:=fun x=>(h x).symm
theorem off_slice {b : Bid} {o l : Nat} {c : Option Nat} {s x : Nat} : Off (.slice b o l c s) x ↔ b.val ≠ x:=⟨fun h=>h b o l c s rfl,fun h b' o' l' c' s' e=>by cases e; exact h⟩
theorem off_nils (x : Nat) : Off .nils x:=fun _ _ _ _ _ e=>by cases e
theorem OwnT.fresh {h : Heap} {lo g : Nat} {v : V} {rows : List (List Tr)} (w : OwnT h lo g v rows) {b : Bid} {o l : Nat} {c : Option Nat} {s : Nat} (hb : h.nx.val ≤ b.val) : Apart (.slice b o l c s) v:=fun x=>by
 by_cases hx : b.val = x
 · exact .inr (w.low (.inr (by omega)))
 · exact .inl (off_slice.2 hx)
theorem OwnT.but {h h' : Heap} {lo g : Nat} {v u : V} {rows : List (List Tr)} (w : OwnT h lo g v rows) (U : UpBut u h h') (ap : Apart u v) (hc : ∀ r ∈ rows,∀ t ∈ r,∃ a a',t = .s a a') : OwnT h' lo g v rows:=by
 cases w with
 | nils=>exact .nils
 | sl b _ cells blo bhi row len wid hs=>
   have hb : h'.t.get b = h.t.get b:=U.get b bhi ((ap b.val).resolve_right fun o=>off_slice.1 o rfl)
   refine .sl b rows cells blo (Nat.lt_of_lt_of_le bhi U.nx) (by rw [hb]; exact row) len wid fun i r j t v h1 h2 h3=>?_
   have w:=hs i r j t v h1 h2 h3
   obtain ⟨a,a',rfl⟩:=hc r (List.mem_of_getElem? h1) t (List.mem_of_getElem? h2)
   cases w with
   | s _ _ hn=>exact .s _ _ hn
structure Old (lo : Nat) (s : Bid) (h h' : Heap) : Prop where
 nx : h.nx.val ≤ h'.nx.val
 get : ∀ b : Bid,b.val < lo→b ≠ s→h'.t.get b = h.t.get b
theorem Old.refl (lo : Nat) (s : Bid) (h : Heap) : Old lo s h h:=⟨Nat.le_refl _,fun _ _ _=>rfl⟩
theorem Old.trans {lo : Nat} {s : Bid} {h h' h'' : Heap} (a : Old lo s h h') (b : Old lo s h' h'') : Old lo s h h'':=⟨Nat.le_trans a.nx b.nx,fun x hx hs=>(b.get x hx hs).trans (a.get x hx hs)⟩
theorem Up.old {lo : Nat} {s : Bid} {h h' : Heap} (u : Up h h') (hl : lo ≤ h.nx.val) : Old lo s h h':=⟨u.nx,fun b hb _=>u.get b (by omega)⟩
theorem CellA.old {h h' : Heap} {N lo : Nat} {s : Bid} {t : Tr} {v : V} (w : CellR h N t v) (o : Old lo s h h') (hN : N ≤ s.val) (hs : s.val < lo) : CellR h' N t v:=w.up (Nat.le_refl _) fun b hb=>o.get b (by omega) (bid_ne (by omega))
theorem bp_pan (v : V) (h : Heap) (k : V→Heap→Res) : bp (.pan v h) k = .pan v h:=rfl
theorem back1k_ret (v : V) (h : Heap) (k kp : V→Heap→Res) : back1k (.ret v h) k kp = k v h:=rfl
theorem iffk_iface (t : Nat) (v : V) (r : Res) : iffk (.iface t v) r = r:=rfl
theorem ink_iface (t : Nat) (v : V) (k : Bool→Res) : ink (.iface t v) k = k false:=rfl
theorem nthk0 (v : V) (l : List V) (k : V→Res) : nthk (v :: l) 0 k = k v:=rfl
theorem nthk1 (v u : V) (l : List V) (k : V→Res) : nthk (v :: u :: l) 1 k = k u:=rfl
theorem recapp (l m : List V) (k : List V→Res) : (List.rec (motive:=fun _=>(List V→((List V→Res)→Res))) (fun l3 l4=>l4 l3) (fun v1 _ l3 l4 l5=>l3 l4 fun l6=>l5 (.cons v1 l6)) l m k) = appk l m k:=rfl
theorem nork_pan (v : V) (a b : Res) : nork (.pan v) a b = b:=rfl
theorem exk_pan (i : Nat) (v : V) (a b : Res) : exk i (.pan v) a b = b:=rfl
theorem exk_normal (i : Nat) (a b : Res) : exk i .normal a b = b:=rfl
theorem exk_ret (i : Nat) (a b : Res) : exk i .ret a b = b:=rfl
theorem endk_pan (v : V) (a : Res) (p : V→Res) : endk (.pan v) a p = p v:=rfl
end Go.Ev

/- EVALUATOR: the short words' rules, as one. -/
namespace Go.Ev
theorem evR : type_of% (And.intro @lq.eq_1 (And.intro @uF.eq_1 (And.intro @uK.eq_1 (And.intro @zK.eq_1 (And.intro @u2.eq_1 (And.intro @u3.eq_1 (And.intro @z2.eq_1 (And.intro @z3.eq_1 (And.intro @zF.eq_1 (And.intro @zV.eq_1 (And.intro @zS.eq_1 (And.intro @uS.eq_1 (And.intro @uB.eq_1 (And.intro @zB.eq_1 (And.intro @zI.eq_1 (And.intro @uI.eq_1 (And.intro @I.eq_1 (And.intro @ik.eq_1 (And.intro @uk.eq_1 (And.intro @unc_cons (And.intro @castF_int (And.intro @castI_int (And.intro @castB_bool (And.intro @castS_str (And.intro @nilk'_nil (And.intro @pl.eq_1 (And.intro @pl0.eq_1 (And.intro @plS0.eq_1 (And.intro @plS.eq_1 (And.intro @plI0.eq_1 (And.intro @plI.eq_1 (And.intro @plB0.eq_1 (And.intro @plB.eq_1 (And.intro @fa.eq_1 (And.intro @lS.eq_1 (And.intro @lK.eq_1 (And.intro @lI.eq_1 (And.intro @lB.eq_1 (And.intro @cn.eq_1 (And.intro @ptrk_ptr (And.intro @lenk_slice (And.intro @lenk_nils (And.intro @lenk_emp (And.intro @lb_eq (And.intro @gd_true (And.intro @gd_false (And.intro @an_true (And.intro @an_false (And.intro @or_true' (And.intro @or_false' (And.intro @intk_int (And.intro @boolk_bool (And.intro @strk_str (And.intro @fnk_func (And.intro @aggk_agg (And.intro @tupk_tup (And.intro @kno_refl (And.intro @ak_true (And.intro @Bool.not_true (And.intro @Bool.not_false (And.intro @ifk_true (And.intro @ifk_false (And.intro @slk_slice (And.intro @slk_nils (And.intro @slk_emp (And.intro @natk_ofNat (And.intro @clI.eq_1 (And.intro @clK.eq_1 (And.intro @clB.eq_1 (And.intro @clS.eq_1 (And.intro @cl.eq_1 (And.intro @cl2.eq_1 (And.intro @cl3.eq_1 (And.intro @cv.eq_1 (And.intro @cvB.eq_1 (And.intro @backk_ret (And.intro @backk_pan (And.intro @back1k_ret (And.intro @iffk_iface (And.intro @ink_iface (And.intro @nthk0 (And.intro @nthk1 (And.intro @recapp (And.intro @contk_done (And.intro @nork_normal (And.intro @nork_ret (And.intro @nork_exit (And.intro @nork_pan (And.intro @exk_pan (And.intro @exk_normal (And.intro @exk_ret (And.intro @endk_normal (And.intro @endk_ret (And.intro @endk_pan (And.intro @bf_ret (And.intro @bh_ret (And.intro @bp_ret (And.intro @bp_pan (And.intro @gw.eq_1 (And.intro @gr_skip (And.intro @sMM_min (And.intro @Nat.beq_refl (And.intro @parts_agg (And.intro @parts_str (And.intro @parts_nils (And.intro @parts_slice (And.intro @zk1 (And.intro @zk2 (And.intro @zk3 (And.intro @zk4 (And.intro @zk5 (And.intro @zk6 (And.intro @onek_str (And.intro @onek_int (And.intro @onek_nils (And.intro @onek_slice (And.intro @onek_ptr (And.intro @onek_bool (And.intro @veqk_self (And.intro @appk_nil (And.intro @appk_cons (And.intro @takek1 (And.intro @takek2 (And.intro @backk_gw_false (And.intro @ne.eq_1 (And.intro @iq.eq_1 (And.intro @gr.eq_1 (And.intro @grdk_bool (And.intro @grdk_skip (And.intro @ieq_self (And.intro @seq_self @beqk_self))))))))))))))))))))))))))))))))))))))))))))))))))))))))))))))))))))))))))))))))))))))))))))))))))))))))))))))))))))))))))))))))))):=And.intro @lq.eq_1 (And.intro @uF.eq_1 (And.intro @uK.eq_1 (And.intro @zK.eq_1 (And.intro @u2.eq_1 (And.intro @u3.eq_1 (And.intro @z2.eq_1 (And.intro @z3.eq_1 (And.intro @zF.eq_1 (And.intro @zV.eq_1 (And.intro @zS.eq_1 (And.intro @uS.eq_1 (And.intro @uB.eq_1 (And.intro @zB.eq_1 (And.intro @zI.eq_1 (And.intro @uI.eq_1 (And.intro @I.eq_1 (And.intro @ik.eq_1 (And.intro @uk.eq_1 (And.intro @unc_cons (And.intro @castF_int (And.intro @castI_int (And.intro @castB_bool (And.intro @castS_str (And.intro @nilk'_nil (And.intro @pl.eq_1 (And.intro @pl0.eq_1 (And.intro @plS0.eq_1 (And.intro @plS.eq_1 (And.intro @plI0.eq_1 (And.intro @plI.eq_1 (And.intro @plB0.eq_1 (And.intro @plB.eq_1 (And.intro @fa.eq_1 (And.intro @lS.eq_1 (And.intro @lK.eq_1 (And.intro @lI.eq_1 (And.intro @lB.eq_1 (And.intro @cn.eq_1 (And.intro @ptrk_ptr (And.intro @lenk_slice (And.intro @lenk_nils (And.intro @lenk_emp (And.intro @lb_eq (And.intro @gd_true (And.intro @gd_false (And.intro @an_true (And.intro @an_false (And.intro @or_true' (And.intro @or_false' (And.intro @intk_int (And.intro @boolk_bool (And.intro @strk_str (And.intro @fnk_func (And.intro @aggk_agg (And.intro @tupk_tup (And.intro @kno_refl (And.intro @ak_true (And.intro @Bool.not_true (And.intro @Bool.not_false (And.intro @ifk_true (And.intro @ifk_false (And.intro @slk_slice (And.intro @slk_nils (And.intro @slk_emp (And.intro @natk_ofNat (And.intro @clI.eq_1 (And.intro @clK.eq_1 (And.intro @clB.eq_1 (And.intro @clS.eq_1 (And.intro @cl.eq_1 (And.intro @cl2.eq_1 (And.intro @cl3.eq_1 (And.intro @cv.eq_1 (And.intro @cvB.eq_1 (And.intro @backk_ret (And.intro @backk_pan (And.intro @back1k_ret (And.intro @iffk_iface (And.intro @ink_iface (And.intro @nthk0 (And.intro @nthk1 (And.intro @recapp (And.intro @contk_done (And.intro @nork_normal (And.intro @nork_ret (And.intro @nork_exit (And.intro @nork_pan (And.intro @exk_pan (And.intro @exk_normal (And.intro @exk_ret (And.intro @endk_normal (And.intro @endk_ret (And.intro @endk_pan (And.intro @bf_ret (And.intro @bh_ret (And.intro @bp_ret (And.intro @bp_pan (And.intro @gw.eq_1 (And.intro @gr_skip (And.intro @sMM_min (And.intro @Nat.beq_refl (And.intro @parts_agg (And.intro @parts_str (And.intro @parts_nils (And.intro @parts_slice (And.intro @zk1 (And.intro @zk2 (And.intro @zk3 (And.intro @zk4 (And.intro @zk5 (And.intro @zk6 (And.intro @onek_str (And.intro @onek_int (And.intro @onek_nils (And.intro @onek_slice (And.intro @onek_ptr (And.intro @onek_bool (And.intro @veqk_self (And.intro @appk_nil (And.intro @appk_cons (And.intro @takek1 (And.intro @takek2 (And.intro @backk_gw_false (And.intro @ne.eq_1 (And.intro @iq.eq_1 (And.intro @gr.eq_1 (And.intro @grdk_bool (And.intro @grdk_skip (And.intro @ieq_self (And.intro @seq_self @beqk_self))))))))))))))))))))))))))))))))))))))))))))))))))))))))))))))))))))))))))))))))))))))))))))))))))))))))))))))))))))))))))))))))))
end Go.Ev
