/- EvRules: texts joined. -/
import Derived.Test.YtdiepeopeefgpaaEvSimp2
/- EVALUATOR: slices of rows that nobody else holds: one row more. -/
namespace Go.Ev
def Off (v : V) (x : Nat) : Prop:=∀ b o l c s,v = .slice b o l c s→b.val ≠ x
structure UpBut (v : V) (h h' : Heap) : Prop where
 nx : h.nx.val ≤ h'.nx.val
 get : ∀ b : Bid,b.val < h.nx.val→Off v b.val→h'.t.get b = h.t.get b
inductive OwnT (h : Heap) (lo g : Nat) : V→List (List Tr)→Prop where
 | nils : OwnT h lo g .nils []
 | sl (b : Bid) (rows : List (List Tr)) (cells : List V) (blo : lo ≤ b.val) (bhi : b.val < h.nx.val) (row : Row (h.t.get b) g cells) (len : cells.length = rows.length * g) (wid : ∀ r ∈ rows,r.length = g)
    (hs : ∀ (i : Nat) (r : List Tr) (j : Nat) (t : Tr) (v : V),rows[i]? = some r→r[j]? = some t→cells[i * g + j]? = some v→CellA h (fun x=>lo ≤ x∧x < b.val) t v) : OwnT h lo g (.slice b 0 rows.length none g) rows
theorem OwnT.cell {h : Heap} {lo g : Nat} {v : V} {rows : List (List Tr)} (w : OwnT h lo g v rows) : CellA h (fun x=>lo ≤ x∧x < h.nx.val) (.sl g rows) v:=by
 cases w with
 | nils=>exact .nils g
 | sl b _ cells blo bhi row len wid hs=>
   refine .sl g rows b 0 none false cells ⟨blo,bhi⟩ row (by omega) wid fun i r j t v h1 h2 h3=>?_
   rw [Nat.zero_add] at h3
   exact (hs i r j t v h1 h2 h3).mv (fun x hx=>⟨hx.1,by omega⟩) fun _ _=>rfl
theorem OwnT.mono {h : Heap} {lo lo' g : Nat} {v : V} {rows : List (List Tr)} (w : OwnT h lo g v rows) (hl : lo' ≤ lo) : OwnT h lo' g v rows:=by
 cases w with
 | nils=>exact .nils
 | sl b _ cells blo bhi row len wid hs=>exact .sl b rows cells (by omega) bhi row len wid fun i r j t v h1 h2 h3=>(hs i r j t v h1 h2 h3).mv (fun x hx=>⟨by omega,hx.2⟩) fun _ _=>rfl
theorem OwnT.keep {h h' : Heap} {lo g : Nat} {v : V} {rows : List (List Tr)} (w : OwnT h lo g v rows) (hn : h.nx.val ≤ h'.nx.val) (u : ∀ b : Bid,lo ≤ b.val→b.val < h.nx.val→h'.t.get b = h.t.get b) : OwnT h' lo g v rows:=by
 cases w with
 | nils=>exact .nils
 | sl b _ cells blo bhi row len wid hs=>exact .sl b rows cells blo (by omega) (by rw [u b blo bhi]; exact row) len wid fun i r j t v h1 h2 h3=>(hs i r j t v h1 h2 h3).mv (fun _ hx=>hx) fun b' hb'=>u b' hb'.1 (by omega)
theorem OwnT.up {h h' : Heap} {lo g : Nat} {v : V} {rows : List (List Tr)} (w : OwnT h lo g v rows) (u : Up h h') : OwnT h' lo g v rows:=w.keep u.nx fun b _ hb=>u.get b hb
theorem OwnT.lenk {h : Heap} {lo g : Nat} {v : V} {rows : List (List Tr)} (w : OwnT h lo g v rows) (k : Nat→Res) : Go.Ev.lenk v k = k rows.length:=by cases w <;> rfl
theorem OwnT.onek {h : Heap} {lo g : Nat} {v : V} {rows : List (List Tr)} (w : OwnT h lo g v rows) (r : Res) : Go.Ev.onek v r = r:=by cases w <;> rfl
theorem OwnT.low {h : Heap} {lo g : Nat} {v : V} {rows : List (List Tr)} (w : OwnT h lo g v rows) {x : Nat} (hx : x < lo ∨ h.nx.val ≤ x) : Off v x:=by
 intro b o l c s e
 cases w with
 | nils=>cases e
 | sl b' _ cells blo bhi=>cases e; omega
theorem fresh_rows {g n : Nat} (hg : 0 < g) {l : List V} (hl : l.length = n * g) (h : Heap) : ∃ h',(∀ k : V→Heap→Res,freshk g n l h k = k (.slice h.nx 0 n none g) h')∧Row (h'.t.get h.nx) g l∧New h h':=by
 obtain ⟨t,h1,h2⟩:=rowk_law hg hl
 obtain ⟨h',h3,h4,h5⟩:=newk_law h (.arr g n t false)
 exact ⟨h',fun k=>by unfold freshk; rw [h1,h3],by rw [h4]; exact h2,h5⟩
theorem move_rows {b : Bid} {g n : Nat} {l : List V} {t : T} (h : Heap) (ht : Row (.arr g n t false) g l) :
 ∃ h',(∀ k : V→Heap→Res,movek b g n t h k = k (.slice h.nx 0 n none g) h')∧Row (h'.t.get h.nx) g l∧h'.nx = h.nx.nxt∧∀ b',b' ≠ b→b' ≠ h.nx→h'.t.get b' = h.t.get b':=by
 obtain ⟨h',h3,h4,h5⟩:=newk_law (h.turn b .none) (.arr g n t false)
 refine ⟨h',fun k=>by unfold movek; rw [Heap.turnk_eq,h3]; rfl,?_,h5.nx,fun b' h6 h7=>?_⟩
 · rw [show h.nx = (h.turn b .none).nx from rfl,h4]; exact ht
 · rw [h5.get b' h7]; exact HT.get_set_ne _ h6 _
theorem bid_ne {a b : Bid} (h : a.val ≠ b.val) : a ≠ b:=fun e=>h (by rw [e])
theorem app_one {h : Heap} {lo g : Nat} {v : V} {rows : List (List Tr)} {p : Bid} {r : List Tr} {cells : List V} (w : OwnT h lo g v rows) (hg : 0 < g) (hp : Row (h.t.get p) g cells) (hl : cells.length = g) (hr : r.length = g) (hlo : lo ≤ h.nx.val)
 (hc : RowA h (fun x=>lo ≤ x∧x < h.nx.val∧Off v x) r cells) (hs : rows.length < 16777216) :
 ∃ h' v',(∀ k,words.app g v (.slice p 0 1 (.some 1) g) h k = k v' h')∧OwnT h' lo g v' (rows ++ [r])∧UpBut v h h'∧h'.nx.val = h.nx.val + 1∧∃ l,v' = .slice h.nx 0 l none g:=by
 have src : ∀ k : Nat→List V→Res,srck g (.slice p 0 1 (.some 1) g) h k = k 1 cells:=fun k=>by
  show loadk h p 0 (1 * g) (fun cs=>k 1 cs) = _
  rw [loadk_law hp (by omega),List.drop_zero,List.take_of_length_le (by omega)]
 cases w with
 | nils=>
   obtain ⟨h',h1,h2,h3⟩:=fresh_rows (g:=g) (n:=1) hg (l:=cells) (by omega) h
   refine ⟨h',.slice h.nx 0 1 none g,fun k=>?_,.sl h.nx [r] cells hlo h3.lt h2 (by simp; omega) (by simpa using hr) ?_,⟨h3.up.nx,fun b hb _=>h3.up.get b hb⟩,by rw [h3.nx,Bid.nxt_val],1,rfl⟩
   · have e : sApp g .nils (.slice p 0 1 (.some 1) g) h k = srck g (.slice p 0 1 (.some 1) g) h fun m new=>appendk g .nils m new h k:=by
      show ifk (Nat.blt 1 g) _ _ = _
      rw [ifk_eq]
      split <;> rfl
     show sApp g .nils (.slice p 0 1 (.some 1) g) h k = _
     rw [e,src]
     exact h1 k
   · intro i r' j t v e1 e2 e3
     match i,e1 with
     | 0,e1=>
       cases e1
       rw [Nat.zero_mul,Nat.zero_add] at e3
       exact (hc.at_ e2 e3).mv (fun x hx=>⟨hx.1,hx.2.1⟩) fun b hb=>h3.up.get b hb.2.1
     | i + 1,e1=>simp at e1
 | sl b _ old blo bhi row len wid hs'=>
   obtain ⟨n,t,g1,g2,g3,g4⟩:=row.is
   have hnl : n = rows.length:=Nat.eq_of_mul_eq_mul_right hg (by omega)
   subst hnl
   obtain ⟨t',h1,h2,h3⟩:=chopk_law (g:=g) hg g2 (l:=cells) (m:=1) (by omega)
   have hrow : Row (.arr g (rows.length + 1) t' false) g (old ++ cells):=by
    refine ⟨_,_,rfl,h2,by rw [List.length_append,Nat.succ_mul]; omega,fun i=>?_⟩
    rw [h3]
    by_cases hi : rows.length * g ≤ i
    · rw [if_pos hi,List.getElem?_append_right (by omega),len]
    · rw [if_neg hi,g4,List.getElem?_append_left (by omega)]
   obtain ⟨h',h4,h5,h6,h7⟩:=move_rows (b:=b) h hrow
   have hoff : ∀ x,Off (.slice b 0 rows.length none g) x ↔ x ≠ b.val:=fun x=>⟨fun o e=>o b 0 rows.length none g rfl e.symm,fun hx b' o l c s e=>by cases e; exact fun e=>hx e.symm⟩
   have hget : ∀ b' : Bid,b'.val < h.nx.val→b'.val ≠ b.val→h'.t.get b' = h.t.get b':=fun b' hb1 hb2=>h7 b' (bid_ne hb2) (bid_ne (by omega))
   have hnx : h'.nx.val = h.nx.val + 1:=by rw [h6,Bid.nxt_val]
   refine ⟨h',.slice h.nx 0 (rows.length + 1) none g,fun k=>?_,?_,⟨by omega,fun b' hb1 hb2=>hget b' hb1 ((hoff _).1 hb2)⟩,hnx,_,rfl⟩
   · have e : sApp g (.slice b 0 rows.length none g) (.slice p 0 1 (.some 1) g) h k = srck g (.slice p 0 1 (.some 1) g) h fun m new=>appendk g (.slice b 0 rows.length none g) m new h k:=by
      show ifk (Nat.blt 1 g) (ifk (and (Nat.beq 0 0) (and (Nat.beq rows.length 0) (and (Nat.beq 0 0) (and (Nat.blt 16 1) (and (Nat.beq g g) (Nat.ble 1 16777216)))))) _ _) _ = _
      have : (and (Nat.beq 0 0) (and (Nat.beq rows.length 0) (and (Nat.beq 0 0) (and (Nat.blt 16 1) (and (Nat.beq g g) (Nat.ble 1 16777216)))))) = false:=by cases Nat.beq rows.length 0 <;> rfl
      rw [this,ifk_false,ifk_eq]
      split <;> rfl
     show sApp g (.slice b 0 rows.length none g) (.slice p 0 1 (.some 1) g) h k = _
     rw [e,src]
     show ifk (Nat.beq g g) (ifk (Nat.ble (rows.length + 1) 16777216) (h.getk b fun blk=>arrk blk fun g' n t ro=>ifk (Nat.ble (0 + (rows.length + 1) * g) (n * g'))
      (storek h b (0 + rows.length * g) (1 * g) cells fun h'=>k (.slice b 0 (rows.length + 1) none g) h')
      (ifk ro .fail (ifk (Nat.beq g' g)
        (ifk (Nat.beq n rows.length) (zk 0 (chopk g 1 rows.length cells t fun t'=>movek b g (rows.length + 1) t' h k) .fail)
          (loadk h b 0 (rows.length * g) fun old=>appk old cells fun all=>rowk g (rows.length + 1) all fun t'=>movek b g (rows.length + 1) t' h k))
        (ifk (Nat.beq g' 1) .fail (loadk h b 0 (rows.length * g) fun old=>appk old cells fun all=>rowk g (rows.length + 1) all fun t'=>movek b g (rows.length + 1) t' h k))))) .fail) .fail = _
     rw [Nat.beq_refl,ifk_true,ble_of (by omega),ifk_true,Heap.getk_eq,g1]
     show (ifk (Nat.ble (0 + (rows.length + 1) * g) (rows.length * g)) _ _) = _
     rw [ble_not (by rw [Nat.succ_mul]; omega),ifk_false,ifk_false,Nat.beq_refl,ifk_true,Nat.beq_refl,ifk_true,zk_zero]
     exact (h1 _).trans (h4 k)
   · have:=OwnT.sl (h:=h') (lo:=lo) (g:=g) h.nx (rows ++ [r]) (old ++ cells) hlo (by omega) h5 (by rw [List.length_append,List.length_append,len]; simp [Nat.succ_mul]; omega) (by
      intro x hx
      rcases List.mem_append.1 hx with hx | hx
      · exact wid x hx
      · simp at hx; subst hx; exact hr) (by
      intro i r' j t v e1 e2 e3
      by_cases hi : i < rows.length
      · rw [List.getElem?_append_left hi] at e1
        have hj : j < g:=by
         have:=wid r' (List.mem_of_getElem? e1)
         have:=(List.getElem?_eq_some_iff.1 e2).1
         omega
        have hlt : i * g + j < old.length:=by
         have : (i + 1) * g ≤ rows.length * g:=Nat.mul_le_mul_right g hi
         rw [Nat.succ_mul] at this; omega
        rw [List.getElem?_append_left hlt] at e3
        exact (hs' i r' j t v e1 e2 e3).mv (fun x hx=>⟨hx.1,by omega⟩) fun b' hb'=>hget b' (by omega) (by omega)
      · have hi' : i = rows.length:=by
         have:=(List.getElem?_eq_some_iff.1 e1).1
         simp at this; omega
        subst hi'
        rw [List.getElem?_append_right (by omega),Nat.sub_self] at e1
        cases e1
        rw [List.getElem?_append_right (by omega),show rows.length * g + j - old.length = j by omega] at e3
        exact (hc.at_ e2 e3).mv (fun x hx=>⟨hx.1,hx.2.1⟩) fun b' hb'=>hget b' hb'.2.1 ((hoff _).1 hb'.2.2))
     simpa using this
theorem CellA.txt {h : Heap} {A : Nat→Prop} {g : Nat} {rows : List (List Tr)} {v : V} (w : CellA h A (.sl g rows) v) {i j : Nat} (hi : i < rows.length) {a a' : Nat} (hr : rows[i][j]? = some (.s a a')) : a' < 256 ^ a:=by
 obtain ⟨b,o,c,l,_,hw,hl,hl2,_⟩:=w.row hi
 have hj : j < l.length:=by rw [hw.len]; exact (List.getElem?_eq_some_iff.1 hr).1
 have h1:=hw.at_ hr (List.getElem?_eq_getElem hj)
 generalize l[j] = u at h1
 cases h1
 assumption
theorem set_one {h : Heap} {b : Bid} {g : Nat} {pre post : List V} {v : V} (row : Row (h.t.get b) g (pre ++ v :: post)) (v' : V) :
 ∃ h',(∀ q : Heap→Res,storek h b pre.length 1 [v'] q = q h')∧Row (h'.t.get b) g (pre ++ v' :: post)∧But h b h':=by
 obtain ⟨h',e,r,u⟩:=storek_law (o:=pre.length) (n:=1) (vs:=[v']) row rfl (by simp)
 refine ⟨h',e,row_ext r ?_,u⟩
 simp only [splice,List.length_cons,List.length_nil]
 rw [List.take_left' rfl,List.drop_append,List.drop_eq_nil_of_le (by omega)]
 simp
def Apart (v u : V) : Prop:=∀ x,Off v x ∨ Off u x
theorem Apart.symm {v u : V} (h : Apart v u) : Apart u v:=fun x=>(h x).symm
theorem off_slice {b : Bid} {o l : Nat} {c : Option Nat} {s x : Nat} : Off (.slice b o l c s) x ↔ b.val ≠ x:=⟨fun h=>h b o l c s rfl,fun h b' o' l' c' s' e=>by cases e; exact h⟩
theorem off_nils (x : Nat) : Off .nils x:=fun _ _ _ _ _ e=>by cases e
theorem OwnT.fresh {h : Heap} {lo g : Nat} {v : V} {rows : List (List Tr)} (w : OwnT h lo g v rows) {b : Bid} {o l : Nat} {c : Option Nat} {s : Nat} (hb : h.nx.val ≤ b.val) : Apart (.slice b o l c s) v:=fun x=>by
 by_cases hx : b.val = x
 · exact .inr (w.low (.inr (by omega)))
 · exact .inl (off_slice.2 hx)
theorem OwnT.but {h h' : Heap} {lo g : Nat} {v u : V} {rows : List (List Tr)} (w : OwnT h lo g v rows) (U : UpBut u h h') (ap : Apart u v) (hc : ∀ r ∈ rows,∀ t ∈ r,∃ a a',t = .s a a') : OwnT h' lo g v rows:=by
 cases w with
 | nils=>exact .nils
 | sl b _ cells blo bhi row len wid hs=>
   have hb : h'.t.get b = h.t.get b:=U.get b bhi ((ap b.val).resolve_right fun o=>off_slice.1 o rfl)
   refine .sl b rows cells blo (Nat.lt_of_lt_of_le bhi U.nx) (by rw [hb]; exact row) len wid fun i r j t v h1 h2 h3=>?_
   have w:=hs i r j t v h1 h2 h3
   obtain ⟨a,a',rfl⟩:=hc r (List.mem_of_getElem? h1) t (List.mem_of_getElem? h2)
   cases w with
   | s _ _ hn=>exact .s _ _ hn
structure Old (lo : Nat) (s : Bid) (h h' : Heap) : Prop where
 nx : h.nx.val ≤ h'.nx.val
 get : ∀ b : Bid,b.val < lo→b ≠ s→h'.t.get b = h.t.get b
theorem Old.refl (lo : Nat) (s : Bid) (h : Heap) : Old lo s h h:=⟨Nat.le_refl _,fun _ _ _=>rfl⟩
theorem Old.trans {lo : Nat} {s : Bid} {h h' h'' : Heap} (a : Old lo s h h') (b : Old lo s h' h'') : Old lo s h h'':=⟨Nat.le_trans a.nx b.nx,fun x hx hs=>(b.get x hx hs).trans (a.get x hx hs)⟩
theorem Up.old {lo : Nat} {s : Bid} {h h' : Heap} (u : Up h h') (hl : lo ≤ h.nx.val) : Old lo s h h':=⟨u.nx,fun b hb _=>u.get b (by omega)⟩
theorem CellA.old {h h' : Heap} {N lo : Nat} {s : Bid} {t : Tr} {v : V} (w : CellR h N t v) (o : Old lo s h h') (hN : N ≤ s.val) (hs : s.val < lo) : CellR h' N t v:=w.up (Nat.le_refl _) fun b hb=>o.get b (by omega) (bid_ne (by omega))
theorem bp_pan (v : V) (h : Heap) (k : V→Heap→Res) : bp (.pan v h) k = .pan v h:=rfl
theorem back1k_ret (v : V) (h : Heap) (k kp : V→Heap→Res) : back1k (.ret v h) k kp = k v h:=rfl
theorem iffk_iface (t : Nat) (v : V) (r : Res) : iffk (.iface t v) r = r:=rfl
theorem ink_iface (t : Nat) (v : V) (k : Bool→Res) : ink (.iface t v) k = k false:=rfl
theorem nthk0 (v : V) (l : List V) (k : V→Res) : nthk (v :: l) 0 k = k v:=rfl
theorem nthk1 (v u : V) (l : List V) (k : V→Res) : nthk (v :: u :: l) 1 k = k u:=rfl
theorem recapp (l m : List V) (k : List V→Res) : (List.rec (motive:=fun _=>(List V→((List V→Res)→Res))) (fun l3 l4=>l4 l3) (fun v1 _ l3 l4 l5=>l3 l4 fun l6=>l5 (.cons v1 l6)) l m k) = appk l m k:=rfl
theorem nork_pan (v : V) (a b : Res) : nork (.pan v) a b = b:=rfl
theorem exk_pan (i : Nat) (v : V) (a b : Res) : exk i (.pan v) a b = b:=rfl
theorem exk_normal (i : Nat) (a b : Res) : exk i .normal a b = b:=rfl
theorem exk_ret (i : Nat) (a b : Res) : exk i .ret a b = b:=rfl
theorem endk_pan (v : V) (a : Res) (p : V→Res) : endk (.pan v) a p = p v:=rfl
end Go.Ev

/- EVALUATOR: the short words' rules, as one. -/
namespace Go.Ev
theorem evR : type_of% (And.intro @lq.eq_1 (And.intro @uF.eq_1 (And.intro @uK.eq_1 (And.intro @zK.eq_1 (And.intro @u2.eq_1 (And.intro @u3.eq_1 (And.intro @z2.eq_1 (And.intro @z3.eq_1 (And.intro @zF.eq_1 (And.intro @zV.eq_1 (And.intro @zS.eq_1 (And.intro @uS.eq_1 (And.intro @uB.eq_1 (And.intro @zB.eq_1 (And.intro @zI.eq_1 (And.intro @uI.eq_1 (And.intro @I.eq_1 (And.intro @ik.eq_1 (And.intro @uk.eq_1 (And.intro @unc_cons (And.intro @castF_int (And.intro @castI_int (And.intro @castB_bool (And.intro @castS_str (And.intro @nilk'_nil (And.intro @pl.eq_1 (And.intro @pl0.eq_1 (And.intro @plS0.eq_1 (And.intro @plS.eq_1 (And.intro @plI0.eq_1 (And.intro @plI.eq_1 (And.intro @plB0.eq_1 (And.intro @plB.eq_1 (And.intro @fa.eq_1 (And.intro @lS.eq_1 (And.intro @lK.eq_1 (And.intro @lI.eq_1 (And.intro @lB.eq_1 (And.intro @cn.eq_1 (And.intro @ptrk_ptr (And.intro @lenk_slice (And.intro @lenk_nils (And.intro @lenk_emp (And.intro @lb_eq (And.intro @gd_true (And.intro @gd_false (And.intro @an_true (And.intro @an_false (And.intro @or_true' (And.intro @or_false' (And.intro @intk_int (And.intro @boolk_bool (And.intro @strk_str (And.intro @fnk_func (And.intro @aggk_agg (And.intro @tupk_tup (And.intro @kno_refl (And.intro @ak_true (And.intro @Bool.not_true (And.intro @Bool.not_false (And.intro @ifk_true (And.intro @ifk_false (And.intro @slk_slice (And.intro @slk_nils (And.intro @slk_emp (And.intro @natk_ofNat (And.intro @clI.eq_1 (And.intro @clK.eq_1 (And.intro @clB.eq_1 (And.intro @clS.eq_1 (And.intro @cl.eq_1 (And.intro @cl2.eq_1 (And.intro @cl3.eq_1 (And.intro @cv.eq_1 (And.intro @cvB.eq_1 (And.intro @backk_ret (And.intro @backk_pan (And.intro @back1k_ret (And.intro @iffk_iface (And.intro @ink_iface (And.intro @nthk0 (And.intro @nthk1 (And.intro @recapp (And.intro @contk_done (And.intro @nork_normal (And.intro @nork_ret (And.intro @nork_exit (And.intro @nork_pan (And.intro @exk_pan (And.intro @exk_normal (And.intro @exk_ret (And.intro @endk_normal (And.intro @endk_ret (And.intro @endk_pan (And.intro @bf_ret (And.intro @bh_ret (And.intro @bp_ret (And.intro @bp_pan (And.intro @gw.eq_1 (And.intro @gr_skip (And.intro @sMM_min (And.intro @Nat.beq_refl (And.intro @parts_agg (And.intro @parts_str (And.intro @parts_nils (And.intro @parts_slice (And.intro @zk1 (And.intro @zk2 (And.intro @zk3 (And.intro @zk4 (And.intro @zk5 (And.intro @zk6 (And.intro @onek_str (And.intro @onek_int (And.intro @onek_nils (And.intro @onek_slice (And.intro @onek_ptr (And.intro @onek_bool (And.intro @veqk_self (And.intro @appk_nil (And.intro @appk_cons (And.intro @takek1 (And.intro @takek2 (And.intro @backk_gw_false (And.intro @ne.eq_1 (And.intro @iq.eq_1 (And.intro @gr.eq_1 (And.intro @grdk_bool (And.intro @grdk_skip (And.intro @ieq_self (And.intro @seq_self @beqk_self))))))))))))))))))))))))))))))))))))))))))))))))))))))))))))))))))))))))))))))))))))))))))))))))))))))))))))))))))))))))))))))))))):=And.intro @lq.eq_1 (And.intro @uF.eq_1 (And.intro @uK.eq_1 (And.intro @zK.eq_1 (And.intro @u2.eq_1 (And.intro @u3.eq_1 (And.intro @z2.eq_1 (And.intro @z3.eq_1 (And.intro @zF.eq_1 (And.intro @zV.eq_1 (And.intro @zS.eq_1 (And.intro @uS.eq_1 (And.intro @uB.eq_1 (And.intro @zB.eq_1 (And.intro @zI.eq_1 (And.intro @uI.eq_1 (And.intro @I.eq_1 (And.intro @ik.eq_1 (And.intro @uk.eq_1 (And.intro @unc_cons (And.intro @castF_int (And.intro @castI_int (And.intro @castB_bool (And.intro @castS_str (And.intro @nilk'_nil (And.intro @pl.eq_1 (And.intro @pl0.eq_1 (And.intro @plS0.eq_1 (And.intro @plS.eq_1 (And.intro @plI0.eq_1 (And.intro @plI.eq_1 (And.intro @plB0.eq_1 (And.intro @plB.eq_1 (And.intro @fa.eq_1 (And.intro @lS.eq_1 (And.intro @lK.eq_1 (And.intro @lI.eq_1 (And.intro @lB.eq_1 (And.intro @cn.eq_1 (And.intro @ptrk_ptr (And.intro @lenk_slice (And.intro @lenk_nils (And.intro @lenk_emp (And.intro @lb_eq (And.intro @gd_true (And.intro @gd_false (And.intro @an_true (And.intro @an_false (And.intro @or_true' (And.intro @or_false' (And.intro @intk_int (And.intro @boolk_bool (And.intro @strk_str (And.intro @fnk_func (And.intro @aggk_agg (And.intro @tupk_tup (And.intro @kno_refl (And.intro @ak_true (And.intro @Bool.not_true (And.intro @Bool.not_false (And.intro @ifk_true (And.intro @ifk_false (And.intro @slk_slice (And.intro @slk_nils (And.intro @slk_emp (And.intro @natk_ofNat (And.intro @clI.eq_1 (And.intro @clK.eq_1 (And.intro @clB.eq_1 (And.intro @clS.eq_1 (And.intro @cl.eq_1 (And.intro @cl2.eq_1 (And.intro @cl3.eq_1 (And.intro @cv.eq_1 (And.intro @cvB.eq_1 (And.intro @backk_ret (And.intro @backk_pan (And.intro @back1k_ret (And.intro @iffk_iface (And.intro @ink_iface (And.intro @nthk0 (And.intro @nthk1 (And.intro @recapp (And.intro @contk_done (And.intro @nork_normal (And.intro @nork_ret (And.intro @nork_exit (And.intro @nork_pan (And.intro @exk_pan (And.intro @exk_normal (And.intro @exk_ret (And.intro @endk_normal (And.intro @endk_ret (And.intro @endk_pan (And.intro @bf_ret (And.intro @bh_ret (And.intro @bp_ret (And.intro @bp_pan (And.intro @gw.eq_1 (And.intro @gr_skip (And.intro @sMM_min (And.intro @Nat.beq_refl (And.intro @parts_agg (And.intro @parts_str (And.intro @parts_nils (And.intro @parts_slice (And.intro @zk1 (And.intro @zk2 (And.intro @zk3 (And.intro @zk4 (And.intro @zk5 (And.intro @zk6 (And.intro @onek_str (And.intro @onek_int (And.intro @onek_nils (And.intro @onek_slice (And.intro @onek_ptr (And.intro @onek_bool (And.intro @veqk_self (And.intro @appk_nil (And.intro @appk_cons (And.intro @takek1 (And.intro @takek2 (And.intro @backk_gw_false (And.intro @ne.eq_1 (And.intro @iq.eq_1 (And.intro @gr.eq_1 (And.intro @grdk_bool (And.intro @grdk_skip (And.intro @ieq_self (And.intro @seq_self @beqk_self))))))))))))))))))))))))))))))))))))))))))))))))))))))))))))))))))))))))))))))))))))))))))))))))))))))))))))))))))))))))))))))))))
end Go.Ev
