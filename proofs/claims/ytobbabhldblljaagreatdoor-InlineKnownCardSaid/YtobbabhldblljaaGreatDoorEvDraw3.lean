/- EVALUATOR, 28: the steps of a drawn order, and the whole. -/
import Derived.Test.YtobbabhldblljaaGreatDoorEvDraw2
namespace Go.Ev
variable {P : Program} {ng : Nat} {d : DP} {cf : CF} {env : Env} {k : List V→Heap→Res} {kp : V→Heap→Res} {r : Res} {ρ₀ : Rho} {h₀ : Heap} {w₀ : World} {listed : Array Bool} {m : Nat} {L : List V} {ρ : Rho} {h : Heap}
 {a : Act} {w : World} {b : Frame}
theorem Lst.set {i j : Nat} : Lst (listed.setIfInBounds i true) j ↔ Lst listed j ∨ (j = i∧i < listed.size):=by
 unfold Lst
 by_cases e : i = j
 · subst e
   rw [Array.getD_eq_getD_getElem?]
   rcases Nat.lt_or_ge i listed.size with h | h
   · rw [Array.getElem?_setIfInBounds_self_of_lt h]; simp [h]
   · rw [Array.getElem?_eq_none (by simpa using h)]
     constructor
     · intro h'; cases h'
     · rintro (h' | h')
       · rw [Array.getD_eq_getD_getElem?,Array.getElem?_eq_none h] at h'; exact h'
       · omega
 · rw [Go.getD_set_ne false e]
   constructor
   · exact .inl
   · rintro (h | ⟨h,_⟩)
     · exact h
     · exact absurd h.symm e
theorem rdy_lt {i : Nat} (hi : i ∈ Region.ready .any d.ops listed) : i < d.ops.size:=by
 obtain ⟨_,o,ho,_⟩:=mem_ready.1 hi
 exact (Array.getElem?_eq_some_iff.1 ho).1
theorem ed_eq {i : Nat} {o : Oper} (ho : d.ops[i]? = some o) : d.ed i = edgesOf o:=by simp [DP.ed,ho]
theorem rdy_edge {i e : Nat} (hi : i ∈ Region.ready .any d.ops listed) (he : e ∈ d.ed i) : Lst listed e:=by
 obtain ⟨_,o,ho,h1⟩:=mem_ready.1 hi
 rw [ed_eq ho] at he
 obtain ⟨x,h2,rfl⟩:=List.mem_map.1 he
 obtain ⟨h3,h4⟩:=List.mem_filter.1 h2
 exact h1 x (by simpa using h3) h4
theorem rdy_not {i : Nat} (hi : i ∈ Region.ready .any d.ops listed) : ¬ Lst listed i:=by
 obtain ⟨h1,o,ho,_⟩:=mem_ready.1 hi
 intro h
 have hlt:=h.lt
 unfold Lst at h
 rw [Array.getD_eq_getD_getElem?,Array.getElem?_eq_getElem hlt] at h h1
 simp at h h1
 rw [h] at h1; cases h1
theorem Sim.anc (hd : d.Ok) (s : Sim P ng d cf env k kp r ρ₀ h₀ w₀ listed m L ρ h a w) {i x : Nat} (hi : i ∈ Region.ready .any d.ops listed) (hx : x < d.ops.size) (ha : d.A i x = true) : Lst listed x:=by
 obtain ⟨e,h1,h2⟩:=hd.anc i (rdy_lt hi) x hx ha
 have h3:=rdy_edge hi h1
 rcases h2 with rfl | h2
 · exact h3
 · exact s.closed e x h3 hx h2
theorem T_some {i t : Nat} {loc : Loc} (h : d.T i t = some loc) : (∃ j,d.writer t = some j∧d.A i j = true∧loc = .s (d.pos j)) ∨
 (d.fi.inl.testBit t = false∧(∃ x,slotOf t = some x∧loc = .e x)∧∀ j,d.writer t = some j→j = i ∨ d.A j i = true):=by
 unfold DP.T at h
 have old : (if d.fi.inl.testBit t then none else (slotOf t).map Loc.e) = some loc→d.fi.inl.testBit t = false∧∃ x,slotOf t = some x∧loc = .e x:=fun h=>by
  split at h
  · cases h
  · rename_i hb
    obtain ⟨x,h1,h2⟩:=Option.map_eq_some_iff.1 h
    exact ⟨by simpa using hb,x,h1,h2.symm⟩
 simp only at h
 split at h
 · rename_i hw
   obtain ⟨h1,h2⟩:=old h
   exact .inr ⟨h1,h2,fun j hj=>by rw [hw] at hj; cases hj⟩
 · rename_i j hw
   split at h
   · rename_i ha
     cases h
     exact .inl ⟨j,hw,ha,rfl⟩
   · split at h
     · rename_i hc
       obtain ⟨h1,h2⟩:=old h
       refine .inr ⟨h1,h2,fun j' hj'=>?_⟩
       rw [hw] at hj'
       cases hj'
       simpa using hc
     · cases h
theorem writer_spec {t j : Nat} (h : d.writer t = some j) : j < d.ops.size∧d.dst j = some t:=by
 unfold DP.writer at h
 have h1:=List.mem_of_find?_eq_some h
 have h2:=List.find?_some h
 exact ⟨List.mem_range.1 h1,by simpa using h2⟩
theorem Sim.cx (hd : d.Ok) (s : Sim P ng d cf env k kp r ρ₀ h₀ w₀ listed m L ρ h a w) {i : Nat} (hi : i ∈ Region.ready .any d.ops listed) {L₀ : List V} (hL : ∀ (k : Nat) (x : V),L₀[k]? = some x→L[k]? = some x) :
 Cx P ρ ng (d.T i) L₀ env h w a:=by
 refine ⟨fun t loc v h1 h2=>?_,s.glob,s.rh⟩
 rcases T_some h1 with ⟨j,h3,h4,rfl⟩ | ⟨h3,⟨x,h4,rfl⟩,h5⟩
 · obtain ⟨h5,h6⟩:=writer_spec h3
   obtain ⟨u,h7,h8⟩:=s.vals j (s.anc hd hi h5 h4) t h6
   have h2:=hL _ _ h2
   rw [h2] at h7
   cases h7
   exact h8
 · cases h2
   refine s.old t x h4 h3 fun j hj hl=>?_
   rcases h5 j hj with rfl | h6
   · exact rdy_not hi hl
   · exact rdy_not hi (s.closed j i hl (rdy_lt hi) h6)
theorem Sim.did (hd : d.Ok) (s : Sim P ng d cf env k kp r ρ₀ h₀ w₀ listed m L ρ h a w) {i : Nat} (hi : i ∈ Region.ready .any d.ops listed) {u : V} {y : Value} {L' : List V} {ρ' : Rho} (hle : ρ.le ρ')
 (hL : ∀ j,Lst listed j→∀ x,L[d.pos j]? = some x→L'[d.pos j]? = some x) (hu : L'[d.pos i]? = some u) (hy : VR ρ' u y) :
 (listed.setIfInBounds i true).size = d.ops.size∧(∀ i' j,Lst (listed.setIfInBounds i true) i'→j < d.ops.size→d.A i' j = true→Lst (listed.setIfInBounds i true) j) ∧
 (∀ i',Lst (listed.setIfInBounds i true) i'→∀ t,d.dst i' = some t→∃ v,L'[d.pos i']? = some v∧VR ρ' v ((a.put (d.dst i) y).tmps.getD t Go.undef)) ∧
 (∀ t x,slotOf t = some x→d.fi.inl.testBit t = false→(∀ j,d.writer t = some j→¬ Lst (listed.setIfInBounds i true) j)→VR ρ' (env.at x) ((a.put (d.dst i) y).tmps.getD t Go.undef)) ∧
 (a.put (d.dst i) y).tmps.size = d.fi.nt:=by
 have hlt:=rdy_lt hi
 have hne : ∀ t,d.dst i ≠ some t→(a.put (d.dst i) y).tmps.getD t Go.undef = a.tmps.getD t Go.undef:=fun t ht=>by
  cases hdi : d.dst i with
  | none=>rfl
  | some t'=>
    rw [hdi] at ht
    exact Go.Ev.getD_set_ne (fun e=>ht (by rw [e])) y
 refine ⟨by simp [s.sz],fun i' j h1 h2 h3=>?_,fun i' h1 t ht=>?_,fun t x h1 h2 h3=>?_,?_⟩
 · rw [Lst.set] at h1 ⊢
   rcases h1 with h1 | ⟨rfl,_⟩
   · exact .inl (s.closed i' j h1 h2 h3)
   · exact .inl (s.anc hd hi h2 h3)
 · rw [Lst.set] at h1
   by_cases e : i' = i
   · subst e
     refine ⟨u,hu,?_⟩
     rw [ht]
     rw [show (a.put (some t) y).tmps = a.tmps.setIfInBounds t y from rfl,getD_set_eq (by rw [s.tsz]; exact (hd.dst i' hlt t ht).2)]
     exact hy
   · rcases h1 with h1 | ⟨h1,_⟩
     · obtain ⟨v,h2,h3⟩:=s.vals i' h1 t ht
       refine ⟨v,hL i' h1 v h2,?_⟩
       rw [hne t fun h4=>?_]
       · exact h3.mono hle
       · have hi' : i' < d.ops.size:=by rw [← s.sz]; exact h1.lt
         have h5:=(hd.dst i hlt t h4).1
         rw [(hd.dst i' hi' t ht).1] at h5
         exact e (Option.some.inj h5)
     · exact absurd h1 e
 · rw [hne t fun h4=>?_]
   · exact (s.old t x h1 h2 fun j hj hl=>h3 j hj (Lst.set.2 (.inl hl))).mono hle
   · exact h3 i (hd.dst i hlt t h4).1 (Lst.set.2 (.inr ⟨rfl,by rw [s.sz]; exact hlt⟩))
 · cases hdi : d.dst i with
   | none=>exact s.tsz
   | some t=>simpa [Act.put] using s.tsz
abbrev Stop (d : DP) (m : Nat) : Prop:=m = d.ops.size ∨ ∃ j,d.ord[m]? = some j∧d.lt j = false
theorem ord_lt (hd : d.Ok) {j : Nat} (h : d.ord[m]? = some j) : m < d.ops.size∧j < d.ops.size∧d.pos j = m:=by
 have h1:=(List.getElem?_eq_some_iff.1 h).1
 rw [hd.len] at h1
 obtain ⟨j',h2,h3⟩:=hd.inj m h1
 rw [h] at h2
 cases h2
 exact ⟨h1,hd.bnd j (List.mem_of_getElem? h),h3⟩
theorem Sim.light_lt (hd : d.Ok) (s : Sim P ng d cf env k kp r ρ₀ h₀ w₀ listed m L ρ h a w) (hs : Stop d m) {i : Nat} (hi : i ∈ Region.ready .any d.ops listed) (hl : d.lt i = true) : d.pos i < m:=by
 have hlt:=rdy_lt hi
 rcases hs with rfl | ⟨j,h1,h2⟩
 · exact hd.pos i hlt
 · obtain ⟨h3,h4,h5⟩:=ord_lt hd h1
   rcases Nat.lt_trichotomy (d.pos i) m with h | h | h
   · exact h
   · have:=hd.eq_of_pos hlt (by rw [h]; exact h1)
     subst this
     rw [hl] at h2; cases h2
   · have hne : j ≠ i:=by rintro rfl; omega
     rcases hd.heavy i hlt j h4 h2 hne (by omega) with hA | ⟨hA,_⟩
     · have:=s.sub j (s.anc hd hi h4 hA)
       omega
     · rw [hl] at hA; cases hA
theorem Sim.heavy_eq (hd : d.Ok) (s : Sim P ng d cf env k kp r ρ₀ h₀ w₀ listed m L ρ h a w) (hs : Stop d m) {i : Nat} (hi : i ∈ Region.ready .any d.ops listed) (hl : d.lt i = false) (hx : ∀ j,(j,i) ∈ d.xs→Lst listed j) : d.ord[m]? = some i:=by
 have hlt:=rdy_lt hi
 have h0 : ¬ d.pos i < m:=fun h=>rdy_not hi (s.hv i hlt hl h)
 rcases hs with rfl | ⟨j,h1,h2⟩
 · exact absurd (hd.pos i hlt) h0
 · obtain ⟨h3,h4,h5⟩:=ord_lt hd h1
   by_cases e : j = i
   · rw [← e]; exact h1
   · by_cases e2 : d.pos i = m
     · exact absurd (hd.eq_of_pos hlt (by rw [e2]; exact h1)) e
     · rcases hd.heavy i hlt j h4 h2 e (by omega) with hA | ⟨_,hA⟩
       · have:=s.sub j (s.anc hd hi h4 hA)
         omega
       · have:=s.sub j (hx j hA)
         omega
theorem countP_lt {p q : Nat→Bool} : ∀ {l : List Nat},(∀ x ∈ l,q x = true→p x = true)→(∃ x ∈ l,p x = true∧q x = false)→l.countP q < l.countP p
 | [],_,⟨_,h,_⟩=>by cases h
 | y :: l,h1,⟨x,h2,h3,h4⟩=>by
   have h5 : l.countP q ≤ l.countP p:=List.countP_mono_left fun z hz hq=>h1 z (List.mem_cons_of_mem _ hz) hq
   rw [List.countP_cons,List.countP_cons]
   rcases List.mem_cons.1 h2 with rfl | h2
   · simp [h3,h4]; omega
   · have h6:=countP_lt (fun z hz hq=>h1 z (List.mem_cons_of_mem _ hz) hq) ⟨x,h2,h3,h4⟩
     have h7:=h1 y (by simp)
     cases hq : q y
     · simp only [Bool.false_eq_true,if_false]; split <;> omega
     · simp only [if_true,h7 hq]; omega
theorem Sim.all (hd : d.Ok) (s : Sim P ng d cf env k kp r ρ₀ h₀ w₀ listed m L ρ h a w) (hs : Stop d m) (ha : ∀ i,i < d.ops.size→Lst listed i) : m = d.ops.size∧k L h = r:=by
 have hm : m = d.ops.size:=by
  rcases hs with h | ⟨j,h1,_⟩
  · exact h
  · obtain ⟨_,h2,h3⟩:=ord_lt hd h1
    have:=s.sub j (ha j h2); omega
 obtain ⟨l,h1,h2⟩:=s.run
 rw [hm,← hd.len,List.drop_length] at h1
 cases h1
 exact ⟨hm,h2⟩
theorem rdy_nil (hd : d.Ok) (hsz : listed.size = d.ops.size) (hr : Region.ready .any d.ops listed = []) : ∀ i,i < d.ops.size→Lst listed i:=by
 have key : ∀ n i,i < d.ops.size→d.pos i < n→Lst listed i:=by
  intro n
  induction n with
  | zero=>intro i _ h; omega
  | succ n ih=>
    intro i hi hp
    rcases Classical.em (Lst listed i) with h | h
    · exact h
    · exfalso
      have : i ∈ Region.ready .any d.ops listed:=by
       refine mem_ready.2 ⟨?_,d.ops[i],Array.getElem?_eq_getElem hi,fun e he hb=>?_⟩
       · unfold Lst at h
         rw [Array.getD_eq_getD_getElem?,Array.getElem?_eq_getElem (by rw [hsz]; exact hi)] at h ⊢
         simpa using h
       · have h1 : e.on ∈ d.ed i:=by
          rw [ed_eq (Array.getElem?_eq_getElem hi)]
          exact List.mem_map.2 ⟨e,List.mem_filter.2 ⟨by simpa using he,hb⟩,rfl⟩
         have h2:=hd.edge i hi e.on h1
         have h3 : e.on < d.ops.size:=by
          rcases Nat.lt_or_ge e.on d.ops.size with h | h
          · exact h
          · have h4:=hd.pos i hi
            have h5 : d.pos e.on < d.ord.length:=by rw [hd.len]; omega
            have h6:=List.getElem_idxOf (xs:=d.ord) (x:=e.on) h5
            have:=hd.bnd e.on (by rw [← h6]; exact List.getElem_mem h5)
            omega
         exact ih e.on h3 (by omega)
      rw [hr] at this; cases this
 exact fun i hi=>key (d.pos i + 1) i hi (by omega)
def Resp (xs : List (Nat × Nat)) : Array Bool→List Nat→Prop
 | _,[]=>True
 | L,i :: l=>(∀ j,(j,i) ∈ xs→Lst L j)∧Resp xs (L.setIfInBounds i true) l
theorem Resp.nil : ∀ (l : List Nat) (L : Array Bool),Resp [] L l
 | [],_=>trivial
 | _ :: l,L=>⟨by simp,Resp.nil l _⟩
theorem Resp.of_lst {x y : Nat} : ∀ (l : List Nat) (L : Array Bool),Lst L x→Resp [(x,y)] L l
 | [],_,_=>trivial
 | i :: l,L,h=>⟨fun j hj=>by simp at hj; rw [hj.1]; exact h,Resp.of_lst l _ (Lst.set.2 (.inl h))⟩
theorem Resp.or {x y : Nat} (hne : x ≠ y) : ∀ (l : List Nat) (L : Array Bool),x < L.size→y < L.size→Resp [(x,y)] L l ∨ Resp [(y,x)] L l
 | [],_,_,_=>.inl trivial
 | i :: l,L,hx,hy=>by
   by_cases e1 : i = x
   · subst e1
     exact .inl ⟨fun j hj=>by simp at hj; exact absurd hj.2 hne,Resp.of_lst l _ (Lst.set.2 (.inr ⟨rfl,hx⟩))⟩
   · by_cases e2 : i = y
     · subst e2
       exact .inr ⟨fun j hj=>by simp at hj; exact absurd hj.2.symm hne,Resp.of_lst l _ (Lst.set.2 (.inr ⟨rfl,hy⟩))⟩
     · rcases Resp.or hne l (L.setIfInBounds i true) (by simpa using hx) (by simpa using hy) with h | h
       · exact .inl ⟨fun j hj=>by simp at hj; exact absurd hj.2 e2,h⟩
       · exact .inr ⟨fun j hj=>by simp at hj; exact absurd hj.2 e1,h⟩
theorem sim_ok (hd : d.Ok) (hcf : CFok P ng cf) {cs : List Frame} {ds : List Deferred} {Q : Post} {r₀ : Res} (hr₀ : Fine r₀)
 (fin : ∀ {L : List V} {ρ : Rho} {h : Heap} {a : Act} {w : World} {listed : Array Bool} {r : Res},Le r r₀→Sim P ng d cf env k kp r ρ₀ h₀ w₀ listed d.ops.size L ρ h a w→(∀ i,i < d.ops.size→Lst listed i)→k L h = r→a.defers = ds→Q .normal a cs w)
 (leap : ∀ {L : List V} {ρ ρ' : Rho} {h h' : Heap} {a : Act} {w w' : World} {listed : Array Bool} {m : Nat} {u : V} {y : Value} {r : Res},Le r r₀→Sim P ng d cf env k kp r ρ₀ h₀ w₀ listed m L ρ h a w→a.defers = ds→Le (kp u h') r→VR ρ' u y→RH P ρ' h' w' →
   Ext ρ h w ρ' h' w'→Q (.panic [{ v:=y,recovered:=false }]) a cs w') :
 ∀ (fuel t : Nat) {listed : Array Bool} {m : Nat} {L : List V} {ρ : Rho} {h : Heap} {a : Act} {w : World} {r : Res},Le r r₀→Sim P ng d cf env k kp r ρ₀ h₀ w₀ listed m L ρ h a w→Stop d m→a.defers = ds→Resp d.xs listed (Region.linearise.go .any d.ops fuel t listed []) →
  (List.range d.ops.size).countP (fun i=>!listed.getD i false) ≤ fuel→WO P b d.ops (Region.linearise.go .any d.ops fuel t listed []) Q a cs w
 | 0,t,listed,m,L,ρ,h,a,w,r,hle₀,s,hs,hds,hx,hc=>by
   have ha : ∀ i,i < d.ops.size→Lst listed i:=fun i hi=>by
    have:=List.countP_eq_zero.1 (Nat.le_zero.1 hc) i (List.mem_range.2 hi)
    simpa [Lst] using this
   obtain ⟨rfl,h1⟩:=s.all hd hs ha
   simp only [Region.linearise.go,List.reverse_nil]
   exact .nil (fin hle₀ s ha h1 hds)
 | fuel + 1,t,listed,m,L,ρ,h,a,w,r,hle₀,s,hs,hds,hx,hc=>by
   have hr : Fine r:=hr₀.le hle₀
   simp only [Region.linearise.go] at hx ⊢
   change Resp d.xs listed (match (Region.ready .any d.ops listed)[t % (Region.ready .any d.ops listed).length]? with
    | some i=>Region.linearise.go .any d.ops fuel (t / (Region.ready .any d.ops listed).length) (listed.setIfInBounds i true) [i]
    | none=>[].reverse) at hx
   change WO P b d.ops (match (Region.ready .any d.ops listed)[t % (Region.ready .any d.ops listed).length]? with
    | some i=>Region.linearise.go .any d.ops fuel (t / (Region.ready .any d.ops listed).length) (listed.setIfInBounds i true) [i]
    | none=>[].reverse) Q a cs w
   cases hi : (Region.ready .any d.ops listed)[t % (Region.ready .any d.ops listed).length]? with
   | none=>
     have hnil : Region.ready .any d.ops listed = []:=by
      cases hrd : Region.ready .any d.ops listed with
      | nil=>rfl
      | cons x xs=>
        rw [hrd] at hi
        have hlt : t % (x :: xs).length < (x :: xs).length:=Nat.mod_lt _ (by simp)
        rw [List.getElem?_eq_getElem hlt] at hi; cases hi
     have ha:=rdy_nil hd s.sz hnil
     obtain ⟨rfl,h1⟩:=s.all hd hs ha
     simp only [List.reverse_nil]
     exact .nil (fin hle₀ s ha h1 hds)
   | some i=>
     rw [hi] at hx
     simp only [] at hx ⊢
     rw [linearise_go_acc,List.reverse_singleton,List.singleton_append] at hx ⊢
     obtain ⟨hx1,hx2⟩:=hx
     have hi:=List.mem_of_getElem? hi
     have hlt:=rdy_lt hi
     have ho : d.ops[i]? = some d.ops[i]:=Array.getElem?_eq_getElem hlt
     have hdst : d.ops[i].dst = d.dst i:=by simp [DP.dst,ho]
     have hcnt : (List.range d.ops.size).countP (fun j=>!(listed.setIfInBounds i true).getD j false) ≤ fuel:=by
      have:=countP_lt (p:=fun j=>!listed.getD j false) (q:=fun j=>!(listed.setIfInBounds i true).getD j false) (l:=List.range d.ops.size) (fun x _ hq=>by
       have h1 : ¬ Lst (listed.setIfInBounds i true) x:=by simpa [Lst] using hq
       have h2 : ¬ Lst listed x:=fun h=>h1 (Lst.set.2 (.inl h))
       simpa [Lst] using h2) ⟨i,List.mem_range.2 hlt,by have:=rdy_not hi; simpa [Lst] using this,by
        have : Lst (listed.setIfInBounds i true) i:=Lst.set.2 (.inr ⟨rfl,by rw [s.sz]; exact hlt⟩)
        simpa [Lst] using this⟩
      omega
     by_cases hl : d.lt i = true
     · have hp:=s.light_lt hd hs hi hl
       obtain ⟨B,b1,b2⟩:=s.made
       by_cases hal : d.al i = true
       ·
        obtain ⟨o,L₀,u,x,h1,hg,h2,h3,h4,h5,h6,h7,h8⟩:=b1 i hlt hal hp (rdy_not hi)
        obtain rfl : d.ops[i] = o:=Option.some.inj (ho.symm.trans h1)
        obtain ⟨y,w',S,e6,e7,e8,e9⟩:=h4 ρ h w a (s.cx hd hi h2) ρ₀ h₀ w₀ s.ext h5 h7 h6 h8
        have hle:=Rho.le_put (ρ:=ρ) h7 (w.heap.size,0,S)
        refine .value ho (by simp [Region.wanted,hg]) (.inr fun c e=>by simp [DP.al,ho,makesO,e,makes] at hal) e6 ?_
        rw [hdst]
        obtain ⟨e1,e2,e3,e4,e5⟩:=s.did hd hi hle (L':=L) (fun _ _ _ h=>h) h3 e7
        refine sim_ok hd hcf hr₀ fin leap fuel _ hle₀ (m:=m) (L:=L) (ρ:=ρ.put (B i) (w.heap.size,0,S)) (h:=h) ⟨e1,e2,s.len,s.le,s.run,fun j hj=>?_,fun j h8 h9 h10=>Lst.set.2 (.inl (s.hv j h8 h9 h10)),e3,e4,e5,e8,e9,s.glob.mono hle,
         fun j h8 h9 h10 h11 h12=>s.facts j h8 h9 h10 h11 fun h=>h12 (Lst.set.2 (.inl h)),B,fun j h8 h9 h10 h11=>?_,fun j j' h8 h9 h10 h11 h12 h13 h14 h15=>b2 j j' h8 h9 h10 (fun h=>h11 (Lst.set.2 (.inl h))) h12 h13 h14 fun h=>h15 (Lst.set.2 (.inl h))⟩ hs ?_ hx2 hcnt
        · rcases Lst.set.1 hj with h8 | ⟨rfl,_⟩
          · exact s.sub j h8
          · exact hp
        · have hnj : ¬ Lst listed j:=fun h=>h11 (Lst.set.2 (.inl h))
          have hji : j ≠ i:=fun e=>h11 (Lst.set.2 (.inr ⟨e,by rw [s.sz]; exact hlt⟩))
          obtain ⟨o',L',u',x',f1,f2,f3,f4,f5,f6,f7,f8,f9⟩:=b1 j h8 h9 h10 hnj
          refine ⟨o',L',u',x',f1,f2,f3,f4,f5,f6,f7,?_,f9⟩
          rw [Rho.put_ne fun e=>hji (b2 j i h8 h9 h10 hnj hlt hal hp (rdy_not hi) e)]
          exact f8
        · rw [← hds]; cases d.dst i <;> rfl
       · have hal : d.al i = false:=by simpa using hal
         obtain ⟨v,L₀,u,h₁,h1,h2,h3,h4,h5⟩:=s.facts i hlt hl hal hp (rdy_not hi)
         simp only [DP.vi,ho,Option.bind_some] at h1
         obtain ⟨y,h6,h7⟩:=light_ok (b:=b) (s.cx hd hi h3) h1 h2 h5 ho
         refine h7 Q _ cs ?_
         rw [hdst]
         obtain ⟨e1,e2,e3,e4,e5⟩:=s.did hd hi (.refl ρ) (L':=L) (fun _ _ _ h=>h) h4 h6
         refine sim_ok hd hcf hr₀ fin leap fuel _ hle₀ (m:=m) (L:=L) (ρ:=ρ) (h:=h) ⟨e1,e2,s.len,s.le,s.run,fun j hj=>?_,fun j h8 h9 h10=>Lst.set.2 (.inl (s.hv j h8 h9 h10)),e3,e4,e5,s.rh,s.ext,s.glob,
          fun j h8 h9 h10 h11 h12=>s.facts j h8 h9 h10 h11 fun h=>h12 (Lst.set.2 (.inl h)),B,fun j h8 h9 h10 h11=>b1 j h8 h9 h10 fun h=>h11 (Lst.set.2 (.inl h)),
          fun j j' h8 h9 h10 h11 h12 h13 h14 h15=>b2 j j' h8 h9 h10 (fun h=>h11 (Lst.set.2 (.inl h))) h12 h13 h14 fun h=>h15 (Lst.set.2 (.inl h))⟩ hs ?_ hx2 hcnt
         · rcases Lst.set.1 hj with h8 | ⟨rfl,_⟩
           · exact s.sub j h8
           · exact hp
         · rw [← hds]; cases d.dst i <;> rfl
     · have hl : d.lt i = false:=by simpa using hl
       have hm:=s.heavy_eq hd hs hi hl hx1
       obtain ⟨hm1,_,hpos⟩:=ord_lt hd hm
       obtain ⟨l,h1,h2⟩:=s.run
       have hml : m < d.ord.length:=by rw [hd.len]; exact hm1
       rw [List.drop_eq_getElem_cons hml] at h1
       have hj : d.ord[m] = i:=by rw [List.getElem?_eq_getElem hml] at hm; exact Option.some.inj hm
       rw [hj] at h1
       obtain ⟨v,h3,h4⟩:=Option.bind_eq_some_iff.1 h1
       have hal : d.al i = false:=by
        cases hx : d.al i with
        | false=>rfl
        | true=>rw [al_lt hx] at hl; cases hl
       rw [if_neg (by rw [hal]; simp),if_neg (by rw [hl]; simp)] at h4
       obtain ⟨g,h5,h4⟩:=Option.bind_eq_some_iff.1 h4
       obtain ⟨l',h6,rfl⟩:=Option.map_eq_some_iff.1 h4
       simp only [DP.vi,ho,Option.bind_some] at h3
       refine cGuard_ok (k:=fun u h'=>appk L [u] fun L'=>runD cf env (g ++ l') L' h' k kp) (kp:=kp) hcf (s.cx hd hi fun _ _ h=>h) h3 h2 hr ho ?_ ?_
       · intro u h' ρ' y w' h7 h8 h9 h10
         have h7 : Le (appk L [u] (fun L'=>runD cf env (g ++ l') L' h' k kp)) r:=h7
         rw [appk_eq] at h7
         obtain ⟨r',hr'⟩ : ∃ r',runD cf env (g ++ l') (L ++ [u]) h' k kp = r':=⟨_,rfl⟩
         rw [hr'] at h7
         have hgrow : ∀ (k : Nat) (x : V),L[k]? = some x→(L ++ [u])[k]? = some x:=fun k x hk=>by
          rw [List.getElem?_append_left (List.getElem?_eq_some_iff.1 hk).1]; exact hk
         obtain ⟨h11,h12⟩:=agains_ok (m:=m) (listed:=listed) (hr.le h7).ne (fun j v hv hp hli hai _=>by
          rcases Nat.lt_or_ge (d.pos j) m with hpm | hpm
          · rcases Classical.em (Lst listed j) with hL | hL
            · exact .inr (.inr hL)
            · have hj : j < d.ops.size:=by
               rcases Nat.lt_or_ge j d.ops.size with h | h
               · exact h
               · unfold DP.lt at hli; rw [Array.getElem?_eq_none h] at hli; cases hli
              exact .inl ((s.facts j hj hli hai hpm hL).pure hv hp hgrow)
          · exact .inr (.inl (by omega))) h5 hr'
         rw [hdst]
         have hget : ∀ {p : Nat},p < m→∀ {x},L[p]? = some x→(L ++ [u])[p]? = some x:=fun hp x hx=>by
          rw [List.getElem?_append_left (by rw [s.len]; exact hp)]; exact hx
         obtain ⟨e1,e2,e3,e4,e5⟩:=s.did hd hi h10.le (L':=L ++ [u]) (fun j hj x hx=>hget (s.sub j hj) hx) (by rw [hpos,← s.len]; simp) h8
         have s' : Sim P ng d cf env k kp r' ρ₀ h₀ w₀ (listed.setIfInBounds i true) (m + 1) (L ++ [u]) ρ' h' (a.put (d.dst i) y) w':=by
          obtain ⟨B,b1,b2⟩:=s.made
          have hjm : ∀ {j},j < d.ops.size→d.al j = true→d.pos j < m + 1→¬ Lst (listed.setIfInBounds i true) j→d.pos j < m∧¬ Lst listed j:=fun {j} h13 h14 h15 h16=>by
           refine ⟨Nat.lt_of_le_of_ne (Nat.le_of_lt_succ h15) fun e2=>?_,fun h=>h16 (Lst.set.2 (.inl h))⟩
           have:=hd.eq_of_pos h13 (by rw [e2]; exact hm)
           subst this
           rw [hal] at h14; cases h14
          refine ⟨e1,e2,by simp [s.len],hm1,⟨l',h6,h11⟩,fun j hj=>?_,fun j h13 h14 h15=>?_,e3,e4,e5,h9,s.ext.trans h10,s.glob.mono h10.le,fun j h13 h14 hal' h15 h16=>?_,
           B,fun j h13 h14 h15 h16=>((b1 j h13 h14 (hjm h13 h14 h15 h16).1 (hjm h13 h14 h15 h16).2).step h10).grow,
           fun j j' h13 h14 h15 h16 h17 h18 h19 h20=>b2 j j' h13 h14 (hjm h13 h14 h15 h16).1 (hjm h13 h14 h15 h16).2 h17 h18 (hjm h17 h18 h19 h20).1 (hjm h17 h18 h19 h20).2⟩
          · rcases Lst.set.1 hj with h13 | ⟨rfl,_⟩
            · have:=s.sub j h13; omega
            · omega
          · by_cases e : j = i
            · subst e; exact Lst.set.2 (.inr ⟨rfl,by rw [s.sz]; exact hlt⟩)
            · refine Lst.set.2 (.inl (s.hv j h13 h14 (Nat.lt_of_le_of_ne (Nat.le_of_lt_succ h15) fun e2=>?_)))
              exact e (hd.eq_of_pos h13 (by rw [e2]; exact hm)).symm
          · have hne : d.pos j ≠ m:=fun e2=>by
             have:=hd.eq_of_pos h13 (by rw [e2]; exact hm)
             subst this
             exact h16 (Lst.set.2 (.inr ⟨rfl,by rw [s.sz]; exact hlt⟩))
            have hlt' : d.pos j < m:=by omega
            refine h12 j ?_ h14 hal' (.inr ?_) hlt' fun h=>h16 (Lst.set.2 (.inl h))
            · have h17:=hd.ord_pos h13
              exact List.mem_of_getElem? (i:=d.pos j) (by rw [List.getElem?_take_of_lt hlt']; exact h17)
            · cases hA : d.A i j with
              | false=>rfl
              | true=>exact absurd (Lst.set.2 (.inl (s.anc hd hi h13 hA))) h16
         obtain ⟨m',L',h'',s'',hs'⟩:=s'.adv hd (hr.le h7).ne
         exact sim_ok hd hcf hr₀ fin leap fuel _ (h7.trans hle₀) s'' hs' (by rw [← hds]; cases d.dst i <;> rfl) hx2 hcnt
       · intro u h' ρ' y w' h7 h8 h9 h10
         exact leap hle₀ s hds h7 h8 h9 h10
theorem backs_ok {ρ : Rho} {tmps : Array Value} (hr : r ≠ .fail) : ∀ {js : List Nat} {l : List (Slot × Nat)} {E : Env} {k : Env→Res},d.outs js = some l→backs l L E k = r →
 (∀ j ∈ js,∀ t,d.dst j = some t→∃ v,L[d.pos j]? = some v∧VR ρ v (tmps.getD t Go.undef)) →
 ∃ E',k E' = r∧∀ t x,slotOf t = some x→d.fi.inl.testBit t = false→(VR ρ (E.at x) (tmps.getD t Go.undef) ∨ ∃ j ∈ js,d.dst j = some t)→VR ρ (E'.at x) (tmps.getD t Go.undef)
 | [],l,E,k,ho,hh,hv=>by
   cases ho
   exact ⟨E,hh,fun t x _ _ h=>h.elim id (by simp)⟩
 | j :: js,l,E,k,ho,hh,hv=>by
   simp only [DP.outs] at ho
   have hv':=fun j' (h : j' ∈ js)=>hv j' (List.mem_cons_of_mem _ h)
   split at ho
   · rename_i t hdst
     split at ho
     · rename_i hin
       obtain ⟨E',h1,h2⟩:=backs_ok hr ho hh hv'
       refine ⟨E',h1,fun t' x h3 h4 h5=>h2 t' x h3 h4 ?_⟩
       rcases h5 with h5 | ⟨j',h5,h6⟩
       · exact .inl h5
       · rcases List.mem_cons.1 h5 with rfl | h5
         · rw [hdst] at h6; cases h6; rw [hin] at h4; cases h4
         · exact .inr ⟨j',h5,h6⟩
     · obtain ⟨x,hx,ho⟩:=Option.bind_eq_some_iff.1 ho
       obtain ⟨l',h1,rfl⟩:=Option.map_eq_some_iff.1 ho
       have hh : nthk L (d.pos j) (fun v=>envk E x v fun E1=>backs l' L E1 k) = r:=hh
       obtain ⟨v,h2,h3⟩:=nthk_ok hh hr
       rw [envk_eq] at h3
       obtain ⟨u,h4,h5⟩:=hv j (by simp) t hdst
       rw [h2] at h4
       cases h4
       obtain ⟨E',h6,h7⟩:=backs_ok hr h1 h3 hv'
       refine ⟨E',h6,fun t' x' h8 h9 h10=>h7 t' x' h8 h9 ?_⟩
       by_cases e : x' = x
       · subst e
         obtain rfl:=slotOf_inj h8 hx
         left
         rw [Env.at_put]; exact h5
       · rcases h10 with h10 | ⟨j',h11,h12⟩
         · left; rw [Env.at_put_ne _ e]; exact h10
         · rcases List.mem_cons.1 h11 with rfl | h11
           · rw [hdst] at h12; cases h12; rw [hx] at h8; exact absurd (Option.some.inj h8).symm e
           · exact .inr ⟨j',h11,h12⟩
   · rename_i hdst
     obtain ⟨E',h1,h2⟩:=backs_ok hr ho hh hv'
     refine ⟨E',h1,fun t' x h3 h4 h5=>h2 t' x h3 h4 ?_⟩
     rcases h5 with h5 | ⟨j',h5,h6⟩
     · exact .inl h5
     · rcases List.mem_cons.1 h5 with rfl | h5
       · rw [hdst] at h6; cases h6
       · exact .inr ⟨j',h5,h6⟩
theorem undk_ok : ∀ (l : List (Slot × Nat)) (E : Env) (k : Env→Res),∃ E',undk l E k = k E'∧∀ x,E'.at x = .und ∨ (E'.at x = E.at x∧∀ i,(x,i) ∉ l)
 | [],E,k=>⟨E,rfl,fun x=>.inr ⟨rfl,fun i h=>by cases h⟩⟩
 | (x,i) :: l,E,k=>by
   obtain ⟨E',h1,h2⟩:=undk_ok l (E.put x .und) k
   refine ⟨E',?_,fun y=>?_⟩
   · show envk E x .und (fun E1=>undk l E1 k) = _
     rw [envk_eq]; exact h1
   · rcases h2 y with h | ⟨h3,h4⟩
     · exact .inl h
     · by_cases e : y = x
       · subst e; left; rw [h3,Env.at_put]
       · rw [Env.at_put_ne _ e] at h3
         exact .inr ⟨h3,fun j hj=>by
          rcases List.mem_cons.1 hj with h | h
          · exact e (Prod.mk.inj h).1
          · exact h4 j h⟩
theorem outs_mem : ∀ {js : List Nat} {l : List (Slot × Nat)},d.outs js = some l→∀ {j t x},j ∈ js→d.dst j = some t→d.fi.inl.testBit t = false→slotOf t = some x→(x,d.pos j) ∈ l
 | [],l,ho,j,t,x,hj,_,_,_=>by cases hj
 | j' :: js,l,ho,j,t,x,hj,h1,h2,h3=>by
   simp only [DP.outs] at ho
   rcases List.mem_cons.1 hj with rfl | hj
   · rw [h1] at ho
     simp only [h2,Bool.false_eq_true,if_false,h3,Option.bind_some] at ho
     obtain ⟨m,_,rfl⟩:=Option.map_eq_some_iff.1 ho
     simp
   · split at ho
     · split at ho
       · exact outs_mem ho hj h1 h2 h3
       · obtain ⟨x',_,ho⟩:=Option.bind_eq_some_iff.1 ho
         obtain ⟨m,hm,rfl⟩:=Option.map_eq_some_iff.1 ho
         exact List.mem_cons_of_mem _ (outs_mem hm hj h1 h2 h3)
     · exact outs_mem ho hj h1 h2 h3
def outSl (d : DP) (js : List Nat) : List Slot:=js.filterMap fun j=>(d.dst j).bind fun t=>if d.fi.inl.testBit t then none else slotOf t
theorem outs_fst : ∀ {js : List Nat} {o : List (Slot × Nat)},d.outs js = some o→o.map (·.1) = outSl d js
 | [],o,h=>by cases h; rfl
 | j :: js,o,h=>by
   simp only [DP.outs] at h
   split at h
   · rename_i t ht
     split at h
     · rename_i hi
       rw [outs_fst h]
       simp [outSl,ht,hi]
     · rename_i hi
       obtain ⟨x,hx,h⟩:=Option.bind_eq_some_iff.1 h
       obtain ⟨o',h1,rfl⟩:=Option.map_eq_some_iff.1 h
       have:=outs_fst h1
       simp only [outSl] at this
       simp [outSl,ht,hi,hx,this]
   · rename_i ht
     rw [outs_fst h]
     simp [outSl,ht]
theorem picks_ok {ρ : Rho} {tmps : Array Value} {q : Res} (hq : q ≠ .fail) : ∀ {js : List Nat} {o : List (Slot × Nat)} {kk : List V→Res} {E : Env} {k : Env→Res},d.outs js = some o→picks o L kk = q →
 (∀ j ∈ js,∀ t,d.dst j = some t→∃ v,L[d.pos j]? = some v∧VR ρ v (tmps.getD t Go.undef)) →
 ∃ vs,kk vs = q∧∀ {r : Res},(putl (outSl d js) vs E k = r→r ≠ .fail →
  ∃ E',k E' = r∧∀ t x,slotOf t = some x→d.fi.inl.testBit t = false→(VR ρ (E.at x) (tmps.getD t Go.undef) ∨ ∃ j ∈ js,d.dst j = some t)→VR ρ (E'.at x) (tmps.getD t Go.undef))
 | [],o,kk,E,k,ho,hp,hv=>by
   cases ho
   refine ⟨[],hp,fun {r} hh hr=>?_⟩
   obtain ⟨_,h1⟩:=nilk'_ok (show nilk' [] (k E) = r from hh) hr
   exact ⟨E,h1,fun t x _ _ h=>h.elim id (by simp)⟩
 | j :: js,o,kk,E,k,ho,hp,hv=>by
   have ho0:=ho
   simp only [DP.outs] at ho
   have hv':=fun j' (h : j' ∈ js)=>hv j' (List.mem_cons_of_mem _ h)
   split at ho
   · rename_i t hdst
     split at ho
     · rename_i hin
       obtain ⟨vs,h1,h2⟩:=picks_ok hq (E:=E) (k:=k) ho hp hv'
       refine ⟨vs,h1,fun {r} hh hr=>?_⟩
       rw [show outSl d (j :: js) = outSl d js by simp [outSl,hdst,hin]] at hh
       obtain ⟨E',h3,h4⟩:=h2 hh hr
       refine ⟨E',h3,fun t' x h5 h6 h7=>h4 t' x h5 h6 ?_⟩
       rcases h7 with h7 | ⟨j',h7,h8⟩
       · exact .inl h7
       · rcases List.mem_cons.1 h7 with rfl | h7
         · rw [hdst] at h8; cases h8; rw [hin] at h6; cases h6
         · exact .inr ⟨j',h7,h8⟩
     · rename_i hin
       obtain ⟨x,hx,ho⟩:=Option.bind_eq_some_iff.1 ho
       obtain ⟨l',h1,rfl⟩:=Option.map_eq_some_iff.1 ho
       have hp : nthk L (d.pos j) (fun v=>picks l' L fun vs=>kk (v :: vs)) = q:=hp
       obtain ⟨v,h2,h3⟩:=nthk_ok hp hq
       obtain ⟨u,h4,h5⟩:=hv j (by simp) t hdst
       rw [h2] at h4
       cases h4
       obtain ⟨vs,h6,h7⟩:=picks_ok hq (E:=E.put x v) (k:=k) h1 h3 hv'
       refine ⟨v :: vs,h6,fun {r} hh hr=>?_⟩
       rw [show outSl d (j :: js) = x :: outSl d js by simp [outSl,hdst,hin,hx]] at hh
       have hh : envk E x v (fun E1=>putl (outSl d js) vs E1 k) = r:=hh
       rw [envk_eq] at hh
       obtain ⟨E',h8,h9⟩:=h7 hh hr
       refine ⟨E',h8,fun t' x' h10 h11 h12=>h9 t' x' h10 h11 ?_⟩
       by_cases e : x' = x
       · subst e
         obtain rfl:=slotOf_inj h10 hx
         left
         rw [Env.at_put]; exact h5
       · rcases h12 with h12 | ⟨j',h13,h14⟩
         · left; rw [Env.at_put_ne _ e]; exact h12
         · rcases List.mem_cons.1 h13 with rfl | h13
           · rw [hdst] at h14; cases h14; rw [hx] at h10; exact absurd (Option.some.inj h10).symm e
           · exact .inr ⟨j',h13,h14⟩
   · rename_i hdst
     obtain ⟨vs,h1,h2⟩:=picks_ok hq (E:=E) (k:=k) ho hp hv'
     refine ⟨vs,h1,fun {r} hh hr=>?_⟩
     rw [show outSl d (j :: js) = outSl d js by simp [outSl,hdst]] at hh
     obtain ⟨E',h3,h4⟩:=h2 hh hr
     refine ⟨E',h3,fun t' x h5 h6 h7=>h4 t' x h5 h6 ?_⟩
     rcases h7 with h7 | ⟨j',h7,h8⟩
     · exact .inl h7
     · rcases List.mem_cons.1 h7 with rfl | h7
       · rw [hdst] at h8; cases h8
       · exact .inr ⟨j',h7,h8⟩
theorem draw_ok {fi : FI} {ops : Array Oper} {K : Kont} {l : List DI} {o : List (Slot × Nat)} (hm : P.follows .mixedOrders = true) (hcf : CFok P ng cf) (hr : Fine r)
 (hd : (dpOf fi ops).chk = true) (hl : (dpOf fi ops).items P ng (dpOf fi ops).ord 0 = some l) (ho : (dpOf fi ops).outs (List.range ops.size) = some o) {cs : List Frame} {id : Nat}
 (hh : runD cf env l [] h (fun L h'=>backs o L env fun env'=>K .normal env' h') (fun u h'=>undk o env fun env'=>K (.pan u) env' h') = r) (he : EnvR ρ fi env a.tmps) (rh : RH P ρ h w) (hg : GlobR ρ ng) :
 WP P b (.region id ops true) (Left P fi ρ h w K r cs a.defers) a cs w:=by
 refine .region_draw fun t=>?_
 have hd:=DP.chk_ok hd
 have nl : ∀ i,¬ Lst (Array.replicate ops.size false) i:=fun i h=>by
  have hlt:=h.lt
  unfold Lst at h
  rw [Array.getD_eq_getD_getElem?,Array.getElem?_eq_getElem hlt] at h
  simp at h
 have s : Sim P ng (dpOf fi ops) cf env (fun L h'=>backs o L env fun env'=>K .normal env' h') (fun u h'=>undk o env fun env'=>K (.pan u) env' h') r ρ h { w with drawn:=w.drawn + 1 } (Array.replicate ops.size false) 0 [] ρ h a { w with drawn:=w.drawn + 1 }:=
  ⟨by simp [dpOf],fun i _ hi=>absurd hi (nl i),rfl,Nat.zero_le _,⟨l,hl,hh⟩,fun i hi=>absurd hi (nl i),fun _ _ _ h=>absurd h (Nat.not_lt_zero _),fun i hi=>absurd hi (nl i),
    fun t x h1 h2 _=>he.val t x h1 h2,he.size,rh.drew _,.refl _ _ _,hg,fun _ _ _ _ h=>absurd h (Nat.not_lt_zero _),fun _=>⟨0,.d0,.d0,.d0,.d0⟩,fun _ _ _ h=>absurd h (Nat.not_lt_zero _),fun _ _ _ _ h=>absurd h (Nat.not_lt_zero _)⟩
 obtain ⟨m,L,h',s,hs⟩:=s.adv hd hr.ne
 have:=sim_ok (b:=b) (cs:=cs) (ds:=a.defers) (Q:=Left P fi ρ h { w with drawn:=w.drawn + 1 } K r cs a.defers) hd hcf hr ?_ ?_ ops.size t (.refl r) s hs rfl (Resp.nil _ _) (by
  have:=List.countP_le_length (l:=List.range (dpOf fi ops).ops.size) (p:=fun i=>!(Array.replicate ops.size false).getD i false)
  simpa [dpOf] using this)
 · simp only [Region.schedule,hm,Bool.true_or,if_true]
   exact this.mono fun e a' cs' w' hl=>hl.of (.drew ρ h w (w.drawn + 1))
 · intro L ρ' h' a' w' listed r' hle s ha hk hds
   obtain ⟨E',h1,h2⟩:=backs_ok (tmps:=a'.tmps) (hr.le hle).ne ho hk fun j hj t ht=>s.vals j (ha j (List.mem_range.1 hj)) t ht
   refine ⟨rfl,hds,.normal,E',h',ρ',(Le.of_eq h1).trans hle,.normal,⟨s.tsz,fun t x h3 h4=>h2 t x h3 h4 ?_⟩,s.rh,s.ext⟩
   cases hw : (dpOf fi ops).writer t with
   | none=>exact .inl (s.old t x h3 h4 fun j hj=>by rw [hw] at hj; cases hj)
   | some j=>exact .inr ⟨j,List.mem_range.2 (writer_spec hw).1,(writer_spec hw).2⟩
 · intro L ρ' ρ2 h' h2 a' w' w2 listed m u y r' hle s hds hk hy hr2 hx
   obtain ⟨E',e1,e2⟩:=undk_ok o env fun env'=>K (.pan u) env' h2
   have hk : Le (undk o env (fun env'=>K (.pan u) env' h2)) r':=hk
   rw [e1] at hk
   refine ⟨rfl,hds,.pan u,E',h2,ρ2,hk.trans hle,.pan hy,⟨s.tsz,fun t x h3 h4=>?_⟩,hr2,s.ext.trans hx⟩
   rcases e2 x with h | ⟨h5,h6⟩
   · rw [h]; exact .und _
   · rw [h5]
     refine (s.old t x h3 h4 fun j hj _=>?_).mono hx.le
     obtain ⟨h7,h8⟩:=writer_spec hj
     exact h6 _ (outs_mem ho (List.mem_range.2 h7) h8 h4 h3)
theorem draw_at {fi : FI} {ops : Array Oper} {K : Kont} {d : DP} {l : List DI} {o : List (Slot × Nat)} {q : Res} (hops : d.ops = ops) (hfi : d.fi = fi) (hcf : CFok P ng cf) (hr : Fine r) (hq : Fine q)
 (hd : d.Ok) (hl : d.items P ng d.ord 0 = some l) (ho : d.outs (List.range ops.size) = some o) {cs : List Frame} {t : Nat}
 (hx : Resp d.xs (Array.replicate ops.size false) (Region.linearise.go .any ops ops.size t (Array.replicate ops.size false) []))
 (hh : runD cf env l [] h (fun L h'=>picks o L fun vs=>.done .normal vs h') (fun _ _=>.fail) = q) (hc : ∀ vs h',Leaf (.done .normal vs h') q→Le (putl (outSl d (List.range ops.size)) vs env fun env'=>K .normal env' h') r)
 (he : EnvR ρ fi env a.tmps) (rh : RH P ρ h w) (hg : GlobR ρ ng) :
 WO P b ops (Region.linearise.go .any ops ops.size t (Array.replicate ops.size false) []) (Left P fi ρ h w K r cs a.defers) a cs { w with drawn:=w.drawn + 1 }:=by
 subst hops
 subst hfi
 have nl : ∀ i,¬ Lst (Array.replicate d.ops.size false) i:=fun i h=>by
  have hlt:=h.lt
  unfold Lst at h
  rw [Array.getD_eq_getD_getElem?,Array.getElem?_eq_getElem hlt] at h
  simp at h
 have s : Sim P ng d cf env (fun L h'=>picks o L fun vs=>.done .normal vs h') (fun _ _=>.fail) q ρ h { w with drawn:=w.drawn + 1 } (Array.replicate d.ops.size false) 0 [] ρ h a { w with drawn:=w.drawn + 1 }:=
  ⟨by simp,fun i _ hi=>absurd hi (nl i),rfl,Nat.zero_le _,⟨l,hl,hh⟩,fun i hi=>absurd hi (nl i),fun _ _ _ h=>absurd h (Nat.not_lt_zero _),fun i hi=>absurd hi (nl i),
    fun t x h1 h2 _=>he.val t x h1 h2,he.size,rh.drew _,.refl _ _ _,hg,fun _ _ _ _ h=>absurd h (Nat.not_lt_zero _),fun _=>⟨0,.d0,.d0,.d0,.d0⟩,fun _ _ _ h=>absurd h (Nat.not_lt_zero _),fun _ _ _ _ h=>absurd h (Nat.not_lt_zero _)⟩
 obtain ⟨m,L,h',s,hs⟩:=s.adv hd hq.ne
 refine (sim_ok (b:=b) (cs:=cs) (ds:=a.defers) (Q:=Left P d.fi ρ h { w with drawn:=w.drawn + 1 } K r cs a.defers) hd hcf hq ?_ ?_ d.ops.size t (.refl q) s hs rfl hx (by
  have:=List.countP_le_length (l:=List.range d.ops.size) (p:=fun i=>!(Array.replicate d.ops.size false).getD i false)
  simpa using this)).mono fun e a' cs' w' hl=>hl.of (.drew ρ h w (w.drawn + 1))
 · intro L ρ' h' a' w' listed q' hle s ha hk hds
   obtain ⟨vs,h1,h2⟩:=picks_ok (tmps:=a'.tmps) (E:=env) (k:=fun env'=>K .normal env' h') (hq.le hle).ne ho hk fun j hj t ht=>s.vals j (ha j (List.mem_range.1 hj)) t ht
   have hl:=hc vs h' (hle _ (by rw [← h1]; rfl))
   obtain ⟨E',h3,h4⟩:=h2 rfl (hr.le hl).ne
   refine ⟨rfl,hds,.normal,E',h',ρ',(Le.of_eq h3).trans hl,.normal,⟨s.tsz,fun t x h5 h6=>h4 t x h5 h6 ?_⟩,s.rh,s.ext⟩
   cases hw : d.writer t with
   | none=>exact .inl (s.old t x h5 h6 fun j hj=>by rw [hw] at hj; cases hj)
   | some j=>exact .inr ⟨j,List.mem_range.2 (writer_spec hw).1,(writer_spec hw).2⟩
 · intro L ρ' ρ2 h' h2 a' w' w2 listed m u y q' hle s hds hk
   exact absurd (hle _ (hk _ rfl)) hq
theorem draw2_ok {fi : FI} {ops : Array Oper} {K : Kont} {x y : Nat} {l1 l2 : List DI} {o1 o2 : List (Slot × Nat)} (hm : P.follows .mixedOrders = true) (hcf : CFok P ng cf) (hr : Fine r) (hne : x ≠ y) (hx : x < ops.size) (hy : y < ops.size)
 (hd1 : (dpX fi ops x y).chk = true) (hl1 : (dpX fi ops x y).items P ng (dpX fi ops x y).ord 0 = some l1) (ho1 : (dpX fi ops x y).outs (List.range ops.size) = some o1)
 (hd2 : (dpX fi ops y x).chk = true) (hl2 : (dpX fi ops y x).items P ng (dpX fi ops y x).ord 0 = some l2) (ho2 : (dpX fi ops y x).outs (List.range ops.size) = some o2) {cs : List Frame} {id : Nat} {q : Res}
 (hh1 : runD cf env l1 [] h (fun L h'=>picks o1 L fun vs=>.done .normal vs h') (fun _ _=>.fail) = q) (hh2 : runD cf env l2 [] h (fun L h'=>picks o2 L fun vs=>.done .normal vs h') (fun _ _=>.fail) = q) (hq : Fine q)
 (hc : ∀ vs h',Leaf (.done .normal vs h') q→Le (putl (o1.map (·.1)) vs env fun env'=>K .normal env' h') r) (he : EnvR ρ fi env a.tmps) (rh : RH P ρ h w) (hg : GlobR ρ ng) :
 WP P b (.region id ops true) (Left P fi ρ h w K r cs a.defers) a cs w:=by
 refine .region_draw fun t=>?_
 simp only [Region.schedule,hm,Bool.true_or,if_true]
 have e1:=outs_fst ho1
 rcases Resp.or hne (Region.linearise.go .any ops ops.size t (Array.replicate ops.size false) []) (Array.replicate ops.size false) (by simpa using hx) (by simpa using hy) with h1 | h1
 · exact draw_at (d:=dpX fi ops x y) rfl rfl hcf hr hq (DP.chk_ok hd1) hl1 ho1 h1 hh1 (fun vs h' e=>by
    have hc':=hc vs h' e
    rw [e1] at hc'; exact hc') he rh hg
 · exact draw_at (d:=dpX fi ops y x) rfl rfl hcf hr hq (DP.chk_ok hd2) hl2 ho2 h1 hh2 (fun vs h' e=>by
    have hc':=hc vs h' e
    rw [e1] at hc'; exact hc') he rh hg
end Go.Ev
