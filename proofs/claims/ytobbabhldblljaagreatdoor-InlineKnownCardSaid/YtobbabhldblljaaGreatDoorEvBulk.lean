/- EvBulk: texts joined. -/
import Derived.Test.YtobbabhldblljaaGreatDoorEvIter
import Derived.Lib.Builder
import Derived.Lib.UnsafeStr
import Derived.Laws.StructEq
import Derived.Test.YtobbabhldblljaaGreatDoorEvEx0
/- EVALUATOR: strings.Builder: a struct whose type is known (pointers to it are turned to unsafe.Pointer and back), bytes that grow in a block of their own, the string made of them without copying. -/
namespace Go.Ev
variable {P : Program}
theorem rehomeO {ρ : Rho} {h : Heap} {w : World} (r : RH P ρ h w) {b : Bid} {c z S : Nat} (hb : ρ b = some (c,z,S)) (hwr : (h.t.get b).wr = true) {nx : Bid} (hn : h.nx.next = some nx)
 {w' : World} (hos : w'.os = w.os) (htape : w'.tape = w.tape) (hout : w'.output = w.output) (hsz : w'.heap.size = w.heap.size)
 (hne : ∀ k,k ≠ c→w'.heap[k]? = w.heap[k]?) (hnm : ∀ es clk,h.t.get b ≠ .ob (.mp es clk)) {y : Oth} (hnm' : ∀ m s q l,y ≠ .mi m s q l) (hob : ∃ o,w'.heap[c]? = some o∧OthR P (ρ.put h.nx (c,0,S)) y o∧Big y o S) :
 RH P (ρ.put h.nx (c,0,S)) ((h.turn b .none).new (.ob y) nx) w'∧Ext ρ h w (ρ.put h.nx (c,0,S)) ((h.turn b .none).new (.ob y) nx) w':=by
 have hv:=Bid.next_val hn
 have hf:=r.fresh h.nx (Nat.le_refl _)
 have hle:=Rho.le_put (ρ:=ρ) hf.1 (c,0,S)
 have hbn : b ≠ h.nx:=by rintro rfl; rw [hf.1] at hb; cases hb
 have hlive : h.t.get b ≠ .none:=by intro e; rw [e] at hwr; cases hwr
 have get_old : ∀ b',b' ≠ h.nx→b' ≠ b→((h.turn b .none).new (.ob y) nx).t.get b' = h.t.get b':=by
  intro b' h1 h2
  simp only [Heap.new,Heap.turn]
  rw [HT.get_set_ne _ h1,HT.get_set_ne _ h2]
 have get_b : ((h.turn b .none).new (.ob y) nx).t.get b = .none:=by
  simp only [Heap.new,Heap.turn]
  rw [HT.get_set_ne _ hbn,HT.get_set]
 have get_nx : ((h.turn b .none).new (.ob y) nx).t.get h.nx = .ob y:=by simp only [Heap.new,Heap.turn]; rw [HT.get_set]
 have hnx : ((h.turn b .none).new (.ob y) nx).nx = nx:=rfl
 refine ⟨⟨?_,?_,?_,?_,?_,?_⟩,⟨hle,by rw [hnx]; omega,hos,htape,hout,by omega,?_,?_⟩⟩
 · intro b' c' z1 S1 h1
   rw [hsz]
   by_cases e : b' = h.nx
   · subst e; rw [Rho.put_same] at h1; cases h1; exact r.lt _ _ _ _ hb
   · rw [Rho.put_ne e] at h1; exact r.lt _ _ _ _ h1
 · intro b' h1
   rw [hnx] at h1
   have e : b' ≠ h.nx:=by rintro rfl; omega
   have hold:=r.fresh b' (by omega)
   have e2 : b' ≠ b:=by rintro rfl; rw [hold.1] at hb; cases hb
   rw [Rho.put_ne e,get_old b' e e2]; exact hold
 · intro b1 b2 c' z1 S1 z2 S2 h1 h2 h3 h4
   have other : ∀ b',b' ≠ h.nx→((h.turn b .none).new (.ob y) nx).t.get b' ≠ .none→b' ≠ b∧h.t.get b' ≠ .none:=by
    intro b' e h5
    have e2 : b' ≠ b:=by rintro rfl; exact h5 get_b
    exact ⟨e2,by rwa [get_old b' e e2] at h5⟩
   by_cases e1 : b1 = h.nx
   · by_cases e2 : b2 = h.nx
     · rw [e1,e2]
     · obtain ⟨h5,h6⟩:=other b2 e2 h2
       subst e1; rw [Rho.put_same] at h3; cases h3
       rw [Rho.put_ne e2] at h4
       exact absurd (r.inj b b2 _ _ _ _ _ hwr h6 hb h4).symm h5
   · obtain ⟨h5,h6⟩:=other b1 e1 (by intro e; rw [e] at h1; cases h1)
     rw [Rho.put_ne e1] at h3
     by_cases e2 : b2 = h.nx
     · subst e2; rw [Rho.put_same] at h4; cases h4
       exact absurd (r.inj b b1 _ _ _ _ _ hwr h6 hb h3).symm h5
     · obtain ⟨h7,h8⟩:=other b2 e2 h2
       rw [Rho.put_ne e2] at h4
       rw [get_old b1 e1 h5] at h1
       exact r.inj b1 b2 _ _ _ _ _ h1 h8 h3 h4
 · intro b' c' z1 S1 g1 n1 t1 ro1 h1 h2
   by_cases e : b' = h.nx
   · subst e; rw [get_nx] at h2; cases h2
   · have e2 : b' ≠ b:=by rintro rfl; rw [get_b] at h2; cases h2
     rw [get_old b' e e2] at h2
     rw [Rho.put_ne e] at h1
     obtain ⟨cs,ha⟩:=r.arr b' c' z1 S1 g1 n1 t1 ro1 h1 h2
     have hcc : c' ≠ c:=by rintro rfl; exact e2 (r.inj b b' _ _ _ _ _ hwr (by rw [h2]; simp) hb h1).symm
     exact ⟨cs,ha.mono hle (hne c' hcc)⟩
 · intro b' c' z1 S1 es h1 h2
   by_cases e : b' = h.nx
   · subst e; rw [get_nx] at h2; cases h2; rw [Rho.put_same] at h1; cases h1
     obtain ⟨o,q1,q2,q3⟩:=hob
     exact ⟨o,q1,q2,rfl,q3⟩
   · have e2 : b' ≠ b:=by rintro rfl; rw [get_b] at h2; cases h2
     rw [get_old b' e e2] at h2
     rw [Rho.put_ne e] at h1
     obtain ⟨o,h3,h4,h5⟩:=r.ob b' c' z1 S1 es h1 h2
     have hcc : c' ≠ c:=by rintro rfl; exact e2 (r.inj b b' _ _ _ _ _ hwr (by rw [h2]; simp) hb h1).symm
     exact ⟨o,(hne c' hcc).trans h3,h4.mono hle,h5⟩
 · intro p c' z1 S1 m since seen last h1 h2
   have e : p ≠ h.nx:=by rintro rfl; rw [get_nx] at h2; cases h2; exact hnm' _ _ _ _ rfl
   have e2 : p ≠ b:=by rintro rfl; rw [get_b] at h2; cases h2
   rw [get_old p e e2] at h2
   rw [Rho.put_ne e] at h1
   exact (r.itr_off hb hwr hne hnm h1 h2 e2).mono hle
 · intro k hk hw
   have e : k ≠ c:=by rintro rfl; exact hw ⟨b,z,S,hb,hwr⟩
   refine ⟨hne k e,?_⟩
   rintro ⟨b',z1,S1,h1,h2⟩
   by_cases e1 : b' = h.nx
   · subst e1; rw [Rho.put_same] at h1; cases h1; exact e rfl
   · have e2 : b' ≠ b:=by rintro rfl; rw [get_b] at h2; cases h2
     rw [get_old b' e1 e2] at h2; rw [Rho.put_ne e1] at h1
     exact hw ⟨b',z1,S1,h1,h2⟩
 · intro b' h1 h2
   have e : b' ≠ h.nx:=by rintro rfl; omega
   have e2 : b' ≠ b:=by rintro rfl; rw [hb] at h2; cases h2
   rw [Rho.put_ne e,get_old b' e e2]
   exact ⟨h2,rfl⟩
noncomputable def numBk (y : V) (h : Heap) (k : Nat→Nat→Res) : Res:=
 slk y (fun b o l _ _=>loadk h b o l fun cs=>packk cs fun n=>forceN n fun n=>k l n) (k 0 0) (k 0 0)
structure SrcN (P : Program) (w : World) (ts : Array TypeId) (e : TypeId) (y : Value) (m n : Nat) : Prop where
 how : How P ts e 1 y m ((dig m n).map fun (b : UInt8)=>Value.int .u8 b.toNat).toArray w
 lt : n < 256 ^ m
theorem pack_ints {ns : List Nat} (h : ∀ n ∈ ns,n < 256) : (ns.map UInt8.ofNat).map (fun b=>Value.int .u8 b.toNat) = ns.map fun (n : Nat)=>Value.int .u8 (n : Int):=by
 rw [List.map_map]
 refine List.map_congr_left fun n hn=>?_
 have:=h n hn
 simp only [Function.comp]
 congr 1
 have : (UInt8.ofNat n).toNat = n:=by simp; omega
 rw [this]
theorem numBk_ok {y : V} {h : Heap} {k : Nat→Nat→Res} {r : Res} (hh : numBk y h k = r) (hr : r ≠ .fail) {ρ : Rho} {w : World} (rh : RH P ρ h w) {v : Value} (hv : VR ρ y v) {ts : Array TypeId} {e u : TypeId} {d : TypeDesc}
 (h1 : ts[1]? = some u) (h2 : P.underlying u = some d) (h3 : (d matches .int _) = false) : ∃ m n,k m n = r∧SrcN P w ts e v m n:=by
 rcases slk_ok hh hr with ⟨b,o,l,cp,s,rfl,g1⟩ | ⟨rfl,g1⟩ | ⟨rfl,g1⟩
 · obtain ⟨c,z,S,cap,hb,_,_,_,rfl⟩:=hv.slice_inv
   obtain ⟨m,xs,k2,k3,k4,k5,k6⟩:=loadk_ok (P:=P) g1 hr rh hb
   obtain ⟨ns,k7,rfl,k8⟩:=packk_ok k2 hr k4
   rw [forceN_eq] at k7
   have hl : ns.length = l:=by simpa using k5
   have hp:=dig_pack (ns.map UInt8.ofNat)
   rw [List.length_map,hl] at hp
   have hlt:=pack_lt (ns.map UInt8.ofNat)
   rw [List.length_map,hl] at hlt
   refine ⟨l,_,k7,.src u d h1 h2 h3 rfl fun dr=>?_,hlt⟩
   rw [hp,pack_ints k8]
   have:=k3 dr
   simpa [Builtin.firstCells] using this
 · rw [hv.nils_inv]
   exact ⟨0,0,g1,.src u d h1 h2 h3 rfl fun _=>rfl,by decide⟩
 · cases hv with
   | emp a cap=>
     refine ⟨0,0,g1,.src u d h1 h2 h3 rfl fun dr=>?_,by decide⟩
     show (loadCells a (0 * 1)).run P _ = _
     rfl
theorem numSk_ok {y : V} {k : Nat→Nat→Res} {r : Res} (hh : strk y k = r) (hr : r ≠ .fail) {ρ : Rho} {w : World} {v : Value} (hv : VR ρ y v) {ts : Array TypeId} {e u : TypeId} {d : TypeDesc}
 (h1 : ts[1]? = some u) (h2 : P.underlying u = some d) (h3 : (d matches .int _) = false) : ∃ m n,k m n = r∧SrcN P w ts e v m n:=by
 obtain ⟨l,n,rfl,g1⟩:=strk_ok hh hr
 obtain ⟨s,rfl,e1,e2⟩:=hv.str_inv
 have hsz:=str_size e1
 refine ⟨l,n,g1,.src u d h1 h2 h3 (by simp [Builtin.lenOf,hsz]) fun d=>?_,e2⟩
 simp only [Builtin.firstCells,Sem.run_pure]
 congr 1
 apply Array.ext'
 rw [Array.toList_map]
 have : (s.extract 0 l).data.toList = s.data.toList:=by
  rw [ByteArray.data_extract,Array.toList_extract,List.extract_eq_take_drop,List.drop_zero,List.take_of_length_le]
  rw [e1,dig_length]; omega
 rw [this,e1]
noncomputable def bsk (x : Blk) (k : Nat→Nat→Nat→Res) : Res:=
 Blk.rec (motive:=fun _=>Res) .fail (fun _ _ _ _=>.fail) (fun y=>Oth.rec (motive:=fun _=>Res) (fun _ _=>.fail) (fun _ _ _=>.fail) (fun _ _ _ _ _=>.fail) (fun _ _ _ _=>.fail) (fun _ _ _=>.fail) k (fun _=>.fail) y) x
theorem bsk_ok {x : Blk} {k : Nat→Nat→Nat→Res} {r : Res} (h : bsk x k = r) (hr : r ≠ .fail) : ∃ el l n,x = .ob (.bs el l n)∧k el l n = r:=by
 cases x with
 | ob y=>
   cases y
   case bs el l n=>exact ⟨el,l,n,rfl,h⟩
   all_goals exact absurd h.symm hr
 | _=>exact absurd h.symm hr
noncomputable def appBk (el : Nat) (x : V) (m n : Nat) (h : Heap) (k : V→Heap→Res) : Res:=
 slk x
  (fun b o l c s=>zk o (optk c (fun _=>.fail) (ifk (Nat.beq s 1) (ifk (Nat.ble (Nat.add l m) 16777216) (h.getk b fun blk=>bsk blk fun el' l' n'=>
    ifk (Nat.beq el el') (ifk (Nat.beq l l') (forceN (Nat.add n' (Nat.mul n (Nat.pow 256 l))) fun N=>
     h.turnk b .none fun h1=>h1.newk (.ob (.bs el (Nat.add l m) N)) fun b' h'=>k (.slice b' 0 (Nat.add l m) none 1) h') .fail) .fail) .fail) .fail)) .fail)
  (zk m (k .nils h) (ifk (Nat.ble m 16777216) (h.newk (.ob (.bs el m n)) fun b' h'=>k (.slice b' 0 m none 1) h') .fail))
  .fail
noncomputable def sAppB (s : Bool) (el : Nat) (x y : V) (h : Heap) (k : V→Heap→Res) : Res:=
 Bool.rec (motive:=fun _=>Res) (numBk y h fun m n=>appBk el x m n h k) (strk y fun m n=>appBk el x m n h k) s
theorem bytes_one (l : List UInt8) : ∀ x ∈ l.map (fun b=>Value.int .u8 b.toNat),x.oneCell' = true:=by
 intro x hx
 obtain ⟨b,_,rfl⟩:=List.mem_map.1 hx
 rfl
theorem appBk_ok {el m n : Nat} {x : V} {h : Heap} {k : V→Heap→Res} {r : Res} (hh : appBk el x m n h k = r) (hr : r ≠ .fail) {ρ : Rho} {w : World} (rh : RH P ρ h w) {v y : Value}
 (hv : VR ρ x v) {ts : Array TypeId} {ty u : TypeId} (hs : SrcN P w ts el y m n) (at_ : AppT P ts ty el 1) : Ok P ρ h w (Builtin.append_ ts u #[v,y]) k r:=by
 have hc1 : P.cellsOf el = 1:=by
  have:=at_.size
  unfold sz at this
  simp [Program.cellsOf,this]
 obtain ⟨z1,hz,hzs,hz1⟩:=at_.zero
 have hxl : ((dig m n).map fun b=>Value.int .u8 b.toNat).length = m:=by simp [dig_length]
 rcases slk_ok hh hr with ⟨b,o,l,cp,s,rfl,h1⟩ | ⟨rfl,h1⟩ | ⟨rfl,h1⟩
 · obtain ⟨rfl,h2⟩:=zk_fail h1 hr
   rcases optk_cases h2 with ⟨_,_,h3⟩ | ⟨rfl,h3⟩
   · exact absurd h3.symm hr
   obtain ⟨h4,h5⟩:=ifk_fail h3 hr
   obtain rfl:=Nat.eq_of_beq_eq_true h4
   obtain ⟨hsm,h6⟩:=ifk_fail h5 hr
   have hsm : l + m ≤ 16777216:=Nat.le_of_ble_eq_true hsm
   rw [Heap.getk_eq] at h6
   obtain ⟨el',l',n',hblk,h7⟩:=bsk_ok h6 hr
   obtain ⟨h8,h9⟩:=ifk_fail h7 hr
   obtain rfl:=Nat.eq_of_beq_eq_true h8
   obtain ⟨h10,h11⟩:=ifk_fail h9 hr
   obtain rfl:=Nat.eq_of_beq_eq_true h10
   rw [forceN_eq,Heap.turnk_eq] at h11
   obtain ⟨nx,hnx,h12⟩:=Heap.newk_ok h11 hr
   obtain ⟨c,z,S,cap,hb,_,hcap,hlc,rfl⟩:=hv.slice_inv
   have hcap:=hcap rfl
   obtain ⟨ob,g1,g2,rfl,g3⟩:=rh.ob b c z S _ hb hblk
   obtain ⟨cs,e0,fz,rfl,g4⟩:=g3 rfl
   obtain ⟨rfl,f1,f2,f3,f4,f5⟩:=g2
   have hN : n' + n * 256 ^ l < 256 ^ (l + m):=by
    have:=hs.lt
    rw [Nat.pow_add]
    have h1 : (n + 1) * 256 ^ l ≤ 256 ^ m * 256 ^ l:=Nat.mul_le_mul_right _ this
    rw [Nat.succ_mul,Nat.mul_comm (256 ^ m)] at h1
    omega
   have hdig : dig (l + m) (n' + n * 256 ^ l) = dig l n' ++ dig m n:=dig_append l m n' n f2
   have hwr : (h.t.get b).wr = true:=by rw [hblk]; rfl
   have hS : S = cap:=by omega
   by_cases hle : l + m ≤ cap
   · obtain ⟨w',cs',r1,r2,r3,r4,r5,r6,r7,r8,r9⟩:=run_storeCells_any (P:=P) (o:=l) ((dig m n).map fun b=>Value.int .u8 b.toNat) 0 cs w g1 (by omega)
      (fun k a b=>by rcases f4 with f4 | f4 <;> omega) (bytes_one _)
     obtain ⟨k1,k2⟩:=rehomeO rh hb hwr (w':=w') hnx r2 r3 r4 r5 r7 (fun _ _ e=>by rw [hblk] at e; cases e) (y:=.bs e0 (l + m) (n' + n * 256 ^ l)) (fun _ _ _ _ e=>by cases e) ⟨_,r6,⟨rfl,f1,hN,by omega,by rcases f4 with f4 | f4 <;> omega,fun i b hi=>by
      rw [hdig] at hi
      rw [r9]
      by_cases hil : i < l
      · rw [if_neg (by omega)]
        rw [List.getElem?_append_left (by rw [dig_length]; exact hil)] at hi
        exact f5 i b hi
      · rw [List.getElem?_append_right (by rw [dig_length]; omega),dig_length] at hi
        have him : i - l < m:=by have:=(List.getElem?_eq_some_iff.1 hi).1; rw [dig_length] at this; exact this
        rw [if_pos (by omega),List.getElem?_map]
        have e : i - (l + 0) = i - l:=by omega
        rw [e,hi]; rfl⟩,fun _=>⟨cs',_,_,rfl,by omega⟩⟩
     refine ⟨_,_,_,_,w',h12,run_append_in at_ hs.how hle (w':=w') (fun a ha=>?_) (fun e=>by cases e),?_,k1,k2⟩
     · cases ha
       rw [add_addr]
       simpa using r1
     · have:=VR.slice (o:=0) (l:=l + m) (cp:=none) (s:=1) (cap:=cap) (Rho.put_same ρ h.nx (c,0,S)) (fun m e=>by cases e) (fun _=>by omega) hle
       exact this
   · have hold : (Builtin.firstCells 1 l (.slice (some ⟨c,0 + 0,none⟩) l cap)).run P { w with drawn:=w.drawn + 1 } = .ok ((dig l n').map fun b=>Value.int .u8 b.toNat).toArray { w with drawn:=w.drawn + 1 }:=by
      have hl:=run_loadCells_list (P:=P) { w with drawn:=w.drawn + 1 } ⟨c,0,none⟩ ((dig l n').map fun b=>Value.int .u8 b.toNat) (fun j v hj=>by
       rw [add_addr]
       rw [List.getElem?_map] at hj
       obtain ⟨b,hb1,rfl⟩:=Option.map_eq_some_iff.1 hj
       simp only [World.cell?,g1,Nat.zero_add]
       simpa using f5 j b hb1)
      rw [List.length_map,dig_length] at hl
      simpa [Builtin.firstCells] using hl
     obtain ⟨cap',hcap',hrun⟩:=run_append_grow (u:=u) at_ hs.how hold (by omega) hsm hz
     obtain ⟨d1,d2⟩:=drop_block rh hb hwr
     have d3:=d1.drew (w.drawn + 1)
     have d4:=d2.trans (Ext.drew ρ (h.turn b .none) w (w.drawn + 1))
     let cs2 : Array Value:=((dig l n').map fun b=>Value.int .u8 b.toNat).toArray ++ ((dig m n).map fun b=>Value.int .u8 b.toNat).toArray ++ Builtin.zeroCells z1.cells (cap' - (l + m))
     have hcs2 : cs2.size = cap':=by
      show (((dig l n').map fun b=>Value.int .u8 b.toNat).toArray ++ ((dig m n).map fun b=>Value.int .u8 b.toNat).toArray ++ Builtin.zeroCells z1.cells (cap' - (l + m))).size = _
      rw [Array.size_append,Array.size_append,zeroCells_size,hzs]
      simp only [List.size_toArray,List.length_map,dig_length]
      omega
     obtain ⟨k1,k2⟩:=alloc d3 (x:=.ob (.bs e0 (l + m) (n' + n * 256 ^ l))) hnx (o:=.cells cs2 e0) (S:=cs2.size) (fun g n t ro e=>by cases e) (fun x' e=>by
      cases e
      refine ⟨rfl,f1,hN,by omega,.inl rfl,fun i b hi=>?_⟩
      rw [hdig] at hi
      show (((dig l n').map fun b=>Value.int .u8 b.toNat).toArray ++ ((dig m n).map fun b=>Value.int .u8 b.toNat).toArray ++ Builtin.zeroCells z1.cells (cap' - (l + m)))[i]? = _
      have hi' : i < l + m:=by have:=(List.getElem?_eq_some_iff.1 hi).1; rw [List.length_append,dig_length,dig_length] at this; exact this
      rw [Array.getElem?_append_left (by simp only [Array.size_append,List.size_toArray,List.length_map,dig_length]; exact hi'),List.append_toArray,List.getElem?_toArray,← List.map_append,List.getElem?_map,hi]; rfl) (fun x' e=>by cases e; exact fun _=>⟨cs2,_,_,rfl,rfl⟩)
     refine ⟨_,_,_,.slice (some ⟨w.heap.size,0,none⟩) (l + m) cap',_,h12,hrun,?_,k1,d4.trans k2⟩
     have:=VR.slice (o:=0) (l:=l + m) (cp:=none) (s:=1) (cap:=cap') (Rho.put_same ρ (h.turn b .none).nx (w.heap.size,0,cs2.size)) (fun m e=>by cases e) (fun _=>by omega) hcap'
     simpa using this
 · rw [hv.nils_inv]
   rw [zk_eq] at h1
   split at h1
   · subst m
     exact .pure rh ⟨_,.slice none 0 0,h1,run_append_in at_ hs.how (by omega) (w':=w) (fun a e=>by cases e) (fun _=>rfl),.nils⟩
   · rename_i hm
     obtain ⟨hsm,h2⟩:=ifk_fail h1 hr
     have hsm : m ≤ 16777216:=Nat.le_of_ble_eq_true hsm
     obtain ⟨cap',hcap',hrun⟩:=run_append_grow (u:=u) (l:=0) (cap:=0) (base:=none) (old:=#[]) at_ hs.how rfl (by omega) (by omega) hz
     rw [Nat.zero_add] at hrun
     obtain ⟨nx,hnx,h12⟩:=Heap.newk_ok h2 hr
     let cs2 : Array Value:=#[] ++ ((dig m n).map fun (b : UInt8)=>Value.int .u8 b.toNat).toArray ++ Builtin.zeroCells z1.cells (cap' - m)
     have hcs2 : cs2.size = cap':=by
      show (#[] ++ ((dig m n).map fun (b : UInt8)=>Value.int .u8 b.toNat).toArray ++ Builtin.zeroCells z1.cells (cap' - m)).size = _
      rw [Array.size_append,Array.size_append,zeroCells_size,hzs]
      simp only [List.size_toArray,List.length_map,dig_length]
      simp; omega
     obtain ⟨k1,k2⟩:=alloc (rh.drew (w.drawn + 1)) (x:=.ob (.bs el m n)) hnx (o:=.cells cs2 el) (S:=cs2.size) (fun g n t ro e=>by cases e) (fun x' e=>by
      cases e
      refine ⟨rfl,hc1,hs.lt,by omega,.inl rfl,fun i b hi=>?_⟩
      show (#[] ++ ((dig m n).map fun (b : UInt8)=>Value.int .u8 b.toNat).toArray ++ Builtin.zeroCells z1.cells (cap' - m))[i]? = _
      have hi' : i < m:=by have:=(List.getElem?_eq_some_iff.1 hi).1; rw [dig_length] at this; exact this
      rw [Array.getElem?_append_left (by simp only [Array.size_append,List.size_toArray,List.length_map,dig_length]; simp; exact hi'),Array.empty_append,List.getElem?_toArray,List.getElem?_map,hi]; rfl) (fun x' e=>by cases e; exact fun _=>⟨cs2,_,_,rfl,rfl⟩)
     refine ⟨_,_,_,.slice (some ⟨w.heap.size,0,none⟩) m cap',_,h12,hrun,?_,k1,(Ext.drew ρ h w (w.drawn + 1)).trans k2⟩
     have:=VR.slice (o:=0) (l:=m) (cp:=none) (s:=1) (cap:=cap') (Rho.put_same ρ h.nx (w.heap.size,0,cs2.size)) (fun m e=>by cases e) (fun _=>by omega) (by omega)
     simpa using this
 · exact absurd h1.symm hr
theorem sAppB_ok {s : Bool} {el : Nat} {x y : V} {h : Heap} {k : V→Heap→Res} {r : Res} (hh : sAppB s el x y h k = r) (hr : r ≠ .fail) {ρ : Rho} {w : World} (rh : RH P ρ h w) {v yv : Value}
 (hv : VR ρ x v) (hy : VR ρ y yv) {ts : Array TypeId} {ty u : TypeId} (at_ : AppT P ts ty el 1) {u1 : TypeId} {d : TypeDesc} (h1 : ts[1]? = some u1) (h2 : P.underlying u1 = some d) (h3 : (d matches .int _) = false) :
 Ok P ρ h w (Builtin.append_ ts u #[v,yv]) k r:=by
 cases s with
 | false=>
   obtain ⟨m,n,g1,g2⟩:=numBk_ok (P:=P) (k:=fun m n=>appBk el x m n h k) hh hr rh hy h1 h2 h3 (e:=el)
   exact appBk_ok g1 hr rh hv g2 at_
 | true=>
   obtain ⟨m,n,g1,g2⟩:=numSk_ok (P:=P) (w:=w) (k:=fun m n=>appBk el x m n h k) hh hr hy h1 h2 h3 (e:=el)
   exact appBk_ok g1 hr rh hv g2 at_
noncomputable def sUsd (x : V) (h : Heap) (k : V→Heap→Res) : Res:=slk x (fun b o l _ _=>ifk (Nat.blt 0 l) (k (.ptr b o) h) .fail) (k .nilp h) .fail
theorem sUsd_ok {x : V} {h : Heap} {k : V→Heap→Res} {r : Res} (hh : sUsd x h k = r) (hr : r ≠ .fail) {ρ : Rho} {w : World} {v : Value} (hv : VR ρ x v) {ts : Array TypeId} {t : TypeId} :
 OkP P ρ h w (Builtin.unsafeSliceData_ ts t #[v]) k r:=by
 rcases slk_ok hh hr with ⟨b,o,l,cp,s,rfl,h1⟩ | ⟨rfl,h1⟩ | ⟨rfl,h1⟩
 · obtain ⟨c,z,S,cap,hb,_,_,hlc,rfl⟩:=hv.slice_inv
   obtain ⟨h2,h3⟩:=ifk_fail h1 hr
   have h2 : 0 < l:=by simpa [Nat.blt_eq] using h2
   exact ⟨_,_,h3,Lib.run_unsafeSliceData_row w ts t _ l cap (by omega),.ptr hb⟩
 · rw [hv.nils_inv]
   exact ⟨_,.pointer none,h1,Lib.run_unsafeSliceData_nil w ts t 0 0,.nilp⟩
 · exact absurd h1.symm hr
noncomputable def nilork (x : V) (z : Res) (k : Bid→Nat→Res) : Res:=pnk x fun b=>Bool.rec (motive:=fun _=>Res) (ptrk x k) z b
theorem nilork_ok {x : V} {z : Res} {k : Bid→Nat→Res} {r : Res} (h : nilork x z k = r) (hr : r ≠ .fail) {ρ : Rho} {v : Value} (hv : VR ρ x v) : (v = .pointer none∧z = r) ∨ ∃ b o,x = .ptr b o∧k b o = r:=by
 rcases pnk_ok h hr hv with ⟨h1,h2⟩ | ⟨_,_,h2⟩
 · exact .inl ⟨h1,h2⟩
 · obtain ⟨b,o,h3,h4⟩:=ptrk_ok h2 hr
   exact .inr ⟨b,o,h3,h4⟩
noncomputable def sUstr (el : Nat) (x n : V) (h : Heap) (k : V→Heap→Res) : Res:=
 castI .i64 n fun i=>natk i fun m=>nilork x (zk m (k (.str 0 0) h) .fail) fun b o=>zk o (ifk (Nat.blt 0 m) (h.getk b fun blk=>bsk blk fun el' l' n'=>
  ifk (Nat.beq el el') (ifk (Nat.beq m l') (ifk (Nat.ble m 16777216) (h.turnk b (.ob (.bs el' l' n')) fun h'=>k (.str l' n') h') .fail) .fail) .fail) .fail) .fail
theorem freeze_heap {w : World} {c m : Nat} {cs : Array Value} {e : TypeId} {lo hi : Nat} (hm : m ≠ 0) (h : w.heap[c]? = some (.cells cs e (lo,hi))) :
 (w.freeze ⟨c,0,none⟩ m).heap[c]? = some (.cells cs e (if lo == hi then (0,0 + m) else (min lo 0,max hi (0 + m))))∧(∀ k,k ≠ c→(w.freeze ⟨c,0,none⟩ m).heap[k]? = w.heap[k]?)∧(w.freeze ⟨c,0,none⟩ m).heap.size = w.heap.size:=by
 unfold World.freeze
 rw [if_neg hm]
 refine ⟨by simp only [Array.getElem?_modify,h,if_true,Option.map_some],fun k hk=>?_,by simp⟩
 simp only [Array.getElem?_modify]
 rw [if_neg fun e=>hk e.symm]
theorem sUstr_ok {el : Nat} {x n : V} {h : Heap} {k : V→Heap→Res} {r : Res} (hh : sUstr el x n h k = r) (hr : r ≠ .fail) {ρ : Rho} {w : World} (rh : RH P ρ h w) {v nv : Value}
 (hv : VR ρ x v) (hn : VR ρ n nv) {pt it t : TypeId} (hp : P.underlying pt = some (.pointer el)) (hc : P.cellsOf el = 1) : Ok P ρ h w (Builtin.unsafeString_ #[pt,it] t #[v,nv]) k r:=by
 obtain ⟨k0,i,rfl,h1⟩:=intk_ok (show intk n (fun k0 i=>ksel .i64 k0 _) = r from hh) hr
 obtain ⟨rfl,h2⟩:=ksel_ok h1 hr
 obtain ⟨m,rfl,h3⟩:=natk_ok h2 hr
 cases hn
 rcases nilork_ok h3 hr hv with ⟨rfl,h4⟩ | ⟨b,o,rfl,h4⟩
 · obtain ⟨rfl,h5⟩:=zk_fail h4 hr
   exact .pure rh ⟨_,.string .empty,h5,Lib.run_unsafeString_none w pt it t none,.str rfl (by simp)⟩
 · obtain ⟨rfl,h5⟩:=zk_fail h4 hr
   obtain ⟨h6,h7⟩:=ifk_fail h5 hr
   have h6 : 0 < m:=by simpa [Nat.blt_eq] using h6
   rw [Heap.getk_eq] at h7
   obtain ⟨el',l',n',hblk,h8⟩:=bsk_ok h7 hr
   obtain ⟨h9,h10⟩:=ifk_fail h8 hr
   obtain rfl:=Nat.eq_of_beq_eq_true h9
   obtain ⟨h11,h12⟩:=ifk_fail h10 hr
   obtain rfl:=Nat.eq_of_beq_eq_true h11
   obtain ⟨h13,h14⟩:=ifk_fail h12 hr
   have h13 : m ≤ 16777216:=Nat.le_of_ble_eq_true h13
   rw [Heap.turnk_eq] at h14
   cases hv with
   | ptr hb=>
     rename_i c z S
     obtain ⟨ob,g1,g2,rfl,g3⟩:=rh.ob b c z S _ hb hblk
     obtain ⟨cs,e0,fz,rfl,g4⟩:=g3 rfl
     obtain ⟨rfl,f1,f2,f3,f4,f5⟩:=g2
     have hlt:=rh.lt _ _ _ _ hb
     have hwr : (h.t.get b).wr = true:=by rw [hblk]; rfl
     have hlen : (dig m n').length = m:=dig_length _ _
     have hne : dig m n' ≠ []:=by intro e; rw [e] at hlen; simp at hlen; omega
     have run:=Lib.run_unsafeString_row (P:=P) w pt it t e0 hp hc (g:=c) (cells:=cs.size) (by simp [World.shape?,g1]) (dig m n') hne (by omega) (by omega) (fun j x hj=>by
      rw [add_addr]
      simp only [World.cell?,g1,Nat.zero_add]
      simpa using f5 j x hj)
     rw [hlen] at run
     have hm0 : m ≠ 0:=by omega
     obtain ⟨lo,hi⟩:=fz
     obtain ⟨hnew,hoth,hsz⟩:=freeze_heap hm0 g1
     obtain ⟨k1,k2⟩:=turn rh hb hwr (w':=w.freeze ⟨c,0,none⟩ m) (x:=.ob (.bs e0 m n')) (o:=.cells cs e0 (if lo == hi then (0,0 + m) else (min lo 0,max hi (0 + m))))
      (by simp [World.freeze,hm0]) (by simp [World.freeze,hm0]) (by simp [World.freeze,hm0]) hsz hnew hoth
      (fun g' n'' t'' ro' e=>by cases e) (fun es e=>by
        cases e
        refine ⟨⟨rfl,f1,f2,f3,.inr ?_,f5⟩,rfl⟩
        rcases f4 with f4 | f4
        · have f4 : lo = hi:=f4
          subst f4
          simp
        · have f4 : hi ≤ m:=f4
          split
          · simp
          · simp only; omega) (fun _ _ _ e=>by rw [hblk] at e; cases e) (fun es e=>by cases e; exact fun _=>⟨cs,_,_,rfl,g4⟩)
     exact ⟨_,_,ρ,.string ⟨(dig m n').toArray⟩,_,h14,run,.str rfl f2,k1,k2⟩
noncomputable def memn (x : Nat) (l : List Nat) : Bool:=List.rec (motive:=fun _=>Bool) false (fun y _ ih=>Bool.rec (motive:=fun _=>Bool) ih true (Nat.beq x y)) l
theorem memn_eq (x : Nat) (l : List Nat) : memn x l = l.contains x:=by
 induction l with
 | nil=>rfl
 | cons y l ih=>
   show Bool.rec (motive:=fun _=>Bool) (memn x l) true (Nat.beq x y) = _
   rw [ih,nbeq,List.contains_cons]
   cases (x == y) <;> rfl
noncomputable def stk (x : Blk) (k : Nat→Nat→Res) : Res:=
 Blk.rec (motive:=fun _=>Res) .fail (fun _ _ _ _=>.fail) (fun y=>Oth.rec (motive:=fun _=>Res) (fun _ _=>.fail) (fun _ _ _=>.fail) (fun _ _ _ _ _=>.fail) (fun _ _ _ _=>.fail) (fun el g _=>k el g) (fun _ _ _=>.fail) (fun _=>.fail) y) x
theorem stk_ok {x : Blk} {k : Nat→Nat→Res} {r : Res} (h : stk x k = r) (hr : r ≠ .fail) : ∃ el g t,x = .ob (.st el g t)∧k el g = r:=by
 cases x with
 | ob y=>
   cases y
   case st el g t=>exact ⟨el,g,t,rfl,h⟩
   all_goals exact absurd h.symm hr
 | _=>exact absurd h.symm hr
noncomputable def sToU (x : V) (h : Heap) (k : V→Heap→Res) : Res:=nilork x (k .nilp h) fun b o=>h.getk b fun blk=>stk blk fun _ g=>ifk (Nat.blt o g) (k (.ptr b o) h) .fail
theorem sToU_ok {x : V} {h : Heap} {k : V→Heap→Res} {r : Res} (hh : sToU x h k = r) (hr : r ≠ .fail) {ρ : Rho} {w : World} (rh : RH P ρ h w) {v : Value} (hv : VR ρ x v) {s d t : TypeId}
 (hs : P.underlying s = some (.pointer t)) (hd : P.underlying d = some .unsafePointer) {n : Nat} (ht : sz P t = some n) (h0 : n ≠ 0) : OkP P ρ h w (convert s d v) k r:=by
 rcases nilork_ok hh hr hv with ⟨rfl,h4⟩ | ⟨b,o,rfl,h4⟩
 · refine ⟨_,.pointer none,h4,?_,.nilp⟩
   simp [convert,run_und hs,run_und hd,Conv.unsafePointer]
 · rw [Heap.getk_eq] at h4
   obtain ⟨el,g,t',hblk,h5⟩:=stk_ok h4 hr
   obtain ⟨h6,h7⟩:=ifk_fail h5 hr
   have h6 : o < g:=by simpa [Nat.blt_eq] using h6
   cases hv with
   | ptr hb=>
     rename_i c z S
     obtain ⟨ob,g1,g2,rfl,g3⟩:=rh.ob b c z S _ hb hblk
     obtain ⟨cs,e0,fz,rfl,g4⟩:=g3 rfl
     obtain ⟨rfl,f1,f2,f3,f4,f5⟩:=g2
     obtain ⟨j,hj,rfl⟩:=Option.map_eq_some_iff.1 ht
     exact ⟨_,_,h7,Lib.run_to_unsafe w (e:=e0) (cells:=cs.size) ⟨c,0 + o,none⟩ hs hd hj h0 (by simp [World.shape?,g1]) (by show 0 + o < cs.size; omega),.ptr hb⟩
noncomputable def sFromU (els : List Nat) (x : V) (h : Heap) (k : V→Heap→Res) : Res:=
 nilork x (k .nilp h) fun b o=>zk o (h.getk b fun blk=>stk blk fun el _=>ifk (memn el els) (k (.ptr b 0) h) .fail) .fail
theorem sFromU_ok {els : List Nat} {x : V} {h : Heap} {k : V→Heap→Res} {r : Res} (hh : sFromU els x h k = r) (hr : r ≠ .fail) {ρ : Rho} {w : World} (rh : RH P ρ h w) {v : Value} (hv : VR ρ x v) {s d t : TypeId}
 (hs : P.underlying s = some .unsafePointer) (hd : P.underlying d = some (.pointer t)) {n : Nat} (ht : sz P t = some n) (he : ∀ e ∈ els,liesAt P P.depth e 1 0 t 1 = true) : OkP P ρ h w (convert s d v) k r:=by
 rcases nilork_ok hh hr hv with ⟨rfl,h4⟩ | ⟨b,o,rfl,h4⟩
 · refine ⟨_,.pointer none,h4,?_,.nilp⟩
   simp [convert,run_und hs,run_und hd,Conv.unsafePointer]
 · obtain ⟨rfl,h4⟩:=zk_fail h4 hr
   rw [Heap.getk_eq] at h4
   obtain ⟨el,g,t',hblk,h5⟩:=stk_ok h4 hr
   obtain ⟨h6,h7⟩:=ifk_fail h5 hr
   rw [memn_eq] at h6
   have h6 : el ∈ els:=by simpa using h6
   cases hv with
   | ptr hb=>
     rename_i c z S
     obtain ⟨ob,g1,g2,rfl,g3⟩:=rh.ob b c z S _ hb hblk
     obtain ⟨cs,e0,fz,rfl,g4⟩:=g3 rfl
     obtain ⟨rfl,f1,f2,f3,f4,f5⟩:=g2
     obtain ⟨j,hj,rfl⟩:=Option.map_eq_some_iff.1 ht
     have hcells : cs.size / P.cellsOf e0 = 1:=by rw [f4,f3]; exact Nat.div_self f2
     exact ⟨_,_,h7,Lib.run_from_unsafe w (e:=e0) (cells:=cs.size) ⟨c,0 + 0,none⟩ hs hd hj (by simp [World.shape?,g1]) (by rw [hcells]; exact he e0 h6),.ptr hb⟩
noncomputable def sSame (x : V) (h : Heap) (k : V→Heap→Res) : Res:=k x h
theorem sSame_ok {x : V} {h : Heap} {k : V→Heap→Res} {r : Res} (hh : sSame x h k = r) {ρ : Rho} {w : World} {v : Value} (hv : VR ρ x v)
 {g : Nat} (hg : extF P g "internal/abi.NoEscape" = true) : ∃ u y,k u h = r∧(callFunc g #[v]).run P w = .ok (.value y) w∧VR ρ u y:=by
 obtain ⟨fn,h1,h2,h3,h4⟩:=extF_ok hg
 refine ⟨_,_,hh,?_,hv⟩
 rw [run_callFunc_standIn h1 (by rw [h3]; decide) h2 (findNext_of h3 h4 (by kernel_rfl) next_none) (e:=Extern.AbiNoEscape.same) (find_of h3 (by kernel_rfl) (by kernel_rfl) (by kernel_rfl))]
 rfl
def selfB (P : Program) (t : TypeId) : Bool:=match P.underlying t with
 | some (.struct fs)=>match fs.toList with
   | [f,g]=>(match P.underlying f.type with | some (.pointer t')=>t' == t | _=>false) && (match P.underlying g.type with | some (.slice e)=>sz P e == some 1 | _=>false)
   | _=>false
 | _=>false
def bldT (P : Program) (t : TypeId) : Bool:=match P.underlying t with
 | some (.struct fs)=>match fs.toList with
   | [f]=>selfB P f.type
   | [_,_]=>selfB P t
   | _=>false
 | _=>false
noncomputable def sAllocT (el g : Nat) (l : List V) (h : Heap) (k : V→Heap→Res) : Res:=h.newk (.ob (.st el g (.lf l))) fun b h'=>k (.ptr b 0) h'
theorem stc_lf {ρ : Rho} {g : Nat} {l : List V} {cs : Array Value} (hl : VRs ρ l cs.toList) (h1 : ∀ y ∈ cs.toList,y.oneCell' = true) (hg : l.length = g) : StcR ρ g (.lf l) cs:=by
 intro j ch hj
 simp only [T.get] at hj
 split at hj
 · subst j
   cases hj
   refine ⟨by omega,hg,fun i v hi=>?_⟩
   obtain ⟨x,h4,h5⟩:=hl.get hi
   rw [Array.getElem?_toList] at h4
   exact ⟨x,by simpa using h4,h5,h1 x (by rw [Array.mem_toList_iff]; exact Array.mem_of_getElem? h4)⟩
 · cases hj
theorem sAllocT_ok {t g : Nat} {l : List V} {h : Heap} {k : V→Heap→Res} {r : Res} (hh : sAllocT t g l h k = r) (hr : r ≠ .fail) {ρ : Rho} {w : World} (rh : RH P ρ h w) {z : Value}
 (hz : (P.info? t).bind (·.zero) = some z) (hl : VRs ρ l z.cells.toList) (h1 : ∀ y ∈ z.cells.toList,y.oneCell' = true) (hg : l.length = g) (hpos : 0 < g) (hs : sz P t = some g) :
 Ok P ρ h w (Instr.alloc t true (.tuple #[])) k r:=by
 obtain ⟨nx,h2,h3⟩:=Heap.newk_ok hh hr
 have hlen : l.length = z.cells.size:=by have:=hl.length; simpa using this
 have hc : P.cellsOf t = g:=by unfold sz at hs; simp [Program.cellsOf,hs]
 obtain ⟨d1,d2⟩:=alloc rh h2 (x:=.ob (.st t g (.lf l))) (o:=.cells z.cells t) (S:=z.cells.size) (fun g n t ro e=>by cases e) (fun x' e=>by
  cases e
  exact ⟨rfl,rfl,hpos,by omega,hc,stc_lf hl h1 hg⟩) (fun x' e=>by cases e; exact fun _=>⟨z.cells,_,_,rfl,rfl⟩)
 exact ⟨_,_,_,.pointer (some ⟨w.heap.size,0,none⟩),_,h3,by simp [Instr.alloc,run_zero hz,newVar,newRow],VR.ptr_new _ _ _ _,d1,d2⟩
noncomputable def sClr (sz : Nat) (z : List V) (x : V) (h : Heap) (k : V→Heap→Res) : Res:=
 slk x (fun b o l _ _=>repk z l fun zs=>storek h b o (Nat.mul l sz) zs fun h'=>k (.tup []) h') (k (.tup []) h) (k (.tup []) h)
theorem sClr_ok {s : Nat} {z : List V} {x : V} {h : Heap} {k : V→Heap→Res} {r : Res} (hh : sClr s z x h k = r) (hr : r ≠ .fail) {ρ : Rho} {w : World} (rh : RH P ρ h w) {v : Value} (hv : VR ρ x v)
 {ts : Array TypeId} {t e : TypeId} (u : TypeId) (ht : ts[0]? = some t) (hu : P.underlying t = some (.slice e)) {zv : Value} (hz : (P.info? e).bind (·.zero) = some zv) (hzr : ∀ ρ,VRs ρ z zv.cells.toList)
 (hzl : z.length = s) (hpos : 0 < s) (hz1 : ∀ y ∈ zv.cells.toList,y.oneCell' = true) : Ok P ρ h w (Builtin.clear_ ts u #[v]) k r:=by
 rcases slk_ok hh hr with ⟨b,o,l,cp,s',rfl,h1⟩ | ⟨rfl,h1⟩ | ⟨rfl,h1⟩
 · obtain ⟨c,zo,S,cap,hb,_,_,_,rfl⟩:=hv.slice_inv
   rw [repk_eq] at h1
   have hlen : (List.replicate l z).flatten.length = Nat.mul l s:=by
    rw [show Nat.mul l s = l * s from rfl,← hzl]; simp
   obtain ⟨h',h2,h3⟩:=storek_ok (P:=P) hlen h1 hr rh hb
   obtain ⟨w',h4,h5,h6⟩:=h3 (Builtin.zeroCells zv.cells l).toList (zeroCells_vr (hzr ρ) (by omega) l) (zeroCells_one hz1 l)
   refine ⟨_,h',ρ,.tuple #[],w',h2,?_,.tup .nil,h5,h6⟩
   cases l with
   | zero=>
     have e0 : (Builtin.zeroCells zv.cells 0).toList = []:=by simp [Builtin.zeroCells]
     rw [e0] at h4
     have : w' = w:=by
      have h7 : (storeCells ⟨c,zo + o,none⟩ []).run P w = .ok () w:=rfl
      rw [h7] at h4; cases h4; rfl
     subst this
     simp [Builtin.clear_,ht,Sem.run_bind,run_und hu,Sem.run_pure]
   | succ l=>simp [Builtin.clear_,ht,Sem.run_bind,run_und hu,run_zero hz,h4,Sem.run_pure]
 · rw [hv.nils_inv]
   exact ⟨_,h,ρ,.tuple #[],w,h1,by simp [Builtin.clear_,ht,Sem.run_bind,run_und hu,Sem.run_pure],.tup .nil,rh,.refl _ _ _⟩
 · cases hv
   exact ⟨_,h,ρ,.tuple #[],w,h1,by simp [Builtin.clear_,ht,Sem.run_bind,run_und hu,Sem.run_pure],.tup .nil,rh,.refl _ _ _⟩
end Go.Ev

/- EVALUATOR: '==' and '!=' on structs of texts. -/
namespace Go.Ev
variable {P : Program}
noncomputable def eqsk (l : List V) : List V→(Bool→Res)→Res:=
 List.rec (motive:=fun _=>List V→(Bool→Res)→Res) (fun m k=>nilk' m (k true))
  (fun v _ ih m k=>unc m fun u m=>strk v fun a b=>strk u fun a' b'=>Bool.rec (motive:=fun _=>Res) (k false) (ih m k) (Go.Ev.seq a b a' b')) l
noncomputable def sEqA (o : BinOp) (n : Nat) (x y : V) (h : Heap) (k : V→Heap→Res) : Res:=aggk x fun i l=>aggk y fun _ m=>ifk (Nat.beq i n) (eqsk l m fun q=>notIf o q fun u=>k u h) .fail
def isStrT (P : Program) (t : TypeId) : Bool:=match P.underlying t with
 | some .string=>true
 | _=>false
theorem isStrT_ok {t : TypeId} (h : isStrT P t = true) : P.underlying t = some .string:=by
 unfold isStrT at h
 split at h
 · assumption
 · cases h
def strFs (P : Program) : Nat→List Field→Bool
 | _,[]=>true
 | i,f :: fs=>f.name != "_" && isStrT P f.type && scal P f.type && f.offset == i && strFs P (i + 1) fs
def strSt (P : Program) (t : TypeId) : Option Nat:=
 match P.underlying t with
 | some (.struct fs)=>if strFs P 0 fs.toList && !P.stoodInHeld t && !P.eqGuardType P.depth t then some fs.size else none
 | _=>none
theorem eqsk_ok {ρ : Rho} {k : Bool→Res} {r : Res} {xs ys : List Value} (hr : r ≠ .fail) : ∀ {l m : List V} {a b : List Value},eqsk l m k = r→VRs ρ l a→VRs ρ m b→∃ q,k q = r ∧
 ∀ (d : Nat) (w : World) (i : Nat) (fs : List Field),strFs P i fs = true→fs.length = a.length→(∀ j,xs[i + j]? = a[j]?)→(∀ j,ys[i + j]? = b[j]?)→(Op.eqFields (d + 1) xs.toArray ys.toArray fs).run P w = .ok q w
 | [],m,a,b,hh,ha,hb=>by
   obtain ⟨rfl,h1⟩:=nilk'_ok (show nilk' m (k true) = r from hh) hr
   cases ha; cases hb
   refine ⟨true,h1,fun d w i fs _ hl _ _=>?_⟩
   have : fs = []:=List.length_eq_zero_iff.1 (by simpa using hl)
   subst this
   simp [Op.eqFields]
 | v :: l,m,a,b,hh,ha,hb=>by
   obtain ⟨u,m,rfl,h1⟩:=unc_ok (show unc m (fun u m=>strk v fun a b=>strk u fun a' b'=>Bool.rec (motive:=fun _=>Res) (k false) (eqsk l m k) (Go.Ev.seq a b a' b')) = r from hh) hr
   obtain ⟨l1,n1,rfl,h2⟩:=strk_ok h1 hr
   obtain ⟨l2,n2,rfl,h3⟩:=strk_ok h2 hr
   cases ha with | cons ha1 ha2=>
   cases hb with | cons hb1 hb2=>
   obtain ⟨s1,rfl,e1,e2⟩:=ha1.str_inv
   obtain ⟨s2,rfl,e3,e4⟩:=hb1.str_inv
   rename_i as bs
   have hq:=seq_eq e2 e4
   have hs : (s1 == s2) = Go.Ev.seq l1 n1 l2 n2:=by
    rw [hq,← e1,← e3]
    obtain ⟨⟨p⟩⟩:=s1
    obtain ⟨⟨q⟩⟩:=s2
    show ((⟨p⟩ : Array UInt8) == ⟨q⟩) = (p == q)
    simp
   have step : ∀ (d : Nat) (w : World) (i : Nat) (f : Field) (fs : List Field),strFs P i (f :: fs) = true→(∀ j,xs[i + j]? = (Value.string s1 :: as)[j]?)→(∀ j,ys[i + j]? = (Value.string s2 :: bs)[j]?) →
    (Op.eqFields (d + 1) xs.toArray ys.toArray (f :: fs)).run P w = (if Go.Ev.seq l1 n1 l2 n2 then (Op.eqFields (d + 1) xs.toArray ys.toArray fs).run P w else .ok false w)∧strFs P (i + 1) fs = true:=by
    intro d w i f fs hf hx hy
    simp only [strFs,Bool.and_eq_true,bne_iff_ne,ne_eq,beq_iff_eq] at hf
    obtain ⟨⟨⟨⟨f1,f2⟩,f3⟩,f4⟩,f5⟩:=hf
    have f2:=isStrT_ok f2
    refine ⟨?_,f5⟩
    have p1 : (part f.type xs.toArray f.offset).run P w = .ok (.string s1) w:=run_part1 f3 (by rw [f4]; have:=hx 0; simpa using this)
    have p2 : (part f.type ys.toArray f.offset).run P w = .ok (.string s2) w:=run_part1 f3 (by rw [f4]; have:=hy 0; simpa using this)
    have p3 : (Op.equalIn (d + 1) f.type (.string s1) (.string s2)).run P w = .ok (s1 == s2) w:=by simp [Op.equalIn,run_und f2]
    simp only [Op.eqFields,f1,ne_eq,not_false_eq_true,if_true,Sem.run_bind,p1,p2,p3,Result.andThen_ok,hs]
    cases Go.Ev.seq l1 n1 l2 n2 <;> simp
   cases hb : Go.Ev.seq l1 n1 l2 n2 with
   | false=>
     rw [hb] at h3
     refine ⟨false,h3,fun d w i fs hf hl hx hy=>?_⟩
     cases fs with
     | nil=>simp at hl
     | cons f fs=>
       rw [(step d w i f fs hf hx hy).1,hb]; rfl
   | true=>
     rw [hb] at h3
     obtain ⟨q,h4,h5⟩:=eqsk_ok hr (show eqsk l m k = r from h3) ha2 hb2
     refine ⟨q,h4,fun d w i fs hf hl hx hy=>?_⟩
     cases fs with
     | nil=>simp at hl
     | cons f fs=>
       obtain ⟨g1,g2⟩:=step d w i f fs hf hx hy
       rw [g1,hb,if_pos rfl]
       exact h5 d w (i + 1) fs g2 (by simpa using hl) (fun j=>by have:=hx (j + 1); rw [show i + 1 + j = i + (j + 1) by omega]; simpa using this) (fun j=>by have:=hy (j + 1); rw [show i + 1 + j = i + (j + 1) by omega]; simpa using this)
theorem sEqA_ok {o : BinOp} {n : Nat} {x y : V} {h : Heap} {k : V→Heap→Res} {r : Res} (hh : sEqA o n x y h k = r) (hr : r ≠ .fail) {ρ : Rho} {w : World} {a b : Value} (ha : VR ρ x a) (hb : VR ρ y b) {t : TypeId}
 (ht : strSt P t = some n) (X Y : Operand) :
 ∃ u z,k u h = r∧(do eqGuard o t X Y a b; binOp o t a b : Sem Value).run P w = .ok z w∧VR ρ u z∧z.oneCell' = true:=by
 obtain ⟨m1,l1,rfl,h1⟩:=aggk_ok hh hr
 obtain ⟨m2,l2,rfl,h2⟩:=aggk_ok h1 hr
 obtain ⟨hm,h5⟩:=ifk_fail h2 hr
 clear h2
 obtain rfl:=Nat.eq_of_beq_eq_true hm
 unfold strSt at ht
 split at ht
 · rename_i fs hu
   split at ht
   · rename_i hc
     simp only [Bool.and_eq_true,Bool.not_eq_true'] at hc
     obtain ⟨⟨t1,t2⟩,t3⟩:=hc
     have hsz:=Option.some.inj ht
     cases ha with | agg ha1 ha2 ha3=>
     cases hb with | agg hb1 hb2 hb3=>
     rename_i xs ys
     obtain ⟨q,h3,h4⟩:=eqsk_ok (P:=P) (xs:=xs.toList) (ys:=ys.toList) hr h5 ha1 hb1
     have hfo : P.fieldsOf t = fs:=by simp [Program.fieldsOf,hu]
     have hl:=ha1.length
     have he : (Op.equal t (.agg xs) (.agg ys)).run P w = .ok q w:=by
      show (Op.equalIn (9999 + 1) t (.agg xs) (.agg ys)).run P w = _
      rw [run_equalIn_struct w 9999 t xs ys (by rw [hfo]; exact hu) t2,hfo]
      have:=h4 9998 w 0 fs.toList t1 (by rw [Array.length_toList,hsz]; omega) (fun j=>by rw [Nat.zero_add]) (fun j=>by rw [Nat.zero_add])
      simpa using this
     have hg : (eqGuard o t X Y (.agg xs) (.agg ys)).run P w = .ok () w:=by
      unfold eqGuard
      cases o <;> first | rfl | simp [t3,run_program]
     exact eqop_ok (o:=o) (e:=q) (k:=fun u=>k u h) h3 hr (ρ:=ρ) hg he (eql_shape trivial).1 (eql_shape trivial).2
   · cases ht
 · cases ht
end Go.Ev

/- EVALUATOR: further operations, as they are prepared. -/
namespace Go.Ev
inductive EX where
 | rngS
 | nxtS
 | mkm
 | look (s ok : Bool) (z : V)
 | upd (s : Bool)
 | del (s : Bool)
 | lenM
 | tas (t : Nat) (ok : Bool) (z : V)
 | idxb
 | cmps
 | eqp (o : BinOp)
 | rngM
 | nxtM
 | entM
 | cloneM
 | capS
 | idxAN (n sz : Nat)
 | allocT (el g : Nat) (l : List V)
 | appB (s : Bool) (el : Nat)
 | usd
 | ustr (el : Nat)
 | toU
 | fromU (els : List Nat)
 | same
 | s2b
 | clr (s : Nat) (z : List V)
 | eqs (o : BinOp) (n : Nat)
def EX.light : EX→Bool
 | .rngS | .nxtS | .mkm | .upd _ | .del _ | .rngM | .nxtM | .cloneM | .allocT _ _ _ | .appB _ _ | .ustr _ | .s2b | .clr _ _=>false
 | _=>true
noncomputable def semEX (x : EX) : List V→Heap→(V→Heap→Res)→Res:=
 EX.rec (motive:=fun _=>List V→Heap→(V→Heap→Res)→Res)
  (fun l h k=>unc l fun v l=>nilk' l (sRngS v h k))
  (fun l h k=>unc l fun v l=>nilk' l (sNxtS v h k))
  sMkM
  (fun s ok z l h k=>unc l fun v l=>unc l fun u l=>nilk' l (sLook s ok z v u h k))
  (fun s l h k=>unc l fun v l=>unc l fun u l=>unc l fun x l=>nilk' l (sUpd s v u x h k))
  (fun s l h k=>unc l fun v l=>unc l fun u l=>nilk' l (sDel s v u h k))
  (fun l h k=>unc l fun v l=>nilk' l (sLenM v h k))
  (fun t ok z l h k=>unc l fun v l=>nilk' l (sTas t ok z v h k))
  (fun l h k=>unc l fun v l=>unc l fun u l=>nilk' l (sIdxB v u h k))
  (fun l h k=>unc l fun v l=>unc l fun u l=>nilk' l (sCmpS v u h k))
  (fun o l h k=>unc l fun v l=>unc l fun u l=>nilk' l (sEqP o v u h k))
  (fun l h k=>unc l fun v l=>nilk' l (sRngM v h k))
  (fun l h k=>unc l fun v l=>nilk' l (sNxtM v h k))
  (fun l h k=>unc l fun v l=>nilk' l (sEntM v h k))
  (fun l h k=>unc l fun v l=>nilk' l (sCloneM v h k))
  (fun l h k=>unc l fun v l=>nilk' l (sCapS v h k))
  (fun n s l h k=>unc l fun v l=>unc l fun u l=>nilk' l (sIdxAN n s v u h k))
  (fun el g t l h k=>nilk' l (sAllocT el g t h k))
  (fun s el l h k=>unc l fun v l=>unc l fun u l=>nilk' l (sAppB s el v u h k))
  (fun l h k=>unc l fun v l=>nilk' l (sUsd v h k))
  (fun el l h k=>unc l fun v l=>unc l fun u l=>nilk' l (sUstr el v u h k))
  (fun l h k=>unc l fun v l=>nilk' l (sToU v h k))
  (fun els l h k=>unc l fun v l=>nilk' l (sFromU els v h k))
  (fun l h k=>unc l fun v l=>nilk' l (sSame v h k))
  (fun l h k=>unc l fun v l=>nilk' l (sS2B v h k))
  (fun s z l h k=>unc l fun v l=>nilk' l (sClr s z v h k))
  (fun o n l h k=>unc l fun v l=>unc l fun u l=>nilk' l (sEqA o n v u h k))
  x
end Go.Ev

/- EVALUATOR: a long slice appended to one that is empty, in its room: the tree of the one is laid over the other's, with the parts that it leaves as they are. -/
namespace Go.Ev
variable {P : Program}
noncomputable def ovrk (s : T) : T→Nat→Nat→Nat→(T→Res)→Res:=
 T.rec (motive:=fun _=>T→Nat→Nat→Nat→(T→Res)→Res)
  (fun d m _ _ k=>zk m (k d) .fail)
  (fun c d m _ _ k=>zk m (k d) (ifk (Nat.beq m 1) (T.setk d 0 c k) .fail))
  (fun a b iha ihb d m ns nd k=>zk m (k d) (ifk (and (Nat.ble ns m) (Nat.ble nd m)) (k (.nd a b))
    (T.rec (motive:=fun _=>Res) .fail (fun _=>ifk (Nat.beq m 1) (T.getk (.nd a b) 0 fun ch=>k (.lf ch)) .fail)
      (fun c e9 _ _=>iha c (Nat.div (Nat.succ m) 2) (Nat.div (Nat.succ ns) 2) (Nat.div (Nat.succ nd) 2) fun a'=>ihb e9 (Nat.div m 2) (Nat.div ns 2) (Nat.div nd 2) fun b'=>k (.nd a' b')) d)))
  s
theorem ovrk_ok : ∀ {s d : T} {m ns nd : Nat} {k : T→Res} {r : Res},ovrk s d m ns nd k = r→r ≠ .fail→(∀ j ch,s.get j = some ch→j < ns)→(∀ j ch,d.get j = some ch→j < nd) →
 ∃ t',k t' = r∧∀ j,t'.get j = if j < m then s.get j else d.get j
 | .e,d,m,ns,nd,k,r,hh,hr,hs,hd=>by
   have hh : zk m (k d) .fail = r:=hh
   rw [zk_eq] at hh
   split at hh
   · subst m; exact ⟨d,hh,fun j=>by rw [if_neg (by omega)]⟩
   · exact absurd hh.symm hr
 | .lf c,d,m,ns,nd,k,r,hh,hr,hs,hd=>by
   have hh : zk m (k d) (ifk (Nat.beq m 1) (T.setk d 0 c k) .fail) = r:=hh
   rw [zk_eq] at hh
   split at hh
   · subst m; exact ⟨d,hh,fun j=>by rw [if_neg (by omega)]⟩
   · obtain ⟨h1,h2⟩:=ifk_fail hh hr
     obtain rfl:=Nat.eq_of_beq_eq_true h1
     rw [T.setk_eq] at h2
     cases e : d.set 0 c with
     | none=>rw [e] at h2; exact absurd h2.symm hr
     | some t'=>
       rw [e] at h2
       refine ⟨t',h2,fun j=>?_⟩
       rw [T.get_set e]
       by_cases hj : j = 0
       · subst hj; rfl
       · rw [if_neg hj,if_neg (by omega)]
 | .nd a b,d,m,ns,nd,k,r,hh,hr,hs,hd=>by
   have hh : zk m (k d) (ifk (and (Nat.ble ns m) (Nat.ble nd m)) (k (.nd a b))
    (T.rec (motive:=fun _=>Res) .fail (fun _=>ifk (Nat.beq m 1) (T.getk (.nd a b) 0 fun ch=>k (.lf ch)) .fail)
      (fun c e9 _ _=>ovrk a c (Nat.div (Nat.succ m) 2) (Nat.div (Nat.succ ns) 2) (Nat.div (Nat.succ nd) 2) fun a'=>ovrk b e9 (Nat.div m 2) (Nat.div ns 2) (Nat.div nd 2) fun b'=>k (.nd a' b')) d)) = r:=hh
   rw [zk_eq] at hh
   split at hh
   · subst m; exact ⟨d,hh,fun j=>by rw [if_neg (by omega)]⟩
   rcases ifk_ne hh with ⟨h1,h2⟩ | ⟨_,h2⟩
   · simp only [Bool.and_eq_true] at h1
     have l1:=Nat.le_of_ble_eq_true h1.1
     have l2:=Nat.le_of_ble_eq_true h1.2
     refine ⟨_,h2,fun j=>?_⟩
     by_cases hj : j < m
     · rw [if_pos hj]
     · rw [if_neg hj]
       have e1 : (T.nd a b).get j = none:=by
        cases e : (T.nd a b).get j with
        | none=>rfl
        | some ch=>have:=hs j ch e; omega
       have e2 : d.get j = none:=by
        cases e : d.get j with
        | none=>rfl
        | some ch=>have:=hd j ch e; omega
       rw [e1,e2]
   · cases d with
     | e=>exact absurd h2.symm hr
     | lf x=>
       obtain ⟨h3,h4⟩:=ifk_fail (show ifk (Nat.beq m 1) (T.getk (.nd a b) 0 fun ch=>k (.lf ch)) .fail = r from h2) hr
       obtain rfl:=Nat.eq_of_beq_eq_true h3
       obtain ⟨ch,h5,h6⟩:=T.getk_ok h4 hr
       refine ⟨_,h6,fun j=>?_⟩
       by_cases hj : j = 0
       · subst hj; rw [if_pos (by omega),h5]; rfl
       · rw [if_neg (by omega)]; simp [T.get,hj]
     | nd c e9=>
       have h2 : (ovrk a c ((m + 1) / 2) ((ns + 1) / 2) ((nd + 1) / 2) fun a'=>ovrk b e9 (m / 2) (ns / 2) (nd / 2) fun b'=>k (.nd a' b')) = r:=h2
       have ga : ∀ (x y : T) i,(T.nd x y).get (2 * i) = x.get i:=fun x y i=>by simp [T.get]
       have gb : ∀ (x y : T) i,(T.nd x y).get (2 * i + 1) = y.get i:=fun x y i=>by
        simp only [T.get]
        rw [if_neg (by omega)]; congr 1; omega
       obtain ⟨a',h3,ea⟩:=ovrk_ok h2 hr (fun i ch hi=>by have:=hs (2 * i) ch (by rw [ga]; exact hi); omega) (fun i ch hi=>by have:=hd (2 * i) ch (by rw [ga]; exact hi); omega)
       obtain ⟨b',h4,eb⟩:=ovrk_ok h3 hr (fun i ch hi=>by have:=hs (2 * i + 1) ch (by rw [gb]; exact hi); omega) (fun i ch hi=>by have:=hd (2 * i + 1) ch (by rw [gb]; exact hi); omega)
       refine ⟨_,h4,fun j=>?_⟩
       simp only [T.get]
       by_cases hj : j % 2 = 0
       · simp only [if_pos hj,ea]
         by_cases hm : j < m
         · rw [if_pos hm,if_pos (by omega)]
         · rw [if_neg hm,if_neg (by omega)]
       · simp only [if_neg hj,eb]
         by_cases hm : j < m
         · rw [if_pos hm,if_pos (by omega)]
         · rw [if_neg hm,if_neg (by omega)]
noncomputable def fullb (t : T) : Nat→Bool:=
 T.rec (motive:=fun _=>Nat→Bool) (fun m=>Nat.beq m 0) (fun _ m=>Nat.ble m 1)
  (fun _ _ ia ib m=>Nat.rec (motive:=fun _=>Bool) true (fun p _=>Bool.rec (motive:=fun _=>Bool) false (ib (Nat.div (Nat.succ p) 2)) (ia (Nat.succ (Nat.div p 2)))) m) t
theorem fullb_ok : ∀ {t : T} {m : Nat},fullb t m = true→∀ j,j < m→∃ ch,t.get j = some ch
 | .e,m,h,j,hj=>by
   have : m = 0:=Nat.eq_of_beq_eq_true h
   omega
 | .lf c,m,h,j,hj=>by
   have : m ≤ 1:=Nat.le_of_ble_eq_true h
   exact ⟨c,by simp only [T.get]; rw [if_pos (by omega)]⟩
 | .nd a b,m,h,j,hj=>by
   cases m with
   | zero=>omega
   | succ p=>
     have h : Bool.rec (motive:=fun _=>Bool) false (fullb b ((p + 1) / 2)) (fullb a (p / 2 + 1)) = true:=h
     have h1 : fullb a (p / 2 + 1) = true:=by
      cases e : fullb a (p / 2 + 1) with
      | true=>rfl
      | false=>rw [e] at h; cases h
     rw [h1] at h
     simp only [T.get]
     split
     · exact fullb_ok h1 _ (by omega)
     · exact fullb_ok h _ (by omega)
noncomputable def arrz (x : Blk) (k : Nat→Nat→T→Bool→Res) (z : Res) : Res:=Blk.rec (motive:=fun _=>Res) z (fun g n t ro=>k g n t ro) (fun _=>z) x
theorem arrz_or {x : Blk} {k : Nat→Nat→T→Bool→Res} {z r : Res} (h : arrz x k z = r) : z = r ∨ ∃ g n t ro,x = .arr g n t ro∧k g n t ro = r:=by
 cases x with
 | arr g n t ro=>exact .inr ⟨g,n,t,ro,rfl,h⟩
 | _=>exact .inl h
noncomputable def capok (c : Option Nat) (m : Nat) : Bool:=Option.rec (motive:=fun _=>Bool) true (fun cap=>Nat.ble m cap) c
noncomputable def bulkk (sz : Nat) (x y : V) (h : Heap) (k : V→Heap→Res) (z : Res) : Res:=
 slk x (fun b o l c s=>slk y (fun b2 o2 m _ _=>
  ifk (and (Nat.beq o 0) (and (Nat.beq l 0) (and (Nat.beq o2 0) (and (Nat.blt 16 m) (and (Nat.beq s sz) (Nat.ble m 16777216))))))
   (h.getk b fun x1=>arrz x1 (fun g n t ro=>h.getk b2 fun x2=>arrz x2 (fun g2 n2 t2 _=>
     ifk (and (Nat.beq g sz) (and (Nat.beq g2 sz) (and (Bool.not ro) (and (Nat.ble m n) (and (Nat.ble m n2) (and (capok c m) (fullb t2 m)))))))
      (ovrk t2 t m n2 n fun t'=>h.turnk b (.arr sz n t' false) fun h'=>k (.slice b 0 m c s) h') z) z) z) z) z z) z z
theorem bulkk_ok {sz : Nat} {x y : V} {h : Heap} {k : V→Heap→Res} {z r : Res} (hh : bulkk sz x y h k z = r) (hr : r ≠ .fail) {ρ : Rho} {w : World} (rh : RH P ρ h w) {v v' : Value} (hv : VR ρ x v) (hv' : VR ρ y v')
 {ts : Array TypeId} {ty e u u2 : TypeId} {d : TypeDesc} (at_ : AppT P ts ty e sz) (h1 : ts[1]? = some u2) (h2 : P.underlying u2 = some d) (h3 : (d matches .int _) = false) :
 z = r ∨ Ok P ρ h w (Builtin.append_ ts u #[v,v']) k r:=by
 rcases slk_ok hh hr with ⟨b,o,l,c,s,rfl,h4⟩ | ⟨_,h4⟩ | ⟨_,h4⟩
 rotate_left
 · exact .inl h4
 · exact .inl h4
 rcases slk_ok h4 hr with ⟨b2,o2,m,c2,s2,rfl,h5⟩ | ⟨_,h5⟩ | ⟨_,h5⟩
 rotate_left
 · exact .inl h5
 · exact .inl h5
 rcases ifk_ne h5 with ⟨e1,h6⟩ | ⟨_,h6⟩
 rotate_left
 · exact .inl h6
 simp only [Bool.and_eq_true] at e1
 obtain ⟨e1,e2,e3,e4,e5,e6⟩:=e1
 obtain rfl:=Nat.eq_of_beq_eq_true e1
 obtain rfl:=Nat.eq_of_beq_eq_true e2
 obtain rfl:=Nat.eq_of_beq_eq_true e3
 obtain rfl:=Nat.eq_of_beq_eq_true e5
 rw [Heap.getk_eq] at h6
 rcases arrz_or h6 with h7 | ⟨g,n,t,ro,hblk,h7⟩
 · exact .inl h7
 rw [Heap.getk_eq] at h7
 rcases arrz_or h7 with h8 | ⟨g2,n2,t2,ro2,hblk2,h8⟩
 · exact .inl h8
 rcases ifk_ne h8 with ⟨f1,h9⟩ | ⟨_,h9⟩
 rotate_left
 · exact .inl h9
 simp only [Bool.and_eq_true] at f1
 obtain ⟨f1,f2,f3,f4,f5,f6,f7⟩:=f1
 obtain rfl:=Nat.eq_of_beq_eq_true f1
 obtain rfl:=Nat.eq_of_beq_eq_true f2
 obtain rfl : ro = false:=by simpa using f3
 have f4 : m ≤ n:=Nat.le_of_ble_eq_true f4
 have f5 : m ≤ n2:=Nat.le_of_ble_eq_true f5
 right
 obtain ⟨cb,zb,S,cap,hb,hc1,hc2,hlc,rfl⟩:=hv.slice_inv
 obtain ⟨cd,zd,S2,cap2,hb2,hd1,hd2,hld,rfl⟩:=hv'.slice_inv
 obtain ⟨cs,ha⟩:=rh.arr b cb zb S _ n t false hb hblk
 obtain ⟨cs2,ha2⟩:=rh.arr b2 cd zd S2 _ n2 t2 ro2 hb2 hblk2
 have hpos:=at_.pos
 have hfull:=fullb_ok f7
 have hfits:=ha.fits
 have hfits2:=ha2.fits
 have hsz:=ha.size
 have hsz2:=ha2.size
 have hmn : m * g2 ≤ n * g2:=Nat.mul_le_mul_right g2 f4
 have hmn2 : m * g2 ≤ n2 * g2:=Nat.mul_le_mul_right g2 f5
 have hcap : m ≤ cap:=by
  cases c with
  | none=>
    have:=hc2 rfl
    have : m * g2 ≤ cap * g2:=by omega
    exact Nat.le_of_mul_le_mul_right this hpos
  | some c0=>
    have:=hc1 c0 rfl
    subst this
    exact Nat.le_of_ble_eq_true f6
 obtain ⟨t',h10,ht⟩:=ovrk_ok h9 hr (fun j ch hj=>(ha2.cells j ch hj).1) (fun j ch hj=>(ha.cells j ch hj).1)
 rw [Heap.turnk_eq] at h10
 obtain ⟨el,fz,k1,k2⟩:=ha.at_
 have k2:=k2 rfl
 obtain ⟨el2,fz2,k3,_⟩:=ha2.at_
 let xs : List Value:=(cs2.toList.drop zd).take (m * g2)
 have x1 : xs.length = m * g2:=by simp only [xs,List.length_take,List.length_drop,Array.length_toList]; omega
 have x2 : ∀ i,i < m * g2→xs[i]? = cs2[zd + i]?:=fun i hi=>by
  simp only [xs]
  rw [List.getElem?_take_of_lt hi,List.getElem?_drop,Array.getElem?_toList]
 have x3 : ∀ x ∈ xs,x.oneCell' = true:=fun x hx=>by
  obtain ⟨i,hi⟩:=List.getElem?_of_mem hx
  have hlt : i < m * g2:=by have:=(List.getElem?_eq_some_iff.1 hi).1; omega
  have hjm : i / g2 < m:=Nat.div_lt_of_lt_mul (by rw [Nat.mul_comm]; exact hlt)
  obtain ⟨ch,hch⟩:=hfull (i / g2) hjm
  obtain ⟨_,q2,q3⟩:=ha2.cells _ ch hch
  have hig:=Nat.mod_lt i hpos
  have hdm:=Nat.div_add_mod i g2
  obtain ⟨y,q4,_,q6⟩:=q3 (i % g2) ch[i % g2] (by simp [q2,hig])
  have e0 : zd + i / g2 * g2 + i % g2 = zd + i:=by rw [Nat.mul_comm (i / g2) g2]; omega
  rw [e0,← x2 i hlt,hi] at q4
  cases q4; exact q6
 have x4 : ∀ dr,(Builtin.firstCells g2 m (.slice (some ⟨cd,zd + 0,none⟩) m cap2)).run P { w with drawn:=dr } = .ok xs.toArray { w with drawn:=dr }:=fun dr=>by
  have:=run_loadCells_list (P:=P) { w with drawn:=dr } ⟨cd,zd + 0,none⟩ xs (fun j v hj=>by
   have hj' : j < m * g2:=by have:=(List.getElem?_eq_some_iff.1 hj).1; omega
   rw [add_addr]
   simp only [World.cell?,k3]
   rw [Nat.add_zero,← x2 j hj']
   exact hj)
  rw [x1] at this
  exact this
 obtain ⟨w',cs',r1,r2,r3,r4,r5,r6,r7,r8,r9⟩:=run_storeCells_any (P:=P) (o:=zb + 0) xs 0 cs w k1 (by omega) (fun i _ hi=>k2.not i (by omega)) x3
 obtain ⟨d1,d2⟩:=turn rh hb (by rw [hblk]; rfl) (x:=.arr g2 n t' false) (o:=.cells cs' el fz) (w':=w') r2 r3 r4 r5 r6 r7 (fun g' n' t'' ro' ee=>by
  cases ee
  refine ⟨cs',hpos,⟨el,fz,r6,fun _=>k2⟩,by omega,hfits,fun j ch hj=>?_⟩
  rw [ht] at hj
  split at hj
  · rename_i hjm
    obtain ⟨q1,q2,q3⟩:=ha2.cells j ch hj
    refine ⟨by omega,q2,fun i v hi=>?_⟩
    have hig : i < g2:=by have:=(List.getElem?_eq_some_iff.1 hi).1; omega
    obtain ⟨y,q4,q5,q6⟩:=q3 i v hi
    have hjm2 : (j + 1) * g2 ≤ m * g2:=Nat.mul_le_mul_right g2 hjm
    rw [Nat.succ_mul] at hjm2
    refine ⟨y,?_,q5,q6⟩
    rw [r9,if_pos (by omega),show zb + j * g2 + i - (zb + 0 + 0) = j * g2 + i by omega,x2 _ (by omega),← q4]
    congr 1; omega
  · rename_i hjm
    obtain ⟨q1,q2,q3⟩:=ha.cells j ch hj
    refine ⟨q1,q2,fun i v hi=>?_⟩
    obtain ⟨y,q4,q5,q6⟩:=q3 i v hi
    have hjm2 : m * g2 ≤ j * g2:=Nat.mul_le_mul_right g2 (by omega)
    refine ⟨y,?_,q5,q6⟩
    rw [r9,if_neg (by omega)]; exact q4) (fun _ ee=>by cases ee) (fun _ _ _ ee=>by rw [hblk] at ee; cases ee)
 have hrun:=run_append_in (P:=P) (w:=w) (u:=u) (base:=some ⟨cb,zb + 0,none⟩) (l:=0) (cap:=cap) at_ (How.src (P:=P) (sz:=g2) (n:=m) (xs:=xs.toArray) u2 d h1 h2 h3 rfl x4) (by omega) (w':=w') (fun a ha'=>by
  cases ha'
  rw [add_addr,Nat.zero_mul]
  exact r1) (fun ee=>by cases ee)
 rw [Nat.zero_add] at hrun
 exact ⟨_,_,ρ,_,w',h10,hrun,.slice hb hc1 hc2 hcap,d1,d2⟩
noncomputable def sApp (sz : Nat) (x y : V) (h : Heap) (k : V→Heap→Res) : Res:=
 ifk (Nat.blt 1 sz) (bulkk sz x y h k (srck sz y h fun m new=>appendk sz x m new h k)) (srck sz y h fun m new=>appendk sz x m new h k)
theorem sApp_ok {sz : Nat} {x y : V} {h : Heap} {k : V→Heap→Res} {r : Res} (hh : sApp sz x y h k = r) (hr : r ≠ .fail) {ρ : Rho} {w : World} (rh : RH P ρ h w) {v v' : Value} (hv : VR ρ x v) (hv' : VR ρ y v')
 {ts : Array TypeId} {ty e u u2 : TypeId} {d : TypeDesc} (at_ : AppT P ts ty e sz) (h1 : ts[1]? = some u2) (h2 : P.underlying u2 = some d) (h3 : (d matches .int _) = false) :
 Ok P ρ h w (Builtin.append_ ts u #[v,v']) k r:=by
 have old : (srck sz y h fun m new=>appendk sz x m new h k) = r→Ok P ρ h w (Builtin.append_ ts u #[v,v']) k r:=fun hh=>by
  obtain ⟨n,l,xs,h4,h5⟩:=srck_ok (P:=P) (k:=fun m new=>appendk sz x m new h k) hh hr rh hv'
  exact appendk_ok h4 hr rh hv (h5.h h1 h2 h3) at_
 rcases ifk_ne hh with ⟨_,h4⟩ | ⟨_,h4⟩
 · rcases bulkk_ok h4 hr rh hv hv' at_ h1 h2 h3 with h5 | h5
   · exact old h5
   · exact h5
 · exact old h4
end Go.Ev
