/- EvOps3: texts joined. -/
import Derived.Test.YtobbabhldblljaaGreatDoorEvAlloc
/- EVALUATOR, 12: append, copy. -/
namespace Go.Ev
variable {P : Program}
theorem rehome {ρ : Rho} {h : Heap} {w : World} (r : RH P ρ h w) {b : Bid} {c z S : Nat} (hb : ρ b = some (c,z,S)) (hwr : (h.t.get b).wr = true) {nx : Bid} (hn : h.nx.next = some nx)
 {w' : World} (hos : w'.os = w.os) (htape : w'.tape = w.tape) (hout : w'.output = w.output) (hsz : w'.heap.size = w.heap.size)
 (hne : ∀ k,k ≠ c→w'.heap[k]? = w.heap[k]?) (hnm : ∀ es clk,h.t.get b ≠ .ob (.mp es clk)) {z' g n : Nat} {t : T} {ro : Bool} (harr : ∃ cs,ArrR (ρ.put h.nx (c,z',S)) w' c z' S g n t ro cs) :
 RH P (ρ.put h.nx (c,z',S)) ((h.turn b .none).new (.arr g n t ro) nx) w'∧Ext ρ h w (ρ.put h.nx (c,z',S)) ((h.turn b .none).new (.arr g n t ro) nx) w':=by
 have hv:=Bid.next_val hn
 have hf:=r.fresh h.nx (Nat.le_refl _)
 have hle:=Rho.le_put (ρ:=ρ) hf.1 (c,z',S)
 have hbn : b ≠ h.nx:=by rintro rfl; rw [hf.1] at hb; cases hb
 have hlive : h.t.get b ≠ .none:=by intro e; rw [e] at hwr; cases hwr
 have get_old : ∀ b',b' ≠ h.nx→b' ≠ b→((h.turn b .none).new (.arr g n t ro) nx).t.get b' = h.t.get b':=by
  intro b' h1 h2
  simp only [Heap.new,Heap.turn]
  rw [HT.get_set_ne _ h1,HT.get_set_ne _ h2]
 have get_b : ((h.turn b .none).new (.arr g n t ro) nx).t.get b = .none:=by
  simp only [Heap.new,Heap.turn]
  rw [HT.get_set_ne _ hbn,HT.get_set]
 have get_nx : ((h.turn b .none).new (.arr g n t ro) nx).t.get h.nx = .arr g n t ro:=by simp only [Heap.new,Heap.turn]; rw [HT.get_set]
 have hnx : ((h.turn b .none).new (.arr g n t ro) nx).nx = nx:=rfl
 refine ⟨⟨?_,?_,?_,?_,?_,?_⟩,⟨hle,by rw [hnx]; omega,hos,htape,hout,by omega,?_,?_⟩⟩
 · intro b' c' z1 S1 h1
   rw [hsz]
   by_cases e : b' = h.nx
   · subst e; rw [Rho.put_same] at h1; cases h1; exact r.lt _ _ _ _ hb
   · rw [Rho.put_ne e] at h1; exact r.lt _ _ _ _ h1
 · intro b' h1
   rw [hnx] at h1
   have e : b' ≠ h.nx:=by rintro rfl; omega
   have hold:=r.fresh b' (by omega)
   have e2 : b' ≠ b:=by rintro rfl; rw [hold.1] at hb; cases hb
   rw [Rho.put_ne e,get_old b' e e2]; exact hold
 · intro b1 b2 c' z1 S1 z2 S2 h1 h2 h3 h4
   have other : ∀ b',b' ≠ h.nx→((h.turn b .none).new (.arr g n t ro) nx).t.get b' ≠ .none→b' ≠ b∧h.t.get b' ≠ .none:=by
    intro b' e h5
    have e2 : b' ≠ b:=by rintro rfl; exact h5 get_b
    exact ⟨e2,by rwa [get_old b' e e2] at h5⟩
   by_cases e1 : b1 = h.nx
   · by_cases e2 : b2 = h.nx
     · rw [e1,e2]
     · obtain ⟨h5,h6⟩:=other b2 e2 h2
       subst e1; rw [Rho.put_same] at h3; cases h3
       rw [Rho.put_ne e2] at h4
       exact absurd (r.inj b b2 _ _ _ _ _ hwr h6 hb h4).symm h5
   · obtain ⟨h5,h6⟩:=other b1 e1 (by intro e; rw [e] at h1; cases h1)
     rw [Rho.put_ne e1] at h3
     by_cases e2 : b2 = h.nx
     · subst e2; rw [Rho.put_same] at h4; cases h4
       exact absurd (r.inj b b1 _ _ _ _ _ hwr h6 hb h3).symm h5
     · obtain ⟨h7,h8⟩:=other b2 e2 h2
       rw [Rho.put_ne e2] at h4
       rw [get_old b1 e1 h5] at h1
       exact r.inj b1 b2 _ _ _ _ _ h1 h8 h3 h4
 · intro b' c' z1 S1 g1 n1 t1 ro1 h1 h2
   by_cases e : b' = h.nx
   · subst e; rw [get_nx] at h2; cases h2; rw [Rho.put_same] at h1; cases h1; exact harr
   · have e2 : b' ≠ b:=by rintro rfl; rw [get_b] at h2; cases h2
     rw [get_old b' e e2] at h2
     rw [Rho.put_ne e] at h1
     obtain ⟨cs,ha⟩:=r.arr b' c' z1 S1 g1 n1 t1 ro1 h1 h2
     have hcc : c' ≠ c:=by rintro rfl; exact e2 (r.inj b b' _ _ _ _ _ hwr (by rw [h2]; simp) hb h1).symm
     exact ⟨cs,ha.mono hle (hne c' hcc)⟩
 · intro b' c' z1 S1 es h1 h2
   by_cases e : b' = h.nx
   · subst e; rw [get_nx] at h2; cases h2
   · have e2 : b' ≠ b:=by rintro rfl; rw [get_b] at h2; cases h2
     rw [get_old b' e e2] at h2
     rw [Rho.put_ne e] at h1
     obtain ⟨o,h3,h4,h5⟩:=r.ob b' c' z1 S1 es h1 h2
     have hcc : c' ≠ c:=by rintro rfl; exact e2 (r.inj b b' _ _ _ _ _ hwr (by rw [h2]; simp) hb h1).symm
     exact ⟨o,(hne c' hcc).trans h3,h4.mono hle,h5⟩
 · intro p c' z1 S1 m since seen last h1 h2
   have e : p ≠ h.nx:=by rintro rfl; rw [get_nx] at h2; cases h2
   have e2 : p ≠ b:=by rintro rfl; rw [get_b] at h2; cases h2
   rw [get_old p e e2] at h2
   rw [Rho.put_ne e] at h1
   exact (r.itr_off hb hwr hne hnm h1 h2 e2).mono hle
 · intro k hk hw
   have e : k ≠ c:=by rintro rfl; exact hw ⟨b,z,S,hb,hwr⟩
   refine ⟨hne k e,?_⟩
   rintro ⟨b',z1,S1,h1,h2⟩
   by_cases e1 : b' = h.nx
   · subst e1; rw [Rho.put_same] at h1; cases h1; exact e rfl
   · have e2 : b' ≠ b:=by rintro rfl; rw [get_b] at h2; cases h2
     rw [get_old b' e1 e2] at h2; rw [Rho.put_ne e1] at h1
     exact hw ⟨b',z1,S1,h1,h2⟩
 · intro b' h1 h2
   have e : b' ≠ h.nx:=by rintro rfl; omega
   have e2 : b' ≠ b:=by rintro rfl; rw [hb] at h2; cases h2
   rw [Rho.put_ne e,get_old b' e e2]
   exact ⟨h2,rfl⟩
theorem drop_block {ρ : Rho} {h : Heap} {w : World} (r : RH P ρ h w) {b : Bid} {c z S : Nat} (hb : ρ b = some (c,z,S)) (hwr : (h.t.get b).wr = true) :
 RH P ρ (h.turn b .none) w∧Ext ρ h w ρ (h.turn b .none) w:=by
 have hlt:=r.lt _ _ _ _ hb
 exact turn r hb hwr (x:=.none) (o:=w.heap[c]) rfl rfl rfl rfl (by simp [hlt]) (fun _ _=>rfl) (fun _ _ _ _ e=>by cases e) (fun _ e=>by cases e) (fun ces clk _ _ e=>⟨ces,clk,by simpa [hlt] using e,.refl _ _⟩)
theorem growBy_le (n : Nat) : ∀ (r c : Nat),Builtin.growBy n r c ≤ max c (n + (n + 768) / 4)
 | 0,c=>by simp only [Builtin.growBy]; omega
 | r + 1,c=>by
   simp only [Builtin.growBy]
   split
   · omega
   · have:=growBy_le n r (c + (c + 768) / 4); omega
theorem nextcap_le {need cap : Nat} (h : cap < need) : Builtin.nextslicecap need cap ≤ 2 * need + 200:=by
 unfold Builtin.nextslicecap
 split
 · omega
 · split
   · omega
   · have:=growBy_le need 4 cap; omega
noncomputable def bytesk (l : Nat) : Nat→(List V→Res)→Res:=
 Nat.rec (motive:=fun _=>Nat→(List V→Res)→Res) (fun _ k=>k []) (fun _ ih n k=>ih (Nat.div n 256) fun m=>k (.int .u8 (.ofNat (Nat.mod n 256)) :: m)) l
theorem bytesk_ok {ρ : Rho} {l n : Nat} {k : List V→Res} {r : Res} (h : bytesk l n k = r) : ∃ m,k m = r∧m.length = l∧VRs ρ m ((dig l n).map fun b=>.int .u8 b.toNat):=by
 induction l generalizing n k with
 | zero=>exact ⟨[],h,rfl,.nil⟩
 | succ l ih=>
   obtain ⟨m,h1,h2,h3⟩:=ih (n:=n / 256) (k:=fun m=>k (.int .u8 (.ofNat (n % 256)) :: m)) h
   refine ⟨_,h1,by simp [h2],?_⟩
   simp only [dig,List.map_cons]
   refine .cons ?_ h3
   have : ((UInt8.ofNat (n % 256)).toNat : Int) = Int.ofNat (n % 256):=by simp
   rw [this]
   exact .int _ _
noncomputable def srck (sz : Nat) (y : V) (h : Heap) (k : Nat→List V→Res) : Res:=slk y (fun b o l _ _=>loadk h b o (Nat.mul l sz) fun cs=>k l cs) (k 0 []) (k 0 [])
noncomputable def srcSk (y : V) (k : Nat→List V→Res) : Res:=strk y fun l n=>bytesk l n fun cs=>k l cs
structure SrcR (P : Program) (ρ : Rho) (w : World) (sz : Nat) (v : Value) (n : Nat) (l : List V) (xs : List Value) : Prop where
 len : (Builtin.lenOf v).run P w = .ok n w
 cells : ∀ d,(Builtin.firstCells sz n v).run P { w with drawn:=d } = .ok xs.toArray { w with drawn:=d }
 vr : VRs ρ l xs
 size : l.length = n * sz
 one : ∀ x ∈ xs,x.oneCell' = true
theorem srck_ok {sz : Nat} {y : V} {h : Heap} {k : Nat→List V→Res} {r : Res} (hh : srck sz y h k = r) (hr : r ≠ .fail) {ρ : Rho} {w : World} (rh : RH P ρ h w) {v : Value} (hv : VR ρ y v) :
 ∃ n l xs,k n l = r∧SrcR P ρ w sz v n l xs:=by
 rcases slk_ok hh hr with ⟨b,o,l,cp,s,rfl,h1⟩ | ⟨rfl,h1⟩ | ⟨rfl,h1⟩
 · obtain ⟨c,z,S,cap,hb,_,_,_,rfl⟩:=hv.slice_inv
   obtain ⟨m,xs,h2,h3,h4,h5,h6⟩:=loadk_ok (P:=P) h1 hr rh hb
   exact ⟨l,m,xs,h2,rfl,h3,h4,by rw [h4.length]; exact h5,h6⟩
 · rw [hv.nils_inv]
   exact ⟨0,[],[],h1,rfl,fun _=>rfl,.nil,by simp,by simp⟩
 · cases hv with
   | emp a cap=>
     refine ⟨0,[],[],h1,rfl,fun d=>?_,.nil,by simp,by simp⟩
     show (loadCells a (0 * sz)).run P _ = _
     rw [Nat.zero_mul]; rfl
theorem srcSk_ok {y : V} {k : Nat→List V→Res} {r : Res} (hh : srcSk y k = r) (hr : r ≠ .fail) {ρ : Rho} {w : World} {v : Value} (hv : VR ρ y v) :
 ∃ n l xs,k n l = r∧SrcR P ρ w 1 v n l xs:=by
 obtain ⟨l,n,rfl,h1⟩:=strk_ok hh hr
 obtain ⟨s,rfl,e1,e2⟩:=hv.str_inv
 obtain ⟨m,h2,h3,h4⟩:=bytesk_ok (ρ:=ρ) h1
 have hsz:=str_size e1
 refine ⟨l,m,_,h2,by simp [Builtin.lenOf,hsz],fun d=>?_,h4,by omega,?_⟩
 · simp only [Builtin.firstCells,Sem.run_pure]
   congr 1
   apply Array.ext'
   rw [Array.toList_map]
   have : (s.extract 0 l).data.toList = s.data.toList:=by
    rw [ByteArray.data_extract,Array.toList_extract,List.extract_eq_take_drop,List.drop_zero,List.take_of_length_le]
    rw [e1,dig_length]; omega
   rw [this,e1]
 · intro x hx
   obtain ⟨b,_,rfl⟩:=List.mem_map.1 hx
   rfl
noncomputable def optk (c : Option Nat) (k : Nat→Res) (z : Res) : Res:=Option.rec (motive:=fun _=>Res) z k c
noncomputable def freshk (sz n : Nat) (l : List V) (h : Heap) (k : V→Heap→Res) : Res:=rowk sz n l fun t=>h.newk (.arr sz n t false) fun b h'=>k (.slice b 0 n none sz) h'
noncomputable def movek (b : Bid) (sz n : Nat) (t : T) (h : Heap) (k : V→Heap→Res) : Res:=h.turnk b .none fun h1=>h1.newk (.arr sz n t false) fun b' h'=>k (.slice b' 0 n none sz) h'
noncomputable def appendk (sz : Nat) (x : V) (m : Nat) (new : List V) (h : Heap) (k : V→Heap→Res) : Res:=
 slk x
  (fun b o l c s=>ifk (Nat.beq s sz) (ifk (Nat.ble (Nat.add l m) 16777216)
    (optk c
      (fun cap=>ifk (Nat.ble (Nat.add l m) cap) (storek h b (Nat.add o (Nat.mul l sz)) (Nat.mul m sz) new fun h'=>k (.slice b o (Nat.add l m) c sz) h')
        (loadk h b o (Nat.mul l sz) fun old=>appk old new fun all=>freshk sz (Nat.add l m) all h k))
      (h.getk b fun blk=>arrk blk fun g n t ro=>ifk (Nat.ble (Nat.add o (Nat.mul (Nat.add l m) sz)) (Nat.mul n g))
        (storek h b (Nat.add o (Nat.mul l sz)) (Nat.mul m sz) new fun h'=>k (.slice b o (Nat.add l m) c sz) h')
        (ifk ro .fail (ifk (Nat.beq g sz)
          (ifk (Nat.beq n l) (zk o (chopk sz m l new t fun t'=>movek b sz (Nat.add l m) t' h k) .fail)
            (loadk h b o (Nat.mul l sz) fun old=>appk old new fun all=>rowk sz (Nat.add l m) all fun t'=>movek b sz (Nat.add l m) t' h k))
          (ifk (Nat.beq g 1) .fail (loadk h b o (Nat.mul l sz) fun old=>appk old new fun all=>rowk sz (Nat.add l m) all fun t'=>movek b sz (Nat.add l m) t' h k)))))) .fail) .fail)
  (zk m (k .nils h) (ifk (Nat.ble m 16777216) (freshk sz m new h k) .fail))
  (zk m (k .emp h) .fail)
structure SliceT (P : Program) (t e : TypeId) (sz : Nat) : Prop where
 und : P.underlying t = some (.slice e)
 size : Go.Ev.sz P e = some sz
 pos : 0 < sz
 bytes : ∃ i,P.info? e = some i∧i.bytes ≤ 65536
 zero : ∃ z : Value,(P.info? e).bind (·.zero) = some z∧z.cells.size = sz∧∀ y ∈ z.cells.toList,y.oneCell' = true
structure AppT (P : Program) (ts : Array TypeId) (t e : TypeId) (sz : Nat) : Prop extends SliceT P t e sz where
 first : ts[0]? = some t
inductive How (P : Program) (ts : Array TypeId) (e : TypeId) (sz : Nat) (y : Value) (n : Nat) (xs : Array Value) (w : World) : Prop where
 | src (u : TypeId) (d : TypeDesc) (h1 : ts[1]? = some u) (h2 : P.underlying u = some d) (h3 : (d matches .int _) = false) (hl : (Builtin.lenOf y).run P w = .ok n w)
   (hc : ∀ d,(Builtin.firstCells sz n y).run P { w with drawn:=d } = .ok xs { w with drawn:=d }) : How P ts e sz y n xs w
 | zeros (u : TypeId) (k kd : IntKind) (z : Value) (h1 : ts[1]? = some u) (h2 : P.underlying u = some (.int k)) (hy : y = .int kd n) (hn : n ≤ 16777216)
   (hz : (P.info? e).bind (·.zero) = some z) (hx : xs = Builtin.zeroCells z.cells n) : How P ts e sz y n xs w
structure SrcH (P : Program) (ρ : Rho) (w : World) (ts : Array TypeId) (e : TypeId) (sz : Nat) (v : Value) (n : Nat) (l : List V) (xs : List Value) : Prop where
 how : How P ts e sz v n xs.toArray w
 vr : VRs ρ l xs
 size : l.length = n * sz
 one : ∀ x ∈ xs,x.oneCell' = true
theorem SrcR.h {ρ : Rho} {w : World} {ts : Array TypeId} {e : TypeId} {sz : Nat} {v : Value} {n : Nat} {l : List V} {xs : List Value} (h : SrcR P ρ w sz v n l xs) {u : TypeId} {d : TypeDesc}
 (h1 : ts[1]? = some u) (h2 : P.underlying u = some d) (h3 : (d matches .int _) = false) : SrcH P ρ w ts e sz v n l xs:=⟨.src u d h1 h2 h3 h.len h.cells,h.vr,h.size,h.one⟩
theorem run_asInt {w : World} {kd : IntKind} {n : Int} : (asInt (.int kd n)).run P w = .ok n w:=rfl
section model
variable {w : World} {ts : Array TypeId} {t e u : TypeId} {sz0 : Nat} {base : Option Addr} {l cap n : Nat} {y : Value} {xs : Array Value}
theorem zeros_small {n b : Nat} (hn : n ≤ 16777216) (hb : b ≤ 65536) : IntKind.i64.wrap (n : Int) = n∧¬ ((n : Int) < 0)∧¬ ((n : Int) * b > 2 ^ 48):=by
 refine ⟨wrap_small .i64 _ (by omega) (by show (n : Int) ≤ (9223372036854775807 : Nat); omega),by omega,?_⟩
 have h1 : n * b ≤ 16777216 * 65536:=Nat.mul_le_mul hn hb
 rw [← Int.natCast_mul]; omega
theorem zeroCells_none {z : Array Value} {n : Nat} (h : n * z.size = 0) : Builtin.zeroCells z n = #[]:=by simp [Builtin.zeroCells,h]
theorem run_append_in (ht : AppT P ts t e sz0) (how : How P ts e sz0 y n xs w) (hle : l + n ≤ cap) {w' : World}
 (hs : ∀ a,base = some a→(storeCells (a.add (l * sz0)) xs.toList).run P w = .ok () w') (hb : base = none→w' = w) :
 (Builtin.append_ ts u #[.slice base l cap,y]).run P w = .ok (.slice base (l + n) cap) w':=by
 have h0:=ht.first
 have e1 : (#[Value.slice base l cap,y] : Array Value)[0]? = some (.slice base l cap):=rfl
 have e2 : (#[Value.slice base l cap,y] : Array Value)[1]? = some y:=rfl
 cases how with
 | src u1 d h1 h2 h3 hl hc=>
   have hc:=hc w.drawn
   cases d
   case int k=>cases h3
   all_goals
    simp only [Builtin.append_,h0,h1,e1,e2,Sem.run_bind,run_und ht.und,Result.andThen_ok,run_size ht.size,run_und h2,Sem.run_pure,Bool.false_eq_true,if_false,hl,Bool.not_false,if_true]
    rw [if_pos hle]
    simp only [Sem.run_bind,hc,Result.andThen_ok]
    cases base with
    | none=>simp only [Sem.run_pure,hb rfl]
    | some a=>simp only [Sem.run_bind,hs a rfl,Result.andThen_ok,Sem.run_pure]
 | zeros u1 k kd z h1 h2 hy hn hz hx=>
   subst hy
   obtain ⟨i,hi,hby⟩:=ht.bytes
   have hti : ∀ w : World,(typeInfo e).run P w = .ok i w:=fun w=>by simp [typeInfo,hi]
   obtain ⟨z1,hz1,hzs,_⟩:=ht.zero
   rw [hz] at hz1
   cases hz1
   obtain ⟨g1,g2,g3⟩:=zeros_small hn hby
   simp only [Builtin.append_,h0,h1,e1,e2,Sem.run_bind,run_und ht.und,Result.andThen_ok,run_size ht.size,run_und h2,Sem.run_pure,if_true,run_asInt,g1]
   rw [if_neg g2]
   simp only [Result.andThen_ok,Sem.run_bind,hti]
   rw [if_neg g3]
   simp only [Sem.run_bind,Sem.run_pure,Result.andThen_ok,Int.toNat_natCast]
   rw [if_pos hle]
   by_cases hz0 : n * sz0 = 0
   · have : xs = #[]:=by rw [hx]; exact zeroCells_none (by rw [hzs]; exact hz0)
     subst this
     simp only [Bool.not_true,Bool.false_eq_true,if_false,hz0,if_true,Sem.run_bind,Sem.run_pure,Result.andThen_ok]
     cases base with
     | none=>simp only [Sem.run_pure,hb rfl]
     | some a=>simp only [Sem.run_bind,hs a rfl,Result.andThen_ok,Sem.run_pure]
   · simp only [Bool.not_true,Bool.false_eq_true,if_false,hz0,Sem.run_bind,run_zero hz,Sem.run_pure,Result.andThen_ok,← hx]
     cases base with
     | none=>simp only [Sem.run_pure,hb rfl]
     | some a=>simp only [Sem.run_bind,hs a rfl,Result.andThen_ok,Sem.run_pure]
theorem run_append_grow (ht : AppT P ts t e sz0) (how : How P ts e sz0 y n xs w) {old : Array Value}
 (ho : (Builtin.firstCells sz0 l (.slice base l cap)).run P { w with drawn:=w.drawn + 1 } = .ok old { w with drawn:=w.drawn + 1 }) (hgt : cap < l + n) (hsm : l + n ≤ 16777216)
 {z : Value} (hz : (P.info? e).bind (·.zero) = some z) :
 ∃ cap',l + n ≤ cap'∧(Builtin.append_ ts u #[.slice base l cap,y]).run P w =
  .ok (.slice (some ⟨w.heap.size,0,none⟩) (l + n) cap') { { w with drawn:=w.drawn + 1 } with heap:=w.heap.push (.cells (old ++ xs ++ Builtin.zeroCells z.cells (cap' - (l + n))) e) }:=by
 obtain ⟨i,hi,hby⟩:=ht.bytes
 have h0:=ht.first
 have e1 : (#[Value.slice base l cap,y] : Array Value)[0]? = some (.slice base l cap):=rfl
 have e2 : (#[Value.slice base l cap,y] : Array Value)[1]? = some y:=rfl
 have hti : ∀ w : World,(typeInfo e).run P w = .ok i w:=fun w=>by simp [typeInfo,hi]
 have hnot : ¬ l + n ≤ cap:=by omega
 have hmax : IntKind.i64.max = 9223372036854775807:=by decide
 have hc1 : ¬ (((l + n : Nat) : Int) > IntKind.i64.max):=by rw [hmax]; omega
 have hnc:=nextcap_le hgt
 have hc2 : ¬ (Builtin.nextslicecap (l + n) cap * i.bytes > 2 ^ 48):=by
  have : Builtin.nextslicecap (l + n) cap * i.bytes ≤ (2 * 16777216 + 200) * 65536:=Nat.mul_le_mul (by omega) hby
  omega
 refine ⟨(Question.appendCap (l + n) cap e).cut (w.tape w.drawn (.appendCap (l + n) cap e)),by simp [Question.cut],?_⟩
 cases how with
 | src u1 d h1 h2 h3 hl hc=>
   have hc:=hc (w.drawn + 1)
   cases d
   case int k=>cases h3
   all_goals
    simp only [Builtin.append_,h0,h1,e1,e2,Sem.run_bind,run_und ht.und,Result.andThen_ok,run_size ht.size,run_und h2,Sem.run_pure,Bool.false_eq_true,if_false,hl,Bool.not_false,if_true]
    rw [if_neg hnot]
    simp only [Sem.run_bind,hti,Result.andThen_ok,false_or]
    rw [if_neg (fun h=>hc1 h.1)]
    simp only [Sem.run_bind,hti,Result.andThen_ok]
    rw [if_neg hc2]
    simp only [Sem.run_bind,run_choose,Question.forced,Bool.false_eq_true,if_false,Result.andThen_ok,hti,run_askRoom,ho,hc,run_zero hz,newRow,run_newObj,Sem.run_pure]
 | zeros u1 k kd z1 h1 h2 hy hn hz1 hx=>
   subst hy
   obtain ⟨z2,hz2,hzs,_⟩:=ht.zero
   rw [hz] at hz1 hz2
   cases hz1; cases hz2
   obtain ⟨g1,g2,g3⟩:=zeros_small hn hby
   simp only [Builtin.append_,h0,h1,e1,e2,Sem.run_bind,run_und ht.und,Result.andThen_ok,run_size ht.size,run_und h2,Sem.run_pure,if_true,run_asInt,g1]
   rw [if_neg g2]
   simp only [Result.andThen_ok,Sem.run_bind,hti]
   rw [if_neg g3]
   simp only [Sem.run_bind,Sem.run_pure,Result.andThen_ok,Int.toNat_natCast]
   rw [if_neg hnot]
   simp only [Sem.run_bind,hti,Result.andThen_ok,true_or]
   rw [if_neg (fun h=>hc1 h.1)]
   simp only [Sem.run_bind,hti,Result.andThen_ok]
   rw [if_neg hc2]
   simp only [Sem.run_bind,run_choose,Question.forced,Bool.false_eq_true,if_false,Result.andThen_ok,hti,run_askRoom,ho,Bool.not_true]
   by_cases hz0 : n * sz0 = 0
   · have : xs = #[]:=by rw [hx]; exact zeroCells_none (by rw [hzs]; exact hz0)
     subst this
     simp only [hz0,if_true,Sem.run_pure,Result.andThen_ok,Sem.run_bind,run_zero hz,newRow,run_newObj]
   · simp only [hz0,if_false,Sem.run_bind,Sem.run_pure,Result.andThen_ok,run_zero hz,newRow,run_newObj,← hx]
end model
theorem zeroCells_size (z : Array Value) (n : Nat) : (Builtin.zeroCells z n).size = n * z.size:=by simp [Builtin.zeroCells]
theorem zeroCells_one {z : Array Value} (h : ∀ y ∈ z.toList,y.oneCell' = true) (n : Nat) : ∀ y ∈ (Builtin.zeroCells z n).toList,y.oneCell' = true:=by
 intro y hy
 simp only [Builtin.zeroCells,Array.toList_map,List.mem_map] at hy
 obtain ⟨i,hi,rfl⟩:=hy
 have hi' : i < n * z.size:=by simpa using hi
 have hz : 0 < z.size:=by
  rcases Nat.eq_zero_or_pos z.size with h0 | h0
  · rw [h0] at hi'; omega
  · exact h0
 have hm:=Nat.mod_lt i hz
 rw [getElem!_pos z _ hm]
 exact h _ (by simp)
theorem freshk_ok {sz0 n : Nat} {l : List V} {h : Heap} {k : V→Heap→Res} {r : Res} (hh : freshk sz0 n l h k = r) (hr : r ≠ .fail) {ρ : Rho} {w : World} (rh : RH P ρ h w) (hpos : 0 < sz0)
 {cs : Array Value} (hl : VRs ρ l (cs.toList.take l.length)) (h1 : ∀ y ∈ cs.toList,y.oneCell' = true) {cap : Nat} (hcs : cs.size = cap * sz0) (hcap : n ≤ cap) (el : TypeId) :
 ∃ u h' ρ',k u h' = r∧VR ρ' u (.slice (some ⟨w.heap.size,0,none⟩) n cap)∧RH P ρ' h' { w with heap:=w.heap.push (.cells cs el) }∧Ext ρ h w ρ' h' { w with heap:=w.heap.push (.cells cs el) }:=by
 obtain ⟨t,h2,h3,h4⟩:=rowk_ok hh hr
 obtain ⟨nx,h5,h6⟩:=Heap.newk_ok h2 hr
 have hle : n * sz0 ≤ cap * sz0:=Nat.mul_le_mul_right sz0 hcap
 obtain ⟨h7,h8⟩:=new_cells rh h5 hpos hl h1 h3 h4 el (fz:=(0,0)) (.inl rfl) (by omega)
 refine ⟨_,_,_,h6,?_,h7,h8⟩
 have:=VR.slice (o:=0) (l:=n) (cp:=none) (s:=sz0) (cap:=cap) (Rho.put_same ρ h.nx (w.heap.size,0,cs.size)) (fun m e=>by cases e) (fun _=>by omega) hcap
 simpa using this
theorem movek_ok {b : Bid} {sz0 l m : Nat} {t' : T} {h : Heap} {k : V→Heap→Res} {r : Res} (hh : movek b sz0 (Nat.add l m) t' h k = r) (hr : r ≠ .fail) {ρ : Rho} {w : World} (rh : RH P ρ h w)
 {c z S o g n : Nat} {t : T} {cs : Array Value} (hb : ρ b = some (c,z,S)) (hblk : h.t.get b = .arr g n t false) (ha : ArrR ρ w c z S g n t false cs) {new : List V} {xs : List Value}
 (hgs : g = 1→sz0 = 1) (hnew : VRs ρ new xs) (hnl : new.length = m * sz0) (h1 : ∀ x ∈ xs,x.oneCell' = true) (hpos : 0 < sz0)
 (ht : ∀ (j : Nat) (ch : List V),t'.get j = some ch→j < l + m∧ch.length = sz0∧∀ (i : Nat) (v : V),ch[i]? = some v →
   (j * sz0 + i < l * sz0→t.cell g (o + (j * sz0 + i)) = some v)∧(l * sz0 ≤ j * sz0 + i→new[j * sz0 + i - l * sz0]? = some v)) {cap : Nat} (hcap : z + o + cap * sz0 = S) {ts : Array TypeId}
 {ty e u : TypeId} (at_ : AppT P ts ty e sz0) {y : Value} (hs : SrcH P ρ w ts e sz0 y m new xs) (hlc : l ≤ cap) (hsm : l + m ≤ 16777216) :
 Ok P ρ h w (Builtin.append_ ts u #[.slice (some ⟨c,z + o,none⟩) l cap,y]) k r:=by
 unfold movek at hh
 rw [Heap.turnk_eq] at hh
 obtain ⟨nx,h2,h3⟩:=Heap.newk_ok hh hr
 have hwr : (h.t.get b).wr = true:=by rw [hblk]; rfl
 obtain ⟨el,fz,h4,h5⟩:=ha.at_
 have h5:=h5 rfl
 have hxl:=hnew.length
 have hle0:=rh.fresh h.nx (Nat.le_refl _)
 by_cases hin : l + m ≤ cap
 ·
  have hb1 : l * sz0 + m * sz0 ≤ cap * sz0:=by rw [← Nat.add_mul]; exact Nat.mul_le_mul_right sz0 hin
  have hSz:=ha.size
  obtain ⟨w',cs',r1,r2,r3,r4,r5,r6,r7,r8,r9⟩:=run_storeCells_any (P:=P) (o:=z + o + l * sz0) xs 0 cs w h4 (by omega) (fun k _ hk=>h5.not k (by omega)) h1
  have hle:=Rho.le_put (ρ:=ρ) hle0.1 (c,z + o,S)
  obtain ⟨h6,h7⟩:=rehome rh hb hwr h2 r2 r3 r4 r5 r7 (fun _ _ e=>by rw [hblk] at e; cases e) (z':=z + o) (S:=S) (g:=sz0) (n:=l + m) (t:=t') (ro:=false) ⟨cs',hpos,⟨el,fz,r6,fun _=>h5.imp id fun q=>⟨q.1,hgs q.2⟩⟩,by omega,by rw [Nat.add_mul]; omega,fun j ch hj=>by
   obtain ⟨g1,g2,g3⟩:=ht j ch hj
   refine ⟨g1,g2,fun i v hi=>?_⟩
   have hig : i < sz0:=by have:=(List.getElem?_eq_some_iff.1 hi).1; omega
   obtain ⟨g4,g5⟩:=g3 i v hi
   have hjm : (j + 1) * sz0 ≤ (l + m) * sz0:=Nat.mul_le_mul_right sz0 g1
   rw [Nat.succ_mul,Nat.add_mul] at hjm
   rw [r9]
   by_cases hlt : j * sz0 + i < l * sz0
   · rw [if_neg (by omega)]
     obtain ⟨_,x,g6,g7,g8⟩:=ha.cell (g4 hlt)
     exact ⟨x,by rw [← g6]; congr 1; omega,VR.mono hle g7,g8⟩
   · rw [if_pos (by omega)]
     obtain ⟨x,g6,g7⟩:=hnew.get (g5 (by omega))
     exact ⟨x,by rw [← g6]; congr 1; omega,VR.mono hle g7,h1 x (List.mem_of_getElem? g6)⟩⟩
  refine ⟨_,_,_,.slice (some ⟨c,z + o,none⟩) (l + m) cap,w',h3,?_,?_,h6,h7⟩
  · refine run_append_in at_ hs.how hin (w':=w') (fun a ha'=>?_) (fun e=>by cases e)
    cases ha'
    rw [add_addr]
    exact r1
  · have:=VR.slice (ρ:=ρ.put h.nx (c,z + o,S)) (b:=(h.turn b .none).nx) (o:=0) (l:=l + m) (cp:=none) (s:=sz0) (cap:=cap) (show ρ.put h.nx (c,z + o,S) h.nx = _ from Rho.put_same ρ h.nx (c,z + o,S)) (fun m e=>by cases e) (fun _=>by omega) hin
    simpa using this
 ·
  obtain ⟨z1,hz,hzs,_⟩:=at_.zero
  have hlc2 : l * sz0 ≤ cap * sz0:=Nat.mul_le_mul_right sz0 hlc
  have hSz:=ha.size
  let old : List Value:=(cs.toList.drop (z + o)).take (l * sz0)
  have o2 : old.length = l * sz0:=by simp only [old,List.length_take,List.length_drop,Array.length_toList]; omega
  have o4 : ∀ i,i < l * sz0→cs[z + o + i]? = old[i]?:=by
   intro i hi
   simp only [old]
   rw [List.getElem?_take_of_lt hi,List.getElem?_drop,Array.getElem?_toList]
  have o1 : (Builtin.firstCells sz0 l (.slice (some ⟨c,z + o,none⟩) l cap)).run P { w with drawn:=w.drawn + 1 } = .ok old.toArray { w with drawn:=w.drawn + 1 }:=by
   have:=run_loadCells_list (P:=P) { w with drawn:=w.drawn + 1 } ⟨c,z + o,none⟩ old (fun j v hj=>by
    have hj' : j < l * sz0:=by have:=(List.getElem?_eq_some_iff.1 hj).1; omega
    rw [add_addr]
    simp only [World.cell?,h4]
    rw [o4 j hj']
    simpa using hj)
   rw [o2] at this
   exact this
  obtain ⟨cap',hcap',hrun⟩:=run_append_grow (u:=u) at_ hs.how o1 (by omega) hsm hz
  obtain ⟨d1,d2⟩:=drop_block rh hb hwr
  have d3:=d1.drew (w.drawn + 1)
  have d4:=d2.trans (Ext.drew ρ (h.turn b .none) w (w.drawn + 1))
  let cs2 : Array Value:=old.toArray ++ xs.toArray ++ Builtin.zeroCells z1.cells (cap' - (l + m))
  have hcs2 : cs2.size = cap' * sz0:=by
   show (old.toArray ++ xs.toArray ++ Builtin.zeroCells z1.cells (cap' - (l + m))).size = _
   rw [Array.size_append,Array.size_append,zeroCells_size,hzs]
   simp only [List.size_toArray]
   have : cap' * sz0 = (l + m) * sz0 + (cap' - (l + m)) * sz0:=by rw [← Nat.add_mul]; congr 1; omega
   rw [this,Nat.add_mul]; omega
  have hcap2 : (l + m) * sz0 ≤ cap' * sz0:=Nat.mul_le_mul_right sz0 hcap'
  have hle:=Rho.le_put (ρ:=ρ) hle0.1 (w.heap.size,0,cs2.size)
  have hcell : ∀ i,(i < l * sz0→cs2[i]? = old[i]?)∧(l * sz0 ≤ i→i < l * sz0 + m * sz0→cs2[i]? = xs[i - l * sz0]?):=by
   intro i
   constructor
   · intro hi
     show (old.toArray ++ xs.toArray ++ Builtin.zeroCells z1.cells (cap' - (l + m)))[i]? = _
     rw [Array.append_assoc,Array.getElem?_append_left (by simp only [List.size_toArray]; omega),List.getElem?_toArray]
   · intro hi hi2
     show (old.toArray ++ xs.toArray ++ Builtin.zeroCells z1.cells (cap' - (l + m)))[i]? = _
     rw [Array.append_assoc,Array.getElem?_append_right (by simp only [List.size_toArray]; omega),Array.getElem?_append_left (by simp only [List.size_toArray]; omega),List.getElem?_toArray]
     simp only [List.size_toArray,o2]
  obtain ⟨h6,h7⟩:=alloc d3 (x:=.arr sz0 (l + m) t' false) h2 (o:=.cells cs2 e) (S:=cs2.size) (fun g' n' t'' ro' ee=>by
   cases ee
   refine ⟨cs2,e,(0,0),hpos,rfl,Or.inl rfl,rfl,by omega,fun j ch hj=>?_⟩
   obtain ⟨g1,g2,g3⟩:=ht j ch hj
   refine ⟨g1,g2,fun i v hi=>?_⟩
   have hig : i < sz0:=by have:=(List.getElem?_eq_some_iff.1 hi).1; omega
   obtain ⟨g4,g5⟩:=g3 i v hi
   have hjm : (j + 1) * sz0 ≤ (l + m) * sz0:=Nat.mul_le_mul_right sz0 g1
   rw [Nat.succ_mul,Nat.add_mul] at hjm
   by_cases hlt : j * sz0 + i < l * sz0
   · obtain ⟨_,x,g6,g7,g8⟩:=ha.cell (g4 hlt)
     refine ⟨x,?_,g7,g8⟩
     rw [(hcell _).1 hlt,← o4 _ hlt,← g6]; congr 1; omega
   · obtain ⟨x,g6,g7⟩:=hnew.get (g5 (by omega))
     exact ⟨x,by rw [(hcell _).2 (by omega) (by omega),← g6],g7,h1 x (List.mem_of_getElem? g6)⟩) (fun es ee=>by cases ee)
  refine ⟨_,_,_,.slice (some ⟨w.heap.size,0,none⟩) (l + m) cap',_,h3,hrun,?_,h6,d4.trans h7⟩
  have:=VR.slice (o:=0) (l:=l + m) (cp:=none) (s:=sz0) (cap:=cap') (Rho.put_same ρ (h.turn b .none).nx (w.heap.size,0,cs2.size)) (fun m e=>by cases e) (fun _=>by omega) hcap'
  simpa using this
end Go.Ev

/- EVALUATOR, 13: append, copy, make, slice expressions, bytes and strings. -/
namespace Go.Ev
variable {P : Program}
theorem optk_cases {c : Option Nat} {k : Nat→Res} {z r : Res} (h : optk c k z = r) : (∃ n,c = some n∧k n = r) ∨ (c = none∧z = r):=by
 cases c with
 | none=>exact .inr ⟨rfl,h⟩
 | some n=>exact .inl ⟨n,rfl,h⟩
theorem load_old {h : Heap} {b : Bid} {o l sz0 : Nat} {k : List V→Res} {r : Res} (hh : loadk h b o (Nat.mul l sz0) k = r) (hr : r ≠ .fail) {ρ : Rho} {w : World} (rh : RH P ρ h w) {c z S cap : Nat}
 (hb : ρ b = some (c,z,S)) : ∃ old : List V,∃ xs : List Value,k old = r∧VRs ρ old xs∧old.length = l * sz0∧(∀ x ∈ xs,x.oneCell' = true) ∧
   ∀ d,(Builtin.firstCells sz0 l (.slice (some ⟨c,z + o,none⟩) l cap)).run P { w with drawn:=d } = .ok xs.toArray { w with drawn:=d }:=by
 obtain ⟨m,xs,h2,h3,h4,h5,h6⟩:=loadk_ok (P:=P) hh hr rh hb
 exact ⟨m,xs,h2,h4,by rw [h4.length]; exact h5,h6,h3⟩
theorem appendk_ok {sz0 m : Nat} {x : V} {new : List V} {h : Heap} {k : V→Heap→Res} {r : Res} (hh : appendk sz0 x m new h k = r) (hr : r ≠ .fail) {ρ : Rho} {w : World} (rh : RH P ρ h w) {v y : Value}
 (hv : VR ρ x v) {xs : List Value} {ts : Array TypeId} {ty e u : TypeId} (hs : SrcH P ρ w ts e sz0 y m new xs) (at_ : AppT P ts ty e sz0) : Ok P ρ h w (Builtin.append_ ts u #[v,y]) k r:=by
 have hpos:=at_.pos
 rcases slk_ok hh hr with ⟨b,o,l,cp,s,rfl,h1⟩ | ⟨rfl,h1⟩ | ⟨rfl,h1⟩
 · obtain ⟨hs1,h2⟩:=ifk_fail h1 hr
   obtain rfl:=Nat.eq_of_beq_eq_true hs1
   obtain ⟨hsm,h3⟩:=ifk_fail h2 hr
   have hsm : l + m ≤ 16777216:=Nat.le_of_ble_eq_true hsm
   obtain ⟨c,z,S,cap,hb,hc1,hc2,hlc,rfl⟩:=hv.slice_inv
   have inplace : ∀ {cp' : Option Nat},(∀ n,cp' = some n→cap = n)→(cp' = none→z + o + cap * s = S)→l + m ≤ cap →
    (storek h b (Nat.add o (Nat.mul l s)) (Nat.mul m s) new fun h'=>k (.slice b o (Nat.add l m) cp' s) h') = r→Ok P ρ h w (Builtin.append_ ts u #[.slice (some ⟨c,z + o,none⟩) l cap,y]) k r:=by
    intro cp' hp1 hp2 hle hst
    obtain ⟨h',h5,h6⟩:=storek_ok (P:=P) hs.size hst hr rh hb
    obtain ⟨w',h7,h8,h9⟩:=h6 xs hs.vr hs.one
    refine ⟨_,h',ρ,_,w',h5,run_append_in at_ hs.how hle (w':=w') (fun a ha=>?_) (fun e=>by cases e),?_,h8,h9⟩
    · cases ha
      rw [add_addr]
      have e1 : z + Nat.add o (Nat.mul l s) = z + o + l * s:=by show z + (o + l * s) = _; omega
      rw [e1] at h7
      exact h7
    · exact .slice hb hp1 hp2 hle
   have grown : cap < l + m→(loadk h b o (Nat.mul l s) fun old=>appk old new fun all=>freshk s (Nat.add l m) all h k) = r →
    Ok P ρ h w (Builtin.append_ ts u #[.slice (some ⟨c,z + o,none⟩) l cap,y]) k r:=by
    intro hgt hld
    obtain ⟨old,ys,h5,h6,h7,h8,h9⟩:=load_old (P:=P) (cap:=cap) hld hr rh hb
    rw [appk_eq] at h5
    obtain ⟨z1,hz,hzs,hz1⟩:=at_.zero
    obtain ⟨cap',hcap',hrun⟩:=run_append_grow (u:=u) at_ hs.how (h9 _) hgt hsm hz
    have hyl:=h6.length
    have hxl:=hs.vr.length
    have hnl:=hs.size
    let cs2 : Array Value:=ys.toArray ++ xs.toArray ++ Builtin.zeroCells z1.cells (cap' - (l + m))
    have hcs2 : cs2.size = cap' * s:=by
     show (ys.toArray ++ xs.toArray ++ Builtin.zeroCells z1.cells (cap' - (l + m))).size = _
     rw [Array.size_append,Array.size_append,zeroCells_size,hzs]
     simp only [List.size_toArray]
     have : cap' * s = (l + m) * s + (cap' - (l + m)) * s:=by rw [← Nat.add_mul]; congr 1; omega
     rw [this,Nat.add_mul]; omega
    have htl : cs2.toList = (ys ++ xs) ++ (Builtin.zeroCells z1.cells (cap' - (l + m))).toList:=by
     show (ys.toArray ++ xs.toArray ++ Builtin.zeroCells z1.cells (cap' - (l + m))).toList = _
     simp [Array.toList_append]
    have hone : ∀ a ∈ cs2.toList,a.oneCell' = true:=by
     intro a ha
     rw [htl] at ha
     rcases List.mem_append.1 ha with ha | ha
     · rcases List.mem_append.1 ha with ha | ha
       · exact h8 a ha
       · exact hs.one a ha
     · exact zeroCells_one hz1 _ a ha
    have hvr : VRs ρ (old ++ new) (cs2.toList.take (old ++ new).length):=by
     rw [htl,List.take_append_of_le_length (by simp only [List.length_append]; omega),List.take_of_length_le (by simp only [List.length_append]; omega)]
     exact h6.append hs.vr
    obtain ⟨uu,h',ρ',g1,g2,g3,g4⟩:=freshk_ok h5 hr (rh.drew (w.drawn + 1)) hpos hvr hone hcs2 hcap' e
    exact ⟨uu,h',ρ',_,_,g1,hrun,g2,g3,(Ext.drew ρ h w (w.drawn + 1)).trans g4⟩
   rcases optk_cases h3 with ⟨n,rfl,h4⟩ | ⟨rfl,h4⟩
   · have hcn:=hc1 n rfl
     subst hcn
     rcases ifk_ne h4 with ⟨hb1,h5⟩ | ⟨hb1,h5⟩
     · exact inplace hc1 hc2 (Nat.le_of_ble_eq_true hb1) h5
     · refine grown ?_ h5
       have : ¬ l + m ≤ cap:=fun hle=>by have:=Nat.ble_eq_true_of_le hle; exact absurd (this.symm.trans hb1) (by simp)
       omega
   · rw [Heap.getk_eq] at h4
     obtain ⟨g,n,t,ro,hblk,h5⟩:=arrk_ok h4 hr
     obtain ⟨cs,ha⟩:=rh.arr b c z S g n t ro hb hblk
     have hcap:=hc2 rfl
     have hfits:=ha.fits
     rcases ifk_ne h5 with ⟨hb1,h6⟩ | ⟨hb1,h6⟩
     · have hle : o + (l + m) * s ≤ n * g:=Nat.le_of_ble_eq_true hb1
       have : (l + m) * s ≤ cap * s:=by omega
       exact inplace hc1 hc2 (Nat.le_of_mul_le_mul_right this hpos) h6
     · obtain ⟨hro,h7⟩ : ro = false∧_ = r:=by
        rcases ifk_ne h6 with ⟨_,h7⟩ | ⟨h7,h8⟩
        · exact absurd h7.symm hr
        · exact ⟨h7,h8⟩
       subst hro
       have gen : (loadk h b o (Nat.mul l s) fun old=>appk old new fun all=>rowk s (Nat.add l m) all fun t'=>movek b s (Nat.add l m) t' h k) = r→(g = 1→s = 1) →
        Ok P ρ h w (Builtin.append_ ts u #[.slice (some ⟨c,z + o,none⟩) l cap,y]) k r:=by
        intro hld hgs
        unfold loadk at hld
        rw [Heap.getk_eq,hblk] at hld
        change cellsk t g o (Nat.mul l s) (fun old=>appk old new fun all=>rowk s (Nat.add l m) all fun t'=>movek b s (Nat.add l m) t' h k) = r at hld
        obtain ⟨old,q1,q2,q3⟩:=cellsk_ok ha.pos ha.wf hld hr
        rw [appk_eq] at q1
        obtain ⟨t',q4,q5,q6⟩:=rowk_ok q1 hr
        have q2 : old.length = l * s:=q2
        refine movek_ok q4 hr rh hb hblk ha hgs hs.vr hs.size hs.one hpos (o:=o) (fun j ch hj=>?_) hcap at_ hs hlc hsm
        obtain ⟨g1,rfl⟩:=q6 j ch hj
        have hjm : (j + 1) * s ≤ (l + m) * s:=Nat.mul_le_mul_right s g1
        rw [Nat.succ_mul,Nat.add_mul] at hjm
        have hnl:=hs.size
        refine ⟨g1,by simp only [List.length_take,List.length_drop,List.length_append]; omega,fun i v' hi=>?_⟩
        have hig : i < s:=by have:=(List.getElem?_eq_some_iff.1 hi).1; simp only [List.length_take] at this; omega
        rw [List.getElem?_take_of_lt hig,List.getElem?_drop] at hi
        constructor
        · intro hlt
          rw [List.getElem?_append_left (by omega)] at hi
          exact q3 _ _ hi
        · intro hge
          rw [List.getElem?_append_right (by omega),q2] at hi
          exact hi
       rcases ifk_ne h7 with ⟨hg1,h8⟩ | ⟨_,h8⟩
       · obtain rfl:=Nat.eq_of_beq_eq_true hg1
         rcases ifk_ne h8 with ⟨hn1,h9⟩ | ⟨_,h9⟩
         · obtain rfl:=Nat.eq_of_beq_eq_true hn1
           obtain ⟨rfl,h10⟩:=zk_fail h9 hr
           obtain ⟨t',q1,q2,q3⟩:=chopk_ok h10 hr
           refine movek_ok q1 hr rh hb hblk ha id hs.vr hs.size hs.one hpos (o:=0) (fun j ch hj=>?_) hcap at_ hs hlc hsm
           rw [q3] at hj
           have hnl:=hs.size
           split at hj
           · rename_i hjr
             cases hj
             have hjm : (j - n + 1) * g ≤ m * g:=Nat.mul_le_mul_right g (by omega)
             rw [Nat.succ_mul] at hjm
             have hjg : n * g ≤ j * g:=Nat.mul_le_mul_right g hjr.1
             have hjd : (j - n) * g = j * g - n * g:=Nat.sub_mul _ _ _
             refine ⟨hjr.2,by simp only [List.length_take,List.length_drop]; omega,fun i v' hi=>?_⟩
             have hig : i < g:=by have:=(List.getElem?_eq_some_iff.1 hi).1; simp only [List.length_take] at this; omega
             rw [List.getElem?_take_of_lt hig,List.getElem?_drop] at hi
             refine ⟨fun hlt=>by omega,fun _=>?_⟩
             rw [← hi]; congr 1; omega
           · obtain ⟨w1,w2,_⟩:=ha.cells j ch hj
             refine ⟨by omega,w2,fun i v' hi=>?_⟩
             have hig : i < g:=by have:=(List.getElem?_eq_some_iff.1 hi).1; omega
             have hjm : (j + 1) * g ≤ n * g:=Nat.mul_le_mul_right g w1
             rw [Nat.succ_mul] at hjm
             refine ⟨fun _=>?_,fun hge=>by omega⟩
             have e1 : (0 + (j * g + i)) / g = j:=by rw [Nat.zero_add,Nat.mul_comm,Nat.mul_add_div hpos,Nat.div_eq_of_lt hig]; omega
             have e2 : (0 + (j * g + i)) % g = i:=by rw [Nat.zero_add,Nat.mul_comm,Nat.mul_add_mod]; exact Nat.mod_eq_of_lt hig
             simp only [T.cell,e1,hj,Option.bind_some,e2,hi]
         · exact gen h9 id
       · rcases ifk_ne h8 with ⟨_,h9⟩ | ⟨hne,h9⟩
         · exact absurd h9.symm hr
         · exact gen h9 fun e=>by subst e; cases hne
 · rw [hv.nils_inv]
   rw [zk_eq] at h1
   split at h1
   · subst m
     exact .pure rh ⟨_,.slice none 0 0,h1,run_append_in at_ hs.how (by omega) (w':=w) (fun a e=>by cases e) (fun _=>rfl),.nils⟩
   · rename_i hm
     obtain ⟨hsm,h2⟩:=ifk_fail h1 hr
     have hsm : m ≤ 16777216:=Nat.le_of_ble_eq_true hsm
     obtain ⟨z1,hz,hzs,hz1⟩:=at_.zero
     obtain ⟨cap',hcap',hrun⟩:=run_append_grow (u:=u) (l:=0) (cap:=0) (base:=none) (old:=#[]) at_ hs.how rfl (by omega) (by omega) hz
     rw [Nat.zero_add] at hrun
     have hxl:=hs.vr.length
     have hnl:=hs.size
     let cs2 : Array Value:=#[] ++ xs.toArray ++ Builtin.zeroCells z1.cells (cap' - m)
     have hcs2 : cs2.size = cap' * sz0:=by
      show (#[] ++ xs.toArray ++ Builtin.zeroCells z1.cells (cap' - m)).size = _
      rw [Array.size_append,Array.size_append,zeroCells_size,hzs]
      simp only [List.size_toArray]
      have : cap' * sz0 = m * sz0 + (cap' - m) * sz0:=by rw [← Nat.add_mul]; congr 1; omega
      rw [this]; simp; omega
     have htl : cs2.toList = xs ++ (Builtin.zeroCells z1.cells (cap' - m)).toList:=by
      show (#[] ++ xs.toArray ++ Builtin.zeroCells z1.cells (cap' - m)).toList = _
      simp [Array.toList_append]
     have hone : ∀ a ∈ cs2.toList,a.oneCell' = true:=by
      intro a ha
      rw [htl] at ha
      rcases List.mem_append.1 ha with ha | ha
      · exact hs.one a ha
      · exact zeroCells_one hz1 _ a ha
     have hvr : VRs ρ new (cs2.toList.take new.length):=by
      rw [htl,List.take_append_of_le_length (by omega),List.take_of_length_le (by omega)]
      exact hs.vr
     obtain ⟨uu,h',ρ',g1,g2,g3,g4⟩:=freshk_ok h2 hr (rh.drew (w.drawn + 1)) hpos hvr hone hcs2 (by omega) e
     refine ⟨uu,h',ρ',_,_,g1,hrun,g2,?_,(Ext.drew ρ h w (w.drawn + 1)).trans ?_⟩
     · exact g3
     · exact g4
 · cases hv with
   | emp a cap=>
     obtain ⟨rfl,h2⟩:=zk_fail h1 hr
     have hxl:=hs.vr.length
     have hnl:=hs.size
     have : xs = []:=List.length_eq_zero_iff.1 (by omega)
     subst this
     exact .pure rh ⟨_,.slice (some a) 0 cap,h2,run_append_in at_ hs.how (by omega) (w':=w) (fun _ _=>rfl) (fun e=>by cases e),.emp a cap⟩
end Go.Ev

/- EVALUATOR, 14: slice expressions; copy; make; bytes and strings. -/
namespace Go.Ev
variable {P : Program}
noncomputable def bndk (x : Option V) (z : Nat) (k : Nat→Res) : Res:=Option.rec (motive:=fun _=>Res) (k z) (fun v=>intk v fun _ n=>natk n k) x
def BndR (ρ : Rho) : Option V→Option Value→Prop
 | none,none=>True
 | some x,some v=>VR ρ x v
 | _,_=>False
theorem bndk_ok {x : Option V} {z : Nat} {k : Nat→Res} {r : Res} (h : bndk x z k = r) (hr : r ≠ .fail) {ρ : Rho} {v : Option Value} (hv : BndR ρ x v) :
 ∃ n : Nat,k n = r∧((x = none∧v = none∧n = z) ∨ (∃ kd,v = some (.int kd n))):=by
 cases x with
 | none=>cases v with | none=>exact ⟨z,h,.inl ⟨rfl,rfl,rfl⟩⟩ | some v=>exact hv.elim
 | some x=>
   cases v with
   | none=>exact hv.elim
   | some v=>
     obtain ⟨kd,n,rfl,h1⟩:=intk_ok (show intk x (fun _ n=>natk n k) = r from h) hr
     obtain ⟨m,rfl,h2⟩:=natk_ok h1 hr
     have hv : VR ρ (.int kd m) v:=hv
     exact ⟨m,h2,.inr ⟨kd,by rw [hv.int_inv]⟩⟩
theorem run_bound {w : World} {kd : IntKind} {n y : Nat} (h : n ≤ y) (c : BoundsCode) : (Instr.sliceBound (.int kd n) y c).run P w = .ok n w:=by
 have h1 : (0 : Int) ≤ (n : Int)∧(n : Int) ≤ (y : Int):=⟨by omega,by omega⟩
 simp only [Instr.sliceBound,asIntOf,Sem.run_bind,Sem.run_pure,Result.andThen_ok]
 rw [if_pos h1]
 simp
theorem run_bounds2 {w : World} {isS : Bool} {len cap lo hi : Nat} {low high : Option Value} (hlo : (low = none∧lo = 0) ∨ ∃ kd,low = some (.int kd lo))
 (hhi : (high = none∧hi = len) ∨ (∃ kd,high = some (.int kd hi))∧hi ≤ cap) (hle : lo ≤ hi) : (Instr.sliceBounds isS len cap low high none).run P w = .ok (lo,hi,cap) w:=by
 rcases hhi with ⟨rfl,rfl⟩ | ⟨⟨kd,rfl⟩,hc⟩ <;> rcases hlo with ⟨rfl,rfl⟩ | ⟨kd',rfl⟩
 · simp only [Instr.sliceBounds,Sem.run_bind,Sem.run_pure,Result.andThen_ok]
 · simp only [Instr.sliceBounds,Sem.run_bind,Sem.run_pure,Result.andThen_ok,run_bound hle]
 · simp only [Instr.sliceBounds,Sem.run_bind,Sem.run_pure,Result.andThen_ok,run_bound hc]
 · simp only [Instr.sliceBounds,Sem.run_bind,Sem.run_pure,Result.andThen_ok,run_bound hc,run_bound hle]
theorem run_bounds3 {w : World} {isS : Bool} {len cap lo hi mx : Nat} {low high max : Option Value} (hlo : (low = none∧lo = 0) ∨ ∃ kd,low = some (.int kd lo))
 (hhi : ∃ kd,high = some (.int kd hi)) (hmx : ∃ kd,max = some (.int kd mx)) (h1 : mx ≤ cap) (h2 : hi ≤ mx) (hle : lo ≤ hi) : (Instr.sliceBounds isS len cap low high max).run P w = .ok (lo,hi,mx) w:=by
 obtain ⟨kd,rfl⟩:=hhi
 obtain ⟨kd',rfl⟩:=hmx
 rcases hlo with ⟨rfl,rfl⟩ | ⟨kd'',rfl⟩
 · simp only [Instr.sliceBounds,Sem.run_bind,Sem.run_pure,Result.andThen_ok,run_bound h1,run_bound h2]
 · simp only [Instr.sliceBounds,Sem.run_bind,Sem.run_pure,Result.andThen_ok,run_bound h1,run_bound h2,run_bound hle]
noncomputable def sSliceS (x : V) (lo hi : Option V) (h : Heap) (k : V→Heap→Res) : Res:=
 strk x fun l n=>bndk lo 0 fun a=>bndk hi l fun b=>ifk (Nat.ble a b) (ifk (Nat.ble b l) (k (.str (Nat.sub b a) (Nat.mod (Nat.div n (Nat.pow 2 (Nat.mul 8 a))) (Nat.pow 2 (Nat.mul 8 (Nat.sub b a))))) h) .fail) .fail
theorem sSliceS_ok {x : V} {lo hi : Option V} {h : Heap} {k : V→Heap→Res} {r : Res} (hh : sSliceS x lo hi h k = r) (hr : r ≠ .fail) {ρ : Rho} {w : World} (_ : RH P ρ h w) {v : Value} (hv : VR ρ x v)
 {low high : Option Value} (hlo : BndR ρ lo low) (hhi : BndR ρ hi high) {t : TypeId} (ht : P.underlying t = some .string) : OkP P ρ h w (Instr.sliceAt t v low high none) k r:=by
 obtain ⟨l,n,rfl,h1⟩:=strk_ok hh hr
 obtain ⟨a,h2,h3⟩:=bndk_ok h1 hr hlo
 obtain ⟨b,h4,h5⟩:=bndk_ok h2 hr hhi
 obtain ⟨hab,h6⟩:=ifk_fail h4 hr
 obtain ⟨hbl,h7⟩:=ifk_fail h6 hr
 have hab : a ≤ b:=Nat.le_of_ble_eq_true hab
 have hbl : b ≤ l:=Nat.le_of_ble_eq_true hbl
 obtain ⟨s,rfl,e1,e2⟩:=hv.str_inv
 have hsz:=str_size e1
 have hb:=run_bounds2 (P:=P) (w:=w) (isS:=false) (len:=s.size) (cap:=s.size) (lo:=a) (hi:=b) (low:=low) (high:=high)
  (h3.imp (fun h=>h.2) id) (h5.imp (fun h=>⟨h.2.1,by omega⟩) (fun h=>⟨h,by omega⟩)) hab
 refine ⟨_,.string (s.extract a b),h7,?_,?_⟩
 · simp only [Instr.sliceAt,Instr.slice,Sem.run_bind,run_und ht,Result.andThen_ok,Option.isSome_none,Bool.false_eq_true,if_false,hb,Sem.run_pure]
 · refine .str ?_ ?_
   · show (s.extract a b).data.toList = dig (b - a) (n / 2 ^ (8 * a) % 2 ^ (8 * (b - a)))
     rw [ByteArray.data_extract,Array.toList_extract,List.extract_eq_take_drop,e1,← pow256,← pow256]
     obtain ⟨d,rfl⟩ : ∃ d,l = a + d:=⟨l - a,by omega⟩
     rw [dig_drop]
     obtain ⟨d',rfl⟩ : ∃ d',d = (b - a) + d':=⟨d - (b - a),by omega⟩
     rw [dig_take]
   · show n / 2 ^ (8 * a) % 2 ^ (8 * (b - a)) < 256 ^ (b - a)
     rw [← pow256 (b - a)]
     exact Nat.mod_lt _ (Nat.pow_pos (by decide))
noncomputable def optn (c : Option Nat) (l : Nat) : Nat:=Option.rec (motive:=fun _=>Nat) l (fun n=>n) c
noncomputable def sSlice (sz : Nat) (x : V) (lo hi mx : Option V) (h : Heap) (k : V→Heap→Res) : Res:=
 slk x
  (fun b o l c s=>ifk (Nat.beq s sz) (bndk lo 0 fun i=>bndk hi l fun j=>ifk (Nat.ble i j)
    (Option.rec (motive:=fun _=>Res)
      (optk c
        (fun cap=>ifk (Nat.ble j cap) (ifk (Nat.beq cap i) (k .emp h) (k (.slice b (Nat.add o (Nat.mul i sz)) (Nat.sub j i) (some (Nat.sub cap i)) sz) h)) .fail)
        (ifk (Nat.ble j l) (ifk (Nat.blt i l) (k (.slice b (Nat.add o (Nat.mul i sz)) (Nat.sub j i) none sz) h) (k .emp h)) .fail))
      (fun m=>bndk (some m) 0 fun mm=>Option.rec (motive:=fun _=>Res) .fail (fun _=>ifk (Nat.ble j mm) (ifk (Nat.ble mm (optn c l))
        (ifk (Nat.beq mm i) (k .emp h) (k (.slice b (Nat.add o (Nat.mul i sz)) (Nat.sub j i) (some (Nat.sub mm i)) sz) h)) .fail) .fail) hi) mx) .fail) .fail)
  (bndk lo 0 fun i=>bndk hi 0 fun j=>zk i (zk j (Option.rec (motive:=fun _=>Res) (k .nils h) (fun _=>.fail) mx) .fail) .fail)
  (bndk lo 0 fun i=>bndk hi 0 fun j=>zk i (zk j (Option.rec (motive:=fun _=>Res) (k .emp h) (fun _=>.fail) mx) .fail) .fail)
theorem sSlice_ok {sz0 : Nat} {x : V} {lo hi mx : Option V} {h : Heap} {k : V→Heap→Res} {r : Res} (hh : sSlice sz0 x lo hi mx h k = r) (hr : r ≠ .fail) {ρ : Rho} {w : World} (_ : RH P ρ h w)
 {v : Value} (hv : VR ρ x v) {low high max : Option Value} (hlo : BndR ρ lo low) (hhi : BndR ρ hi high) (hmx : BndR ρ mx max) {t e : TypeId} (ht : P.underlying t = some (.slice e))
 (hs : sz P e = some sz0) (hpos : 0 < sz0) : OkP P ρ h w (Instr.sliceAt t v low high max) k r:=by
 have unf : ∀ (a : Option Addr) (l cap i j m : Nat),(Instr.sliceBounds true l cap low high max).run P w = .ok (i,j,m) w →
  (Instr.sliceAt t (.slice a l cap) low high max).run P w = .ok (.slice (if m = i then a else a.map (·.add (i * sz0))) (j - i) (m - i)) w:=by
  intro a l cap i j m hb
  simp only [Instr.sliceAt,Instr.slice,Sem.run_bind,run_und ht,Result.andThen_ok,hb,run_size hs,Sem.run_pure]
 rcases slk_ok hh hr with ⟨b,o,l,cp,s,rfl,h1⟩ | ⟨rfl,h1⟩ | ⟨rfl,h1⟩
 · obtain ⟨hs1,h2⟩:=ifk_fail h1 hr
   obtain rfl:=Nat.eq_of_beq_eq_true hs1
   obtain ⟨c,z,S,cap,hb,hc1,hc2,hlc,rfl⟩:=hv.slice_inv
   obtain ⟨i,h3,h4⟩:=bndk_ok h2 hr hlo
   obtain ⟨j,h5,h6⟩:=bndk_ok h3 hr hhi
   obtain ⟨hij,h7⟩:=ifk_fail h5 hr
   have hij : i ≤ j:=Nat.le_of_ble_eq_true hij
   have hlo' : (low = none∧i = 0) ∨ ∃ kd,low = some (.int kd i):=h4.imp (fun h=>h.2) id
   have res : ∀ m,m ≤ cap→j ≤ m→m ≠ i→∀ cp' : Option Nat,(∀ n,cp' = some n→m - i = n)→(cp' = none→m = cap∧cp = none) →
    VR ρ (.slice b (o + i * s) (j - i) cp' s) (.slice (if m = i then some ⟨c,z + o,none⟩ else (some (⟨c,z + o,none⟩ : Addr)).map (·.add (i * s))) (j - i) (m - i)):=by
    intro m hm hjm hne cp' hp1 hp2
    rw [if_neg hne]
    simp only [Option.map_some,add_addr,Nat.add_assoc]
    refine .slice hb hp1 (fun e0=>?_) (by omega)
    obtain ⟨rfl,e2⟩:=hp2 e0
    have:=hc2 e2
    have h9 : (m - i) * s = m * s - i * s:=Nat.sub_mul _ _ _
    have h10 : i * s ≤ m * s:=Nat.mul_le_mul_right s (by omega)
    omega
   have emp : ∀ m,m ≤ cap→j ≤ m→m = i→VR ρ .emp (.slice (if m = i then some ⟨c,z + o,none⟩ else (some (⟨c,z + o,none⟩ : Addr)).map (·.add (i * s))) (j - i) (m - i)):=by
    intro m _ hjm he
    have : j - i = 0:=by omega
    rw [this,if_pos he]
    exact .emp _ _
   cases mx with
   | none=>
     cases max with
     | some _=>exact hmx.elim
     | none=>
       rcases optk_cases (show optk cp _ _ = r from h7) with ⟨n,rfl,h8⟩ | ⟨rfl,h8⟩
       · have:=hc1 n rfl
         subst this
         obtain ⟨hjc,h9⟩:=ifk_fail h8 hr
         have hjc : j ≤ cap:=Nat.le_of_ble_eq_true hjc
         have hbd:=run_bounds2 (P:=P) (w:=w) (isS:=true) (len:=l) (cap:=cap) hlo'
          (h6.imp (fun h=>h.2) (fun h=>⟨h,hjc⟩)) hij
         rcases ifk_ne h9 with ⟨he,h10⟩ | ⟨he,h10⟩
         · exact ⟨_,_,h10,unf _ _ _ _ _ _ hbd,emp cap (Nat.le_refl _) hjc (Nat.eq_of_beq_eq_true he)⟩
         · have hne : cap ≠ i:=fun e=>by rw [e] at he; simp at he
           exact ⟨_,_,h10,unf _ _ _ _ _ _ hbd,res cap (Nat.le_refl _) hjc hne _ (fun n e=>by cases e; rfl) (fun e=>by cases e)⟩
       · obtain ⟨hjl,h9⟩:=ifk_fail h8 hr
         have hjl : j ≤ l:=Nat.le_of_ble_eq_true hjl
         have hbd:=run_bounds2 (P:=P) (w:=w) (isS:=true) (len:=l) (cap:=cap) hlo'
          (h6.imp (fun h=>h.2) (fun h=>⟨h,by omega⟩)) hij
         rcases ifk_ne h9 with ⟨he,h10⟩ | ⟨he,h10⟩
         · have hil : i < l:=by simpa [Nat.blt_eq] using he
           exact ⟨_,_,h10,unf _ _ _ _ _ _ hbd,res cap (Nat.le_refl _) (by omega) (by omega) _ (fun n e=>by cases e) (fun _=>⟨rfl,rfl⟩)⟩
         · have hil : ¬ i < l:=fun e=>by have:=Nat.ble_eq_true_of_le (show Nat.succ i ≤ l from e); exact absurd (this.symm.trans he) (by simp)
           refine ⟨_,_,h10,unf _ _ _ _ _ _ hbd,?_⟩
           have : j - i = 0:=by omega
           rw [this]
           by_cases e : cap = i
           · rw [if_pos e]; exact .emp _ _
           · rw [if_neg e]; exact .emp _ _
   | some m=>
     cases max with
     | none=>exact hmx.elim
     | some mv=>
       obtain ⟨mm,h8,h9⟩:=bndk_ok (v:=some mv) (show bndk (some m) 0 _ = r from h7) hr hmx
       obtain ⟨kd,hm⟩ : ∃ kd,(some mv : Option Value) = some (.int kd mm):=h9.elim (fun h=>by cases h.1) id
       cases hm
       cases hi with
       | none=>exact absurd (show Res.fail = r from h8).symm hr
       | some hx=>
         have hh2 : ∃ kd,high = some (.int kd j):=h6.elim (fun h=>by cases h.1) id
         obtain ⟨hjm,h10⟩:=ifk_fail (show ifk (Nat.ble j mm) _ .fail = r from h8) hr
         have hjm : j ≤ mm:=Nat.le_of_ble_eq_true hjm
         obtain ⟨hmc,h11⟩:=ifk_fail h10 hr
         have hmc : mm ≤ cap:=by
          have h12 : mm ≤ optn cp l:=Nat.le_of_ble_eq_true hmc
          cases cp with
          | none=>exact Nat.le_trans h12 hlc
          | some n=>rw [hc1 n rfl]; exact h12
         have hbd:=run_bounds3 (P:=P) (w:=w) (isS:=true) (len:=l) (cap:=cap) (lo:=i) (hi:=j) (mx:=mm) (low:=low) (high:=high) hlo' hh2 ⟨kd,rfl⟩ hmc hjm hij
         rcases ifk_ne h11 with ⟨he,h12⟩ | ⟨he,h12⟩
         · exact ⟨_,_,h12,unf _ _ _ _ _ _ hbd,emp mm hmc hjm (Nat.eq_of_beq_eq_true he)⟩
         · have hne : mm ≠ i:=fun e=>by rw [e] at he; simp at he
           exact ⟨_,_,h12,unf _ _ _ _ _ _ hbd,res mm hmc hjm hne _ (fun n e=>by cases e; rfl) (fun e=>by cases e)⟩
 · rw [hv.nils_inv]
   obtain ⟨i,h3,h4⟩:=bndk_ok h1 hr hlo
   obtain ⟨j,h5,h6⟩:=bndk_ok h3 hr hhi
   obtain ⟨rfl,h7⟩:=zk_fail h5 hr
   obtain ⟨rfl,h8⟩:=zk_fail h7 hr
   cases mx with
   | some m=>exact absurd (show Res.fail = r from h8).symm hr
   | none=>
     cases max with
     | some _=>exact hmx.elim
     | none=>
       have hbd:=run_bounds2 (P:=P) (w:=w) (isS:=true) (len:=0) (cap:=0) (h4.imp (fun h=>h.2) id) (h6.imp (fun h=>h.2) (fun h=>⟨h,Nat.le_refl _⟩)) (Nat.le_refl _)
       exact ⟨_,_,h8,unf _ _ _ _ _ _ hbd,by simpa using VR.nils⟩
 · cases hv with
   | emp a cap=>
     obtain ⟨i,h3,h4⟩:=bndk_ok h1 hr hlo
     obtain ⟨j,h5,h6⟩:=bndk_ok h3 hr hhi
     obtain ⟨rfl,h7⟩:=zk_fail h5 hr
     obtain ⟨rfl,h8⟩:=zk_fail h7 hr
     cases mx with
     | some m=>exact absurd (show Res.fail = r from h8).symm hr
     | none=>
       cases max with
       | some _=>exact hmx.elim
       | none=>
         have hbd:=run_bounds2 (P:=P) (w:=w) (isS:=true) (len:=0) (cap:=cap) (h4.imp (fun h=>h.2) id) (h6.imp (fun h=>h.2) (fun h=>⟨h,Nat.zero_le _⟩)) (Nat.le_refl _)
         refine ⟨_,_,h8,unf _ _ _ _ _ _ hbd,?_⟩
         by_cases e : cap = 0
         · rw [if_pos e]; exact .emp _ _
         · rw [if_neg e]; exact .emp _ _
noncomputable def sSliceA (n sz : Nat) (x : V) (lo hi : Option V) (h : Heap) (k : V→Heap→Res) : Res:=
 ptrk x fun b o=>bndk lo 0 fun i=>bndk hi n fun j=>ifk (Nat.ble i j) (ifk (Nat.ble j n) (ifk (Nat.beq n i) (k .emp h) (k (.slice b (Nat.add o (Nat.mul i sz)) (Nat.sub j i) (some (Nat.sub n i)) sz) h)) .fail) .fail
theorem sSliceA_ok {n sz0 : Nat} {x : V} {lo hi : Option V} {h : Heap} {k : V→Heap→Res} {r : Res} (hh : sSliceA n sz0 x lo hi h k = r) (hr : r ≠ .fail) {ρ : Rho} {w : World} (_ : RH P ρ h w)
 {v : Value} (hv : VR ρ x v) {low high : Option Value} (hlo : BndR ρ lo low) (hhi : BndR ρ hi high) {t e : TypeId} (ht : P.underlying t = some (.array n e))
 (hs : sz P e = some sz0) : OkP P ρ h w (Instr.sliceAt t v low high none) k r:=by
 obtain ⟨b,o,rfl,h1⟩:=ptrk_ok hh hr
 obtain ⟨c,z,S,hb,rfl⟩:=hv.ptr_inv
 obtain ⟨i,h3,h4⟩:=bndk_ok h1 hr hlo
 obtain ⟨j,h5,h6⟩:=bndk_ok h3 hr hhi
 obtain ⟨hij,h7⟩:=ifk_fail h5 hr
 have hij : i ≤ j:=Nat.le_of_ble_eq_true hij
 obtain ⟨hjn,h8⟩:=ifk_fail h7 hr
 have hjn : j ≤ n:=Nat.le_of_ble_eq_true hjn
 have hbd:=run_bounds2 (P:=P) (w:=w) (isS:=false) (len:=n) (cap:=n) (h4.imp (fun h=>h.2) id) (h6.imp (fun h=>h.2) (fun h=>⟨h,hjn⟩)) hij
 have hrun : (Instr.sliceAt t (.pointer (some ⟨c,z + o,none⟩)) low high none).run P w = .ok (.slice (some (if n = i then ⟨c,z + o,none⟩ else (⟨c,z + o,none⟩ : Addr).add (i * sz0))) (j - i) (n - i)) w:=by
  simp only [Instr.sliceAt,Sem.run_bind,run_und ht,Result.andThen_ok,Instr.sureAddr,Sem.run_pure,hbd,run_size hs]
 rcases ifk_ne h8 with ⟨he,h9⟩ | ⟨he,h9⟩
 · have he : n = i:=Nat.eq_of_beq_eq_true he
   refine ⟨_,_,h9,hrun,?_⟩
   have : j - i = 0:=by omega
   rw [this]; exact .emp _ _
 · have hne : n ≠ i:=fun e=>by rw [e] at he; simp at he
   refine ⟨_,_,h9,hrun,?_⟩
   rw [if_neg hne,add_addr,Nat.add_assoc]
   exact .slice hb (fun m e=>by cases e; rfl) (fun e=>by cases e) (show j - i ≤ n - i by omega)
noncomputable def srcTk (sz d : Nat) (y : V) (h : Heap) (k : Nat→List V→Res) : Res:=
 slk y (fun b o l _ _=>loadk h b o (Nat.mul (Nat.min l d) sz) fun cs=>k (Nat.min l d) cs) (k 0 []) (k 0 [])
noncomputable def srcTSk (d : Nat) (y : V) (k : Nat→List V→Res) : Res:=strk y fun l n=>bytesk (Nat.min l d) n fun cs=>k (Nat.min l d) cs
structure SrcT (P : Program) (ρ : Rho) (w : World) (sz d : Nat) (v : Value) (n : Nat) (l : List V) (xs : List Value) : Prop where
 len : ∃ m,(Builtin.lenOf v).run P w = .ok m w∧n = Nat.min m d
 cells : (Builtin.firstCells sz n v).run P w = .ok xs.toArray w
 vr : VRs ρ l xs
 size : l.length = n * sz
 one : ∀ x ∈ xs,x.oneCell' = true
theorem srcTk_ok {sz d : Nat} {y : V} {h : Heap} {k : Nat→List V→Res} {r : Res} (hh : srcTk sz d y h k = r) (hr : r ≠ .fail) {ρ : Rho} {w : World} (rh : RH P ρ h w) {v : Value} (hv : VR ρ y v) :
 ∃ n l xs,k n l = r∧SrcT P ρ w sz d v n l xs:=by
 rcases slk_ok hh hr with ⟨b,o,l,cp,s,rfl,h1⟩ | ⟨rfl,h1⟩ | ⟨rfl,h1⟩
 · obtain ⟨c,z,S,cap,hb,_,_,_,rfl⟩:=hv.slice_inv
   obtain ⟨m,xs,h2,h3,h4,h5,h6⟩:=loadk_ok (P:=P) h1 hr rh hb
   exact ⟨_,m,xs,h2,⟨l,rfl,rfl⟩,h3 w.drawn,h4,by rw [h4.length]; exact h5,h6⟩
 · rw [hv.nils_inv]
   exact ⟨0,[],[],h1,⟨0,rfl,(Nat.zero_min d).symm⟩,rfl,.nil,by simp,by simp⟩
 · cases hv with
   | emp a cap=>
     refine ⟨0,[],[],h1,⟨0,rfl,(Nat.zero_min d).symm⟩,?_,.nil,by simp,by simp⟩
     show (loadCells a (0 * sz)).run P _ = _
     rw [Nat.zero_mul]; rfl
theorem dig_mod (a _l n : Nat) : dig a (n % 256 ^ a) = dig a n:=by
 have:=dig_take a 0 n
 simp only [Nat.add_zero] at this
 rw [← this,List.take_of_length_le]
 rw [dig_length]; omega
theorem srcTSk_ok {d : Nat} {y : V} {k : Nat→List V→Res} {r : Res} (hh : srcTSk d y k = r) (hr : r ≠ .fail) {ρ : Rho} {w : World} {v : Value} (hv : VR ρ y v) :
 ∃ n l xs,k n l = r∧SrcT P ρ w 1 d v n l xs:=by
 obtain ⟨l,n,rfl,h1⟩:=strk_ok hh hr
 obtain ⟨s,rfl,e1,e2⟩:=hv.str_inv
 obtain ⟨m,h2,h3,h4⟩:=bytesk_ok (ρ:=ρ) h1
 have hsz:=str_size e1
 refine ⟨_,m,_,h2,⟨l,by simp [Builtin.lenOf,hsz],rfl⟩,?_,h4,by omega,?_⟩
 · simp only [Builtin.firstCells,Sem.run_pure]
   congr 1
   apply Array.ext'
   rw [Array.toList_map,ByteArray.data_extract,Array.toList_extract,List.extract_eq_take_drop,List.drop_zero,e1]
   obtain ⟨q,hq⟩ : ∃ q,l = Nat.min l d + q:=⟨l - Nat.min l d,by have:=Nat.min_le_left l d; show l = min l d + (l - min l d); omega⟩
   have : (dig l n).take (Nat.min l d - 0) = dig (Nat.min l d) n:=by
    rw [Nat.sub_zero]
    have h5:=dig_take (Nat.min l d) q n
    rw [← hq,dig_mod _ 0] at h5
    exact h5
   rw [this]
 · intro x hx
   obtain ⟨b,_,rfl⟩:=List.mem_map.1 hx
   rfl
noncomputable def copyk (sz : Nat) (x : V) (h : Heap) (src : Nat→(Nat→List V→Res)→Res) (k : V→Heap→Res) : Res:=
 slk x (fun b o l _ _=>src l fun n cs=>storek h b o (Nat.mul n sz) cs fun h'=>k (.int .i64 (.ofNat n)) h') (k (.int .i64 (.ofNat 0)) h) (k (.int .i64 (.ofNat 0)) h)
theorem copyk_ok {sz0 : Nat} {x : V} {h : Heap} {src : Nat→(Nat→List V→Res)→Res} {k : V→Heap→Res} {r : Res} (hh : copyk sz0 x h src k = r) (hr : r ≠ .fail) {ρ : Rho} {w : World} (rh : RH P ρ h w)
 {v y : Value} (hv : VR ρ x v) (hsrc : ∀ d k r,src d k = r→r ≠ .fail→∃ n l xs,k n l = r∧SrcT P ρ w sz0 d y n l xs) (hlen : ∃ m,(Builtin.lenOf y).run P w = .ok m w)
 (hz : (Builtin.firstCells sz0 0 y).run P w = .ok #[] w) {ts : Array TypeId} {t e u : TypeId} (h0 : ts[0]? = some t) (ht : P.underlying t = some (.slice e)) (hs : sz P e = some sz0) :
 Ok P ρ h w (Builtin.copy_ ts u #[v,y]) k r:=by
 have e1 : ∀ v : Value,(#[v,y] : Array Value)[0]? = some v:=fun _=>rfl
 have e2 : ∀ v : Value,(#[v,y] : Array Value)[1]? = some y:=fun _=>rfl
 obtain ⟨m0,hl0⟩:=hlen
 rcases slk_ok hh hr with ⟨b,o,l,cp,s,rfl,h1⟩ | ⟨rfl,h1⟩ | ⟨rfl,h1⟩
 · obtain ⟨c,z,S,cap,hb,_,_,_,rfl⟩:=hv.slice_inv
   obtain ⟨n,cs,xs,h2,h3⟩:=hsrc l _ _ h1 hr
   obtain ⟨h',h4,h5⟩:=storek_ok (P:=P) h3.size h2 hr rh hb
   obtain ⟨w',h6,h7,h8⟩:=h5 xs h3.vr h3.one
   obtain ⟨m,hl,hm⟩:=h3.len
   refine ⟨_,h',ρ,.int .i64 n,w',h4,?_,.int _ _,h7,h8⟩
   simp only [Builtin.copy_,h0,e1,e2,Sem.run_bind,run_und ht,Result.andThen_ok,hl,run_size hs,← hm,h3.cells,h6,Sem.run_pure,goInt]
 · rw [hv.nils_inv]
   refine .pure rh ⟨_,.int .i64 0,h1,?_,.int _ _⟩
   have hm0 : Nat.min m0 0 = 0:=Nat.min_zero m0
   simp only [Builtin.copy_,h0,e1,e2,Sem.run_bind,run_und ht,Result.andThen_ok,hl0,run_size hs,hm0,hz,Sem.run_pure,goInt]
   rfl
 · cases hv with
   | emp a cap=>
     refine .pure rh ⟨_,.int .i64 0,h1,?_,.int _ _⟩
     have hm0 : Nat.min m0 0 = 0:=Nat.min_zero m0
     simp only [Builtin.copy_,h0,e1,e2,Sem.run_bind,run_und ht,Result.andThen_ok,hl0,run_size hs,hm0,hz,Sem.run_pure,goInt]
     rfl
end Go.Ev
