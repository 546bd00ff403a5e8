/- EvEx0: texts joined. -/
import Derived.Test.YtobbabhldblljaaGreatDoorEvOps3
import Derived.Laws.BytesString
import Derived.Defers
import Derived.Orders
import Derived.Laws.Sem
import Derived.Test.YtobbabhldblljaaGreatDoorEvEq
/- EVALUATOR, 15: make; bytes and strings. -/
namespace Go.Ev
variable {P : Program}
noncomputable def zT (n : Nat) (x y : T) : T:=Nat.rec (motive:=fun _=>T) x (fun _ _=>y) n
noncomputable def repT (c : List V) (f : Nat) : Nat→T:=
 Nat.rec (motive:=fun _=>Nat→T) (fun _=>.e) (fun _ ih n=>zT n .e (zT (Nat.pred n) (.lf c) (.nd (ih (Nat.div (Nat.succ n) 2)) (ih (Nat.div n 2))))) f
theorem repT_eq (c : List V) (f n : Nat) : repT c f n = T.rep c f n:=by
 induction f generalizing n with
 | zero=>rfl
 | succ f ih=>
   show zT n .e (zT (Nat.pred n) (.lf c) (.nd (repT c f ((n + 1) / 2)) (repT c f (n / 2)))) = _
   rw [ih,ih,T.rep]
   cases n with
   | zero=>rfl
   | succ n=>
     cases n with
     | zero=>rfl
     | succ n=>rw [if_neg (by omega),if_neg (by omega)]; rfl
noncomputable def sMake (g : Nat) (z : List V) (l c : V) (h : Heap) (k : V→Heap→Res) : Res:=
 intk l fun _ a=>natk a fun la=>intk c fun _ b=>natk b fun cb=>ifk (Nat.ble la cb) (ifk (Nat.ble cb 16777216)
  (h.newk (.arr g cb (repT z cb cb) false) fun bb h'=>k (.slice bb 0 la (some cb) g) h') .fail) .fail
theorem flat_get {g : Nat} {z : List V} (hz : z.length = g) : ∀ (n i : Nat),((List.replicate n z).flatten)[i]? = if i < n * g then z[i % g]? else none:=by
 intro n
 induction n with
 | zero=>intro i; simp
 | succ n ih=>
   intro i
   rw [List.replicate_succ,List.flatten_cons]
   by_cases hi : i < g
   · rw [List.getElem?_append_left (by omega),Nat.mod_eq_of_lt hi,if_pos (by rw [Nat.succ_mul]; omega)]
   · rw [List.getElem?_append_right (by omega),ih,hz]
     have : (i - g) % g = i % g:=by rw [← Nat.mod_eq_sub_mod (by omega)]
     rw [this,Nat.succ_mul]
     by_cases h2 : i - g < n * g
     · rw [if_pos h2,if_pos (by omega)]
     · rw [if_neg h2,if_neg (by omega)]
theorem flat_chunk {z : List V} {g n j : Nat} (hz : z.length = g) (hj : j < n) : (((List.replicate n z).flatten).drop (j * g)).take g = z:=by
 have hjm : (j + 1) * g ≤ n * g:=Nat.mul_le_mul_right g hj
 rw [Nat.succ_mul] at hjm
 apply List.ext_getElem?
 intro i
 by_cases hi : i < g
 · rw [List.getElem?_take_of_lt hi,List.getElem?_drop,flat_get hz,if_pos (by omega),Nat.mul_comm,Nat.mul_add_mod,Nat.mod_eq_of_lt hi]
 · rw [List.getElem?_eq_none (by simp only [List.length_take]; omega),List.getElem?_eq_none (by omega)]
theorem sMake_ok {g : Nat} {z : List V} {l c : V} {h : Heap} {k : V→Heap→Res} {r : Res} (hh : sMake g z l c h k = r) (hr : r ≠ .fail) {ρ : Rho} {w : World} (rh : RH P ρ h w) {lv cv : Value}
 (hl : VR ρ l lv) (hc : VR ρ c cv) {t e : TypeId} (ht : SliceT P t e g) {zv : Value} (hz : (P.info? e).bind (·.zero) = some zv) (hzr : VRs ρ z zv.cells.toList) (hzl : z.length = g)
 (hz1 : ∀ y ∈ zv.cells.toList,y.oneCell' = true) : Ok P ρ h w (Instr.makeSlice t lv cv) k r:=by
 obtain ⟨k1,a,rfl,h1⟩:=intk_ok hh hr
 obtain ⟨la,rfl,h2⟩:=natk_ok h1 hr
 obtain ⟨k2,b,rfl,h3⟩:=intk_ok h2 hr
 obtain ⟨cb,rfl,h4⟩:=natk_ok h3 hr
 obtain ⟨hle,h5⟩:=ifk_fail h4 hr
 obtain ⟨hsm,h6⟩:=ifk_fail h5 hr
 have hle : la ≤ cb:=Nat.le_of_ble_eq_true hle
 have hsm : cb ≤ 16777216:=Nat.le_of_ble_eq_true hsm
 obtain ⟨nx,h7,h8⟩:=Heap.newk_ok h6 hr
 rw [hl.int_inv,hc.int_inv]
 have hpos:=ht.pos
 have hzs : zv.cells.size = g:=by have:=hzr.len_eq; omega
 let cs : Array Value:=(Array.range (cb * g)).map (zv.cells[· % zv.cells.size]!)
 have hcs : cs.size = cb * g:=by simp [cs]
 have hget : ∀ i,i < cb * g→∃ y,cs[i]? = some y∧VR ρ ((z[i % g]?).getD .und) y∧y.oneCell' = true:=by
  intro i hi
  have hm : i % g < zv.cells.size:=by rw [hzs]; exact Nat.mod_lt i hpos
  have e1 : cs[i]? = some zv.cells[i % g]:=by
   simp only [cs,Array.getElem?_map,Array.getElem?_range,hi,if_true,Option.map_some,hzs]
   rw [getElem!_pos zv.cells (i % g) hm]
  refine ⟨_,e1,?_,hz1 _ (by simp)⟩
  have hm2 : i % g < z.length:=by rw [hzl]; exact Nat.mod_lt i hpos
  obtain ⟨y,h9,h10⟩:=hzr.get (List.getElem?_eq_getElem hm2)
  rw [List.getElem?_eq_getElem hm2,Option.getD_some]
  rw [Array.getElem?_toList,Array.getElem?_eq_getElem hm] at h9
  cases h9; exact h10
 have hflen : ((List.replicate cb z).flatten).length = cb * g:=by simp [hzl]
 obtain ⟨h9,h10⟩:=new_cells rh h7 hpos (n:=cb) (t:=repT z cb cb) (l:=(List.replicate cb z).flatten) (cs:=cs) (by
  refine VRs.of_get (by simp only [List.length_take,Array.length_toList]; omega) fun i v hi=>?_
  rw [flat_get hzl] at hi
  split at hi
  · rename_i hlt
    obtain ⟨y,h11,h12,_⟩:=hget i hlt
    rw [hi,Option.getD_some] at h12
    exact ⟨y,by rw [List.getElem?_take_of_lt (by omega),Array.getElem?_toList]; exact h11,h12⟩
  · cases hi)
  (by
    intro y hy
    obtain ⟨i,hi,rfl⟩:=List.mem_iff_getElem.1 hy
    have hi' : i < cb * g:=by simpa [hcs] using hi
    obtain ⟨y',h11,_,h12⟩:=hget i hi'
    have : cs.toList[i]? = some y':=by rw [Array.getElem?_toList]; exact h11
    rw [List.getElem?_eq_getElem hi] at this
    cases this; exact h12) hflen (fun j ch hj=>by
    rw [repT_eq,T.get_rep z cb cb (Nat.le_refl _)] at hj
    split at hj
    · rename_i hlt
      cases hj
      refine ⟨hlt,?_⟩
      have hjm : (j + 1) * g ≤ cb * g:=Nat.mul_le_mul_right g hlt
      rw [Nat.succ_mul] at hjm
      apply List.ext_getElem?
      intro i
      by_cases hi : i < g
      · rw [List.getElem?_take_of_lt hi,List.getElem?_drop,flat_get hzl,if_pos (by omega),Nat.mul_comm,Nat.mul_add_mod,Nat.mod_eq_of_lt hi]
      · rw [List.getElem?_eq_none (by omega),List.getElem?_eq_none (by simp only [List.length_take]; omega)]
    · cases hj) e (fz:=(0,0)) (.inl rfl) (by omega)
 obtain ⟨i,hi,hby⟩:=ht.bytes
 have hti : ∀ w : World,(typeInfo e).run P w = .ok i w:=fun w=>by simp [typeInfo,hi]
 refine ⟨_,_,_,.slice (some ⟨w.heap.size,0,none⟩) la cb,_,h8,?_,VR.slice_new _ _ _ _ _ _ hle,h9,h10⟩
 have hw1 : IntKind.i64.wrap (la : Int) = la:=wrap_small .i64 _ (by omega) (by show (la : Int) ≤ (9223372036854775807 : Nat); omega)
 have hw2 : IntKind.i64.wrap (cb : Int) = cb:=wrap_small .i64 _ (by omega) (by show (cb : Int) ≤ (9223372036854775807 : Nat); omega)
 have hb1 : (i.bytes : Int) * (cb : Int) ≤ 1099511627776:=by
  have h1 : i.bytes * cb ≤ 65536 * 16777216:=Nat.mul_le_mul hby hsm
  rw [← Int.natCast_mul]; omega
 have hc1 : (decide ((cb : Int) < 0) || decide ((i.bytes : Int) * (cb : Int) > 2 ^ 48) || decide ((la : Int) < 0) || decide ((la : Int) > (cb : Int))) = false:=by
  rw [Bool.or_eq_false_iff,Bool.or_eq_false_iff,Bool.or_eq_false_iff]
  exact ⟨⟨⟨decide_eq_false (by omega),decide_eq_false (by omega)⟩,decide_eq_false (by omega)⟩,decide_eq_false (by omega)⟩
 simp only [Instr.makeSlice,Sem.run_bind,run_und ht.und,Result.andThen_ok,asInt,asIntOf,Sem.run_pure,hti,hw1,hw2]
 rw [if_neg (by rw [hc1]; simp)]
 simp only [Sem.run_bind,run_askRoom,Result.andThen_ok,run_size ht.size,Int.toNat_natCast,Sem.run_ite]
 by_cases h0 : cb * g = 0
 · rw [if_pos h0]
   have : cs = #[]:=by
    apply Array.eq_empty_of_size_eq_zero; rw [hcs,h0]
   simp only [Sem.run_pure,Result.andThen_ok,newRow,Sem.run_bind,run_newObj,h0]
   have h2 : (Array.range 0).map (fun x=>(#[] : Array Value)[x % (#[] : Array Value).size]!) = cs:=by rw [this]; simp
   rw [h2]
 · rw [if_neg h0]
   simp only [run_zero hz,Result.andThen_ok,Sem.run_pure,newRow,Sem.run_bind,run_newObj]
   rfl
noncomputable def repk (z : List V) (n : Nat) (k : List V→Res) : Res:=Nat.rec (motive:=fun _=>(List V→Res)→Res) (fun k=>k []) (fun _ ih k=>ih fun l=>appk z l k) n k
theorem repk_eq (z : List V) (n : Nat) (k : List V→Res) : repk z n k = k (List.replicate n z).flatten:=by
 induction n generalizing k with
 | zero=>rfl
 | succ n ih=>
   show repk z n (fun l=>appk z l k) = _
   rw [ih,appk_eq,List.replicate_succ,List.flatten_cons]
theorem zeroCells_vr {ρ : Rho} {z : List V} {c : Array Value} (hz : VRs ρ z c.toList) (hpos : 0 < z.length) (n : Nat) : VRs ρ (List.replicate n z).flatten (Builtin.zeroCells c n).toList:=by
 have hl : z.length = c.size:=by have:=hz.length; simpa using this
 refine VRs.of_get (by simp [Builtin.zeroCells,hl]) fun i v hi=>?_
 rw [flat_get rfl] at hi
 split at hi
 · rename_i hlt
   obtain ⟨y,h1,h2⟩:=hz.get hi
   refine ⟨y,?_,h2⟩
   have hm : i % c.size < c.size:=Nat.mod_lt _ (by omega)
   rw [hl] at h1 hlt
   have e : (Builtin.zeroCells c n)[i]? = some c[i % c.size]:=by
    simp only [Builtin.zeroCells,Array.getElem?_map,Array.getElem?_range,hlt,if_true,Option.map_some]
    rw [getElem!_pos c (i % c.size) hm]
   rw [Array.getElem?_toList,e]
   rw [Array.getElem?_toList,Array.getElem?_eq_getElem hm] at h1
   exact h1
 · cases hi
noncomputable def zerosk (sz : Nat) (z : List V) (n : Nat) (h : Heap) (k : V→Heap→Res) : Res:=zk n (k .nils h) (h.newk (.arr sz n (repT z n n) false) fun b h'=>k (.slice b 0 n none sz) h')
noncomputable def sAppZ (sz : Nat) (z : List V) (x y : V) (h : Heap) (k : V→Heap→Res) : Res:=
 intk y fun _ i=>natk i fun n=>ifk (Nat.ble n 16777216) (ifk (Nat.blt 1 sz)
  (slk x (fun _ _ _ _ _=>repk z n fun new=>appendk sz x n new h k) (zerosk sz z n h k) (repk z n fun new=>appendk sz x n new h k))
  (repk z n fun new=>appendk sz x n new h k)) .fail
theorem sAppZ_ok {sz0 : Nat} {z : List V} {x y : V} {h : Heap} {k : V→Heap→Res} {r : Res} (hh : sAppZ sz0 z x y h k = r) (hr : r ≠ .fail) {ρ : Rho} {w : World} (rh : RH P ρ h w) {v v' : Value}
 (hv : VR ρ x v) (hv' : VR ρ y v') {ts : Array TypeId} {ty e u u2 : TypeId} {kd : IntKind} (at_ : AppT P ts ty e sz0) (h1 : ts[1]? = some u2) (h2 : P.underlying u2 = some (.int kd)) {zv : Value}
 (hz : (P.info? e).bind (·.zero) = some zv) (hzr : ∀ ρ,VRs ρ z zv.cells.toList) (hzl : z.length = sz0) (hz1 : ∀ y ∈ zv.cells.toList,y.oneCell' = true) :
 Ok P ρ h w (Builtin.append_ ts u #[v,v']) k r:=by
 obtain ⟨k1,i,rfl,h3⟩:=intk_ok hh hr
 obtain ⟨n,rfl,h4⟩:=natk_ok h3 hr
 obtain ⟨hn,h5⟩:=ifk_fail h4 hr
 have hn : n ≤ 16777216:=Nat.le_of_ble_eq_true hn
 rw [hv'.int_inv]
 have hs : SrcH P ρ w ts e sz0 (.int k1 n) n (List.replicate n z).flatten (Builtin.zeroCells zv.cells n).toList:=
  ⟨.zeros u2 kd k1 zv h1 h2 rfl hn hz (by simp),zeroCells_vr (hzr ρ) (by rw [hzl]; exact at_.pos) n,by simp [hzl],zeroCells_one hz1 n⟩
 have old : (repk z n fun new=>appendk sz0 x n new h k) = r→Ok P ρ h w (Builtin.append_ ts u #[v,.int k1 n]) k r:=fun h5=>by
  rw [repk_eq] at h5
  exact appendk_ok h5 hr rh hv hs at_
 rcases ifk_ne h5 with ⟨_,h6⟩ | ⟨_,h6⟩
 · rcases slk_ok h6 hr with ⟨_,_,_,_,_,_,h7⟩ | ⟨rfl,h7⟩ | ⟨_,h7⟩
   · exact old h7
   ·
    have hpos:=at_.pos
    rw [hv.nils_inv]
    have h7 : zk n (k .nils h) (h.newk (.arr sz0 n (repT z n n) false) fun b h'=>k (.slice b 0 n none sz0) h') = r:=h7
    rw [zk_eq] at h7
    split at h7
    · subst n
      exact .pure rh ⟨_,.slice none 0 0,h7,run_append_in at_ hs.how (by omega) (w':=w) (fun a e=>by cases e) (fun _=>rfl),.nils⟩
    · rename_i hm
      obtain ⟨z1,hz',hzs,hz1'⟩:=at_.zero
      clear old
      generalize (Builtin.zeroCells zv.cells n).toList = xs at hs
      obtain ⟨cap',hcap',hrun⟩:=run_append_grow (u:=u) (l:=0) (cap:=0) (base:=none) (old:=#[]) at_ hs.how rfl (by omega) (by omega) hz'
      rw [Nat.zero_add] at hrun
      have hxl:=hs.vr.length
      have hnl:=hs.size
      let cs2 : Array Value:=#[] ++ xs.toArray ++ Builtin.zeroCells z1.cells (cap' - n)
      have hcs2 : cs2.size = cap' * sz0:=by
       show (#[] ++ xs.toArray ++ Builtin.zeroCells z1.cells (cap' - n)).size = _
       rw [Array.size_append,Array.size_append,zeroCells_size,hzs]
       have : cap' * sz0 = n * sz0 + (cap' - n) * sz0:=by rw [← Nat.add_mul]; congr 1; omega
       rw [this]; simp; omega
      have htl : cs2.toList = xs ++ (Builtin.zeroCells z1.cells (cap' - n)).toList:=by
       show (#[] ++ xs.toArray ++ Builtin.zeroCells z1.cells (cap' - n)).toList = _
       simp [Array.toList_append]
      have hone : ∀ a ∈ cs2.toList,a.oneCell' = true:=by
       intro a ha
       rw [htl] at ha
       rcases List.mem_append.1 ha with ha | ha
       · exact hs.one a ha
       · exact zeroCells_one hz1' _ a ha
      have hvr : VRs ρ (List.replicate n z).flatten (cs2.toList.take (List.replicate n z).flatten.length):=by
       rw [htl,List.take_append_of_le_length (by omega),List.take_of_length_le (by omega)]
       exact hs.vr
      have hgr : n * sz0 ≤ cap' * sz0:=Nat.mul_le_mul_right sz0 (by omega)
      obtain ⟨nx,g1,g2⟩:=Heap.newk_ok h7 hr
      obtain ⟨g3,g4⟩:=new_cells (rh.drew (w.drawn + 1)) g1 hpos (n:=n) (t:=repT z n n) hvr hone hnl (fun j ch hj=>by
       rw [repT_eq,T.get_rep _ _ _ (Nat.le_refl _)] at hj
       split at hj
       · rename_i hjn
         cases hj
         have hjs : (j + 1) * sz0 ≤ n * sz0:=Nat.mul_le_mul_right sz0 hjn
         rw [Nat.succ_mul] at hjs
         refine ⟨hjn,?_⟩
         apply List.ext_getElem?
         intro i
         by_cases hi : i < sz0
         · rw [List.getElem?_take_of_lt hi,List.getElem?_drop,flat_get hzl,if_pos (by omega)]
           have : (j * sz0 + i) % sz0 = i:=by rw [Nat.mul_comm,Nat.mul_add_mod]; exact Nat.mod_eq_of_lt hi
           rw [this]
         · rw [List.getElem?_eq_none (by omega),List.getElem?_eq_none (by simp only [List.length_take]; omega)]
       · cases hj) e (fz:=(0,0)) (.inl rfl) (by omega)
      refine ⟨_,_,_,.slice (some ⟨w.heap.size,0,none⟩) n cap',_,g2,hrun,?_,g3,(Ext.drew ρ h w (w.drawn + 1)).trans g4⟩
      have:=VR.slice (o:=0) (l:=n) (cp:=none) (s:=sz0) (cap:=cap') (Rho.put_same ρ h.nx (w.heap.size,0,cs2.size)) (fun m e=>by cases e) (fun _=>by omega) (by omega)
      simpa using this
   · exact old h7
 · exact old h6
noncomputable def packk (l : List V) : (Nat→Res)→Res:=
 List.rec (motive:=fun _=>(Nat→Res)→Res) (fun k=>k 0) (fun v _ ih k=>intk v fun kd m=>ifk (Nat.beq (kno kd) 4) (natk m fun b=>ifk (Nat.blt b 256) (ih fun n=>k (Nat.add b (Nat.mul 256 n))) .fail) .fail) l
theorem packk_ok {ρ : Rho} {l : List V} {k : Nat→Res} {r : Res} (h : packk l k = r) (hr : r ≠ .fail) {xs : List Value} (hl : VRs ρ l xs) :
 ∃ ns : List Nat,k (pack (ns.map UInt8.ofNat)) = r∧xs = ns.map (fun (n : Nat)=>Value.int .u8 (n : Int))∧∀ n ∈ ns,n < 256:=by
 induction l generalizing xs k with
 | nil=>cases hl; exact ⟨[],h,rfl,by simp⟩
 | cons v l ih=>
   cases hl with
   | cons hv hs=>
     obtain ⟨kd,m,rfl,h1⟩:=intk_ok (show intk v _ = r from h) hr
     obtain ⟨hk,h2⟩:=ifk_fail h1 hr
     obtain ⟨b,rfl,h3⟩:=natk_ok h2 hr
     obtain ⟨hb,h4⟩:=ifk_fail h3 hr
     have hb : b < 256:=by simpa [Nat.blt_eq] using hb
     obtain ⟨ns,h5,h6,h7⟩:=ih (k:=fun n=>k (Nat.add b (Nat.mul 256 n))) h4 hs
     have hkd : kd = .u8:=by cases kd <;> first | rfl | exact absurd hk (by decide)
     subst hkd
     refine ⟨b :: ns,?_,by rw [hv.int_inv,h6]; rfl,by simpa using ⟨hb,h7⟩⟩
     simp only [List.map_cons,pack]
     have : (UInt8.ofNat b).toNat = b:=by simp; omega
     rw [this]; exact h5
theorem push_list : ∀ (ns : List Nat) (s : ByteArray),((ns.map (fun (n : Nat)=>(n : Int))).foldl (fun r n=>r.push (UInt8.ofNat n.toNat)) s).data.toList = s.data.toList ++ ns.map UInt8.ofNat
 | [],s=>by simp
 | n :: ns,s=>by
   simp only [List.map_cons,List.foldl_cons,Int.toNat_natCast]
   rw [push_list ns]
   simp [ByteArray.push]
noncomputable def sBytesS (x : V) (h : Heap) (k : V→Heap→Res) : Res:=
 slk x (fun b o l _ _=>loadk h b o l fun cs=>packk cs fun n=>forceN n fun n=>k (.str l n) h) (k (.str 0 0) h) (k (.str 0 0) h)
theorem sBytesS_ok {x : V} {h : Heap} {k : V→Heap→Res} {r : Res} (hh : sBytesS x h k = r) (hr : r ≠ .fail) {ρ : Rho} {w : World} (rh : RH P ρ h w) {v : Value} (hv : VR ρ x v)
 {s d e : TypeId} (hs : P.underlying s = some (.slice e)) (he : P.underlying e = some (.int .u8)) (hd : P.underlying d = some .string) : OkP P ρ h w (convert s d v) k r:=by
 have hconv : ∀ (a : Option Addr) (l c : Nat),(convert s d (.slice a l c)).run P w = (Conv.bytesToString (.slice a l c)).run P w:=by
  intro a l c
  simp only [convert,Sem.run_bind,run_und hs,run_und hd,Result.andThen_ok,run_und he]
 rcases slk_ok hh hr with ⟨b,o,l,cp,s',rfl,h1⟩ | ⟨rfl,h1⟩ | ⟨rfl,h1⟩
 · obtain ⟨c,z,S,cap,hb,_,_,_,rfl⟩:=hv.slice_inv
   obtain ⟨cs,xs,h2,h3,h4,h5,h6⟩:=loadk_ok (P:=P) h1 hr rh hb
   obtain ⟨ns,h7,rfl,h8⟩:=packk_ok h2 hr h4
   rw [forceN_eq] at h7
   have hnl : ns.length = l:=by simpa using h5
   refine ⟨_,.string ((ns.map (fun (n : Nat)=>(n : Int))).foldl (fun r n=>r.push (UInt8.ofNat n.toNat)) ByteArray.empty),h7,?_,.str ?_ ?_⟩
   · rw [hconv]
     refine run_bytesToString w _ l cap _ ?_
     have:=h3 w.drawn
     rw [List.map_map]
     exact this
   · have:=dig_pack (ns.map UInt8.ofNat)
     rw [List.length_map,hnl] at this
     rw [push_list,this]
     rfl
   · have:=pack_lt (ns.map UInt8.ofNat)
     rwa [List.length_map,hnl] at this
 · rw [hv.nils_inv]
   exact ⟨_,.string .empty,h1,by rw [hconv]; rfl,.str rfl (by simp)⟩
 · cases hv with
   | emp a cap=>
     refine ⟨_,.string .empty,h1,?_,.str rfl (by simp)⟩
     rw [hconv]
     simp only [Conv.bytesToString,Sem.run_bind,loadCells,loadCellsFrom,Sem.run_pure,Result.andThen_ok]
     rfl
noncomputable def sMark (x : V) (h : Heap) (k : V→Heap→Res) : Res:=
 slk x (fun b o l c s=>h.getk b fun y=>arrk y fun g m t ro=>ifk ro .fail (ifk (Nat.beq g 1) (h.turnk b (.arr g m t false) fun h'=>k (.slice b o l c s) h') .fail)) .fail .fail
theorem run_mark {c zo : Nat} {cs : Array Value} {el : TypeId} {fz : Nat × Nat} {w : World} (h : w.heap[c]? = some (.cells cs el fz)) : (markStringish ⟨c,zo,none⟩).run P w = .ok () (w.freeze ⟨c,cs.size,none⟩ 1):=by
 have e : w.shape? c = some (el,cs.size):=by simp [World.shape?,h]
 show (Sem.shape c _).run P w = _
 simp only [Sem.run,e]
 rfl
theorem sMark_ok {x : V} {h : Heap} {k : V→Heap→Res} {r : Res} (hh : sMark x h k = r) (hr : r ≠ .fail) {ρ : Rho} {w : World} (rh : RH P ρ h w) {v : Value} (hv : VR ρ x v)
 {s e : TypeId} (hs : P.underlying s = some (.slice e)) (he : P.underlying e = some (.int .u8)) : Ok P ρ h w (convert s s v) k r:=by
 rcases slk_ok hh hr with ⟨b,o,l,cp,s',rfl,h1⟩ | ⟨rfl,h1⟩ | ⟨rfl,h1⟩
 · have hv0:=hv
   obtain ⟨c,z,S,cap,hb,_,_,_,rfl⟩:=hv.slice_inv
   rw [Heap.getk_eq] at h1
   obtain ⟨g,m,t,ro,h2,h3⟩:=arrk_ok h1 hr
   obtain ⟨hro,h4⟩ : ro = false∧_ = r:=by
    rcases ifk_ne h3 with ⟨_,h2⟩ | ⟨h2,h3⟩
    · exact absurd h2.symm hr
    · exact ⟨h2,h3⟩
   subst hro
   obtain ⟨hg1,h4⟩:=ifk_fail h4 hr
   obtain rfl:=Nat.eq_of_beq_eq_true hg1
   rw [Heap.turnk_eq] at h4
   obtain ⟨cs,ha⟩:=rh.arr b c z S 1 m t false hb h2
   obtain ⟨el,fz,h6,h7⟩:=ha.at_
   have h7:=h7 rfl
   have hsz:=ha.size
   have hcell : ∃ fz',(w.freeze ⟨c,cs.size,none⟩ 1).heap[c]? = some (.cells cs el fz')∧Thaw fz' S 1:=by
    obtain ⟨lo,hi⟩:=fz
    refine ⟨_,by simp only [World.freeze]; rw [if_neg (by decide),Array.getElem?_modify,if_pos rfl,h6]; rfl,?_⟩
    split
    · exact .inr ⟨by simp; omega,rfl⟩
    · rename_i hne
      rcases h7 with h7 | h7
      · exact absurd (by simpa using h7) hne
      · have h71:=h7.1
        refine .inr ⟨?_,rfl⟩
        simp only at h71 ⊢; omega
   obtain ⟨fz',h8,h9⟩:=hcell
   have hne : ∀ k,k ≠ c→(w.freeze ⟨c,cs.size,none⟩ 1).heap[k]? = w.heap[k]?:=fun k hk=>by
    simp only [World.freeze]
    rw [if_neg (by decide),Array.getElem?_modify,if_neg (fun e=>hk e.symm)]
   obtain ⟨h10,h11⟩:=turn (w':=w.freeze ⟨c,cs.size,none⟩ 1) rh hb (by rw [h2]; rfl) (x:=.arr 1 m t false) (by rfl) (by rfl) (by rfl) (by simp [World.freeze]) h8 hne (fun g' n' t' ro' e=>by
    cases e
    exact ⟨cs,ha.pos,⟨el,fz',h8,fun _=>h9⟩,ha.size,ha.fits,ha.cells⟩) (fun es e=>by cases e) (fun _ _ _ e=>by rw [h2] at e; cases e)
   refine ⟨_,_,ρ,_,_,h4,?_,hv0,h10,h11⟩
   have h12:=run_mark (P:=P) (zo:=z + o) h6
   simp only [convert,Sem.run_bind,run_und hs,Result.andThen_ok,run_und he,beq_self_eq_true,h12,Sem.run_pure]
 · exact absurd h1.symm hr
 · exact absurd h1.symm hr
end Go.Ev

/- EVALUATOR, 5: what a piece of code comes to, whatever stands behind it: the frame may belong to a deferred call or to a round of a range over a function. -/
namespace Go.Ev
def fr (b : Frame) (a : Act) (todo : List Item) : Frame:={ b with tmps:=a.tmps,todo,defers:=a.defers,mode:=.run }
theorem fr_eval (b : Frame) (a : Act) (todo : List Item) : (fr b a todo).eval = a.eval:=funext fun x=>by cases x <;> rfl
section moves
variable {P : Program} {b : Frame} {a : Act} {k : List Item} {cs : List Frame} {w : World}
theorem st_skip : step P (lone (fr b a (.code .skip :: k)) cs w) = .next (lone (fr b a k) cs w):=step_lone_go (by simp [stepG,stepG.exec,fr])
theorem st_label {l : Nat} : step P (lone (fr b a (.code (.label l) :: k)) cs w) = .next (lone (fr b a k) cs w):=step_lone_go (by simp [stepG,stepG.exec,fr])
theorem st_inBlock {id : Nat} : step P (lone (fr b a (.inBlock id :: k)) cs w) = .next (lone (fr b a k) cs w):=step_lone_go (by simp [stepG,stepG.exec,fr])
theorem st_seq {x y : Code} : step P (lone (fr b a (.code (.seq x y) :: k)) cs w) = .next (lone (fr b a (.code x :: .code y :: k)) cs w):=
 step_lone_go (by simp [stepG,stepG.exec,fr])
theorem st_cond {c : Operand} {x y : Code} {t : Bool} (h : a.eval c = .bool t) :
 step P (lone (fr b a (.code (.cond c x y) :: k)) cs w) = .next (lone (fr b a (.code (if t then x else y) :: k)) cs w):=
 step_lone_go (by
  have h' : (fr b a (.code (.cond c x y) :: k)).eval c = .bool t:=by rw [fr_eval]; exact h
  simp only [fr] at h'
  simp [stepG,stepG.exec,fr,h'])
theorem st_block {id : Nat} {c : Code} : step P (lone (fr b a (.code (.block id c) :: k)) cs w) = .next (lone (fr b a (.code c :: .inBlock id :: k)) cs w):=
 step_lone_go (by simp [stepG,stepG.exec,fr])
theorem st_loop {c : Code} : step P (lone (fr b a (.code (.loop c) :: k)) cs w) = .next (lone (fr b a (.code c :: .inLoop c :: k)) cs w):=
 step_lone_go (by simp [stepG,stepG.exec,fr])
theorem st_inLoop {c : Code} : step P (lone (fr b a (.inLoop c :: k)) cs w) = .next (lone (fr b a (.code c :: .inLoop c :: k)) cs w):=
 step_lone_go (by simp [stepG,stepG.exec,fr])
theorem st_exit {id : Nat} {k' : List Item} (h : exitTo id k = some k') : step P (lone (fr b a (.code (.exit id) :: k)) cs w) = .next (lone (fr b a k') cs w):=
 step_lone_go (by simp [stepG,stepG.exec,fr,h])
theorem st_ret (hb : b.roundOf = none) : step P (lone (fr b a (.code .ret :: k)) cs w) = .next (lone { fr b a (.code .ret :: k) with mode:=.returning } cs w):=
 step_lone_go (by simp [stepG,stepG.exec,fr,hb])
theorem st_end (hb : b.roundOf = none) : step P (lone (fr b a []) cs w) = .next (lone { fr b a [] with mode:=.returning } cs w):=
 step_lone_go (by simp [stepG,stepG.exec,fr,hb])
end moves
def Arr (P : Program) (m : Machine) (b : Frame) (k : List Item) : Exit→Act→List Frame→World→Prop
 | .normal,a,cs,w=>Steps P m (lone (fr b a k) cs w)
 | .exit id,a,cs,w=>∃ k1,exitTo id k1 = exitTo id k∧Steps P m (lone (fr b a (.code (.exit id) :: k1)) cs w)
 | .ret,a,cs,w=>∃ k1,Steps P m (lone (fr b a (.code .ret :: k1)) cs w)
 | .panic chain,a,cs,w=>∃ todo,Steps P m (lone { fr b a todo with mode:=.panicking chain } cs w)
 | _,_,_,_=>False
theorem Arr.of_steps {P : Program} {m m₁ : Machine} {b : Frame} {k : List Item} {e : Exit} {a : Act} {cs : List Frame} {w : World} (h : Steps P m m₁)
 (h' : Arr P m₁ b k e a cs w) : Arr P m b k e a cs w:=by
 cases e with
 | normal=>exact h.trans h'
 | exit id=>obtain ⟨k1,h1,h2⟩:=h'; exact ⟨k1,h1,h.trans h2⟩
 | goto l=>exact h'
 | ret=>obtain ⟨k1,h2⟩:=h'; exact ⟨k1,h.trans h2⟩
 | panic chain=>obtain ⟨k1,h2⟩:=h'; exact ⟨k1,h.trans h2⟩
 | outgrown=>exact h'
theorem Arr.pass {P : Program} {m : Machine} {b : Frame} {x : Item} {k : List Item} {e : Exit} {a : Act} {cs : List Frame} {w : World} (hx : x.plain = true) (he : e ≠ .normal)
 (h : Arr P m b (x :: k) e a cs w) : Arr P m b k e a cs w:=by
 cases e with
 | normal=>exact absurd rfl he
 | exit id=>obtain ⟨k1,h1,h2⟩:=h; exact ⟨k1,h1.trans (by cases x <;> simp_all [exitTo,Item.plain]),h2⟩
 | goto l=>exact h
 | ret=>exact h
 | panic chain=>exact h
 | outgrown=>exact h
abbrev Post:=Exit→Act→List Frame→World→Prop
def WP (P : Program) (b : Frame) (c : Code) (Q : Post) (a : Act) (cs : List Frame) (w : World) : Prop:=
 ∀ k,∃ e a' cs' w',Q e a' cs' w'∧Arr P (lone (fr b a (.code c :: k)) cs w) b k e a' cs' w'
section rules
variable {P : Program} {b : Frame} {Q : Post} {a : Act} {cs : List Frame} {w : World}
theorem WP.mono {c : Code} {Q' : Post} (h : WP P b c Q a cs w) (hq : ∀ e a cs w,Q e a cs w→Q' e a cs w) : WP P b c Q' a cs w:=
 fun k=>let ⟨e,a',cs',w',q,r⟩:=h k; ⟨e,a',cs',w',hq _ _ _ _ q,r⟩
theorem WP.skip (h : Q .normal a cs w) : WP P b .skip Q a cs w:=fun _=>⟨.normal,a,cs,w,h,.one st_skip⟩
theorem WP.label {l : Nat} (h : Q .normal a cs w) : WP P b (.label l) Q a cs w:=fun _=>⟨.normal,a,cs,w,h,.one st_label⟩
theorem WP.exit {id : Nat} (h : Q (.exit id) a cs w) : WP P b (.exit id) Q a cs w:=fun k=>⟨.exit id,a,cs,w,h,k,rfl,.refl _ _⟩
theorem WP.ret (h : Q .ret a cs w) : WP P b .ret Q a cs w:=fun k=>⟨.ret,a,cs,w,h,k,.refl _ _⟩
def thenP (next : Act→List Frame→World→Prop) (Q : Post) : Post
 | .normal,a,cs,w=>next a cs w
 | e,a,cs,w=>Q e a cs w
theorem thenP_ne {next : Act→List Frame→World→Prop} {e : Exit} (he : e ≠ .normal) : thenP next Q e a cs w = Q e a cs w:=by cases e <;> first | rfl | exact absurd rfl he
theorem WP.seq {x y : Code} (h : WP P b x (thenP (WP P b y Q) Q) a cs w) : WP P b (.seq x y) Q a cs w:=by
 intro k
 obtain ⟨e,a₁,cs₁,w₁,hq,harr⟩:=h (.code y :: k)
 by_cases he : e = .normal
 · subst he
   obtain ⟨e₂,a₂,cs₂,w₂,hq₂,harr₂⟩:=hq k
   exact ⟨e₂,a₂,cs₂,w₂,hq₂,.of_steps (.head st_seq harr) harr₂⟩
 · rw [thenP_ne he] at hq
   exact ⟨e,a₁,cs₁,w₁,hq,.of_steps (.one st_seq) (.pass (x:=.code y) rfl he harr)⟩
theorem WP.cond {c : Operand} {x y : Code} {t : Bool} (hc : a.eval c = .bool t) (h : WP P b (if t then x else y) Q a cs w) : WP P b (.cond c x y) Q a cs w:=
 fun k=>let ⟨e,a',cs',w',q,r⟩:=h k; ⟨e,a',cs',w',q,.of_steps (.one (st_cond hc)) r⟩
def blockP (id : Nat) (Q : Post) : Post
 | .exit id',a,cs,w=>if id' = id then Q .normal a cs w else Q (.exit id') a cs w
 | e,a,cs,w=>Q e a cs w
theorem WP.block {id : Nat} {c : Code} (h : WP P b c (blockP id Q) a cs w) : WP P b (.block id c) Q a cs w:=by
 intro k
 obtain ⟨e,a₁,cs₁,w₁,hq,harr⟩:=h (.inBlock id :: k)
 cases e with
 | normal=>exact ⟨.normal,a₁,cs₁,w₁,hq,.head st_block (Steps.trans harr (.one st_inBlock))⟩
 | exit id'=>
   obtain ⟨k1,h1,h2⟩:=harr
   by_cases hid : id' = id
   · simp only [blockP,hid,if_true] at hq
     subst hid
     refine ⟨.normal,a₁,cs₁,w₁,hq,.head st_block (Steps.trans h2 (.one (st_exit (h1.trans ?_))))⟩
     simp [exitTo]
   · simp only [blockP,hid,if_false] at hq
     refine ⟨.exit id',a₁,cs₁,w₁,hq,k1,h1.trans ?_,.head st_block h2⟩
     have : (id == id') = false:=by simp; exact fun h=>hid h.symm
     simp [exitTo,this]
 | goto l=>exact harr.elim
 | ret=>obtain ⟨k1,h2⟩:=harr; exact ⟨.ret,a₁,cs₁,w₁,hq,k1,.head st_block h2⟩
 | panic ch=>obtain ⟨k1,h2⟩:=harr; exact ⟨.panic ch,a₁,cs₁,w₁,hq,k1,.head st_block h2⟩
 | outgrown=>exact harr.elim
theorem WP.loop {c : Code} (I : Nat→Act→List Frame→World→Prop) (h0 : ∃ n,I n a cs w)
 (round : ∀ n a cs w,I (n + 1) a cs w→WP P b c (thenP (fun a' cs' w'=>I n a' cs' w') Q) a cs w) (hz : ∀ a cs w,¬ I 0 a cs w) : WP P b (.loop c) Q a cs w:=by
 intro k
 have key : ∀ n a cs w,I n a cs w→∃ e a' cs' w',Q e a' cs' w'∧Arr P (lone (fr b a (.code c :: .inLoop c :: k)) cs w) b k e a' cs' w':=by
  intro n
  induction n with
  | zero=>intro a cs w h; exact absurd h (hz a cs w)
  | succ n ih=>
    intro a cs w h
    obtain ⟨e,a₁,cs₁,w₁,hq,harr⟩:=round n a cs w h (.inLoop c :: k)
    by_cases he : e = .normal
    · subst he
      obtain ⟨e₂,a₂,cs₂,w₂,hq₂,harr₂⟩:=ih a₁ cs₁ w₁ hq
      exact ⟨e₂,a₂,cs₂,w₂,hq₂,.of_steps (Steps.trans harr (.one st_inLoop)) harr₂⟩
    · rw [thenP_ne he] at hq
      exact ⟨e,a₁,cs₁,w₁,hq,.pass (x:=.inLoop c) rfl he harr⟩
 obtain ⟨n,hn⟩:=h0
 obtain ⟨e,a',cs',w',hq,harr⟩:=key n a cs w hn
 exact ⟨e,a',cs',w',hq,.of_steps (.one st_loop) harr⟩
end rules
def WO (P : Program) (b : Frame) (ops : Array Oper) (l : List Nat) (Q : Post) (a : Act) (cs : List Frame) (w : World) : Prop:=
 ∀ k,∃ e a' cs' w',Q e a' cs' w'∧Arr P (lone (fr b a (.inRegion ops l :: k)) cs w) b k e a' cs' w'
section ops
variable {P : Program} {b : Frame} {Q : Post} {a : Act} {cs : List Frame} {w : World} {ops : Array Oper}
theorem fr_finish {i : Nat} {rest : List Nat} {k : List Item} {o : Oper} (ho : ops[i]? = some o) (v : Value) :
 (fr b a (.inRegion ops (i :: rest) :: k)).finish v = fr b (a.put o.dst v) (.inRegion ops rest :: k):=by
 cases h : o.dst <;> simp [Frame.finish,fr,Act.put,ho,h]
theorem WO.mono {l : List Nat} {Q' : Post} (h : WO P b ops l Q a cs w) (hq : ∀ e a cs w,Q e a cs w→Q' e a cs w) : WO P b ops l Q' a cs w:=
 fun k=>let ⟨e,a',cs',w',q,r⟩:=h k; ⟨e,a',cs',w',hq _ _ _ _ q,r⟩
theorem WO.nil (h : Q .normal a cs w) : WO P b ops [] Q a cs w:=
 fun k=>⟨.normal,a,cs,w,h,.one (step_lone_go (by simp [stepG,stepG.exec,fr]))⟩
theorem st_op {i : Nat} {rest : List Nat} {k : List Item} {o : Oper} (ho : ops[i]? = some o) (hw : Region.wanted o (yielded ops a.tmps) = true)
 (hd : b.roundOf = none ∨ ∀ c,o.op ≠ .defer c) :
 stepG P true { frame:=fr b a (.inRegion ops (i :: rest) :: k),callers:=cs,status:=.running,dying:=none } w =
  stepG.apply P true (fr b a (.inRegion ops (i :: rest) :: k)) cs none (execOp a.eval o) w:=by
 have he:=fr_eval b a (.inRegion ops (i :: rest) :: k)
 have hw' : ((ops[i]?).map (Region.wanted · (yielded ops a.tmps))).getD false = true:=by simp [ho,hw]
 have hop : (fr b a (.inRegion ops (i :: rest) :: k)).oper? = some o:=by simp [Frame.oper?,fr,ho]
 have h1 : stepG.oper P true (fr b a (.inRegion ops (i :: rest) :: k)) cs none w = stepG.apply P true (fr b a (.inRegion ops (i :: rest) :: k)) cs none (execOp a.eval o) w:=by
  unfold stepG.oper
  rw [hop]
  simp only [he]
  have hro : (fr b a (.inRegion ops (i :: rest) :: k)).roundOf = b.roundOf:=rfl
  rcases hd with hd | hd
  · rw [hro,hd]
  · rw [hro]
    split
    · rename_i l c h1 h2; exact absurd h2 (hd c)
    · rfl
 rw [← h1]
 simp only [stepG,stepG.exec,fr] at *
 exact if_pos hw'
theorem WO.skip {i : Nat} {rest : List Nat} {o : Oper} (ho : ops[i]? = some o) (hw : Region.wanted o (yielded ops a.tmps) = false)
 (h : WO P b ops rest Q (a.put o.dst Go.undef) cs w) : WO P b ops (i :: rest) Q a cs w:=by
 intro k
 obtain ⟨e,a',cs',w',hq,harr⟩:=h k
 refine ⟨e,a',cs',w',hq,.of_steps (.one (step_lone_go ?_)) harr⟩
 rw [← fr_finish ho]
 have hw' : ((ops[i]?).map (Region.wanted · (yielded ops a.tmps))).getD false = false:=by simp [ho,hw]
 simp only [fr] at *
 simp [stepG,stepG.exec,hw']
theorem WO.value {i : Nat} {rest : List Nat} {o : Oper} (ho : ops[i]? = some o) (hw : Region.wanted o (yielded ops a.tmps) = true) (hd : b.roundOf = none ∨ ∀ c,o.op ≠ .defer c)
 {v : Value} {w' : World} (hr : (execOp a.eval o).run P w = .ok (.value v) w') (h : WO P b ops rest Q (a.put o.dst v) cs w') : WO P b ops (i :: rest) Q a cs w:=by
 intro k
 obtain ⟨e,a',cs',w'',hq,harr⟩:=h k
 refine ⟨e,a',cs',w'',hq,.of_steps (.one (step_lone_go ?_)) harr⟩
 rw [st_op ho hw hd,← fr_finish ho]; simp [stepG.apply,hr]
theorem WO.unit {i : Nat} {rest : List Nat} {o : Oper} (ho : ops[i]? = some o) (hw : Region.wanted o (yielded ops a.tmps) = true) (hd : b.roundOf = none ∨ ∀ c,o.op ≠ .defer c)
 {w' : World} (hr : (execOp a.eval o).run P w = .ok .skip w') (h : WO P b ops rest Q (a.put o.dst Go.undef) cs w') : WO P b ops (i :: rest) Q a cs w:=by
 intro k
 obtain ⟨e,a',cs',w'',hq,harr⟩:=h k
 refine ⟨e,a',cs',w'',hq,.of_steps (.one (step_lone_go ?_)) harr⟩
 rw [st_op ho hw hd,← fr_finish ho]; simp [stepG.apply,hr]
theorem WO.defer {i : Nat} {rest : List Nat} {o : Oper} (ho : ops[i]? = some o) (hw : Region.wanted o (yielded ops a.tmps) = true) (hb : b.roundOf = none)
 {d : Deferred} {w' : World} (hr : (execOp a.eval o).run P w = .ok (.defer d) w') (h : WO P b ops rest Q ({ a with defers:=d :: a.defers }.put o.dst Go.undef) cs w') :
 WO P b ops (i :: rest) Q a cs w:=by
 intro k
 obtain ⟨e,a',cs',w'',hq,harr⟩:=h k
 refine ⟨e,a',cs',w'',hq,.of_steps (.one (step_lone_go ?_)) harr⟩
 rw [st_op ho hw (.inl hb)]
 have hf:=fr_finish (b:=b) (a:={ a with defers:=d :: a.defers }) (rest:=rest) (k:=k) ho Go.undef
 simp only [stepG.apply,Sem.runT_eq,hr,GStep.bare_after]
 rw [← hf]
 rfl
theorem WO.recover {i : Nat} {rest : List Nat} {o : Oper} (ho : ops[i]? = some o) (hw : Region.wanted o (yielded ops a.tmps) = true) (hb : b.roundOf = none)
 {w' : World} (hr : (execOp a.eval o).run P w = .ok .recover w') {v : Value} {cs₁ : List Frame}
 (ht : ∀ f : Frame,f.kind = b.kind→tryRecover f cs = some (v,cs₁) ∨ (tryRecover f cs = none∧v = .nilIface∧cs₁ = cs))
 (h : WO P b ops rest Q (a.put o.dst v) cs₁ w') : WO P b ops (i :: rest) Q a cs w:=by
 intro k
 obtain ⟨e,a',cs',w'',hq,harr⟩:=h k
 refine ⟨e,a',cs',w'',hq,.of_steps (.one (step_lone_go ?_)) harr⟩
 rw [st_op ho hw (.inl hb),← fr_finish ho]
 have hro : (fr b a (.inRegion ops (i :: rest) :: k)).roundOf = none:=hb
 simp only [stepG.apply,Sem.runT_eq,hr,GStep.bare_after,hro]
 rcases ht (fr b a (.inRegion ops (i :: rest) :: k)) rfl with h1 | ⟨h1,rfl,rfl⟩
 · rw [h1]; rfl
 · rw [h1]; rfl
theorem WO.panic {i : Nat} {rest : List Nat} {o : Oper} (ho : ops[i]? = some o) (hw : Region.wanted o (yielded ops a.tmps) = true) (hd : b.roundOf = none ∨ ∀ c,o.op ≠ .defer c)
 {v : Value} {w' : World} (hr : (execOp a.eval o).run P w = .halt (.panic v) w') (h : Q (.panic [{ v,recovered:=false }]) a cs w') : WO P b ops (i :: rest) Q a cs w:=by
 intro k
 refine ⟨_,a,cs,w',h,.inRegion ops (i :: rest) :: k,.one (step_lone_go ?_)⟩
 rw [st_op ho hw hd]
 simp [stepG.apply,hr,Frame.raise,fr]
theorem WO.call {i : Nat} {rest : List Nat} {o : Oper} (ho : ops[i]? = some o) (hw : Region.wanted o (yielded ops a.tmps) = true) (hd : b.roundOf = none ∨ ∀ c,o.op ≠ .defer c)
 {f : FuncId} {args : Array Value} {w' : World} (hr : (execOp a.eval o).run P w = .ok (.enter f args) w')
 (h : Calls P f args w' fun
   | .returned v,w''=>WO P b ops rest Q (a.put o.dst v) cs w''
   | .panicked chain,w''=>Q (.panic chain) a cs w''
   | .outgrown,_=>False) : WO P b ops (i :: rest) Q a cs w:=by
 intro k
 obtain ⟨e,w'',frx,hR,hsteps,_,hleave⟩:=h (fr b a (.inRegion ops (i :: rest) :: k) :: cs)
 have henter : step P (lone (fr b a (.inRegion ops (i :: rest) :: k)) cs w) =
  .next (lone (Frame.enter P f args .normal) (fr b a (.inRegion ops (i :: rest) :: k) :: cs) w'):=
  step_lone_go (by rw [st_op ho hw hd]; simp [stepG.apply,hr,fr])
 cases e with
 | returned v=>
   obtain ⟨e,a',cs',w₃,hq,harr⟩:=hR k
   refine ⟨e,a',cs',w₃,hq,.of_steps (.head henter (hsteps.trans (.one ?_))) harr⟩
   rw [← fr_finish ho]; exact step_leave_returned hleave
 | panicked chain=>
   refine ⟨.panic chain,a,cs,w'',hR,.inRegion ops (i :: rest) :: k,.head henter (hsteps.trans (.one ?_))⟩
   have:=step_leave_panicked (c:=fr b a (.inRegion ops (i :: rest) :: k)) (cs:=cs) hleave
   simpa [Frame.raise,fr] using this
 | outgrown=>exact hR.elim
theorem WP.region {id : Nat} (h : WO P b ops (List.range ops.size) Q a cs w) : WP P b (.region id ops false) Q a cs w:=
 fun k=>let ⟨e,a',cs',w',q,r⟩:=h k
  ⟨e,a',cs',w',q,.of_steps (.one (step_lone_go (by simp [stepG,stepG.exec,fr]))) r⟩
theorem WP.region_draw {id : Nat} (h : ∀ t,WO P b ops (Region.schedule (P.follows .mixedOrders) ops t) Q a cs { w with drawn:=w.drawn + 1 }) : WP P b (.region id ops true) Q a cs w:=
 fun k=>let ⟨e,a',cs',w',q,r⟩:=h (w.tape w.drawn (.order b.fn id)) k
  ⟨e,a',cs',w',q,.of_steps (.one (step_lone_go (by simp [stepG,stepG.exec,fr,choose,Sem.run,Question.forced,Question.cut]))) r⟩
end ops
section calls
variable {P : Program}
def base (f : FuncId) (kd : CallKind) : Frame:={ (default : Frame) with fn:=f,kind:=kd }
theorem enter_fr {f : FuncId} {fn : Func} {c : Code} {args : Array Value} {kd : CallKind} (hf : P.funcs[f]? = some fn) (hb : fn.body = some c) :
 Frame.enter P f args kd = fr (base f kd) { tmps:=args ++ Array.replicate (fn.ntmps - args.size) Go.undef,defers:=[] } [.code c]:=by
 simp [Frame.enter,fr,hf,hb,base]; rfl
def callPost (P : Program) (fn : Func) (cs : List Frame) (R : Ending→World→Prop) : Post
 | .normal,a,cs',w | .ret,a,cs',w=>cs' = cs∧Leaves P fn a.tmps R a.defers .returning w
 | .panic chain,a,cs',w=>cs' = cs∧Leaves P fn a.tmps R a.defers (.panicking chain) w
 | _,_,_,_=>False
theorem calls_of {f : FuncId} {fn : Func} {c : Code} {args : Array Value} {w : World} {R : Ending→World→Prop} (hf : P.funcs[f]? = some fn) (hb : fn.body = some c)
 (h : ∀ cs,WP P (base f .normal) c (callPost P fn cs R) { tmps:=args ++ Array.replicate (fn.ntmps - args.size) Go.undef,defers:=[] } cs w) : Calls P f args w R:=by
 intro cs
 obtain ⟨e,a',cs',w',hq,harr⟩:=h cs []
 rw [← enter_fr hf hb] at harr
 cases e with
 | normal=>
   obtain ⟨rfl,hq⟩:=hq
   obtain ⟨e',w'',fr',hR,hs,hfn,hl⟩:=leaves_steps a'.defers .returning w' { fr (base f .normal) a' [] with mode:=.returning } cs' rfl rfl rfl hf rfl hq
   exact ⟨e',w'',fr',hR,Comes.of_steps (Steps.trans harr (.one (st_end rfl))) hs,hfn,hl⟩
 | ret=>
   obtain ⟨rfl,hq⟩:=hq
   obtain ⟨todo,hs₀⟩:=harr
   obtain ⟨e',w'',fr',hR,hs,hfn,hl⟩:=leaves_steps a'.defers .returning w' { fr (base f .normal) a' (.code .ret :: todo) with mode:=.returning } cs' rfl rfl rfl hf rfl hq
   exact ⟨e',w'',fr',hR,Comes.of_steps (Steps.trans hs₀ (.one (st_ret rfl))) hs,hfn,hl⟩
 | panic chain=>
   obtain ⟨rfl,hq⟩:=hq
   obtain ⟨todo,hs₀⟩:=harr
   obtain ⟨e',w'',fr',hR,hs,hfn,hl⟩:=leaves_steps a'.defers (.panicking chain) w' { fr (base f .normal) a' todo with mode:=.panicking chain } cs' rfl rfl rfl hf rfl hq
   exact ⟨e',w'',fr',hR,Comes.of_steps hs₀ hs,hfn,hl⟩
 | exit id=>exact hq.elim
 | goto l=>exact hq.elim
 | outgrown=>exact hq.elim
def deferPost (P : Program) (fn : Func) (c₀ : Frame) (cs : List Frame) (R : Ending→FrameMode→World→Prop) : Post
 | .normal,a,cs',w | .ret,a,cs',w=>a.defers = []∧∃ u,cs' = { c₀ with mode:=u } :: cs∧∃ v,(results fn a.tmps).run P w = .ok v w∧R (.returned v) u w
 | .panic chain,a,cs',w=>a.defers = []∧∃ u,cs' = { c₀ with mode:=u } :: cs∧R (.panicked chain) u w
 | _,_,_,_=>False
theorem callsD_of {f : FuncId} {fn : Func} {c : Code} {args : Array Value} {u : FrameMode} {w : World} {R : Ending→FrameMode→World→Prop} (hf : P.funcs[f]? = some fn)
 (hb : fn.body = some c) (h : ∀ c₀ cs,c₀.mode = u→WP P (base f .deferred) c (deferPost P fn c₀ cs R) { tmps:=args ++ Array.replicate (fn.ntmps - args.size) Go.undef,defers:=[] } (c₀ :: cs) w) :
 CallsD P f args u w R:=by
 intro c₀ cs hu
 obtain ⟨e,a',cs',w',hq,harr⟩:=h c₀ cs hu []
 rw [← enter_fr hf hb] at harr
 cases e with
 | normal=>
   obtain ⟨hd,u',rfl,v,hr,hR⟩:=hq
   exact ⟨.returned v,u',w',_,hR,Steps.trans harr (.one (st_end rfl)),rfl,rfl,hd,fn,hf,hr⟩
 | ret=>
   obtain ⟨hd,u',rfl,v,hr,hR⟩:=hq
   obtain ⟨todo,hs⟩:=harr
   exact ⟨.returned v,u',w',_,hR,Steps.trans hs (.one (st_ret rfl)),rfl,rfl,hd,fn,hf,hr⟩
 | panic chain=>
   obtain ⟨hd,u',rfl,hR⟩:=hq
   obtain ⟨todo,hs⟩:=harr
   exact ⟨.panicked chain,u',w',_,hR,hs,rfl,rfl,hd,fn,hf⟩
 | exit id=>exact hq.elim
 | goto l=>exact hq.elim
 | outgrown=>exact hq.elim
end calls
end Go.Ev

/- EVALUATOR, 16: how operations are prepared: where each operand lies, what the types say. -/
namespace Go.Ev
variable {P : Program}
def toV1 : Value→Option V
 | .bool b=>some (.bool b)
 | .int k n=>some (.int k n)
 | .string s=>some (.str s.data.toList.length (pack s.data.toList))
 | .pointer none=>some .nilp
 | .slice none 0 0=>some .nils
 | .map none=>some .nilm
 | .nilFunc=>some .nilf
 | .nilIface=>some .nili
 | _=>none
def toVs : List Value→Option (List V)
 | []=>some []
 | v :: l=>match toV1 v,toVs l with
   | some u,some m=>some (u :: m)
   | _,_=>none
def toV : Value→Option V
 | .agg cs=>(toVs cs.toList).map (.agg cs.toList.length)
 | v=>toV1 v
theorem toV1_ok {v : Value} {u : V} (h : toV1 v = some u) (ρ : Rho) : VR ρ u v∧v.oneCell' = true:=by
 unfold toV1 at h
 split at h <;> cases h
 · exact ⟨.bool _,rfl⟩
 · exact ⟨.int _ _,rfl⟩
 · rename_i s
   exact ⟨.str (dig_pack s.data.toList).symm (pack_lt s.data.toList),rfl⟩
 · exact ⟨.nilp,rfl⟩
 · exact ⟨.nils,rfl⟩
 · exact ⟨.nilm,rfl⟩
 · exact ⟨.nilf,rfl⟩
 · exact ⟨.nili,rfl⟩
theorem toVs_ok {l : List Value} {m : List V} (h : toVs l = some m) (ρ : Rho) : VRs ρ m l∧∀ y ∈ l,y.oneCell' = true:=by
 induction l generalizing m with
 | nil=>cases h; exact ⟨.nil,by simp⟩
 | cons v l ih=>
   simp only [toVs] at h
   split at h
   · rename_i u m' hu hm
     cases h
     obtain ⟨h1,h2⟩:=toV1_ok hu ρ
     obtain ⟨h3,h4⟩:=ih hm
     exact ⟨.cons h1 h3,by simpa using ⟨h2,h4⟩⟩
   · cases h
theorem toV_ok {v : Value} {u : V} (h : toV v = some u) (ρ : Rho) : VR ρ u v:=by
 unfold toV at h
 split at h
 · rename_i cs
   obtain ⟨m,h1,rfl⟩:=Option.map_eq_some_iff.1 h
   obtain ⟨h2,h3⟩:=toVs_ok h1 ρ
   exact .agg h2 h3 h2.length
 · exact (toV1_ok h ρ).1
def eqV : V→V→Bool
 | .bool a,.bool b=>a == b
 | .int k n,.int k' n'=>decide (k = k') && decide (n = n')
 | .str l n,.str l' n'=>decide (l = l') && decide (n = n')
 | .nilp,.nilp | .nils,.nils | .nilm,.nilm | .nilf,.nilf | .nili,.nili=>true
 | _,_=>false
theorem eqV_ok {a b : V} (h : eqV a b = true) : a = b:=by
 unfold eqV at h
 split at h <;> simp_all
def eqVs : List V→List V→Bool
 | [],[]=>true
 | a :: l,b :: m=>eqV a b && eqVs l m
 | _,_=>false
theorem eqVs_ok : ∀ {l m : List V},eqVs l m = true→l = m
 | [],[],_=>rfl
 | [],_ :: _,h=>by cases h
 | _ :: _,[],h=>by cases h
 | a :: l,b :: m,h=>by
   simp only [eqVs,Bool.and_eq_true] at h
   rw [eqV_ok h.1,eqVs_ok h.2]
def zeroL (P : Program) (t : TypeId) : Option (List V):=((P.info? t).bind (·.zero)).bind fun z=>toVs z.cells.toList
theorem zeroL_ok {t : TypeId} {l : List V} (h : zeroL P t = some l) : ∃ z,(P.info? t).bind (·.zero) = some z∧(∀ ρ,VRs ρ l z.cells.toList)∧∀ y ∈ z.cells.toList,y.oneCell' = true:=by
 obtain ⟨z,h1,h2⟩:=Option.bind_eq_some_iff.1 h
 exact ⟨z,h1,fun ρ=>(toVs_ok h2 ρ).1,(toVs_ok h2 (fun _=>none)).2⟩
def grain (P : Program) (t : TypeId) (len : Nat) : Nat × Nat:=
 match P.underlying t with
 | some (.array n e)=>match P.underlying e with
   | some .bool=>(len,1)
   | _=>match sz P e with
     | some s=>if 0 < s∧n * s = len then (s,n) else (len,1)
     | none=>(len,1)
 | _=>(len,1)
inductive Loc where
 | s (i : Nat)
 | e (x : Slot)
 | k (v : V)
noncomputable def getk (x : Loc) (L : List V) (env : Env) (k : V→Res) : Res:=
 Loc.rec (motive:=fun _=>List V→Env→(V→Res)→Res) (fun i L _ k=>nthk L i k) (fun x _ env k=>Slot.rec (motive:=fun _=>Res) (fun a b=>selR a env fun row=>selV b row k) x) (fun v _ _ k=>k v) x L env k
structure FI where
 (inl nt : Nat)
def slotOf (t : Nat) : Option Slot:=if t < 256 then some ⟨D.ofNat (t / 16),D.ofNat (t % 16)⟩ else none
theorem D.val_ofNat {n : Nat} (h : n < 16) : (D.ofNat n).val = n:=by
 rcases n with _ | _ | _ | _ | _ | _ | _ | _ | _ | _ | _ | _ | _ | _ | _ | _ | n <;> first | rfl | omega
theorem slotOf_inj {t t' : Nat} {x : Slot} (h : slotOf t = some x) (h' : slotOf t' = some x) : t = t':=by
 unfold slotOf at h h'
 split at h <;> rename_i h1
 · split at h' <;> rename_i h2
   · cases h
     simp only [Option.some.injEq,Slot.mk.injEq] at h'
     have e1:=congrArg D.val h'.1
     have e2:=congrArg D.val h'.2
     rw [D.val_ofNat (by omega),D.val_ofNat (by omega)] at e1
     rw [D.val_ofNat (by omega),D.val_ofNat (by omega)] at e2
     omega
   · cases h'
 · cases h
def Env.at (env : Env) (x : Slot) : V:=(env.get x.a).get x.b
def Env.put (env : Env) (x : Slot) (v : V) : Env:=N.set env x.a (N.set (N.get env x.a) x.b v)
theorem Env.at_put (env : Env) (x : Slot) (v : V) : (env.put x v).at x = v:=by simp [Env.at,Env.put,N.get_set]
theorem Env.at_put_ne (env : Env) {x y : Slot} (h : y ≠ x) (v : V) : (env.put x v).at y = env.at y:=by
 obtain ⟨a,b⟩:=x
 obtain ⟨a',b'⟩:=y
 simp only [Env.at,Env.put]
 by_cases h1 : a' = a
 · subst h1
   rw [N.get_set,N.get_set_ne]
   rintro rfl; exact h rfl
 · rw [N.get_set_ne _ h1]
noncomputable def envk (env : Env) (x : Slot) (v : V) (k : Env→Res) : Res:=Slot.rec (motive:=fun _=>Res) (fun a b=>updR a (fun row k=>updV b (fun _ k=>k v) row k) env k) x
theorem envk_eq (env : Env) (x : Slot) (v : V) (k : Env→Res) : envk env x v k = k (env.put x v):=by cases x; simp only [envk,updR_eq,updV_eq,Env.put]
structure EnvR (ρ : Rho) (fi : FI) (env : Env) (tmps : Array Value) : Prop where
 size : tmps.size = fi.nt
 val : ∀ t x,slotOf t = some x→fi.inl.testBit t = false→VR ρ (env.at x) (tmps.getD t Go.undef)
theorem EnvR.mono {ρ ρ' : Rho} (h : ρ.le ρ') {fi : FI} {env : Env} {tmps : Array Value} (e : EnvR ρ fi env tmps) : EnvR ρ' fi env tmps:=⟨e.size,fun t x h1 h2=>(e.val t x h1 h2).mono h⟩
def gid (g : Nat) : Bid:=⟨0,.d0,D.ofNat (g / 256 % 16),D.ofNat (g / 16 % 16),D.ofNat (g % 16)⟩
def GlobR (ρ : Rho) (n : Nat) : Prop:=∀ g,g < n→∃ S,ρ (gid g) = some (g,0,S)
def locOf (T : Nat→Option Loc) (ng : Nat) : Operand→Option Loc
 | .tmp t=>T t
 | .const v=>(toV v).map .k
 | .global g=>if g < ng then some (.k (.ptr (gid g) 0)) else none
 | .func f=>if f < 32768 then some (.k (.func f [])) else none
def Loc.at (L : List V) (env : Env) : Loc→Option V
 | .s i=>L[i]?
 | .e x=>some (env.at x)
 | .k v=>some v
theorem getk_ok {loc : Loc} {L : List V} {env : Env} {k : V→Res} {r : Res} (h : getk loc L env k = r) (hr : r ≠ .fail) : ∃ v,loc.at L env = some v∧k v = r:=by
 cases loc with
 | s i=>
   obtain ⟨u,h4,h5⟩:=nthk_ok (show nthk L i k = r from h) hr
   exact ⟨u,h4,h5⟩
 | e x=>
   obtain ⟨p,q⟩:=x
   have h3 : selR p env (fun row=>selV q row k) = r:=h
   rw [selR_eq,selV_eq] at h3
   exact ⟨_,rfl,h3⟩
 | k v=>exact ⟨v,rfl,h⟩
def TmpR (ρ : Rho) (T : Nat→Option Loc) (L : List V) (env : Env) (tmps : Array Value) : Prop:=
 ∀ t loc v,T t = some loc→loc.at L env = some v→VR ρ v (tmps.getD t Go.undef)
theorem locOf_at {ng : Nat} {T : Nat→Option Loc} {x : Operand} {loc : Loc} (hl : locOf T ng x = some loc) {L : List V} {env : Env} {v : V} (h1 : loc.at L env = some v)
 {ρ : Rho} {a : Act} (ht : TmpR ρ T L env a.tmps) (hg : GlobR ρ ng) : VR ρ v (a.eval x):=by
 cases x with
 | tmp t=>exact ht t loc v hl h1
 | const c=>
   obtain ⟨u,h3,rfl⟩:=Option.map_eq_some_iff.1 hl
   cases h1
   exact toV_ok h3 ρ
 | global g=>
   simp only [locOf] at hl
   split at hl
   · rename_i hlt
     cases hl
     cases h1
     obtain ⟨S,h1⟩:=hg g hlt
     simpa [Act.eval] using VR.ptr (o:=0) h1
   · cases hl
 | func f=>
   simp only [locOf] at hl
   split at hl
   · rename_i hlt
     cases hl
     cases h1
     exact .func (first:=#[]) (cs:=#[]) hlt rfl (by simp) (by simp) .nil
   · cases hl
theorem locOf_ok {ng : Nat} {T : Nat→Option Loc} {x : Operand} {loc : Loc} (hl : locOf T ng x = some loc) {L : List V} {env : Env} {k : V→Res} {r : Res} (h : getk loc L env k = r) (hr : r ≠ .fail)
 {ρ : Rho} {a : Act} (ht : TmpR ρ T L env a.tmps) (hg : GlobR ρ ng) : ∃ v,k v = r∧VR ρ v (a.eval x):=by
 obtain ⟨v,h1,h2⟩:=getk_ok h hr
 exact ⟨v,h2,locOf_at hl h1 ht hg⟩
end Go.Ev

/- EVALUATOR: blocks that are no cells; going over a string. -/
namespace Go.Ev
variable {P : Program}
def byt (n i : Nat) : Nat:=Nat.mod (Nat.div n (Nat.pow 2 (Nat.mul 8 i))) 256
noncomputable def cnt (l n i : Nat) : Bool:=Bool.rec (motive:=fun _=>Bool) false (Nat.beq (Nat.div (byt n i) 64) 2) (Nat.blt i l)
def c2 (n p : Nat) : Nat:=Nat.add (Nat.mul (Nat.mod (byt n p) 32) 64) (Nat.mod (byt n (Nat.add p 1)) 64)
def c3 (n p : Nat) : Nat:=Nat.add (Nat.add (Nat.mul (Nat.mod (byt n p) 16) 4096) (Nat.mul (Nat.mod (byt n (Nat.add p 1)) 64) 64)) (Nat.mod (byt n (Nat.add p 2)) 64)
def c4 (n p : Nat) : Nat:=Nat.add (Nat.add (Nat.add (Nat.mul (Nat.mod (byt n p) 8) 262144) (Nat.mul (Nat.mod (byt n (Nat.add p 1)) 64) 4096)) (Nat.mul (Nat.mod (byt n (Nat.add p 2)) 64) 64)) (Nat.mod (byt n (Nat.add p 3)) 64)
noncomputable def vld (c : Nat) : Bool:=Bool.rec (motive:=fun _=>Bool) (Bool.rec (motive:=fun _=>Bool) false (Nat.ble c 1114111) (Nat.ble 57344 c)) true (Nat.blt c 55296)
noncomputable def runek (l n p : Nat) (k : Nat→Nat→Res) : Res:=
 ifk (Nat.blt (byt n p) 128) (k (byt n p) 1)
  (ifk (and (Nat.beq (Nat.div (byt n p) 32) 6) (cnt l n (Nat.add p 1))) (ifk (Nat.ble 128 (c2 n p)) (k (c2 n p) 2) (k 65533 1))
    (ifk (and (and (Nat.beq (Nat.div (byt n p) 16) 14) (cnt l n (Nat.add p 1))) (cnt l n (Nat.add p 2))) (ifk (and (Nat.ble 2048 (c3 n p)) (vld (c3 n p))) (k (c3 n p) 3) (k 65533 1))
      (ifk (and (and (and (Nat.beq (Nat.div (byt n p) 8) 30) (cnt l n (Nat.add p 1))) (cnt l n (Nat.add p 2))) (cnt l n (Nat.add p 3))) (ifk (and (Nat.ble 65536 (c4 n p)) (vld (c4 n p))) (k (c4 n p) 4) (k 65533 1)) (k 65533 1))))
theorem byt_get {s : ByteArray} {l n : Nat} (h : s.data.toList = dig l n) (hn : n < 256 ^ l) (i : Nat) : (s.get! i).toNat = byt n i:=by
 have hs : s.data.size = l:=by have:=congrArg List.length h; rw [dig_length] at this; simpa using this
 show (s.data[i]!).toNat = n / 2 ^ (8 * i) % 256
 rw [← pow256]
 by_cases hi : i < l
 · have h1:=dig_get (n:=n) hi
   rw [← h,Array.getElem?_toList] at h1
   rw [getElem!_def,h1]
   simp
 · rw [getElem!_def,Array.getElem?_eq_none (by omega)]
   have : n < 256 ^ i:=Nat.lt_of_lt_of_le hn (Nat.pow_le_pow_right (by decide) (by omega))
   rw [Nat.div_eq_of_lt this]; rfl
theorem nbeq (a b : Nat) : Nat.beq a b = (a == b):=by rw [Bool.eq_iff_iff,Nat.beq_eq,beq_iff_eq]
theorem cnt_eq (l n i : Nat) : cnt l n i = (decide (i < l) && (byt n i / 64 == 2)):=by
 unfold cnt
 have : Nat.blt i l = decide (i < l):=by rw [Bool.eq_iff_iff]; simp [Nat.blt_eq]
 rw [this,nbeq]
 cases decide (i < l) <;> rfl
theorem vld_eq (c : Nat) : vld c = Utf8.valid (c : Int):=by
 unfold vld Utf8.valid
 have h1 : Nat.blt c 55296 = decide (c < 55296):=by rw [Bool.eq_iff_iff]; simp [Nat.blt_eq]
 have h2 : Nat.ble 57344 c = decide (57344 ≤ c):=by rw [Bool.eq_iff_iff]; simp
 have h3 : Nat.ble c 1114111 = decide (c ≤ 1114111):=by rw [Bool.eq_iff_iff]; simp
 rw [h1,h2,h3]
 have e1 : decide (c < 55296) = (decide ((0 : Int) ≤ (c : Int)) && decide ((c : Int) < 0xD800)):=by rw [Bool.eq_iff_iff]; simp; omega
 have e2 : decide (57344 ≤ c) = decide ((0xE000 : Int) ≤ (c : Int)):=by rw [Bool.eq_iff_iff]; simp; omega
 have e3 : decide (c ≤ 1114111) = decide ((c : Int) ≤ 0x10FFFF):=by rw [Bool.eq_iff_iff]; simp; omega
 rw [e1,e2,e3]
 cases (decide ((0 : Int) ≤ (c : Int)) && decide ((c : Int) < 0xD800)) <;> cases decide ((0xE000 : Int) ≤ (c : Int)) <;> cases decide ((c : Int) ≤ 0x10FFFF) <;> rfl
theorem runek_eq {s : ByteArray} {l n : Nat} (h : s.data.toList = dig l n) (hn : n < 256 ^ l) (p : Nat) (k : Nat→Nat→Res) : runek l n p k = k (Utf8.decode s p).1 (Utf8.decode s p).2:=by
 have hs : s.size = l:=by have:=congrArg List.length h; rw [dig_length] at this; exact this
 have hb:=fun i=>byt_get h hn i
 have f1 : ∀ a b,Nat.blt a b = decide (a < b):=fun a b=>by rw [Bool.eq_iff_iff]; simp [Nat.blt_eq]
 have f2 : ∀ a b,Nat.ble a b = decide (a ≤ b):=fun a b=>by rw [Bool.eq_iff_iff]; simp
 have f3:=nbeq
 unfold runek Utf8.decode
 simp only [ifk_eq,f1,f2,f3,cnt_eq,vld_eq,hb,hs,Nat.add_zero,Utf8.runeError]
 by_cases c1 : byt n p < 128
 · simp only [c1,decide_true,if_true]
 · simp only [c1,decide_false,if_false,Bool.false_eq_true]
   have a1 : ∀ a b : Nat,Nat.add a b = a + b:=fun _ _=>rfl
   have a2 : ∀ a b : Nat,Nat.div a b = a / b:=fun _ _=>rfl
   have e2 : c2 n p = byt n p % 32 * 64 + byt n (p + 1) % 64:=rfl
   have e3 : c3 n p = byt n p % 16 * 4096 + byt n (p + 1) % 64 * 64 + byt n (p + 2) % 64:=rfl
   have e4 : c4 n p = byt n p % 8 * 262144 + byt n (p + 1) % 64 * 4096 + byt n (p + 2) % 64 * 64 + byt n (p + 3) % 64:=rfl
   simp only [a1,a2,← e2,← e3,← e4,ge_iff_le]
   generalize (byt n p / 32 == 6 && (decide (p + 1 < l) && byt n (p + 1) / 64 == 2)) = b2
   generalize (byt n p / 16 == 14 && (decide (p + 1 < l) && byt n (p + 1) / 64 == 2) && (decide (p + 2 < l) && byt n (p + 2) / 64 == 2)) = b3
   generalize (byt n p / 8 == 30 && (decide (p + 1 < l) && byt n (p + 1) / 64 == 2) && (decide (p + 2 < l) && byt n (p + 2) / 64 == 2) && (decide (p + 3 < l) && byt n (p + 3) / 64 == 2)) = b4
   generalize (decide (2048 ≤ c3 n p) && Utf8.valid (c3 n p : Int)) = b5
   generalize (decide (65536 ≤ c4 n p) && Utf8.valid (c4 n p : Int)) = b6
   cases b2
   · cases b3
     · cases b4
       · rfl
       · cases b6 <;> rfl
     · cases b5 <;> rfl
   · by_cases h2 : 128 ≤ c2 n p
     · simp only [h2,decide_true,if_true]
     · simp only [h2,decide_false,if_true,if_false,Bool.false_eq_true]
noncomputable def sRngS (v : V) (h : Heap) (k : V→Heap→Res) : Res:=strk v fun l n=>h.newk (.ob (.it l n 0)) fun b h'=>k (.ptr b 0) h'
theorem sRngS_ok {x : V} {h : Heap} {k : V→Heap→Res} {r : Res} (hh : sRngS x h k = r) (hr : r ≠ .fail) {ρ : Rho} {w : World} (rh : RH P ρ h w) {v : Value} (hv : VR ρ x v)
 {t : TypeId} (ht : P.underlying t = some .string) : Ok P ρ h w (Instr.range t v) k r:=by
 obtain ⟨l,n,rfl,h1⟩:=strk_ok hh hr
 obtain ⟨s,rfl,e1,e2⟩:=hv.str_inv
 obtain ⟨nx,h2,h3⟩:=Heap.newk_ok h1 hr
 obtain ⟨h4,h5⟩:=alloc rh h2 (x:=.ob (.it l n 0)) (o:=.stringIter s 0) (S:=0) (fun g n t ro e=>by cases e) (fun x' e=>by cases e; exact ⟨e1,e2,rfl⟩)
 exact ⟨_,_,_,.pointer (some ⟨w.heap.size,0,none⟩),_,h3,by simp [Instr.range,run_und ht],VR.ptr_new _ _ _ _,h4,h5⟩
noncomputable def obk (x : Blk) (k : Oth→Res) : Res:=Blk.rec (motive:=fun _=>Res) .fail (fun _ _ _ _=>.fail) k x
theorem obk_ok {x : Blk} {k : Oth→Res} {r : Res} (h : obk x k = r) (hr : r ≠ .fail) : ∃ o,x = .ob o∧k o = r:=by
 cases x with
 | none=>exact absurd h.symm hr
 | arr g n t ro=>exact absurd h.symm hr
 | ob o=>exact ⟨o,rfl,h⟩
noncomputable def itk (x : Oth) (k : Nat→Nat→Nat→Res) : Res:=Oth.rec (motive:=fun _=>Res) (fun _ _=>.fail) k (fun _ _ _ _ _=>.fail) (fun _ _ _ _=>.fail) (fun _ _ _=>.fail) (fun _ _ _=>.fail) (fun _=>.fail) x
theorem itk_ok {x : Oth} {k : Nat→Nat→Nat→Res} {r : Res} (h : itk x k = r) (hr : r ≠ .fail) : ∃ l n p,x = .it l n p∧k l n p = r:=by
 cases x with
 | it l n p=>exact ⟨l,n,p,rfl,h⟩
 | _=>exact absurd h.symm hr
noncomputable def mpk (x : Oth) (k : List ME→Nat→Res) : Res:=Oth.rec (motive:=fun _=>Res) k (fun _ _ _=>.fail) (fun _ _ _ _ _=>.fail) (fun _ _ _ _=>.fail) (fun _ _ _=>.fail) (fun _ _ _=>.fail) (fun _=>.fail) x
theorem mpk_ok {x : Oth} {k : List ME→Nat→Res} {r : Res} (h : mpk x k = r) (hr : r ≠ .fail) : ∃ es c,x = .mp es c∧k es c = r:=by
 cases x with
 | mp es c=>exact ⟨es,c,rfl,h⟩
 | _=>exact absurd h.symm hr
noncomputable def sNxtS (v : V) (h : Heap) (k : V→Heap→Res) : Res:=
 ptrk v fun b o=>zk o (h.getk b fun x=>obk x fun x=>itk x fun l n p=>ifk (Nat.blt p l)
  (runek l n p fun c wd=>h.turnk b (.ob (.it l n (Nat.add p wd))) fun h'=>k (.tup [.bool true,.int .i64 (.ofNat p),.int .i32 (.ofNat c)]) h')
  (k (.tup [.bool false]) h)) .fail
theorem zk_ok0 {n : Nat} {x y r : Res} (h : zk n x y = r) : (n = 0∧x = r) ∨ (n ≠ 0∧y = r):=by
 cases n with
 | zero=>exact .inl ⟨rfl,h⟩
 | succ n=>exact .inr ⟨by omega,h⟩
theorem sNxtS_ok {x : V} {h : Heap} {k : V→Heap→Res} {r : Res} (hh : sNxtS x h k = r) (hr : r ≠ .fail) {ρ : Rho} {w : World} (rh : RH P ρ h w) {v : Value} (hv : VR ρ x v) (t : TypeId) :
 Ok P ρ h w (Instr.next v true t) k r:=by
 obtain ⟨b,o,rfl,h1⟩:=ptrk_ok hh hr
 obtain ⟨c,z,S,hb,rfl⟩:=hv.ptr_inv
 have h0 : o = 0∧_ = r:=(zk_ok0 h1).elim id fun h2=>absurd h2.2.symm hr
 obtain ⟨rfl,h1⟩:=h0
 rw [Heap.getk_eq] at h1
 obtain ⟨x,hx,h1⟩:=obk_ok h1 hr
 obtain ⟨l,n,p,rfl,h1⟩:=itk_ok h1 hr
 obtain ⟨ob,g1,g2,rfl,_⟩:=rh.ob b c z S _ hb hx
 have : ∃ s,ob = .stringIter s p∧s.data.toList = dig l n∧n < 256 ^ l:=by
  cases ob <;> first | exact absurd g2 id | exact ⟨_,by rw [g2.2.2],g2.1,g2.2.1⟩
 obtain ⟨s,rfl,e1,e2⟩:=this
 have hsz:=str_size e1
 have hget : (getObj c).run P w = .ok (.stringIter s p) w:=by
  show Sem.run P (.getObj c .pure) w = _
  simp only [Sem.run,g1]
 rcases ifk_ne h1 with ⟨hp,h1⟩ | ⟨hp,h1⟩
 · have hp : p < s.size:=by rw [hsz]; simpa [Nat.blt_eq] using hp
   rw [runek_eq e1 e2,Heap.turnk_eq] at h1
   have hlt:=rh.lt _ _ _ _ hb
   obtain ⟨h10,h11⟩:=turn (w':={ w with heap:=w.heap.setIfInBounds c (.stringIter s (p + (Utf8.decode s p).2)) }) rh hb (by rw [hx]; rfl) (x:=.ob (.it l n (Nat.add p (Utf8.decode s p).2)))
    (o:=.stringIter s (p + (Utf8.decode s p).2)) rfl rfl rfl (by simp) (by simp [hlt]) (fun k hk=>by simp [Array.getElem?_setIfInBounds,Ne.symm hk]) (fun g n t ro e=>by cases e) (fun x' e=>by cases e; exact ⟨⟨e1,e2,rfl⟩,rfl⟩) (fun _ _ _ e=>by rw [hx] at e; cases e)
   refine ⟨_,_,_,.tuple #[.bool true,goInt p,.int .i32 (Utf8.decode s p).1],_,h1,?_,.tup (.cons (.bool _) (.cons (.int _ _) (.cons (.int _ _) .nil))),h10,h11⟩
   have hset : ∀ o,(setObj c o).run P w = .ok () { w with heap:=w.heap.setIfInBounds c o }:=fun o=>by
    show Sem.run P (.setObj c o (.pure ())) w = _
    simp only [Sem.run,g1]
   simp only [Instr.next,Nat.add_zero,Sem.run_bind,hget,Result.andThen_ok,if_pos hp,hset]
   rfl
 · have hp : ¬ p < s.size:=by
    rw [hsz]; intro h'
    rw [show Nat.blt p l = true by simpa [Nat.blt_eq] using h'] at hp; cases hp
   refine .pure rh ⟨_,.tuple #[.bool false],h1,?_,.tup (.cons (.bool _) .nil)⟩
   simp only [Instr.next,Nat.add_zero,Sem.run_bind,hget,Result.andThen_ok,if_neg hp]
   rfl
end Go.Ev
