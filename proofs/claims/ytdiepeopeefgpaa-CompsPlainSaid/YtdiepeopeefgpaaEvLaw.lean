/- EvLaw: texts joined. -/
import Derived.Test.YtdiepeopeefgpaaEvOps3
import Derived.Laws.BytesString
/- EVALUATOR, 15: make; bytes and strings. -/
namespace Go.Ev
variable {P : Program}
noncomputable def zT (n : Nat) (x y : T) : T:=Nat.rec (motive:=fun _=>T) x (fun _ _=>y) n
noncomputable def repT (c : List V) (f : Nat) : Nat→T:=
 Nat.rec (motive:=fun _=>Nat→T) (fun _=>.e) (fun _ ih n=>zT n .e (zT (Nat.pred n) (.lf c) (.nd (ih (Nat.div (Nat.succ n) 2)) (ih (Nat.div n 2))))) f
theorem repT_eq (c : List V) (f n : Nat) : repT c f n = T.rep c f n:=by
 induction f generalizing n with
 | zero=>rfl
 | succ f ih=>
   show zT n .e (zT (Nat.pred n) (.lf c) (.nd (repT c f ((n + 1) / 2)) (repT c f (n / 2)))) = _
   rw [ih,ih,T.rep]
   cases n with
   | zero=>rfl
   | succ n=>
     cases n with
     | zero=>rfl
     | succ n=>rw [if_neg (by omega),if_neg (by omega)]; rfl
noncomputable def sMake (g : Nat) (z : List V) (l c : V) (h : Heap) (k : V→Heap→Res) : Res:=
 intk l fun _ a=>natk a fun la=>intk c fun _ b=>natk b fun cb=>ifk (Nat.ble la cb) (ifk (Nat.ble cb 16777216)
  (h.newk (.arr g cb (repT z cb cb) false) fun bb h'=>k (.slice bb 0 la (some cb) g) h') .fail) .fail
theorem flat_get {g : Nat} {z : List V} (hz : z.length = g) : ∀ (n i : Nat),((List.replicate n z).flatten)[i]? = if i < n * g then z[i % g]? else none:=by
 intro n
 induction n with
 | zero=>intro i; simp
 | succ n ih=>
   intro i
   rw [List.replicate_succ,List.flatten_cons]
   by_cases hi : i < g
   · rw [List.getElem?_append_left (by omega),Nat.mod_eq_of_lt hi,if_pos (by rw [Nat.succ_mul]; omega)]
   · rw [List.getElem?_append_right (by omega),ih,hz]
     have : (i - g) % g = i % g:=by rw [← Nat.mod_eq_sub_mod (by omega)]
     rw [this,Nat.succ_mul]
     by_cases h2 : i - g < n * g
     · rw [if_pos h2,if_pos (by omega)]
     · rw [if_neg h2,if_neg (by omega)]
theorem flat_chunk {z : List V} {g n j : Nat} (hz : z.length = g) (hj : j < n) : (((List.replicate n z).flatten).drop (j * g)).take g = z:=by
 have hjm : (j + 1) * g ≤ n * g:=Nat.mul_le_mul_right g hj
 rw [Nat.succ_mul] at hjm
 apply List.ext_getElem?
 intro i
 by_cases hi : i < g
 · rw [List.getElem?_take_of_lt hi,List.getElem?_drop,flat_get hz,if_pos (by omega),Nat.mul_comm,Nat.mul_add_mod,Nat.mod_eq_of_lt hi]
 · rw [List.getElem?_eq_none (by simp only [List.length_take]; omega),List.getElem?_eq_none (by omega)]
theorem sMake_ok {g : Nat} {z : List V} {l c : V} {h : Heap} {k : V→Heap→Res} {r : Res} (hh : sMake g z l c h k = r) (hr : r ≠ .fail) {ρ : Rho} {w : World} (rh : RH P ρ h w) {lv cv : Value}
 (hl : VR ρ l lv) (hc : VR ρ c cv) {t e : TypeId} (ht : SliceT P t e g) {zv : Value} (hz : (P.info? e).bind (·.zero) = some zv) (hzr : VRs ρ z zv.cells.toList) (hzl : z.length = g)
 (hz1 : ∀ y ∈ zv.cells.toList,y.oneCell' = true) : Ok P ρ h w (Instr.makeSlice t lv cv) k r:=by
 obtain ⟨k1,a,rfl,h1⟩:=intk_ok hh hr
 obtain ⟨la,rfl,h2⟩:=natk_ok h1 hr
 obtain ⟨k2,b,rfl,h3⟩:=intk_ok h2 hr
 obtain ⟨cb,rfl,h4⟩:=natk_ok h3 hr
 obtain ⟨hle,h5⟩:=ifk_fail h4 hr
 obtain ⟨hsm,h6⟩:=ifk_fail h5 hr
 have hle : la ≤ cb:=Nat.le_of_ble_eq_true hle
 have hsm : cb ≤ 16777216:=Nat.le_of_ble_eq_true hsm
 obtain ⟨nx,h7,h8⟩:=Heap.newk_ok h6 hr
 rw [hl.int_inv,hc.int_inv]
 have hpos:=ht.pos
 have hzs : zv.cells.size = g:=by have:=hzr.len_eq; omega
 let cs : Array Value:=(Array.range (cb * g)).map (zv.cells[· % zv.cells.size]!)
 have hcs : cs.size = cb * g:=by simp [cs]
 have hget : ∀ i,i < cb * g→∃ y,cs[i]? = some y∧VR ρ ((z[i % g]?).getD .und) y∧y.oneCell' = true:=by
  intro i hi
  have hm : i % g < zv.cells.size:=by rw [hzs]; exact Nat.mod_lt i hpos
  have e1 : cs[i]? = some zv.cells[i % g]:=by
   simp only [cs,Array.getElem?_map,Array.getElem?_range,hi,if_true,Option.map_some,hzs]
   rw [getElem!_pos zv.cells (i % g) hm]
  refine ⟨_,e1,?_,hz1 _ (by simp)⟩
  have hm2 : i % g < z.length:=by rw [hzl]; exact Nat.mod_lt i hpos
  obtain ⟨y,h9,h10⟩:=hzr.get (List.getElem?_eq_getElem hm2)
  rw [List.getElem?_eq_getElem hm2,Option.getD_some]
  rw [Array.getElem?_toList,Array.getElem?_eq_getElem hm] at h9
  cases h9; exact h10
 have hflen : ((List.replicate cb z).flatten).length = cb * g:=by simp [hzl]
 obtain ⟨h9,h10⟩:=new_cells rh h7 hpos (n:=cb) (t:=repT z cb cb) (l:=(List.replicate cb z).flatten) (cs:=cs) (by
  refine VRs.of_get (by simp only [List.length_take,Array.length_toList]; omega) fun i v hi=>?_
  rw [flat_get hzl] at hi
  split at hi
  · rename_i hlt
    obtain ⟨y,h11,h12,_⟩:=hget i hlt
    rw [hi,Option.getD_some] at h12
    exact ⟨y,by rw [List.getElem?_take_of_lt (by omega),Array.getElem?_toList]; exact h11,h12⟩
  · cases hi)
  (by
    intro y hy
    obtain ⟨i,hi,rfl⟩:=List.mem_iff_getElem.1 hy
    have hi' : i < cb * g:=by simpa [hcs] using hi
    obtain ⟨y',h11,_,h12⟩:=hget i hi'
    have : cs.toList[i]? = some y':=by rw [Array.getElem?_toList]; exact h11
    rw [List.getElem?_eq_getElem hi] at this
    cases this; exact h12) hflen (fun j ch hj=>by
    rw [repT_eq,T.get_rep z cb cb (Nat.le_refl _)] at hj
    split at hj
    · rename_i hlt
      cases hj
      refine ⟨hlt,?_⟩
      have hjm : (j + 1) * g ≤ cb * g:=Nat.mul_le_mul_right g hlt
      rw [Nat.succ_mul] at hjm
      apply List.ext_getElem?
      intro i
      by_cases hi : i < g
      · rw [List.getElem?_take_of_lt hi,List.getElem?_drop,flat_get hzl,if_pos (by omega),Nat.mul_comm,Nat.mul_add_mod,Nat.mod_eq_of_lt hi]
      · rw [List.getElem?_eq_none (by omega),List.getElem?_eq_none (by simp only [List.length_take]; omega)]
    · cases hj) e (fz:=(0,0)) (.inl rfl) (by omega)
 obtain ⟨i,hi,hby⟩:=ht.bytes
 have hti : ∀ w : World,(typeInfo e).run P w = .ok i w:=fun w=>by simp [typeInfo,hi]
 refine ⟨_,_,_,.slice (some ⟨w.heap.size,0,none⟩) la cb,_,h8,?_,VR.slice_new _ _ _ _ _ _ hle,h9,h10⟩
 have hw1 : IntKind.i64.wrap (la : Int) = la:=wrap_small .i64 _ (by omega) (by show (la : Int) ≤ (9223372036854775807 : Nat); omega)
 have hw2 : IntKind.i64.wrap (cb : Int) = cb:=wrap_small .i64 _ (by omega) (by show (cb : Int) ≤ (9223372036854775807 : Nat); omega)
 have hb1 : (i.bytes : Int) * (cb : Int) ≤ 1099511627776:=by
  have h1 : i.bytes * cb ≤ 65536 * 16777216:=Nat.mul_le_mul hby hsm
  rw [← Int.natCast_mul]; omega
 have hc1 : (decide ((cb : Int) < 0) || decide ((i.bytes : Int) * (cb : Int) > 2 ^ 48) || decide ((la : Int) < 0) || decide ((la : Int) > (cb : Int))) = false:=by
  rw [Bool.or_eq_false_iff,Bool.or_eq_false_iff,Bool.or_eq_false_iff]
  exact ⟨⟨⟨decide_eq_false (by omega),decide_eq_false (by omega)⟩,decide_eq_false (by omega)⟩,decide_eq_false (by omega)⟩
 simp only [Instr.makeSlice,Sem.run_bind,run_und ht.und,Result.andThen_ok,asInt,asIntOf,Sem.run_pure,hti,hw1,hw2]
 rw [if_neg (by rw [hc1]; simp)]
 simp only [Sem.run_bind,run_askRoom,Result.andThen_ok,run_size ht.size,Int.toNat_natCast,Sem.run_ite]
 by_cases h0 : cb * g = 0
 · rw [if_pos h0]
   have : cs = #[]:=by
    apply Array.eq_empty_of_size_eq_zero; rw [hcs,h0]
   simp only [Sem.run_pure,Result.andThen_ok,newRow,Sem.run_bind,run_newObj,h0]
   have h2 : (Array.range 0).map (fun x=>(#[] : Array Value)[x % (#[] : Array Value).size]!) = cs:=by rw [this]; simp
   rw [h2]
 · rw [if_neg h0]
   simp only [run_zero hz,Result.andThen_ok,Sem.run_pure,newRow,Sem.run_bind,run_newObj]
   rfl
noncomputable def repk (z : List V) (n : Nat) (k : List V→Res) : Res:=Nat.rec (motive:=fun _=>(List V→Res)→Res) (fun k=>k []) (fun _ ih k=>ih fun l=>appk z l k) n k
theorem repk_eq (z : List V) (n : Nat) (k : List V→Res) : repk z n k = k (List.replicate n z).flatten:=by
 induction n generalizing k with
 | zero=>rfl
 | succ n ih=>
   show repk z n (fun l=>appk z l k) = _
   rw [ih,appk_eq,List.replicate_succ,List.flatten_cons]
theorem zeroCells_vr {ρ : Rho} {z : List V} {c : Array Value} (hz : VRs ρ z c.toList) (hpos : 0 < z.length) (n : Nat) : VRs ρ (List.replicate n z).flatten (Builtin.zeroCells c n).toList:=by
 have hl : z.length = c.size:=by have:=hz.length; simpa using this
 refine VRs.of_get (by simp [Builtin.zeroCells,hl]) fun i v hi=>?_
 rw [flat_get rfl] at hi
 split at hi
 · rename_i hlt
   obtain ⟨y,h1,h2⟩:=hz.get hi
   refine ⟨y,?_,h2⟩
   have hm : i % c.size < c.size:=Nat.mod_lt _ (by omega)
   rw [hl] at h1 hlt
   have e : (Builtin.zeroCells c n)[i]? = some c[i % c.size]:=by
    simp only [Builtin.zeroCells,Array.getElem?_map,Array.getElem?_range,hlt,if_true,Option.map_some]
    rw [getElem!_pos c (i % c.size) hm]
   rw [Array.getElem?_toList,e]
   rw [Array.getElem?_toList,Array.getElem?_eq_getElem hm] at h1
   exact h1
 · cases hi
noncomputable def zerosk (sz : Nat) (z : List V) (n : Nat) (h : Heap) (k : V→Heap→Res) : Res:=zk n (k .nils h) (h.newk (.arr sz n (repT z n n) false) fun b h'=>k (.slice b 0 n none sz) h')
noncomputable def sAppZ (sz : Nat) (z : List V) (x y : V) (h : Heap) (k : V→Heap→Res) : Res:=
 intk y fun _ i=>natk i fun n=>ifk (Nat.ble n 16777216) (ifk (Nat.blt 1 sz)
  (slk x (fun _ _ _ _ _=>repk z n fun new=>appendk sz x n new h k) (zerosk sz z n h k) (repk z n fun new=>appendk sz x n new h k))
  (repk z n fun new=>appendk sz x n new h k)) .fail
theorem sAppZ_ok {sz0 : Nat} {z : List V} {x y : V} {h : Heap} {k : V→Heap→Res} {r : Res} (hh : sAppZ sz0 z x y h k = r) (hr : r ≠ .fail) {ρ : Rho} {w : World} (rh : RH P ρ h w) {v v' : Value}
 (hv : VR ρ x v) (hv' : VR ρ y v') {ts : Array TypeId} {ty e u u2 : TypeId} {kd : IntKind} (at_ : AppT P ts ty e sz0) (h1 : ts[1]? = some u2) (h2 : P.underlying u2 = some (.int kd)) {zv : Value}
 (hz : (P.info? e).bind (·.zero) = some zv) (hzr : ∀ ρ,VRs ρ z zv.cells.toList) (hzl : z.length = sz0) (hz1 : ∀ y ∈ zv.cells.toList,y.oneCell' = true) :
 Ok P ρ h w (Builtin.append_ ts u #[v,v']) k r:=by
 obtain ⟨k1,i,rfl,h3⟩:=intk_ok hh hr
 obtain ⟨n,rfl,h4⟩:=natk_ok h3 hr
 obtain ⟨hn,h5⟩:=ifk_fail h4 hr
 have hn : n ≤ 16777216:=Nat.le_of_ble_eq_true hn
 rw [hv'.int_inv]
 have hs : SrcH P ρ w ts e sz0 (.int k1 n) n (List.replicate n z).flatten (Builtin.zeroCells zv.cells n).toList:=
  ⟨.zeros u2 kd k1 zv h1 h2 rfl hn hz (by simp),zeroCells_vr (hzr ρ) (by rw [hzl]; exact at_.pos) n,by simp [hzl],zeroCells_one hz1 n⟩
 have old : (repk z n fun new=>appendk sz0 x n new h k) = r→Ok P ρ h w (Builtin.append_ ts u #[v,.int k1 n]) k r:=fun h5=>by
  rw [repk_eq] at h5
  exact appendk_ok h5 hr rh hv hs at_
 rcases ifk_ne h5 with ⟨_,h6⟩ | ⟨_,h6⟩
 · rcases slk_ok h6 hr with ⟨_,_,_,_,_,_,h7⟩ | ⟨rfl,h7⟩ | ⟨_,h7⟩
   · exact old h7
   ·
    have hpos:=at_.pos
    rw [hv.nils_inv]
    have h7 : zk n (k .nils h) (h.newk (.arr sz0 n (repT z n n) false) fun b h'=>k (.slice b 0 n none sz0) h') = r:=h7
    rw [zk_eq] at h7
    split at h7
    · subst n
      exact .pure rh ⟨_,.slice none 0 0,h7,run_append_in at_ hs.how (by omega) (w':=w) (fun a e=>by cases e) (fun _=>rfl),.nils⟩
    · rename_i hm
      obtain ⟨z1,hz',hzs,hz1'⟩:=at_.zero
      clear old
      generalize (Builtin.zeroCells zv.cells n).toList = xs at hs
      obtain ⟨cap',hcap',hrun⟩:=run_append_grow (u:=u) (l:=0) (cap:=0) (base:=none) (old:=#[]) at_ hs.how rfl (by omega) (by omega) hz'
      rw [Nat.zero_add] at hrun
      have hxl:=hs.vr.length
      have hnl:=hs.size
      let cs2 : Array Value:=#[] ++ xs.toArray ++ Builtin.zeroCells z1.cells (cap' - n)
      have hcs2 : cs2.size = cap' * sz0:=by
       show (#[] ++ xs.toArray ++ Builtin.zeroCells z1.cells (cap' - n)).size = _
       rw [Array.size_append,Array.size_append,zeroCells_size,hzs]
       have : cap' * sz0 = n * sz0 + (cap' - n) * sz0:=by rw [← Nat.add_mul]; congr 1; omega
       rw [this]; simp; omega
      have htl : cs2.toList = xs ++ (Builtin.zeroCells z1.cells (cap' - n)).toList:=by
       show (#[] ++ xs.toArray ++ Builtin.zeroCells z1.cells (cap' - n)).toList = _
       simp [Array.toList_append]
      have hone : ∀ a ∈ cs2.toList,a.oneCell' = true:=by
       intro a ha
       rw [htl] at ha
       rcases List.mem_append.1 ha with ha | ha
       · exact hs.one a ha
       · exact zeroCells_one hz1' _ a ha
      have hvr : VRs ρ (List.replicate n z).flatten (cs2.toList.take (List.replicate n z).flatten.length):=by
       rw [htl,List.take_append_of_le_length (by omega),List.take_of_length_le (by omega)]
       exact hs.vr
      have hgr : n * sz0 ≤ cap' * sz0:=Nat.mul_le_mul_right sz0 (by omega)
      obtain ⟨nx,g1,g2⟩:=Heap.newk_ok h7 hr
      obtain ⟨g3,g4⟩:=new_cells (rh.drew (w.drawn + 1)) g1 hpos (n:=n) (t:=repT z n n) hvr hone hnl (fun j ch hj=>by
       rw [repT_eq,T.get_rep _ _ _ (Nat.le_refl _)] at hj
       split at hj
       · rename_i hjn
         cases hj
         have hjs : (j + 1) * sz0 ≤ n * sz0:=Nat.mul_le_mul_right sz0 hjn
         rw [Nat.succ_mul] at hjs
         refine ⟨hjn,?_⟩
         apply List.ext_getElem?
         intro i
         by_cases hi : i < sz0
         · rw [List.getElem?_take_of_lt hi,List.getElem?_drop,flat_get hzl,if_pos (by omega)]
           have : (j * sz0 + i) % sz0 = i:=by rw [Nat.mul_comm,Nat.mul_add_mod]; exact Nat.mod_eq_of_lt hi
           rw [this]
         · rw [List.getElem?_eq_none (by omega),List.getElem?_eq_none (by simp only [List.length_take]; omega)]
       · cases hj) e (fz:=(0,0)) (.inl rfl) (by omega)
      refine ⟨_,_,_,.slice (some ⟨w.heap.size,0,none⟩) n cap',_,g2,hrun,?_,g3,(Ext.drew ρ h w (w.drawn + 1)).trans g4⟩
      have:=VR.slice (o:=0) (l:=n) (cp:=none) (s:=sz0) (cap:=cap') (Rho.put_same ρ h.nx (w.heap.size,0,cs2.size)) (fun m e=>by cases e) (fun _=>by omega) (by omega)
      simpa using this
   · exact old h7
 · exact old h6
noncomputable def packk (l : List V) : (Nat→Res)→Res:=
 List.rec (motive:=fun _=>(Nat→Res)→Res) (fun k=>k 0) (fun v _ ih k=>intk v fun kd m=>ifk (Nat.beq (kno kd) 4) (natk m fun b=>ifk (Nat.blt b 256) (ih fun n=>k (Nat.add b (Nat.mul 256 n))) .fail) .fail) l
theorem packk_ok {ρ : Rho} {l : List V} {k : Nat→Res} {r : Res} (h : packk l k = r) (hr : r ≠ .fail) {xs : List Value} (hl : VRs ρ l xs) :
 ∃ ns : List Nat,k (pack (ns.map UInt8.ofNat)) = r∧xs = ns.map (fun (n : Nat)=>Value.int .u8 (n : Int))∧∀ n ∈ ns,n < 256:=by
 induction l generalizing xs k with
 | nil=>cases hl; exact ⟨[],h,rfl,by simp⟩
 | cons v l ih=>
   cases hl with
   | cons hv hs=>
     obtain ⟨kd,m,rfl,h1⟩:=intk_ok (show intk v _ = r from h) hr
     obtain ⟨hk,h2⟩:=ifk_fail h1 hr
     obtain ⟨b,rfl,h3⟩:=natk_ok h2 hr
     obtain ⟨hb,h4⟩:=ifk_fail h3 hr
     have hb : b < 256:=by simpa [Nat.blt_eq] using hb
     obtain ⟨ns,h5,h6,h7⟩:=ih (k:=fun n=>k (Nat.add b (Nat.mul 256 n))) h4 hs
     have hkd : kd = .u8:=by cases kd <;> first | rfl | exact absurd hk (by decide)
     subst hkd
     refine ⟨b :: ns,?_,by rw [hv.int_inv,h6]; rfl,by simpa using ⟨hb,h7⟩⟩
     simp only [List.map_cons,pack]
     have : (UInt8.ofNat b).toNat = b:=by simp; omega
     rw [this]; exact h5
theorem push_list : ∀ (ns : List Nat) (s : ByteArray),((ns.map (fun (n : Nat)=>(n : Int))).foldl (fun r n=>r.push (UInt8.ofNat n.toNat)) s).data.toList = s.data.toList ++ ns.map UInt8.ofNat
 | [],s=>by simp
 | n :: ns,s=>by
   simp only [List.map_cons,List.foldl_cons,Int.toNat_natCast]
   rw [push_list ns]
   simp [ByteArray.push]
noncomputable def sBytesS (x : V) (h : Heap) (k : V→Heap→Res) : Res:=
 slk x (fun b o l _ _=>loadk h b o l fun cs=>packk cs fun n=>forceN n fun n=>k (.str l n) h) (k (.str 0 0) h) (k (.str 0 0) h)
theorem sBytesS_ok {x : V} {h : Heap} {k : V→Heap→Res} {r : Res} (hh : sBytesS x h k = r) (hr : r ≠ .fail) {ρ : Rho} {w : World} (rh : RH P ρ h w) {v : Value} (hv : VR ρ x v)
 {s d e : TypeId} (hs : P.underlying s = some (.slice e)) (he : P.underlying e = some (.int .u8)) (hd : P.underlying d = some .string) : OkP P ρ h w (convert s d v) k r:=by
 have hconv : ∀ (a : Option Addr) (l c : Nat),(convert s d (.slice a l c)).run P w = (Conv.bytesToString (.slice a l c)).run P w:=by
  intro a l c
  simp only [convert,Sem.run_bind,run_und hs,run_und hd,Result.andThen_ok,run_und he]
 rcases slk_ok hh hr with ⟨b,o,l,cp,s',rfl,h1⟩ | ⟨rfl,h1⟩ | ⟨rfl,h1⟩
 · obtain ⟨c,z,S,cap,hb,_,_,_,rfl⟩:=hv.slice_inv
   obtain ⟨cs,xs,h2,h3,h4,h5,h6⟩:=loadk_ok (P:=P) h1 hr rh hb
   obtain ⟨ns,h7,rfl,h8⟩:=packk_ok h2 hr h4
   rw [forceN_eq] at h7
   have hnl : ns.length = l:=by simpa using h5
   refine ⟨_,.string ((ns.map (fun (n : Nat)=>(n : Int))).foldl (fun r n=>r.push (UInt8.ofNat n.toNat)) ByteArray.empty),h7,?_,.str ?_ ?_⟩
   · rw [hconv]
     refine run_bytesToString w _ l cap _ ?_
     have:=h3 w.drawn
     rw [List.map_map]
     exact this
   · have:=dig_pack (ns.map UInt8.ofNat)
     rw [List.length_map,hnl] at this
     rw [push_list,this]
     rfl
   · have:=pack_lt (ns.map UInt8.ofNat)
     rwa [List.length_map,hnl] at this
 · rw [hv.nils_inv]
   exact ⟨_,.string .empty,h1,by rw [hconv]; rfl,.str rfl (by simp)⟩
 · cases hv with
   | emp a cap=>
     refine ⟨_,.string .empty,h1,?_,.str rfl (by simp)⟩
     rw [hconv]
     simp only [Conv.bytesToString,Sem.run_bind,loadCells,loadCellsFrom,Sem.run_pure,Result.andThen_ok]
     rfl
noncomputable def sMark (x : V) (h : Heap) (k : V→Heap→Res) : Res:=
 slk x (fun b o l c s=>h.getk b fun y=>arrk y fun g m t ro=>ifk ro .fail (ifk (Nat.beq g 1) (h.turnk b (.arr g m t false) fun h'=>k (.slice b o l c s) h') .fail)) .fail .fail
theorem run_mark {c zo : Nat} {cs : Array Value} {el : TypeId} {fz : Nat × Nat} {w : World} (h : w.heap[c]? = some (.cells cs el fz)) : (markStringish ⟨c,zo,none⟩).run P w = .ok () (w.freeze ⟨c,cs.size,none⟩ 1):=by
 have e : w.shape? c = some (el,cs.size):=by simp [World.shape?,h]
 show (Sem.shape c _).run P w = _
 simp only [Sem.run,e]
 rfl
theorem sMark_ok {x : V} {h : Heap} {k : V→Heap→Res} {r : Res} (hh : sMark x h k = r) (hr : r ≠ .fail) {ρ : Rho} {w : World} (rh : RH P ρ h w) {v : Value} (hv : VR ρ x v)
 {s e : TypeId} (hs : P.underlying s = some (.slice e)) (he : P.underlying e = some (.int .u8)) : Ok P ρ h w (convert s s v) k r:=by
 rcases slk_ok hh hr with ⟨b,o,l,cp,s',rfl,h1⟩ | ⟨rfl,h1⟩ | ⟨rfl,h1⟩
 · have hv0:=hv
   obtain ⟨c,z,S,cap,hb,_,_,_,rfl⟩:=hv.slice_inv
   rw [Heap.getk_eq] at h1
   obtain ⟨g,m,t,ro,h2,h3⟩:=arrk_ok h1 hr
   obtain ⟨hro,h4⟩ : ro = false∧_ = r:=by
    rcases ifk_ne h3 with ⟨_,h2⟩ | ⟨h2,h3⟩
    · exact absurd h2.symm hr
    · exact ⟨h2,h3⟩
   subst hro
   obtain ⟨hg1,h4⟩:=ifk_fail h4 hr
   obtain rfl:=Nat.eq_of_beq_eq_true hg1
   rw [Heap.turnk_eq] at h4
   obtain ⟨cs,ha⟩:=rh.arr b c z S 1 m t false hb h2
   obtain ⟨el,fz,h6,h7⟩:=ha.at_
   have h7:=h7 rfl
   have hsz:=ha.size
   have hcell : ∃ fz',(w.freeze ⟨c,cs.size,none⟩ 1).heap[c]? = some (.cells cs el fz')∧Thaw fz' S 1:=by
    obtain ⟨lo,hi⟩:=fz
    refine ⟨_,by simp only [World.freeze]; rw [if_neg (by decide),Array.getElem?_modify,if_pos rfl,h6]; rfl,?_⟩
    split
    · exact .inr ⟨by simp; omega,rfl⟩
    · rename_i hne
      rcases h7 with h7 | h7
      · exact absurd (by simpa using h7) hne
      · have h71:=h7.1
        refine .inr ⟨?_,rfl⟩
        simp only at h71 ⊢; omega
   obtain ⟨fz',h8,h9⟩:=hcell
   have hne : ∀ k,k ≠ c→(w.freeze ⟨c,cs.size,none⟩ 1).heap[k]? = w.heap[k]?:=fun k hk=>by
    simp only [World.freeze]
    rw [if_neg (by decide),Array.getElem?_modify,if_neg (fun e=>hk e.symm)]
   obtain ⟨h10,h11⟩:=turn (w':=w.freeze ⟨c,cs.size,none⟩ 1) rh hb (by rw [h2]; rfl) (x:=.arr 1 m t false) (by rfl) (by rfl) (by rfl) (by simp [World.freeze]) h8 hne (fun g' n' t' ro' e=>by
    cases e
    exact ⟨cs,ha.pos,⟨el,fz',h8,fun _=>h9⟩,ha.size,ha.fits,ha.cells⟩) (fun es e=>by cases e) (fun _ _ _ e=>by rw [h2] at e; cases e)
   refine ⟨_,_,ρ,_,_,h4,?_,hv0,h10,h11⟩
   have h12:=run_mark (P:=P) (zo:=z + o) h6
   simp only [convert,Sem.run_bind,run_und hs,Result.andThen_ok,run_und he,beq_self_eq_true,h12,Sem.run_pure]
 · exact absurd h1.symm hr
 · exact absurd h1.symm hr
end Go.Ev

/- EVALUATOR: what the words come to on a memory that is known: laws for proofs over all inputs. -/
namespace Go.Ev
inductive Shape : T→Nat→Prop where
 | e : Shape .e 0
 | lf (c : List V) : Shape (.lf c) 1
 | nd {a b : T} {n : Nat} (h : 2 ≤ n) (ha : Shape a ((n + 1) / 2)) (hb : Shape b (n / 2)) : Shape (.nd a b) n
theorem Shape.get {t : T} {n : Nat} (h : Shape t n) : ∀ {i : Nat},i < n→∃ c,t.get i = some c:=by
 induction h with
 | e=>intro i hi; omega
 | lf c=>intro i hi; exact ⟨c,by simp [T.get]; omega⟩
 | nd h _ _ iha ihb=>
   intro i hi
   simp only [T.get]
   split
   · exact iha (by omega)
   · exact ihb (by omega)
theorem Shape.get_lt {t : T} {n : Nat} (h : Shape t n) : ∀ {i : Nat} {c : List V},t.get i = some c→i < n:=by
 induction h with
 | e=>intro i c hi; simp [T.get] at hi
 | lf c=>intro i c' hi; simp only [T.get] at hi; split at hi <;> first | omega | cases hi
 | nd h _ _ iha ihb=>
   intro i c hi
   simp only [T.get] at hi
   split at hi
   · have:=iha hi; omega
   · have:=ihb hi; omega
theorem Shape.set {t : T} {n : Nat} (h : Shape t n) (c : List V) : ∀ {i : Nat},i ≤ n→∃ t',t.set i c = some t'∧Shape t' (max n (i + 1)):=by
 induction h with
 | e=>
   intro i hi
   obtain rfl : i = 0:=by omega
   exact ⟨_,rfl,.lf c⟩
 | lf c0=>
   intro i hi
   rcases (by omega : i = 0 ∨ i = 1) with rfl | rfl
   · exact ⟨_,rfl,.lf c⟩
   · exact ⟨_,rfl,.nd (by decide) (.lf c0) (.lf c)⟩
 | @nd a b n h ha hb iha ihb=>
   intro i hi
   simp only [T.set]
   by_cases h0 : i % 2 = 0
   · rw [if_pos h0]
     obtain ⟨a',h1,h2⟩:=iha (i:=i / 2) (by omega)
     refine ⟨_,by rw [h1]; rfl,.nd (by omega) ?_ ?_⟩
     · have e : (max n (i + 1) + 1) / 2 = max ((n + 1) / 2) (i / 2 + 1):=by omega
       rw [e]; exact h2
     · have e : max n (i + 1) / 2 = n / 2:=by omega
       rw [e]; exact hb
   · rw [if_neg h0]
     obtain ⟨b',h1,h2⟩:=ihb (i:=i / 2) (by omega)
     refine ⟨_,by rw [h1]; rfl,.nd (by omega) ?_ ?_⟩
     · have e : (max n (i + 1) + 1) / 2 = (n + 1) / 2:=by omega
       rw [e]; exact ha
     · have e : max n (i + 1) / 2 = max (n / 2) (i / 2 + 1):=by omega
       rw [e]; exact h2
theorem Shape.rep (c : List V) : ∀ {f n : Nat},n ≤ f→Shape (T.rep c f n) n
 | 0,n,h=>by obtain rfl : n = 0:=by omega
             exact .e
 | f + 1,n,h=>by
   simp only [T.rep]
   split
   · rename_i h0; subst h0; exact .e
   · split
     · rename_i h1; subst h1; exact .lf c
     · exact .nd (by omega) (Shape.rep c (by omega)) (Shape.rep c (by omega))
structure Wf (t : T) (g n : Nat) : Prop where
 pos : 0 < g
 shape : Shape t n
 len : ∀ j ch,t.get j = some ch→ch.length = g
theorem Wf.cell {t : T} {g n : Nat} (h : Wf t g n) {i : Nat} (hi : i < n * g) : ∃ v,t.cell g i = some v:=by
 obtain ⟨c,h1⟩:=h.shape.get (i:=i / g) (Nat.div_lt_of_lt_mul (by rw [Nat.mul_comm]; exact hi))
 have h2:=h.len _ _ h1
 have h3:=Nat.mod_lt i h.pos
 exact ⟨c[i % g],by simp [T.cell,h1,List.getElem?_eq_getElem (show i % g < c.length by omega)]⟩
theorem Wf.cell_lt {t : T} {g n : Nat} (h : Wf t g n) {i : Nat} {v : V} (hi : t.cell g i = some v) : i < n * g:=by
 obtain ⟨c,h1,_⟩:=Option.bind_eq_some_iff.1 hi
 have h2:=h.shape.get_lt h1
 have h3 : (i / g + 1) * g ≤ n * g:=Nat.mul_le_mul_right g h2
 have h4:=Nat.div_add_mod i g
 have h5:=Nat.mod_lt i h.pos
 rw [Nat.succ_mul,Nat.mul_comm (i / g) g] at h3
 omega
theorem div_range {g i q : Nat} (h1 : g * q ≤ i) (h2 : i < g * q + g) : i / g = q:=
 Nat.div_eq_of_lt_le (by rw [Nat.mul_comm]; exact h1) (by rw [Nat.succ_mul,Nat.mul_comm q g]; exact h2)
theorem takek_eq {n : Nat} {l : List V} (h : n ≤ l.length) (k : List V→List V→Res) : takek n l k = k (l.take n) (l.drop n):=by
 induction n generalizing l k with
 | zero=>simp only [List.take_zero,List.drop_zero]; rfl
 | succ n ih=>
   cases l with
   | nil=>simp at h
   | cons v l=>exact (ih (by simpa using h) fun a b=>k (v :: a) b).trans (by simp)
theorem nthk_eq {l : List V} {i : Nat} {v : V} (h : l[i]? = some v) (k : V→Res) : nthk l i k = k v:=by
 induction l generalizing i with
 | nil=>simp at h
 | cons u l ih=>
   cases i with
   | zero=>simp at h; subst h; rfl
   | succ i=>exact ih (by simpa using h)
structure RowO (op : Bool) (x : Blk) (g : Nat) (cs : List V) : Prop where
 is : ∃ n t,x = .arr g n t op∧Wf t g n∧cs.length = n * g∧∀ i,t.cell g i = cs[i]?
abbrev Row:=RowO false
theorem gatherk_law {t : T} {g m : Nat} (w : Wf t g m) {cs : List V} (hc : ∀ i,t.cell g i = cs[i]?) (hl : cs.length = m * g) : ∀ {f o n : Nat} (k : List V→Res),0 < n→n ≤ f→o + n ≤ cs.length →
 gatherk t g f o n k = k ((cs.drop o).take n)
 | 0,o,n,k,h1,h2,_=>by omega
 | f + 1,o,n,k,h1,h2,h3=>by
   show (t.getk (o / g) fun ch=>takek (o % g) ch fun _ rest=>ifk (Nat.ble n (g - o % g)) (takek n rest fun p _=>k p)
    (gatherk t g f (o + (g - o % g)) (n - (g - o % g)) fun q=>appk rest q k)) = _
   have hpos:=w.pos
   have hmod:=Nat.mod_lt o hpos
   have hdm:=Nat.div_add_mod o g
   obtain ⟨ch,h4⟩:=w.shape.get (i:=o / g) (Nat.div_lt_of_lt_mul (by rw [Nat.mul_comm]; omega))
   have hlen:=w.len _ _ h4
   have hch : ∀ i,o % g + i < g→ch[o % g + i]? = cs[o + i]?:=by
    intro i hi
    have e1 : (o + i) / g = o / g:=by
     rw [show o + i = g * (o / g) + (o % g + i) by omega,Nat.mul_add_div hpos,Nat.div_eq_of_lt hi]; omega
    have e2 : (o + i) % g = o % g + i:=by
     rw [show o + i = g * (o / g) + (o % g + i) by omega,Nat.mul_add_mod,Nat.mod_eq_of_lt hi]
    rw [← hc,T.cell,e1,h4,e2]; rfl
   rw [T.getk_eq,h4]
   simp only
   rw [takek_eq (by omega),ifk_eq]
   split
   · rename_i hb
     have hb:=Nat.le_of_ble_eq_true hb
     rw [takek_eq (by simp; omega)]
     congr 1
     apply List.ext_getElem?
     intro i
     by_cases hi : i < n
     · rw [List.getElem?_take_of_lt hi,List.getElem?_take_of_lt hi,List.getElem?_drop,List.getElem?_drop,hch i (by omega)]
     · rw [List.getElem?_eq_none (by simp; omega),List.getElem?_eq_none (by simp; omega)]
   · rename_i hb
     have hb : ¬ n ≤ g - o % g:=fun h=>hb (Nat.ble_eq_true_of_le h)
     rw [gatherk_law w hc hl _ (by omega) (by omega) (by omega),appk_eq]
     congr 1
     apply List.ext_getElem?
     intro i
     by_cases hi : i < g - o % g
     · rw [List.getElem?_append_left (by simp; omega),List.getElem?_drop,List.getElem?_take_of_lt (by omega),List.getElem?_drop,hch i (by omega)]
     · rw [List.getElem?_append_right (by simp; omega)]
       simp only [List.length_drop,hlen]
       by_cases hn : i < n
       · rw [List.getElem?_take_of_lt (by omega),List.getElem?_take_of_lt hn,List.getElem?_drop,List.getElem?_drop]
         congr 1; omega
       · rw [List.getElem?_eq_none (by simp; omega),List.getElem?_eq_none (by simp; omega)]
theorem cellsk_law {t : T} {g m : Nat} (w : Wf t g m) {cs : List V} (hc : ∀ i,t.cell g i = cs[i]?) (hl : cs.length = m * g) {o n : Nat} (k : List V→Res) (h : o + n ≤ cs.length) :
 cellsk t g o n k = k ((cs.drop o).take n):=by
 unfold cellsk
 rw [zk_eq]
 split
 · rename_i h0; subst h0; simp
 · rename_i h0
   have hg : gatherk t g n o n k = k ((cs.drop o).take n):=gatherk_law w hc hl k (by omega) (Nat.le_refl _) h
   rw [ifk_eq]
   split
   · rename_i hb
     obtain rfl:=Nat.eq_of_beq_eq_true hb
     rw [zk_eq]
     split
     · rename_i hm
       have hm : o % n = 0:=hm
       have hdm:=Nat.div_add_mod o n
       obtain ⟨ch,h4⟩:=w.shape.get (i:=o / n) (Nat.div_lt_of_lt_mul (by rw [Nat.mul_comm]; omega))
       have hlen:=w.len _ _ h4
       show T.getk t (o / n) k = _
       rw [T.getk_eq,h4]
       simp only
       congr 1
       apply List.ext_getElem?
       intro i
       by_cases hi : i < n
       · rw [List.getElem?_take_of_lt hi,List.getElem?_drop,← hc,T.cell]
         have e1 : (o + i) / n = o / n:=by
          rw [show o + i = n * (o / n) + i by omega,Nat.mul_add_div w.pos,Nat.div_eq_of_lt hi]; omega
         have e2 : (o + i) % n = i:=by
          rw [show o + i = n * (o / n) + i by omega,Nat.mul_add_mod,Nat.mod_eq_of_lt hi]
         rw [e1,e2,h4]; rfl
       · rw [List.getElem?_eq_none (by omega),List.getElem?_eq_none (by simp; omega)]
     · exact hg
   · exact hg
theorem Wf.set {t : T} {g m : Nat} (w : Wf t g m) {j : Nat} {ch : List V} (hj : j < m) (hl : ch.length = g) : ∃ t',t.set j ch = some t'∧Wf t' g m:=by
 obtain ⟨t',h1,h2⟩:=w.shape.set ch (i:=j) (by omega)
 refine ⟨t',h1,w.pos,by rwa [show max m (j + 1) = m by omega] at h2,fun i c hc=>?_⟩
 rw [T.get_set h1] at hc
 split at hc
 · cases hc; exact hl
 · exact w.len _ _ hc
theorem scatk_law {g m : Nat} : ∀ {f : Nat} {t : T} (_ : Wf t g m) {o n : Nat} {vs : List V},vs.length = n→0 < n→n ≤ f→o + n ≤ m * g →
 ∃ t',(∀ k,scatk g f t o n vs k = k t')∧Wf t' g m∧∀ i,t'.cell g i = if o ≤ i∧i < o + n then vs[i - o]? else t.cell g i
 | 0,t,w,o,n,vs,h0,h1,h2,_=>by omega
 | f + 1,t,w,o,n,vs,h0,h1,h2,h3=>by
   have hpos:=w.pos
   have hmod:=Nat.mod_lt o hpos
   have hdm:=Nat.div_add_mod o g
   have hlt : o / g < m:=Nat.div_lt_of_lt_mul (by rw [Nat.mul_comm]; omega)
   obtain ⟨ch,h4⟩:=w.shape.get hlt
   have hlen:=w.len _ _ h4
   have hdiv : ∀ i,i / g = o / g ↔ g * (o / g) ≤ i∧i < g * (o / g) + g:=by
    intro i
    have hi:=Nat.div_add_mod i g
    have him:=Nat.mod_lt i hpos
    constructor
    · intro e; rw [e] at hi; omega
    · intro ⟨ha,hb⟩
      exact div_range ha hb
   have hmd : ∀ i,i / g = o / g→i % g = i - g * (o / g):=by
    intro i e
    have hi:=Nat.div_add_mod i g
    rw [e] at hi; omega
   have unf : ∀ k,scatk g (f + 1) t o n vs k = if Nat.ble n (g - o % g) then (takek n (ch.drop (o % g)) fun _ b=>appk vs b fun c=>appk (ch.take (o % g)) c fun ch'=>t.setk (o / g) ch' k)
    else (takek (g - o % g) vs fun p q=>appk (ch.take (o % g)) p fun ch'=>t.setk (o / g) ch' fun t'=>scatk g f t' (o + (g - o % g)) (n - (g - o % g)) q k):=by
    intro k
    show (t.getk (o / g) fun ch=>takek (o % g) ch fun a rest=>ifk (Nat.ble n (g - o % g)) (takek n rest fun _ b=>appk vs b fun c=>appk a c fun ch'=>t.setk (o / g) ch' k)
     (takek (g - o % g) vs fun p q=>appk a p fun ch'=>t.setk (o / g) ch' fun t'=>scatk g f t' (o + (g - o % g)) (n - (g - o % g)) q k)) = _
    rw [T.getk_eq,h4]
    simp only
    rw [takek_eq (by omega),ifk_eq]
   by_cases hb : n ≤ g - o % g
   · obtain ⟨t',h5,h6⟩:=w.set (j:=o / g) (ch:=ch.take (o % g) ++ (vs ++ (ch.drop (o % g)).drop n)) hlt (by simp; omega)
     refine ⟨t',fun k=>?_,h6,fun i=>?_⟩
     · rw [unf,if_pos (Nat.ble_eq_true_of_le hb),takek_eq (by simp; omega),appk_eq,appk_eq,T.setk_eq,h5]
     rw [cell_set h5]
     split
     · rename_i hi
       have hi2:=(hdiv i).1 hi
       rw [hmd i hi]
       by_cases h7 : o ≤ i∧i < o + n
       · rw [if_pos h7,List.getElem?_append_right (by simp; omega),List.getElem?_append_left (by simp; omega)]
         congr 1; simp; omega
       · rw [if_neg h7,T.cell,hi,h4,hmd i hi]
         simp only [Option.bind_some]
         by_cases h8 : i < o
         · rw [List.getElem?_append_left (by simp; omega),List.getElem?_take_of_lt (by omega)]
         · rw [List.getElem?_append_right (by simp; omega),List.getElem?_append_right (by simp; omega),List.drop_drop,List.getElem?_drop]
           congr 1; simp; omega
     · rename_i hi
       rw [if_neg]
       intro ⟨h7,h8⟩
       exact hi ((hdiv i).2 (by omega))
   · obtain ⟨t1,h5,h6⟩:=w.set (j:=o / g) (ch:=ch.take (o % g) ++ vs.take (g - o % g)) hlt (by simp; omega)
     obtain ⟨t',h7,h8,h9⟩:=scatk_law (f:=f) h6 (o:=o + (g - o % g)) (n:=n - (g - o % g)) (vs:=vs.drop (g - o % g)) (by simp; omega) (by omega) (by omega) (by omega)
     refine ⟨t',fun k=>?_,h8,fun i=>?_⟩
     · rw [unf,if_neg (fun h=>hb (Nat.le_of_ble_eq_true h)),takek_eq (by omega),appk_eq,T.setk_eq,h5]
       exact h7 k
     rw [h9]
     by_cases hA : o + (g - o % g) ≤ i∧i < o + (g - o % g) + (n - (g - o % g))
     · rw [if_pos hA,if_pos (by omega),List.getElem?_drop]
       congr 1; omega
     · rw [if_neg hA,cell_set h5]
       split
       · rename_i hi
         have hi2:=(hdiv i).1 hi
         rw [hmd i hi]
         by_cases h10 : o ≤ i
         · rw [if_pos (by omega),List.getElem?_append_right (by simp; omega),List.getElem?_take_of_lt (by simp; omega)]
           congr 1; simp; omega
         · rw [if_neg (by omega),List.getElem?_append_left (by simp; omega),List.getElem?_take_of_lt (by omega),T.cell,hi,h4,hmd i hi]
           rfl
       · rename_i hi
         rw [if_neg]
         intro ⟨h10,h11⟩
         have:=(hdiv i).2
         exact hi (this (by omega))
theorem putk_law {t : T} {g m : Nat} (w : Wf t g m) {o n : Nat} {vs : List V} (hv : vs.length = n) (h : o + n ≤ m * g) :
 ∃ t',(∀ k,putk t g m o n vs k = k t')∧Wf t' g m∧∀ i,t'.cell g i = if o ≤ i∧i < o + n then vs[i - o]? else t.cell g i:=by
 by_cases h0 : n = 0
 · subst h0
   exact ⟨t,fun k=>rfl,w,fun i=>by rw [if_neg (by omega)]⟩
 · have unf : ∀ k,putk t g m o n vs k = ifk (Nat.beq n g) (zk (o % g) (t.setk (o / g) vs k) (scatk g n t o n vs k)) (scatk g n t o n vs k):=by
    intro k
    show zk n (k t) (ifk (Nat.ble (o + n) (m * g)) _ .fail) = _
    rw [zk_eq,if_neg h0,Nat.ble_eq_true_of_le h]; rfl
   obtain ⟨ts,hs1,hs2,hs3⟩:=scatk_law (f:=n) w (o:=o) hv (by omega) (Nat.le_refl _) h
   by_cases hb : n = g
   · subst hb
     by_cases hm : o % n = 0
     · have hdm:=Nat.div_add_mod o n
       have hlt : o / n < m:=Nat.div_lt_of_lt_mul (by rw [Nat.mul_comm]; omega)
       obtain ⟨t',h5,h6⟩:=w.set (j:=o / n) hlt hv
       refine ⟨t',fun k=>?_,h6,fun i=>?_⟩
       · rw [unf,Nat.beq_refl,hm]
         show T.setk t (o / n) vs k = _
         rw [T.setk_eq,h5]
       · rw [cell_set h5]
         have hi:=Nat.div_add_mod i n
         have him:=Nat.mod_lt i w.pos
         by_cases e : i / n = o / n
         · rw [if_pos e]
           rw [e] at hi
           rw [if_pos (by omega)]
           congr 1; omega
         · rw [if_neg e,if_neg]
           intro ⟨h7,h8⟩
           exact e (div_range (by omega) (by omega))
     · refine ⟨ts,fun k=>?_,hs2,hs3⟩
       rw [unf,Nat.beq_refl,ifk_eq,zk_eq,if_neg hm]
       exact hs1 k
   · refine ⟨ts,fun k=>?_,hs2,hs3⟩
     rw [unf,ifk_eq,if_neg (fun h=>hb (Nat.eq_of_beq_eq_true h))]
     exact hs1 k
theorem chopk_law {g : Nat} (hg : 0 < g) : ∀ {m i : Nat} {l : List V} {t : T} (_ : Wf t g i),l.length = m * g →
 ∃ t',(∀ k,chopk g m i l t k = k t')∧Wf t' g (i + m)∧∀ j,t'.cell g j = if i * g ≤ j then l[j - i * g]? else t.cell g j
 | 0,i,l,t,w,h=>by
   have : l = []:=List.length_eq_zero_iff.1 (by omega)
   subst this
   refine ⟨t,fun k=>rfl,w,fun j=>?_⟩
   split
   · rename_i hj
     cases hc : t.cell g j with
     | none=>simp
     | some v=>have:=w.cell_lt hc; omega
   · rfl
 | m + 1,i,l,t,w,h=>by
   have hl : g ≤ l.length:=by rw [h,Nat.succ_mul]; omega
   obtain ⟨t1,h1,h2⟩:=w.shape.set (l.take g) (Nat.le_refl i)
   have w1 : Wf t1 g (i + 1):=⟨hg,by rwa [show max i (i + 1) = i + 1 by omega] at h2,fun j c hc=>by
    rw [T.get_set h1] at hc
    split at hc
    · cases hc; simp; omega
    · exact w.len _ _ hc⟩
   obtain ⟨t',h3,h4,h5⟩:=chopk_law hg w1 (l:=l.drop g) (m:=m) (by rw [List.length_drop,h,Nat.succ_mul]; omega)
   refine ⟨t',fun k=>by
    show (takek g l fun c rest=>t.setk i c fun t'=>chopk g m (i + 1) rest t' k) = k t'
    rw [takek_eq hl,T.setk_eq,h1]
    exact h3 k,by rwa [show i + 1 + m = i + (m + 1) by omega] at h4,fun j=>?_⟩
   rw [h5,cell_set h1]
   have hi:=Nat.div_add_mod j g
   have him:=Nat.mod_lt j hg
   by_cases hA : (i + 1) * g ≤ j
   · rw [if_pos hA,if_pos (by rw [Nat.succ_mul] at hA; omega),List.getElem?_drop]
     congr 1
     rw [Nat.succ_mul] at hA ⊢
     omega
   · rw [if_neg hA]
     rw [Nat.succ_mul] at hA
     by_cases e : j / g = i
     · rw [if_pos e]
       rw [e,Nat.mul_comm] at hi
       rw [if_pos (by omega),List.getElem?_take_of_lt him]
       congr 1; omega
     · rw [if_neg e,if_neg]
       intro hB
       exact e (div_range (by rw [Nat.mul_comm]; exact hB) (by rw [Nat.mul_comm g i]; omega))
theorem wf_e {g : Nat} (hg : 0 < g) : Wf .e g 0:=⟨hg,.e,fun j ch h=>by simp [T.get] at h⟩
theorem rowk_law {g n : Nat} (hg : 0 < g) {l : List V} (hl : l.length = n * g) : ∃ t,(∀ k,rowk g n l k = k t)∧Row (.arr g n t false) g l:=by
 by_cases hb : n = 1
 · subst hb
   have hl' : l.length = g:=by omega
   refine ⟨.lf l,fun k=>?_,1,_,rfl,⟨hg,.lf l,fun j ch h=>?_⟩,hl,fun i=>?_⟩
   · show takek g l (fun _ rest=>List.rec (motive:=fun _=>Res) (k (.lf l)) (fun _ _ _=>.fail) rest) = _
     rw [takek_eq (by omega)]
     have : l.drop g = []:=List.drop_of_length_le (by omega)
     rw [this]
   · simp only [T.get] at h
     split at h <;> first | (cases h; exact hl') | cases h
   · simp only [T.cell,T.get]
     have hi:=Nat.div_add_mod i g
     have him:=Nat.mod_lt i hg
     split
     · rename_i h0
       rw [h0] at hi
       simp only [Option.bind_some]
       congr 1; omega
     · rename_i h0
       rw [List.getElem?_eq_none]
       · rfl
       · have:=(Nat.le_div_iff_mul_le hg).1 (Nat.one_le_iff_ne_zero.2 h0)
         omega
 · obtain ⟨t',h1,h2,h3⟩:=chopk_law hg (wf_e hg) hl
   refine ⟨t',fun k=>?_,n,t',rfl,by simpa using h2,hl,fun i=>?_⟩
   · unfold rowk
     rw [ifk_eq,if_neg (fun h=>hb (Nat.eq_of_beq_eq_true h))]
     exact h1 k
   · rw [h3]; simp
theorem Row.rep (c : List V) (hg : 0 < c.length) (n : Nat) : Row (.arr c.length n (repT c n n) false) c.length (List.replicate n c).flatten:=by
 refine ⟨n,_,rfl,⟨hg,by rw [repT_eq]; exact Shape.rep c (Nat.le_refl _),fun j ch h=>?_⟩,by simp,fun i=>?_⟩
 · rw [repT_eq,T.get_rep _ _ _ (Nat.le_refl _)] at h
   split at h <;> first | (cases h; rfl) | cases h
 · rw [flat_get rfl,T.cell,repT_eq,T.get_rep _ _ _ (Nat.le_refl _)]
   have hi:=Nat.div_add_mod i c.length
   have him:=Nat.mod_lt i hg
   by_cases h : i < n * c.length
   · rw [if_pos h,if_pos (Nat.div_lt_of_lt_mul (by rw [Nat.mul_comm]; exact h))]; rfl
   · rw [if_neg h,if_neg]
     · rfl
     · intro h2
       have : (i / c.length + 1) * c.length ≤ n * c.length:=Nat.mul_le_mul_right _ h2
       rw [Nat.succ_mul,Nat.mul_comm (i / c.length)] at this
       omega
theorem load1k_law {op : Bool} {h : Heap} {b : Bid} {g o : Nat} {cs : List V} {v : V} (a : RowO op (h.t.get b) g cs) (hv : cs[o]? = some v) (k : V→Res) : load1k h b o k = k v:=by
 obtain ⟨n,t,h1,h2,h3,h4⟩:=a.is
 unfold load1k
 rw [Heap.getk_eq,h1]
 show cellk t g o k = k v
 unfold cellk
 rw [T.getk_eq]
 have:=h4 o
 rw [hv] at this
 obtain ⟨ch,h5,h6⟩:=Option.bind_eq_some_iff.1 this
 rw [show t.get (Nat.div o g) = some ch from h5]
 exact nthk_eq h6 k
theorem loadk_law {op : Bool} {h : Heap} {b : Bid} {g o n : Nat} {cs : List V} (a : RowO op (h.t.get b) g cs) (hl : o + n ≤ cs.length) (k : List V→Res) : loadk h b o n k = k ((cs.drop o).take n):=by
 obtain ⟨m,t,h1,h2,h3,h4⟩:=a.is
 unfold loadk
 rw [Heap.getk_eq,h1]
 exact cellsk_law h2 h4 h3 k hl
def splice (cs : List V) (o : Nat) (vs : List V) : List V:=cs.take o ++ vs ++ cs.drop (o + vs.length)
theorem splice_length {cs vs : List V} {o : Nat} (h : o + vs.length ≤ cs.length) : (splice cs o vs).length = cs.length:=by simp [splice]; omega
theorem splice_get {cs vs : List V} {o : Nat} (h : o + vs.length ≤ cs.length) (i : Nat) : (splice cs o vs)[i]? = if o ≤ i∧i < o + vs.length then vs[i - o]? else cs[i]?:=by
 unfold splice
 by_cases h1 : i < o
 · rw [if_neg (by omega),List.append_assoc,List.getElem?_append_left (by simp; omega),List.getElem?_take_of_lt h1]
 · by_cases h2 : i < o + vs.length
   · rw [if_pos (by omega),List.getElem?_append_left (by simp; omega),List.getElem?_append_right (by simp; omega)]
     congr 1; simp; omega
   · rw [if_neg (by omega),List.getElem?_append_right (by simp; omega),List.getElem?_drop]
     congr 1; simp; omega
structure But (h : Heap) (b : Bid) (h' : Heap) : Prop where
 nx : h'.nx = h.nx
 get : ∀ b',b' ≠ b→h'.t.get b' = h.t.get b'
theorem storek_law {h : Heap} {b : Bid} {g o n : Nat} {cs vs : List V} (a : Row (h.t.get b) g cs) (hv : vs.length = n) (hl : o + n ≤ cs.length) :
 ∃ h',(∀ k,storek h b o n vs k = k h')∧Row (h'.t.get b) g (splice cs o vs)∧But h b h':=by
 obtain ⟨m,t,h1,h2,h3,h4⟩:=a.is
 subst hv
 obtain ⟨t',h5,h6,h7⟩:=putk_law h2 (o:=o) (vs:=vs) rfl (by omega)
 refine ⟨h.turn b (.arr g m t' false),fun k=>?_,⟨m,t',?_,h6,by rw [splice_length hl]; exact h3,fun i=>?_⟩,rfl,fun b' hb'=>?_⟩
 · unfold storek
   rw [Heap.getk_eq,h1]
   show putk t g m o vs.length vs (fun t'=>h.turnk b (.arr g m t' false) k) = _
   rw [h5,Heap.turnk_eq]
 · simp only [Heap.turn]; exact HT.get_set _ _ _
 · rw [h7,splice_get hl,h4]
 · simp only [Heap.turn]; exact HT.get_set_ne _ hb' _
structure New (h : Heap) (h' : Heap) : Prop where
 nx : h'.nx = h.nx.nxt
 get : ∀ b',b' ≠ h.nx→h'.t.get b' = h.t.get b'
theorem newk_law (h : Heap) (x : Blk) : ∃ h',(∀ k,h.newk x k = k h.nx h')∧h'.t.get h.nx = x∧New h h':=
 ⟨_,fun k=>Heap.newk_eq h x k,HT.get_set _ _ _,rfl,fun _ hb=>HT.get_set_ne _ hb _⟩
end Go.Ev
