/- EvAlloc: texts joined. -/
import Derived.Test.YtobbabhldblljaaGreatDoorEvEq
/- EVALUATOR, 8: operations on values and memory: loads, stores, fields, indexes, slices. -/
namespace Go.Ev
variable {P : Program}
def Ok (P : Program) (ρ : Rho) (h : Heap) (w : World) (s : Sem Value) (k : V→Heap→Res) (r : Res) : Prop:=
 ∃ u h' ρ' y w',k u h' = r∧s.run P w = .ok y w'∧VR ρ' u y∧RH P ρ' h' w'∧Ext ρ h w ρ' h' w'
theorem Ok.pure {ρ : Rho} {h : Heap} {w : World} {s : Sem Value} {k : V→Heap→Res} {r : Res} (rh : RH P ρ h w) (hh : ∃ u y,k u h = r∧s.run P w = .ok y w∧VR ρ u y) :
 Ok P ρ h w s k r:=let ⟨u,y,h1,h2,h3⟩:=hh; ⟨u,h,ρ,y,w,h1,h2,h3,rh,.refl _ _ _⟩
def OkP (P : Program) (ρ : Rho) (h : Heap) (w : World) (s : Sem Value) (k : V→Heap→Res) (r : Res) : Prop:=
 ∃ u y,k u h = r∧s.run P w = .ok y w∧VR ρ u y
theorem OkP.ok {ρ : Rho} {h : Heap} {w : World} {s : Sem Value} {k : V→Heap→Res} {r : Res} (o : OkP P ρ h w s k r) (rh : RH P ρ h w) : Ok P ρ h w s k r:=.pure rh o
def scal (P : Program) (t : TypeId) : Bool:=match P.underlying t with
 | some (.struct _) | some (.array _ _) | none=>false
 | some _=>true
def aggr (P : Program) (t : TypeId) : Bool:=match P.underlying t with
 | some (.struct _) | some (.array _ _)=>true
 | _=>false
def sz (P : Program) (t : TypeId) : Option Nat:=(P.info? t).map (·.size)
section run
variable {w : World}
theorem run_und {t : TypeId} {d : TypeDesc} (h : P.underlying t = some d) : (underlying t).run P w = .ok d w:=by simp [underlying,h]
theorem run_size {t : TypeId} {s : Nat} (h : sz P t = some s) : (sizeOf t).run P w = .ok s w:=by
 unfold sz at h
 obtain ⟨i,h1,h2⟩:=Option.map_eq_some_iff.1 h
 simp [sizeOf,typeInfo,h1,h2]
theorem run_isAgg_scal {t : TypeId} (h : scal P t = true) : (isAgg t).run P w = .ok false w:=by
 unfold scal at h
 cases hd : P.underlying t with
 | none=>rw [hd] at h; cases h
 | some d=>
   rw [hd] at h
   simp only [isAgg,Sem.run_bind,run_und hd,Result.andThen_ok]
   cases d <;> first | rfl | cases h
theorem run_isAgg_aggr {t : TypeId} (h : aggr P t = true) : (isAgg t).run P w = .ok true w:=by
 unfold aggr at h
 cases hd : P.underlying t with
 | none=>rw [hd] at h; cases h
 | some d=>
   rw [hd] at h
   simp only [isAgg,Sem.run_bind,run_und hd,Result.andThen_ok]
   cases d <;> first | rfl | cases h
end run
noncomputable def sLoad1 (x : V) (h : Heap) (k : V→Heap→Res) : Res:=ptrk x fun b o=>load1k h b o fun u=>k u h
noncomputable def sLoadN (n : Nat) (x : V) (h : Heap) (k : V→Heap→Res) : Res:=ptrk x fun b o=>loadk h b o n fun l=>k (.agg n l) h
theorem VR.ptr_inv {ρ : Rho} {b : Bid} {o : Nat} {x : Value} (h : VR ρ (.ptr b o) x) : ∃ c z S,ρ b = some (c,z,S)∧x = .pointer (some ⟨c,z + o,none⟩):=by
 cases h with | ptr h=>exact ⟨_,_,_,h,rfl⟩
theorem run_load_cell {w : World} {a : Addr} {x : Value} (h : w.cell? a = some x) : (load a).run P w = .ok x w:=by simp [h]
theorem sLoad1_ok {x : V} {h : Heap} {k : V→Heap→Res} {r : Res} (hh : sLoad1 x h k = r) (hr : r ≠ .fail) {ρ : Rho} {w : World} (rh : RH P ρ h w) {v : Value} (hv : VR ρ x v)
 {t : TypeId} (ht : scal P t = true) : OkP P ρ h w (Instr.loadAt t v) k r:=by
 obtain ⟨b,o,rfl,h1⟩:=ptrk_ok hh hr
 obtain ⟨c,z,S,hb,rfl⟩:=hv.ptr_inv
 obtain ⟨u,y,h2,h3,h4,h5⟩:=load1k_ok h1 hr rh hb
 refine ⟨u,y,h2,?_,h4⟩
 simp only [Instr.loadAt,Instr.sureAddr,loadVar,Sem.run_bind,Sem.run_pure,Result.andThen_ok,run_isAgg_scal ht,Bool.false_eq_true,if_false]
 exact run_load_cell h3
theorem sLoadN_ok {x : V} {h : Heap} {k : V→Heap→Res} {r : Res} {n : Nat} (hh : sLoadN n x h k = r) (hr : r ≠ .fail) {ρ : Rho} {w : World} (rh : RH P ρ h w) {v : Value} (hv : VR ρ x v)
 {t : TypeId} (ht : aggr P t = true) (hs : sz P t = some n) : OkP P ρ h w (Instr.loadAt t v) k r:=by
 obtain ⟨b,o,rfl,h1⟩:=ptrk_ok hh hr
 obtain ⟨c,z,S,hb,rfl⟩:=hv.ptr_inv
 obtain ⟨l,xs,h2,h3,h4,h5,h6⟩:=loadk_ok (P:=P) h1 hr rh hb
 refine ⟨.agg n l,.agg xs.toArray,h2,?_,.agg (by simpa using h4) (by simpa using h6) (by rw [h4.length,h5])⟩
 simp only [Instr.loadAt,Instr.sureAddr,loadVar,Sem.run_bind,Sem.run_pure,Result.andThen_ok,run_isAgg_aggr ht,if_true,run_size hs]
 rw [h3 w.drawn]
 rfl
noncomputable def onek (x : V) (k : Res) : Res:=
 V.rec (motive_1:=fun _=>Res→Res) (motive_2:=fun _=>PUnit) (fun _=>.fail) (fun _=>.fail) (fun _ k=>k) (fun _ _ k=>k) (fun _ _ k=>k) (fun k=>k) (fun _ _ k=>k) (fun k=>k)
  (fun _ _ _ _ _ k=>k) (fun k=>k) (fun k=>k) (fun _ k=>k) (fun k=>k) (fun _ _ _ k=>k) (fun k=>k) (fun _ _ _ k=>k) (fun _ _ _ _=>.fail) (fun _ _ _=>.fail) PUnit.unit (fun _ _ _ _=>PUnit.unit) x k
theorem onek_ok {x : V} {k r : Res} (h : onek x k = r) (hr : r ≠ .fail) {ρ : Rho} {v : Value} (hv : VR ρ x v) : k = r∧v.oneCell' = true:=by
 cases x <;> first | exact absurd h.symm hr | (refine ⟨h,?_⟩; cases hv <;> rfl)
noncomputable def sStore1 (a x : V) (h : Heap) (k : V→Heap→Res) : Res:=ptrk a fun b o=>onek x (storek h b o 1 [x] fun h'=>k .skip h')
noncomputable def sStoreN (n : Nat) (a x : V) (h : Heap) (k : V→Heap→Res) : Res:=ptrk a fun b o=>aggk x fun m l=>ifk (Nat.beq m n) (storek h b o n l fun h'=>k .skip h') .fail
def OkU (P : Program) (ρ : Rho) (h : Heap) (w : World) (s : Sem Unit) (k : V→Heap→Res) (r : Res) : Prop:=
 ∃ h' ρ' w',k .skip h' = r∧s.run P w = .ok () w'∧RH P ρ' h' w'∧Ext ρ h w ρ' h' w'
theorem one_cells {v : Value} (h : v.oneCell' = true) : v.cells = #[v]:=by cases v <;> first | rfl | cases h
theorem sStore1_ok {a x : V} {h : Heap} {k : V→Heap→Res} {r : Res} (hh : sStore1 a x h k = r) (hr : r ≠ .fail) {ρ : Rho} {w : World} (rh : RH P ρ h w) {p v : Value} (ha : VR ρ a p)
 (hv : VR ρ x v) {t : TypeId} (hs : sz P t = some 1) : OkU P ρ h w (Instr.storeAt t p v) k r:=by
 obtain ⟨b,o,rfl,h1⟩:=ptrk_ok hh hr
 obtain ⟨c,z,S,hb,rfl⟩:=ha.ptr_inv
 obtain ⟨h2,h3⟩:=onek_ok h1 hr hv
 obtain ⟨h',h4,h5⟩:=storek_ok (P:=P) (n:=1) (vs:=[x]) rfl h2 hr rh hb
 obtain ⟨w',h6,h7,h8⟩:=h5 [v] (.cons hv .nil) (by simpa using h3)
 refine ⟨h',ρ,w',h4,?_,h7,h8⟩
 simp only [Instr.storeAt,Instr.sureAddr,storeVar,Sem.run_bind,Sem.run_pure,Result.andThen_ok,run_size hs,one_cells h3]
 simpa using h6
theorem sStoreN_ok {a x : V} {h : Heap} {k : V→Heap→Res} {r : Res} {n : Nat} (hh : sStoreN n a x h k = r) (hr : r ≠ .fail) {ρ : Rho} {w : World} (rh : RH P ρ h w) {p v : Value} (ha : VR ρ a p)
 (hv : VR ρ x v) {t : TypeId} (hs : sz P t = some n) : OkU P ρ h w (Instr.storeAt t p v) k r:=by
 obtain ⟨b,o,rfl,h1⟩:=ptrk_ok hh hr
 obtain ⟨c,z,S,hb,rfl⟩:=ha.ptr_inv
 obtain ⟨m,l,rfl,h2⟩:=aggk_ok h1 hr
 obtain ⟨hm,h3⟩:=ifk_fail h2 hr
 obtain rfl:=Nat.eq_of_beq_eq_true hm
 cases hv with
 | agg hl hc hn=>
   rename_i cs
   obtain ⟨h',h4,h5⟩:=storek_ok (P:=P) hn h3 hr rh hb
   obtain ⟨w',h6,h7,h8⟩:=h5 cs.toList hl hc
   refine ⟨h',ρ,w',h4,?_,h7,h8⟩
   have hsz : cs.size = m:=by have:=hl.length; rw [hn] at this; simpa using this.symm
   simp only [Instr.storeAt,Instr.sureAddr,storeVar,Sem.run_bind,Sem.run_pure,Result.andThen_ok,run_size hs,Value.cells,hsz,ne_eq,not_true_eq_false,if_false]
   exact h6
noncomputable def mulc (m sz : Nat) : Nat:=Nat.rec (motive:=fun _=>Nat) 0 (fun s _=>Nat.rec (motive:=fun _=>Nat) m (fun s _=>Nat.mul m (Nat.succ (Nat.succ s))) s) sz
theorem mulc_eq (m sz : Nat) : mulc m sz = m * sz:=by
 rcases sz with _ | _ | s
 · rfl
 · exact (Nat.mul_one m).symm
 · rfl
noncomputable def addc (o off : Nat) : Nat:=Nat.rec (motive:=fun _=>Nat) o (fun s _=>Nat.add o (Nat.succ s)) off
theorem addc_eq (o off : Nat) : addc o off = o + off:=by cases off <;> rfl
noncomputable def sFaddr (off : Nat) (x : V) (h : Heap) (k : V→Heap→Res) : Res:=ptrk x fun b o=>k (.ptr b (addc o off)) h
theorem sFaddr_ok {off : Nat} {x : V} {h : Heap} {k : V→Heap→Res} {r : Res} (hh : sFaddr off x h k = r) (hr : r ≠ .fail) {ρ : Rho} {w : World} (_ : RH P ρ h w) {v : Value} (hv : VR ρ x v)
 {s : TypeId} {i : Nat} {fields : Array Field} {f : Field} (hs : P.underlying s = some (.struct fields)) (hf : fields[i]? = some f) (ho : f.offset = off) {m : Nat} (hm : sz P f.type = some m)
 (hm0 : m ≠ 0) : OkP P ρ h w (Instr.fieldAt s v i) k r:=by
 obtain ⟨b,o,rfl,h1⟩:=ptrk_ok hh hr
 obtain ⟨c,z,S,hb,rfl⟩:=hv.ptr_inv
 rw [addc_eq] at h1
 refine ⟨_,.pointer (some ⟨c,z + (o + off),none⟩),h1,?_,.ptr hb⟩
 simp only [Instr.fieldAt,Sem.run_bind,run_und hs,Result.andThen_ok,hf,Instr.sureAddr,Sem.run_pure,fieldPlace,run_size hm]
 rw [if_neg hm0]
 simp only [Sem.run_pure,add_addr,ho,Result.andThen_ok,Nat.add_assoc]
theorem VR.slice_inv {ρ : Rho} {b : Bid} {o l : Nat} {cp : Option Nat} {s : Nat} {x : Value} (h : VR ρ (.slice b o l cp s) x) : ∃ c z S cap,ρ b = some (c,z,S)∧(∀ n,cp = some n→cap = n) ∧
 (cp = none→z + o + cap * s = S)∧l ≤ cap∧x = .slice (some ⟨c,z + o,none⟩) l cap:=by
 cases h with | slice h hc ht hl=>exact ⟨_,_,_,_,h,hc,ht,hl,rfl⟩
theorem VR.nils_inv {ρ : Rho} {x : Value} (h : VR ρ .nils x) : x = .slice none 0 0:=by cases h; rfl
noncomputable def sIaddr (sz : Nat) (x i : V) (h : Heap) (k : V→Heap→Res) : Res:=
 slk x (fun b o l _ _=>intk i fun _ n=>natk n fun m=>ifk (Nat.blt m l) (k (.ptr b (Nat.add o (mulc m sz))) h) .fail) .fail .fail
theorem sIaddr_ok {sz0 : Nat} {x i : V} {h : Heap} {k : V→Heap→Res} {r : Res} (hh : sIaddr sz0 x i h k = r) (hr : r ≠ .fail) {ρ : Rho} {w : World} (_ : RH P ρ h w) {v iv : Value} (hv : VR ρ x v)
 (hi : VR ρ i iv) {t e : TypeId} (ht : P.underlying t = some (.slice e)) (hs : sz P e = some sz0) : OkP P ρ h w (Instr.indexAt t v iv) k r:=by
 rcases slk_ok hh hr with ⟨b,o,l,cp,s,rfl,h1⟩ | ⟨_,h1⟩ | ⟨_,h1⟩
 · obtain ⟨kd,n,rfl,h2⟩:=intk_ok h1 hr
   obtain ⟨m,rfl,h3⟩:=natk_ok h2 hr
   obtain ⟨hlt,h4⟩:=ifk_fail h3 hr
   have hlt : m < l:=by simpa [Nat.blt_eq] using hlt
   rw [mulc_eq] at h4
   obtain ⟨c,z,S,cap,hb,_,_,_,rfl⟩:=hv.slice_inv
   rw [hi.int_inv]
   refine ⟨_,.pointer (some ⟨c,z + (o + m * sz0),none⟩),h4,?_,.ptr hb⟩
   have hb1 : (0 : Int) ≤ (m : Int)∧(m : Int) < (l : Int):=⟨by omega,by omega⟩
   simp only [Instr.indexAt,asIntOf,Sem.run_bind,Sem.run_pure,Result.andThen_ok,run_und ht]
   rw [if_pos hb1]
   simp only [Sem.run_bind,run_size hs,Result.andThen_ok,Sem.run_pure,Int.toNat_natCast,add_addr,Nat.add_assoc]
 · exact absurd h1.symm hr
 · exact absurd h1.symm hr
noncomputable def sIaddrA (n sz : Nat) (x i : V) (h : Heap) (k : V→Heap→Res) : Res:=
 ptrk x fun b o=>intk i fun _ j=>natk j fun m=>ifk (Nat.blt m n) (k (.ptr b (Nat.add o (mulc m sz))) h) .fail
theorem sIaddrA_ok {n sz0 : Nat} {x i : V} {h : Heap} {k : V→Heap→Res} {r : Res} (hh : sIaddrA n sz0 x i h k = r) (hr : r ≠ .fail) {ρ : Rho} {w : World} (_ : RH P ρ h w) {v iv : Value}
 (hv : VR ρ x v) (hi : VR ρ i iv) {t e : TypeId} (ht : P.underlying t = some (.array n e)) (hs : sz P e = some sz0) : OkP P ρ h w (Instr.indexAt t v iv) k r:=by
 obtain ⟨b,o,rfl,h1⟩:=ptrk_ok hh hr
 obtain ⟨kd,j,rfl,h2⟩:=intk_ok h1 hr
 obtain ⟨m,rfl,h3⟩:=natk_ok h2 hr
 obtain ⟨hlt,h4⟩:=ifk_fail h3 hr
 have hlt : m < n:=by simpa [Nat.blt_eq] using hlt
 rw [mulc_eq] at h4
 obtain ⟨c,z,S,hb,rfl⟩:=hv.ptr_inv
 rw [hi.int_inv]
 refine ⟨_,.pointer (some ⟨c,z + (o + m * sz0),none⟩),h4,?_,.ptr hb⟩
 have hb1 : (0 : Int) ≤ (m : Int)∧(m : Int) < (n : Int):=⟨by omega,by omega⟩
 simp only [Instr.indexAt,asIntOf,Sem.run_bind,Sem.run_pure,Result.andThen_ok,run_und ht,Instr.sureAddr]
 rw [if_pos hb1]
 simp only [Sem.run_bind,run_size hs,Result.andThen_ok,Sem.run_pure,Int.toNat_natCast,add_addr,Nat.add_assoc]
noncomputable def sIdxS (x i : V) (h : Heap) (k : V→Heap→Res) : Res:=
 strk x fun l n=>intk i fun _ j=>natk j fun m=>ifk (Nat.blt m l) (k (.int .u8 (.ofNat (Nat.mod (Nat.div n (Nat.pow 2 (Nat.mul 8 m))) 256))) h) .fail
theorem sIdxS_ok {x i : V} {h : Heap} {k : V→Heap→Res} {r : Res} (hh : sIdxS x i h k = r) (hr : r ≠ .fail) {ρ : Rho} {w : World} (_ : RH P ρ h w) {v iv : Value}
 (hv : VR ρ x v) (hi : VR ρ i iv) {t : TypeId} (ht : P.underlying t = some .string) : OkP P ρ h w (Instr.index t v iv) k r:=by
 obtain ⟨l,n,rfl,h1⟩:=strk_ok hh hr
 obtain ⟨kd,j,rfl,h2⟩:=intk_ok h1 hr
 obtain ⟨m,rfl,h3⟩:=natk_ok h2 hr
 obtain ⟨hlt,h4⟩:=ifk_fail h3 hr
 have hlt : m < l:=by simpa [Nat.blt_eq] using hlt
 obtain ⟨s,rfl,e1,e2⟩:=hv.str_inv
 rw [hi.int_inv]
 refine ⟨_,.int .u8 (n / 2 ^ (8 * m) % 256 : Nat),h4,?_,.int _ _⟩
 have hsz:=str_size e1
 have hm : m < s.size:=by omega
 have hb : s[m] = UInt8.ofNat (n / 256 ^ m % 256):=by
  have h5:=dig_get (n:=n) hlt
  rw [← e1] at h5
  have h6 : s.data.toList[m]? = some s[m]:=by
   rw [Array.getElem?_toList,Array.getElem?_eq_getElem (by exact hm)]; rfl
  rw [h6] at h5
  exact Option.some.inj h5
 have hget : s[m]? = some s[m]:=by simp [hm]
 simp only [Instr.index,asIntOf,Sem.run_bind,Sem.run_pure,Result.andThen_ok,run_und ht]
 have h0 : (0 : Int) ≤ (m : Int):=by omega
 rw [if_pos h0,Int.toNat_natCast,hget]
 simp only [Sem.run_pure,hb,pow256]
 simp
end Go.Ev

/- EVALUATOR, 9: parts of values, slice expressions, lengths, comparisons with nil, conversions of numbers. -/
namespace Go.Ev
variable {P : Program}
noncomputable def sFld1 (off : Nat) (x : V) (h : Heap) (k : V→Heap→Res) : Res:=aggk x fun _ l=>nthk l off fun u=>k u h
noncomputable def sFldN (off n : Nat) (x : V) (h : Heap) (k : V→Heap→Res) : Res:=aggk x fun _ l=>takek off l fun _ rest=>takek n rest fun p _=>k (.agg n p) h
theorem VR.agg_inv {ρ : Rho} {n : Nat} {l : List V} {x : Value} (h : VR ρ (.agg n l) x) : ∃ cs : Array Value,x = .agg cs∧VRs ρ l cs.toList∧(∀ y ∈ cs.toList,y.oneCell' = true)∧l.length = n:=by
 cases h with | agg h hc hn=>exact ⟨_,rfl,h,hc,hn⟩
theorem run_part1 {w : World} {t : TypeId} {cs : Array Value} {off : Nat} {v : Value} (ht : scal P t = true) (h : cs[off]? = some v) : (part t cs off).run P w = .ok v w:=by
 simp only [part,Sem.run_bind,run_isAgg_scal ht,Result.andThen_ok,Bool.false_eq_true,if_false,h]; rfl
theorem run_partN {w : World} {t : TypeId} {cs : Array Value} {off n : Nat} (ht : aggr P t = true) (hs : sz P t = some n) : (part t cs off).run P w = .ok (.agg (cs.extract off (off + n))) w:=by
 simp only [part,Sem.run_bind,run_isAgg_aggr ht,Result.andThen_ok,if_true,run_size hs]; rfl
theorem extract_list (cs : Array Value) (off n : Nat) : (cs.extract off (off + n)).toList = (cs.toList.drop off).take n:=by
 rw [Array.toList_extract,List.extract_eq_take_drop]; congr 1; omega
theorem VRs.part {ρ : Rho} {l : List V} {cs : Array Value} (h : VRs ρ l cs.toList) (off n : Nat) : VRs ρ ((l.drop off).take n) (cs.extract off (off + n)).toList:=by
 rw [extract_list]; exact (h.drop off).take n
theorem sFld1_ok {off : Nat} {x : V} {h : Heap} {k : V→Heap→Res} {r : Res} (hh : sFld1 off x h k = r) (hr : r ≠ .fail) {ρ : Rho} {w : World} (_ : RH P ρ h w) {v : Value} (hv : VR ρ x v)
 {s : TypeId} {i : Nat} {fields : Array Field} {f : Field} (hs : P.underlying s = some (.struct fields)) (hf : fields[i]? = some f) (ho : f.offset = off) (ht : scal P f.type = true) :
 OkP P ρ h w (Instr.field s v i) k r:=by
 obtain ⟨n,l,rfl,h1⟩:=aggk_ok hh hr
 obtain ⟨u,h2,h3⟩:=nthk_ok h1 hr
 obtain ⟨cs,rfl,h4,h5,h6⟩:=hv.agg_inv
 obtain ⟨y,h7,h8⟩:=h4.get h2
 refine ⟨u,y,h3,?_,h8⟩
 simp only [Instr.field,Sem.run_bind,run_und hs,Result.andThen_ok,hf,asAgg,Sem.run_pure,ho]
 exact run_part1 ht (by rw [← h7]; simp)
theorem sFldN_ok {off n : Nat} {x : V} {h : Heap} {k : V→Heap→Res} {r : Res} (hh : sFldN off n x h k = r) (hr : r ≠ .fail) {ρ : Rho} {w : World} (_ : RH P ρ h w) {v : Value} (hv : VR ρ x v)
 {s : TypeId} {i : Nat} {fields : Array Field} {f : Field} (hs : P.underlying s = some (.struct fields)) (hf : fields[i]? = some f) (ho : f.offset = off) (ht : aggr P f.type = true)
 (hn : sz P f.type = some n) : OkP P ρ h w (Instr.field s v i) k r:=by
 obtain ⟨m,l,rfl,h1⟩:=aggk_ok hh hr
 obtain ⟨h2,h3⟩:=takek_ok h1 hr
 obtain ⟨h4,h5⟩:=takek_ok h3 hr
 obtain ⟨cs,rfl,h6,h7,h8⟩:=hv.agg_inv
 refine ⟨_,.agg (cs.extract off (off + n)),h5,?_,.agg (h6.part off n) ?_ ?_⟩
 · simp only [Instr.field,Sem.run_bind,run_und hs,Result.andThen_ok,hf,asAgg,Sem.run_pure,ho]
   exact run_partN ht hn
 · intro y hy
   rw [extract_list] at hy
   exact h7 y (List.mem_of_mem_drop (List.mem_of_mem_take hy))
 · simp only [List.length_take]; omega
noncomputable def sIdxA (n sz : Nat) (x i : V) (h : Heap) (k : V→Heap→Res) : Res:=
 aggk x fun _ l=>intk i fun _ j=>natk j fun m=>ifk (Nat.blt m n) (nthk l (Nat.mul m sz) fun u=>k u h) .fail
theorem sIdxA_ok {n s0 : Nat} {x i : V} {h : Heap} {k : V→Heap→Res} {r : Res} (hh : sIdxA n s0 x i h k = r) (hr : r ≠ .fail) {ρ : Rho} {w : World} (_ : RH P ρ h w) {v iv : Value}
 (hv : VR ρ x v) (hi : VR ρ i iv) {t e : TypeId} (ht : P.underlying t = some (.array n e)) (hs : sz P e = some s0) (he : scal P e = true) : OkP P ρ h w (Instr.index t v iv) k r:=by
 obtain ⟨m0,l,rfl,h1⟩:=aggk_ok hh hr
 obtain ⟨kd,j,rfl,h2⟩:=intk_ok h1 hr
 obtain ⟨m,rfl,h3⟩:=natk_ok h2 hr
 obtain ⟨hlt,h4⟩:=ifk_fail h3 hr
 have hlt : m < n:=by simpa [Nat.blt_eq] using hlt
 obtain ⟨u,h5,h6⟩:=nthk_ok h4 hr
 obtain ⟨cs,rfl,h7,h8,h9⟩:=hv.agg_inv
 obtain ⟨y,h10,h11⟩:=h7.get h5
 rw [hi.int_inv]
 refine ⟨u,y,h6,?_,h11⟩
 have hb1 : (0 : Int) ≤ (m : Int)∧(m : Int) < (n : Int):=⟨by omega,by omega⟩
 simp only [Instr.index,asIntOf,Sem.run_bind,Sem.run_pure,Result.andThen_ok,run_und ht]
 rw [if_pos hb1]
 simp only [Sem.run_bind,run_size hs,Result.andThen_ok,Int.toNat_natCast]
 exact run_part1 he (by rw [← h10]; simp)
noncomputable def sExtract (i : Nat) (x : V) (h : Heap) (k : V→Heap→Res) : Res:=tupk x fun l=>nthk l i fun u=>k u h
theorem sExtract_ok {i : Nat} {x : V} {h : Heap} {k : V→Heap→Res} {r : Res} (hh : sExtract i x h k = r) (hr : r ≠ .fail) {ρ : Rho} {w : World} (_ : RH P ρ h w) {v : Value} (hv : VR ρ x v) :
 OkP P ρ h w (Instr.extract v i) k r:=by
 obtain ⟨l,rfl,h1⟩:=tupk_ok hh hr
 obtain ⟨u,h2,h3⟩:=nthk_ok h1 hr
 cases hv with
 | tup hl=>
   rename_i cs
   obtain ⟨y,h4,h5⟩:=hl.get h2
   have h4' : cs[i]? = some y:=by rw [← h4]; simp
   exact ⟨u,y,h3,by simp only [Instr.extract,h4']; rfl,h5⟩
noncomputable def sNil (x : V) (h : Heap) (k : V→Heap→Res) : Res:=ptrk x fun b o=>k (.ptr b o) h
noncomputable def lenk (x : V) (k : Nat→Res) : Res:=slk x (fun _ _ l _ _=>k l) (k 0) (k 0)
noncomputable def sLen (x : V) (h : Heap) (k : V→Heap→Res) : Res:=lenk x fun l=>k (.int .i64 (.ofNat l)) h
theorem sLen_ok {x : V} {h : Heap} {k : V→Heap→Res} {r : Res} (hh : sLen x h k = r) (hr : r ≠ .fail) {ρ : Rho} {w : World} (_ : RH P ρ h w) {v : Value} (hv : VR ρ x v) {t e u : TypeId}
 {more : Array TypeId} (ht : more[0]? = some t) (hu : P.underlying t = some (.slice e)) : OkP P ρ h w (Builtin.len_ more u #[v]) k r:=by
 rcases slk_ok (show slk x (fun _ _ l _ _=>k (.int .i64 (.ofNat l)) h) (k (.int .i64 (.ofNat 0)) h) (k (.int .i64 (.ofNat 0)) h) = r from hh) hr with ⟨b,o,l,cp,s,rfl,h1⟩ | ⟨rfl,h1⟩ | ⟨rfl,h1⟩
 · obtain ⟨c,z,S,cap,hb,_,_,_,rfl⟩:=hv.slice_inv
   exact ⟨_,.int .i64 l,h1,by simp [Builtin.len_,ht,run_und hu,goInt],.int _ _⟩
 · rw [hv.nils_inv]
   exact ⟨_,.int .i64 0,h1,by simp [Builtin.len_,ht,run_und hu,goInt],.int _ _⟩
 · cases hv with
   | emp a cap=>exact ⟨_,.int .i64 0,h1,by simp [Builtin.len_,ht,run_und hu,goInt],.int _ _⟩
noncomputable def sLenS (x : V) (h : Heap) (k : V→Heap→Res) : Res:=strk x fun l _=>k (.int .i64 (.ofNat l)) h
theorem sLenS_ok {x : V} {h : Heap} {k : V→Heap→Res} {r : Res} (hh : sLenS x h k = r) (hr : r ≠ .fail) {ρ : Rho} {w : World} (_ : RH P ρ h w) {v : Value} (hv : VR ρ x v) {t u : TypeId}
 {more : Array TypeId} (ht : more[0]? = some t) (hu : P.underlying t = some .string) : OkP P ρ h w (Builtin.len_ more u #[v]) k r:=by
 obtain ⟨l,n,rfl,h1⟩:=strk_ok hh hr
 obtain ⟨s,rfl,e1,e2⟩:=hv.str_inv
 exact ⟨_,.int .i64 l,h1,by simp [Builtin.len_,ht,run_und hu,goInt,str_size e1],.int _ _⟩
noncomputable def sConvI (kd : IntKind) (x : V) (h : Heap) (k : V→Heap→Res) : Res:=intk x fun _ n=>wrapk kd n fun m=>k (.int kd m) h
theorem sConvI_ok {kd : IntKind} {x : V} {h : Heap} {k : V→Heap→Res} {r : Res} (hh : sConvI kd x h k = r) (hr : r ≠ .fail) {ρ : Rho} {w : World} (_ : RH P ρ h w) {v : Value} (hv : VR ρ x v)
 {s d : TypeId} {u : TypeDesc} (hs : P.underlying s = some u) (hd : P.underlying d = some (.int kd)) : OkP P ρ h w (convert s d v) k r:=by
 obtain ⟨k0,n,rfl,h1⟩:=intk_ok hh hr
 rw [wrapk_eq] at h1
 rw [hv.int_inv]
 exact ⟨_,.int kd (kd.wrap n),h1,by simp only [convert,Sem.run_bind,run_und hs,run_und hd,Result.andThen_ok]; rfl,.int _ _⟩
noncomputable def sConvS (x : V) (h : Heap) (k : V→Heap→Res) : Res:=strk x fun l n=>k (.str l n) h
theorem sConvS_ok {x : V} {h : Heap} {k : V→Heap→Res} {r : Res} (hh : sConvS x h k = r) (hr : r ≠ .fail) {ρ : Rho} {w : World} (_ : RH P ρ h w) {v : Value} (hv : VR ρ x v)
 {s d : TypeId} {u : TypeDesc} (hs : P.underlying s = some u) (hd : P.underlying d = some .string) : OkP P ρ h w (convert s d v) k r:=by
 obtain ⟨l,n,rfl,h1⟩:=strk_ok hh hr
 obtain ⟨sx,rfl,e1,e2⟩:=hv.str_inv
 refine ⟨_,.string sx,h1,?_,.str e1 e2⟩
 simp only [convert,Sem.run_bind,run_und hs,run_und hd,Result.andThen_ok]
 cases u <;> rfl
noncomputable def sNeg (x : V) (h : Heap) (k : V→Heap→Res) : Res:=intk x fun kd n=>wrapk kd (Int.sub 0 n) fun m=>k (.int kd m) h
noncomputable def sNot (x : V) (h : Heap) (k : V→Heap→Res) : Res:=boolk x fun b=>bk (not b) fun u=>k u h
noncomputable def kone (k : IntKind) : Bool:=IntKind.rec (motive:=fun _=>Bool) true true true true false false false false k
noncomputable def comv (kd : IntKind) (n : Int) : Int:=
 Bool.rec (motive:=fun _=>Int) (Int.rec (motive:=fun _=>Int) (fun m=>Bool.rec (motive:=fun _=>Int) (kd.wrap (BitVec.ofInt kd.bits (if kd.signed then -1 else kd.max) ^^^ BitVec.ofInt kd.bits (.ofNat m)).toNat)
  (.ofNat (Nat.sub (kmax kd) m)) (Nat.ble m (kmax kd))) (fun m=>kd.wrap (BitVec.ofInt kd.bits (if kd.signed then -1 else kd.max) ^^^ BitVec.ofInt kd.bits (.negSucc m)).toNat) n)
  (kd.wrap (BitVec.ofInt kd.bits (if kd.signed then -1 else kd.max) ^^^ BitVec.ofInt kd.bits n).toNat) (kone kd)
theorem comv_key (b m : Nat) (kd : IntKind) (hm : m < 2 ^ b) (key : ∀ _ : m < 2 ^ b,((BitVec.ofInt b ((2 ^ b - 1 : Nat) : Int)) ^^^ BitVec.ofInt b (.ofNat m)).toNat = 2 ^ b - 1 - m)
 (h1 : kd.bits = b) (h2 : kd.signed = false) (h3 : kd.max = ((2 ^ b - 1 : Nat) : Int)) (h4 : kmax kd = 2 ^ b - 1) :
 Int.ofNat (kmax kd - m) = kd.wrap (BitVec.ofInt kd.bits (if kd.signed then -1 else kd.max) ^^^ BitVec.ofInt kd.bits (.ofNat m)).toNat:=by
 subst h1
 rw [h2,h3,h4]
 simp only [Bool.false_eq_true,if_false]
 rw [key hm]
 exact (wrap_small kd _ (by have : kmin kd = 0:=by cases kd <;> first | rfl | simp [IntKind.signed] at h2
                            rw [this]; simp only [Int.ofNat_eq_natCast]; omega) (by rw [h4]; simp only [Int.ofNat_eq_natCast]; omega)).symm
theorem comv_eq (kd : IntKind) (n : Int) : comv kd n = kd.wrap (BitVec.ofInt kd.bits (if kd.signed then -1 else kd.max) ^^^ BitVec.ofInt kd.bits n).toNat:=by
 unfold comv
 cases hk : kone kd with
 | true=>rfl
 | false=>
   cases n with
   | negSucc m=>rfl
   | ofNat m=>
     show Bool.rec (motive:=fun _=>Int) _ (Int.ofNat (kmax kd - m)) (Nat.ble m (kmax kd)) = _
     cases h : Nat.ble m (kmax kd) with
     | false=>rfl
     | true=>
       have h:=Nat.le_of_ble_eq_true h
       have key : ∀ (b : Nat) (_ : m < 2 ^ b),((BitVec.ofInt b ((2 ^ b - 1 : Nat) : Int)) ^^^ BitVec.ofInt b (.ofNat m)).toNat = 2 ^ b - 1 - m:=by
        intro b hm
        rw [BitVec.toNat_xor,ofInt_toNat hm]
        have : (BitVec.ofInt b ((2 ^ b - 1 : Nat) : Int)).toNat = 2 ^ b - 1:=ofInt_toNat (m:=2 ^ b - 1) (by have:=Nat.two_pow_pos b; omega)
        rw [this,Nat.xor_comm]
        apply Nat.eq_of_testBit_eq
        intro i
        rw [Nat.testBit_xor,Nat.testBit_two_pow_sub_one]
        have e : 2 ^ b - 1 - m = 2 ^ b - (m + 1):=by omega
        rw [e,Nat.testBit_two_pow_sub_succ hm]
        by_cases hi : i < b
        · simp [hi]
        · simp [hi]
          exact Nat.testBit_lt_two_pow (Nat.lt_of_lt_of_le hm (Nat.pow_le_pow_right (by omega) (by omega)))
       cases kd <;> first
        | (simp [kone] at hk; done)
        | skip
       case u8=>exact comv_key 8 m .u8 (by simpa [kmax] using Nat.lt_succ_of_le h) (key 8) rfl rfl rfl rfl
       case u16=>exact comv_key 16 m .u16 (by simpa [kmax] using Nat.lt_succ_of_le h) (key 16) rfl rfl rfl rfl
       case u32=>exact comv_key 32 m .u32 (by simpa [kmax] using Nat.lt_succ_of_le h) (key 32) rfl rfl rfl rfl
       case u64=>exact comv_key 64 m .u64 (by simpa [kmax] using Nat.lt_succ_of_le h) (key 64) rfl rfl rfl rfl
noncomputable def sCom (x : V) (h : Heap) (k : V→Heap→Res) : Res:=
 intk x fun kd n=>k (.int kd (comv kd n)) h
theorem sNeg_ok {x : V} {h : Heap} {k : V→Heap→Res} {r : Res} (hh : sNeg x h k = r) (hr : r ≠ .fail) {ρ : Rho} {w : World} (_ : RH P ρ h w) {v : Value} (hv : VR ρ x v) :
 OkP P ρ h w (Op.unary .neg v) k r:=by
 obtain ⟨kd,n,rfl,h1⟩:=intk_ok hh hr
 rw [wrapk_eq] at h1
 rw [hv.int_inv]
 exact ⟨_,.int kd (kd.wrap (0 - n)),h1,rfl,.int _ _⟩
theorem sNot_ok {x : V} {h : Heap} {k : V→Heap→Res} {r : Res} (hh : sNot x h k = r) (hr : r ≠ .fail) {ρ : Rho} {w : World} (_ : RH P ρ h w) {v : Value} (hv : VR ρ x v) :
 OkP P ρ h w (Op.unary .not v) k r:=by
 obtain ⟨b,rfl,h1⟩:=boolk_ok hh hr
 rw [bk_eq] at h1
 cases hv
 exact ⟨_,.bool (!b),h1,rfl,.bool _⟩
theorem sCom_ok {x : V} {h : Heap} {k : V→Heap→Res} {r : Res} (hh : sCom x h k = r) (hr : r ≠ .fail) {ρ : Rho} {w : World} (_ : RH P ρ h w) {v : Value} (hv : VR ρ x v) :
 OkP P ρ h w (Op.unary .xor v) k r:=by
 obtain ⟨kd,n,rfl,h1⟩:=intk_ok hh hr
 rw [hv.int_inv]
 rw [comv_eq] at h1
 exact ⟨_,_,h1,rfl,.int _ _⟩
noncomputable def notIf (o : BinOp) (b : Bool) (k : V→Res) : Res:=
 BinOp.rec (motive:=fun _=>Res) .fail .fail .fail .fail .fail .fail .fail .fail .fail .fail .fail (bk b k) (bk (not b) k) .fail .fail .fail .fail o
theorem notIf_ok {o : BinOp} {b : Bool} {k : V→Res} {r : Res} (h : notIf o b k = r) (hr : r ≠ .fail) : (o = .eql∧k (.bool b) = r) ∨ (o = .neq∧k (.bool (!b)) = r):=by
 cases o
 case eql=>exact .inl ⟨rfl,by have e:=bk_eq b k; rw [← e]; exact h⟩
 case neq=>exact .inr ⟨rfl,by have e:=bk_eq (!b) k; rw [← e]; exact h⟩
 all_goals exact absurd h.symm hr
noncomputable def beqk (a b : Bool) : Bool:=Bool.rec (motive:=fun _=>Bool) (not b) b a
theorem beqk_eq (a b : Bool) : beqk a b = (a == b):=by cases a <;> cases b <;> rfl
noncomputable def binB (o : BinOp) (x y : V) (k : V→Res) : Res:=boolk x fun a=>boolk y fun b=>notIf o (beqk a b) k
noncomputable def binN (d : V→(Bool→Res)→Res) (o : BinOp) (x y : V) (k : V→Res) : Res:=
 d x fun a=>d y fun b=>ifk a (notIf o b k) (ifk b (notIf o false k) .fail)
theorem eqop_ok {o : BinOp} {e : Bool} {k : V→Res} {r : Res} (h : notIf o e k = r) (hr : r ≠ .fail) {ρ : Rho} {t : TypeId} {a b : Value} {X Y : Operand} {w : World}
 (hg : (eqGuard o t X Y a b).run P w = .ok () w) (he : (Op.equal t a b).run P w = .ok e w)
 (h1 : binOp .eql t a b = do pure (.bool (← Op.equal t a b))) (h2 : binOp .neq t a b = do pure (.bool (!(← Op.equal t a b)))) :
 ∃ u z,k u = r∧(do eqGuard o t X Y a b; binOp o t a b : Sem Value).run P w = .ok z w∧VR ρ u z∧z.oneCell' = true:=by
 rcases notIf_ok h hr with ⟨rfl,h3⟩ | ⟨rfl,h3⟩
 · exact ⟨_,.bool e,h3,by simp only [Sem.run_bind,hg,Result.andThen_ok,h1,he,Sem.run_pure],.bool _,rfl⟩
 · exact ⟨_,.bool (!e),h3,by simp only [Sem.run_bind,hg,Result.andThen_ok,h2,he,Sem.run_pure],.bool _,rfl⟩
theorem run_equal_of {t : TypeId} {a b : Value} {w : World} {x : Result Bool} (h : ∀ d,(Op.equalIn (d + 1) t a b).run P w = x) : (Op.equal t a b).run P w = x:=h 9999
theorem binB_ok {o : BinOp} {x y : V} {k : V→Res} {r : Res} (h : binB o x y k = r) (hr : r ≠ .fail) {ρ : Rho} {a b : Value} (ha : VR ρ x a) (hb : VR ρ y b) {t : TypeId}
 (ht : P.underlying t = some .bool) (X Y : Operand) (w : World) :
 ∃ u z,k u = r∧(do eqGuard o t X Y a b; binOp o t a b : Sem Value).run P w = .ok z w∧VR ρ u z∧z.oneCell' = true:=by
 obtain ⟨p,rfl,h1⟩:=boolk_ok h hr
 obtain ⟨q,rfl,h2⟩:=boolk_ok h1 hr
 cases ha; cases hb
 refine eqop_ok h2 hr (by unfold eqGuard; cases o <;> rfl) ?_ rfl rfl
 rw [beqk_eq]
 exact run_equal_of fun d=>by simp [Op.equalIn,run_und ht]
theorem pnk_ok {x : V} {k : Bool→Res} {r : Res} (h : pnk x k = r) (hr : r ≠ .fail) {ρ : Rho} {v : Value} (hv : VR ρ x v) : (v = .pointer none∧k true = r) ∨ (∃ a,v = .pointer (some a)∧k false = r):=by
 cases x <;> first | exact absurd h.symm hr | (cases hv; first | exact .inl ⟨rfl,h⟩ | exact .inr ⟨_,rfl,h⟩)
theorem snk_ok {x : V} {k : Bool→Res} {r : Res} (h : snk x k = r) (hr : r ≠ .fail) {ρ : Rho} {v : Value} (hv : VR ρ x v) : (v = .slice none 0 0∧k true = r) ∨ (∃ a l c,v = .slice (some a) l c∧k false = r):=by
 cases x <;> first | exact absurd h.symm hr | (cases hv; first | exact .inl ⟨rfl,h⟩ | exact .inr ⟨_,_,_,rfl,h⟩)
theorem mnk_ok {x : V} {k : Bool→Res} {r : Res} (h : mnk x k = r) (hr : r ≠ .fail) {ρ : Rho} {v : Value} (hv : VR ρ x v) : (v = .map none∧k true = r) ∨ (∃ a,v = .map (some a)∧k false = r):=by
 cases x <;> first | exact absurd h.symm hr | (cases hv; first | exact .inl ⟨rfl,h⟩ | exact .inr ⟨_,rfl,h⟩)
theorem fnk0_ok {x : V} {k : Bool→Res} {r : Res} (h : fnk0 x k = r) (hr : r ≠ .fail) {ρ : Rho} {v : Value} (hv : VR ρ x v) : (v = .nilFunc∧k true = r) ∨ (∃ f a c,v = .func f a c∧k false = r):=by
 cases x <;> first | exact absurd h.symm hr | (cases hv <;> first | exact .inl ⟨rfl,h⟩ | exact .inr ⟨_,_,_,rfl,h⟩)
theorem ink_ok {x : V} {k : Bool→Res} {r : Res} (h : ink x k = r) (hr : r ≠ .fail) {ρ : Rho} {v : Value} (hv : VR ρ x v) : (v = .nilIface∧k true = r) ∨ (∃ t y,v = .iface t y∧k false = r):=by
 cases x <;> first | exact absurd h.symm hr | (cases hv; first | exact .inl ⟨rfl,h⟩ | exact .inr ⟨_,_,rfl,h⟩)
theorem eql_shape {t : TypeId} {a b : Value} (h : match a,b with
 | .int _ _,.int _ _ | .float _ _,.float _ _ | .complex _ _ _,.complex _ _ _ | .string _,.string _=>False
 | _,_=>True) : binOp .eql t a b = (do pure (.bool (← Op.equal t a b)))∧binOp .neq t a b = (do pure (.bool (!(← Op.equal t a b)))):=by
 cases a <;> cases b <;> first | exact h.elim | exact ⟨rfl,rfl⟩
theorem binNP_ok {o : BinOp} {x y : V} {k : V→Res} {r : Res} (h : binN pnk o x y k = r) (hr : r ≠ .fail) {ρ : Rho} {a b : Value} (ha : VR ρ x a) (hb : VR ρ y b) {t e : TypeId}
 (ht : P.underlying t = some (.pointer e)) (X Y : Operand) (w : World) :
 ∃ u z,k u = r∧(do eqGuard o t X Y a b; binOp o t a b : Sem Value).run P w = .ok z w∧VR ρ u z∧z.oneCell' = true:=by
 rcases pnk_ok h hr ha with ⟨rfl,h1⟩ | ⟨p,rfl,h1⟩ <;> rcases pnk_ok h1 hr hb with ⟨rfl,h2⟩ | ⟨q,rfl,h2⟩
 · exact eqop_ok (e:=true) h2 hr (by unfold eqGuard; cases o <;> rfl) (by exact run_equal_of fun d=>by simp [Op.equalIn,run_und ht]) (eql_shape trivial).1 (eql_shape trivial).2
 · exact eqop_ok (e:=false) h2 hr (by unfold eqGuard; cases o <;> rfl) (by exact run_equal_of fun d=>by simp [Op.equalIn,run_und ht]) (eql_shape trivial).1 (eql_shape trivial).2
 · exact eqop_ok (e:=false) h2 hr (by unfold eqGuard; cases o <;> rfl) (by exact run_equal_of fun d=>by simp [Op.equalIn,run_und ht]) (eql_shape trivial).1 (eql_shape trivial).2
 · exact absurd (show Res.fail = r from h2).symm hr
theorem binNS_ok {o : BinOp} {x y : V} {k : V→Res} {r : Res} (h : binN snk o x y k = r) (hr : r ≠ .fail) {ρ : Rho} {a b : Value} (ha : VR ρ x a) (hb : VR ρ y b) {t e : TypeId}
 (ht : P.underlying t = some (.slice e)) (X Y : Operand) (w : World) :
 ∃ u z,k u = r∧(do eqGuard o t X Y a b; binOp o t a b : Sem Value).run P w = .ok z w∧VR ρ u z∧z.oneCell' = true:=by
 rcases snk_ok h hr ha with ⟨rfl,h1⟩ | ⟨p,l,c,rfl,h1⟩ <;> rcases snk_ok h1 hr hb with ⟨rfl,h2⟩ | ⟨q,l',c',rfl,h2⟩
 · exact eqop_ok (e:=true) h2 hr (by unfold eqGuard; cases o <;> rfl) (by exact run_equal_of fun d=>by simp [Op.equalIn,run_und ht]) (eql_shape trivial).1 (eql_shape trivial).2
 · exact eqop_ok (e:=false) h2 hr (by unfold eqGuard; cases o <;> rfl) (by exact run_equal_of fun d=>by simp [Op.equalIn,run_und ht]) (eql_shape trivial).1 (eql_shape trivial).2
 · exact eqop_ok (e:=false) h2 hr (by unfold eqGuard; cases o <;> rfl) (by exact run_equal_of fun d=>by simp [Op.equalIn,run_und ht]) (eql_shape trivial).1 (eql_shape trivial).2
 · exact absurd (show Res.fail = r from h2).symm hr
theorem binNM_ok {o : BinOp} {x y : V} {k : V→Res} {r : Res} (h : binN mnk o x y k = r) (hr : r ≠ .fail) {ρ : Rho} {a b : Value} (ha : VR ρ x a) (hb : VR ρ y b) {t e e' : TypeId}
 (ht : P.underlying t = some (.map e e')) (X Y : Operand) (w : World) :
 ∃ u z,k u = r∧(do eqGuard o t X Y a b; binOp o t a b : Sem Value).run P w = .ok z w∧VR ρ u z∧z.oneCell' = true:=by
 rcases mnk_ok h hr ha with ⟨rfl,h1⟩ | ⟨p,rfl,h1⟩ <;> rcases mnk_ok h1 hr hb with ⟨rfl,h2⟩ | ⟨q,rfl,h2⟩
 · exact eqop_ok (e:=true) h2 hr (by unfold eqGuard; cases o <;> rfl) (by exact run_equal_of fun d=>by simp [Op.equalIn,run_und ht]) (eql_shape trivial).1 (eql_shape trivial).2
 · exact eqop_ok (e:=false) h2 hr (by unfold eqGuard; cases o <;> rfl) (by exact run_equal_of fun d=>by simp [Op.equalIn,run_und ht]) (eql_shape trivial).1 (eql_shape trivial).2
 · exact eqop_ok (e:=false) h2 hr (by unfold eqGuard; cases o <;> rfl) (by exact run_equal_of fun d=>by simp [Op.equalIn,run_und ht]) (eql_shape trivial).1 (eql_shape trivial).2
 · exact absurd (show Res.fail = r from h2).symm hr
theorem binNF_ok {o : BinOp} {x y : V} {k : V→Res} {r : Res} (h : binN fnk0 o x y k = r) (hr : r ≠ .fail) {ρ : Rho} {a b : Value} (ha : VR ρ x a) (hb : VR ρ y b) {t : TypeId}
 {ps rs : Array TypeId} {v : Bool} (ht : P.underlying t = some (.func ps rs v)) (X Y : Operand) (w : World) :
 ∃ u z,k u = r∧(do eqGuard o t X Y a b; binOp o t a b : Sem Value).run P w = .ok z w∧VR ρ u z∧z.oneCell' = true:=by
 rcases fnk0_ok h hr ha with ⟨rfl,h1⟩ | ⟨p,l,c,rfl,h1⟩ <;> rcases fnk0_ok h1 hr hb with ⟨rfl,h2⟩ | ⟨q,l',c',rfl,h2⟩
 · exact eqop_ok (e:=true) h2 hr (by unfold eqGuard; cases o <;> rfl) (by exact run_equal_of fun d=>by simp [Op.equalIn,run_und ht]) (eql_shape trivial).1 (eql_shape trivial).2
 · exact eqop_ok (e:=false) h2 hr (by unfold eqGuard; cases o <;> rfl) (by exact run_equal_of fun d=>by simp [Op.equalIn,run_und ht]) (eql_shape trivial).1 (eql_shape trivial).2
 · exact eqop_ok (e:=false) h2 hr (by unfold eqGuard; cases o <;> rfl) (by exact run_equal_of fun d=>by simp [Op.equalIn,run_und ht]) (eql_shape trivial).1 (eql_shape trivial).2
 · exact absurd (show Res.fail = r from h2).symm hr
theorem binNI_ok {o : BinOp} {x y : V} {k : V→Res} {r : Res} (h : binN ink o x y k = r) (hr : r ≠ .fail) {ρ : Rho} {a b : Value} (ha : VR ρ x a) (hb : VR ρ y b) {t : TypeId}
 {ms : Array (String × TypeId)} (ht : P.underlying t = some (.interface ms)) (X Y : Operand) (hc : ∃ u,Y = .const u) (w : World) :
 ∃ u z,k u = r∧(do eqGuard o t X Y a b; binOp o t a b : Sem Value).run P w = .ok z w∧VR ρ u z∧z.oneCell' = true:=by
 obtain ⟨yc,rfl⟩:=hc
 rcases ink_ok h hr ha with ⟨rfl,h1⟩ | ⟨p,l,rfl,h1⟩ <;> rcases ink_ok h1 hr hb with ⟨rfl,h2⟩ | ⟨q,l',rfl,h2⟩
 · refine eqop_ok (e:=true) h2 hr ?_ (by exact run_equal_of fun d=>by simp [Op.equalIn,run_und ht]) (eql_shape trivial).1 (eql_shape trivial).2
   unfold eqGuard; cases o <;> cases X <;> rfl
 · exact eqop_ok (e:=false) h2 hr (by unfold eqGuard; cases o <;> rfl) (by exact run_equal_of fun d=>by simp [Op.equalIn,run_und ht]) (eql_shape trivial).1 (eql_shape trivial).2
 · exact eqop_ok (e:=false) h2 hr (by unfold eqGuard; cases o <;> rfl) (by exact run_equal_of fun d=>by simp [Op.equalIn,run_und ht]) (eql_shape trivial).1 (eql_shape trivial).2
 · exact absurd (show Res.fail = r from h2).symm hr
end Go.Ev

/- EVALUATOR, 10: values that are made of parts; new blocks. -/
namespace Go.Ev
variable {P : Program}
noncomputable def partsk (x : V) (k : Nat→List V→Res) : Res:=
 V.rec (motive_1:=fun _=>(Nat→List V→Res)→V→Res) (motive_2:=fun _=>PUnit) (fun _ _=>.fail) (fun _ _=>.fail) (fun _ k x=>k 1 [x]) (fun _ _ k x=>k 1 [x]) (fun _ _ k x=>k 1 [x])
  (fun k x=>k 1 [x]) (fun _ _ k x=>k 1 [x]) (fun k x=>k 1 [x]) (fun _ _ _ _ _ k x=>k 1 [x]) (fun k x=>k 1 [x]) (fun k x=>k 1 [x]) (fun _ k x=>k 1 [x]) (fun k x=>k 1 [x])
  (fun _ _ _ k x=>k 1 [x]) (fun k x=>k 1 [x]) (fun _ _ _ k x=>k 1 [x]) (fun n l _ k _=>k n l) (fun _ _ _ _=>.fail) PUnit.unit (fun _ _ _ _=>PUnit.unit) x k x
theorem partsk_ok {x : V} {k : Nat→List V→Res} {r : Res} (h : partsk x k = r) (hr : r ≠ .fail) {ρ : Rho} {v : Value} (hv : VR ρ x v) :
 ∃ n l,k n l = r∧VRs ρ l v.cells.toList∧l.length = n∧∀ y ∈ v.cells.toList,y.oneCell' = true:=by
 cases x
 case agg n l=>
  obtain ⟨cs,rfl,h1,h2,h3⟩:=hv.agg_inv
  exact ⟨n,l,h,h1,h3,h2⟩
 case und=>exact absurd h.symm hr
 case skip=>exact absurd h.symm hr
 case tup l=>exact absurd h.symm hr
 all_goals
  refine ⟨1,[_],h,?_,rfl,?_⟩
  · have hv':=hv; cases hv <;> exact .cons hv' .nil
  · cases hv <;> (intro y hy; simp [Value.cells] at hy; subst hy; rfl)
noncomputable def fillk (ps : List (Nat × Nat × V)) : List V→(List V→Res)→Res:=
 List.rec (motive:=fun _=>List V→(List V→Res)→Res) (fun cur k=>k cur)
  (fun p _ ih cur k=>Prod.rec (motive:=fun _=>Res) (fun off q=>Prod.rec (motive:=fun _=>Res) (fun n x=>
    partsk x fun m l=>ifk (Nat.beq m n) (takek off cur fun a rest=>takek n rest fun _ b=>appk l b fun c=>appk a c fun cur'=>ih cur' k) .fail) q) p) ps
theorem foldl_set (off : Nat) : ∀ (xs : List Value) (i : Nat) (cs : Array Value) (j : Nat),
 ((xs.zipIdx i).foldl (fun cs (c,j)=>cs.setIfInBounds (off + j) c) cs)[j]? = if off + i ≤ j∧j < off + i + xs.length∧j < cs.size then xs[j - (off + i)]? else cs[j]?
 | [],i,cs,j=>by rw [if_neg (by simp only [List.length_nil]; omega)]; rfl
 | x :: xs,i,cs,j=>by
   rw [List.zipIdx_cons,List.foldl_cons,foldl_set off xs (i + 1)]
   simp only [Array.size_setIfInBounds,List.length_cons]
   by_cases h : off + i ≤ j∧j < off + i + (xs.length + 1)∧j < cs.size
   · rw [if_pos h]
     by_cases e : j = off + i
     · subst e
       rw [if_neg (by omega)]
       simp [h.2.2]
     · rw [if_pos (by omega)]
       have : j - (off + i) = (j - (off + (i + 1))) + 1:=by omega
       rw [this,List.getElem?_cons_succ]
   · rw [if_neg h]
     rw [if_neg (by omega)]
     by_cases e : off + i = j
     · subst e
       have hge : cs.size ≤ off + i:=by omega
       rw [Array.setIfInBounds_eq_of_size_le hge]
     · rw [Array.getElem?_setIfInBounds_ne e]
theorem foldl_size (off : Nat) : ∀ (xs : List Value) (i : Nat) (cs : Array Value),((xs.zipIdx i).foldl (fun cs (c,j)=>cs.setIfInBounds (off + j) c) cs).size = cs.size
 | [],_,_=>rfl
 | x :: xs,i,cs=>by rw [List.zipIdx_cons,List.foldl_cons,foldl_size off xs]; simp
def FillR (ρ : Rho) (place : Nat→Option (Nat × Nat)) : List (Nat × Nat × V)→List (Nat × Value)→Prop
 | [],[]=>True
 | (off,n,x) :: ps,(i,v) :: vs=>place i = some (off,n)∧VR ρ x v∧FillR ρ place ps vs
 | _,_=>False
theorem fillk_ok {ρ : Rho} {place : Nat→Option (Nat × Nat)} : ∀ {ps : List (Nat × Nat × V)} {vs : List (Nat × Value)} {cur : List V} {k : List V→Res} {r : Res} {cells : Array Value},fillk ps cur k = r→r ≠ .fail →
 FillR ρ place ps vs→VRs ρ cur cells.toList→(∀ y ∈ cells.toList,y.oneCell' = true) →
 ∃ l cells',k l = r∧Instr.fill place cells vs = some cells'∧VRs ρ l cells'.toList∧(∀ y ∈ cells'.toList,y.oneCell' = true)
 | [],[],cur,k,r,cells,h,_,_,hc,h1=>⟨cur,cells,h,rfl,hc,h1⟩
 | (off,n,x) :: ps,(i,v) :: vs,cur,k,r,cells,h,hr,⟨hp,hx,hf⟩,hc,h1=>by
   change (partsk x fun m l=>ifk (Nat.beq m n) (takek off cur fun a rest=>takek n rest fun _ b=>appk l b fun c=>appk a c fun cur'=>fillk ps cur' k) .fail) = r at h
   obtain ⟨m,l,h2,h3,h4,h5⟩:=partsk_ok h hr hx
   obtain ⟨h6,h7⟩:=ifk_fail h2 hr
   obtain rfl:=Nat.eq_of_beq_eq_true h6
   obtain ⟨h8,h9⟩:=takek_ok h7 hr
   obtain ⟨h10,h11⟩:=takek_ok h9 hr
   rw [appk_eq,appk_eq] at h11
   have hl3:=h3.length
   have hlc:=hc.length
   rw [List.length_drop] at h10
   have hvs : v.cells.size = m:=by simpa using (hl3.symm.trans h4)
   have hcs : cells.size = cur.length:=by simpa using hlc.symm
   let cells1:=v.cells.zipIdx.foldl (fun cs (c,j)=>cs.setIfInBounds (off + j) c) cells
   have hsz1 : cells1.size = cells.size:=by
    show (v.cells.zipIdx.foldl _ cells).size = _
    rw [← Array.foldl_toList,Array.toList_zipIdx]; exact foldl_size off _ _ _
   have hget : ∀ j,cells1[j]? = if off ≤ j∧j < off + m then v.cells[j - off]? else cells[j]?:=by
    intro j
    show (v.cells.zipIdx.foldl _ cells)[j]? = _
    rw [← Array.foldl_toList,Array.toList_zipIdx,foldl_set]
    simp only [Nat.add_zero,Array.length_toList,hvs]
    by_cases hj : off ≤ j∧j < off + m
    · rw [if_pos (by omega),if_pos hj]; simp
    · rw [if_neg (by omega),if_neg hj]
   have hlist : cells1.toList = cells.toList.take off ++ (v.cells.toList ++ (cells.toList.drop off).drop m):=by
    apply List.ext_getElem?
    intro j
    rw [Array.getElem?_toList,hget]
    by_cases hj1 : j < off
    · rw [if_neg (by omega),List.getElem?_append_left (by simp only [List.length_take,Array.length_toList]; omega),List.getElem?_take_of_lt hj1,Array.getElem?_toList]
    · have e1 : (cells.toList.take off).length = off:=by simp only [List.length_take,Array.length_toList]; omega
      rw [List.getElem?_append_right (by omega),e1]
      by_cases hj2 : j < off + m
      · rw [if_pos (by omega),List.getElem?_append_left (by simp only [Array.length_toList]; omega),Array.getElem?_toList]
      · rw [if_neg (by omega),List.getElem?_append_right (by simp only [Array.length_toList]; omega),List.getElem?_drop,List.getElem?_drop,Array.getElem?_toList]
        congr 1; simp only [Array.length_toList]; omega
   have hc1 : VRs ρ (cur.take off ++ (l ++ (cur.drop off).drop m)) cells1.toList:=by
    rw [hlist]; exact (hc.take off).append (h3.append ((hc.drop off).drop m))
   have h11c : ∀ y ∈ cells1.toList,y.oneCell' = true:=by
    intro y hy
    rw [hlist] at hy
    rcases List.mem_append.1 hy with hy | hy
    · exact h1 y (List.mem_of_mem_take hy)
    · rcases List.mem_append.1 hy with hy | hy
      · exact h5 y hy
      · exact h1 y (List.mem_of_mem_drop (List.mem_of_mem_drop hy))
   obtain ⟨l',cells',g1,g2,g3,g4⟩:=fillk_ok h11 hr hf hc1 h11c
   refine ⟨l',cells',g1,?_,g3,g4⟩
   simp only [Instr.fill,hp]
   rw [if_neg ?_]
   · exact g2
   · simp [hvs]; omega
 | [],_ :: _,_,_,_,_,_,_,h,_,_=>h.elim
 | _ :: _,[],_,_,_,_,_,_,h,_,_=>h.elim
noncomputable def chopk (g : Nat) (m : Nat) : Nat→List V→T→(T→Res)→Res:=
 Nat.rec (motive:=fun _=>Nat→List V→T→(T→Res)→Res) (fun _ l t k=>List.rec (motive:=fun _=>Res) (k t) (fun _ _ _=>.fail) l)
  (fun _ ih i l t k=>takek g l fun c rest=>t.setk i c fun t'=>ih (Nat.succ i) rest t' k) m
theorem chopk_ok {g m i : Nat} {l : List V} {t : T} {k : T→Res} {r : Res} (h : chopk g m i l t k = r) (hr : r ≠ .fail) : ∃ t',k t' = r∧l.length = m * g ∧
 ∀ j,t'.get j = if i ≤ j∧j < i + m then some ((l.drop ((j - i) * g)).take g) else t.get j:=by
 induction m generalizing i l t with
 | zero=>
   cases l with
   | nil=>exact ⟨t,h,by simp,fun j=>by rw [if_neg (by omega)]⟩
   | cons v l=>exact absurd h.symm hr
 | succ m ih=>
   change (takek g l fun c rest=>t.setk i c fun t'=>chopk g m (Nat.succ i) rest t' k) = r at h
   obtain ⟨h1,h2⟩:=takek_ok h hr
   obtain ⟨t1,h3,h4⟩:=T.setk_ok h2 hr
   obtain ⟨t',h5,h6,h7⟩:=ih h4
   rw [List.length_drop] at h6
   refine ⟨t',h5,by rw [Nat.succ_mul]; omega,fun j=>?_⟩
   rw [h7,T.get_set h3]
   by_cases e : j = i
   · subst e
     rw [if_neg (by omega),if_pos rfl,if_pos (by omega)]
     simp
   · by_cases hj : i + 1 ≤ j∧j < i + 1 + m
     · rw [if_pos (by simpa using hj),if_pos (by omega)]
       congr 2
       rw [List.drop_drop]
       congr 1
       obtain ⟨d,rfl⟩ : ∃ d,j = i + 1 + d:=⟨j - (i + 1),by omega⟩
       have e1 : i + 1 + d - i.succ = d:=by omega
       have e2 : i + 1 + d - i = d + 1:=by omega
       rw [e1,e2,Nat.succ_mul]; omega
     · rw [if_neg (by simpa using hj),if_neg e,if_neg (by omega)]
noncomputable def rowk (g n : Nat) (l : List V) (k : T→Res) : Res:=ifk (Nat.beq n 1) (takek g l fun _ rest=>List.rec (motive:=fun _=>Res) (k (.lf l)) (fun _ _ _=>.fail) rest) (chopk g n 0 l .e k)
theorem rowk_ok {g n : Nat} {l : List V} {k : T→Res} {r : Res} (h : rowk g n l k = r) (hr : r ≠ .fail) : ∃ t,k t = r∧l.length = n * g ∧
 ∀ (j : Nat) (ch : List V),t.get j = some ch→j < n∧ch = (l.drop (j * g)).take g:=by
 rcases ifk_ne h with ⟨hb,h1⟩ | ⟨_,h1⟩
 · obtain rfl : n = 1:=Nat.eq_of_beq_eq_true hb
   obtain ⟨h2,h3⟩:=takek_ok h1 hr
   cases hd : l.drop g with
   | cons v m=>rw [hd] at h3; exact absurd h3.symm hr
   | nil=>
     rw [hd] at h3
     have : l.length ≤ g:=List.drop_eq_nil_iff.1 hd
     refine ⟨_,h3,by omega,fun j ch hj=>?_⟩
     simp only [T.get] at hj
     split at hj
     · subst j; cases hj; exact ⟨by omega,by rw [Nat.zero_mul,List.drop_zero,List.take_of_length_le this]⟩
     · cases hj
 · obtain ⟨t,h2,h3,h4⟩:=chopk_ok h1 hr
   refine ⟨t,h2,h3,fun j ch hj=>?_⟩
   rw [h4] at hj
   split at hj
   · cases hj; exact ⟨by omega,by simp⟩
   · simp [T.get] at hj
theorem new_cells {ρ : Rho} {h : Heap} {w : World} (rh : RH P ρ h w) {g n : Nat} {t : T} {nx : Bid} (hn : h.nx.next = some nx) (hg : 0 < g) {l : List V} {cs : Array Value} (hl : VRs ρ l (cs.toList.take l.length))
 (h1 : ∀ y ∈ cs.toList,y.oneCell' = true) (hlen : l.length = n * g) (ht : ∀ (j : Nat) (ch : List V),t.get j = some ch→j < n∧ch = (l.drop (j * g)).take g) (el : TypeId) {fz : Nat × Nat}
 (hfz : Thaw fz cs.size g) (hle : l.length ≤ cs.size) :
 RH P (ρ.put h.nx (w.heap.size,0,cs.size)) (h.new (.arr g n t false) nx) { w with heap:=w.heap.push (.cells cs el fz) } ∧
 Ext ρ h w (ρ.put h.nx (w.heap.size,0,cs.size)) (h.new (.arr g n t false) nx) { w with heap:=w.heap.push (.cells cs el fz) }:=by
 refine alloc rh hn (fun g' n' t' ro' e=>?_) (fun es e=>by cases e)
 cases e
 refine ⟨cs,el,fz,hg,rfl,hfz,rfl,by omega,fun j ch hj=>?_⟩
 obtain ⟨h2,h3⟩:=ht j ch hj
 have hjg : (j + 1) * g ≤ n * g:=Nat.mul_le_mul_right g h2
 rw [Nat.succ_mul] at hjg
 refine ⟨h2,by rw [h3]; simp only [List.length_take,List.length_drop]; omega,fun i v hi=>?_⟩
 rw [h3] at hi
 have hig : i < g:=by have:=(List.getElem?_eq_some_iff.1 hi).1; simp only [List.length_take,List.length_drop] at this; omega
 rw [List.getElem?_take_of_lt hig,List.getElem?_drop] at hi
 obtain ⟨x,h4,h5⟩:=hl.get hi
 have hlt : j * g + i < l.length:=by omega
 rw [List.getElem?_take_of_lt hlt,Array.getElem?_toList] at h4
 exact ⟨x,h4,h5,h1 x (by rw [Array.mem_toList_iff]; exact Array.mem_of_getElem? h4)⟩
end Go.Ev

/- EVALUATOR, 11: operations that make memory. -/
namespace Go.Ev
variable {P : Program}
theorem VR.ptr_new (ρ : Rho) (b : Bid) (c S : Nat) : VR (ρ.put b (c,0,S)) (.ptr b 0) (.pointer (some ⟨c,0,none⟩)):=by
 have:=VR.ptr (o:=0) (Rho.put_same ρ b (c,0,S))
 simpa using this
noncomputable def sAlloc (g n : Nat) (t : T) (h : Heap) (k : V→Heap→Res) : Res:=h.newk (.arr g n t false) fun b h'=>k (.ptr b 0) h'
structure ZeroT (P : Program) (t : TypeId) (g n : Nat) (tr : T) (l : List V) (z : Value) : Prop where
 zero : (P.info? t).bind (·.zero) = some z
 vr : ∀ ρ,VRs ρ l z.cells.toList
 one : ∀ y ∈ z.cells.toList,y.oneCell' = true
 pos : 0 < g
 len : l.length = n * g
 get : ∀ (j : Nat) (ch : List V),tr.get j = some ch→j < n∧ch = (l.drop (j * g)).take g
theorem run_zero {w : World} {t : TypeId} {z : Value} (h : (P.info? t).bind (·.zero) = some z) : (zeroValue t).run P w = .ok z w:=by
 obtain ⟨i,h1,h2⟩:=Option.bind_eq_some_iff.1 h
 simp [zeroValue,typeInfo,h1,h2]
theorem sAlloc_ok {g n : Nat} {tr : T} {h : Heap} {k : V→Heap→Res} {r : Res} (hh : sAlloc g n tr h k = r) (hr : r ≠ .fail) {ρ : Rho} {w : World} (rh : RH P ρ h w) {t : TypeId} {l : List V} {z : Value}
 (hz : ZeroT P t g n tr l z) : Ok P ρ h w (Instr.alloc t true (.tuple #[])) k r:=by
 obtain ⟨nx,h1,h2⟩:=Heap.newk_ok hh hr
 have hvr:=hz.vr ρ
 have hlen : l.length = z.cells.size:=by have:=hvr.length; simpa using this
 obtain ⟨h3,h4⟩:=new_cells rh h1 hz.pos (l:=l) (cs:=z.cells) (by rw [List.take_of_length_le (by simp; omega)]; exact hvr) hz.one hz.len hz.get t (fz:=(0,0)) (.inl rfl) (by omega)
 exact ⟨_,_,_,.pointer (some ⟨w.heap.size,0,none⟩),_,h2,by simp [Instr.alloc,run_zero hz.zero,newVar,newRow],VR.ptr_new _ _ _ _,h3,h4⟩
noncomputable def sBox (x : V) (h : Heap) (k : V→Heap→Res) : Res:=partsk x fun n l=>zk n .fail (h.newk (.arr n 1 (.lf l) false) fun b h'=>k (.ptr b 0) h')
theorem zk_pos {n : Nat} {x r : Res} (h : zk n .fail x = r) (hr : r ≠ .fail) : 0 < n∧x = r:=by
 cases n
 · exact absurd h.symm hr
 · exact ⟨by omega,h⟩
theorem sBox_ok {x : V} {h : Heap} {k : V→Heap→Res} {r : Res} (hh : sBox x h k = r) (hr : r ≠ .fail) {ρ : Rho} {w : World} (rh : RH P ρ h w) {v : Value} (hv : VR ρ x v) (t : TypeId) :
 Ok P ρ h w (Instr.box t v) k r:=by
 obtain ⟨n,l,h1,h2,h3,h4⟩:=partsk_ok hh hr hv
 obtain ⟨hn,h5⟩:=zk_pos h1 hr
 obtain ⟨nx,h6,h7⟩:=Heap.newk_ok h5 hr
 have hlen : l.length = v.cells.size:=by have:=h2.length; simpa using this
 obtain ⟨h8,h9⟩:=new_cells rh h6 hn (n:=1) (t:=.lf l) (l:=l) (cs:=v.cells) (by rw [List.take_of_length_le (by simp; omega)]; exact h2) h4 (by omega) (fun j ch hj=>by
  simp only [T.get] at hj
  split at hj
  · subst j; cases hj; exact ⟨by omega,by rw [Nat.zero_mul,List.drop_zero,List.take_of_length_le (by omega)]⟩
  · cases hj) t (fz:=(0,0)) (.inl rfl) (by omega)
 exact ⟨_,_,_,.pointer (some ⟨w.heap.size,0,none⟩),_,h7,by simp [Instr.box,newVar,newRow],VR.ptr_new _ _ _ _,h8,h9⟩
noncomputable def sBuild (n : Nat) (tmpl : List V) (ps : List (Nat × Nat × V)) (h : Heap) (k : V→Heap→Res) : Res:=fillk ps tmpl fun l=>k (.agg n l) h
theorem VRs.len_eq {ρ : Rho} {l : List V} {cs : Array Value} (h : VRs ρ l cs.toList) : l.length = cs.size:=by simpa using h.length
theorem fill_size {place : Nat→Option (Nat × Nat)} : ∀ {vs : List (Nat × Value)} {cells cells' : Array Value},Instr.fill place cells vs = some cells'→cells'.size = cells.size
 | [],cells,cells',h=>by simp only [Instr.fill,Option.some.injEq] at h; rw [h]
 | (i,v) :: vs,cells,cells',h=>by
   simp only [Instr.fill] at h
   split at h
   · cases h
   · split at h
     · cases h
     · rw [fill_size h]
       rw [← Array.foldl_toList,Array.toList_zipIdx]
       exact foldl_size _ _ _ _
def places (P : Program) (fields : Array Field) : Option (Array (Nat × Nat)):=fields.mapM fun f=>(sz P f.type).map fun n=>(f.offset,n)
theorem run_places {w : World} : ∀ {fs : List Field} {l : List (Nat × Nat)},fs.mapM (fun f=>(sz P f.type).map fun n=>(f.offset,n)) = some l →
 (fs.mapM (fun f=>do pure (f.offset,← sizeOf f.type) : Field→Sem (Nat × Nat))).run P w = .ok l w
 | [],l,h=>by simp at h; subst h; rfl
 | f :: fs,l,h=>by
   rw [List.mapM_cons] at h ⊢
   cases hs : sz P f.type with
   | none=>rw [hs] at h; simp at h
   | some n=>
     rw [hs] at h
     simp only [Option.map_some,Option.bind_eq_bind,Option.bind_some] at h
     cases hm : fs.mapM (fun f=>(sz P f.type).map fun n=>(f.offset,n)) with
     | none=>rw [hm] at h; simp at h
     | some m=>
       rw [hm] at h
       simp at h
       subst h
       simp only [Sem.run_bind,run_size hs,Result.andThen_ok,Sem.run_pure,run_places hm]
theorem sBuild_ok {n : Nat} {tmpl : List V} {ps : List (Nat × Nat × V)} {h : Heap} {k : V→Heap→Res} {r : Res} (hh : sBuild n tmpl ps h k = r) (hr : r ≠ .fail) {ρ : Rho} {w : World} (_ : RH P ρ h w)
 {t : TypeId} {z : Value} (hz : (P.info? t).bind (·.zero) = some z) (hzv : VRs ρ tmpl z.cells.toList) (hz1 : ∀ y ∈ z.cells.toList,y.oneCell' = true) (hn : tmpl.length = n)
 {fields : Array Field} {pl : Array (Nat × Nat)} (ht : P.underlying t = some (.struct fields)) (hpl : places P fields = some pl) {vs : Array (Nat × Value)} (hf : FillR ρ (pl[·]?) ps vs.toList) :
 OkP P ρ h w (Instr.build t vs) k r:=by
 obtain ⟨l,cells',h1,h2,h3,h4⟩:=fillk_ok hh hr hf hzv hz1
 have hsz:=fill_size h2
 have e1:=h3.len_eq
 have e2:=hzv.len_eq
 refine ⟨_,.agg cells',h1,?_,.agg h3 h4 (by omega)⟩
 have hpl' : (fields.mapM (fun f=>do pure (f.offset,← sizeOf f.type) : Field→Sem (Nat × Nat))).run P w = .ok pl w:=by
  unfold places at hpl
  rw [Array.mapM_eq_mapM_toList] at hpl ⊢
  cases hm : fields.toList.mapM (fun f=>(sz P f.type).map fun n=>(f.offset,n)) with
  | none=>rw [hm] at hpl; cases hpl
  | some m=>
    rw [hm] at hpl
    cases hpl
    simp only [Sem.run_map,run_places hm,Result.andThen_ok]
 simp only [Instr.build,Sem.run_bind,run_zero hz,Result.andThen_ok,run_und ht,hpl',h2]
 rfl
theorem sBuildA_ok {n : Nat} {tmpl : List V} {ps : List (Nat × Nat × V)} {h : Heap} {k : V→Heap→Res} {r : Res} (hh : sBuild n tmpl ps h k = r) (hr : r ≠ .fail) {ρ : Rho} {w : World} (_ : RH P ρ h w)
 {t : TypeId} {z : Value} (hz : (P.info? t).bind (·.zero) = some z) (hzv : VRs ρ tmpl z.cells.toList) (hz1 : ∀ y ∈ z.cells.toList,y.oneCell' = true) (hn : tmpl.length = n)
 {m s : Nat} {e : TypeId} (ht : P.underlying t = some (.array m e)) (hs : sz P e = some s) {vs : Array (Nat × Value)} (hf : FillR ρ (fun i=>some (i * s,s)) ps vs.toList) :
 OkP P ρ h w (Instr.build t vs) k r:=by
 obtain ⟨l,cells',h1,h2,h3,h4⟩:=fillk_ok hh hr hf hzv hz1
 have hsz:=fill_size h2
 have e1:=h3.len_eq
 have e2:=hzv.len_eq
 refine ⟨_,.agg cells',h1,?_,.agg h3 h4 (by omega)⟩
 simp only [Instr.build,Sem.run_bind,run_zero hz,Result.andThen_ok,run_und ht,run_size hs,h2]
 rfl
noncomputable def sBuildS (g n : Nat) (tmpl : List V) (ps : List (Nat × Nat × V)) (h : Heap) (k : V→Heap→Res) : Res:=
 fillk ps tmpl fun l=>rowk g n l fun t=>h.newk (.arr g n t false) fun b h'=>k (.slice b 0 n (some n) g) h'
theorem VR.slice_new (ρ : Rho) (b : Bid) (c S n g : Nat) {l : Nat} (hl : l ≤ n) : VR (ρ.put b (c,0,S)) (.slice b 0 l (some n) g) (.slice (some ⟨c,0,none⟩) l n):=by
 have:=VR.slice (o:=0) (l:=l) (cp:=some n) (s:=g) (cap:=n) (Rho.put_same ρ b (c,0,S)) (fun m e=>by cases e; rfl) (fun e=>by cases e) hl
 simpa using this
theorem sBuildS_ok {g n : Nat} {tmpl : List V} {ps : List (Nat × Nat × V)} {h : Heap} {k : V→Heap→Res} {r : Res} (hh : sBuildS g n tmpl ps h k = r) (hr : r ≠ .fail) {ρ : Rho} {w : World}
 (rh : RH P ρ h w) {t e : TypeId} (ht : P.underlying t = some (.slice e)) (hg : sz P e = some g) (hpos : 0 < g) (hlim : n * g ≤ 2 ^ 24) {z : Value} (hz : n * g ≠ 0→(P.info? e).bind (·.zero) = some z)
 (hzv : VRs ρ tmpl ((Array.range (n * g)).map ((if n * g = 0 then #[] else z.cells)[· % (if n * g = 0 then #[] else z.cells).size]!)).toList)
 (hz1 : ∀ y ∈ ((Array.range (n * g)).map ((if n * g = 0 then #[] else z.cells)[· % (if n * g = 0 then #[] else z.cells).size]!)).toList,y.oneCell' = true)
 {vs : Array (Nat × Value)} (hf : FillR ρ (fun i=>some (i * g,g)) ps vs.toList) : Ok P ρ h w (Instr.buildSlice t n vs) k r:=by
 obtain ⟨l,cells',h1,h2,h3,h4⟩:=fillk_ok hh hr hf hzv hz1
 obtain ⟨tr,h5,h6,h7⟩:=rowk_ok h1 hr
 obtain ⟨nx,h8,h9⟩:=Heap.newk_ok h5 hr
 have hlen:=h3.len_eq
 obtain ⟨h10,h11⟩:=new_cells rh h8 hpos (l:=l) (cs:=cells') (by rw [List.take_of_length_le (by simp; omega)]; exact h3) h4 h6 h7 e (fz:=(0,0)) (.inl rfl) (by omega)
 refine ⟨_,_,_,.slice (some ⟨w.heap.size,0,none⟩) n n,_,h9,?_,VR.slice_new _ _ _ _ _ _ (Nat.le_refl _),h10,h11⟩
 have hlim' : ¬ n * g > 2 ^ 24:=by omega
 simp only [Instr.buildSlice,Sem.run_bind,run_und ht,Result.andThen_ok,run_size hg,Sem.run_ite]
 rw [if_neg hlim']
 by_cases h0 : n * g = 0
 · rw [if_pos h0]
   simp only [if_pos h0] at h2
   simp only [Sem.run_pure,Result.andThen_ok,h2]
   simp [newRow]
 · rw [if_neg h0]
   simp only [if_neg h0] at h2
   simp only [run_zero (hz h0),Result.andThen_ok,Sem.run_pure,h2]
   simp [newRow]
end Go.Ev
