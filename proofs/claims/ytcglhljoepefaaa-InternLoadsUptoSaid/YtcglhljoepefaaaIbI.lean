/- IbI: texts joined. -/
import Derived.Test.YtcglhljoepefaaaIbD
/- InternBack: what a word is; whether a shape has a value. -/
namespace Go.Ev.WIB
open Go.Proofs
set_option maxRecDepth 100000
section
variable {h : Heap} {p bo bm : Bid} {c : Option Nat} {va vs : V} {cells pv : List V} {sh : List Sh} {L : List Th} {M : List (List Nat × Nat)} {S X : Nat→Prop} {n d : Nat}
theorem TabX.want_no (w : TabX h p bo bm c va vs cells pv sh L M S X) {s : Nat} {b : Int} (hs : s < sh.length) (hw : wantOf sh s b = none) :
 ∃ v,call tabW n (d + 1 + 1) f28 [.ptr p 0,I (.ofNat s),.int .i64 b] h = .ret (.tup [v,.bool false]) h:=by
 obtain ⟨_,_,l2,_⟩:=w.ld
 have ek:=w.kind (n:=n) (d:=d) (.ofNat s)
 have e : kindI sh (.ofNat s) = sh[s].kind:=by simp [kindI,kindOf,List.getElem?_eq_getElem hs]
 rw [e] at ek
 obtain ⟨b',o,m,vf,vc,rfl,k0,k1,k2,r1,r2⟩:=w.at_ hs
 have n3 : Nat.blt s sh.length = true:=blt_of hs
 have k1' : ∀ k,words.load1 h b' (Nat.add (Nat.add o (Nat.mul s 3)) 1) k = k vf:=k1
 have k2' : ∀ k,words.load1 h b' (Nat.add (Nat.add o (Nat.mul s 3)) 2) k = k vc:=k2
 simp only [wantOf,List.getElem?_eq_getElem hs] at hw
 rw [call28]
 by_cases h3 : sh[s].kind = 3
 · rw [if_pos h3] at hw
   split at hw
   · cases hw
   · rename_i hb
     rw [h3] at ek
     refine ⟨vf,?_⟩
     have n4 : ieq (.ofNat 3) (.ofNat 3) = true:=rfl
     have n5 : ieq b (.ofNat 0) = false:=by rw [ieq_eq]; simpa using hb
     simp -implicitDefEqProofs only [sh28,↓ek,↓l2,↓n3,↓k1',↓n4,↓n5,↓evR]
 · rw [if_neg h3] at hw
   have n4 : ieq (.ofNat sh[s].kind) (.ofNat 3) = false:=by rw [ieq_nat]; simpa using h3
   by_cases h4 : sh[s].kind = 4
   · rw [if_pos h4] at hw
     have n5 : ieq (.ofNat sh[s].kind) (.ofNat 4) = true:=by rw [ieq_nat]; simpa using h4
     have ln : ∀ k : Nat→Res,lenk vc k = k sh[s].cases.length:=fun k=>by rw [r2.lenk,List.length_map]
     refine ⟨.nils,?_⟩
     cases b with
     | negSucc b=>
       have n6 : ilt (.negSucc b) (.ofNat 0) = true:=rfl
       simp -implicitDefEqProofs only [sh28,↓ek,↓l2,↓n3,↓k2',↓n4,↓n5,↓n6,↓evR]
     | ofNat b=>
       have n6 : ilt (.ofNat b) (.ofNat 0) = false:=ilt_false (by omega)
       have n7 : ilt (.ofNat b) (.ofNat sh[s].cases.length) = false:=ilt_false (by
        have : sh[s].cases[b]? = none:=hw
        simpa using this)
       simp -implicitDefEqProofs only [sh28,↓ek,↓l2,↓n3,↓k2',↓n4,↓n5,↓n6,↓n7,↓ln,↓evR]
   · have n5 : ieq (.ofNat sh[s].kind) (.ofNat 4) = false:=by rw [ieq_nat]; simpa using h4
     exact ⟨.nils,by simp -implicitDefEqProofs only [sh28,↓ek,↓n4,↓n5,↓evR]⟩
theorem want_kind {s : Nat} {z : Int} {l : List Nat} (hw : wantOf sh s z = some l) : kindOf sh s = 3 ∨ kindOf sh s = 4:=by
 unfold wantOf at hw
 unfold kindOf
 split at hw
 · rename_i x hx
   by_cases h3 : x.kind = 3
   · exact .inl h3
   · rw [if_neg h3] at hw
     by_cases h4 : x.kind = 4
     · exact .inr h4
     · rw [if_neg h4] at hw; cases hw
 · cases hw
def isW (sh : List Sh) (L : List Th) (s w : Nat) : Option Nat:=
 if kindOf sh s = 1 then some 0 else if kindOf sh s = 3∧w = 0 then some 0 else
  match (idxs L s)[w - fst0 sh s]? with
  | some i=>(L[i]?).map (·.deep)
  | none=>none
theorem TabX.is (w : TabX h p bo bm c va vs cells pv sh L M S X) {s k : Nat} (hk : 1 ≤ kindOf sh s∧kindOf sh s ≤ 4) (hk64 : k < 18446744073709551616) (hL : L.length ≤ 4611686018427387904) :
 call tabW n (d + 1 + 1 + 1) f41 [.ptr p 0,I (.ofNat s),.int .u64 (.ofNat k)] h = .ret (.tup [I (.ofNat ((isW sh L s k).getD 0)),.bool (isW sh L s k).isSome]) h:=by
 obtain ⟨hs,ke⟩:=kind_ge (sh:=sh) (s:=s) hk.1
 have ek:=w.kind (n:=n) (d:=d + 1) (.ofNat s)
 rw [ke] at ek
 have k7 : Nat.beq (kno .u64) 7 = true:=rfl
 rw [call41]
 by_cases h1 : kindOf sh s = 1
 · have n1 : ieq (.ofNat (kindOf sh s)) (.ofNat 1) = true:=by rw [h1]; rfl
   have e : isW sh L s k = some 0:=by simp [isW,h1]
   rw [e]
   simp -implicitDefEqProofs only [sh41,↓ek,↓n1,↓Option.getD_some,↓Option.isSome_some,↓evR]
 · have n1 : ieq (.ofNat (kindOf sh s)) (.ofNat 1) = false:=by rw [ieq_nat]; simpa using h1
   by_cases h3 : kindOf sh s = 3∧k = 0
   · obtain ⟨h3,rfl⟩:=h3
     have n2 : ieq (.ofNat (kindOf sh s)) (.ofNat 3) = true:=by rw [h3]; rfl
     have n3 : ieq (.ofNat 0) (.ofNat 0) = true:=rfl
     have e : isW sh L s 0 = some 0:=by simp [isW,h3]
     rw [e]
     simp -implicitDefEqProofs only [sh41,↓ek,↓n1,↓n2,↓k7,↓n3,↓Option.getD_some,↓Option.isSome_some,↓evR]
   · have hf : fst0 sh s ≤ k:=by
      simp only [fst0]
      split
      · rename_i h; have:=Nat.pos_of_ne_zero (fun e=>h3 ⟨h,e⟩); omega
      · omega
     have ep:=w.place (n:=n) (d:=d) (k:=k) (show kindOf sh s = 2 ∨ kindOf sh s = 3 ∨ kindOf sh s = 4 by omega) hf hk64 hL
     have e : isW sh L s k = match (idxs L s)[k - fst0 sh s]? with | some i=>(L[i]?).map (·.deep) | none=>none:=by simp [isW,h1,h3]
     have key : ∀ r,(call tabW n (d + 1 + 1) f26 [.ptr p 0,I (.ofNat s),.int .u64 (.ofNat k)] h = .ret (.tup [.int .u64 (.ofNat (k - fst0 sh s)),.bool (decide (k - fst0 sh s < cnt L s))]) h →
      sh41 words n (call tabW n (d + 1 + 1)) [.ptr p 0,I (.ofNat s),.int .u64 (.ofNat k)] h = r)→sh41 words n (call tabW n (d + 1 + 1)) [.ptr p 0,I (.ofNat s),.int .u64 (.ofNat k)] h = r:=fun r f=>f ep
     by_cases hlt : k - fst0 sh s < cnt L s
     · obtain ⟨t,v,b,ht,hv,hts,eg,_,lg⟩:=w.get (n:=n) (d:=d + 1) hs (List.getElem?_eq_getElem hlt)
       have e2 : isW sh L s k = some t.deep:=by rw [e,List.getElem?_eq_getElem hlt]; simp [ht]
       rw [e2]
       rw [decide_eq_true hlt] at ep
       have l4:=lg 4 (I (.ofNat t.deep)) (by omega) rfl
       by_cases h3' : kindOf sh s = 3
       · have n2 : ieq (.ofNat (kindOf sh s)) (.ofNat 3) = true:=by rw [h3']; rfl
         have n3 : ieq (.ofNat k) (.ofNat 0) = false:=by rw [ieq_nat]; simpa using fun e=>h3 ⟨h3',e⟩
         simp -implicitDefEqProofs only [sh41,↓ek,↓n1,↓n2,↓k7,↓n3,↓ep,↓eg,↓l4,↓Option.getD_some,↓Option.isSome_some,↓evR]
       · have n2 : ieq (.ofNat (kindOf sh s)) (.ofNat 3) = false:=by rw [ieq_nat]; simpa using h3'
         simp -implicitDefEqProofs only [sh41,↓ek,↓n1,↓n2,↓ep,↓eg,↓l4,↓Option.getD_some,↓Option.isSome_some,↓evR]
     · have e2 : isW sh L s k = none:=by rw [e,List.getElem?_eq_none (Nat.not_lt.1 hlt)]
       rw [e2]
       rw [decide_eq_false hlt] at ep
       by_cases h3' : kindOf sh s = 3
       · have n2 : ieq (.ofNat (kindOf sh s)) (.ofNat 3) = true:=by rw [h3']; rfl
         have n3 : ieq (.ofNat k) (.ofNat 0) = false:=by rw [ieq_nat]; simpa using fun e=>h3 ⟨h3',e⟩
         simp -implicitDefEqProofs only [sh41,↓ek,↓n1,↓n2,↓k7,↓n3,↓ep,↓Option.getD_none,↓Option.isSome_none,↓evR]
       · have n2 : ieq (.ofNat (kindOf sh s)) (.ofNat 3) = false:=by rw [ieq_nat]; simpa using h3'
         simp -implicitDefEqProofs only [sh41,↓ek,↓n1,↓n2,↓ep,↓Option.getD_none,↓Option.isSome_none,↓evR]
end
abbrev vT (k : Nat) (z : Int) (l t : Nat) (kids : List (List Tr)) : List Tr:=[.i .u8 (.ofNat k),.i .i64 z,.s l t,.sl 4 kids]
inductive IsV : List Tr→Prop where
 | mk (k : Nat) (z : Int) (l t : Nat) (kids : List (List Tr)) (hz : -9223372036854775808 ≤ z∧z ≤ 9223372036854775807) (hl : l ≤ 140737488351232) (hkl : kids.length ≤ 140737488351232) (hv : ∀ r ∈ kids,IsV r) (ht : t < 256 ^ l) : IsV (vT k z l t kids)
inductive Fits (sh : List Sh) : Nat→List Tr→Prop where
 | num (s : Nat) (z : Int) (hk : kindOf sh s = 1) : Fits sh s (vT 1 z 0 0 [])
 | sym (s l t : Nat) (hk : kindOf sh s = 2) : Fits sh s (vT 2 0 l t [])
 | nil (s : Nat) (hk : kindOf sh s = 3) : Fits sh s (vT 3 0 0 0 [])
 | node (s k : Nat) (z : Int) (want : List Nat) (kids : List (List Tr)) (hk : k = 4∧kindOf sh s = 3 ∨ k = 5∧kindOf sh s = 4) (hw : wantOf sh s z = some want) (hl : kids.length = want.length)
    (hf : ∀ (i a : Nat) (r : List Tr),want[i]? = some a→kids[i]? = some r→Fits sh a r) : Fits sh s (vT k z 0 0 kids)
structure ShsOk (sh : List Sh) : Prop where
 len : 2 ≤ sh.length∧sh.length ≤ 258
 k0 : kindOf sh 0 = 1
 k1 : kindOf sh 1 = 2
 k2 : ∀ s,2 ≤ s→s < sh.length→kindOf sh s = 3 ∨ kindOf sh s = 4
 want : ∀ s b l,wantOf sh s b = some l→l.length ≤ 12∧(∀ a ∈ l,a < sh.length)∧b ≤ 64
theorem ShsOk.kind {sh : List Sh} (ok : ShsOk sh) {s : Nat} (hs : s < sh.length) : 1 ≤ kindOf sh s∧kindOf sh s ≤ 4:=by
 have:=ok.k0; have:=ok.k1
 match s with
 | 0=>omega
 | 1=>omega
 | s + 2=>have:=ok.k2 (s + 2) (by omega) hs; omega
section
variable {h : Heap} {p bo bm : Bid} {c : Option Nat} {va vs : V} {cells pv : List V} {sh : List Sh} {L : List Th} {M : List (List Nat × Nat)} {S X : Nat→Prop} {n d : Nat}
theorem want_at {A : Nat→Prop} {want : List Nat} {vw : V} (w : CellA h A (.sl 1 (want.map iT)) vw) {i : Nat} (hi : i < want.length) : ∃ b o m,vw = .slice b o want.length m 1∧∀ q : V→Res,words.load1 h b (Nat.add o i) q = q (I (.ofNat want[i])):=by
 obtain ⟨b,o,m,l',e,r,_,_,_,ld⟩:=w.row (i:=i) (by simpa using hi)
 rw [List.getElem_map] at r
 obtain ⟨v0,rfl,r0⟩:=r.inv1
 obtain rfl:=r0.int_inv
 rw [List.length_map] at e
 refine ⟨b,o,m,e,fun k=>?_⟩
 have:=ld 0 _ rfl k
 rw [Nat.mul_one,Nat.add_zero] at this
 exact this
theorem word_at {A : Nat→Prop} {ws : List Nat} {vw : V} (w : CellA h A (.sl 1 (ws.map wT)) vw) {i : Nat} (hi : i < ws.length) : ∃ b o m,vw = .slice b o ws.length m 1∧∀ q : V→Res,words.load1 h b (Nat.add o i) q = q (.int .u64 (.ofNat ws[i])):=by
 obtain ⟨b,o,m,l',e,r,_,_,_,ld⟩:=w.row (i:=i) (by simpa using hi)
 rw [List.getElem_map] at r
 obtain ⟨v0,rfl,r0⟩:=r.inv1
 obtain rfl:=r0.int_inv
 rw [List.length_map] at e
 refine ⟨b,o,m,e,fun k=>?_⟩
 have:=ld 0 _ rfl k
 rw [Nat.mul_one,Nat.add_zero] at this
 exact this
end
end Go.Ev.WIB

/- InternBack: one thing more; its id; symbols; records and terms. -/
namespace Go.Ev.WIB
open Go.Proofs
set_option maxRecDepth 100000
theorem But.chg {h h' : Heap} {b : Bid} (u : But h b h') : Chg (fun x=>x = b.val) h h':=⟨by rw [u.nx]; exact Nat.le_refl _,fun b' _ hs=>u.get b' fun e=>hs (by rw [e])⟩
theorem _root_.Go.Ev.Chg.row {S : Nat→Prop} {h h' : Heap} (c : Chg S h h') {b : Bid} {g : Nat} {l : List V} (r : Row (h.t.get b) g l) (hb : b.val < h.nx.val) (hs : ¬ S b.val) : Row (h'.t.get b) g l:=by rw [c.get b hb hs]; exact r
theorem splice_one {cs : List V} {s : Nat} (v : V) (hs : s < cs.length) : splice cs s [v] = cs.set s v:=by
 rw [splice,List.set_eq_take_append_cons_drop,if_pos hs,List.length_singleton,List.append_assoc]
 rfl
theorem not_off {v : V} {x : Nat} (h : ¬ Off v x) : ∃ b o l c s,v = .slice b o l c s∧b.val = x:=by
 unfold Off at h
 simp only [Classical.not_forall] at h
 obtain ⟨b,o,l,c,s,e,hx⟩:=h
 exact ⟨b,o,l,c,s,e,Classical.not_not.1 hx⟩
section
variable {h : Heap} {p bo bm : Bid} {c : Option Nat} {va vs : V} {cells pv : List V} {sh : List Sh} {L : List Th} {M : List (List Nat × Nat)} {S X : Nat→Prop} {n d : Nat}
def Sof (p bo bm : Bid) (va : V) (cells : List V) (x : Nat) : Prop:=x = p.val ∨ x = bo.val ∨ x = bm.val ∨ ¬ Off va x ∨ ∃ v ∈ cells,¬ Off v x
theorem push_law (w : TabX h p bo bm c va vs cells pv sh L M S X) {t : Th} {v : V} (hs : t.shape < sh.length) (wv : CellA h (Still h (SX S X)) (.sl 1 (t.parts.map wT)) v) (hL : L.length < 16000000) :
 ∃ h' va' cells' S',call tabW n (d + 1) f54 [.ptr p 0,.agg 5 (thC t v)] h = .ret (.tup []) h'∧TabX h' p bo bm c va' vs cells' (pv ++ [v]) sh (L ++ [t]) M S' X∧Chg S h h'∧∀ x,S' x→S x ∨ h.nx.val ≤ x:=by
 have hc : t.shape < cells.length:=by rw [w.len]; exact hs
 have hcs : cells[t.shape]? = some cells[t.shape]:=List.getElem?_eq_getElem hc
 have hcm : cells[t.shape] ∈ cells:=List.getElem_mem hc
 obtain ⟨lt1,lt2,lt3⟩:=w.lt
 obtain ⟨ne1,ne2,ne3⟩:=w.ne
 obtain ⟨oa1,oa2,oa3⟩:=w.oa
 obtain ⟨oc1,oc2,oc3,oc4⟩:=w.oc _ hcm
 have Sm:=w.mem
 obtain ⟨h0,e0,r0,U0,lt0⟩:=new_row h (g:=5) (l:=thC t v) rfl (by omega)
 have e0' : ∀ q,words.new h (.arr 5 1 (.lf (thC t v)) .false) q = q h.nx h0:=e0
 have w0:=w.up U0
 obtain ⟨a0,a1,_,_⟩:=w0.ld
 have n1 : Nat.blt t.shape cells.length = true:=blt_of hc
 have b0 : ∀ q : V→Res,words.load1 h0 bo (Nat.add 0 t.shape) q = q cells[t.shape]:=fun q=>by
  show load1k h0 bo (0 + t.shape) q = _
  rw [Nat.zero_add]
  exact load1k_law w0.of hcs q
 have s0 : ∀ q : V→Res,words.load1 h0 h.nx 0 q = q (I (.ofNat t.shape)):=fun q=>load1k_law r0 rfl q
 have ln : ∀ k : Nat→Res,lenk va k = k L.length:=fun k=>w.all.len (by omega) (thCs_len w.pl) k
 obtain ⟨h1,e1,r1,U1,lt1'⟩:=new_row h0 (g:=1) (l:=[I (.ofNat L.length)]) rfl (by omega)
 have e1' : ∀ q,words.new h0 (.arr 1 1 (.lf [I (.ofNat L.length)]) .false) q = q h0.nx h1:=e1
 have rr1 : ∀ q,words.row 1 1 [I (.ofNat L.length)] q = q (.lf [I (.ofNat L.length)]):=fun q=>row_one (g:=1) rfl q
 have U01:=U0.trans U1
 have w1:=w0.up U1
 obtain ⟨a0',a1',_,_⟩:=w1.ld
 have b1 : ∀ q : V→Res,words.load1 h1 bo (Nat.add 0 t.shape) q = q cells[t.shape]:=fun q=>by
  show load1k h1 bo (0 + t.shape) q = _
  rw [Nat.zero_add]
  exact load1k_law w1.of hcs q
 have r01 : Row (h1.t.get h.nx) 5 (thC t v):=r0.later lt0 U1
 have s1 : ∀ q : V→Res,words.load1 h1 h.nx 0 q = q (I (.ofNat t.shape)):=fun q=>load1k_law r01 rfl q
 obtain ⟨h2,v2,e2,o2,C2,f2,b2,l2,ev2⟩:=own_app (w1.idx _ _ hcs) (by omega) r1 rfl (m:=cnt L t.shape) (by rw [List.length_map,Nat.mul_one]) (by have : cnt L t.shape ≤ L.length:=idxs_le L t.shape; omega)
 have nS2 : ∀ x,x < h.nx.val→Off cells[t.shape] x→¬ (fun x=>¬ Off cells[t.shape] x) x:=fun x _ h1 h2=>h2 h1
 have rp2:=C2.row w1.row w1.lt.1 (fun x=>x oc1)
 have ro2:=C2.row w1.of w1.lt.2.1 (fun x=>x oc2)
 have hnx1 : h.nx.val < h1.nx.val:=Nat.lt_of_lt_of_le lt0 U1.nx
 have off_nx : ∀ x ∈ cells,Off x h.nx.val:=fun x hx=>Classical.byContradiction fun e=>by
  have:=w.lts ((Sm _).2 (.inr (.inr (.inr (.inr ⟨x,hx,e⟩)))))
  omega
 have off_nx' : Off va h.nx.val:=Classical.byContradiction fun e=>by
  have:=w.lts ((Sm _).2 (.inr (.inr (.inr (.inl e)))))
  omega
 have r02:=C2.row r01 hnx1 (fun x=>x (off_nx _ hcm))
 have a1'' : ∀ q : V→Res,words.load1 h2 p 1 q = q (.slice bo 0 cells.length c 1):=fun q=>load1k_law rp2 rfl q
 have s2 : ∀ q : V→Res,words.load1 h2 h.nx 0 q = q (I (.ofNat t.shape)):=fun q=>load1k_law r02 rfl q
 obtain ⟨h3,e3,ro3,B3⟩:=storek_law (o:=t.shape) (n:=1) (vs:=[v2]) ro2 rfl (by omega)
 have e3' : ∀ q,words.store h2 bo (Nat.add 0 t.shape) 1 [v2] q = q h3:=fun q=>by
  show storek h2 bo (0 + t.shape) 1 [v2] q = _
  rw [Nat.zero_add]; exact e3 q
 rw [splice_one v2 hc] at ro3
 have C3:=But.chg B3
 have lt2p : p.val < h2.nx.val:=Nat.lt_of_lt_of_le w1.lt.1 C2.nx
 have rp3:=C3.row rp2 lt2p ne1
 have hnx2 : h.nx.val < h2.nx.val:=Nat.lt_of_lt_of_le hnx1 C2.nx
 have r03:=C3.row r02 hnx2 (by omega)
 have a3 : ∀ q : V→Res,words.load1 h3 p 0 q = q va:=fun q=>load1k_law rp3 rfl q
 have ld5 : ∀ {h' : Heap},Row (h'.t.get h.nx) 5 (thC t v)→∀ q : List V→Res,words.load h' h.nx 0 5 q = q (thC t v):=fun r q=>by
  have:=loadk_law r (o:=0) (n:=5) (by simp [thC]) q
  rw [List.drop_zero,List.take_of_length_le (by simp [thC])] at this
  exact this
 have l3:=ld5 r03
 have ap : ∀ q : List V→Res,appk (thC t v) [] q = q (thC t v):=fun q=>by rw [appk_eq,List.append_nil]
 have o3 : Hld h3 5 va (thCs L pv):=(w1.all.chg C2 (fun x hx=>Classical.byContradiction fun e=>by
  rcases oc4 x with h1 | h1
  · exact e h1
  · exact hx h1)).chg C3 (fun x hx=>by subst hx; exact oa2)
 obtain ⟨h4,e4,r4,U4,lt4⟩:=new_row h3 (g:=5) (l:=thC t v) rfl (by omega)
 have e4' : ∀ q,words.new h3 (.arr 5 1 (.lf (thC t v)) .false) q = q h3.nx h4:=e4
 have rr4 : ∀ q,words.row 5 1 (thC t v) q = q (.lf (thC t v)):=fun q=>row_one (g:=5) rfl q
 have hnx3 : h.nx.val < h3.nx.val:=Nat.lt_of_lt_of_le hnx2 C3.nx
 have lt3p : p.val < h3.nx.val:=Nat.lt_of_lt_of_le lt2p C3.nx
 have rp4 : Row (h4.t.get p) 4 _:=rp3.later lt3p U4
 have r04:=r03.later hnx3 U4
 have a4 : ∀ q : V→Res,words.load1 h4 p 0 q = q va:=fun q=>load1k_law rp4 rfl q
 have l4:=ld5 r04
 obtain ⟨h5,v5,e5,o5,C5,f5,b5,l5,ev5⟩:=own_app (o3.up U4) (by omega) r4 rfl (m:=L.length) (thCs_len w.pl) (by omega)
 have lt4p : p.val < h4.nx.val:=Nat.lt_of_lt_of_le lt3p U4.nx
 have rp5:=C5.row rp4 lt4p (fun x=>x oa1)
 obtain ⟨h6,e6,rp6,B6⟩:=storek_law (o:=0) (n:=1) (vs:=[v5]) rp5 rfl (by simp)
 have e6' : ∀ q,words.store h5 p 0 1 [v5] q = q h6:=e6
 have C6:=But.chg B6
 have k3 : Nat.beq 5 5 = true:=rfl
 have o2n : ∀ r : Res,onek v2 r = r:=fun r=>by rw [ev2]; rfl
 have o5n : ∀ r : Res,onek v5 r = r:=fun r=>by rw [ev5]; rfl
 have len5 : (thC t v).length = 5:=rfl
 have run : call tabW n (d + 1) f54 [.ptr p 0,.agg 5 (thC t v)] h = .ret (.tup []) h6:=by
  rw [call54]
  simp -implicitDefEqProofs only [sh54,↓e0',↓a0,↓a1,↓s0,↓n1,↓b0,↓ln,↓rr1,↓e1',↓a0',↓a1',↓b1,↓s1,↓e2,↓a1'',↓s2,↓o2n,↓e3',↓a3,↓l3,↓ap,↓rr4,↓e4',↓a4,↓l4,↓e5,↓o5n,↓e6',↓evR]
 have hS : ∀ x,Sof p bo bm va cells x→S x:=fun x hx=>(Sm x).2 hx
 have CS : Chg S h h6:=by
  have c2 : Chg S h1 h2:=C2.mono fun x _ hx=>hS x (.inr (.inr (.inr (.inr ⟨_,hcm,hx⟩))))
  have c3 : Chg S h2 h3:=C3.mono fun x _ hx=>hS x (.inr (.inl hx))
  have c5 : Chg S h4 h5:=C5.mono fun x _ hx=>hS x (.inr (.inr (.inr (.inl hx))))
  have c6 : Chg S h5 h6:=C6.mono fun x _ hx=>hS x (.inl hx)
  have tr : ∀ {a b c : Heap},Chg S a b→Chg S b c→Chg S a c:=fun p q=>p.trans q fun x hx=>.inl hx
  exact tr (tr (tr (tr (tr U01.chg c2) c3) U4.chg) c5) c6
 have nx12 : h1.nx.val ≤ h2.nx.val:=C2.nx
 have nx23 : h2.nx.val ≤ h3.nx.val:=C3.nx
 have nx34 : h3.nx.val ≤ h4.nx.val:=U4.nx
 have nx45 : h4.nx.val ≤ h5.nx.val:=C5.nx
 have nx56 : h5.nx.val ≤ h6.nx.val:=C6.nx
 have nx01 : h.nx.val ≤ h1.nx.val:=U01.nx
 have m2 : ∀ x,x < h1.nx.val→Off cells[t.shape] x→Off v2 x:=fun x hx ho=>Classical.byContradiction fun e=>(f2 x e).elim (fun e2=>e2 ho) fun e2=>by omega
 have m5 : ∀ x,x < h4.nx.val→Off va x→Off v5 x:=fun x hx ho=>Classical.byContradiction fun e=>(f5 x e).elim (fun e2=>e2 ho) fun e2=>by omega
 have lva : ∀ x,¬ Off va x→x < h.nx.val:=fun x hx=>w.lts (hS x (.inr (.inr (.inr (.inl hx)))))
 have lce : ∀ v ∈ cells,∀ x,¬ Off v x→x < h.nx.val:=fun v hv x hx=>w.lts (hS x (.inr (.inr (.inr (.inr ⟨v,hv,hx⟩)))))
 have ap2 : ∀ x,¬ Off va x→Off v2 x:=fun x hx=>m2 x (by have:=lva x hx; omega) ((oc4 x).resolve_left hx)
 have ap5 : ∀ v ∈ cells,∀ x,¬ Off v x→Off v5 x:=fun v hv x hx=>m5 x (by have:=lce v hv x hx; omega) (((w.oc v hv).2.2.2 x).resolve_right hx)
 have ap52 : Apart v5 v2:=fun x=>Classical.byContradiction fun e=>by
  simp only [not_or] at e
  have h1' : x < h2.nx.val:=o2.lt e.2
  rcases f5 x e.1 with h2' | h2'
  · exact e.2 (ap2 x h2')
  · omega
 have setm : ∀ v ∈ cells.set t.shape v2,v = v2 ∨ v ∈ cells:=fun v hv=>(List.mem_or_eq_of_mem_set hv).symm
 have S'S : ∀ x,Sof p bo bm v5 (cells.set t.shape v2) x→S x ∨ h.nx.val ≤ x:=fun x hx=>by
  rcases hx with e | e | e | e | ⟨v,hv,e⟩
  · exact .inl (hS x (.inl e))
  · exact .inl (hS x (.inr (.inl e)))
  · exact .inl (hS x (.inr (.inr (.inl e))))
  · exact (f5 x e).elim (fun e=>.inl (hS x (.inr (.inr (.inr (.inl e)))))) fun e=>.inr (by omega)
  · rcases setm v hv with rfl | hv
    · exact (f2 x e).elim (fun e=>.inl (hS x (.inr (.inr (.inr (.inr ⟨_,hcm,e⟩)))))) fun e=>.inr (by omega)
    · exact .inl (hS x (.inr (.inr (.inr (.inr ⟨v,hv,e⟩)))))
 have CX : Chg (SX S X) h h6:=CS.mono fun x _ hx=>.inl hx
 have X'X : ∀ x,SX (Sof p bo bm v5 (cells.set t.shape v2)) X x→SX S X x ∨ h.nx.val ≤ x:=fun x hx=>hx.elim (fun e=>(S'S x e).imp .inl id) fun e=>.inl (.inr e)
 have gt : ∀ {g : Nat} {u : V} {cs : List V},Hld h3 g u cs→(∀ x,¬ Off va x→Off u x)→Off u p.val→Hld h6 g u cs:=fun a b d=>((a.up U4).chg C5 fun x hx=>b x hx).chg C6 fun x hx=>by subst hx; exact d
 refine ⟨h6,v5,cells.set t.shape v2,Sof p bo bm v5 (cells.set t.shape v2),run,?_,CS,S'S⟩
 refine ⟨by rw [List.length_set]; exact rp6,?_,by rw [List.length_set,w.len],?_,by rw [List.length_append,List.length_append,w.pl]; rfl,?_,?_,?_,w.shp.chg CX X'X,fun x hx=>⟨by have:=(w.xs x hx).1; omega,fun e=>(S'S x e).elim (w.xs x hx).2 fun e2=>by have:=(w.xs x hx).1; omega⟩,by omega,w.ne,?_,?_,?_,fun x=>Iff.rfl⟩
 · exact C6.row (C5.row (ro3.later (by have:=w1.lt.2.1; omega) U4) (by have:=w1.lt.2.1; omega) (fun x=>x oa2)) (by have:=w1.lt.2.1; omega) (by omega)
 · rw [thCs_app w.pl]
   exact o5.chg C6 fun x hx=>by subst hx; exact m5 _ lt4p oa1
 · intro i t' v' h1' h2'
   by_cases hi : i < L.length
   · rw [List.getElem?_append_left hi] at h1'
     rw [List.getElem?_append_left (by rw [w.pl]; exact hi)] at h2'
     exact (w.parts i t' v' h1' h2').chg CX X'X
   · rw [List.getElem?_append_right (by omega)] at h1'
     rw [List.getElem?_append_right (by rw [w.pl]; omega),w.pl] at h2'
     have : i - L.length = 0:=by have:=(List.getElem?_eq_some_iff.1 h1').1; simp at this; omega
     rw [this] at h1' h2'
     simp at h1' h2'
     subst h1'; subst h2'
     exact wv.chg CX X'X
 · intro s v' hv'
   rw [idxs_app,List.map_append]
   by_cases hss : t.shape = s
   · subst hss
     rw [List.getElem?_set_self hc] at hv'
     cases hv'
     rw [if_pos rfl]
     exact gt (o2.chg C3 fun x hx=>by subst hx; exact m2 _ w1.lt.2.1 oc2) ap2 (m2 _ w1.lt.1 oc1)
   · rw [List.getElem?_set_ne hss] at hv'
     have hvm:=List.mem_of_getElem? hv'
     obtain ⟨oc1',oc2',oc3',oc4'⟩:=w.oc v' hvm
     rw [if_neg hss,List.map_nil,List.append_nil]
     exact gt (((w1.idx s v' hv').chg C2 fun x hx=>((w.occ t.shape s _ v' hcs hv' hss x).resolve_left hx)).chg C3 fun x hx=>by subst hx; exact oc2') (fun x hx=>(oc4' x).resolve_left hx) oc1'
 · refine w.map.keep ?_
   rw [C6.get bm (by have:=w1.lt.2.2; omega) (by omega),C5.get bm (by have:=w1.lt.2.2; omega) (fun x=>x oa3),U4.get bm (by have:=w1.lt.2.2; omega),C3.get bm (by have:=w1.lt.2.2; omega) (by omega),C2.get bm w1.lt.2.2 (fun x=>x oc3),U01.get bm lt3]
 · exact ⟨m5 _ lt4p oa1,m5 _ (by have:=w1.lt.2.1; omega) oa2,m5 _ (by have:=w1.lt.2.2; omega) oa3⟩
 · intro v' hv'
   rcases setm v' hv' with rfl | hv'
   · exact ⟨m2 _ w1.lt.1 oc1,m2 _ w1.lt.2.1 oc2,m2 _ w1.lt.2.2 oc3,ap52⟩
   · obtain ⟨oc1',oc2',oc3',oc4'⟩:=w.oc v' hv'
     exact ⟨oc1',oc2',oc3',fun x=>Classical.byContradiction fun e=>by
      simp only [not_or] at e
      exact e.1 (ap5 v' hv' x e.2)⟩
 · intro s s' u u' hu hu' hne
   have ap : ∀ s v',s ≠ t.shape→cells[s]? = some v'→Apart v2 v':=fun s v' hne hv' x=>Classical.byContradiction fun e=>by
    simp only [not_or] at e
    have:=lce v' (List.mem_of_getElem? hv') x e.2
    exact e.1 (m2 x (by omega) ((w.occ t.shape s _ v' hcs hv' (Ne.symm hne) x).resolve_right e.2))
   by_cases h1' : t.shape = s
   · subst h1'
     rw [List.getElem?_set_self hc] at hu
     cases hu
     rw [List.getElem?_set_ne hne] at hu'
     exact ap s' u' (Ne.symm hne) hu'
   · rw [List.getElem?_set_ne h1'] at hu
     by_cases h2' : t.shape = s'
     · subst h2'
       rw [List.getElem?_set_self hc] at hu'
       cases hu'
       exact (ap s u (Ne.symm h1') hu).symm
     · rw [List.getElem?_set_ne h2'] at hu'
       exact w.occ s s' u u' hu hu' hne
end
end Go.Ev.WIB

/- InternBack: a thing's id; symbols; records and terms. -/
namespace Go.Ev.WIB
open Go.Proofs
set_option maxRecDepth 100000
section
variable {h : Heap} {p bo bm : Bid} {c : Option Nat} {va vs : V} {cells pv : List V} {sh : List Sh} {L : List Th} {M : List (List Nat × Nat)} {S X : Nat→Prop} {n d : Nat}
theorem TabX.setmap (w : TabX h p bo bm c va vs cells pv sh L M S X) {h' : Heap} {M' : List (List Nat × Nat)} (u : Chg (fun x=>x = bm.val) h h') (m : MapIs h' bm M') : TabX h' p bo bm c va vs cells pv sh L M' S X where
 row:=u.row w.row w.lt.1 w.ne.2.1
 of:=u.row w.of w.lt.2.1 w.ne.2.2
 len:=w.len
 all:=w.all.chg u fun x hx=>by subst hx; exact w.oa.2.2
 pl:=w.pl
 parts i t v h1 h2:=(w.parts i t v h1 h2).mv (fun x hx=>⟨Nat.lt_of_lt_of_le hx.1 u.nx,hx.2⟩) fun b hb=>u.get b hb.1 fun e=>hb.2 (.inl ((w.mem _).2 (.inr (.inr (.inl e)))))
 idx s v hv:=(w.idx s v hv).chg u fun x hx=>by subst hx; exact (w.oc v (List.mem_of_getElem? hv)).2.2.1
 map:=m
 shp:=w.shp.mv (fun x hx=>⟨Nat.lt_of_lt_of_le hx.1 u.nx,hx.2⟩) fun b hb=>u.get b hb.1 fun e=>hb.2 (.inl ((w.mem _).2 (.inr (.inr (.inl e)))))
 xs x hx:=⟨Nat.lt_of_lt_of_le (w.xs x hx).1 u.nx,(w.xs x hx).2⟩
 lt:=by have:=u.nx; obtain ⟨h1,h2,h3⟩:=w.lt; omega
 ne:=w.ne
 oa:=w.oa
 oc:=w.oc
 occ:=w.occ
 mem:=w.mem
theorem put_there (w : TabR h p sh L S X) {t : Th} {v : V} (ok : ThOk t) (hn : 1000 ≤ n) (hn2 : t.parts.length < n) (wv : CellA h (Still h (SX S X)) (.sl 1 (t.parts.map wT)) v) {k : Nat} (hk : (keyB t,k) ∈ mapL sh L) (hk64 : k < 18446744073709551616) :
 ∃ h',call tabW n (d + 1 + 1 + 1) f42 [.ptr p 0,.agg 5 (thC t v)] h = .ret (.tup [.int .u64 (.ofNat k),ik 0]) h'∧Up h h':=by
 obtain ⟨h0,e0,r0,U0,lt0⟩:=new_row h (g:=5) (l:=thC t v) rfl (by omega)
 have e0' : ∀ q,words.new h (.arr 5 1 (.lf (thC t v)) .false) q = q h.nx h0:=e0
 have l0 : ∀ q : List V→Res,words.load h0 h.nx 0 5 q = q (thC t v):=fun q=>by
  have:=loadk_law r0 (o:=0) (n:=5) (by simp [thC]) q
  rw [List.drop_zero,List.take_of_length_le (by simp [thC])] at this
  exact this
 have lt : ∀ x,SX S X x→x < h.nx.val:=fun x hx=>hx.elim w.lts fun h=>by
  obtain ⟨_,_,_,_,_,_,_,wx⟩:=w
  exact (wx.xs x h).1
 obtain ⟨h1,e1,U1⟩:=key_law (n:=n) (d:=d) (h:=h0) ok (A:=Still h0 (SX S X)) (fun x hx=>hx.1) (wv.stay U0 lt) (by omega) hn2
 obtain ⟨bo,bm,c,va,vs,cells,pv,wx⟩:=(w.up U0).up U1
 obtain ⟨_,_,_,a3⟩:=wx.ld
 have lk:=fun q=>look_yes wx.map hk q
 have len5 : (thC t v).length = 5:=rfl
 have ec:=castS_sV (keyB t)
 refine ⟨h1,?_,U0.trans U1⟩
 rw [call42]
 have lk' : ∀ q : V→Heap→Res,words.ex (.look true true (.int .u64 (.ofNat 0))) [.map bm,.str (keyB t).length (packN (keyB t))] h1 q = q (.tup [.int .u64 (.ofNat k),.bool true]) h1:=lk
 simp -implicitDefEqProofs only [sh42,↓e0',↓l0,↓e1,↓ec,↓a3,↓lk',↓evR]
theorem put_new (w : TabR h p sh L S X) {t : Th} {v : V} (ok : ThOk t) (hn : 1000 ≤ n) (hn2 : t.parts.length < n) (hs : t.shape < sh.length) (hL : L.length < 1000000) (wv : CellA h (Still h (SX S X)) (.sl 1 (t.parts.map wT)) v) (hk : ∀ x ∈ mapL sh L,x.1 ≠ keyB t) :
 ∃ h' S',call tabW n (d + 1 + 1 + 1) f42 [.ptr p 0,.agg 5 (thC t v)] h = .ret (.tup [.int .u64 (.ofNat (cnt L t.shape + fst0 sh t.shape)),ik 0]) h'∧TabR h' p sh (L ++ [t]) S' X∧Chg S h h'∧∀ x,S' x→S x ∨ h.nx.val ≤ x:=by
 obtain ⟨h0,e0,r0,U0,lt0⟩:=new_row h (g:=5) (l:=thC t v) rfl (by omega)
 have e0' : ∀ q,words.new h (.arr 5 1 (.lf (thC t v)) .false) q = q h.nx h0:=e0
 have ld5 : ∀ {h' : Heap},Row (h'.t.get h.nx) 5 (thC t v)→∀ q : List V→Res,words.load h' h.nx 0 5 q = q (thC t v):=fun r q=>by
  have:=loadk_law r (o:=0) (n:=5) (by simp [thC]) q
  rw [List.drop_zero,List.take_of_length_le (by simp [thC])] at this
  exact this
 have l0:=ld5 r0
 have lt : ∀ x,SX S X x→x < h.nx.val:=fun x hx=>hx.elim w.lts fun h=>by
  obtain ⟨_,_,_,_,_,_,_,wx⟩:=w
  exact (wx.xs x h).1
 obtain ⟨h1,e1,U1⟩:=key_law (n:=n) (d:=d) (h:=h0) ok (A:=Still h0 (SX S X)) (fun x hx=>hx.1) (wv.stay U0 lt) (by omega) hn2
 have U01:=U0.trans U1
 obtain ⟨bo,bm,c,va,vs,cells,pv,wx⟩:=w.up U01
 obtain ⟨a0,_,_,a3⟩:=wx.ld
 have lk:=fun q=>look_no wx.map (keyB_bytes ok.text) hk q
 have lk' : ∀ q : V→Heap→Res,words.ex (.look true true (.int .u64 (.ofNat 0))) [.map bm,.str (keyB t).length (packN (keyB t))] h1 q = q (.tup [.int .u64 (.ofNat 0),.bool false]) h1:=lk
 have len5 : (thC t v).length = 5:=rfl
 have ec:=castS_sV (keyB t)
 have ln : ∀ k : Nat→Res,lenk va k = k L.length:=fun k=>wx.all.len (by omega) (thCs_len wx.pl) k
 have n1 : ieq (.ofNat L.length) (.ofNat 0x100000) = false:=by rw [ieq_nat]; simp; omega
 have r1:=r0.later lt0 U1
 have s1 : ∀ q : V→Res,words.load1 h1 h.nx 0 q = q (I (.ofNat t.shape)):=fun q=>load1k_law r1 rfl q
 have ect:=wx.count (n:=n) (d:=d + 1) hs
 have ekd:=wx.kind (n:=n) (d:=d + 1) (.ofNat t.shape)
 have hc : cnt L t.shape ≤ L.length:=idxs_le L t.shape
 have n2 : wrapv .u64 (.ofNat (cnt L t.shape)) = .ofNat (cnt L t.shape):=u64_small (by omega)
 have n3 : wrapv .u64 (Int.add (.ofNat (cnt L t.shape)) (.ofNat 1)) = .ofNat (cnt L t.shape + 1):=u64_small (by omega)
 have l1:=ld5 r1
 obtain ⟨h2,va',cells',S',e2,wx2,C2,sS⟩:=push_law (n:=n) (d:=d + 1) wx hs (wv.stay U01 lt) (by omega)
 obtain ⟨_,_,_,a3'⟩:=wx2.ld
 obtain ⟨h3,e3,m3,C3⟩:=upd_new wx2.map (cnt L t.shape + fst0 sh t.shape) (keyB_bytes ok.text) hk
 have e3' : ∀ q : V→Heap→Res,words.ex (.upd true) [.map bm,.str (keyB t).length (packN (keyB t)),.int .u64 (.ofNat (cnt L t.shape + fst0 sh t.shape))] h2 q = q .skip h3:=e3
 have wx3:=wx2.setmap C3 m3
 have em : mapL sh L ++ [(keyB t,cnt L t.shape + fst0 sh t.shape)] = mapL sh (L ++ [t]):=by
  rw [mapL,mapL,mapF_app,List.nil_append]; rfl
 rw [em] at wx3
 refine ⟨h3,S',?_,⟨_,_,_,_,_,_,_,wx3⟩,?_,fun x hx=>(sS x hx).imp id fun h=>Nat.le_trans U01.nx h⟩
 · have kk : kindI sh (.ofNat t.shape) = kindOf sh t.shape:=rfl
   rw [call42]
   by_cases h3' : kindOf sh t.shape = 3
   · have f1 : fst0 sh t.shape = 1:=by simp [fst0,h3']
     rw [f1] at e3' ⊢
     have n4 : ieq (.ofNat (kindI sh (.ofNat t.shape))) (.ofNat 3) = true:=by rw [kk,h3']; rfl
     simp -implicitDefEqProofs only [sh42,↓e0',↓l0,↓e1,↓ec,↓a3,↓lk',↓a0,↓ln,↓n1,↓s1,↓ect,↓ekd,↓n4,↓n2,↓n3,↓l1,↓e2,↓a3',↓e3',↓evR]
   · have f1 : fst0 sh t.shape = 0:=by simp [fst0,h3']
     rw [f1,Nat.add_zero] at e3' ⊢
     have n4 : ieq (.ofNat (kindI sh (.ofNat t.shape))) (.ofNat 3) = false:=by rw [kk,ieq_nat]; simpa using h3'
     simp -implicitDefEqProofs only [sh42,↓e0',↓l0,↓e1,↓ec,↓a3,↓lk',↓a0,↓ln,↓n1,↓s1,↓ect,↓ekd,↓n4,↓n2,↓l1,↓e2,↓a3',↓e3',Nat.add_zero,↓evR]
 · have c3 : Chg S' h2 h3:=C3.mono fun x _ hx=>(wx2.mem x).2 (.inr (.inr (.inl hx)))
   exact (U01.chg (S:=S)).trans (C2.trans c3 fun x hx=>sS x hx) fun x hx=>.inl hx
def symT (bs : List Nat) : Th:=⟨1,0,bs,[],0⟩
theorem symT_ok {bs : List Nat} (hb : Bytes bs) (hl : bs.length ≤ 65536) : ThOk (symT bs):=⟨by simp [symT],by simp [symT],by simp [symT],hb,by simp [symT]; omega⟩
theorem src_words {A : Nat→Prop} {ws : List Nat} {v : V} (w : CellA h A (.sl 1 (ws.map wT)) v) (k : Nat→List V→Res) : srck 1 v h k = k ws.length (ws.map fun x=>.int .u64 (.ofNat x)):=by
 generalize hr : ws.map wT = rows at w
 have hl : ws.length = rows.length:=by rw [← hr,List.length_map]
 cases w with
 | nils=>
   have : ws = []:=by simpa using hr
   subst this; rfl
 | emp=>
   have : ws = []:=by simpa using hr
   subst this; rfl
 | sl _ _ b o c op cs hb row fit wid hs=>
   show loadk h b o (Nat.mul rows.length 1) (fun cs=>k rows.length cs) = _
   rw [show Nat.mul rows.length 1 = rows.length by exact Nat.mul_one _,loadk_law row (by omega),hl]
   congr 1
   apply List.ext_getElem (by simp; omega)
   intro i h1 h2
   simp at h1 h2
   have hi : o + i < cs.length:=by omega
   have:=hs i (wT ws[i]) 0 (.i .u64 (.ofNat ws[i])) cs[o + i] (by rw [← hr,List.getElem?_map,List.getElem?_eq_getElem (by omega)]; rfl) rfl (by rw [Nat.mul_one,Nat.add_zero,List.getElem?_eq_getElem hi])
   simp only [List.getElem_take,List.getElem_drop,List.getElem_map]
   exact this.int_inv
theorem own_words {lo : Nat} {ws : List Nat} {v : V} (w : Own h lo v (ws.map fun x=>.int .u64 (.ofNat x))) : CellA h (fun x=>lo ≤ x∧x < h.nx.val) (.sl 1 (ws.map wT)) v:=by
 generalize hr : (ws.map fun x=>V.int .u64 (.ofNat x)) = l at w
 cases w with
 | nils=>
   have : ws = []:=by simpa using hr
   subst this; exact .nils 1
 | sl b c _ blo bhi row cap=>
   have hl : l.length = (ws.map wT).length:=by rw [← hr]; simp
   rw [hl]
   refine .sl 1 _ b 0 c false l ⟨blo,bhi⟩ row (by omega) (by intro r hr'; obtain ⟨x,_,rfl⟩:=List.mem_map.1 hr'; rfl) ?_
   intro i r j t v h1 h2 h3
   rw [List.getElem?_map] at h1
   obtain ⟨x,h4,rfl⟩:=Option.map_eq_some_iff.1 h1
   match j,h2 with
   | 0,h2=>
     cases h2
     rw [← hr,Nat.mul_one,Nat.zero_add,Nat.add_zero,List.getElem?_map,h4] at h3
     cases h3
     exact .i _ _
   | j + 1,h2=>simp at h2
theorem clone_words {A : Nat→Prop} {ws : List Nat} {v : V} (w : CellA h A (.sl 1 (ws.map wT)) v) (hA : ∀ x,A x→x < h.nx.val) (hl : ws.length ≤ 16777216) :
 ∃ h' v',call tabW n (d + 1) f40 [v] h = .ret v' h'∧CellA h' (fun x=>h.nx.val ≤ x∧x < h'.nx.val) (.sl 1 (ws.map wT)) v'∧Up h h':=by
 have one : ∀ r,zV [v] r = r v:=fun r=>rfl
 by_cases hn : v = .nils
 · subst hn
   refine ⟨h,.nils,?_,?_,.refl _⟩
   · have sn : ∀ q : Bool→Res,snk .nils q = q true:=fun q=>rfl
     rw [call40]
     simp -implicitDefEqProofs only [sh40,↓sn,↓evR]
   · cases hw : ws with
     | nil=>exact .nils 1
     | cons x ws=>rw [hw] at w; cases w
 · obtain ⟨h1,e1,r1,u1⟩:=newk_law h (.arr 1 0 .e false)
   have U1:=u1.up
   have e1' : ∀ q,words.new h (.arr 1 0 .e .false) q = q h.nx h1:=e1
   have w1 : CellA h1 A (.sl 1 (ws.map wT)) v:=w.mv (fun _ hx=>hx) fun b hb=>U1.get b (hA _ hb)
   have ow : Own h1 h.nx.val (.slice h.nx 0 0 (some 0) 1) []:=.sl h.nx (some 0) [] (Nat.le_refl _) u1.lt ⟨0,.e,r1,wf_e (by omega),rfl,fun i=>by simp [T.cell,T.get]⟩ fun n hn=>by cases hn; rfl
   obtain ⟨h2,v2,e2,w2,U2⟩:=appendk_own ow (new:=ws.map fun x=>.int .u64 (.ofNat x)) U1.nx (by simpa using hl)
   have e2' : ∀ q : V→Heap→Res,words.app 1 (.slice h.nx 0 0 (.some 0) 1) v h1 q = q v2 h2:=fun q=>by
    show srck 1 v h1 (fun m new=>appendk 1 (.slice h.nx 0 0 (.some 0) 1) m new h1 q) = _
    rw [src_words w1]
    have:=e2 q
    rw [List.length_map] at this
    exact this
   have r0 : ∀ q : T→Res,words.row 1 0 [] q = q .e:=fun q=>rfl
   have sn : ∀ q : Bool→Res,snk v q = q false:=fun q=>by
    generalize ws.map wT = rows at w
    cases w with
    | nils=>exact absurd rfl hn
    | emp=>rfl
    | sl=>rfl
   refine ⟨h2,v2,?_,own_words (by simpa using w2),⟨Nat.le_trans U1.nx U2.nx,fun b hb=>(U2.get b hb).trans (U1.get b hb)⟩⟩
   rw [call40]
   simp -implicitDefEqProofs only [sh40,↓sn,↓r0,↓e1',↓e2',↓evR]
end
end Go.Ev.WIB

/- InternBack: records and terms. -/
namespace Go.Ev.WIB
open Go.Proofs
set_option maxRecDepth 100000
theorem sMM_max (a b : Nat) (h : Heap) (k : V→Heap→Res) : sMM true (.int .i64 (.ofNat a)) (.int .i64 (.ofNat b)) h k = k (.int .i64 (.ofNat (max a b))) h:=by
 show ifk (Nat.beq (kno .i64) (kno .i64)) (ifk (ilt (.ofNat a) (.ofNat b)) (k (.int .i64 (.ofNat b)) h) (k (.int .i64 (.ofNat a)) h)) .fail = _
 rw [kno_refl,ifk_true,ilt_nat,ifk_eq]
 by_cases hab : a < b
 · rw [if_pos (by simpa using hab),Nat.max_eq_right (by omega)]
 · rw [if_neg (by simpa using hab),Nat.max_eq_left (by omega)]
def putP (sh : List Sh) (L : List Th) (t : Th) : Nat × List Th:=
 match (mapL sh L).find? (fun x=>x.1 = keyB t) with
 | some x=>(x.2,L)
 | none=>(cnt L t.shape + fst0 sh t.shape,L ++ [t])
theorem fst0_le (sh : List Sh) (s : Nat) : fst0 sh s ≤ 1:=by unfold fst0; split <;> omega
theorem mapF_le (sh : List Sh) : ∀ (pre L : List Th),∀ x ∈ mapF sh pre L,x.2 ≤ pre.length + L.length + 1
 | pre,[],x,h=>by simp [mapF] at h
 | pre,t :: L,x,h=>by
   rw [mapF] at h
   rcases List.mem_cons.1 h with rfl | h
   · have : cnt pre t.shape ≤ pre.length:=idxs_le pre t.shape
     have:=fst0_le sh t.shape
     show cnt pre t.shape + _ ≤ _
     simp only [List.length_cons]
     omega
   · have:=mapF_le sh (pre ++ [t]) L x h
     simp only [List.length_append,List.length_cons,List.length_nil] at this ⊢
     omega
section
variable {h : Heap} {p bo bm : Bid} {c : Option Nat} {va vs : V} {cells pv : List V} {sh : List Sh} {L : List Th} {M : List (List Nat × Nat)} {S X : Nat→Prop} {n d : Nat}
theorem TabR.xs (w : TabR h p sh L S X) {x : Nat} (hx : X x) : x < h.nx.val∧¬ S x:=by
 obtain ⟨_,_,_,_,_,_,_,wx⟩:=w
 exact wx.xs x hx
theorem put_law (w : TabR h p sh L S X) {t : Th} {v : V} (ok : ThOk t) (hn : 1000 ≤ n) (hn2 : t.parts.length < n) (hs : t.shape < sh.length) (hL : L.length < 1000000) (wv : CellA h (Still h (SX S X)) (.sl 1 (t.parts.map wT)) v) :
 ∃ h' S',call tabW n (d + 1 + 1 + 1) f42 [.ptr p 0,.agg 5 (thC t v)] h = .ret (.tup [.int .u64 (.ofNat (putP sh L t).1),ik 0]) h'∧TabR h' p sh (putP sh L t).2 S' X∧Chg S h h'∧∀ x,S' x→S x ∨ h.nx.val ≤ x:=by
 unfold putP
 cases hf : (mapL sh L).find? (fun x=>x.1 = keyB t) with
 | some x=>
   have h1:=List.mem_of_find?_eq_some hf
   have h2 : x.1 = keyB t:=by have:=List.find?_some hf; simpa using this
   have h3:=mapF_le sh [] L x h1
   simp only [List.length_nil] at h3
   obtain ⟨h',e,U⟩:=put_there (d:=d) w ok hn hn2 wv (k:=x.2) (by rw [← h2]; exact h1) (by omega)
   exact ⟨h',S,e,w.up U,U.chg,fun x hx=>.inl hx⟩
 | none=>
   obtain ⟨h',S',e,w',C,sS⟩:=put_new (d:=d) w ok hn hn2 hs hL wv fun x hx e=>by
    have:=List.find?_eq_none.1 hf x hx
    simp [e] at this
   exact ⟨h',S',e,w',C,sS⟩
def digN : Nat→Nat→List Nat
 | 0,_=>[]
 | l + 1,t=>t % 256 :: digN l (t / 256)
theorem digN_ok : ∀ (l t : Nat),t < 256 ^ l→Bytes (digN l t)∧(digN l t).length = l∧packN (digN l t) = t
 | 0,t,h=>⟨.nil,rfl,by simp at h; subst h; rfl⟩
 | l + 1,t,h=>by
   obtain ⟨h1,h2,h3⟩:=digN_ok l (t / 256) (by rw [Nat.pow_succ] at h; omega)
   exact ⟨.cons (by omega) h1,by rw [digN,List.length_cons,h2],by rw [digN,packN,h3]; omega⟩
theorem sV_dig {l t : Nat} (h : t < 256 ^ l) : sV (digN l t) = .str l t:=by
 obtain ⟨_,h2,h3⟩:=digN_ok l t h
 rw [sV,h2,h3]
theorem sym_law (w : TabR h p sh L S X) (ok : ShsOk sh) (hn : 1000 ≤ n) (hL : L.length < 1000000) {l t : Nat} (ht : t < 256 ^ l) (hl : l ≤ 65536) :
 ∃ h' S',call tabW n (d + 1 + 1 + 1 + 1) f44 [.ptr p 0,.str l t] h = .ret (.tup [.int .u64 (.ofNat (putP sh L (symT (digN l t))).1),ik 0]) h'∧TabR h' p sh (putP sh L (symT (digN l t))).2 S' X∧Chg S h h'∧∀ x,S' x→S x ∨ h.nx.val ≤ x:=by
 obtain ⟨b1,b2,b3⟩:=digN_ok l t ht
 obtain ⟨h',S',e,r⟩:=put_law (n:=n) (d:=d) (v:=.nils) w (symT_ok b1 (by omega)) hn (by simp [symT]; omega) (show 1 < sh.length by have:=ok.len; omega) hL (.nils 1)
 refine ⟨h',S',?_,r⟩
 have n1 : ilt (.ofNat 65536) (.ofNat l) = false:=ilt_false (by omega)
 have pn : ∀ q : Bool→Res,pnk (.ptr p 0) q = q false:=fun q=>rfl
 have e' : call tabW n (d + 1 + 1 + 1) f42 [.ptr p 0,.agg 5 [.int .i64 (.ofNat 1),.int .i64 (.ofNat 0),.str l t,.nils,.int .i64 (.ofNat 0)]] h = .ret (.tup [.int .u64 (.ofNat (putP sh L (symT (digN l t))).1),ik 0]) h':=by
  rw [← sV_dig ht]; exact e
 rw [call44]
 simp -implicitDefEqProofs only [sh44,↓pn,↓n1,↓e',↓evR]
def deepF (sh : List Sh) (L : List Th) : Nat→List Nat→List Nat→Nat
 | D,a :: as',x :: xs=>deepF sh L (max D ((isW sh L a x).getD 0 + 1)) as' xs
 | D,_,_=>D
def makeP (sh : List Sh) (L : List Th) (s b : Nat) (want ws : List Nat) : Option Nat × List Th:=
 if 100 < deepF sh L 1 want ws then (none,L) else (some (putP sh L ⟨s,b,[],ws,deepF sh L 1 want ws⟩).1,(putP sh L ⟨s,b,[],ws,deepF sh L 1 want ws⟩).2)
theorem make_loop {hs : Heap} (w : TabR hs p sh L S X) (ok : ShsOk sh) {want ws : List Nat} {vw vp v12 : V} {px : Bid} {s b : Nat} (hpx : hs.nx.val ≤ px.val) (hL : L.length ≤ 1000000) (hdeep : ∀ t ∈ L,t.deep ≤ 100)
 (ww : CellA hs (Still hs S) (.sl 1 (want.map iT)) vw) (wp : CellA hs (Still hs S) (.sl 1 (ws.map wT)) vp) (hl : ws.length = want.length) (hl2 : ws.length ≤ 12) (hws : ∀ x ∈ ws,x < 18446744073709551616) (hwk : ∀ a ∈ want,a < sh.length)
 (hv : ∀ (i a x : Nat),want[i]? = some a→ws[i]? = some x→(isW sh L a x).isSome) :
 ∀ (j : Nat) {i q D : Nat} {h : Heap},i + j = ws.length→j < q→Up hs h→px.val < h.nx.val→Row (h.t.get px) 5 [I (.ofNat s),I (.ofNat b),.str 0 0,v12,I (.ofNat D)] →
  ∃ h',lpk (b19_1 words n (call tabW n (d + 1 + 1 + 1))) q [.ptr p 0,vw,.ptr px 0,vp,I (.ofNat ws.length),I (.ofNat i)] h = .done .normal [.ptr p 0,.und,.und,.ptr px 0] h'∧Up hs h'∧px.val < h'.nx.val ∧
   Row (h'.t.get px) 5 [I (.ofNat s),I (.ofNat b),.str 0 0,v12,I (.ofNat (deepF sh L D (want.drop i) (ws.drop i)))]
 | j,i,0,_,_,_,h0,_,_,_=>absurd h0 (Nat.not_lt_zero _)
 | 0,i,q + 1,D,h,hi,_,U,lx,r=>by
   have n1 : ilt (.ofNat i) (.ofNat ws.length) = false:=ilt_false (by omega)
   refine ⟨h,?_,U,lx,?_⟩
   · rw [lpk_succ]
     simp -implicitDefEqProofs only [b19_1,↓n1,↓evR]
   · rw [List.drop_eq_nil_of_le (by omega),List.drop_eq_nil_of_le (by omega)]
     exact r
 | j + 1,i,q + 1,D,h,hi,hq,U,lx,r=>by
   have hik : i < ws.length:=by omega
   have hiw : i < want.length:=by omega
   have lt : ∀ x,S x→x < hs.nx.val:=fun x hx=>w.lts hx
   obtain ⟨b1,o1,m1,e1,a1⟩:=word_at (wp.stay U lt) hik
   obtain ⟨b2,o2,m2,e2,a2⟩:=want_at (ww.stay U lt) hiw
   obtain ⟨bo,bm,c,va,vs,cells,pv,wx⟩:=w.up U
   have hwl:=hwk _ (List.getElem_mem hiw)
   have ei:=wx.is (n:=n) (d:=d) (s:=want[i]) (k:=ws[i]) (ok.kind hwl) (hws _ (List.getElem_mem hik)) (by omega)
   have hsome:=hv i want[i] ws[i] (List.getElem?_eq_getElem hiw) (List.getElem?_eq_getElem hik)
   rw [hsome] at ei
   have n1:=ilt_true hik
   have n2 : Nat.blt i ws.length = true:=blt_of hik
   have n2' : Nat.blt i want.length = true:=blt_of hiw
   have n3:=ad_nat (a:=i) (b:=1) (by omega)
   obtain ⟨dd,hdd⟩ : ∃ dd,(isW sh L want[i] ws[i]).getD 0 = dd:=⟨_,rfl⟩
   have hdd100 : dd ≤ 100:=by
    rw [← hdd]
    unfold isW
    split
    · simp
    · split
      · simp
      · split
        · rename_i jj hjj
          cases hL' : L[jj]? with
          | none=>simp
          | some t=>simpa using hdeep t (List.mem_of_getElem? hL')
        · simp
   have n4:=ad_nat (a:=dd) (b:=1) (by omega)
   have c4 : ∀ q : V→Res,words.load1 h px 4 q = q (I (.ofNat D)):=fun q=>load1k_law r rfl q
   obtain ⟨h1,e3,r1,B1⟩:=storek_law (o:=4) (n:=1) (vs:=[I (.ofNat (max D (dd + 1)))]) r rfl (by simp)
   have e3' : ∀ q,words.store h px (Nat.add 0 4) 1 [I (.ofNat (max D (dd + 1)))] q = q h1:=e3
   have U1 : Up hs h1:=⟨by rw [B1.nx]; exact U.nx,fun b' hb=>by rw [B1.get b' (by rintro rfl; omega)]; exact U.get b' hb⟩
   have mm:=fun (q : V→Heap→Res)=>sMM_max D (dd + 1) h q
   obtain ⟨h2,e4,U2,lx2,r2⟩:=make_loop w ok hpx hL hdeep ww wp hl hl2 hws hwk hv j (i:=i + 1) (q:=q) (D:=max D (dd + 1)) (h:=h1) (by omega) (by omega) U1 (by rw [B1.nx]; exact lx) r1
   rw [hdd] at ei
   refine ⟨h2,?_,U2,lx2,?_⟩
   · rw [lpk_succ]
     subst e1; subst e2
     simp -implicitDefEqProofs only [b19_1,↓n1,↓n2,↓n2',↓a1,↓a2,↓ei,↓c4,↓n4,↓mm,↓e3',↓n3,↓e4,↓evR]
   · rw [List.drop_eq_getElem_cons hiw,List.drop_eq_getElem_cons hik,deepF,hdd]
     exact r2
theorem make_law (w : TabR h p sh L S X) (ok : ShsOk sh) (hn : 1000 ≤ n) (hL : L.length < 1000000) (hdeep : ∀ t ∈ L,t.deep ≤ 100) {s b : Nat} {want ws : List Nat} {vp : V} (hw : wantOf sh s (.ofNat b) = some want) (wp : CellA h (Still h S) (.sl 1 (ws.map wT)) vp) (hl : ws.length = want.length)
 (hws : ∀ x ∈ ws,x < 18446744073709551616) (hv : ∀ (i a x : Nat),want[i]? = some a→ws[i]? = some x→(isW sh L a x).isSome) :
 ∃ h' S',call tabW n (d + 1 + 1 + 1 + 1) f19 [.ptr p 0,I (.ofNat s),I (.ofNat b),vp] h = .ret (.tup [.int .u64 (.ofNat ((makeP sh L s b want ws).1.getD 0)),ik (if (makeP sh L s b want ws).1 = none then 3 else 0)]) h'∧TabR h' p sh (makeP sh L s b want ws).2 S' X∧Chg S h h'∧∀ x,S' x→S x ∨ h.nx.val ≤ x:=by
 obtain ⟨hw12,hwk,hb64⟩:=ok.want s _ want hw
 have lt : ∀ x,S x→x < h.nx.val:=fun x hx=>w.lts hx
 obtain ⟨bo,bm,c,va,vs,cells,pv,wx⟩:=w
 have w : TabR h p sh L S X:=⟨_,_,_,_,_,_,_,wx⟩
 obtain ⟨vw,ew,rw'⟩:=wx.want (n:=n) (d:=d + 1) (s:=s) (b:=.ofNat b) (l:=want) hw
 have rw':=noX rw'
 have hs : s < sh.length:=by
  by_cases hs : s < sh.length
  · exact hs
  · simp [wantOf,List.getElem?_eq_none (Nat.not_lt.1 hs)] at hw
 have pn : ∀ q : Bool→Res,pnk (.ptr p 0) q = q false:=fun q=>rfl
 have lw : ∀ q : Nat→Res,lenk vw q = q want.length:=fun q=>by rw [rw'.lenk,List.length_map]
 have lp : ∀ q : Nat→Res,lenk vp q = q ws.length:=fun q=>by rw [wp.lenk,List.length_map]
 have b3 : ieq (.ofNat ws.length) (.ofNat want.length) = true:=by rw [ieq_nat]; simpa using hl
 obtain ⟨h1,v1,e1,w1,U1⟩:=clone_words (n:=n) (d:=d + 1 + 1) wp (fun x hx=>hx.1) (by omega)
 have lt1 : ∀ x,S x→x < h1.nx.val:=fun x hx=>Nat.lt_of_lt_of_le (lt x hx) U1.nx
 obtain ⟨h2,h3,e2,e3,r3,U3,lt3⟩:=new_store h1 (g:=5) (z:=[ik 0,ik 0,.str 0 0,.nils,ik 0]) (l:=[I (.ofNat s),I (.ofNat b),.str 0 0,v1,I (.ofNat 1)]) rfl rfl (by omega)
 have e2' : ∀ q,words.new h1 (.arr 5 1 (repT [ik 0,ik 0,.str 0 0,.nils,ik 0] 1 1) .false) q = q h1.nx h2:=e2
 have e3' : ∀ q,words.store h2 h1.nx 0 5 [I (.ofNat s),I (.ofNat b),.str 0 0,v1,I (.ofNat 1)] q = q h3:=e3
 have pv1 : ∀ q : Nat→List V→Res,partsk v1 q = q 1 [v1]:=fun q=>w1.parts q
 obtain ⟨h4,e4,U4,lx4,r4⟩:=make_loop (n:=n) (d:=d) (w.up U1) ok (Nat.le_refl h1.nx.val) (by omega) hdeep (rw'.stay U1 lt) (wp.stay U1 lt) hl (by omega) hws hwk hv ws.length (i:=0) (q:=n) (D:=1) (h:=h3) (by omega) (by omega) U3 lt3 r3
 rw [List.drop_zero,List.drop_zero] at r4
 have c4 : ∀ q : V→Res,words.load1 h4 h1.nx 4 q = q (I (.ofNat (deepF sh L 1 want ws))):=fun q=>load1k_law r4 rfl q
 have U14:=U1.trans U4
 unfold makeP
 by_cases hd : 100 < deepF sh L 1 want ws
 · have n5:=ilt_true hd
   rw [if_pos hd]
   refine ⟨h4,S,?_,w.up U14,U14.chg,fun x hx=>.inl hx⟩
   rw [call19]
   simp -implicitDefEqProofs only [sh19,↓pn,↓ew,↓lp,↓lw,↓b3,↓e1,↓pv1,↓e2',↓e3',↓e4,↓c4,↓n5,↓evR]
   simp
 · have n5:=ilt_false hd
   rw [if_neg hd]
   have w4:=w.up U14
   have wv4 : CellA h4 (Still h4 (SX S X)) (.sl 1 (ws.map wT)) v1:=w1.mv (fun x hx=>⟨Nat.lt_of_lt_of_le hx.2 U4.nx,fun hs=>hs.elim (fun e=>by have:=lt x e; omega) fun e=>by have:=(w.xs e).1; omega⟩) fun b' hb=>U4.get b' hb.2
   obtain ⟨h5,S5,e5,w5,C5,s5⟩:=put_law (n:=n) (d:=d) (t:=⟨s,b,[],ws,deepF sh L 1 want ws⟩) (v:=v1) w4 ⟨by show s < _; have:=ok.len; omega,by show b < _; have : (b : Int) ≤ 64:=hb64; omega,hws,.nil,by show 0 + ws.length * 10 ≤ _; omega⟩ hn (by show ws.length < n; omega) hs hL wv4
   have l4 : ∀ q : List V→Res,words.load h4 h1.nx 0 5 q = q [I (.ofNat s),I (.ofNat b),.str 0 0,v1,I (.ofNat (deepF sh L 1 want ws))]:=fun q=>loadk_law r4 (by simp) q
   have e5' : call tabW n (d + 1 + 1 + 1) f42 [.ptr p 0,.agg 5 [I (.ofNat s),I (.ofNat b),.str 0 0,v1,I (.ofNat (deepF sh L 1 want ws))]] h4 = .ret (.tup [.int .u64 (.ofNat (putP sh L ⟨s,b,[],ws,deepF sh L 1 want ws⟩).1),ik 0]) h5:=e5
   refine ⟨h5,S5,?_,w5,(U14.chg (S:=S)).trans C5 fun x hx=>.inl hx,fun x hx=>(s5 x hx).imp id fun e=>Nat.le_trans U14.nx e⟩
   rw [call19]
   simp -implicitDefEqProofs only [sh19,↓pn,↓ew,↓lp,↓lw,↓b3,↓e1,↓pv1,↓e2',↓e3',↓e4,↓c4,↓n5,↓l4,↓e5',↓evR]
   simp
end
end Go.Ev.WIB

/- InternBack: what interning comes to, with no program in sight: what a word denotes. -/
namespace Go.Ev.WIB
theorem shortB_inj : ∀ (a b : Nat) {x y : List Nat},shortB a ++ x = shortB b ++ y→a = b∧x = y:=by
 intro a
 induction a using Nat.strongRecOn with
 | ind a ih=>
   intro b x y h
   rw [shortB.eq_def a,shortB.eq_def b] at h
   by_cases ha : a < 128
   · by_cases hb : b < 128
     · rw [dif_pos ha,dif_pos hb] at h
       simpa using h
     · rw [dif_pos ha,dif_neg hb] at h
       simp at h
       omega
   · by_cases hb : b < 128
     · rw [dif_neg ha,dif_pos hb] at h
       simp at h
       omega
     · rw [dif_neg ha,dif_neg hb,List.cons_append,List.cons_append,List.cons.injEq] at h
       obtain ⟨h1,h2⟩:=ih (a / 128) (by omega) (b / 128) h.2
       exact ⟨by omega,h2⟩
theorem flat_inj : ∀ (a b : List Nat),a.length = b.length→a.flatMap shortB = b.flatMap shortB→a = b
 | [],[],_,_=>rfl
 | x :: a,y :: b,hl,h=>by
   rw [List.flatMap_cons,List.flatMap_cons] at h
   obtain ⟨h1,h2⟩:=shortB_inj x y h
   rw [h1,flat_inj a b (by simpa using hl) h2]
 | [],_ :: _,hl,_=>by simp at hl
 | _ :: _,[],hl,_=>by simp at hl
variable {sh : List Sh} {L L' : List Th}
structure Form (sh : List Sh) (t : Th) : Prop where
 sym : kindOf sh t.shape = 2→t.branch = 0∧t.parts = []
 node : kindOf sh t.shape ≠ 2→t.text = []∧∃ want,wantOf sh t.shape (.ofNat t.branch) = some want∧t.parts.length = want.length
def Alike (t u : Th) : Prop:=t.shape = u.shape∧t.branch = u.branch∧t.parts = u.parts∧t.text = u.text
theorem key_inj {t u : Th} (ht : Form sh t) (hu : Form sh u) (h : keyB t = keyB u) : Alike t u:=by
 unfold keyB at h
 simp only [List.append_assoc] at h
 obtain ⟨h1,h⟩:=shortB_inj _ _ h
 obtain ⟨h2,h⟩:=shortB_inj _ _ h
 by_cases hk : kindOf sh t.shape = 2
 · have ⟨_,p1⟩:=ht.sym hk
   have ⟨_,p2⟩:=hu.sym (by rw [← h1]; exact hk)
   rw [p1,p2] at h
   exact ⟨h1,h2,by rw [p1,p2],by simpa using h⟩
 · obtain ⟨t1,w1,e1,l1⟩:=ht.node hk
   obtain ⟨t2,w2,e2,l2⟩:=hu.node (by rw [← h1]; exact hk)
   rw [h1,h2,e2] at e1
   cases e1
   rw [t1,t2,List.append_nil,List.append_nil] at h
   exact ⟨h1,h2,flat_inj _ _ (by omega) h,by rw [t1,t2]⟩
theorem alike_key {t u : Th} (h : Alike t u) : keyB t = keyB u:=by
 obtain ⟨h1,h2,h3,h4⟩:=h
 unfold keyB
 rw [h1,h2,h3,h4]
theorem idxs_pre (L R : List Th) (s : Nat) : idxs (L ++ R) s = idxs L s ++ idxsF s L.length R:=by
 rw [idxs,idxsF_app,Nat.zero_add]; rfl
theorem idxs_at {i : Nat} {t : Th} (h : L[i]? = some t) : (idxs L t.shape)[cnt (L.take i) t.shape]? = some i:=by
 obtain ⟨hi,e0⟩:=List.getElem?_eq_some_iff.1 h
 have e : L = L.take i ++ (t :: L.drop (i + 1)):=by rw [← e0,← List.drop_eq_getElem_cons hi,List.take_append_drop]
 have e2 : idxs L t.shape = idxs (L.take i) t.shape ++ idxsF t.shape (L.take i).length (t :: L.drop (i + 1)):=(congrArg (fun l=>idxs l t.shape) e).trans (idxs_pre _ _ _)
 rw [e2,List.getElem?_append_right (Nat.le_refl _),Nat.sub_self,idxsF,if_pos rfl,List.length_take,Nat.min_eq_left (by omega)]
 rfl
theorem idxs_mono {s w i : Nat} (h : (idxs L s)[w]? = some i) (R : List Th) : (idxs (L ++ R) s)[w]? = some i:=by
 rw [idxs_pre,List.getElem?_append_left (List.getElem?_eq_some_iff.1 h).1]
 exact h
theorem mapF_mem (sh : List Sh) : ∀ (pre R : List Th) (x : List Nat × Nat),x ∈ mapF sh pre R ↔ ∃ i t,R[i]? = some t∧x = (keyB t,cnt (pre ++ R.take i) t.shape + fst0 sh t.shape)
 | pre,[],x=>by simp [mapF]
 | pre,t :: R,x=>by
   rw [mapF,List.mem_cons,mapF_mem sh (pre ++ [t]) R x]
   constructor
   · rintro (rfl | ⟨i,u,h1,rfl⟩)
     · exact ⟨0,t,rfl,by simp⟩
     · exact ⟨i + 1,u,by simpa using h1,by simp⟩
   · rintro ⟨i,u,h1,rfl⟩
     cases i with
     | zero=>simp at h1; subst h1; exact .inl (by simp)
     | succ i=>exact .inr ⟨i,u,by simpa using h1,by simp⟩
theorem mapL_mem (x : List Nat × Nat) : x ∈ mapL sh L ↔ ∃ i t,L[i]? = some t∧x = (keyB t,cnt (L.take i) t.shape + fst0 sh t.shape):=by
 rw [mapL,mapF_mem]
 simp
def Apt (sh : List Sh) (L : List Th) : Prop:=((mapL sh L).map (·.1)).Nodup
theorem apt_inj (a : Apt sh L) {i j : Nat} {t u : Th} (h1 : L[i]? = some t) (h2 : L[j]? = some u) (hk : keyB t = keyB u) : i = j:=by
 have x1 : (keyB t,cnt (L.take i) t.shape + fst0 sh t.shape) ∈ mapL sh L:=(mapL_mem _).2 ⟨i,t,h1,rfl⟩
 have key : ∀ (pre R : List Th),((mapF sh pre R).map (·.1)).Nodup→∀ (i j : Nat) (t u : Th),R[i]? = some t→R[j]? = some u→keyB t = keyB u→i = j:=by
  intro pre R
  induction R generalizing pre with
  | nil=>intro _ i j t u h; simp at h
  | cons r R ih=>
    intro hn i j t u h1 h2 hk
    rw [mapF,List.map_cons,List.nodup_cons] at hn
    have nin : ∀ k v,R[k]? = some v→keyB v ≠ keyB r:=fun k v hv e=>hn.1 (List.mem_map.2 ⟨_,(mapF_mem sh _ _ _).2 ⟨k,v,hv,rfl⟩,e⟩)
    cases i with
    | zero=>
      cases j with
      | zero=>rfl
      | succ j=>simp at h1 h2; subst h1; exact absurd hk.symm (nin j u h2)
    | succ i=>
      cases j with
      | zero=>simp at h1 h2; subst h2; exact absurd hk (nin i t h1)
      | succ j=>rw [ih _ hn.2 i j t u (by simpa using h1) (by simpa using h2) hk]
 exact key [] L a i j t u h1 h2 hk
structure Put (sh : List Sh) (L : List Th) (t : Th) (w : Nat) (L' : List Th) : Prop where
 pre : L <+: L'
 len : L'.length ≤ L.length + 1
 mem : ∀ u ∈ L',u ∈ L ∨ u = t
 new : ∀ i u,L'[i]? = some u→L[i]? = some u ∨ (i = L.length∧u = t)
 fst : fst0 sh t.shape ≤ w
 at_ : ∃ i u,(idxs L' t.shape)[w - fst0 sh t.shape]? = some i∧L'[i]? = some u∧Alike t u
theorem putP_law {t : Th} (hf : ∀ u ∈ L,Form sh u) (ht : Form sh t) : Put sh L t (putP sh L t).1 (putP sh L t).2:=by
 unfold putP
 cases hfi : (mapL sh L).find? (fun x=>x.1 = keyB t) with
 | some x=>
   have h1:=List.mem_of_find?_eq_some hfi
   have h2 : x.1 = keyB t:=by have:=List.find?_some hfi; simpa using this
   obtain ⟨j,v,h3,rfl⟩:=(mapL_mem x).1 h1
   have al:=key_inj ht (hf v (List.mem_of_getElem? h3)) h2.symm
   refine ⟨List.prefix_refl _,by simp,fun u hu=>.inl hu,fun i u hu=>.inl hu,by rw [al.1]; exact Nat.le_add_left _ _,j,v,?_,h3,al⟩
   rw [al.1,Nat.add_sub_cancel]
   exact idxs_at h3
 | none=>
   refine ⟨List.prefix_append _ _,by simp,fun u hu=>?_,fun i u hu=>?_,Nat.le_add_left _ _,L.length,t,?_,by simp,rfl,rfl,rfl,rfl⟩
   · rcases List.mem_append.1 hu with h | h
     · exact .inl h
     · simp at h; exact .inr h
   · by_cases hi : i < L.length
     · rw [List.getElem?_append_left hi] at hu; exact .inl hu
     · rw [List.getElem?_append_right (by omega)] at hu
       have e : i - L.length = 0:=by have:=(List.getElem?_eq_some_iff.1 hu).1; simp at this; omega
       rw [e] at hu
       simp at hu
       exact .inr ⟨by omega,hu.symm⟩
   · rw [Nat.add_sub_cancel,idxs_app,if_pos rfl,List.getElem?_append_right (Nat.le_refl _),Nat.sub_self]
     rfl
theorem isW_mono {s w dd : Nat} (h : isW sh L s w = some dd) (R : List Th) : isW sh (L ++ R) s w = some dd:=by
 unfold isW at h ⊢
 split
 · rename_i h1; rw [if_pos h1] at h; exact h
 · rename_i h1
   rw [if_neg h1] at h
   split
   · rename_i h2; rw [if_pos h2] at h; exact h
   · rename_i h2
     rw [if_neg h2] at h
     split at h
     · rename_i i hi
       rw [idxs_mono hi R]
       simp only
       obtain ⟨t,ht,e⟩:=Option.map_eq_some_iff.1 h
       rw [List.getElem?_append_left (List.getElem?_eq_some_iff.1 ht).1,ht]
       simp [e]
     · cases h
inductive Den (sh : List Sh) (L : List Th) : Nat→Nat→List Tr→Prop where
 | num (s : Nat) (z : Int) (hk : kindOf sh s = 1) : Den sh L s (z % 18446744073709551616).toNat (vT 1 z 0 0 [])
 | nil (s : Nat) (hk : kindOf sh s = 3) : Den sh L s 0 (vT 3 0 0 0 [])
 | sym (s l t w i : Nat) (th : Th) (hk : kindOf sh s = 2) (hi : (idxs L s)[w]? = some i) (ht : L[i]? = some th) (hx : th.text = digN l t) : Den sh L s w (vT 2 0 l t [])
 | node (s k b : Nat) (want : List Nat) (kids : List (List Tr)) (w i : Nat) (th : Th) (hk : k = 4∧kindOf sh s = 3 ∨ k = 5∧kindOf sh s = 4) (hw : wantOf sh s (.ofNat b) = some want) (hf : fst0 sh s ≤ w)
    (hi : (idxs L s)[w - fst0 sh s]? = some i) (ht : L[i]? = some th) (hb : th.branch = b) (hl : kids.length = want.length) (hpl : th.parts.length = want.length)
    (hd : ∀ (j a x : Nat) (r : List Tr),want[j]? = some a→th.parts[j]? = some x→kids[j]? = some r→Den sh L a x r) : Den sh L s w (vT k (.ofNat b) 0 0 kids)
theorem Den.mono {s w : Nat} {r : List Tr} (h : Den sh L s w r) (R : List Th) : Den sh (L ++ R) s w r:=by
 induction h with
 | num s z hk=>exact .num s z hk
 | nil s hk=>exact .nil s hk
 | sym s l t w i th hk hi ht hx=>exact .sym s l t w i th hk (idxs_mono hi R) (by rw [List.getElem?_append_left (List.getElem?_eq_some_iff.1 ht).1]; exact ht) hx
 | node s k b want kids w i th hk hw hf hi ht hb hl hpl hd ih=>exact .node s k b want kids w i th hk hw hf (idxs_mono hi R) (by rw [List.getElem?_append_left (List.getElem?_eq_some_iff.1 ht).1]; exact ht) hb hl hpl ih
theorem Den.pre {s w : Nat} {r : List Tr} (h : Den sh L s w r) (p : L <+: L') : Den sh L' s w r:=by
 obtain ⟨R,rfl⟩:=p
 exact h.mono R
theorem Den.is {s w : Nat} {r : List Tr} (h : Den sh L s w r) : (isW sh L s w).isSome:=by
 cases h with
 | num _ _ hk=>simp [isW,hk]
 | nil _ hk=>simp [isW,hk]
 | sym _ _ _ _ i th hk hi ht hx=>
   have : fst0 sh s = 0:=by simp [fst0,hk]
   simp [isW,hk,this,hi,ht]
 | node _ _ _ _ _ _ i th hk hw hf hi ht=>
   unfold isW
   split
   · rfl
   · split
     · rfl
     · rw [hi]; simp [ht]
end Go.Ev.WIB
