/- IbG: texts joined. -/
import Derived.Test.YtcglhljoepefaaaIbD
/- InternBack: what a word is; whether a shape has a value. -/
namespace Go.Ev.WIB
open Go.Proofs
set_option maxRecDepth 100000
section
variable {h : Heap} {p bo bm : Bid} {c : Option Nat} {va vs : V} {cells pv : List V} {sh : List Sh} {L : List Th} {M : List (List Nat × Nat)} {S X : Nat→Prop} {n d : Nat}
theorem TabX.want_no (w : TabX h p bo bm c va vs cells pv sh L M S X) {s : Nat} {b : Int} (hs : s < sh.length) (hw : wantOf sh s b = none) :
 ∃ v,call tabW n (d + 1 + 1) f28 [.ptr p 0,I (.ofNat s),.int .i64 b] h = .ret (.tup [v,.bool false]) h:=by
 obtain ⟨_,_,l2,_⟩:=w.ld
 have ek:=w.kind (n:=n) (d:=d) (.ofNat s)
 have e : kindI sh (.ofNat s) = sh[s].kind:=by simp [kindI,kindOf,List.getElem?_eq_getElem hs]
 rw [e] at ek
 obtain ⟨b',o,m,vf,vc,rfl,k0,k1,k2,r1,r2⟩:=w.at_ hs
 have n3 : Nat.blt s sh.length = true:=blt_of hs
 have k1' : ∀ k,words.load1 h b' (Nat.add (Nat.add o (Nat.mul s 3)) 1) k = k vf:=k1
 have k2' : ∀ k,words.load1 h b' (Nat.add (Nat.add o (Nat.mul s 3)) 2) k = k vc:=k2
 simp only [wantOf,List.getElem?_eq_getElem hs] at hw
 rw [call28]
 by_cases h3 : sh[s].kind = 3
 · rw [if_pos h3] at hw
   split at hw
   · cases hw
   · rename_i hb
     rw [h3] at ek
     refine ⟨vf,?_⟩
     have n4 : ieq (.ofNat 3) (.ofNat 3) = true:=rfl
     have n5 : ieq b (.ofNat 0) = false:=by rw [ieq_eq]; simpa using hb
     simp -implicitDefEqProofs only [sh28,↓ek,↓l2,↓n3,↓k1',↓n4,↓n5,↓evR]
 · rw [if_neg h3] at hw
   have n4 : ieq (.ofNat sh[s].kind) (.ofNat 3) = false:=by rw [ieq_nat]; simpa using h3
   by_cases h4 : sh[s].kind = 4
   · rw [if_pos h4] at hw
     have n5 : ieq (.ofNat sh[s].kind) (.ofNat 4) = true:=by rw [ieq_nat]; simpa using h4
     have ln : ∀ k : Nat→Res,lenk vc k = k sh[s].cases.length:=fun k=>by rw [r2.lenk,List.length_map]
     refine ⟨.nils,?_⟩
     cases b with
     | negSucc b=>
       have n6 : ilt (.negSucc b) (.ofNat 0) = true:=rfl
       simp -implicitDefEqProofs only [sh28,↓ek,↓l2,↓n3,↓k2',↓n4,↓n5,↓n6,↓evR]
     | ofNat b=>
       have n6 : ilt (.ofNat b) (.ofNat 0) = false:=ilt_false (by omega)
       have n7 : ilt (.ofNat b) (.ofNat sh[s].cases.length) = false:=ilt_false (by
        have : sh[s].cases[b]? = none:=hw
        simpa using this)
       simp -implicitDefEqProofs only [sh28,↓ek,↓l2,↓n3,↓k2',↓n4,↓n5,↓n6,↓n7,↓ln,↓evR]
   · have n5 : ieq (.ofNat sh[s].kind) (.ofNat 4) = false:=by rw [ieq_nat]; simpa using h4
     exact ⟨.nils,by simp -implicitDefEqProofs only [sh28,↓ek,↓n4,↓n5,↓evR]⟩
def wantI (sh : List Sh) (s z : Int) : Option (List Nat):=match s with | .ofNat s=>wantOf sh s z | .negSucc _=>none
theorem want_kind {s : Nat} {z : Int} {l : List Nat} (hw : wantOf sh s z = some l) : kindOf sh s = 3 ∨ kindOf sh s = 4:=by
 unfold wantOf at hw
 unfold kindOf
 split at hw
 · rename_i x hx
   by_cases h3 : x.kind = 3
   · exact .inl h3
   · rw [if_neg h3] at hw
     by_cases h4 : x.kind = 4
     · exact .inr h4
     · rw [if_neg h4] at hw; cases hw
 · cases hw
theorem TabX.want_none (w : TabX h p bo bm c va vs cells pv sh L M S X) {s : Int} {b : Int} (h3 : kindI sh s ≠ 3) (h4 : kindI sh s ≠ 4) :
 call tabW n (d + 1 + 1) f28 [.ptr p 0,.int .i64 s,.int .i64 b] h = .ret (.tup [.nils,.bool false]) h:=by
 have ek:=w.kind (n:=n) (d:=d) s
 have n4 : ieq (.ofNat (kindI sh s)) (.ofNat 3) = false:=by rw [ieq_nat]; simpa using h3
 have n5 : ieq (.ofNat (kindI sh s)) (.ofNat 4) = false:=by rw [ieq_nat]; simpa using h4
 rw [call28]
 simp -implicitDefEqProofs only [sh28,↓ek,↓n4,↓n5,↓evR]
def isW (sh : List Sh) (L : List Th) (s w : Nat) : Option Nat:=
 if kindOf sh s = 1 then some 0 else if kindOf sh s = 3∧w = 0 then some 0 else
  match (idxs L s)[w - fst0 sh s]? with
  | some i=>(L[i]?).map (·.deep)
  | none=>none
theorem TabX.is (w : TabX h p bo bm c va vs cells pv sh L M S X) {s k : Nat} (hk : 1 ≤ kindOf sh s∧kindOf sh s ≤ 4) (hk64 : k < 18446744073709551616) (hL : L.length ≤ 4611686018427387904) :
 call tabW n (d + 1 + 1 + 1) f41 [.ptr p 0,I (.ofNat s),.int .u64 (.ofNat k)] h = .ret (.tup [I (.ofNat ((isW sh L s k).getD 0)),.bool (isW sh L s k).isSome]) h:=by
 obtain ⟨hs,ke⟩:=kind_ge (sh:=sh) (s:=s) hk.1
 have ek:=w.kind (n:=n) (d:=d + 1) (.ofNat s)
 rw [ke] at ek
 have k7 : Nat.beq (kno .u64) 7 = true:=rfl
 rw [call41]
 by_cases h1 : kindOf sh s = 1
 · have n1 : ieq (.ofNat (kindOf sh s)) (.ofNat 1) = true:=by rw [h1]; rfl
   have e : isW sh L s k = some 0:=by simp [isW,h1]
   rw [e]
   simp -implicitDefEqProofs only [sh41,↓ek,↓n1,↓Option.getD_some,↓Option.isSome_some,↓evR]
 · have n1 : ieq (.ofNat (kindOf sh s)) (.ofNat 1) = false:=by rw [ieq_nat]; simpa using h1
   by_cases h3 : kindOf sh s = 3∧k = 0
   · obtain ⟨h3,rfl⟩:=h3
     have n2 : ieq (.ofNat (kindOf sh s)) (.ofNat 3) = true:=by rw [h3]; rfl
     have n3 : ieq (.ofNat 0) (.ofNat 0) = true:=rfl
     have e : isW sh L s 0 = some 0:=by simp [isW,h3]
     rw [e]
     simp -implicitDefEqProofs only [sh41,↓ek,↓n1,↓n2,↓k7,↓n3,↓Option.getD_some,↓Option.isSome_some,↓evR]
   · have hf : fst0 sh s ≤ k:=by
      simp only [fst0]
      split
      · rename_i h; have:=Nat.pos_of_ne_zero (fun e=>h3 ⟨h,e⟩); omega
      · omega
     have ep:=w.place (n:=n) (d:=d) (k:=k) (show kindOf sh s = 2 ∨ kindOf sh s = 3 ∨ kindOf sh s = 4 by omega) hf hk64 hL
     have e : isW sh L s k = match (idxs L s)[k - fst0 sh s]? with | some i=>(L[i]?).map (·.deep) | none=>none:=by simp [isW,h1,h3]
     have key : ∀ r,(call tabW n (d + 1 + 1) f26 [.ptr p 0,I (.ofNat s),.int .u64 (.ofNat k)] h = .ret (.tup [.int .u64 (.ofNat (k - fst0 sh s)),.bool (decide (k - fst0 sh s < cnt L s))]) h →
      sh41 words n (call tabW n (d + 1 + 1)) [.ptr p 0,I (.ofNat s),.int .u64 (.ofNat k)] h = r)→sh41 words n (call tabW n (d + 1 + 1)) [.ptr p 0,I (.ofNat s),.int .u64 (.ofNat k)] h = r:=fun r f=>f ep
     by_cases hlt : k - fst0 sh s < cnt L s
     · obtain ⟨t,v,b,ht,hv,hts,eg,_,lg⟩:=w.get (n:=n) (d:=d + 1) hs (List.getElem?_eq_getElem hlt)
       have e2 : isW sh L s k = some t.deep:=by rw [e,List.getElem?_eq_getElem hlt]; simp [ht]
       rw [e2]
       rw [decide_eq_true hlt] at ep
       have l4:=lg 4 (I (.ofNat t.deep)) (by omega) rfl
       by_cases h3' : kindOf sh s = 3
       · have n2 : ieq (.ofNat (kindOf sh s)) (.ofNat 3) = true:=by rw [h3']; rfl
         have n3 : ieq (.ofNat k) (.ofNat 0) = false:=by rw [ieq_nat]; simpa using fun e=>h3 ⟨h3',e⟩
         simp -implicitDefEqProofs only [sh41,↓ek,↓n1,↓n2,↓k7,↓n3,↓ep,↓eg,↓l4,↓Option.getD_some,↓Option.isSome_some,↓evR]
       · have n2 : ieq (.ofNat (kindOf sh s)) (.ofNat 3) = false:=by rw [ieq_nat]; simpa using h3'
         simp -implicitDefEqProofs only [sh41,↓ek,↓n1,↓n2,↓ep,↓eg,↓l4,↓Option.getD_some,↓Option.isSome_some,↓evR]
     · have e2 : isW sh L s k = none:=by rw [e,List.getElem?_eq_none (Nat.not_lt.1 hlt)]
       rw [e2]
       rw [decide_eq_false hlt] at ep
       by_cases h3' : kindOf sh s = 3
       · have n2 : ieq (.ofNat (kindOf sh s)) (.ofNat 3) = true:=by rw [h3']; rfl
         have n3 : ieq (.ofNat k) (.ofNat 0) = false:=by rw [ieq_nat]; simpa using fun e=>h3 ⟨h3',e⟩
         simp -implicitDefEqProofs only [sh41,↓ek,↓n1,↓n2,↓k7,↓n3,↓ep,↓Option.getD_none,↓Option.isSome_none,↓evR]
       · have n2 : ieq (.ofNat (kindOf sh s)) (.ofNat 3) = false:=by rw [ieq_nat]; simpa using h3'
         simp -implicitDefEqProofs only [sh41,↓ek,↓n1,↓n2,↓ep,↓Option.getD_none,↓Option.isSome_none,↓evR]
end
abbrev vT (k : Nat) (z : Int) (l t : Nat) (kids : List (List Tr)) : List Tr:=[.i .u8 (.ofNat k),.i .i64 z,.s l t,.sl 4 kids]
inductive IsV : List Tr→Prop where
 | mk (k : Nat) (z : Int) (l t : Nat) (kids : List (List Tr)) (hz : -9223372036854775808 ≤ z∧z ≤ 9223372036854775807) (hl : l ≤ 140737488351232) (hkl : kids.length ≤ 140737488351232) (hv : ∀ r ∈ kids,IsV r) (ht : t < 256 ^ l) : IsV (vT k z l t kids)
inductive Fits (sh : List Sh) : Nat→List Tr→Prop where
 | num (s : Nat) (z : Int) (hk : kindOf sh s = 1) : Fits sh s (vT 1 z 0 0 [])
 | sym (s l t : Nat) (hk : kindOf sh s = 2) : Fits sh s (vT 2 0 l t [])
 | nil (s : Nat) (hk : kindOf sh s = 3) : Fits sh s (vT 3 0 0 0 [])
 | node (s k : Nat) (z : Int) (want : List Nat) (kids : List (List Tr)) (hk : k = 4∧kindOf sh s = 3 ∨ k = 5∧kindOf sh s = 4) (hw : wantOf sh s z = some want) (hl : kids.length = want.length)
    (hf : ∀ (i a : Nat) (r : List Tr),want[i]? = some a→kids[i]? = some r→Fits sh a r) : Fits sh s (vT k z 0 0 kids)
structure ShsOk (sh : List Sh) : Prop where
 len : 2 ≤ sh.length∧sh.length ≤ 258
 k0 : kindOf sh 0 = 1
 k1 : kindOf sh 1 = 2
 k2 : ∀ s,2 ≤ s→s < sh.length→kindOf sh s = 3 ∨ kindOf sh s = 4
 want : ∀ s b l,wantOf sh s b = some l→l.length ≤ 12∧(∀ a ∈ l,a < sh.length)∧b ≤ 64
theorem ShsOk.kind {sh : List Sh} (ok : ShsOk sh) {s : Nat} (hs : s < sh.length) : 1 ≤ kindOf sh s∧kindOf sh s ≤ 4:=by
 have:=ok.k0; have:=ok.k1
 match s with
 | 0=>omega
 | 1=>omega
 | s + 2=>have:=ok.k2 (s + 2) (by omega) hs; omega
section
variable {h : Heap} {p bo bm : Bid} {c : Option Nat} {va vs : V} {cells pv : List V} {sh : List Sh} {L : List Th} {M : List (List Nat × Nat)} {S X : Nat→Prop} {n d : Nat}
theorem kid_row {A : Nat→Prop} {kids : List (List Tr)} {vk : V} (w : CellA h A (.sl 4 kids) vk) {i : Nat} (hi : i < kids.length) (hA : ∀ x,A x→x < h.nx.val) :
 ∃ b o m l h1 h2,vk = .slice b o kids.length m 4∧l.length = 4∧(∀ q : List V→Res,words.load h b (Nat.add o (Nat.mul i 4)) 4 q = q l) ∧
  (∀ q,words.new h (.arr 4 1 (repT [uk 0,ik 0,.str 0 0,.nils] 1 1) .false) q = q h.nx h1)∧(∀ q : Heap→Res,words.store h1 h.nx 0 4 l q = q h2)∧(∀ q : List V→Res,words.load h2 h.nx 0 4 q = q l)∧Up h h2∧RowA h2 A kids[i] l:=by
 obtain ⟨b,o,m,l,e,r,hl,_,ld,_⟩:=w.row hi
 obtain ⟨h1,h2,e1,e2,row2,U2,lt2⟩:=new_store h (g:=4) (z:=[uk 0,ik 0,.str 0 0,.nils]) (l:=l) rfl hl (by omega)
 refine ⟨b,o,m,l,h1,h2,e,hl,ld,e1,e2,fun q=>?_,U2,r.mv (fun _ hx=>hx) fun b hb=>U2.get b (hA _ hb)⟩
 have:=loadk_law row2 (o:=0) (n:=4) (by omega) q
 rw [List.drop_zero,List.take_of_length_le (by omega)] at this
 exact this
theorem want_at {A : Nat→Prop} {want : List Nat} {vw : V} (w : CellA h A (.sl 1 (want.map iT)) vw) {i : Nat} (hi : i < want.length) : ∃ b o m,vw = .slice b o want.length m 1∧∀ q : V→Res,words.load1 h b (Nat.add o i) q = q (I (.ofNat want[i])):=by
 obtain ⟨b,o,m,l',e,r,_,_,_,ld⟩:=w.row (i:=i) (by simpa using hi)
 rw [List.getElem_map] at r
 obtain ⟨v0,rfl,r0⟩:=r.inv1
 obtain rfl:=r0.int_inv
 rw [List.length_map] at e
 refine ⟨b,o,m,e,fun k=>?_⟩
 have:=ld 0 _ rfl k
 rw [Nat.mul_one,Nat.add_zero] at this
 exact this
theorem word_at {A : Nat→Prop} {ws : List Nat} {vw : V} (w : CellA h A (.sl 1 (ws.map wT)) vw) {i : Nat} (hi : i < ws.length) : ∃ b o m,vw = .slice b o ws.length m 1∧∀ q : V→Res,words.load1 h b (Nat.add o i) q = q (.int .u64 (.ofNat ws[i])):=by
 obtain ⟨b,o,m,l',e,r,_,_,_,ld⟩:=w.row (i:=i) (by simpa using hi)
 rw [List.getElem_map] at r
 obtain ⟨v0,rfl,r0⟩:=r.inv1
 obtain rfl:=r0.int_inv
 rw [List.length_map] at e
 refine ⟨b,o,m,e,fun k=>?_⟩
 have:=ld 0 _ rfl k
 rw [Nat.mul_one,Nat.add_zero] at this
 exact this
def FitsLaw (n d : Nat) (p : Bid) (sh : List Sh) (r : List Tr) : Prop:=
 ∀ (s : Int) (h : Heap) (L : List Th) (S X : Nat→Prop) (l : List V),TabR h p sh L S X→RowA h (Still h S) r l→∃ b h',call tabW n d f21 [.ptr p 0,.int .i64 s,.agg 4 l] h = .ret (.bool b) h'∧Up h h'∧(b = true ↔ ∃ s',s = .ofNat s'∧Fits sh s' r)
theorem fits_loop {hs : Heap} {want : List Nat} {kids : List (List Tr)} {vw vk : V} (w : TabR hs p sh L S X) (ww : CellA hs (Still hs S) (.sl 1 (want.map iT)) vw) (wk : CellA hs (Still hs S) (.sl 4 kids) vk) (hl : kids.length = want.length) (hl2 : want.length ≤ 1000000) (IH : ∀ r ∈ kids,FitsLaw n d p sh r) :
 ∀ (j : Nat) {i q : Nat} {h : Heap},i + j = kids.length→j < q→Up hs h→∃ b h',lpk (b21_1 words n (call tabW n d)) q [.ptr p 0,vw,vk,I (.ofNat kids.length),I (.ofNat i)] h = .ret (.bool b) h'∧Up h h' ∧
  (b = true ↔ ∀ (k a : Nat) (r : List Tr),i ≤ k→want[k]? = some a→kids[k]? = some r→Fits sh a r)
 | j,i,0,_,_,h0,_=>absurd h0 (Nat.not_lt_zero _)
 | 0,i,q + 1,h,hi,_,U=>by
   have n1 : ilt (.ofNat i) (.ofNat kids.length) = false:=ilt_false (by omega)
   refine ⟨true,h,?_,.refl _,⟨fun _ k a r hk h1 h2=>?_,fun _=>rfl⟩⟩
   · rw [lpk_succ]
     simp -implicitDefEqProofs only [b21_1,↓n1,↓evR]
   · have:=(List.getElem?_eq_some_iff.1 h2).1
     omega
 | j + 1,i,q + 1,h,hi,hq,U=>by
   have hik : i < kids.length:=by omega
   have hiw : i < want.length:=by omega
   have lt : ∀ x,S x→x < hs.nx.val:=fun x hx=>w.lts hx
   have wk1:=wk.stay U lt
   have ww1:=ww.stay U lt
   obtain ⟨b,o,m,l,h1,h2,e,hl4,a1,d1,d2,a2,U2,r2⟩:=kid_row wk1 hik fun x hx=>hx.1
   obtain ⟨b3,o3,m3,e3,a3⟩:=want_at (ww1.stay U2 fun x hx=>Nat.lt_of_lt_of_le (lt x hx) U.nx) hiw
   obtain ⟨bb,h3,e4,U3,iff⟩:=IH kids[i] (List.getElem_mem hik) (.ofNat want[i]) h2 L S X l ((w.up U).up U2) (r2.mv (fun x hx=>⟨Nat.lt_of_lt_of_le hx.1 U2.nx,hx.2⟩) fun _ _=>rfl)
   have n1:=ilt_true hik
   have n2 : Nat.blt i kids.length = true:=blt_of hik
   have n2' : Nat.blt i want.length = true:=blt_of hiw
   have n3:=ad_nat (a:=i) (b:=1) (by omega)
   have iff' : bb = true ↔ Fits sh want[i] kids[i]:=iff.trans ⟨fun ⟨s',e,f⟩=>by cases e; exact f,fun f=>⟨_,rfl,f⟩⟩
   cases bb with
   | false=>
     refine ⟨false,h3,?_,U2.trans U3,⟨fun e=>(by cases e),fun f=>iff'.2 (f i _ _ (Nat.le_refl _) (List.getElem?_eq_getElem hiw) (List.getElem?_eq_getElem hik))⟩⟩
     rw [lpk_succ]
     subst e; subst e3
     simp -implicitDefEqProofs only [b21_1,↓n1,↓n2,↓n2',↓a1,↓d1,↓d2,↓a2,↓a3,↓e4,↓evR]
   | true=>
     obtain ⟨b5,h5,e5,U5,iff5⟩:=fits_loop w ww wk hl hl2 IH j (i:=i + 1) (q:=q) (h:=h3) (by omega) (by omega) ((U.trans U2).trans U3)
     refine ⟨b5,h5,?_,(U2.trans U3).trans U5,iff5.trans ⟨fun f k a r hk h1 h2=>?_,fun f k a r hk h1 h2=>f k a r (by omega) h1 h2⟩⟩
     · rw [lpk_succ]
       subst e; subst e3
       simp -implicitDefEqProofs only [b21_1,↓n1,↓n2,↓n2',↓a1,↓d1,↓d2,↓a2,↓a3,↓e4,↓n3,↓e5,↓evR]
     · by_cases hki : k = i
       · subst hki
         rw [List.getElem?_eq_getElem hiw] at h1
         rw [List.getElem?_eq_getElem hik] at h2
         cases h1; cases h2
         exact iff'.1 rfl
       · exact f k a r (by omega) h1 h2
set_option maxHeartbeats 1000000 in
theorem fits_law (ok : ShsOk sh) (hn : 100 ≤ n) : ∀ (m : Nat) {r : List Tr} {d : Nat},SizeOf.sizeOf r < m→IsV r→m + 4 ≤ d→FitsLaw n d p sh r
 | 0,_,_,hm,_,_=>absurd hm (Nat.not_lt_zero _)
 | m + 1,r,d,hm,hv,hd=>by
   obtain ⟨d,rfl⟩ : ∃ d',d = d' + 1 + 1 + 1:=⟨d - 3,by omega⟩
   cases hv with
   | mk k z l t kids hz hl hkl hv ht0=>
   intro s h L S X lv w rv
   obtain ⟨v0,v1,v2,vk,rfl,r0,r1,r2,rk⟩:=rv.inv4
   obtain rfl:=r0.int_inv
   obtain rfl:=r1.int_inv
   obtain ⟨rfl,ht⟩:=r2.str_inv
   have IH : ∀ r ∈ kids,FitsLaw n (d + 1 + 1) p sh r:=fun r hr=>fits_law ok hn m (by
    have:=List.sizeOf_lt_of_mem hr
    simp only [List.cons.sizeOf_spec,Tr.sl.sizeOf_spec] at hm
    omega) (hv r hr) (by omega)
   obtain ⟨h0,e0,row0,U0,lt0⟩:=new_row h (g:=4) (l:=[.int .u8 (.ofNat k),.int .i64 z,.str l t,vk]) rfl (by omega)
   have e0' : ∀ q,words.new h (.arr 4 1 (.lf [.int .u8 (.ofNat k),.int .i64 z,.str l t,vk]) .false) q = q h.nx h0:=e0
   have c0 : ∀ q : V→Res,words.load1 h0 h.nx 0 q = q (.int .u8 (.ofNat k)):=fun q=>load1k_law row0 rfl q
   have c1 : ∀ q : V→Res,words.load1 h0 h.nx 1 q = q (.int .i64 z):=fun q=>load1k_law row0 rfl q
   have c2 : ∀ q : V→Res,words.load1 h0 h.nx 2 q = q (.str l t):=fun q=>load1k_law row0 rfl q
   have c3 : ∀ q : V→Res,words.load1 h0 h.nx 3 q = q vk:=fun q=>load1k_law row0 rfl q
   have lt : ∀ x,S x→x < h.nx.val:=fun x hx=>w.lts hx
   have w0:=w.up U0
   obtain ⟨bo,bm,c,va,vs,cells,pv,wx⟩:=w0
   have ek:=wx.kind (n:=n) (d:=d + 1) s
   have rk0:=rk.stay U0 lt
   have ln : ∀ q : Nat→Res,lenk vk q = q kids.length:=fun q=>by rw [rk.lenk]
   have k3 : Nat.beq (kno .i64) 3 = true:=rfl
   have s00:=seq_law l t 0 0
   have lt00 : (l = 0∧t = 0) ↔ l = 0:=⟨fun x=>x.1,fun x=>⟨x,by subst x; simpa using ht⟩⟩
   have kk : ∀ s',s = .ofNat s'→kindI sh s = kindOf sh s':=fun s' e=>by rw [e]; rfl
   have kl0 : kids.length = 0 ↔ kids = []:=List.length_eq_zero_iff
   have sgn : 1 ≤ kindI sh s→∃ s',s = .ofNat s'∧kindI sh s = kindOf sh s':=fun h1=>by
    cases s with
    | ofNat s'=>exact ⟨s',rfl,rfl⟩
    | negSucc s'=>simp [kindI] at h1
   by_cases q1 : k = 1
   · subst q1
     have n1 : ieq (.ofNat 1) (.ofNat 1) = true:=rfl
     by_cases a1 : kindI sh s = 1
     · have b1 : ieq (.ofNat (kindI sh s)) (.ofNat 1) = true:=by rw [ieq_nat]; simpa using a1
       by_cases a2 : l = 0
       · have a2':=lt00.2 a2
         have b2 : seq l t 0 0 = true:=by rw [s00]; simpa using a2'
         by_cases a3 : kids.length = 0
         · have b3 : ieq (.ofNat kids.length) (.ofNat 0) = true:=by rw [ieq_nat]; simpa using kl0.1 a3
           obtain ⟨s',e,e'⟩:=sgn (by omega)
           refine ⟨true,h0,?_,U0,⟨fun _=>⟨s',e,?_⟩,fun _=>rfl⟩⟩
           · rw [call21]
             simp -implicitDefEqProofs only [sh21,↓e0',↓ek,↓c0,↓n1,↓b1,↓c2,↓b2,↓c3,↓ln,↓k3,↓b3,↓evR]
           · obtain ⟨rfl,rfl⟩:=a2'
             rw [kl0.1 a3]
             exact .num s' z (by omega)
         · have b3 : ieq (.ofNat kids.length) (.ofNat 0) = false:=by rw [ieq_nat]; simpa using a3
           refine ⟨false,h0,?_,U0,⟨fun e=>(by cases e),fun ⟨s',e,f⟩=>?_⟩⟩
           · rw [call21]
             simp -implicitDefEqProofs only [sh21,↓e0',↓ek,↓c0,↓n1,↓b1,↓c2,↓b2,↓c3,↓ln,↓k3,↓b3,↓evR]
           · cases f with
             | num=>exact absurd rfl a3
             | node _ _ _ _ _ hk=>omega
       · have b2 : seq l t 0 0 = false:=by rw [s00]; simpa using fun e=>absurd e a2
         refine ⟨false,h0,?_,U0,⟨fun e=>(by cases e),fun ⟨s',e,f⟩=>?_⟩⟩
         · rw [call21]
           simp -implicitDefEqProofs only [sh21,↓e0',↓ek,↓c0,↓n1,↓b1,↓c2,↓b2,↓evR]
         · cases f with
           | num=>exact absurd rfl a2
           | node _ _ _ _ _ hk=>omega
     · have b1 : ieq (.ofNat (kindI sh s)) (.ofNat 1) = false:=by rw [ieq_nat]; simpa using a1
       refine ⟨false,h0,?_,U0,⟨fun e=>(by cases e),fun ⟨s',e,f⟩=>?_⟩⟩
       · rw [call21]
         simp -implicitDefEqProofs only [sh21,↓e0',↓ek,↓c0,↓n1,↓b1,↓evR]
       · have:=kk s' e
         cases f with
         | num _ _ hk=>exact absurd (this.trans hk) a1
         | node _ _ _ _ _ hk=>omega
   · have n1 : ieq (.ofNat k) (.ofNat 1) = false:=by rw [ieq_nat]; simpa using q1
     by_cases q2 : k = 2
     · subst q2
       have n2 : ieq (.ofNat 2) (.ofNat 2) = true:=rfl
       by_cases a1 : kindI sh s = 2
       · have b1 : ieq (.ofNat (kindI sh s)) (.ofNat 2) = true:=by rw [ieq_nat]; simpa using a1
         by_cases a2 : z = 0
         · have b2 : ieq z (.ofNat 0) = true:=by rw [ieq_eq]; simpa using a2
           by_cases a3 : kids.length = 0
           · have b3 : ieq (.ofNat kids.length) (.ofNat 0) = true:=by rw [ieq_nat]; simpa using kl0.1 a3
             obtain ⟨s',e,e'⟩:=sgn (by omega)
             refine ⟨true,h0,?_,U0,⟨fun _=>⟨s',e,?_⟩,fun _=>rfl⟩⟩
             · rw [call21]
               simp -implicitDefEqProofs only [sh21,↓e0',↓ek,↓c0,↓n1,↓n2,↓b1,↓c1,↓k3,↓b2,↓c3,↓ln,↓b3,↓evR]
             · subst a2
               rw [kl0.1 a3]
               exact .sym s' l t (by omega)
           · have b3 : ieq (.ofNat kids.length) (.ofNat 0) = false:=by rw [ieq_nat]; simpa using a3
             refine ⟨false,h0,?_,U0,⟨fun e=>(by cases e),fun ⟨s',e,f⟩=>?_⟩⟩
             · rw [call21]
               simp -implicitDefEqProofs only [sh21,↓e0',↓ek,↓c0,↓n1,↓n2,↓b1,↓c1,↓k3,↓b2,↓c3,↓ln,↓b3,↓evR]
             · cases f with
               | sym=>exact absurd rfl a3
               | node _ _ _ _ _ hk=>omega
         · have b2 : ieq z (.ofNat 0) = false:=by rw [ieq_eq]; simpa using a2
           refine ⟨false,h0,?_,U0,⟨fun e=>(by cases e),fun ⟨s',e,f⟩=>?_⟩⟩
           · rw [call21]
             simp -implicitDefEqProofs only [sh21,↓e0',↓ek,↓c0,↓n1,↓n2,↓b1,↓c1,↓k3,↓b2,↓evR]
           · cases f with
             | sym=>exact absurd rfl a2
             | node _ _ _ _ _ hk=>omega
       · have b1 : ieq (.ofNat (kindI sh s)) (.ofNat 2) = false:=by rw [ieq_nat]; simpa using a1
         refine ⟨false,h0,?_,U0,⟨fun e=>(by cases e),fun ⟨s',e,f⟩=>?_⟩⟩
         · rw [call21]
           simp -implicitDefEqProofs only [sh21,↓e0',↓ek,↓c0,↓n1,↓n2,↓b1,↓evR]
         · have:=kk s' e
           cases f with
           | sym _ _ _ hk=>exact absurd (this.trans hk) a1
           | node _ _ _ _ _ hk=>omega
     · have n2 : ieq (.ofNat k) (.ofNat 2) = false:=by rw [ieq_nat]; simpa using q2
       by_cases q3 : k = 3
       · subst q3
         have n3 : ieq (.ofNat 3) (.ofNat 3) = true:=rfl
         by_cases a1 : kindI sh s = 3
         · have b1 : ieq (.ofNat (kindI sh s)) (.ofNat 3) = true:=by rw [ieq_nat]; simpa using a1
           by_cases a2 : l = 0
           · have a2':=lt00.2 a2
             have b2 : seq l t 0 0 = true:=by rw [s00]; simpa using a2'
             by_cases a4 : z = 0
             · have b4 : ieq z (.ofNat 0) = true:=by rw [ieq_eq]; simpa using a4
               by_cases a3 : kids.length = 0
               · have b3 : ieq (.ofNat kids.length) (.ofNat 0) = true:=by rw [ieq_nat]; simpa using kl0.1 a3
                 obtain ⟨s',e,e'⟩:=sgn (by omega)
                 refine ⟨true,h0,?_,U0,⟨fun _=>⟨s',e,?_⟩,fun _=>rfl⟩⟩
                 · rw [call21]
                   simp -implicitDefEqProofs only [sh21,↓e0',↓ek,↓c0,↓n1,↓n2,↓n3,↓b1,↓c2,↓b2,↓c1,↓k3,↓b4,↓c3,↓ln,↓b3,↓evR]
                 · obtain ⟨rfl,rfl⟩:=a2'
                   subst a4
                   rw [kl0.1 a3]
                   exact .nil s' (by omega)
               · have b3 : ieq (.ofNat kids.length) (.ofNat 0) = false:=by rw [ieq_nat]; simpa using a3
                 refine ⟨false,h0,?_,U0,⟨fun e=>(by cases e),fun ⟨s',e,f⟩=>?_⟩⟩
                 · rw [call21]
                   simp -implicitDefEqProofs only [sh21,↓e0',↓ek,↓c0,↓n1,↓n2,↓n3,↓b1,↓c2,↓b2,↓c1,↓k3,↓b4,↓c3,↓ln,↓b3,↓evR]
                 · cases f with
                   | nil=>exact absurd rfl a3
                   | node _ _ _ _ _ hk=>omega
             · have b4 : ieq z (.ofNat 0) = false:=by rw [ieq_eq]; simpa using a4
               refine ⟨false,h0,?_,U0,⟨fun e=>(by cases e),fun ⟨s',e,f⟩=>?_⟩⟩
               · rw [call21]
                 simp -implicitDefEqProofs only [sh21,↓e0',↓ek,↓c0,↓n1,↓n2,↓n3,↓b1,↓c2,↓b2,↓c1,↓k3,↓b4,↓evR]
               · cases f with
                 | nil=>exact absurd rfl a4
                 | node _ _ _ _ _ hk=>omega
           · have b2 : seq l t 0 0 = false:=by rw [s00]; simpa using fun e=>absurd e a2
             refine ⟨false,h0,?_,U0,⟨fun e=>(by cases e),fun ⟨s',e,f⟩=>?_⟩⟩
             · rw [call21]
               simp -implicitDefEqProofs only [sh21,↓e0',↓ek,↓c0,↓n1,↓n2,↓n3,↓b1,↓c2,↓b2,↓evR]
             · cases f with
               | nil=>exact absurd rfl a2
               | node _ _ _ _ _ hk=>omega
         · have b1 : ieq (.ofNat (kindI sh s)) (.ofNat 3) = false:=by rw [ieq_nat]; simpa using a1
           refine ⟨false,h0,?_,U0,⟨fun e=>(by cases e),fun ⟨s',e,f⟩=>?_⟩⟩
           · rw [call21]
             simp -implicitDefEqProofs only [sh21,↓e0',↓ek,↓c0,↓n1,↓n2,↓n3,↓b1,↓evR]
           · have:=kk s' e
             cases f with
             | nil _ hk=>exact absurd (this.trans hk) a1
             | node _ _ _ _ _ hk=>omega
       · have n3 : ieq (.ofNat k) (.ofNat 3) = false:=by rw [ieq_nat]; simpa using q3
         by_cases q45 : k = 4 ∨ k = 5
         · have n45 : ieq (.ofNat k) (.ofNat 4) = true ∨ (ieq (.ofNat k) (.ofNat 4) = false∧ieq (.ofNat k) (.ofNat 5) = true):=by
            rcases q45 with e | e
            · exact .inl (by rw [e]; rfl)
            · exact .inr ⟨by rw [e]; rfl,by rw [e]; rfl⟩
           by_cases a1 : (k = 4 ↔ kindI sh s = 3)
           · have b1 : beqk (ieq (.ofNat k) (.ofNat 4)) (ieq (.ofNat (kindI sh s)) (.ofNat 3)) = true:=by
              rw [ieq_nat,ieq_nat]
              have : decide (k = 4) = decide (kindI sh s = 3):=by simp only [decide_eq_decide]; exact a1
              rw [this]; exact beqk_self _
             have fin : ∀ (r : Res),(ieq (.ofNat k) (.ofNat 4) = true→call tabW n (d + 1 + 1 + 1) f21 [.ptr p 0,.int .i64 s,.agg 4 [.int .u8 (.ofNat k),.int .i64 z,.str l t,vk]] h = r) →
              (ieq (.ofNat k) (.ofNat 4) = false→ieq (.ofNat k) (.ofNat 5) = true→call tabW n (d + 1 + 1 + 1) f21 [.ptr p 0,.int .i64 s,.agg 4 [.int .u8 (.ofNat k),.int .i64 z,.str l t,vk]] h = r) →
              call tabW n (d + 1 + 1 + 1) f21 [.ptr p 0,.int .i64 s,.agg 4 [.int .u8 (.ofNat k),.int .i64 z,.str l t,vk]] h = r:=fun r g1 g2=>n45.elim g1 fun g=>g2 g.1 g.2
             cases hwt : wantI sh s z with
             | none=>
               have ew : ∃ v,call tabW n (d + 1 + 1) f28 [.ptr p 0,.int .i64 s,.int .i64 z] h0 = .ret (.tup [v,.bool false]) h0:=by
                by_cases h34 : kindI sh s = 3 ∨ kindI sh s = 4
                · obtain ⟨s',rfl,e'⟩:=sgn (by omega)
                  exact wx.want_no (kind_ge (sh:=sh) (s:=s') (by omega)).1 hwt
                · exact ⟨_,wx.want_none (by omega) (by omega)⟩
               obtain ⟨vw,ew⟩:=ew
               refine ⟨false,h0,?_,U0,⟨fun e=>(by cases e),fun ⟨s',e,f⟩=>?_⟩⟩
               · refine fin _ (fun n4=>?_) fun n4 n5=>?_
                 · rw [n4] at b1
                   rw [call21]
                   simp -implicitDefEqProofs only [sh21,↓e0',↓ek,↓c0,↓n1,↓n2,↓n3,↓n4,↓b1,↓c1,↓ew,↓evR]
                 · rw [n4] at b1
                   rw [call21]
                   simp -implicitDefEqProofs only [sh21,↓e0',↓ek,↓c0,↓n1,↓n2,↓n3,↓n4,↓n5,↓b1,↓c1,↓ew,↓evR]
               · subst e
                 cases f with
                 | node _ _ _ want _ hk hw=>rw [show wantOf sh s' z = none from hwt] at hw; cases hw
                 | num=>omega
                 | sym=>omega
                 | nil=>omega
             | some want=>
               obtain ⟨s',rfl⟩ : ∃ s',s = .ofNat s':=by
                cases s with
                | ofNat s'=>exact ⟨s',rfl⟩
                | negSucc s'=>cases hwt
               obtain ⟨vw,ew,rw'⟩:=wx.want (n:=n) (d:=d) (s:=s') (b:=z) (l:=want) hwt
               have rw':=noX rw'
               have hwt : wantOf sh s' z = some want:=hwt
               have hk34:=want_kind hwt
               have hk' : k = 4∧kindOf sh s' = 3 ∨ k = 5∧kindOf sh s' = 4:=by
                have : kindI sh (.ofNat s') = kindOf sh s':=rfl
                rcases q45 with e | e
                · exact .inl ⟨e,by rw [← this]; exact a1.1 e⟩
                · refine .inr ⟨e,hk34.resolve_left fun h3=>?_⟩
                  have:=a1.2 (by rw [this]; exact h3)
                  omega
               have hwl:=(ok.want s' z want hwt).1
               have lw : ∀ q : Nat→Res,lenk vw q = q want.length:=fun q=>by rw [rw'.lenk,List.length_map]
               by_cases a2 : l = 0
               · have a2':=lt00.2 a2
                 have b2 : seq l t 0 0 = true:=by rw [s00]; simpa using a2'
                 by_cases a3 : kids.length = want.length
                 · have b3 : ieq (.ofNat kids.length) (.ofNat want.length) = true:=by rw [ieq_nat]; simpa using a3
                   obtain ⟨b5,h5,e5,U5,iff5⟩:=fits_loop ⟨_,_,_,_,_,_,_,wx⟩ rw' rk0 a3 (by omega) IH kids.length (i:=0) (q:=n) (h:=h0) (by omega) (by omega) (.refl _)
                   refine ⟨b5,h5,?_,U0.trans U5,iff5.trans ⟨fun f=>⟨s',rfl,?_⟩,fun ⟨s2,e2,f⟩=>?_⟩⟩
                   · refine fin _ (fun n4=>?_) fun n4 n5=>?_
                     · rw [n4] at b1
                       rw [call21]
                       simp -implicitDefEqProofs only [sh21,↓e0',↓ek,↓c0,↓n1,↓n2,↓n3,↓n4,↓b1,↓c1,↓ew,↓c2,↓b2,↓c3,↓ln,↓lw,↓b3,↓e5,↓evR]
                     · rw [n4] at b1
                       rw [call21]
                       simp -implicitDefEqProofs only [sh21,↓e0',↓ek,↓c0,↓n1,↓n2,↓n3,↓n4,↓n5,↓b1,↓c1,↓ew,↓c2,↓b2,↓c3,↓ln,↓lw,↓b3,↓e5,↓evR]
                   · obtain ⟨rfl,rfl⟩:=a2'
                     exact .node s' k z want kids hk' hwt a3 fun i a r h1 h2=>f i a r (Nat.zero_le _) h1 h2
                   · cases e2
                     cases f with
                     | node _ _ _ want' _ _ hw' _ hf=>
                       rw [hwt] at hw'
                       cases hw'
                       exact fun i a r _ h1 h2=>hf i a r h1 h2
                     | num=>omega
                     | sym=>omega
                     | nil=>omega
                 · have b3 : ieq (.ofNat kids.length) (.ofNat want.length) = false:=by rw [ieq_nat]; simpa using a3
                   refine ⟨false,h0,?_,U0,⟨fun e=>(by cases e),fun ⟨s2,e,f⟩=>?_⟩⟩
                   · refine fin _ (fun n4=>?_) fun n4 n5=>?_
                     · rw [n4] at b1
                       rw [call21]
                       simp -implicitDefEqProofs only [sh21,↓e0',↓ek,↓c0,↓n1,↓n2,↓n3,↓n4,↓b1,↓c1,↓ew,↓c2,↓b2,↓c3,↓ln,↓lw,↓b3,↓evR]
                     · rw [n4] at b1
                       rw [call21]
                       simp -implicitDefEqProofs only [sh21,↓e0',↓ek,↓c0,↓n1,↓n2,↓n3,↓n4,↓n5,↓b1,↓c1,↓ew,↓c2,↓b2,↓c3,↓ln,↓lw,↓b3,↓evR]
                   · cases e
                     cases f with
                     | node _ _ _ want' _ _ hw' hl'=>
                       rw [hwt] at hw'
                       cases hw'
                       exact absurd hl' a3
                     | num=>omega
                     | sym=>omega
                     | nil=>omega
               · have b2 : seq l t 0 0 = false:=by rw [s00]; simpa using fun e=>absurd e a2
                 refine ⟨false,h0,?_,U0,⟨fun e=>(by cases e),fun ⟨s2,e,f⟩=>?_⟩⟩
                 · refine fin _ (fun n4=>?_) fun n4 n5=>?_
                   · rw [n4] at b1
                     rw [call21]
                     simp -implicitDefEqProofs only [sh21,↓e0',↓ek,↓c0,↓n1,↓n2,↓n3,↓n4,↓b1,↓c1,↓ew,↓c2,↓b2,↓evR]
                   · rw [n4] at b1
                     rw [call21]
                     simp -implicitDefEqProofs only [sh21,↓e0',↓ek,↓c0,↓n1,↓n2,↓n3,↓n4,↓n5,↓b1,↓c1,↓ew,↓c2,↓b2,↓evR]
                 · cases f with
                   | node=>exact absurd rfl a2
                   | num=>omega
                   | sym=>omega
                   | nil=>omega
           · have b1 : beqk (ieq (.ofNat k) (.ofNat 4)) (ieq (.ofNat (kindI sh s)) (.ofNat 3)) = false:=by
              rw [ieq_nat,ieq_nat]
              have : decide (k = 4) ≠ decide (kindI sh s = 3):=by simp only [ne_eq,decide_eq_decide]; exact a1
              revert this
              cases decide (k = 4) <;> cases decide (kindI sh s = 3) <;> intro h <;> first | rfl | exact absurd rfl h
             refine ⟨false,h0,?_,U0,⟨fun e=>(by cases e),fun ⟨s',e,f⟩=>?_⟩⟩
             · rw [call21]
               rcases n45 with n4 | ⟨n4,n5⟩
               · rw [n4] at b1
                 simp -implicitDefEqProofs only [sh21,↓e0',↓ek,↓c0,↓n1,↓n2,↓n3,↓n4,↓b1,↓evR]
               · rw [n4] at b1
                 simp -implicitDefEqProofs only [sh21,↓e0',↓ek,↓c0,↓n1,↓n2,↓n3,↓n4,↓n5,↓b1,↓evR]
             · have:=kk s' e
               cases f with
               | node _ _ _ _ _ hk=>exact absurd (by omega) a1
               | num=>omega
               | sym=>omega
               | nil=>omega
         · have n4 : ieq (.ofNat k) (.ofNat 4) = false:=by rw [ieq_nat]; simp; omega
           have n5 : ieq (.ofNat k) (.ofNat 5) = false:=by rw [ieq_nat]; simp; omega
           refine ⟨false,h0,?_,U0,⟨fun e=>(by cases e),fun ⟨s',e,f⟩=>?_⟩⟩
           · rw [call21]
             simp -implicitDefEqProofs only [sh21,↓e0',↓ek,↓c0,↓n1,↓n2,↓n3,↓n4,↓n5,↓evR]
           · cases f with
             | node _ _ _ _ _ hk=>omega
             | num=>omega
             | sym=>omega
             | nil=>omega
end
end Go.Ev.WIB

/- InternBack: one thing more; its id; symbols; records and terms. -/
namespace Go.Ev.WIB
open Go.Proofs
set_option maxRecDepth 100000
theorem But.chg {h h' : Heap} {b : Bid} (u : But h b h') : Chg (fun x=>x = b.val) h h':=⟨by rw [u.nx]; exact Nat.le_refl _,fun b' _ hs=>u.get b' fun e=>hs (by rw [e])⟩
theorem _root_.Go.Ev.Chg.row {S : Nat→Prop} {h h' : Heap} (c : Chg S h h') {b : Bid} {g : Nat} {l : List V} (r : Row (h.t.get b) g l) (hb : b.val < h.nx.val) (hs : ¬ S b.val) : Row (h'.t.get b) g l:=by rw [c.get b hb hs]; exact r
theorem splice_one {cs : List V} {s : Nat} (v : V) (hs : s < cs.length) : splice cs s [v] = cs.set s v:=by
 rw [splice,List.set_eq_take_append_cons_drop,if_pos hs,List.length_singleton,List.append_assoc]
 rfl
section
variable {h : Heap} {p bo bm : Bid} {c : Option Nat} {va vs : V} {cells pv : List V} {sh : List Sh} {L : List Th} {M : List (List Nat × Nat)} {S X : Nat→Prop} {n d : Nat}
def Sof (p bo bm : Bid) (va : V) (cells : List V) (x : Nat) : Prop:=x = p.val ∨ x = bo.val ∨ x = bm.val ∨ ¬ Off va x ∨ ∃ v ∈ cells,¬ Off v x
theorem push_law (w : TabX h p bo bm c va vs cells pv sh L M S X) {t : Th} {v : V} (hs : t.shape < sh.length) (wv : CellA h (Still h (SX S X)) (.sl 1 (t.parts.map wT)) v) (hL : L.length < 16000000) :
 ∃ h' va' cells' S',call tabW n (d + 1) f54 [.ptr p 0,.agg 5 (thC t v)] h = .ret (.tup []) h'∧TabX h' p bo bm c va' vs cells' (pv ++ [v]) sh (L ++ [t]) M S' X∧Chg S h h'∧∀ x,S' x→S x ∨ h.nx.val ≤ x:=by
 have hc : t.shape < cells.length:=by rw [w.len]; exact hs
 have hcs : cells[t.shape]? = some cells[t.shape]:=List.getElem?_eq_getElem hc
 have hcm : cells[t.shape] ∈ cells:=List.getElem_mem hc
 obtain ⟨lt1,lt2,lt3⟩:=w.lt
 obtain ⟨ne1,ne2,ne3⟩:=w.ne
 obtain ⟨oa1,oa2,oa3⟩:=w.oa
 obtain ⟨oc1,oc2,oc3,oc4⟩:=w.oc _ hcm
 have Sm:=w.mem
 obtain ⟨h0,e0,r0,U0,lt0⟩:=new_row h (g:=5) (l:=thC t v) rfl (by omega)
 have e0' : ∀ q,words.new h (.arr 5 1 (.lf (thC t v)) .false) q = q h.nx h0:=e0
 have w0:=w.up U0
 obtain ⟨a0,a1,_,_⟩:=w0.ld
 have n1 : Nat.blt t.shape cells.length = true:=blt_of hc
 have b0 : ∀ q : V→Res,words.load1 h0 bo (Nat.add 0 t.shape) q = q cells[t.shape]:=fun q=>by
  show load1k h0 bo (0 + t.shape) q = _
  rw [Nat.zero_add]
  exact load1k_law w0.of hcs q
 have s0 : ∀ q : V→Res,words.load1 h0 h.nx 0 q = q (I (.ofNat t.shape)):=fun q=>load1k_law r0 rfl q
 have ln : ∀ k : Nat→Res,lenk va k = k L.length:=fun k=>w.all.len (by omega) (thCs_len w.pl) k
 obtain ⟨h1,e1,r1,U1,lt1'⟩:=new_row h0 (g:=1) (l:=[I (.ofNat L.length)]) rfl (by omega)
 have e1' : ∀ q,words.new h0 (.arr 1 1 (.lf [I (.ofNat L.length)]) .false) q = q h0.nx h1:=e1
 have rr1 : ∀ q,words.row 1 1 [I (.ofNat L.length)] q = q (.lf [I (.ofNat L.length)]):=fun q=>row_one (g:=1) rfl q
 have U01:=U0.trans U1
 have w1:=w0.up U1
 obtain ⟨a0',a1',_,_⟩:=w1.ld
 have b1 : ∀ q : V→Res,words.load1 h1 bo (Nat.add 0 t.shape) q = q cells[t.shape]:=fun q=>by
  show load1k h1 bo (0 + t.shape) q = _
  rw [Nat.zero_add]
  exact load1k_law w1.of hcs q
 have r01 : Row (h1.t.get h.nx) 5 (thC t v):=r0.later lt0 U1
 have s1 : ∀ q : V→Res,words.load1 h1 h.nx 0 q = q (I (.ofNat t.shape)):=fun q=>load1k_law r01 rfl q
 obtain ⟨h2,v2,e2,o2,C2,f2,b2,l2,ev2⟩:=own_app (w1.idx _ _ hcs) (by omega) r1 rfl (m:=cnt L t.shape) (by rw [List.length_map,Nat.mul_one]) (by have : cnt L t.shape ≤ L.length:=idxs_le L t.shape; omega)
 have nS2 : ∀ x,x < h.nx.val→Off cells[t.shape] x→¬ (fun x=>¬ Off cells[t.shape] x) x:=fun x _ h1 h2=>h2 h1
 have rp2:=C2.row w1.row w1.lt.1 (fun x=>x oc1)
 have ro2:=C2.row w1.of w1.lt.2.1 (fun x=>x oc2)
 have hnx1 : h.nx.val < h1.nx.val:=Nat.lt_of_lt_of_le lt0 U1.nx
 have off_nx : ∀ x ∈ cells,Off x h.nx.val:=fun x hx=>Classical.byContradiction fun e=>by
  have:=w.lts ((Sm _).2 (.inr (.inr (.inr (.inr ⟨x,hx,e⟩)))))
  omega
 have off_nx' : Off va h.nx.val:=Classical.byContradiction fun e=>by
  have:=w.lts ((Sm _).2 (.inr (.inr (.inr (.inl e)))))
  omega
 have r02:=C2.row r01 hnx1 (fun x=>x (off_nx _ hcm))
 have a1'' : ∀ q : V→Res,words.load1 h2 p 1 q = q (.slice bo 0 cells.length c 1):=fun q=>load1k_law rp2 rfl q
 have s2 : ∀ q : V→Res,words.load1 h2 h.nx 0 q = q (I (.ofNat t.shape)):=fun q=>load1k_law r02 rfl q
 obtain ⟨h3,e3,ro3,B3⟩:=storek_law (o:=t.shape) (n:=1) (vs:=[v2]) ro2 rfl (by omega)
 have e3' : ∀ q,words.store h2 bo (Nat.add 0 t.shape) 1 [v2] q = q h3:=fun q=>by
  show storek h2 bo (0 + t.shape) 1 [v2] q = _
  rw [Nat.zero_add]; exact e3 q
 rw [splice_one v2 hc] at ro3
 have C3:=But.chg B3
 have lt2p : p.val < h2.nx.val:=Nat.lt_of_lt_of_le w1.lt.1 C2.nx
 have rp3:=C3.row rp2 lt2p ne1
 have hnx2 : h.nx.val < h2.nx.val:=Nat.lt_of_lt_of_le hnx1 C2.nx
 have r03:=C3.row r02 hnx2 (by omega)
 have a3 : ∀ q : V→Res,words.load1 h3 p 0 q = q va:=fun q=>load1k_law rp3 rfl q
 have ld5 : ∀ {h' : Heap},Row (h'.t.get h.nx) 5 (thC t v)→∀ q : List V→Res,words.load h' h.nx 0 5 q = q (thC t v):=fun r q=>by
  have:=loadk_law r (o:=0) (n:=5) (by simp [thC]) q
  rw [List.drop_zero,List.take_of_length_le (by simp [thC])] at this
  exact this
 have l3:=ld5 r03
 have ap : ∀ q : List V→Res,appk (thC t v) [] q = q (thC t v):=fun q=>by rw [appk_eq,List.append_nil]
 have o3 : Hld h3 5 va (thCs L pv):=(w1.all.chg C2 (fun x hx=>Classical.byContradiction fun e=>by
  rcases oc4 x with h1 | h1
  · exact e h1
  · exact hx h1)).chg C3 (fun x hx=>by subst hx; exact oa2)
 obtain ⟨h4,e4,r4,U4,lt4⟩:=new_row h3 (g:=5) (l:=thC t v) rfl (by omega)
 have e4' : ∀ q,words.new h3 (.arr 5 1 (.lf (thC t v)) .false) q = q h3.nx h4:=e4
 have rr4 : ∀ q,words.row 5 1 (thC t v) q = q (.lf (thC t v)):=fun q=>row_one (g:=5) rfl q
 have hnx3 : h.nx.val < h3.nx.val:=Nat.lt_of_lt_of_le hnx2 C3.nx
 have lt3p : p.val < h3.nx.val:=Nat.lt_of_lt_of_le lt2p C3.nx
 have rp4 : Row (h4.t.get p) 4 _:=rp3.later lt3p U4
 have r04:=r03.later hnx3 U4
 have a4 : ∀ q : V→Res,words.load1 h4 p 0 q = q va:=fun q=>load1k_law rp4 rfl q
 have l4:=ld5 r04
 obtain ⟨h5,v5,e5,o5,C5,f5,b5,l5,ev5⟩:=own_app (o3.up U4) (by omega) r4 rfl (m:=L.length) (thCs_len w.pl) (by omega)
 have lt4p : p.val < h4.nx.val:=Nat.lt_of_lt_of_le lt3p U4.nx
 have rp5:=C5.row rp4 lt4p (fun x=>x oa1)
 obtain ⟨h6,e6,rp6,B6⟩:=storek_law (o:=0) (n:=1) (vs:=[v5]) rp5 rfl (by simp)
 have e6' : ∀ q,words.store h5 p 0 1 [v5] q = q h6:=e6
 have C6:=But.chg B6
 have k3 : Nat.beq 5 5 = true:=rfl
 have o2n : ∀ r : Res,onek v2 r = r:=fun r=>by rw [ev2]; rfl
 have o5n : ∀ r : Res,onek v5 r = r:=fun r=>by rw [ev5]; rfl
 have len5 : (thC t v).length = 5:=rfl
 have run : call tabW n (d + 1) f54 [.ptr p 0,.agg 5 (thC t v)] h = .ret (.tup []) h6:=by
  rw [call54]
  simp -implicitDefEqProofs only [sh54,↓e0',↓a0,↓a1,↓s0,↓n1,↓b0,↓ln,↓rr1,↓e1',↓a0',↓a1',↓b1,↓s1,↓e2,↓a1'',↓s2,↓o2n,↓e3',↓a3,↓l3,↓ap,↓rr4,↓e4',↓a4,↓l4,↓e5,↓o5n,↓e6',↓evR]
 have hS : ∀ x,Sof p bo bm va cells x→S x:=fun x hx=>(Sm x).2 hx
 have CS : Chg S h h6:=by
  have c2 : Chg S h1 h2:=C2.mono fun x _ hx=>hS x (.inr (.inr (.inr (.inr ⟨_,hcm,hx⟩))))
  have c3 : Chg S h2 h3:=C3.mono fun x _ hx=>hS x (.inr (.inl hx))
  have c5 : Chg S h4 h5:=C5.mono fun x _ hx=>hS x (.inr (.inr (.inr (.inl hx))))
  have c6 : Chg S h5 h6:=C6.mono fun x _ hx=>hS x (.inl hx)
  have tr : ∀ {a b c : Heap},Chg S a b→Chg S b c→Chg S a c:=fun p q=>p.trans q fun x hx=>.inl hx
  exact tr (tr (tr (tr (tr U01.chg c2) c3) U4.chg) c5) c6
 have nx12 : h1.nx.val ≤ h2.nx.val:=C2.nx
 have nx23 : h2.nx.val ≤ h3.nx.val:=C3.nx
 have nx34 : h3.nx.val ≤ h4.nx.val:=U4.nx
 have nx45 : h4.nx.val ≤ h5.nx.val:=C5.nx
 have nx56 : h5.nx.val ≤ h6.nx.val:=C6.nx
 have nx01 : h.nx.val ≤ h1.nx.val:=U01.nx
 have m2 : ∀ x,x < h1.nx.val→Off cells[t.shape] x→Off v2 x:=fun x hx ho=>Classical.byContradiction fun e=>(f2 x e).elim (fun e2=>e2 ho) fun e2=>by omega
 have m5 : ∀ x,x < h4.nx.val→Off va x→Off v5 x:=fun x hx ho=>Classical.byContradiction fun e=>(f5 x e).elim (fun e2=>e2 ho) fun e2=>by omega
 have lva : ∀ x,¬ Off va x→x < h.nx.val:=fun x hx=>w.lts (hS x (.inr (.inr (.inr (.inl hx)))))
 have lce : ∀ v ∈ cells,∀ x,¬ Off v x→x < h.nx.val:=fun v hv x hx=>w.lts (hS x (.inr (.inr (.inr (.inr ⟨v,hv,hx⟩)))))
 have ap2 : ∀ x,¬ Off va x→Off v2 x:=fun x hx=>m2 x (by have:=lva x hx; omega) ((oc4 x).resolve_left hx)
 have ap5 : ∀ v ∈ cells,∀ x,¬ Off v x→Off v5 x:=fun v hv x hx=>m5 x (by have:=lce v hv x hx; omega) (((w.oc v hv).2.2.2 x).resolve_right hx)
 have ap52 : Apart v5 v2:=fun x=>Classical.byContradiction fun e=>by
  simp only [not_or] at e
  have h1' : x < h2.nx.val:=o2.lt e.2
  rcases f5 x e.1 with h2' | h2'
  · exact e.2 (ap2 x h2')
  · omega
 have setm : ∀ v ∈ cells.set t.shape v2,v = v2 ∨ v ∈ cells:=fun v hv=>(List.mem_or_eq_of_mem_set hv).symm
 have S'S : ∀ x,Sof p bo bm v5 (cells.set t.shape v2) x→S x ∨ h.nx.val ≤ x:=fun x hx=>by
  rcases hx with e | e | e | e | ⟨v,hv,e⟩
  · exact .inl (hS x (.inl e))
  · exact .inl (hS x (.inr (.inl e)))
  · exact .inl (hS x (.inr (.inr (.inl e))))
  · exact (f5 x e).elim (fun e=>.inl (hS x (.inr (.inr (.inr (.inl e)))))) fun e=>.inr (by omega)
  · rcases setm v hv with rfl | hv
    · exact (f2 x e).elim (fun e=>.inl (hS x (.inr (.inr (.inr (.inr ⟨_,hcm,e⟩)))))) fun e=>.inr (by omega)
    · exact .inl (hS x (.inr (.inr (.inr (.inr ⟨v,hv,e⟩)))))
 have CX : Chg (SX S X) h h6:=CS.mono fun x _ hx=>.inl hx
 have X'X : ∀ x,SX (Sof p bo bm v5 (cells.set t.shape v2)) X x→SX S X x ∨ h.nx.val ≤ x:=fun x hx=>hx.elim (fun e=>(S'S x e).imp .inl id) fun e=>.inl (.inr e)
 have gt : ∀ {g : Nat} {u : V} {cs : List V},Hld h3 g u cs→(∀ x,¬ Off va x→Off u x)→Off u p.val→Hld h6 g u cs:=fun a b d=>((a.up U4).chg C5 fun x hx=>b x hx).chg C6 fun x hx=>by subst hx; exact d
 refine ⟨h6,v5,cells.set t.shape v2,Sof p bo bm v5 (cells.set t.shape v2),run,?_,CS,S'S⟩
 refine ⟨by rw [List.length_set]; exact rp6,?_,by rw [List.length_set,w.len],?_,by rw [List.length_append,List.length_append,w.pl]; rfl,?_,?_,?_,w.shp.chg CX X'X,fun x hx=>⟨by have:=(w.xs x hx).1; omega,fun e=>(S'S x e).elim (w.xs x hx).2 fun e2=>by have:=(w.xs x hx).1; omega⟩,by omega,w.ne,?_,?_,?_,fun x=>Iff.rfl⟩
 · exact C6.row (C5.row (ro3.later (by have:=w1.lt.2.1; omega) U4) (by have:=w1.lt.2.1; omega) (fun x=>x oa2)) (by have:=w1.lt.2.1; omega) (by omega)
 · rw [thCs_app w.pl]
   exact o5.chg C6 fun x hx=>by subst hx; exact m5 _ lt4p oa1
 · intro i t' v' h1' h2'
   by_cases hi : i < L.length
   · rw [List.getElem?_append_left hi] at h1'
     rw [List.getElem?_append_left (by rw [w.pl]; exact hi)] at h2'
     exact (w.parts i t' v' h1' h2').chg CX X'X
   · rw [List.getElem?_append_right (by omega)] at h1'
     rw [List.getElem?_append_right (by rw [w.pl]; omega),w.pl] at h2'
     have : i - L.length = 0:=by have:=(List.getElem?_eq_some_iff.1 h1').1; simp at this; omega
     rw [this] at h1' h2'
     simp at h1' h2'
     subst h1'; subst h2'
     exact wv.chg CX X'X
 · intro s v' hv'
   rw [idxs_app,List.map_append]
   by_cases hss : t.shape = s
   · subst hss
     rw [List.getElem?_set_self hc] at hv'
     cases hv'
     rw [if_pos rfl]
     exact gt (o2.chg C3 fun x hx=>by subst hx; exact m2 _ w1.lt.2.1 oc2) ap2 (m2 _ w1.lt.1 oc1)
   · rw [List.getElem?_set_ne hss] at hv'
     have hvm:=List.mem_of_getElem? hv'
     obtain ⟨oc1',oc2',oc3',oc4'⟩:=w.oc v' hvm
     rw [if_neg hss,List.map_nil,List.append_nil]
     exact gt (((w1.idx s v' hv').chg C2 fun x hx=>((w.occ t.shape s _ v' hcs hv' hss x).resolve_left hx)).chg C3 fun x hx=>by subst hx; exact oc2') (fun x hx=>(oc4' x).resolve_left hx) oc1'
 · refine w.map.keep ?_
   rw [C6.get bm (by have:=w1.lt.2.2; omega) (by omega),C5.get bm (by have:=w1.lt.2.2; omega) (fun x=>x oa3),U4.get bm (by have:=w1.lt.2.2; omega),C3.get bm (by have:=w1.lt.2.2; omega) (by omega),C2.get bm w1.lt.2.2 (fun x=>x oc3),U01.get bm lt3]
 · exact ⟨m5 _ lt4p oa1,m5 _ (by have:=w1.lt.2.1; omega) oa2,m5 _ (by have:=w1.lt.2.2; omega) oa3⟩
 · intro v' hv'
   rcases setm v' hv' with rfl | hv'
   · exact ⟨m2 _ w1.lt.1 oc1,m2 _ w1.lt.2.1 oc2,m2 _ w1.lt.2.2 oc3,ap52⟩
   · obtain ⟨oc1',oc2',oc3',oc4'⟩:=w.oc v' hv'
     exact ⟨oc1',oc2',oc3',fun x=>Classical.byContradiction fun e=>by
      simp only [not_or] at e
      exact e.1 (ap5 v' hv' x e.2)⟩
 · intro s s' u u' hu hu' hne
   have ap : ∀ s v',s ≠ t.shape→cells[s]? = some v'→Apart v2 v':=fun s v' hne hv' x=>Classical.byContradiction fun e=>by
    simp only [not_or] at e
    have:=lce v' (List.mem_of_getElem? hv') x e.2
    exact e.1 (m2 x (by omega) ((w.occ t.shape s _ v' hcs hv' (Ne.symm hne) x).resolve_right e.2))
   by_cases h1' : t.shape = s
   · subst h1'
     rw [List.getElem?_set_self hc] at hu
     cases hu
     rw [List.getElem?_set_ne hne] at hu'
     exact ap s' u' (Ne.symm hne) hu'
   · rw [List.getElem?_set_ne h1'] at hu
     by_cases h2' : t.shape = s'
     · subst h2'
       rw [List.getElem?_set_self hc] at hu'
       cases hu'
       exact (ap s u (Ne.symm h1') hu).symm
     · rw [List.getElem?_set_ne h2'] at hu'
       exact w.occ s s' u u' hu hu' hne
end
end Go.Ev.WIB

/- InternBack: a thing's id; symbols; records and terms. -/
namespace Go.Ev.WIB
open Go.Proofs
set_option maxRecDepth 100000
section
variable {h : Heap} {p bo bm : Bid} {c : Option Nat} {va vs : V} {cells pv : List V} {sh : List Sh} {L : List Th} {M : List (List Nat × Nat)} {S X : Nat→Prop} {n d : Nat}
theorem TabX.setmap (w : TabX h p bo bm c va vs cells pv sh L M S X) {h' : Heap} {M' : List (List Nat × Nat)} (u : Chg (fun x=>x = bm.val) h h') (m : MapIs h' bm M') : TabX h' p bo bm c va vs cells pv sh L M' S X where
 row:=u.row w.row w.lt.1 w.ne.2.1
 of:=u.row w.of w.lt.2.1 w.ne.2.2
 len:=w.len
 all:=w.all.chg u fun x hx=>by subst hx; exact w.oa.2.2
 pl:=w.pl
 parts i t v h1 h2:=(w.parts i t v h1 h2).mv (fun x hx=>⟨Nat.lt_of_lt_of_le hx.1 u.nx,hx.2⟩) fun b hb=>u.get b hb.1 fun e=>hb.2 (.inl ((w.mem _).2 (.inr (.inr (.inl e)))))
 idx s v hv:=(w.idx s v hv).chg u fun x hx=>by subst hx; exact (w.oc v (List.mem_of_getElem? hv)).2.2.1
 map:=m
 shp:=w.shp.mv (fun x hx=>⟨Nat.lt_of_lt_of_le hx.1 u.nx,hx.2⟩) fun b hb=>u.get b hb.1 fun e=>hb.2 (.inl ((w.mem _).2 (.inr (.inr (.inl e)))))
 xs x hx:=⟨Nat.lt_of_lt_of_le (w.xs x hx).1 u.nx,(w.xs x hx).2⟩
 lt:=by have:=u.nx; obtain ⟨h1,h2,h3⟩:=w.lt; omega
 ne:=w.ne
 oa:=w.oa
 oc:=w.oc
 occ:=w.occ
 mem:=w.mem
theorem put_there (w : TabR h p sh L S X) {t : Th} {v : V} (ok : ThOk t) (hn : 1000 ≤ n) (hn2 : t.parts.length < n) (wv : CellA h (Still h (SX S X)) (.sl 1 (t.parts.map wT)) v) {k : Nat} (hk : (keyB t,k) ∈ mapL sh L) (hk64 : k < 18446744073709551616) :
 ∃ h',call tabW n (d + 1 + 1 + 1) f42 [.ptr p 0,.agg 5 (thC t v)] h = .ret (.tup [.int .u64 (.ofNat k),ik 0]) h'∧Up h h':=by
 obtain ⟨h0,e0,r0,U0,lt0⟩:=new_row h (g:=5) (l:=thC t v) rfl (by omega)
 have e0' : ∀ q,words.new h (.arr 5 1 (.lf (thC t v)) .false) q = q h.nx h0:=e0
 have l0 : ∀ q : List V→Res,words.load h0 h.nx 0 5 q = q (thC t v):=fun q=>by
  have:=loadk_law r0 (o:=0) (n:=5) (by simp [thC]) q
  rw [List.drop_zero,List.take_of_length_le (by simp [thC])] at this
  exact this
 have lt : ∀ x,SX S X x→x < h.nx.val:=fun x hx=>hx.elim w.lts fun h=>by
  obtain ⟨_,_,_,_,_,_,_,wx⟩:=w
  exact (wx.xs x h).1
 obtain ⟨h1,e1,U1⟩:=key_law (n:=n) (d:=d) (h:=h0) ok (A:=Still h0 (SX S X)) (fun x hx=>hx.1) (wv.stay U0 lt) (by omega) hn2
 obtain ⟨bo,bm,c,va,vs,cells,pv,wx⟩:=(w.up U0).up U1
 obtain ⟨_,_,_,a3⟩:=wx.ld
 have lk:=fun q=>look_yes wx.map hk q
 have len5 : (thC t v).length = 5:=rfl
 have ec:=castS_sV (keyB t)
 refine ⟨h1,?_,U0.trans U1⟩
 rw [call42]
 have lk' : ∀ q : V→Heap→Res,words.ex (.look true true (.int .u64 (.ofNat 0))) [.map bm,.str (keyB t).length (packN (keyB t))] h1 q = q (.tup [.int .u64 (.ofNat k),.bool true]) h1:=lk
 simp -implicitDefEqProofs only [sh42,↓e0',↓l0,↓e1,↓ec,↓a3,↓lk',↓evR]
theorem put_new (w : TabR h p sh L S X) {t : Th} {v : V} (ok : ThOk t) (hn : 1000 ≤ n) (hn2 : t.parts.length < n) (hs : t.shape < sh.length) (hL : L.length < 1000000) (wv : CellA h (Still h (SX S X)) (.sl 1 (t.parts.map wT)) v) (hk : ∀ x ∈ mapL sh L,x.1 ≠ keyB t) :
 ∃ h' S',call tabW n (d + 1 + 1 + 1) f42 [.ptr p 0,.agg 5 (thC t v)] h = .ret (.tup [.int .u64 (.ofNat (cnt L t.shape + fst0 sh t.shape)),ik 0]) h'∧TabR h' p sh (L ++ [t]) S' X∧Chg S h h'∧∀ x,S' x→S x ∨ h.nx.val ≤ x:=by
 obtain ⟨h0,e0,r0,U0,lt0⟩:=new_row h (g:=5) (l:=thC t v) rfl (by omega)
 have e0' : ∀ q,words.new h (.arr 5 1 (.lf (thC t v)) .false) q = q h.nx h0:=e0
 have ld5 : ∀ {h' : Heap},Row (h'.t.get h.nx) 5 (thC t v)→∀ q : List V→Res,words.load h' h.nx 0 5 q = q (thC t v):=fun r q=>by
  have:=loadk_law r (o:=0) (n:=5) (by simp [thC]) q
  rw [List.drop_zero,List.take_of_length_le (by simp [thC])] at this
  exact this
 have l0:=ld5 r0
 have lt : ∀ x,SX S X x→x < h.nx.val:=fun x hx=>hx.elim w.lts fun h=>by
  obtain ⟨_,_,_,_,_,_,_,wx⟩:=w
  exact (wx.xs x h).1
 obtain ⟨h1,e1,U1⟩:=key_law (n:=n) (d:=d) (h:=h0) ok (A:=Still h0 (SX S X)) (fun x hx=>hx.1) (wv.stay U0 lt) (by omega) hn2
 have U01:=U0.trans U1
 obtain ⟨bo,bm,c,va,vs,cells,pv,wx⟩:=w.up U01
 obtain ⟨a0,_,_,a3⟩:=wx.ld
 have lk:=fun q=>look_no wx.map (keyB_bytes ok.text) hk q
 have lk' : ∀ q : V→Heap→Res,words.ex (.look true true (.int .u64 (.ofNat 0))) [.map bm,.str (keyB t).length (packN (keyB t))] h1 q = q (.tup [.int .u64 (.ofNat 0),.bool false]) h1:=lk
 have len5 : (thC t v).length = 5:=rfl
 have ec:=castS_sV (keyB t)
 have ln : ∀ k : Nat→Res,lenk va k = k L.length:=fun k=>wx.all.len (by omega) (thCs_len wx.pl) k
 have n1 : ieq (.ofNat L.length) (.ofNat 0x100000) = false:=by rw [ieq_nat]; simp; omega
 have r1:=r0.later lt0 U1
 have s1 : ∀ q : V→Res,words.load1 h1 h.nx 0 q = q (I (.ofNat t.shape)):=fun q=>load1k_law r1 rfl q
 have ect:=wx.count (n:=n) (d:=d + 1) hs
 have ekd:=wx.kind (n:=n) (d:=d + 1) (.ofNat t.shape)
 have hc : cnt L t.shape ≤ L.length:=idxs_le L t.shape
 have n2 : wrapv .u64 (.ofNat (cnt L t.shape)) = .ofNat (cnt L t.shape):=u64_small (by omega)
 have n3 : wrapv .u64 (Int.add (.ofNat (cnt L t.shape)) (.ofNat 1)) = .ofNat (cnt L t.shape + 1):=u64_small (by omega)
 have l1:=ld5 r1
 obtain ⟨h2,va',cells',S',e2,wx2,C2,sS⟩:=push_law (n:=n) (d:=d + 1) wx hs (wv.stay U01 lt) (by omega)
 obtain ⟨_,_,_,a3'⟩:=wx2.ld
 obtain ⟨h3,e3,m3,C3⟩:=upd_new wx2.map (cnt L t.shape + fst0 sh t.shape) (keyB_bytes ok.text) hk
 have e3' : ∀ q : V→Heap→Res,words.ex (.upd true) [.map bm,.str (keyB t).length (packN (keyB t)),.int .u64 (.ofNat (cnt L t.shape + fst0 sh t.shape))] h2 q = q .skip h3:=e3
 have wx3:=wx2.setmap C3 m3
 have em : mapL sh L ++ [(keyB t,cnt L t.shape + fst0 sh t.shape)] = mapL sh (L ++ [t]):=by
  rw [mapL,mapL,mapF_app,List.nil_append]; rfl
 rw [em] at wx3
 refine ⟨h3,S',?_,⟨_,_,_,_,_,_,_,wx3⟩,?_,fun x hx=>(sS x hx).imp id fun h=>Nat.le_trans U01.nx h⟩
 · have kk : kindI sh (.ofNat t.shape) = kindOf sh t.shape:=rfl
   rw [call42]
   by_cases h3' : kindOf sh t.shape = 3
   · have f1 : fst0 sh t.shape = 1:=by simp [fst0,h3']
     rw [f1] at e3' ⊢
     have n4 : ieq (.ofNat (kindI sh (.ofNat t.shape))) (.ofNat 3) = true:=by rw [kk,h3']; rfl
     simp -implicitDefEqProofs only [sh42,↓e0',↓l0,↓e1,↓ec,↓a3,↓lk',↓a0,↓ln,↓n1,↓s1,↓ect,↓ekd,↓n4,↓n2,↓n3,↓l1,↓e2,↓a3',↓e3',↓evR]
   · have f1 : fst0 sh t.shape = 0:=by simp [fst0,h3']
     rw [f1,Nat.add_zero] at e3' ⊢
     have n4 : ieq (.ofNat (kindI sh (.ofNat t.shape))) (.ofNat 3) = false:=by rw [kk,ieq_nat]; simpa using h3'
     simp -implicitDefEqProofs only [sh42,↓e0',↓l0,↓e1,↓ec,↓a3,↓lk',↓a0,↓ln,↓n1,↓s1,↓ect,↓ekd,↓n4,↓n2,↓l1,↓e2,↓a3',↓e3',Nat.add_zero,↓evR]
 · have c3 : Chg S' h2 h3:=C3.mono fun x _ hx=>(wx2.mem x).2 (.inr (.inr (.inl hx)))
   exact (U01.chg (S:=S)).trans (C2.trans c3 fun x hx=>sS x hx) fun x hx=>.inl hx
def symT (bs : List Nat) : Th:=⟨1,0,bs,[],0⟩
theorem symT_ok {bs : List Nat} (hb : Bytes bs) (hl : bs.length ≤ 65536) : ThOk (symT bs):=⟨by simp [symT],by simp [symT],by simp [symT],hb,by simp [symT]; omega⟩
theorem src_words {A : Nat→Prop} {ws : List Nat} {v : V} (w : CellA h A (.sl 1 (ws.map wT)) v) (k : Nat→List V→Res) : srck 1 v h k = k ws.length (ws.map fun x=>.int .u64 (.ofNat x)):=by
 generalize hr : ws.map wT = rows at w
 have hl : ws.length = rows.length:=by rw [← hr,List.length_map]
 cases w with
 | nils=>
   have : ws = []:=by simpa using hr
   subst this; rfl
 | emp=>
   have : ws = []:=by simpa using hr
   subst this; rfl
 | sl _ _ b o c op cs hb row fit wid hs=>
   show loadk h b o (Nat.mul rows.length 1) (fun cs=>k rows.length cs) = _
   rw [show Nat.mul rows.length 1 = rows.length by exact Nat.mul_one _,loadk_law row (by omega),hl]
   congr 1
   apply List.ext_getElem (by simp; omega)
   intro i h1 h2
   simp at h1 h2
   have hi : o + i < cs.length:=by omega
   have:=hs i (wT ws[i]) 0 (.i .u64 (.ofNat ws[i])) cs[o + i] (by rw [← hr,List.getElem?_map,List.getElem?_eq_getElem (by omega)]; rfl) rfl (by rw [Nat.mul_one,Nat.add_zero,List.getElem?_eq_getElem hi])
   simp only [List.getElem_take,List.getElem_drop,List.getElem_map]
   exact this.int_inv
theorem own_words {lo : Nat} {ws : List Nat} {v : V} (w : Own h lo v (ws.map fun x=>.int .u64 (.ofNat x))) : CellA h (fun x=>lo ≤ x∧x < h.nx.val) (.sl 1 (ws.map wT)) v:=by
 generalize hr : (ws.map fun x=>V.int .u64 (.ofNat x)) = l at w
 cases w with
 | nils=>
   have : ws = []:=by simpa using hr
   subst this; exact .nils 1
 | sl b c _ blo bhi row cap=>
   have hl : l.length = (ws.map wT).length:=by rw [← hr]; simp
   rw [hl]
   refine .sl 1 _ b 0 c false l ⟨blo,bhi⟩ row (by omega) (by intro r hr'; obtain ⟨x,_,rfl⟩:=List.mem_map.1 hr'; rfl) ?_
   intro i r j t v h1 h2 h3
   rw [List.getElem?_map] at h1
   obtain ⟨x,h4,rfl⟩:=Option.map_eq_some_iff.1 h1
   match j,h2 with
   | 0,h2=>
     cases h2
     rw [← hr,Nat.mul_one,Nat.zero_add,Nat.add_zero,List.getElem?_map,h4] at h3
     cases h3
     exact .i _ _
   | j + 1,h2=>simp at h2
theorem clone_words {A : Nat→Prop} {ws : List Nat} {v : V} (w : CellA h A (.sl 1 (ws.map wT)) v) (hA : ∀ x,A x→x < h.nx.val) (hl : ws.length ≤ 16777216) :
 ∃ h' v',call tabW n (d + 1) f40 [v] h = .ret v' h'∧CellA h' (fun x=>h.nx.val ≤ x∧x < h'.nx.val) (.sl 1 (ws.map wT)) v'∧Up h h':=by
 have one : ∀ r,zV [v] r = r v:=fun r=>rfl
 by_cases hn : v = .nils
 · subst hn
   refine ⟨h,.nils,?_,?_,.refl _⟩
   · have sn : ∀ q : Bool→Res,snk .nils q = q true:=fun q=>rfl
     rw [call40]
     simp -implicitDefEqProofs only [sh40,↓sn,↓evR]
   · cases hw : ws with
     | nil=>exact .nils 1
     | cons x ws=>rw [hw] at w; cases w
 · obtain ⟨h1,e1,r1,u1⟩:=newk_law h (.arr 1 0 .e false)
   have U1:=u1.up
   have e1' : ∀ q,words.new h (.arr 1 0 .e .false) q = q h.nx h1:=e1
   have w1 : CellA h1 A (.sl 1 (ws.map wT)) v:=w.mv (fun _ hx=>hx) fun b hb=>U1.get b (hA _ hb)
   have ow : Own h1 h.nx.val (.slice h.nx 0 0 (some 0) 1) []:=.sl h.nx (some 0) [] (Nat.le_refl _) u1.lt ⟨0,.e,r1,wf_e (by omega),rfl,fun i=>by simp [T.cell,T.get]⟩ fun n hn=>by cases hn; rfl
   obtain ⟨h2,v2,e2,w2,U2⟩:=appendk_own ow (new:=ws.map fun x=>.int .u64 (.ofNat x)) U1.nx (by simpa using hl)
   have e2' : ∀ q : V→Heap→Res,words.app 1 (.slice h.nx 0 0 (.some 0) 1) v h1 q = q v2 h2:=fun q=>by
    show srck 1 v h1 (fun m new=>appendk 1 (.slice h.nx 0 0 (.some 0) 1) m new h1 q) = _
    rw [src_words w1]
    have:=e2 q
    rw [List.length_map] at this
    exact this
   have r0 : ∀ q : T→Res,words.row 1 0 [] q = q .e:=fun q=>rfl
   have sn : ∀ q : Bool→Res,snk v q = q false:=fun q=>by
    generalize ws.map wT = rows at w
    cases w with
    | nils=>exact absurd rfl hn
    | emp=>rfl
    | sl=>rfl
   refine ⟨h2,v2,?_,own_words (by simpa using w2),⟨Nat.le_trans U1.nx U2.nx,fun b hb=>(U2.get b hb).trans (U1.get b hb)⟩⟩
   rw [call40]
   simp -implicitDefEqProofs only [sh40,↓sn,↓r0,↓e1',↓e2',↓evR]
end
end Go.Ev.WIB
