/- IbL: texts joined. -/
import Derived.Test.YtcglhljoepefaaaIbJ
/- InternBack: a value's word: the walk. -/
namespace Go.Ev.WIB
open Go.Proofs
set_option maxRecDepth 100000
section
variable {h : Heap} {p : Bid} {sh : List Sh} {L : List Th} {S X : Nat→Prop} {n d : Nat}
def Xb (X : Nat→Prop) (b : Bid) (x : Nat) : Prop:=X x ∨ x = b.val
theorem TabR.addX (w : TabR h p sh L S X) {h' : Heap} (u : Up h h') {b : Bid} (h1 : h.nx.val ≤ b.val) (h2 : b.val < h'.nx.val) : TabR h' p sh L S (Xb X b):=by
 have w':=w.up u
 obtain ⟨bo,bm,c,va,vs,cells,pv,wx⟩:=w
 have lt : ∀ x,S x→x < h.nx.val:=fun x hx=>wx.lts hx
 have u':=wx.up u
 refine ⟨bo,bm,c,va,vs,cells,pv,u'.row,u'.of,u'.len,u'.all,u'.pl,?_,u'.idx,u'.map,?_,?_,u'.lt,u'.ne,u'.oa,u'.oc,u'.occ,u'.mem⟩
 · exact fun i t v e1 e2=>(wx.parts i t v e1 e2).mv (fun x hx=>⟨Nat.lt_of_lt_of_le hx.1 u.nx,fun e=>e.elim (fun e=>hx.2 (.inl e)) fun e=>e.elim (fun e=>hx.2 (.inr e)) fun e=>by have:=hx.1; omega⟩) fun b hb=>u.get b hb.1
 · exact wx.shp.mv (fun x hx=>⟨Nat.lt_of_lt_of_le hx.1 u.nx,fun e=>e.elim (fun e=>hx.2 (.inl e)) fun e=>e.elim (fun e=>hx.2 (.inr e)) fun e=>by have:=hx.1; omega⟩) fun b hb=>u.get b hb.1
 · rintro x (hx | hx)
   · exact u'.xs x hx
   · exact ⟨by omega,fun e=>by have:=lt x e; omega⟩
theorem TabR.dropX (w : TabR h p sh L S X) {Y : Nat→Prop} (hy : ∀ x,Y x→X x) : TabR h p sh L S Y:=by
 obtain ⟨bo,bm,c,va,vs,cells,pv,wx⟩:=w
 have sub : ∀ x,Still h (SX S X) x→Still h (SX S Y) x:=fun x hx=>⟨hx.1,fun e=>hx.2 (e.imp id (hy x))⟩
 exact ⟨bo,bm,c,va,vs,cells,pv,wx.row,wx.of,wx.len,wx.all,wx.pl,fun i t v e1 e2=>(wx.parts i t v e1 e2).mv sub fun _ _=>rfl,wx.idx,wx.map,wx.shp.mv sub fun _ _=>rfl,fun x hx=>wx.xs x (hy x hx),wx.lt,wx.ne,wx.oa,wx.oc,wx.occ,wx.mem⟩
theorem TabR.extX (w : TabR h p sh L S X) {h' : Heap} (u : Chg X h h') : TabR h' p sh L S X:=by
 obtain ⟨bo,bm,c,va,vs,cells,pv,wx⟩:=w
 have nx : ∀ x,S x→¬ X x:=fun x hs hx=>(wx.xs x hx).2 hs
 have m:=fun x e=>(wx.mem x).2 e
 refine ⟨bo,bm,c,va,vs,cells,pv,u.row wx.row wx.lt.1 (nx _ (m _ (.inl rfl))),u.row wx.of wx.lt.2.1 (nx _ (m _ (.inr (.inl rfl)))),wx.len,wx.all.chg u fun x hx=>Classical.byContradiction fun e=>nx x (m x (.inr (.inr (.inr (.inl e))))) hx,wx.pl,?_,?_,wx.map.keep (u.get bm wx.lt.2.2 (nx _ (m _ (.inr (.inr (.inl rfl)))))),?_,?_,?_,wx.ne,wx.oa,wx.oc,wx.occ,wx.mem⟩
 · exact fun i t v e1 e2=>(wx.parts i t v e1 e2).mv (fun x hx=>⟨Nat.lt_of_lt_of_le hx.1 u.nx,hx.2⟩) fun b hb=>u.get b hb.1 fun e=>hb.2 (.inr e)
 · exact fun s v hv=>(wx.idx s v hv).chg u fun x hx=>Classical.byContradiction fun e=>nx x (m x (.inr (.inr (.inr (.inr ⟨v,List.mem_of_getElem? hv,e⟩))))) hx
 · exact wx.shp.mv (fun x hx=>⟨Nat.lt_of_lt_of_le hx.1 u.nx,hx.2⟩) fun b hb=>u.get b hb.1 fun e=>hb.2 (.inr e)
 · exact fun x hx=>⟨Nat.lt_of_lt_of_le (wx.xs x hx).1 u.nx,(wx.xs x hx).2⟩
 · have:=u.nx
   obtain ⟨h1,h2,h3⟩:=wx.lt
   exact ⟨by omega,by omega,by omega⟩
theorem make_words (h : Heap) {m : Nat} (hm : m ≤ 16777216) : ∃ h',(∀ q : V→Heap→Res,words.make 1 [.int .u64 (.ofNat 0)] (ik m) (ik m) h q = q (.slice h.nx 0 m (some m) 1) h')∧Row (h'.t.get h.nx) 1 (List.replicate m (.int .u64 (.ofNat 0)))∧Up h h'∧h.nx.val < h'.nx.val:=by
 obtain ⟨h',e,r,u⟩:=newk_law h (.arr 1 m (repT [.int .u64 (.ofNat 0)] m m) false)
 refine ⟨h',fun q=>?_,?_,u.up,u.lt⟩
 · show ifk (Nat.ble m m) (ifk (Nat.ble m 16777216) (h.newk (.arr 1 m (repT [.int .u64 (.ofNat 0)] m m) false) fun bb h'=>q (.slice bb 0 m (some m) 1) h') .fail) .fail = _
   rw [ble_of (Nat.le_refl _),ifk_true,ble_of hm,ifk_true]
   exact e _
 · have:=Row.rep [V.int .u64 (.ofNat 0)] (by simp) m
   rw [r]
   have e : (List.replicate m [V.int .u64 (.ofNat 0)]).flatten = List.replicate m (.int .u64 (.ofNat 0)):=by
    induction m with
    | zero=>rfl
    | succ m ih=>simp [List.replicate_succ]
   rw [e] at this
   exact this
abbrev uV (x : Nat) : V:=.int .u64 (.ofNat x)
theorem row_words {b : Bid} {ws : List Nat} {A : Nat→Prop} (r : Row (h.t.get b) 1 (ws.map uV)) (hA : A b.val) (c : Option Nat) : CellA h A (.sl 1 (ws.map wT)) (.slice b 0 ws.length c 1):=by
 have:=CellA.sl (h:=h) (A:=A) 1 (ws.map wT) b 0 c false (ws.map uV) hA r (by simp) (by intro r hr; obtain ⟨x,_,rfl⟩:=List.mem_map.1 hr; rfl) (by
  intro i r' j t v h1 h2 h3
  rw [List.getElem?_map] at h1
  obtain ⟨x,h4,rfl⟩:=Option.map_eq_some_iff.1 h1
  match j,h2 with
  | 0,h2=>
    cases h2
    rw [Nat.mul_one,Nat.zero_add,Nat.add_zero,List.getElem?_map,h4] at h3
    cases h3
    exact .i _ _
  | j + 1,h2=>simp at h2)
 rw [List.length_map] at this
 exact this
def WordLaw (n d m : Nat) (p : Bid) (sh : List Sh) (r : List Tr) : Prop:=
 ∀ (s : Nat) (L : List Th) (S X : Nat→Prop) (h : Heap) (l : List V),Fits sh s r→TabR h p sh L S X→Good sh L→L.length + 1 + wvRow r ≤ 999999→RowA h (Still h (SX S X)) r l →
  ∃ h' S',call tabW n d f22 [.ptr p 0,I (.ofNat s),.agg 4 l] h = .ret (.tup [uV ((wordF sh m L s r).1.getD 0),ik (if (wordF sh m L s r).1 = none then 3 else 0)]) h'∧TabR h' p sh (wordF sh m L s r).2 S' X∧Chg S h h'∧∀ x,S' x→S x ∨ h.nx.val ≤ x
def LoopEnd (q : Res) (p p0 bb : Bid) (s N : Nat) (dn : List Nat) (h' : Heap) : Option (List Nat)→Prop
 | none=>q = .done .ret [.ptr p 0,I (.ofNat s),.ptr p0 0,uV 0,ik 3,.slice bb 0 N (some N) 1] h'
 | some ws=>q = .done .normal [.ptr p 0,I (.ofNat s),.ptr p0 0,.und,.und,.slice bb 0 N (some N) 1] h'∧Row (h'.t.get bb) 1 ((dn ++ ws).map uV)
theorem word_loop (ok : ShsOk sh) {m s N : Nat} {p0 bb : Bid} {want : List Nat} {kids : List (List Tr)} {vw vk : V} (hl : kids.length = want.length) (hl2 : kids.length ≤ 12) (hN : N = kids.length)
 (IH : ∀ r ∈ kids,WordLaw n d m p sh r) (hf : ∀ (i a : Nat) (r : List Tr),want[i]? = some a→kids[i]? = some r→Fits sh a r) (hwf : ∀ r ∈ kids,∀ (L : List Th) (a : Nat),Good sh L→L.length + 1 + wvRow r ≤ 1000000→Fits sh a r→WF sh L a r (wordF sh m L a r)) :
 ∀ (j : Nat) {i q : Nat} {dn : List Nat} {L : List Th} {S : Nat→Prop} {h : Heap},i + j = kids.length→dn.length = i→j < q→TabR h p sh L S X→X bb.val→Good sh L→L.length + wvRows (kids.drop i) ≤ 999999 →
  CellA h (Still h (SX S X)) (.sl 1 (want.map iT)) vw→CellA h (Still h (SX S X)) (.sl 4 kids) vk→Row (h.t.get bb) 1 (dn.map uV ++ List.replicate j (uV 0)) →
  ∃ h' S',LoopEnd (lpk (b22_1 words n (call tabW n d)) q [.ptr p 0,I (.ofNat s),.ptr p0 0,vw,.slice bb 0 N (some N) 1,vk,I (.ofNat kids.length),I (.ofNat i)] h) p p0 bb s N dn h' (kidsF (wordF sh m) L (want.drop i) (kids.drop i)).1 ∧
   TabR h' p sh (kidsF (wordF sh m) L (want.drop i) (kids.drop i)).2 S' X∧Chg (fun x=>S x ∨ x = bb.val) h h'∧∀ x,S' x→S x ∨ h.nx.val ≤ x
 | j,i,0,_,_,_,_,_,_,h0,_,_,_,_,_,_,_=>absurd h0 (Nat.not_lt_zero _)
 | 0,i,q + 1,dn,L,S,h,hi,hdn,_,w,hx,g,hs,ww,wk,r=>by
   have n1 : ilt (.ofNat i) (.ofNat kids.length) = false:=ilt_false (by omega)
   rw [List.drop_eq_nil_of_le (show kids.length ≤ i by omega),List.drop_eq_nil_of_le (show want.length ≤ i by omega)]
   refine ⟨h,S,⟨?_,by simpa using r⟩,w,.refl _ _,fun x hx=>.inl hx⟩
   rw [lpk_succ]
   simp -implicitDefEqProofs only [b22_1,↓n1,↓evR]
 | j + 1,i,q + 1,dn,L,S,h,hi,hdn,hq,w,hx,g,hs,ww,wk,r=>by
   have hik : i < kids.length:=by omega
   have hiw : i < want.length:=by omega
   obtain ⟨b,o,mm,l,h1,h2,e,hl4,a1,d1,d2,a2,U2,r2⟩:=kid_row wk hik fun x hx=>hx.1
   have lts : ∀ x,SX S X x→x < h.nx.val:=fun x hx=>hx.elim w.lts fun e=>(w.xs e).1
   obtain ⟨b3,o3,m3,e3,a3⟩:=want_at (ww.stay U2 lts) hiw
   have w2:=w.up U2
   have hfi:=hf i want[i] kids[i] (List.getElem?_eq_getElem hiw) (List.getElem?_eq_getElem hik)
   have hdr:=List.drop_eq_getElem_cons hik
   have hdw:=List.drop_eq_getElem_cons hiw
   rw [hdr,wvRows] at hs
   obtain ⟨h3,S3,e4,w3,C3,s3⟩:=IH kids[i] (List.getElem_mem hik) want[i] L S X h2 l hfi w2 g (by omega) (r2.mv (fun x hx=>⟨Nat.lt_of_lt_of_le hx.1 U2.nx,hx.2⟩) fun _ _=>rfl)
   have wf:=hwf kids[i] (List.getElem_mem hik) L want[i] g (by omega) hfi
   have n1:=ilt_true hik
   have n2 : Nat.blt i kids.length = true:=blt_of hik
   have n2' : Nat.blt i want.length = true:=blt_of hiw
   have n3:=ad_nat (a:=i) (b:=1) (by omega)
   have nN : Nat.blt i N = true:=blt_of (by omega)
   have hbb:=w.xs hx
   have CU : Chg S h h3:=(U2.chg (S:=S)).trans C3 fun x hx=>.inl hx
   have sU : ∀ x,S3 x→S x ∨ h.nx.val ≤ x:=fun x hx=>(s3 x hx).imp id fun e=>Nat.le_trans U2.nx e
   have rb3:=CU.row r hbb.1 hbb.2
   rw [hdr,hdw,kidsF]
   cases hq1 : wordF sh m L want[i] kids[i] with
   | mk o L1=>
     rw [hq1] at e4 w3 wf
     cases o with
     | none=>
       have e4' : call tabW n d f22 [.ptr p 0,I (.ofNat want[i]),.agg 4 l] h2 = .ret (.tup [uV 0,ik 3]) h3:=e4
       have n5 : ieq (.ofNat 3) (.ofNat 0) = false:=rfl
       refine ⟨h3,S3,?_,w3,CU.mono fun x _ hx=>.inl hx,sU⟩
       show lpk _ (q + 1) _ h = _
       rw [lpk_succ]
       subst e; subst e3
       simp -implicitDefEqProofs only [b22_1,↓n1,↓n2,↓n2',↓a1,↓d1,↓d2,↓a2,↓a3,↓e4',↓n5,↓evR]
     | some x=>
       have e4' : call tabW n d f22 [.ptr p 0,I (.ofNat want[i]),.agg 4 l] h2 = .ret (.tup [uV x,ik 0]) h3:=e4
       have n5 : ieq (.ofNat 0) (.ofNat 0) = true:=rfl
       obtain ⟨h4,e5,r4,B4⟩:=storek_law (o:=i) (n:=1) (vs:=[uV x]) rb3 rfl (by simp; omega)
       have e5' : ∀ q,words.store h3 bb (Nat.add 0 i) 1 [uV x] q = q h4:=fun q=>by
        show storek h3 bb (0 + i) 1 [uV x] q = _
        rw [Nat.zero_add]; exact e5 q
       have C4 : Chg (fun x=>x = bb.val) h3 h4:=But.chg B4
       have w4:=w3.extX (C4.mono fun y _ hy=>by subst hy; exact hx)
       have r4' : Row (h4.t.get bb) 1 ((dn ++ [x]).map uV ++ List.replicate j (uV 0)):=by
        refine row_ext r4 ?_
        rw [splice,List.take_left' (by simpa using hdn),List.drop_append,List.drop_eq_nil_of_le (by simp; omega),List.map_append,List.append_assoc,List.append_assoc]
        congr 1
        simp [hdn,List.replicate_succ]
       have C14 : Chg (fun x=>S x ∨ x = bb.val) h h4:=(CU.mono fun x _ hx=>.inl hx).trans C4 fun x hx=>.inl (.inr hx)
       have CX : Chg (SX S X) h h4:=C14.mono fun y _ hy=>hy.imp id fun e=>by subst e; exact hx
       have sX : ∀ y,SX S3 X y→SX S X y ∨ h.nx.val ≤ y:=fun y hy=>hy.elim (fun e=>(sU y e).imp .inl id) fun e=>.inl (.inr e)
       have len1:=wf.len
       have good1 : Good sh L1:=wf.good
       simp only at len1
       obtain ⟨h5,S5,e6,w5,C5,s5⟩:=word_loop (s:=s) (p0:=p0) ok hl hl2 hN IH hf hwf j (i:=i + 1) (q:=q) (dn:=dn ++ [x]) (L:=L1) (S:=S3) (h:=h4) (by omega) (by simp [hdn]) (by omega) w4 hx good1 (by omega) (ww.chg CX sX) (wk.chg CX sX) r4'
       have C15 : Chg (fun x=>S x ∨ x = bb.val) h h5:=C14.trans C5 fun y hy=>hy.elim (fun e=>(sU y e).imp .inl id) fun e=>.inl (.inr e)
       have sub5 : ∀ x,S5 x→S x ∨ h.nx.val ≤ x:=fun y hy=>(s5 y hy).elim (sU y) fun e=>.inr (by have:=C14.nx; omega)
       have hone : ∀ rr : Res,ifk (ne (.ofNat 0) 0) rr rr = rr:=fun rr=>rfl
       have step : ∀ R : Res,lpk (b22_1 words n (call tabW n d)) q [.ptr p 0,I (.ofNat s),.ptr p0 0,vw,.slice bb 0 N (some N) 1,vk,I (.ofNat kids.length),I (.ofNat (i + 1))] h4 = R →
        lpk (b22_1 words n (call tabW n d)) (q + 1) [.ptr p 0,I (.ofNat s),.ptr p0 0,vw,.slice bb 0 N (some N) 1,vk,I (.ofNat kids.length),I (.ofNat i)] h = R:=fun R hR=>by
        rw [lpk_succ]
        subst e; subst e3
        simp -implicitDefEqProofs only [b22_1,↓n1,↓n2,↓n2',↓nN,↓a1,↓d1,↓d2,↓a2,↓a3,↓e4',↓n5,↓e5',↓n3,↓hR,↓evR]
       simp only
       cases hq2 : kidsF (wordF sh m) L1 (want.drop (i + 1)) (kids.drop (i + 1)) with
       | mk o2 L2=>
         rw [hq2] at e6 w5
         cases o2 with
         | none=>exact ⟨h5,S5,step _ e6,w5,C15,sub5⟩
         | some ws2=>
           obtain ⟨e7,r7⟩:=e6
           refine ⟨h5,S5,⟨step _ e7,?_⟩,w5,C15,sub5⟩
           rw [List.append_assoc] at r7
           exact r7
theorem word_law (ok : ShsOk sh) (hn : 1000 ≤ n) : ∀ (m : Nat) {r : List Tr} {d : Nat},SizeOf.sizeOf r < m→IsV r→wvRow r ≤ 1000→m + 6 ≤ d→WordLaw n d m p sh r
 | 0,_,_,hm,_,_,_=>absurd hm (Nat.not_lt_zero _)
 | m + 1,r,d,hm,hv,hwv,hd=>by
   obtain ⟨d,rfl⟩ : ∃ d',d = d' + 1 + 1 + 1 + 1 + 1:=⟨d - 5,by omega⟩
   intro s L S X h lv hf w g hs rv
   have lts : ∀ x,SX S X x→x < h.nx.val:=fun x hx=>hx.elim w.lts fun e=>(w.xs e).1
   cases hf with
   | num _ z hk=>
     obtain ⟨v0,v1,v2,vk,rfl,r0,r1,r2,rk⟩:=rv.inv4
     obtain rfl:=r0.int_inv
     obtain rfl:=r1.int_inv
     obtain ⟨h0,e0,row0,U0,lt0⟩:=new_row h (g:=4) (l:=[.int .u8 (.ofNat 1),.int .i64 z,v2,vk]) rfl (by omega)
     have e0' : ∀ q,words.new h (.arr 4 1 (.lf [.int .u8 (.ofNat 1),.int .i64 z,v2,vk]) .false) q = q h.nx h0:=e0
     have c0 : ∀ q : V→Res,words.load1 h0 h.nx 0 q = q (.int .u8 (.ofNat 1)):=fun q=>load1k_law row0 rfl q
     have c1 : ∀ q : V→Res,words.load1 h0 h.nx 1 q = q (.int .i64 z):=fun q=>load1k_law row0 rfl q
     have n1 : ieq (.ofNat 1) (.ofNat 1) = true:=rfl
     have n2 : wrapv .u64 z = .ofNat (z % 18446744073709551616).toNat:=by
      rw [wu64]
      exact (Int.toNat_of_nonneg (by omega)).symm
     have ew : wordF sh (m + 1) L s (vT 1 z 0 0 []) = (some (z % 18446744073709551616).toNat,L):=by simp [wordF]
     rw [ew]
     refine ⟨h0,S,?_,w.up U0,U0.chg,fun x hx=>.inl hx⟩
     rw [call22]
     simp -implicitDefEqProofs only [sh22,↓e0',↓c0,↓c1,↓n1,↓n2,↓evR]
     rfl
   | nil _ hk=>
     obtain ⟨v0,v1,v2,vk,rfl,r0,r1,r2,rk⟩:=rv.inv4
     obtain rfl:=r0.int_inv
     obtain ⟨h0,e0,row0,U0,lt0⟩:=new_row h (g:=4) (l:=[.int .u8 (.ofNat 3),v1,v2,vk]) rfl (by omega)
     have e0' : ∀ q,words.new h (.arr 4 1 (.lf [.int .u8 (.ofNat 3),v1,v2,vk]) .false) q = q h.nx h0:=e0
     have c0 : ∀ q : V→Res,words.load1 h0 h.nx 0 q = q (.int .u8 (.ofNat 3)):=fun q=>load1k_law row0 rfl q
     have n1 : ieq (.ofNat 3) (.ofNat 1) = false:=rfl
     have n3 : ieq (.ofNat 3) (.ofNat 3) = true:=rfl
     have ew : wordF sh (m + 1) L s (vT 3 0 0 0 []) = (some 0,L):=by simp [wordF]
     rw [ew]
     refine ⟨h0,S,?_,w.up U0,U0.chg,fun x hx=>.inl hx⟩
     rw [call22]
     simp -implicitDefEqProofs only [sh22,↓e0',↓c0,↓n1,↓n3,↓evR]
     rfl
   | sym _ l t hk=>
     obtain ⟨v0,v1,v2,vk,rfl,r0,r1,r2,rk⟩:=rv.inv4
     obtain rfl:=r0.int_inv
     obtain ⟨rfl,ht⟩:=r2.str_inv
     obtain ⟨h0,e0,row0,U0,lt0⟩:=new_row h (g:=4) (l:=[.int .u8 (.ofNat 2),v1,.str l t,vk]) rfl (by omega)
     have e0' : ∀ q,words.new h (.arr 4 1 (.lf [.int .u8 (.ofNat 2),v1,.str l t,vk]) .false) q = q h.nx h0:=e0
     have c0 : ∀ q : V→Res,words.load1 h0 h.nx 0 q = q (.int .u8 (.ofNat 2)):=fun q=>load1k_law row0 rfl q
     have c2 : ∀ q : V→Res,words.load1 h0 h.nx 2 q = q (.str l t):=fun q=>load1k_law row0 rfl q
     have n1 : ieq (.ofNat 2) (.ofNat 1) = false:=rfl
     have n3 : ieq (.ofNat 2) (.ofNat 3) = false:=rfl
     have n2 : ieq (.ofNat 2) (.ofNat 2) = true:=rfl
     rw [wv_vT] at hwv
     obtain ⟨h1,S1,e1,w1,C1,s1⟩:=sym_law (n:=n) (d:=d) (w.up U0) ok hn (by omega) ht (by omega)
     have ew : wordF sh (m + 1) L s (vT 2 0 l t []) = (some (putP sh L (symT (digN l t))).1,(putP sh L (symT (digN l t))).2):=by simp [wordF]
     rw [ew]
     refine ⟨h1,S1,?_,w1,(U0.chg (S:=S)).trans C1 fun x hx=>.inl hx,fun x hx=>(s1 x hx).imp id fun e=>Nat.le_trans U0.nx e⟩
     rw [call22]
     simp -implicitDefEqProofs only [sh22,↓e0',↓c0,↓n1,↓n3,↓n2,↓c2,↓e1,↓evR]
     rfl
   | node _ k z want kids hk hw hl hfk=>
     cases hv with
     | mk _ _ _ _ _ hz hl0 hkl hvk hlt=>
     obtain ⟨v0,v1,v2,vk,rfl,r0,r1,r2,rk⟩:=rv.inv4
     obtain rfl:=r0.int_inv
     obtain rfl:=r1.int_inv
     rw [wv_vT] at hs hwv
     obtain ⟨b,rfl⟩ : ∃ b,z = .ofNat b:=by
      unfold wantOf at hw
      cases z with
      | ofNat b=>exact ⟨b,rfl⟩
      | negSucc b=>
        split at hw
        · split at hw
          · simp at hw
          · split at hw
            · cases hw
            · cases hw
        · cases hw
     have hw12:=(ok.want s _ want hw).1
     have hsz : ∀ r ∈ kids,SizeOf.sizeOf r < m:=fun r hr=>by
      have:=List.sizeOf_lt_of_mem hr
      simp only [List.cons.sizeOf_spec,Tr.sl.sizeOf_spec] at hm
      omega
     have IH : ∀ r ∈ kids,WordLaw n (d + 1 + 1 + 1 + 1) m p sh r:=fun r hr=>word_law ok hn m (hsz r hr) (hvk r hr) (by have:=wvRows_mem hr; omega) (by omega)
     have hwf : ∀ r ∈ kids,∀ (L : List Th) (a : Nat),Good sh L→L.length + 1 + wvRow r ≤ 1000000→Fits sh a r→WF sh L a r (wordF sh m L a r):=fun r hr L a g' hs' hf'=>wordF_law ok m (hsz r hr) g' hf' (hvk r hr) hs' (by have:=wvRows_mem hr; omega)
     obtain ⟨h0,e0,row0,U0,lt0⟩:=new_row h (g:=4) (l:=[.int .u8 (.ofNat k),.int .i64 (.ofNat b),v2,vk]) rfl (by omega)
     have e0' : ∀ q,words.new h (.arr 4 1 (.lf [.int .u8 (.ofNat k),.int .i64 (.ofNat b),v2,vk]) .false) q = q h.nx h0:=e0
     have c0 : ∀ q : V→Res,words.load1 h0 h.nx 0 q = q (.int .u8 (.ofNat k)):=fun q=>load1k_law row0 rfl q
     have c1 : ∀ q : V→Res,words.load1 h0 h.nx 1 q = q (.int .i64 (.ofNat b)):=fun q=>load1k_law row0 rfl q
     have n1 : ieq (.ofNat k) (.ofNat 1) = false:=by rw [ieq_nat]; simp; omega
     have n3 : ieq (.ofNat k) (.ofNat 3) = false:=by rw [ieq_nat]; simp; omega
     have n2 : ieq (.ofNat k) (.ofNat 2) = false:=by rw [ieq_nat]; simp; omega
     have w0:=w.up U0
     obtain ⟨bo,bm,c,va,vs,cells,pv,wx⟩:=w0
     obtain ⟨vw,ew,rw'⟩:=wx.want (n:=n) (d:=d + 1 + 1) (s:=s) (b:=.ofNat b) (l:=want) hw
     have shp':=rw'
     have lw : ∀ q : Nat→Res,lenk vw q = q want.length:=fun q=>by rw [rw'.lenk,List.length_map]
     have lk : ∀ q : Nat→Res,lenk vk q = q kids.length:=fun q=>by rw [rk.lenk]
     obtain ⟨h2,e2,rb2,U2,lt2⟩:=make_words h0 (m:=want.length) (by omega)
     have r02:=row0.later lt0 U2
     have c3 : ∀ q : V→Res,words.load1 h2 h.nx 3 q = q vk:=fun q=>load1k_law r02 rfl q
     have w2:=(w.up U0).addX U2 (b:=h0.nx) (Nat.le_refl _) lt2
     have stX : ∀ {h1 : Heap} {t : Tr} {v : V},Up h1 h0→(∀ x,SX S X x→x < h1.nx.val)→h1.nx.val ≤ h0.nx.val→CellA h1 (Still h1 (SX S X)) t v→CellA h2 (Still h2 (SX S (Xb X h0.nx))) t v:=fun {h1 t v} U _ hle c=>
      c.mv (fun x hx=>⟨by have:=hx.1; have:=U2.nx; omega,fun e=>e.elim (fun e=>hx.2 (.inl e)) fun e=>e.elim (fun e=>hx.2 (.inr e)) fun e=>by have:=hx.1; omega⟩) fun b hb=>(U.trans U2).get b hb.1
     obtain ⟨h3,S3,e3,w3,C3,s3⟩:=word_loop (n:=n) (d:=d + 1 + 1 + 1 + 1) (m:=m) (s:=s) (p0:=h.nx) (bb:=h0.nx) (N:=want.length) (X:=Xb X h0.nx) ok hl (by omega) hl.symm IH hfk hwf kids.length (i:=0) (q:=n) (dn:=[]) (L:=L) (S:=S) (h:=h2) (by omega) rfl (by omega) w2 (.inr rfl) g (by rw [List.drop_zero]; omega)
      (stX (.refl _) (fun x hx=>Nat.lt_of_lt_of_le (lts x hx) U0.nx) (Nat.le_refl _) shp') (stX U0 lts U0.nx rk) (by rw [hl]; exact rb2)
     rw [List.drop_zero,List.drop_zero] at e3 w3
     have kf:=kidsF_law (sh:=sh) (f:=wordF sh m) hl g (by omega) fun r hr L' a g' hs' ⟨i,i1,i2⟩=>hwf r hr L' a g' hs' (hfk i a r i1 i2)
     have ewF : wordF sh (m + 1) L s (vT k (.ofNat b) 0 0 kids) = match kidsF (wordF sh m) L want kids with
      | (none,L1)=>(none,L1)
      | (some ws,L1)=>makeP sh L1 s b want ws:=by
      rw [wordF,if_neg (by omega),if_neg (by omega),if_neg (by omega),hw]
      rfl
     rw [ewF]
     have U02:=U0.trans U2
     have CS3 : Chg S h h3:=⟨Nat.le_trans U02.nx C3.nx,fun x hx hs=>(C3.get x (Nat.lt_of_lt_of_le hx U02.nx) fun e=>e.elim hs fun e=>by have:=U0.nx; omega).trans (U02.get x hx)⟩
     have sS3 : ∀ x,S3 x→S x ∨ h.nx.val ≤ x:=fun x hx=>(s3 x hx).imp id fun e=>Nat.le_trans U02.nx e
     have hp0 : ¬ (S h.nx.val ∨ h.nx.val = h0.nx.val):=fun e=>e.elim (fun e=>by have:=w.lts e; omega) fun e=>by omega
     have r03:=C3.row r02 (Nat.lt_of_lt_of_le lt0 U2.nx) hp0
     have c13 : ∀ q : V→Res,words.load1 h3 h.nx 1 q = q (.int .i64 (.ofNat b)):=fun q=>load1k_law r03 rfl q
     cases hq : kidsF (wordF sh m) L want kids with
     | mk o L1=>
       rw [hq] at e3 w3 kf
       cases o with
       | none=>
         refine ⟨h3,S3,?_,w3.dropX fun x hx=>.inl hx,CS3,sS3⟩
         have e3' : lpk (b22_1 words n (call tabW n (d + 1 + 1 + 1 + 1))) n [.ptr p 0,I (.ofNat s),.ptr h.nx 0,vw,.slice h0.nx 0 want.length (some want.length) 1,vk,I (.ofNat kids.length),I (.ofNat 0)] h2 = _:=e3
         rw [call22]
         simp -implicitDefEqProofs only [sh22,↓e0',↓c0,↓n1,↓n3,↓n2,↓c1,↓ew,↓lw,↓e2,↓c3,↓lk,↓e3',↓evR]
         rfl
       | some ws=>
         obtain ⟨e3',rb3⟩:=e3
         obtain ⟨d1,d2⟩:=kf.den ws rfl
         have good1 : Good sh L1:=kf.good
         have len1:=kf.len
         simp only at len1
         rw [List.nil_append] at rb3
         have lbb : h0.nx.val < h3.nx.val:=Nat.lt_of_lt_of_le lt2 C3.nx
         have nbb : ¬ S3 h0.nx.val:=(w3.xs (.inr rfl)).2
         have wp : CellA h3 (Still h3 S3) (.sl 1 (ws.map wT)) (.slice h0.nx 0 want.length (some want.length) 1):=by
          have:=row_words (A:=Still h3 S3) rb3 ⟨lbb,nbb⟩ (some want.length)
          rw [show ws.length = want.length by omega] at this
          exact this
         obtain ⟨h4,S4,e4,w4,C4,s4⟩:=make_law (n:=n) (d:=d) (w3.dropX fun x hx=>.inl hx) ok hn (by show L1.length < 1000000; omega) good1.deep (s:=s) (b:=b) (want:=want) (ws:=ws) hw wp (by omega)
          (fun x hx=>by
            obtain ⟨i,hi,rfl⟩:=List.getElem_of_mem hx
            exact (d2 i want[i] ws[i] kids[i] (List.getElem?_eq_getElem (by omega)) (List.getElem?_eq_getElem hi) (List.getElem?_eq_getElem (by omega))).2)
          (fun i a x i1 i2=>by
            have hi : i < kids.length:=by have:=(List.getElem?_eq_some_iff.1 i2).1; omega
            exact (d2 i a x kids[i] i1 i2 (List.getElem?_eq_getElem hi)).1.is)
         refine ⟨h4,S4,?_,w4,CS3.trans C4 fun x hx=>sS3 x hx,fun x hx=>(s4 x hx).elim (sS3 x) fun e=>.inr (by have:=CS3.nx; omega)⟩
         have e3'' : lpk (b22_1 words n (call tabW n (d + 1 + 1 + 1 + 1))) n [.ptr p 0,I (.ofNat s),.ptr h.nx 0,vw,.slice h0.nx 0 want.length (some want.length) 1,vk,I (.ofNat kids.length),I (.ofNat 0)] h2 = _:=e3'
         rw [call22]
         simp -implicitDefEqProofs only [sh22,↓e0',↓c0,↓n1,↓n3,↓n2,↓c1,↓ew,↓lw,↓e2,↓c3,↓lk,↓e3'',↓c13,↓e4,↓evR]
end
end Go.Ev.WIB

/- InternBack: what is taken back: keys, places, things. -/
namespace Go.Ev.WIB
open Go.Proofs
set_option maxRecDepth 100000
structure TabJ (h : Heap) (p bo bm : Bid) (c : Option Nat) (va vs : V) (cells pv : List V) (sh : List Sh) (L : List Th) (K : Nat→Nat) (M : List (List Nat × Nat)) (S X : Nat→Prop) : Prop where
 row : Row (h.t.get p) 4 [va,.slice bo 0 cells.length c 1,vs,.map bm]
 of : Row (h.t.get bo) 1 cells
 len : cells.length = sh.length
 all : Hld h 5 va (thCs L pv)
 pl : pv.length = L.length
 parts : ∀ (i : Nat) (t : Th) (v : V),L[i]? = some t→pv[i]? = some v→CellA h (Still h (SX S X)) (.sl 1 (t.parts.map wT)) v
 idx : ∀ (s : Nat) (v : V),cells[s]? = some v→Hld h 1 v (((idxs L s).take (K s)).map fun i=>I (.ofNat i))
 map : MapIs h bm M
 shp : CellA h (Still h (SX S X)) (.sl 3 (sh.map shT)) vs
 xs : ∀ x,X x→x < h.nx.val∧¬ S x
 lt : p.val < h.nx.val∧bo.val < h.nx.val∧bm.val < h.nx.val
 ne : p.val ≠ bo.val∧p.val ≠ bm.val∧bo.val ≠ bm.val
 oa : Off va p.val∧Off va bo.val∧Off va bm.val
 oc : ∀ v ∈ cells,Off v p.val∧Off v bo.val∧Off v bm.val∧Apart va v
 occ : ∀ (s s' : Nat) (v v' : V),cells[s]? = some v→cells[s']? = some v'→s ≠ s'→Apart v v'
 mem : ∀ x,Sof p bo bm va cells x→S x
 lts : ∀ x,S x→x < h.nx.val
section
variable {h : Heap} {p bo bm : Bid} {c : Option Nat} {va vs : V} {cells pv : List V} {sh : List Sh} {L : List Th} {K : Nat→Nat} {M : List (List Nat × Nat)} {S X : Nat→Prop} {n d : Nat}
theorem TabX.toJ (w : TabX h p bo bm c va vs cells pv sh L M S X) (hK : ∀ s,K s = cnt L s) : TabJ h p bo bm c va vs cells pv sh L K M S X:=
 ⟨w.row,w.of,w.len,w.all,w.pl,w.parts,fun s v hv=>by rw [hK,List.take_length]; exact w.idx s v hv,w.map,w.shp,w.xs,w.lt,w.ne,w.oa,w.oc,w.occ,fun x hx=>(w.mem x).2 hx,fun x hx=>w.lts hx⟩
theorem TabJ.up (w : TabJ h p bo bm c va vs cells pv sh L K M S X) {h' : Heap} (u : Up h h') : TabJ h' p bo bm c va vs cells pv sh L K M S X where
 row:=by rw [u.get p w.lt.1]; exact w.row
 of:=by rw [u.get bo w.lt.2.1]; exact w.of
 len:=w.len
 all:=w.all.up u
 pl:=w.pl
 parts i t v h1 h2:=(w.parts i t v h1 h2).stay u fun x hx=>hx.elim (w.lts x) fun h=>(w.xs x h).1
 idx s v hv:=(w.idx s v hv).up u
 map:=w.map.keep (u.get bm w.lt.2.2)
 shp:=w.shp.stay u fun x hx=>hx.elim (w.lts x) fun h=>(w.xs x h).1
 xs x hx:=⟨Nat.lt_of_lt_of_le (w.xs x hx).1 u.nx,(w.xs x hx).2⟩
 lt:=by have:=u.nx; obtain ⟨h1,h2,h3⟩:=w.lt; omega
 ne:=w.ne
 oa:=w.oa
 oc:=w.oc
 occ:=w.occ
 mem:=w.mem
 lts x hx:=Nat.lt_of_lt_of_le (w.lts x hx) u.nx
theorem drop_row {i : Nat} {t : Th} (pl : pv.length = L.length) (a : Hld h 5 va (thCs L pv)) (hi : L[i]? = some t) : ∃ v b,pv[i]? = some v∧va = .slice b 0 L.length none 5∧b.val < h.nx.val∧∀ q,words.load h b (i * 5) 5 q = q (thC t v):=by
 have hj:=(List.getElem?_eq_some_iff.1 hi).1
 have hp : pv[i]? = some pv[i]:=List.getElem?_eq_getElem (by omega)
 obtain ⟨b,e,hb,ld,_⟩:=a.at_ (g:=5) (m:=L.length) (by omega) (thCs_len pl) hj
 refine ⟨pv[i],b,hp,e,hb,fun q=>?_⟩
 have:=ld 0 5 (by omega) q
 rw [Nat.add_zero,thCs_drop pl hi hp] at this
 exact this
theorem tail_law (pl : pv.length = L.length) (a : Hld h 5 va (thCs L pv)) {m : Nat} (hm : m ≤ L.length) (h0 : L ≠ []) :
 ∃ v',(∀ q : V→Heap→Res,words.slice 5 va (.some (I (.ofNat m))) .none .none h q = q v' h)∧(∀ q : Nat→Res,lenk v' q = q (L.length - m))∧∀ b,va = .slice b 0 L.length none 5→m < L.length→v' = .slice b (0 + m * 5) (L.length - m) none 5:=by
 have hlen : 0 < L.length:=List.length_pos_iff.2 h0
 obtain ⟨t,ht⟩ : ∃ t,L[0]? = some t:=⟨L[0],List.getElem?_eq_getElem hlen⟩
 obtain ⟨v,b,_,e,_⟩:=drop_row pl a ht
 subst e
 have un : ∀ q : V→Heap→Res,words.slice 5 (.slice b 0 L.length none 5) (.some (I (.ofNat m))) .none .none h q = ifk (Nat.beq 5 5) (ifk (Nat.ble m L.length) (ifk (Nat.ble L.length L.length) (ifk (Nat.blt m L.length) (q (.slice b (0 + m * 5) (L.length - m) none 5) h) (q .emp h)) .fail) .fail) .fail:=fun q=>rfl
 by_cases hlt : m < L.length
 · refine ⟨.slice b (0 + m * 5) (L.length - m) none 5,fun q=>?_,fun q=>rfl,fun b' e _=>by cases e; rfl⟩
   rw [un,Nat.beq_refl,ifk_true,ble_of hm,ifk_true,ble_of (Nat.le_refl _),ifk_true,blt_of hlt,ifk_true]
 · refine ⟨.emp,fun q=>?_,fun q=>by rw [show L.length - m = 0 by omega]; rfl,fun b' e h=>absurd h hlt⟩
   rw [un,Nat.beq_refl,ifk_true,ble_of hm,ifk_true,ble_of (Nat.le_refl _),ifk_true,blt_not hlt,ifk_false]
theorem keys_loop {A R : List Th} {v7 : V} {w0 e0 : Int} (hn : 1000 ≤ n) (hlen : (A ++ R).length ≤ 1000000) (hok : ∀ t ∈ R,ThOk t∧t.parts.length ≤ 100) (hv7 : ∀ b,va = .slice b 0 (A ++ R).length none 5→A.length < (A ++ R).length→v7 = .slice b (0 + A.length * 5) ((A ++ R).length - A.length) none 5) :
 ∀ (j : Nat) {i q : Nat} {h : Heap},i + j = R.length→j < q→TabX h p bo bm c va vs cells pv sh (A ++ R) (mapL sh A ++ mapF sh (A ++ R.take i) (R.drop i)) S X →
  ∃ h',lpk (b9_1 words n (call tabW n (d + 1 + 1))) q [.ptr p 0,I (.ofNat A.length),.int .u64 w0,I e0,v7,I (.ofNat R.length),I (.ofNat i)] h = .done .normal [.ptr p 0,I (.ofNat A.length),.int .u64 w0,I e0] h' ∧
   TabX h' p bo bm c va vs cells pv sh (A ++ R) (mapL sh A) S X∧Chg S h h'
 | j,i,0,_,_,h0,_=>absurd h0 (Nat.not_lt_zero _)
 | 0,i,q + 1,h,hi,_,w=>by
   have n1 : ilt (.ofNat i) (.ofNat R.length) = false:=ilt_false (by omega)
   rw [List.drop_eq_nil_of_le (show R.length ≤ i by omega),mapF,List.append_nil] at w
   refine ⟨h,?_,w,.refl _ _⟩
   rw [lpk_succ]
   simp -implicitDefEqProofs only [b9_1,↓n1,↓evR]
 | j + 1,i,q + 1,h,hi,hq,w=>by
   have hik : i < R.length:=by omega
   have hti : (A ++ R)[A.length + i]? = some R[i]:=by rw [List.getElem?_append_right (by omega),Nat.add_sub_cancel_left,List.getElem?_eq_getElem hik]
   obtain ⟨v,b,hpv,eva,hb,ld⟩:=drop_row w.pl w.all hti
   have hlt : A.length < (A ++ R).length:=by rw [List.length_append]; omega
   have ev7:=hv7 b eva hlt
   have n1:=ilt_true hik
   have n2 : Nat.blt i ((A ++ R).length - A.length) = true:=blt_of (by rw [List.length_append]; omega)
   have n3:=ad_nat (a:=i) (b:=1) (by rw [List.length_append] at hlen; omega)
   have ld' : ∀ q,words.load h b (Nat.add (0 + A.length * 5) (Nat.mul i 5)) 5 q = q (thC R[i] v):=fun q=>by
    show words.load h b (0 + A.length * 5 + i * 5) 5 q = _
    rw [show 0 + A.length * 5 + i * 5 = (A.length + i) * 5 by omega]
    exact ld q
   obtain ⟨h1,h2,e1,e2,r2,U2,lt2⟩:=new_store h (g:=5) (z:=[ik 0,ik 0,.str 0 0,.nils,ik 0]) (l:=thC R[i] v) rfl rfl (by omega)
   have e1' : ∀ q,words.new h (.arr 5 1 (repT [ik 0,ik 0,.str 0 0,.nils,ik 0] 1 1) .false) q = q h.nx h1:=e1
   have e2' : ∀ q,words.store h1 h.nx 0 5 (thC R[i] v) q = q h2:=e2
   have l2 : ∀ q : List V→Res,words.load h2 h.nx 0 5 q = q (thC R[i] v):=fun q=>by
    have:=loadk_law r2 (o:=0) (n:=5) (by simp [thC]) q
    rw [List.drop_zero,List.take_of_length_le (by simp [thC])] at this
    exact this
   have w2:=w.up U2
   obtain ⟨_,_,_,a3⟩:=w2.ld
   obtain ⟨ok,hp⟩:=hok _ (List.getElem_mem hik)
   obtain ⟨h3,e3,U3⟩:=key_law (n:=n) (d:=d) (h:=h2) ok (A:=Still h2 (SX S X)) (fun x hx=>hx.1) (w2.parts _ _ _ hti hpv) (by omega) (by omega)
   have w3:=w2.up U3
   obtain ⟨_,_,_,a3'⟩:=w3.ld
   have ec:=castS_sV (keyB R[i])
   have em : mapL sh A ++ mapF sh (A ++ R.take i) (R.drop i) = mapL sh A ++ (keyB R[i],cnt (A ++ R.take i) R[i].shape + fst0 sh R[i].shape) :: mapF sh (A ++ R.take (i + 1)) (R.drop (i + 1)):=by
    rw [List.drop_eq_getElem_cons hik,mapF,List.append_assoc,List.take_succ_eq_append_getElem hik]
   have mm:=w3.map
   rw [em] at mm
   obtain ⟨h4,e4,m4,C4⟩:=del_law mm
   have e4' : ∀ q : V→Heap→Res,words.ex (.del .true) [.map bm,.str (keyB R[i]).length (packN (keyB R[i]))] h3 q = q (.tup []) h4:=e4
   have w4:=w3.setmap C4 m4
   obtain ⟨h5,e5,w5,C5⟩:=keys_loop (w0:=w0) (e0:=e0) hn hlen hok hv7 j (i:=i + 1) (q:=q) (h:=h4) (by omega) (by omega) w4
   have hbm : S bm.val:=(w.mem _).2 (.inr (.inr (.inl rfl)))
   refine ⟨h5,?_,w5,(((U2.trans U3).chg (S:=S)).trans (C4.mono fun x _ hx=>by subst hx; exact hbm) fun x hx=>.inl hx).trans C5 fun x hx=>.inl hx⟩
   rw [lpk_succ]
   subst ev7
   simp -implicitDefEqProofs only [b9_1,↓n1,↓n2,↓ld',↓e1',↓e2',↓a3,↓l2,↓e3,↓ec,↓a3',↓e4',↓n3,↓e5,↓evR]
def cR (R : List Th) (s : Nat) : Nat:=(idxsF s 0 R).length
theorem idxsF_len (s : Nat) : ∀ (R : List Th) (k k' : Nat),(idxsF s k R).length = (idxsF s k' R).length
 | [],_,_=>rfl
 | t :: R,k,k'=>by
   rw [idxsF,idxsF]
   split
   · simp only [List.length_cons]; rw [idxsF_len s R (k + 1) (k' + 1)]
   · exact idxsF_len s R _ _
theorem cR_cons (t : Th) (R : List Th) (s : Nat) : cR (t :: R) s = (if t.shape = s then 1 else 0) + cR R s:=by
 unfold cR
 rw [idxsF]
 split
 · rw [List.length_cons,idxsF_len s R 1 0]; omega
 · rw [idxsF_len s R 1 0]; omega
theorem cnt_app (A R : List Th) (s : Nat) : cnt (A ++ R) s = cnt A s + cR R s:=by
 show (idxs (A ++ R) s).length = _
 rw [idxs_pre,List.length_append,idxsF_len s R _ 0]
 rfl
theorem cut_loop {A R : List Th} {v7 : V} (hlen : (A ++ R).length ≤ 1000000) (hsh : ∀ t ∈ R,t.shape < sh.length) (hv7 : ∀ b,va = .slice b 0 (A ++ R).length none 5→A.length < (A ++ R).length→v7 = .slice b (0 + A.length * 5) ((A ++ R).length - A.length) none 5) :
 ∀ (j : Nat) {i q : Nat} {h : Heap} {cells : List V},i + j = R.length→j < q→TabJ h p bo bm c va vs cells pv sh (A ++ R) (fun s=>cnt A s + cR (R.drop i) s) M S X →
  ∃ h' cells',lpk (b24_1 words n (call tabW n d)) q [.ptr p 0,I (.ofNat A.length),v7,I (.ofNat R.length),I (.ofNat i)] h = .done .normal [.ptr p 0,I (.ofNat A.length)] h' ∧
   TabJ h' p bo bm c va vs cells' pv sh (A ++ R) (fun s=>cnt A s) M S X∧Chg S h h'
 | j,i,0,_,_,_,h0,_=>absurd h0 (Nat.not_lt_zero _)
 | 0,i,q + 1,h,cells,hi,_,w=>by
   have n1 : ilt (.ofNat i) (.ofNat R.length) = false:=ilt_false (by omega)
   rw [List.drop_eq_nil_of_le (show R.length ≤ i by omega)] at w
   refine ⟨h,cells,?_,w,.refl _ _⟩
   rw [lpk_succ]
   simp -implicitDefEqProofs only [b24_1,↓n1,↓evR]
 | j + 1,i,q + 1,h,cells,hi,hq,w=>by
   have hik : i < R.length:=by omega
   have hti : (A ++ R)[A.length + i]? = some R[i]:=by rw [List.getElem?_append_right (by omega),Nat.add_sub_cancel_left,List.getElem?_eq_getElem hik]
   obtain ⟨v,b,hpv,eva,hb,ld⟩:=drop_row w.pl w.all hti
   have hlt : A.length < (A ++ R).length:=by rw [List.length_append]; omega
   have ev7:=hv7 b eva hlt
   have n1:=ilt_true hik
   have n2 : Nat.blt i ((A ++ R).length - A.length) = true:=blt_of (by rw [List.length_append]; omega)
   have n3:=ad_nat (a:=i) (b:=1) (by rw [List.length_append] at hlen; omega)
   have ld' : ∀ q,words.load h b (Nat.add (0 + A.length * 5) (Nat.mul i 5)) 5 q = q (thC R[i] v):=fun q=>by
    show words.load h b (0 + A.length * 5 + i * 5) 5 q = _
    rw [show 0 + A.length * 5 + i * 5 = (A.length + i) * 5 by omega]
    exact ld q
   obtain ⟨h1,h2,e1,e2,r2,U2,lt2⟩:=new_store h (g:=5) (z:=[ik 0,ik 0,.str 0 0,.nils,ik 0]) (l:=thC R[i] v) rfl rfl (by omega)
   have e1' : ∀ q,words.new h (.arr 5 1 (repT [ik 0,ik 0,.str 0 0,.nils,ik 0] 1 1) .false) q = q h.nx h1:=e1
   have e2' : ∀ q,words.store h1 h.nx 0 5 (thC R[i] v) q = q h2:=e2
   have s2 : ∀ q : V→Res,words.load1 h2 h.nx 0 q = q (I (.ofNat R[i].shape)):=fun q=>load1k_law r2 rfl q
   have w2:=w.up U2
   have hs:=hsh _ (List.getElem_mem hik)
   have hc : R[i].shape < cells.length:=by rw [w.len]; exact hs
   have hcs : cells[R[i].shape]? = some cells[R[i].shape]:=List.getElem?_eq_getElem hc
   have hcm : cells[R[i].shape] ∈ cells:=List.getElem_mem hc
   have a1 : ∀ q : V→Res,words.load1 h2 p 1 q = q (.slice bo 0 cells.length c 1):=fun q=>load1k_law w2.row rfl q
   have n4 : Nat.blt R[i].shape cells.length = true:=blt_of hc
   have l4 : ∀ q : V→Res,words.load1 h2 bo (Nat.add 0 R[i].shape) q = q cells[R[i].shape]:=fun q=>by
    show load1k h2 bo (0 + R[i].shape) q = _
    rw [Nat.zero_add]
    exact load1k_law w2.of hcs q
   have hdr:=List.drop_eq_getElem_cons hik
   have hcR : cR (R.drop i) R[i].shape = 1 + cR (R.drop (i + 1)) R[i].shape:=by rw [hdr,cR_cons,if_pos rfl]
   have wi:=w2.idx _ _ hcs
   have hsub : ∀ s,cR (R.drop i) s ≤ cR R s:=fun s=>by
    have : cR R s = cR (R.take i) s + cR (R.drop i) s:=by
     have e:=cnt_app (R.take i) (R.drop i) s
     rw [List.take_append_drop] at e
     exact e
    omega
   obtain ⟨m,hm⟩ : ∃ m,cnt A R[i].shape + cR (R.drop (i + 1)) R[i].shape = m:=⟨_,rfl⟩
   have hK : cnt A R[i].shape + cR (R.drop i) R[i].shape = m + 1:=by omega
   have hlenI : (((idxs (A ++ R) R[i].shape).take (cnt A R[i].shape + cR (R.drop i) R[i].shape)).map fun i=>I (.ofNat i)).length = (m + 1) * 1:=by
    have:=cnt_app A R R[i].shape
    have:=hsub R[i].shape
    have e : (idxs (A ++ R) R[i].shape).length = cnt (A ++ R) R[i].shape:=rfl
    rw [List.length_map,List.length_take,hK,e]
    omega
   have ln : ∀ k : Nat→Res,lenk cells[R[i].shape] k = k (m + 1):=fun k=>wi.len (by omega) hlenI k
   have hmb : m + 1 ≤ 1000000:=by
    have h1:=cnt_app A R R[i].shape
    have h2:=hsub R[i].shape
    have h3 : cnt (A ++ R) R[i].shape ≤ (A ++ R).length:=idxs_le _ _
    omega
   have n5 : sb (.ofNat (m + 1)) 1 = .ofNat m:=by
    have : Int.sub (.ofNat (m + 1)) (.ofNat 1) = .ofNat m:=by
     show ((m + 1 : Nat) : Int) - 1 = (m : Int)
     omega
    show wrapv .i64 (Int.sub (.ofNat (m + 1)) (.ofNat 1)) = _
    rw [this]
    exact wrapv_small .i64 m (small_i64 (by omega))
   obtain ⟨v',e3,o3,f3,on3⟩:=own_take wi (by omega) hlenI (show m ≤ m + 1 by omega) (by omega)
   have o3n : ∀ r : Res,onek v' r = r:=fun r=>by rw [on3]; rfl
   obtain ⟨h4,e4,r4,B4⟩:=storek_law (o:=R[i].shape) (n:=1) (vs:=[v']) w2.of rfl (by omega)
   have e4' : ∀ q,words.store h2 bo (Nat.add 0 R[i].shape) 1 [v'] q = q h4:=fun q=>by
    show storek h2 bo (0 + R[i].shape) 1 [v'] q = _
    rw [Nat.zero_add]; exact e4 q
   rw [splice_one v' hc] at r4
   have C4:=But.chg B4
   have setm : ∀ u ∈ cells.set R[i].shape v',u = v' ∨ u ∈ cells:=fun u hu=>(List.mem_or_eq_of_mem_set hu).symm
   have sub4 : ∀ x,¬ Off v' x→¬ Off cells[R[i].shape] x:=fun x hx ho=>hx (f3 x ho)
   have ltp:=w2.lt
   have bo2 : ∀ u ∈ cells,Off u bo.val:=fun u hu=>(w.oc u hu).2.1
   have Sbo : S bo.val:=w.mem _ (.inr (.inl rfl))
   have st4 : ∀ {t : Tr} {u : V},CellA h2 (Still h2 (SX S X)) t u→CellA h4 (Still h4 (SX S X)) t u:=fun c=>c.mv (fun x hx=>⟨Nat.lt_of_lt_of_le hx.1 C4.nx,hx.2⟩) fun b' hb'=>C4.get b' hb'.1 fun e=>hb'.2 (.inl (by rw [e]; exact Sbo))
   have w4 : TabJ h4 p bo bm c va vs (cells.set R[i].shape v') pv sh (A ++ R) (fun s=>cnt A s + cR (R.drop (i + 1)) s) M S X:=by
    refine ⟨by rw [List.length_set]; exact C4.row w2.row ltp.1 w.ne.1,r4,by rw [List.length_set,w.len],w2.all.chg C4 (fun x hx=>by subst hx; exact w.oa.2.1),w.pl,fun i' t u h1 h2=>st4 (w2.parts i' t u h1 h2),?_,w2.map.keep (C4.get bm ltp.2.2 (Ne.symm w.ne.2.2)),st4 w2.shp,
     fun x hx=>⟨Nat.lt_of_lt_of_le (w2.xs x hx).1 C4.nx,(w2.xs x hx).2⟩,by have:=C4.nx; omega,w.ne,w.oa,?_,?_,?_,fun x hx=>Nat.lt_of_lt_of_le (w2.lts x hx) C4.nx⟩
    · intro s u hu
      by_cases hss : R[i].shape = s
      · subst hss
        rw [List.getElem?_set_self hc] at hu
        cases hu
        have:=o3.chg C4 (fun x hx=>by subst hx; exact f3 _ (bo2 _ hcm))
        rw [Nat.mul_one,← List.map_take,List.take_take,hK,Nat.min_eq_left (by omega)] at this
        show Hld h4 1 v' (((idxs (A ++ R) R[i].shape).take (cnt A R[i].shape + cR (R.drop (i + 1)) R[i].shape)).map _)
        rw [hm]
        exact this
      · rw [List.getElem?_set_ne hss] at hu
        have:=(w2.idx s u hu).chg C4 (fun x hx=>by subst hx; exact bo2 _ (List.mem_of_getElem? hu))
        rw [hdr,cR_cons,if_neg hss,Nat.zero_add] at this
        exact this
    · intro u hu
      rcases setm u hu with rfl | hu
      · obtain ⟨q1,q2,q3,q4⟩:=w.oc _ hcm
        exact ⟨f3 _ q1,f3 _ q2,f3 _ q3,fun x=>(q4 x).imp id (f3 x)⟩
      · exact w.oc u hu
    · intro s s' u u' hu hu' hne
      by_cases h1' : R[i].shape = s
      · subst h1'
        rw [List.getElem?_set_self hc] at hu
        cases hu
        rw [List.getElem?_set_ne hne] at hu'
        exact fun x=>(w.occ _ _ _ _ hcs hu' hne x).imp (f3 x) id
      · rw [List.getElem?_set_ne h1'] at hu
        by_cases h2' : R[i].shape = s'
        · subst h2'
          rw [List.getElem?_set_self hc] at hu'
          cases hu'
          exact fun x=>(w.occ _ _ _ _ hu hcs hne x).imp id (f3 x)
        · rw [List.getElem?_set_ne h2'] at hu'
          exact w.occ s s' u u' hu hu' hne
    · intro x hx
      rcases hx with e | e | e | e | ⟨u,hu,e⟩
      · exact w.mem x (.inl e)
      · exact w.mem x (.inr (.inl e))
      · exact w.mem x (.inr (.inr (.inl e)))
      · exact w.mem x (.inr (.inr (.inr (.inl e))))
      · rcases setm u hu with rfl | hu
        · exact w.mem x (.inr (.inr (.inr (.inr ⟨_,hcm,sub4 x e⟩))))
        · exact w.mem x (.inr (.inr (.inr (.inr ⟨u,hu,e⟩))))
   obtain ⟨h5,cells5,e5,w5,C5⟩:=cut_loop hlen hsh hv7 j (i:=i + 1) (q:=q) (h:=h4) (cells:=cells.set R[i].shape v') (by omega) (by omega) w4
   refine ⟨h5,cells5,?_,w5,((U2.chg (S:=S)).trans (C4.mono fun x _ hx=>by subst hx; exact Sbo) fun x hx=>.inl hx).trans C5 fun x hx=>.inl hx⟩
   rw [lpk_succ]
   subst ev7
   simp -implicitDefEqProofs only [b24_1,↓n1,↓n2,↓ld',↓e1',↓e2',↓a1,↓s2,↓n4,↓l4,↓ln,↓n5,↓e3,↓o3n,↓e4',↓n3,↓e5,↓evR]
theorem cut_law {A R : List Th} (w : TabX h p bo bm c va vs cells pv sh (A ++ R) (mapL sh A) S X) (hn : (A ++ R).length < n) (hlen : (A ++ R).length ≤ 1000000) (hsh : ∀ t ∈ R,t.shape < sh.length) (h0 : A ++ R ≠ []) :
 ∃ h' S',call tabW n (d + 1) f24 [.ptr p 0,I (.ofNat A.length)] h = .ret (.tup []) h'∧TabR h' p sh A S' X∧Chg S h h'∧∀ x,S' x→S x:=by
 have hA : A.length ≤ (A ++ R).length:=by rw [List.length_append]; omega
 obtain ⟨v7,e1,l1,hv7⟩:=tail_law w.pl w.all hA h0
 have hR : (A ++ R).length - A.length = R.length:=by rw [List.length_append]; omega
 rw [hR] at l1
 obtain ⟨a0,_,_,_⟩:=w.ld
 have wj:=w.toJ (K:=fun s=>cnt A s + cR (R.drop 0) s) fun s=>by rw [List.drop_zero,cnt_app]
 obtain ⟨h2,cells2,e2,w2,C2⟩:=cut_loop (n:=n) (d:=d) hlen hsh hv7 R.length (i:=0) (q:=n) (by omega) (by rw [List.length_append] at hn; omega) wj
 have a0' : ∀ q : V→Res,words.load1 h2 p 0 q = q va:=fun q=>load1k_law w2.row rfl q
 obtain ⟨va',e3,o3,f3,on3⟩:=own_take w2.all (by omega) (thCs_len w2.pl) hA (List.length_pos_iff.2 h0)
 have o3n : ∀ r : Res,onek va' r = r:=fun r=>by rw [on3]; rfl
 obtain ⟨h4,e4,r4,B4⟩:=storek_law (o:=0) (n:=1) (vs:=[va']) w2.row rfl (by simp)
 have e4' : ∀ q,words.store h2 p 0 1 [va'] q = q h4:=e4
 have C4:=But.chg B4
 have Sp : S p.val:=w2.mem _ (.inl rfl)
 have lt2:=w2.lt
 have S'S : ∀ x,Sof p bo bm va' cells2 x→S x:=fun x hx=>by
  rcases hx with e | e | e | e | ⟨u,hu,e⟩
  · exact w2.mem x (.inl e)
  · exact w2.mem x (.inr (.inl e))
  · exact w2.mem x (.inr (.inr (.inl e)))
  · exact w2.mem x (.inr (.inr (.inr (.inl fun o=>e (f3 x o)))))
  · exact w2.mem x (.inr (.inr (.inr (.inr ⟨u,hu,e⟩))))
 have st4 : ∀ {t : Tr} {u : V},CellA h2 (Still h2 (SX S X)) t u→CellA h4 (Still h4 (SX (Sof p bo bm va' cells2) X)) t u:=fun c=>c.mv (fun x hx=>⟨Nat.lt_of_lt_of_le hx.1 C4.nx,fun e=>hx.2 (e.imp (S'S x) id)⟩) fun b' hb'=>C4.get b' hb'.1 fun e=>hb'.2 (.inl (by rw [e]; exact Sp))
 have wX : TabX h4 p bo bm c va' vs cells2 (pv.take A.length) sh A (mapL sh A) (Sof p bo bm va' cells2) X:=by
  refine ⟨r4,C4.row w2.of lt2.2.1 (Ne.symm w.ne.1),w2.len,?_,?_,?_,?_,w2.map.keep (C4.get bm lt2.2.2 (Ne.symm w.ne.2.1)),st4 w2.shp,fun x hx=>⟨Nat.lt_of_lt_of_le (w2.xs x hx).1 C4.nx,fun e=>(w2.xs x hx).2 (S'S x e)⟩,by have:=C4.nx; omega,w.ne,⟨f3 _ w.oa.1,f3 _ w.oa.2.1,f3 _ w.oa.2.2⟩,?_,w2.occ,fun x=>Iff.rfl⟩
  · have:=o3.chg C4 (fun x hx=>by subst hx; exact f3 _ w.oa.1)
    rw [thCs_take w2.pl,List.take_left' rfl] at this
    exact this
  · rw [List.length_take,w2.pl,Nat.min_eq_left hA]
  · intro i t u h1 h2'
    have hi:=(List.getElem?_eq_some_iff.1 h1).1
    rw [List.getElem?_take_of_lt hi] at h2'
    exact st4 (w2.parts i t u (by rw [List.getElem?_append_left hi]; exact h1) h2')
  · intro s u hu
    have:=(w2.idx s u hu).chg C4 (fun x hx=>by subst hx; exact (w2.oc u (List.mem_of_getElem? hu)).1)
    rw [idxs_pre,List.take_left' rfl] at this
    exact this
  · intro u hu
    obtain ⟨q1,q2,q3,q4⟩:=w2.oc u hu
    exact ⟨q1,q2,q3,fun x=>(q4 x).imp (f3 x) id⟩
 refine ⟨h4,_,?_,⟨_,_,_,_,_,_,_,wX⟩,C2.trans (C4.mono fun x _ hx=>by subst hx; exact Sp) fun x hx=>.inl hx,S'S⟩
 rw [call24]
 simp -implicitDefEqProofs only [sh24,↓a0,↓e1,↓l1,↓e2,↓a0',↓e3,↓o3n,↓e4',↓evR]
end
end Go.Ev.WIB
