/- IbO: texts joined. -/
import Derived.Test.YtcglhljoepefaaaIbL
/- InternBack: Word; sizes; what is the same. -/
namespace Go.Ev.WIB
open Go.Proofs
set_option maxRecDepth 100000
theorem wvRows_len : ∀ (rs : List (List Tr)),rs.length ≤ wvRows rs
 | []=>by simp
 | r :: rs=>by rw [wvRows,List.length_cons]; have:=wvRows_len rs; omega
theorem Den.fits {sh : List Sh} {L : List Th} {s w : Nat} {r : List Tr} (h : Den sh L s w r) : Fits sh s r:=by
 induction h with
 | num s z hk=>exact .num s z hk
 | nil s hk=>exact .nil s hk
 | sym s l t w i th hk=>exact .sym s l t hk
 | node s k b want kids w i th hk hw hf hi ht hb hl hpl hd ih=>
   refine .node s k _ want kids hk hw hl fun j a r h1 h2=>?_
   have hj : j < th.parts.length:=by have:=(List.getElem?_eq_some_iff.1 h1).1; omega
   exact ih j a th.parts[j] r h1 (List.getElem?_eq_getElem hj) h2
section
variable {h : Heap} {p : Bid} {sh : List Sh} {L : List Th} {S X : Nat→Prop} {n d : Nat}
theorem Word_law (ok : ShsOk sh) (hn : 1000 ≤ n) {r : List Tr} {l : List V} (hv : IsV r) (hwv : wvRow r ≤ 1000) (hd : SizeOf.sizeOf r + 12 ≤ d) (w : TabR h p sh L S X) (g : Good sh L) (hs : L.length + 1 + wvRow r ≤ 999999) (hn2 : L.length + 1 + wvRow r < n) (s : Int) (rv : RowA h (Still h (SX S X)) r l) :
 ∃ h' S' L1 o e,call tabW n d f9 [.ptr p 0,.int .i64 s,.agg 4 l] h = .ret (.tup [uV (o.getD 0),ik e]) h'∧TabR h' p sh L1 S' X∧Chg S h h'∧(∀ x,S' x→S x ∨ h.nx.val ≤ x)∧Good sh L1∧L <+: L1∧L1.length ≤ L.length + 1 + wvRow r ∧
  (∀ w,o = some w→e = 0∧w < 18446744073709551616∧∃ s',s = .ofNat s'∧Den sh L1 s' w r)∧(o = none→(e = 3 ∨ e = 183)∧L1 = L)∧∀ s' w,s = .ofNat s'→Den sh L s' w r→o = some w∧L1 = L:=by
 obtain ⟨d,rfl⟩ : ∃ d',d = d' + 1 + 1 + 1:=⟨d - 3,by omega⟩
 have hl4 : l.length = 4:=by rw [rv.len]; cases hv; rfl
 have lts : ∀ x,SX S X x→x < h.nx.val:=fun x hx=>hx.elim w.lts fun e=>(w.xs e).1
 have ltS : ∀ x,S x→x < h.nx.val:=fun x hx=>w.lts hx
 obtain ⟨h0,e0,r0,U0,lt0⟩:=new_row h (g:=4) (l:=l) hl4 (by omega)
 have e0' : ∀ q,words.new h (.arr 4 1 (.lf l) .false) q = q h.nx h0:=e0
 have pn : ∀ q : Bool→Res,pnk (.ptr p 0) q = q false:=fun q=>rfl
 have ld : ∀ {h' : Heap},Row (h'.t.get h.nx) 4 l→∀ q : List V→Res,words.load h' h.nx 0 4 q = q l:=fun r q=>by
  have:=loadk_law r (o:=0) (n:=4) (by omega) q
  rw [List.drop_zero,List.take_of_length_le (by omega)] at this
  exact this
 have l0:=ld r0
 have pt : ∀ q : Nat→List V→Res,partsk (.agg 4 l) q = q 4 l:=fun q=>rfl
 have rv0 : RowA h0 (Still h0 S) r l:=rv.mv (fun x hx=>⟨Nat.lt_of_lt_of_le hx.1 U0.nx,fun e=>hx.2 (.inl e)⟩) fun b hb=>U0.get b hb.1
 obtain ⟨b,h1,e1,U1,iff⟩:=fits_law (n:=n) (p:=p) ok (by omega) _ (Nat.lt_succ_self _) hv (d:=d + 1 + 1) (by omega) s h0 L S X l (w.up U0) rv0
 have U01:=U0.trans U1
 cases b with
 | false=>
   refine ⟨h1,S,L,none,183,?_,w.up U01,U01.chg,fun x hx=>.inl hx,g,List.prefix_refl _,by omega,fun w e=>(by cases e),fun _=>⟨.inr rfl,rfl⟩,fun s' w e hd=>?_⟩
   · rw [call9]
     simp -implicitDefEqProofs only [sh9,↓pt,↓e0',↓pn,↓l0,↓e1,↓evR]
     rfl
   · have:=iff.2 ⟨s',e,hd.fits⟩
     cases this
 | true=>
   obtain ⟨s',rfl,hf⟩:=iff.1 rfl
   have w1:=w.up U01
   obtain ⟨bo,bm,c,va,vs,cells,pv,wx⟩:=w1
   obtain ⟨a0,_,_,_⟩:=wx.ld
   have ln : ∀ k : Nat→Res,lenk va k = k L.length:=fun k=>wx.all.len (by omega) (thCs_len wx.pl) k
   have l1:=ld (r0.later lt0 U1)
   have rv1 : RowA h1 (Still h1 (SX S X)) r l:=rv.mv (fun x hx=>⟨Nat.lt_of_lt_of_le hx.1 U01.nx,hx.2⟩) fun b hb=>U01.get b hb.1
   obtain ⟨h2,S2,e2,w2,C2,s2⟩:=word_law (n:=n) (p:=p) ok hn _ (Nat.lt_succ_self (SizeOf.sizeOf r)) hv hwv (d:=d + 1 + 1) (by omega) s' L S X h1 l hf (w.up U01) g hs rv1
   have wf:=wordF_law ok _ (Nat.lt_succ_self (SizeOf.sizeOf r)) g hf hv (by omega) hwv
   have C02 : Chg S h h2:=(U01.chg (S:=S)).trans C2 fun x hx=>.inl hx
   have s02 : ∀ x,S2 x→S x ∨ h.nx.val ≤ x:=fun x hx=>(s2 x hx).imp id fun e=>Nat.le_trans U01.nx e
   have bk : ∀ s'' w,Int.ofNat s' = .ofNat s''→Den sh L s'' w r→wordF sh (SizeOf.sizeOf r + 1) L s' r = (some w,L):=fun s'' w e hd=>by cases e; exact wf.back w hd
   cases hq : wordF sh (SizeOf.sizeOf r + 1) L s' r with
   | mk o L2=>
     rw [hq] at e2 w2 wf
     have pre2 : L <+: L2:=wf.pre
     have len2:=wf.len
     have good2 : Good sh L2:=wf.good
     simp only at len2
     cases o with
     | some ww=>
       have e2' : call tabW n (d + 1 + 1) f22 [.ptr p 0,I (.ofNat s'),.agg 4 l] h1 = .ret (.tup [uV ww,ik 0]) h2:=e2
       have n0 : ieq (.ofNat 0) (.ofNat 0) = true:=rfl
       obtain ⟨d1,d2⟩:=wf.den ww rfl
       refine ⟨h2,S2,L2,some ww,0,?_,w2,C02,s02,good2,pre2,len2,fun w e=>(by cases e; exact ⟨rfl,d2,s',rfl,d1⟩),fun e=>(by cases e),fun s'' w e hd=>?_⟩
       · rw [call9]
         simp -implicitDefEqProofs only [sh9,↓pt,↓e0',↓pn,↓l0,↓e1,↓a0,↓ln,↓l1,↓e2',↓n0,↓evR]
         rfl
       · have:=bk s'' w e hd
         rw [hq] at this
         cases this
         exact ⟨rfl,rfl⟩
     | none=>
       have e2' : call tabW n (d + 1 + 1) f22 [.ptr p 0,I (.ofNat s'),.agg 4 l] h1 = .ret (.tup [uV 0,ik 3]) h2:=e2
       have n0 : ieq (.ofNat 3) (.ofNat 0) = false:=rfl
       obtain ⟨R,rfl⟩:=pre2
       have hne : L ++ R ≠ []:=wf.no rfl
       obtain ⟨bo2,bm2,c2,va2,vs2,cells2,pv2,wx2⟩:=w2
       obtain ⟨a02,_,_,_⟩:=wx2.ld
       obtain ⟨v7,e3,l3,hv7⟩:=tail_law wx2.pl wx2.all (m:=L.length) (by rw [List.length_append]; omega) hne
       rw [show (L ++ R).length - L.length = R.length by rw [List.length_append]; omega] at l3
       have hm : mapL sh (L ++ R) = mapL sh L ++ mapF sh (L ++ R.take 0) (R.drop 0):=by
        rw [List.take_zero,List.append_nil,List.drop_zero,mapL,mapF_app,List.nil_append]
       have wx2':=wx2
       rw [hm] at wx2'
       have len2' : L.length + R.length ≤ L.length + 1 + wvRow r:=by rw [List.length_append] at len2; exact len2
       obtain ⟨h3,e4,wx3,C3⟩:=keys_loop (n:=n) (d:=d) (A:=L) (R:=R) (v7:=v7) (w0:=.ofNat 0) (e0:=.ofNat 3) hn (by rw [List.length_append]; omega) (fun t ht=>by have:=good2.ok t (List.mem_append_right _ ht); exact ⟨this.1,this.2.1⟩) hv7 R.length (i:=0) (q:=n) (h:=h2) (by omega) (by omega) wx2'
       obtain ⟨h4,S4,e5,w4,C4,s4⟩:=cut_law (n:=n) (d:=d + 1) wx3 (by rw [List.length_append]; omega) (by rw [List.length_append]; omega) (fun t ht=>(good2.ok t (List.mem_append_right _ ht)).2.2) hne
       refine ⟨h4,S4,L,none,3,?_,w4,C02.trans (C3.trans C4 fun x hx=>.inl hx) fun x hx=>s02 x hx,fun x hx=>s02 x (s4 x hx),g,List.prefix_refl _,by omega,fun w e=>(by cases e),fun _=>⟨.inl rfl,rfl⟩,fun s'' w e hd=>?_⟩
       · rw [call9]
         simp -implicitDefEqProofs only [sh9,↓pt,↓e0',↓pn,↓l0,↓e1,↓a0,↓ln,↓l1,↓e2',↓n0,↓a02,↓e3,↓l3,↓e4,↓e5,↓evR]
         rfl
       · have:=bk s'' w e hd
         rw [hq] at this
         cases this
theorem Size_law (w : TabR h p sh L S X) : call tabW n (d + 1) f8 [.ptr p 0] h = .ret (ik L.length) h:=by
 obtain ⟨bo,bm,c,va,vs,cells,pv,wx⟩:=w
 obtain ⟨a0,_,_,_⟩:=wx.ld
 have ln : ∀ k : Nat→Res,lenk va k = k L.length:=fun k=>wx.all.len (by omega) (thCs_len wx.pl) k
 have pn : ∀ q : Bool→Res,pnk (.ptr p 0) q = q false:=fun q=>rfl
 rw [call8]
 simp -implicitDefEqProofs only [sh8,↓pn,↓a0,↓ln,↓evR]
def SizeLaw (n d : Nat) (r : List Tr) : Prop:=∀ (h : Heap) (A : Nat→Prop) (l : List V),(∀ x,A x→x < h.nx.val)→RowA h A r l →
 ∃ h' k,call tabW n d f7 [.agg 4 l,ik 200] h = .ret (ik k) h'∧Up h h'∧1 ≤ k∧k ≤ 201∧(k ≤ 200→1 + wvRow r ≤ k)
theorem size_loop {hs : Heap} {A : Nat→Prop} {kids : List (List Tr)} {vk v0 v1 v2 : V} {p0 : Bid} (hA : ∀ x,A x→x < hs.nx.val) (lp : p0.val < hs.nx.val) (r0 : Row (hs.t.get p0) 4 [v0,v1,v2,vk]) (wk : CellA hs A (.sl 4 kids) vk) (hkl : kids.length ≤ 140737488351232) (IH : ∀ r ∈ kids,SizeLaw n d r) :
 ∀ (j : Nat) {i q nn : Nat} {h : Heap},201 ≤ nn + j→j < q→Up hs h→nn ≤ 4000000000000 + i * 201→i ≤ kids.length→i ≤ nn →
  ∃ h' nn',lpk (b7_1 words n (call tabW n d)) q [ik 200,.ptr p0 0,ik nn,ik i] h = .done .normal [ik 200,ik nn'] h'∧Up hs h'∧nn ≤ nn'∧nn' ≤ 4000000000000000000∧(nn' ≤ 200→nn + wvRows (kids.drop i) ≤ nn')
 | j,i,0,_,_,_,h0,_,_,_,_=>absurd h0 (Nat.not_lt_zero _)
 | j,i,q + 1,nn,h,hj,hq,U,hb,hik,hin=>by
   have r1:=r0.later lp U
   have c3 : ∀ q : V→Res,words.load1 h p0 3 q = q vk:=fun q=>load1k_law r1 rfl q
   have lk : ∀ q : Nat→Res,lenk vk q = q kids.length:=fun q=>by rw [wk.lenk]
   have k3 : Nat.beq (kno .i64) (kno .i64) = true:=rfl
   by_cases hi : i < kids.length
   · have n1:=ilt_true hi
     by_cases hnn : nn ≤ 200
     · have n2 : ilt (.ofNat 200) (.ofNat nn) = false:=ilt_false (by omega)
       obtain ⟨b,o,m,l,e,rr,hl,_,ld,_⟩:=(wk.mv (A':=A) (fun _ hx=>hx) fun b hb=>U.get b (hA _ hb)).row hi
       obtain ⟨h1,k,e1,U1,k1,k2,k3'⟩:=IH kids[i] (List.getElem_mem hi) h A l (fun x hx=>Nat.lt_of_lt_of_le (hA x hx) U.nx) rr
       have n4 : Nat.blt i kids.length = true:=blt_of hi
       have n5:=ai_nat (a:=nn) (b:=k) (by omega)
       have n6:=ad_nat (a:=i) (b:=1) (by omega)
       obtain ⟨j,rfl⟩ : ∃ j',j = j' + 1:=⟨j - 1,by omega⟩
       obtain ⟨h2,nn',e2,U2,m1,m2,m3⟩:=size_loop hA lp r0 wk hkl IH j (i:=i + 1) (q:=q) (nn:=nn + k) (h:=h1) (by omega) (by omega) (U.trans U1) (by omega) (by omega) (by omega)
       refine ⟨h2,nn',?_,U2,by omega,m2,fun hle=>?_⟩
       · rw [lpk_succ]
         subst e
         have ld' : ∀ q : List V→Res,words.load h b (Nat.add o (Nat.mul i 4)) 4 q = q l:=ld
         simp -implicitDefEqProofs only [b7_1,↓c3,↓lk,↓n1,↓n2,↓n4,↓ld',↓e1,↓n5,↓n6,↓e2,↓evR]
       · have h1':=m3 hle
         have h2':=k3' (by omega)
         rw [List.drop_eq_getElem_cons hi,wvRows]
         omega
     · have n2 : ilt (.ofNat 200) (.ofNat nn) = true:=ilt_true (by omega)
       refine ⟨h,nn,?_,U,Nat.le_refl _,by omega,fun hle=>absurd hle hnn⟩
       rw [lpk_succ]
       simp -implicitDefEqProofs only [b7_1,↓c3,↓lk,↓n1,↓n2,↓evR]
   · have n1:=ilt_false hi
     refine ⟨h,nn,?_,U,Nat.le_refl _,by omega,fun _=>?_⟩
     · rw [lpk_succ]
       simp -implicitDefEqProofs only [b7_1,↓c3,↓lk,↓n1,↓evR]
     · rw [List.drop_eq_nil_of_le (by omega),wvRows]; omega
theorem size_law (hn : 1000 ≤ n) : ∀ (m : Nat) {r : List Tr} {d : Nat},SizeOf.sizeOf r < m→IsV r→m ≤ d→SizeLaw n d r
 | 0,_,_,hm,_,_=>absurd hm (Nat.not_lt_zero _)
 | m + 1,r,d,hm,hv,hd=>by
   obtain ⟨d,rfl⟩ : ∃ d',d = d' + 1:=⟨d - 1,by omega⟩
   cases hv with
   | mk k z l t kids hz hl hkl hvk hlt=>
   intro h A lv hA rv
   obtain ⟨v0,v1,v2,vk,rfl,r0,r1,r2,rk⟩:=rv.inv4
   obtain ⟨rfl,_⟩:=r2.str_inv
   have IH : ∀ r ∈ kids,SizeLaw n d r:=fun r hr=>size_law hn m (by
    have:=List.sizeOf_lt_of_mem hr
    simp only [List.cons.sizeOf_spec,Tr.sl.sizeOf_spec] at hm
    omega) (hvk r hr) (by omega)
   obtain ⟨h0,e0,row0,U0,lt0⟩:=new_row h (g:=4) (l:=[v0,v1,.str l t,vk]) rfl (by omega)
   have e0' : ∀ q,words.new h (.arr 4 1 (.lf [v0,v1,.str l t,vk]) .false) q = q h.nx h0:=e0
   have c2 : ∀ q : V→Res,words.load1 h0 h.nx 2 q = q (.str l t):=fun q=>load1k_law row0 rfl q
   have n1 : wrapv .i64 (Int.tdiv (.ofNat l) (.ofNat 64)) = .ofNat (l / 64):=wrapv_small .i64 (l / 64) (small_i64 (by omega))
   have n2:=ai_nat (a:=1) (b:=l / 64) (by omega)
   obtain ⟨h1,nn,e1,U1,m1,m2,m3⟩:=size_loop (n:=n) (d:=d) (kids:=kids) (fun x hx=>Nat.lt_of_lt_of_le (hA x hx) U0.nx) lt0 row0 (rk.mv (fun _ hx=>hx) fun b hb=>U0.get b (hA _ hb)) hkl IH 201 (i:=0) (q:=n) (nn:=1 + l / 64) (h:=h0) (by omega) (by omega) (.refl _) (by omega) (by omega) (by omega)
   have n3:=ad_nat (a:=200) (b:=1) (by omega)
   refine ⟨h1,min nn 201,?_,U0.trans U1,by omega,by omega,fun hle=>?_⟩
   · rw [call7]
     simp -implicitDefEqProofs only [sh7,↓e0',↓c2,↓n1,↓n2,↓e1,↓n3,↓evR]
   · rw [wv_vT]
     have:=m3 (by omega)
     rw [List.drop_zero] at this
     omega
def SameLaw (n d : Nat) (r r' : List Tr) : Prop:=∀ (h : Heap) (A : Nat→Prop) (l l' : List V),(∀ x,A x→x < h.nx.val)→RowA h A r l→RowA h A r' l' →
 ∃ h' b,call tabW n d f11 [.agg 4 l,.agg 4 l'] h = .ret (.bool b) h'∧Up h h'∧(b = true ↔ r = r')
theorem same_loop {hs : Heap} {A : Nat→Prop} {kids kids' : List (List Tr)} {vk v0 v1 v2 vk' v0' v1' v2' : V} {p0 p1 : Bid} (hA : ∀ x,A x→x < hs.nx.val) (lp : p0.val < hs.nx.val) (r0 : Row (hs.t.get p0) 4 [v0,v1,v2,vk]) (lp1 : p1.val < hs.nx.val) (r1 : Row (hs.t.get p1) 4 [v0',v1',v2',vk'])
 (wk : CellA hs A (.sl 4 kids) vk) (wk' : CellA hs A (.sl 4 kids') vk') (hl : kids.length = kids'.length) (hkl : kids.length ≤ 1000000) (IH : ∀ r ∈ kids,∀ r' ∈ kids',SameLaw n d r r') :
 ∀ (j : Nat) {i q : Nat} {h : Heap},i + j = kids.length→j < q→Up hs h →
  ∃ h' b,lpk (b11_1 words n (call tabW n d)) q [.ptr p0 0,.ptr p1 0,ik i] h = .ret (.bool b) h'∧Up hs h'∧(b = true ↔ kids.drop i = kids'.drop i)
 | j,i,0,_,_,h0,_=>absurd h0 (Nat.not_lt_zero _)
 | 0,i,q + 1,h,hi,_,U=>by
   have c3 : ∀ q : V→Res,words.load1 h p0 3 q = q vk:=fun q=>load1k_law (r0.later lp U) rfl q
   have lk : ∀ q : Nat→Res,lenk vk q = q kids.length:=fun q=>by rw [wk.lenk]
   have n1 : ilt (.ofNat i) (.ofNat kids.length) = false:=ilt_false (by omega)
   refine ⟨h,true,?_,U,?_⟩
   · rw [lpk_succ]
     simp -implicitDefEqProofs only [b11_1,↓c3,↓lk,↓n1,↓evR]
   · rw [List.drop_eq_nil_of_le (by omega),List.drop_eq_nil_of_le (by omega)]
     simp
 | j + 1,i,q + 1,h,hi,hq,U=>by
   have hik : i < kids.length:=by omega
   have hik' : i < kids'.length:=by omega
   have c3 : ∀ q : V→Res,words.load1 h p0 3 q = q vk:=fun q=>load1k_law (r0.later lp U) rfl q
   have c3' : ∀ q : V→Res,words.load1 h p1 3 q = q vk':=fun q=>load1k_law (r1.later lp1 U) rfl q
   have lk : ∀ q : Nat→Res,lenk vk q = q kids.length:=fun q=>by rw [wk.lenk]
   have n1:=ilt_true hik
   have n2 : Nat.blt i kids.length = true:=blt_of hik
   have n2' : Nat.blt i kids'.length = true:=blt_of hik'
   have n3:=ad_nat (a:=i) (b:=1) (by omega)
   obtain ⟨b,o,m,l,e,rr,hll,_,ld,_⟩:=(wk.mv (A':=A) (fun _ hx=>hx) fun b hb=>U.get b (hA _ hb)).row hik
   obtain ⟨b',o',m',l',e',rr',hll',_,ld',_⟩:=(wk'.mv (A':=A) (fun _ hx=>hx) fun b hb=>U.get b (hA _ hb)).row hik'
   have l1 : ∀ q : List V→Res,words.load h b (Nat.add o (Nat.mul i 4)) 4 q = q l:=ld
   have l2 : ∀ q : List V→Res,words.load h b' (Nat.add o' (Nat.mul i 4)) 4 q = q l':=ld'
   obtain ⟨h1,bb,e1,U1,iff⟩:=IH kids[i] (List.getElem_mem hik) kids'[i] (List.getElem_mem hik') h A l l' (fun x hx=>Nat.lt_of_lt_of_le (hA x hx) U.nx) rr rr'
   rw [List.drop_eq_getElem_cons hik,List.drop_eq_getElem_cons hik']
   cases bb with
   | false=>
     refine ⟨h1,false,?_,U.trans U1,⟨fun e=>(by cases e),fun e=>?_⟩⟩
     · rw [lpk_succ]
       subst e; subst e'
       simp -implicitDefEqProofs only [b11_1,↓c3,↓c3',↓lk,↓n1,↓n2,↓n2',↓l1,↓l2,↓e1,↓evR]
     · rw [List.cons.injEq] at e
       have:=iff.2 e.1
       cases this
   | true=>
     obtain ⟨h2,b2,e2,U2,iff2⟩:=same_loop hA lp r0 lp1 r1 wk wk' hl hkl IH j (i:=i + 1) (q:=q) (h:=h1) (by omega) (by omega) (U.trans U1)
     refine ⟨h2,b2,?_,U2,?_⟩
     · rw [lpk_succ]
       subst e; subst e'
       simp -implicitDefEqProofs only [b11_1,↓c3,↓c3',↓lk,↓n1,↓n2,↓n2',↓l1,↓l2,↓e1,↓n3,↓e2,↓evR]
     · rw [iff2,List.cons.injEq,iff.1 rfl]
       simp
theorem same_law (hn : 1000 ≤ n) : ∀ (m : Nat) {r r' : List Tr} {d : Nat},SizeOf.sizeOf r < m→IsV r→IsV r'→wvRow r ≤ 900→m ≤ d→SameLaw n d r r'
 | 0,_,_,_,hm,_,_,_,_=>absurd hm (Nat.not_lt_zero _)
 | m + 1,r,r',d,hm,hv,hv',hwv,hd=>by
   obtain ⟨d,rfl⟩ : ∃ d',d = d' + 1:=⟨d - 1,by omega⟩
   cases hv with
   | mk k z l t kids hz hl hkl hvk hlt=>
   cases hv' with
   | mk k' z' l' t' kids' hz' hl' hkl' hvk' hlt'=>
   rw [wv_vT] at hwv
   intro h A lv lv' hA rv rv'
   obtain ⟨v0,v1,v2,vk,rfl,r0,r1,r2,rk⟩:=rv.inv4
   obtain rfl:=r0.int_inv
   obtain rfl:=r1.int_inv
   obtain ⟨rfl,_⟩:=r2.str_inv
   obtain ⟨v0,v1,v2,vk',rfl,r0',r1',r2',rk'⟩:=rv'.inv4
   obtain rfl:=r0'.int_inv
   obtain rfl:=r1'.int_inv
   obtain ⟨rfl,_⟩:=r2'.str_inv
   have kle:=wvRows_len kids
   have IH : ∀ r ∈ kids,∀ r' ∈ kids',SameLaw n d r r':=fun r hr r' hr'=>same_law hn m (by
    have:=List.sizeOf_lt_of_mem hr
    simp only [List.cons.sizeOf_spec,Tr.sl.sizeOf_spec] at hm
    omega) (hvk r hr) (hvk' r' hr') (by have:=wvRows_mem hr; omega) (by omega)
   obtain ⟨h0,e0,row0,U0,lt0⟩:=new_row h (g:=4) (l:=[.int .u8 (.ofNat k),.int .i64 z,.str l t,vk]) rfl (by omega)
   have e0' : ∀ q,words.new h (.arr 4 1 (.lf [.int .u8 (.ofNat k),.int .i64 z,.str l t,vk]) .false) q = q h.nx h0:=e0
   obtain ⟨h1,e1,row1,U1,lt1⟩:=new_row h0 (g:=4) (l:=[.int .u8 (.ofNat k'),.int .i64 z',.str l' t',vk']) rfl (by omega)
   have e1' : ∀ q,words.new h0 (.arr 4 1 (.lf [.int .u8 (.ofNat k'),.int .i64 z',.str l' t',vk']) .false) q = q h0.nx h1:=e1
   have U01:=U0.trans U1
   have row0':=row0.later lt0 U1
   have lt0':=Nat.lt_of_lt_of_le lt0 U1.nx
   have c0 : ∀ q : V→Res,words.load1 h1 h.nx 0 q = q (.int .u8 (.ofNat k)):=fun q=>load1k_law row0' rfl q
   have c1 : ∀ q : V→Res,words.load1 h1 h.nx 1 q = q (.int .i64 z):=fun q=>load1k_law row0' rfl q
   have c2 : ∀ q : V→Res,words.load1 h1 h.nx 2 q = q (.str l t):=fun q=>load1k_law row0' rfl q
   have c3 : ∀ q : V→Res,words.load1 h1 h.nx 3 q = q vk:=fun q=>load1k_law row0' rfl q
   have g0 : ∀ q : V→Res,words.load1 h1 h0.nx 0 q = q (.int .u8 (.ofNat k')):=fun q=>load1k_law row1 rfl q
   have g1 : ∀ q : V→Res,words.load1 h1 h0.nx 1 q = q (.int .i64 z'):=fun q=>load1k_law row1 rfl q
   have g2 : ∀ q : V→Res,words.load1 h1 h0.nx 2 q = q (.str l' t'):=fun q=>load1k_law row1 rfl q
   have g3 : ∀ q : V→Res,words.load1 h1 h0.nx 3 q = q vk':=fun q=>load1k_law row1 rfl q
   have lk : ∀ q : Nat→Res,lenk vk q = q kids.length:=fun q=>by rw [rk.lenk]
   have lk' : ∀ q : Nat→Res,lenk vk' q = q kids'.length:=fun q=>by rw [rk'.lenk]
   by_cases a0 : k = k'
   · have b0 : ieq (.ofNat k) (.ofNat k') = true:=by rw [ieq_nat]; simpa using a0
     by_cases a1 : z = z'
     · have b1 : ieq z z' = true:=by rw [ieq_eq]; simpa using a1
       by_cases a2 : l = l'∧t = t'
       · have b2 : seq l t l' t' = true:=by rw [seq_law]; simpa using a2
         by_cases a3 : kids.length = kids'.length
         · have b3 : ieq (.ofNat kids.length) (.ofNat kids'.length) = true:=by rw [ieq_nat]; simpa using a3
           have stA : ∀ {t : Tr} {v : V},CellA h A t v→CellA h1 A t v:=fun c=>c.mv (fun _ hx=>hx) fun b hb=>U01.get b (hA _ hb)
           obtain ⟨h2,b,e2,U2,iff⟩:=same_loop (n:=n) (d:=d) (hs:=h1) (fun x hx=>Nat.lt_of_lt_of_le (hA x hx) U01.nx) lt0' row0' lt1 row1 (stA rk) (stA rk') a3 (by omega) IH kids.length (i:=0) (q:=n) (h:=h1) (by omega) (by omega) (.refl _)
           refine ⟨h2,b,?_,U01.trans U2,?_⟩
           · rw [call11]
             simp -implicitDefEqProofs only [sh11,↓e0',↓e1',↓c0,↓g0,↓b0,↓c1,↓g1,↓b1,↓c2,↓g2,↓b2,↓c3,↓g3,↓lk,↓lk',↓b3,↓e2,↓evR]
           · rw [iff,List.drop_zero,List.drop_zero,a0,a1,a2.1,a2.2]
             constructor
             · intro e; rw [e]
             · intro e; simpa using e
         · have b3 : ieq (.ofNat kids.length) (.ofNat kids'.length) = false:=by rw [ieq_nat]; simpa using a3
           refine ⟨h1,false,?_,U01,⟨fun e=>(by cases e),fun e=>?_⟩⟩
           · rw [call11]
             simp -implicitDefEqProofs only [sh11,↓e0',↓e1',↓c0,↓g0,↓b0,↓c1,↓g1,↓b1,↓c2,↓g2,↓b2,↓c3,↓g3,↓lk,↓lk',↓b3,↓evR]
           · cases e; exact absurd rfl a3
       · have b2 : seq l t l' t' = false:=by rw [seq_law]; simpa using a2
         refine ⟨h1,false,?_,U01,⟨fun e=>(by cases e),fun e=>?_⟩⟩
         · rw [call11]
           simp -implicitDefEqProofs only [sh11,↓e0',↓e1',↓c0,↓g0,↓b0,↓c1,↓g1,↓b1,↓c2,↓g2,↓b2,↓evR]
         · cases e; exact absurd ⟨rfl,rfl⟩ a2
     · have b1 : ieq z z' = false:=by rw [ieq_eq]; simpa using a1
       refine ⟨h1,false,?_,U01,⟨fun e=>(by cases e),fun e=>?_⟩⟩
       · rw [call11]
         simp -implicitDefEqProofs only [sh11,↓e0',↓e1',↓c0,↓g0,↓b0,↓c1,↓g1,↓b1,↓evR]
       · cases e; exact absurd rfl a1
   · have b0 : ieq (.ofNat k) (.ofNat k') = false:=by rw [ieq_nat]; simpa using a0
     refine ⟨h1,false,?_,U01,⟨fun e=>(by cases e),fun e=>?_⟩⟩
     · rw [call11]
       simp -implicitDefEqProofs only [sh11,↓e0',↓e1',↓c0,↓g0,↓b0,↓evR]
     · cases e; exact absurd rfl a0
end
end Go.Ev.WIB

/- InternBack: Value. -/
namespace Go.Ev.WIB
open Go.Proofs
set_option maxRecDepth 100000
section
variable {p : Bid} {sh : List Sh} {L : List Th} {S X : Nat→Prop} {n d : Nat}
def ValueLaw (n d : Nat) (p : Bid) (sh : List Sh) (L : List Th) (r : List Tr) : Prop:=
 ∀ (s w : Nat) (S X : Nat→Prop) (h : Heap),Den sh L s w r→TabR h p sh L S X→w < 18446744073709551616→∃ h' l,call tabW n d f10 [.ptr p 0,I (.ofNat s),uV w] h = .ret (.tup [.agg 4 l,ik 0]) h'∧Up h h'∧RowA h' (fun x=>h.nx.val ≤ x∧x < h'.nx.val) r l
theorem value_loop {hb hs : Heap} {want ws : List Nat} {kids : List (List Tr)} {vw vp v0 v1 v2 v16 : V} {p2 : Bid} (w : TabR hb p sh L S X) (Ub : Up hb hs) (lb : hb.nx.val ≤ p2.val) (lp : p2.val < hs.nx.val) (hl : kids.length = want.length) (hpl : ws.length = want.length) (hl2 : want.length ≤ 12)
 (ww : CellA hb (Still hb S) (.sl 1 (want.map iT)) vw) (wp : CellA hb (Still hb S) (.sl 1 (ws.map wT)) vp) (hws : ∀ x ∈ ws,x < 18446744073709551616) (hk4 : ∀ r ∈ kids,r.length = 4) (hd : ∀ (j a x : Nat) (r : List Tr),want[j]? = some a→ws[j]? = some x→kids[j]? = some r→Den sh L a x r)
 (IH : ∀ r ∈ kids,ValueLaw n d p sh L r) :
 ∀ (j : Nat) {i q : Nat} {h : Heap} {v : V},i + j = kids.length→j < q→Old hs.nx.val p2 hs h→Row (h.t.get p2) 4 [v0,v1,v2,v]→OwnT h hs.nx.val 4 v (kids.take i) →
  ∃ h' v',lpk (b10_1 words n (call tabW n d)) q [.ptr p 0,v16,.ptr p2 0,vw,vp,I (.ofNat ws.length),I (.ofNat i)] h = .done .normal [v16,.ptr p2 0] h'∧Old hs.nx.val p2 hs h'∧Row (h'.t.get p2) 4 [v0,v1,v2,v']∧OwnT h' hs.nx.val 4 v' kids
 | j,i,0,_,_,_,h0,_,_,_=>absurd h0 (Nat.not_lt_zero _)
 | 0,i,q + 1,h,v,hi,_,O,r,W=>by
   have n1 : ilt (.ofNat i) (.ofNat ws.length) = false:=ilt_false (by omega)
   refine ⟨h,v,?_,O,r,by rwa [List.take_of_length_le (by omega)] at W⟩
   rw [lpk_succ]
   simp -implicitDefEqProofs only [b10_1,↓n1,↓evR]
 | j + 1,i,q + 1,h,v,hi,hq,O,r,W=>by
   have hik : i < kids.length:=by omega
   have hiw : i < want.length:=by omega
   have hip : i < ws.length:=by omega
   have lt : ∀ x,S x→x < hb.nx.val:=fun x hx=>w.lts hx
   have Uh : Up hb h:=⟨Nat.le_trans Ub.nx O.nx,fun b hb'=>(O.get b (Nat.lt_of_lt_of_le hb' Ub.nx) (by rintro rfl; omega)).trans (Ub.get b hb')⟩
   obtain ⟨b1,o1,m1,e1,a1⟩:=word_at (wp.stay Uh lt) hip
   obtain ⟨b2,o2,m2,e2,a2⟩:=want_at (ww.stay Uh lt) hiw
   obtain ⟨h1,l,e3,U1,rl⟩:=IH kids[i] (List.getElem_mem hik) want[i] ws[i] S X h (hd i _ _ _ (List.getElem?_eq_getElem hiw) (List.getElem?_eq_getElem hip) (List.getElem?_eq_getElem hik)) (w.up Uh) (hws _ (List.getElem_mem hip))
   have hl4 : l.length = 4:=by rw [rl.len,hk4 _ (List.getElem_mem hik)]
   obtain ⟨h2,h3,e4,e5,r3,U3,lt3⟩:=new_store h1 (g:=4) (z:=[uk 0,ik 0,.str 0 0,.nils]) (l:=l) rfl hl4 (by omega)
   have e4' : ∀ q,words.new h1 (.arr 4 1 (repT [uk 0,ik 0,.str 0 0,.nils] 1 1) .false) q = q h1.nx h2:=e4
   have e5' : ∀ q,words.store h2 h1.nx 0 4 l q = q h3:=e5
   have U13:=U1.trans U3
   have lph : p2.val < h.nx.val:=Nat.lt_of_lt_of_le lp O.nx
   have rp3:=r.later lph U13
   have c3 : ∀ q : V→Res,words.load1 h3 p2 3 q = q v:=fun q=>load1k_law rp3 rfl q
   have l3 : ∀ q : List V→Res,words.load h3 h1.nx 0 4 q = q l:=fun q=>by
    have:=loadk_law r3 (o:=0) (n:=4) (by omega) q
    rw [List.drop_zero,List.take_of_length_le (by omega)] at this
    exact this
   have ap : ∀ q : List V→Res,appk l [] q = q l:=fun q=>by rw [appk_eq,List.append_nil]
   have rr : ∀ q,words.row 4 1 l q = q (.lf l):=fun q=>row_one hl4 q
   obtain ⟨h4,e6,r4,U4,lt4⟩:=new_row h3 (g:=4) (l:=l) hl4 (by omega)
   have e6' : ∀ q,words.new h3 (.arr 4 1 (.lf l) .false) q = q h3.nx h4:=e6
   have U14:=U13.trans U4
   have W4:=W.up U14
   have hsx : hs.nx.val ≤ h4.nx.val:=Nat.le_trans O.nx U14.nx
   obtain ⟨h5,v5,e7,W5,U5,nx5,m,ev5⟩:=app_one (g:=4) (r:=kids[i]) W4 (by omega) r4 hl4 (hk4 _ (List.getElem_mem hik)) hsx
    (rl.mv (fun x hx=>⟨Nat.le_trans O.nx hx.1,Nat.lt_of_lt_of_le hx.2 (U3.trans U4).nx,W.low (.inr hx.1)⟩) fun b hb=>(U3.trans U4).get b hb.2) (by rw [List.length_take]; omega)
   have W5' : OwnT h5 hs.nx.val 4 v5 (kids.take (i + 1)):=by rw [List.take_succ_eq_append_getElem hik]; exact W5
   have o5 : ∀ rr : Res,onek v5 rr = rr:=fun rr=>W5.onek rr
   have offp : Off v p2.val:=W4.low (.inl lp)
   have rp5 : Row (h5.t.get p2) 4 [v0,v1,v2,v]:=by
    rw [U5.get p2 (by have:=U14.nx; omega) offp]
    exact r.later lph U14
   obtain ⟨h6,e8,r6,B6⟩:=storek_law (o:=3) (n:=1) (vs:=[v5]) rp5 rfl (by simp)
   have e8' : ∀ q,words.store h5 p2 (Nat.add 0 3) 1 [v5] q = q h6:=e8
   have O6 : Old hs.nx.val p2 hs h6:=⟨by rw [B6.nx]; have:=U5.nx; omega,fun b hb' hne=>by
    rw [B6.get b hne,U5.get b (by omega) (W4.low (.inl hb')),U14.get b (by have:=O.nx; omega)]
    exact O.get b hb' hne⟩
   have W6 : OwnT h6 hs.nx.val 4 v5 (kids.take (i + 1)):=W5'.keep (by rw [B6.nx]; exact Nat.le_refl _) fun b hb1 hb2=>B6.get b (by rintro rfl; omega)
   have n1:=ilt_true hip
   have n2 : Nat.blt i ws.length = true:=blt_of hip
   have n2' : Nat.blt i want.length = true:=blt_of hiw
   have n3:=ad_nat (a:=i) (b:=1) (by omega)
   have n0 : ieq (.ofNat 0) (.ofNat 0) = true:=rfl
   obtain ⟨h7,v7,e9,O7,r7,W7⟩:=value_loop (v16:=v16) w Ub lb lp hl hpl hl2 ww wp hws hk4 hd IH j (i:=i + 1) (q:=q) (h:=h6) (v:=v5) (by omega) (by omega) O6 r6 W6
   refine ⟨h7,v7,?_,O7,r7,W7⟩
   rw [lpk_succ]
   subst e1; subst e2
   simp -implicitDefEqProofs only [b10_1,↓n1,↓n2,↓n2',↓a1,↓a2,↓e3,↓e4',↓e5',↓n0,↓c3,↓l3,↓ap,↓rr,↓e6',↓e7,↓o5,↓e8',↓n3,↓e9,↓evR]
theorem isV_len {r : List Tr} (h : IsV r) : r.length = 4:=by cases h; rfl
theorem back64 {z : Int} (h : -9223372036854775808 ≤ z∧z ≤ 9223372036854775807) : wrapv .i64 (.ofNat (z % 18446744073709551616).toNat) = z:=by
 rw [w64]
 have e : (Int.ofNat (z % 18446744073709551616).toNat) = z % 18446744073709551616:=Int.toNat_of_nonneg (by omega)
 rw [e]
 split <;> omega
theorem value_law (ok : ShsOk sh) (hn : 1000 ≤ n) (hL : L.length < 1000000) (g : Good sh L) : ∀ (m : Nat) {r : List Tr} {d : Nat},SizeOf.sizeOf r < m→IsV r→m + 4 ≤ d→ValueLaw n d p sh L r
 | 0,_,_,hm,_,_=>absurd hm (Nat.not_lt_zero _)
 | m + 1,r,d,hm,hv,hd=>by
   obtain ⟨d,rfl⟩ : ∃ d',d = d' + 1 + 1 + 1:=⟨d - 3,by omega⟩
   intro s w S X h hden wt hw64
   obtain ⟨h0,e0,r0,u0⟩:=newk_law h (.arr 4 1 (repT [uk 0,ik 0,.str 0 0,.nils] 1 1) false)
   have e0' : ∀ q,words.new h (.arr 4 1 (repT [uk 0,ik 0,.str 0 0,.nils] 1 1) .false) q = q h.nx h0:=e0
   have U0:=u0.up
   have lt0:=u0.lt
   have row0 : Row (h0.t.get h.nx) 4 [uk 0,ik 0,.str 0 0,.nils]:=by
    rw [r0]
    exact Row.rep [uk 0,ik 0,.str 0 0,.nils] (by simp) 1
   have pn : ∀ q : Bool→Res,pnk (.ptr p 0) q = q false:=fun q=>rfl
   have wt0:=wt.up U0
   obtain ⟨bo,bm,c,va,vs,cells,pv,wx⟩:=wt0
   have ek:=wx.kind (n:=n) (d:=d + 1) (.ofNat s)
   have k7 : Nat.beq (kno .u64) 7 = true:=rfl
   have lts : ∀ x,S x→x < h.nx.val:=fun x hx=>wt.lts hx
   have fin : ∀ (h1 : Heap) (l : List V),l.length = 4→Up h0 h1→Row (h1.t.get h.nx) 4 [uk 0,ik 0,.str 0 0,.nils]→∃ h2,(∀ q : Heap→Res,words.store h1 h.nx 0 4 l q = q h2)∧(∀ q : List V→Res,loadk h2 h.nx 0 4 q = q l)∧But h1 h.nx h2:=fun h1 l hl U r1=>by
    obtain ⟨h2,e2,r2,B2⟩:=storek_law (o:=0) (n:=4) (vs:=l) r1 hl (by simp)
    refine ⟨h2,e2,fun q=>?_,B2⟩
    have e : splice [uk 0,ik 0,.str 0 0,.nils] 0 l = l:=by
     match l,hl with
     | [a,b,c,d],_=>rfl
    rw [e] at r2
    have:=loadk_law r2 (o:=0) (n:=4) (by omega) q
    rw [List.drop_zero,List.take_of_length_le (by omega)] at this
    exact this
   have upB : ∀ {h1 h2 : Heap},Up h h1→h1.nx.val ≤ h2.nx.val→But h1 h.nx h2→Up h h2:=fun U hle B=>⟨Nat.le_trans U.nx hle,fun b hb=>(B.get b (by rintro rfl; omega)).trans (U.get b hb)⟩
   cases hden with
   | num _ z hk=>
     cases hv with | mk _ _ _ _ _ hz=>
     rw [show kindI sh (.ofNat s) = 1 from hk] at ek
     have n1 : ieq (.ofNat 1) (.ofNat 1) = true:=rfl
     have n2:=back64 hz
     obtain ⟨h2,e2,l2,B2⟩:=fin h0 [uk 1,I z,.str 0 0,.nils] rfl (.refl _) row0
     refine ⟨h2,[uk 1,I z,.str 0 0,.nils],?_,upB U0 (by rw [B2.nx]; exact Nat.le_refl _) B2,.cons (.i _ _) (.cons (.i _ _) (.cons (.s 0 0 (by simp)) (.cons (.nils 4) .nil)))⟩
     rw [call10]
     simp -implicitDefEqProofs only [sh10,↓e0',↓pn,↓ek,↓n1,↓n2,↓e2,↓l2,↓evR]
   | nil _ hk=>
     rw [show kindI sh (.ofNat s) = 3 from hk] at ek
     have n1 : ieq (.ofNat 3) (.ofNat 1) = false:=rfl
     have n3 : ieq (.ofNat 3) (.ofNat 3) = true:=rfl
     have n0 : ieq (.ofNat 0) (.ofNat 0) = true:=rfl
     obtain ⟨h2,e2,l2,B2⟩:=fin h0 [uk 3,ik 0,.str 0 0,.nils] rfl (.refl _) row0
     refine ⟨h2,[uk 3,ik 0,.str 0 0,.nils],?_,upB U0 (by rw [B2.nx]; exact Nat.le_refl _) B2,.cons (.i _ _) (.cons (.i _ _) (.cons (.s 0 0 (by simp)) (.cons (.nils 4) .nil)))⟩
     rw [call10]
     simp -implicitDefEqProofs only [sh10,↓e0',↓pn,↓ek,↓n1,↓n3,↓k7,↓n0,↓e2,↓l2,↓evR]
   | sym _ l t _ i th hk hi ht hx=>
     cases hv with | mk _ _ _ _ _ _ _ _ _ hlt=>
     have hs:=(kind_ge (sh:=sh) (s:=s) (by omega)).1
     have f0 : fst0 sh s = 0:=by simp [fst0,hk]
     rw [show kindI sh (.ofNat s) = 2 from hk] at ek
     have n1 : ieq (.ofNat 2) (.ofNat 1) = false:=rfl
     have n3 : ieq (.ofNat 2) (.ofNat 3) = false:=rfl
     have n2 : ieq (.ofNat 2) (.ofNat 2) = true:=rfl
     have ep:=wx.place (n:=n) (d:=d) (s:=s) (k:=w) (.inl hk) (by omega) hw64 (by omega)
     have hlt' : w < cnt L s:=(List.getElem?_eq_some_iff.1 hi).1
     rw [f0,Nat.sub_zero,decide_eq_true hlt'] at ep
     obtain ⟨t',v',b',ht',hv',hts,eg,_,lg⟩:=wx.get (n:=n) (d:=d + 1) hs hi
     rw [ht] at ht'
     cases ht'
     have l2':=lg 2 (sV th.text) (by omega) rfl
     rw [hx,sV_dig hlt] at l2'
     obtain ⟨h2,e2,l2,B2⟩:=fin h0 [uk 2,ik 0,.str l t,.nils] rfl (.refl _) row0
     refine ⟨h2,[uk 2,ik 0,.str l t,.nils],?_,upB U0 (by rw [B2.nx]; exact Nat.le_refl _) B2,.cons (.i _ _) (.cons (.i _ _) (.cons (.s l t hlt) (.cons (.nils 4) .nil)))⟩
     rw [call10]
     simp -implicitDefEqProofs only [sh10,↓e0',↓pn,↓ek,↓n1,↓n3,↓n2,↓ep,↓eg,↓l2',↓e2,↓l2,↓evR]
   | node _ k b want kids _ i th hk hw hf hi ht hb hl hpl hdn=>
     cases hv with | mk _ _ _ _ _ _ _ _ hvk hlt=>
     have hs:=(kind_ge (sh:=sh) (s:=s) (by omega)).1
     have hlt' : w - fst0 sh s < cnt L s:=(List.getElem?_eq_some_iff.1 hi).1
     have ep:=wx.place (n:=n) (d:=d) (s:=s) (k:=w) (.inr (by omega)) hf hw64 (by omega)
     rw [decide_eq_true hlt'] at ep
     obtain ⟨t',vp,b',ht',hv',hts,eg,hb',lg⟩:=wx.get (n:=n) (d:=d + 1) hs hi
     rw [ht] at ht'
     cases ht'
     subst hb
     have hw12:=(ok.want s _ want hw).1
     have l1':=lg 1 (I (.ofNat th.branch)) (by omega) rfl
     obtain ⟨h6,h7,e6,e7,r7,U7,lt7⟩:=new_store h0 (g:=4) (z:=[uk 0,ik 0,.str 0 0,.nils]) (l:=[uk 4,I (.ofNat th.branch),.str 0 0,.nils]) rfl rfl (by omega)
     have e6' : ∀ q,words.new h0 (.arr 4 1 (repT [uk 0,ik 0,.str 0 0,.nils] 1 1) .false) q = q h0.nx h6:=e6
     have e7' : ∀ q,words.store h6 h0.nx 0 4 [uk 4,I (.ofNat th.branch),.str 0 0,.nils] q = q h7:=e7
     obtain ⟨h8,e8,r8,U8,lt8⟩ : ∃ h8,(∀ q,words.store h7 h0.nx 0 1 [uk 5] q = q h8)∧Row (h8.t.get h0.nx) 4 [uk 5,I (.ofNat th.branch),.str 0 0,.nils]∧Up h0 h8∧h0.nx.val < h8.nx.val:=by
      obtain ⟨h8,e8,r8,B8⟩:=storek_law (o:=0) (n:=1) (vs:=[uk 5]) r7 rfl (by simp)
      exact ⟨h8,e8,r8,⟨by rw [B8.nx]; exact U7.nx,fun b hb=>by rw [B8.get b (by rintro rfl; omega)]; exact U7.get b hb⟩,by rw [B8.nx]; exact lt7⟩
     obtain ⟨h9,r9,U9,lt9,hkk⟩ : ∃ h9,Row (h9.t.get h0.nx) 4 [uk k,I (.ofNat th.branch),.str 0 0,.nils]∧Up h0 h9∧h0.nx.val < h9.nx.val∧((k = 4∧h9 = h7) ∨ (k = 5∧h9 = h8)):=by
      rcases hk with ⟨rfl,_⟩ | ⟨rfl,_⟩
      · exact ⟨h7,r7,U7,lt7,.inl ⟨rfl,rfl⟩⟩
      · exact ⟨h8,r8,U8,lt8,.inr ⟨rfl,rfl⟩⟩
     have c1 : ∀ q : V→Res,words.load1 h9 h0.nx 1 q = q (I (.ofNat th.branch)):=fun q=>load1k_law r9 rfl q
     obtain ⟨vw,ew,rw'⟩:=wx.want_up (n:=n) (d:=d) U9 (s:=s) (b:=.ofNat th.branch) (l:=want) hw
     have ww:=noX rw'
     have lgp9 : ∀ q,words.load1 h9 b' (Nat.add (Nat.add 0 (Nat.mul i 5)) 3) q = q vp:=fun q=>(U9.ld hb' q).trans (lg 3 vp (by omega) rfl q)
     have wpar:=noX (wx.parts i th vp ht hv')
     have lpp : ∀ q : Nat→Res,lenk vp q = q th.parts.length:=fun q=>by rw [wpar.lenk,List.length_map]
     have IH : ∀ r ∈ kids,ValueLaw n (d + 1 + 1) p sh L r:=fun r hr=>value_law ok hn hL g m (by
      have:=List.sizeOf_lt_of_mem hr
      simp only [List.cons.sizeOf_spec,Tr.sl.sizeOf_spec] at hm
      omega) (hvk r hr) (by omega)
     obtain ⟨h10,v10,e10,O10,r10,W10⟩:=value_loop (n:=n) (d:=d + 1 + 1) (v16:=.ptr h.nx 0) (wt.up U0) U9 (Nat.le_refl _) lt9 hl hpl hw12 ww wpar ((g.ok th (List.mem_of_getElem? ht)).1.parts) (fun r hr=>isV_len (hvk r hr)) hdn IH kids.length (i:=0) (q:=n) (h:=h9) (v:=.nils) (by omega) (by omega) (.refl _ _ _) r9 .nils
     have lp10 : ∀ q : List V→Res,words.load h10 h0.nx 0 4 q = q [uk k,I (.ofNat th.branch),.str 0 0,v10]:=fun q=>loadk_law r10 (by simp) q
     have U010 : Up h0 h10:=⟨Nat.le_trans U9.nx O10.nx,fun b hb=>(O10.get b (Nat.lt_of_lt_of_le hb U9.nx) (by rintro rfl; omega)).trans (U9.get b hb)⟩
     obtain ⟨h11,e11,l11,B11⟩:=fin h10 [uk k,I (.ofNat th.branch),.str 0 0,v10] rfl U010 (row0.later lt0 U010)
     have l11' : ∀ q : List V→Res,loadk h11 h.nx 0 4 q = q [uk k,I (.ofNat th.branch),.str 0 0,v10]:=l11
     have b3 : ieq (.ofNat (kindOf sh s)) (.ofNat 1) = false:=by rw [ieq_nat]; simp; omega
     have b2 : ieq (.ofNat (kindOf sh s)) (.ofNat 2) = false:=by rw [ieq_nat]; simp; omega
     have kk : kindI sh (.ofNat s) = kindOf sh s:=rfl
     rw [kk] at ek
     refine ⟨h11,[uk k,I (.ofNat th.branch),.str 0 0,v10],?_,upB (U0.trans U010) (by rw [B11.nx]; exact Nat.le_refl _) B11,?_⟩
     · rw [call10]
       rcases hk with ⟨rfl,hk3⟩ | ⟨rfl,hk4⟩
       · have hf' : 1 ≤ w:=by rw [show fst0 sh s = 1 by simp [fst0,hk3]] at hf; exact hf
         have n3 : ieq (.ofNat (kindOf sh s)) (.ofNat 3) = true:=by rw [hk3]; rfl
         have n4 : ieq (.ofNat (kindOf sh s)) (.ofNat 4) = false:=by rw [hk3]; rfl
         have n0 : ieq (.ofNat w) (.ofNat 0) = false:=by rw [ieq_nat]; simp; omega
         obtain rfl : h9 = h7:=by rcases hkk with ⟨_,e⟩ | ⟨e,_⟩; exact e; cases e
         simp -implicitDefEqProofs only [sh10,↓e0',↓pn,↓ek,↓b3,↓n3,↓k7,↓n0,↓ep,↓eg,↓b2,↓l1',↓e6',↓e7',↓n4,↓c1,↓ew,↓lgp9,↓lpp,↓e10,↓lp10,↓e11,↓l11',↓evR]
       · have n3 : ieq (.ofNat (kindOf sh s)) (.ofNat 3) = false:=by rw [hk4]; rfl
         have n4 : ieq (.ofNat (kindOf sh s)) (.ofNat 4) = true:=by rw [hk4]; rfl
         obtain rfl : h9 = h8:=by rcases hkk with ⟨e,_⟩ | ⟨_,e⟩; cases e; exact e
         have e8' : ∀ q,words.store h7 h0.nx 0 1 [uk 5] q = q h9:=e8
         simp -implicitDefEqProofs only [sh10,↓e0',↓pn,↓ek,↓b3,↓n3,↓ep,↓eg,↓b2,↓l1',↓e6',↓e7',↓n4,↓e8',↓c1,↓ew,↓lgp9,↓lpp,↓e10,↓lp10,↓e11,↓l11',↓evR]
     · refine .cons (.i _ _) (.cons (.i _ _) (.cons (.s 0 0 (by simp)) (.cons ?_ .nil)))
       have c10:=W10.cell
       exact c10.mv (fun x hx=>⟨by have:=U9.nx; have:=U0.nx; omega,by rw [B11.nx]; exact hx.2⟩) fun b hb=>B11.get b (by rintro rfl; have:=U9.nx; omega)
end
end Go.Ev.WIB

/- InternBack: New. -/
namespace Go.Ev.WIB
open Go.Proofs
set_option maxRecDepth 100000
structure Ra where
 kind : Nat
 fields : List Int
 cases : List (List Int)
abbrev zT (z : Int) : List Tr:=[.i .i64 z]
abbrev zV' (z : Int) : V:=.int .i64 z
def raT (x : Ra) : List Tr:=[.i .u8 (.ofNat x.kind),.sl 1 (x.fields.map zT),.sl 1 (x.cases.map fun c=>[.sl 1 (c.map zT)])]
def raS (x : Ra) : Sh:=⟨x.kind,x.fields.map Int.toNat,x.cases.map fun c=>c.map Int.toNat⟩
section
variable {h : Heap} {n d : Nat}
theorem int_at {A : Nat→Prop} {zs : List Int} {v : V} (w : CellA h A (.sl 1 (zs.map zT)) v) {i : Nat} (hi : i < zs.length) : ∃ b o m,v = .slice b o zs.length m 1∧∀ q : V→Res,words.load1 h b (Nat.add o i) q = q (zV' zs[i]):=by
 obtain ⟨b,o,m,l',e,r,_,_,_,ld⟩:=w.row (i:=i) (by simpa using hi)
 rw [List.getElem_map] at r
 obtain ⟨v0,rfl,r0⟩:=r.inv1
 obtain rfl:=r0.int_inv
 rw [List.length_map] at e
 refine ⟨b,o,m,e,fun k=>?_⟩
 have:=ld 0 _ rfl k
 rw [Nat.mul_one,Nat.add_zero] at this
 exact this
theorem src_ints {A : Nat→Prop} {zs : List Int} {v : V} (w : CellA h A (.sl 1 (zs.map zT)) v) (k : Nat→List V→Res) : srck 1 v h k = k zs.length (zs.map zV'):=by
 generalize hr : zs.map zT = rows at w
 have hl : zs.length = rows.length:=by rw [← hr,List.length_map]
 cases w with
 | nils=>
   have : zs = []:=by simpa using hr
   subst this; rfl
 | emp=>
   have : zs = []:=by simpa using hr
   subst this; rfl
 | sl _ _ b o c op cs hb row fit wid hs=>
   show loadk h b o (Nat.mul rows.length 1) (fun cs=>k rows.length cs) = _
   rw [show Nat.mul rows.length 1 = rows.length by exact Nat.mul_one _,loadk_law row (by omega),hl]
   congr 1
   apply List.ext_getElem (by simp; omega)
   intro i h1 h2
   simp at h1 h2
   have hi : o + i < cs.length:=by omega
   have:=hs i (zT zs[i]) 0 (.i .i64 zs[i]) cs[o + i] (by rw [← hr,List.getElem?_map,List.getElem?_eq_getElem (by omega)]; rfl) rfl (by rw [Nat.mul_one,Nat.add_zero,List.getElem?_eq_getElem hi])
   simp only [List.getElem_take,List.getElem_drop,List.getElem_map]
   exact this.int_inv
theorem own_ints {lo : Nat} {zs : List Int} {v : V} (w : Own h lo v (zs.map zV')) : CellA h (fun x=>lo ≤ x∧x < h.nx.val) (.sl 1 (zs.map zT)) v:=by
 generalize hr : zs.map zV' = l at w
 cases w with
 | nils=>
   have : zs = []:=by simpa using hr
   subst this; exact .nils 1
 | sl b c _ blo bhi row cap=>
   have hl : l.length = (zs.map zT).length:=by rw [← hr]; simp
   rw [hl]
   refine .sl 1 _ b 0 c false l ⟨blo,bhi⟩ row (by omega) (by intro r hr'; obtain ⟨x,_,rfl⟩:=List.mem_map.1 hr'; rfl) ?_
   intro i r j t v h1 h2 h3
   rw [List.getElem?_map] at h1
   obtain ⟨x,h4,rfl⟩:=Option.map_eq_some_iff.1 h1
   match j,h2 with
   | 0,h2=>
     cases h2
     rw [← hr,Nat.mul_one,Nat.zero_add,Nat.add_zero,List.getElem?_map,h4] at h3
     cases h3
     exact .i _ _
   | j + 1,h2=>simp at h2
theorem clone_ints {A : Nat→Prop} {zs : List Int} {v : V} (w : CellA h A (.sl 1 (zs.map zT)) v) (hA : ∀ x,A x→x < h.nx.val) (hl : zs.length ≤ 16777216) :
 ∃ h' v',call tabW n (d + 1) f17 [v] h = .ret v' h'∧CellA h' (fun x=>h.nx.val ≤ x∧x < h'.nx.val) (.sl 1 (zs.map zT)) v'∧Up h h':=by
 by_cases hn : v = .nils
 · subst hn
   refine ⟨h,.nils,?_,?_,.refl _⟩
   · have sn : ∀ q : Bool→Res,snk .nils q = q true:=fun q=>rfl
     rw [call17]
     simp -implicitDefEqProofs only [sh17,↓sn,↓evR]
   · generalize zs.map zT = rows at w
     cases w
     exact .nils 1
 · obtain ⟨h1,e1,r1,u1⟩:=newk_law h (.arr 1 0 .e false)
   have U1:=u1.up
   have e1' : ∀ q,words.new h (.arr 1 0 .e .false) q = q h.nx h1:=e1
   have w1 : CellA h1 A (.sl 1 (zs.map zT)) v:=w.mv (fun _ hx=>hx) fun b hb=>U1.get b (hA _ hb)
   have ow : Own h1 h.nx.val (.slice h.nx 0 0 (some 0) 1) []:=.sl h.nx (some 0) [] (Nat.le_refl _) u1.lt ⟨0,.e,r1,wf_e (by omega),rfl,fun i=>by simp [T.cell,T.get]⟩ fun n hn=>by cases hn; rfl
   obtain ⟨h2,v2,e2,w2,U2⟩:=appendk_own ow (new:=zs.map zV') U1.nx (by simpa using hl)
   have e2' : ∀ q : V→Heap→Res,words.app 1 (.slice h.nx 0 0 (.some 0) 1) v h1 q = q v2 h2:=fun q=>by
    show srck 1 v h1 (fun m new=>appendk 1 (.slice h.nx 0 0 (.some 0) 1) m new h1 q) = _
    rw [src_ints w1]
    have:=e2 q
    rw [List.length_map] at this
    exact this
   have r0 : ∀ q : T→Res,words.row 1 0 [] q = q .e:=fun q=>rfl
   have sn : ∀ q : Bool→Res,snk v q = q false:=fun q=>by
    generalize zs.map zT = rows at w
    cases w with
    | nils=>exact absurd rfl hn
    | emp=>rfl
    | sl=>rfl
   refine ⟨h2,v2,?_,own_ints (by simpa using w2),⟨Nat.le_trans U1.nx U2.nx,fun b hb=>(U2.get b hb).trans (U1.get b hb)⟩⟩
   rw [call17]
   simp -implicitDefEqProofs only [sh17,↓sn,↓r0,↓e1',↓e2',↓evR]
theorem cv52 (cf : CF) (caps : List V) (x : V) (h : Heap) : callv cf (.func 52 caps) [x] h = cf f52 (x :: caps) h:=rfl
theorem cv39 (cf : CF) (caps : List V) (x : V) (h : Heap) : callv cf (.func 39 caps) [x] h = cf f39 (x :: caps) h:=rfl
theorem out_law {p0 : Bid} {N : Nat} (r : Row (h.t.get p0) 1 [ik N]) (z : Int) : call tabW n (d + 1) f52 [zV' z,.ptr p0 0] h = .ret (.bool (!decide (0 ≤ z∧z < N))) h:=by
 have c0 : ∀ q : V→Res,words.load1 h p0 0 q = q (ik N):=fun q=>load1k_law r rfl q
 have k3 : Nat.beq (kno .i64) (kno .i64) = true:=rfl
 rw [call52]
 cases z with
 | negSucc z=>
   have n1 : ilt (.negSucc z) (.ofNat 0) = true:=rfl
   have e : decide (0 ≤ Int.negSucc z∧Int.negSucc z < (N : Int)) = false:=decide_eq_false fun h=>by omega
   rw [e]
   simp -implicitDefEqProofs only [sh52,↓n1,↓evR]
 | ofNat z=>
   have n1 : ilt (.ofNat z) (.ofNat 0) = false:=ilt_false (by omega)
   by_cases hz : z < N
   · have n2:=ilt_true hz
     have e : decide (0 ≤ Int.ofNat z∧Int.ofNat z < (N : Int)) = true:=by simp; omega
     rw [e]
     simp -implicitDefEqProofs only [sh52,↓n1,↓c0,↓n2,↓evR]
   · have n2:=ilt_false hz
     have e : decide (0 ≤ Int.ofNat z∧Int.ofNat z < (N : Int)) = false:=by simp; omega
     rw [e]
     simp -implicitDefEqProofs only [sh52,↓n1,↓c0,↓n2,↓evR]
theorem idx63_loop {hs : Heap} {A : Nat→Prop} {zs : List Int} {v : V} {p0 : Bid} {N : Nat} (w : CellA hs A (.sl 1 (zs.map zT)) v) (hl : zs.length ≤ 1000000) (r : Row (hs.t.get p0) 1 [ik N]) :
 ∀ (j : Nat) {i q : Nat},i + j = zs.length→j < q→∃ x,lpk (b63_1 words n (call tabW n (d + 1))) q [v,.func 52 [.ptr p0 0],I (.ofNat zs.length),I (.ofNat i)] hs = .ret (I x) hs∧((x = .negSucc 0∧∀ z ∈ zs.drop i,0 ≤ z∧z < N) ∨ ∃ k,x = .ofNat k)
 | j,i,0,_,h0=>absurd h0 (Nat.not_lt_zero _)
 | 0,i,q + 1,hi,_=>by
   have n1 : ilt (.ofNat i) (.ofNat zs.length) = false:=ilt_false (by omega)
   refine ⟨.negSucc 0,?_,.inl ⟨rfl,by rw [List.drop_eq_nil_of_le (by omega)]; simp⟩⟩
   rw [lpk_succ]
   simp -implicitDefEqProofs only [b63_1,↓n1,↓evR]
 | j + 1,i,q + 1,hi,hq=>by
   have hik : i < zs.length:=by omega
   obtain ⟨b,o,m,e,a1⟩:=int_at w hik
   have n1:=ilt_true hik
   have n2 : Nat.blt i zs.length = true:=blt_of hik
   have n3:=ad_nat (a:=i) (b:=1) (by omega)
   have e1:=out_law (n:=n) (d:=d) r zs[i]
   have cvv:=cv52 (call tabW n (d + 1)) [.ptr p0 0] (zV' zs[i]) hs
   by_cases hz : 0 ≤ zs[i]∧zs[i] < N
   · rw [decide_eq_true hz] at e1
     obtain ⟨x,e2,hx⟩:=idx63_loop w hl r j (i:=i + 1) (q:=q) (by omega) (by omega)
     refine ⟨x,?_,hx.imp (fun ⟨h1,h2⟩=>⟨h1,fun z hz'=>?_⟩) id⟩
     · rw [lpk_succ]
       subst e
       simp -implicitDefEqProofs only [b63_1,↓n1,↓n2,↓a1,↓cvv,↓e1,↓n3,↓e2,↓evR]
     · rw [List.drop_eq_getElem_cons hik] at hz'
       rcases List.mem_cons.1 hz' with rfl | hz'
       · exact hz
       · exact h2 z hz'
   · rw [decide_eq_false hz] at e1
     refine ⟨.ofNat i,?_,.inr ⟨i,rfl⟩⟩
     rw [lpk_succ]
     subst e
     simp -implicitDefEqProofs only [b63_1,↓n1,↓n2,↓a1,↓cvv,↓e1,↓evR]
def Places (N : Nat) (zs : List Int) : Prop:=zs.length ≤ 12∧∀ z ∈ zs,0 ≤ z∧z < N
theorem places_law {A : Nat→Prop} {zs : List Int} {v : V} {N : Nat} (hn : 1000 ≤ n) (w : CellA h A (.sl 1 (zs.map zT)) v) (hA : ∀ x,A x→x < h.nx.val) :
 ∃ h' b,call tabW n (d + 1 + 1 + 1 + 1) f37 [v,ik N] h = .ret (.bool b) h'∧Up h h'∧(b = true→Places N zs):=by
 obtain ⟨h0,e0,r0,U0,lt0⟩:=new_row h (g:=1) (l:=[ik N]) rfl (by omega)
 have e0' : ∀ q,words.new h (.arr 1 1 (.lf [ik N]) .false) q = q h.nx h0:=e0
 have ln : ∀ q : Nat→Res,lenk v q = q zs.length:=fun q=>by rw [w.lenk,List.length_map]
 by_cases hl : zs.length ≤ 12
 · have n1 : ilt (.ofNat 12) (.ofNat zs.length) = false:=ilt_false (by omega)
   obtain ⟨x,e1,hx⟩:=idx63_loop (n:=n) (d:=d) (hs:=h0) (w.mv (A':=A) (fun _ hx=>hx) fun b hb=>U0.get b (hA _ hb)) (by omega) r0 zs.length (i:=0) (q:=n) (by omega) (by omega)
   have e2 : call tabW n (d + 1 + 1) f63 [v,.func 52 [.ptr h.nx 0]] h0 = .ret (I x) h0:=by
    rw [call63]
    simp -implicitDefEqProofs only [sh63,↓ln,↓e1,↓evR]
   rcases hx with ⟨rfl,hall⟩ | ⟨k,rfl⟩
   · have n2 : ilt (.negSucc 0) (.ofNat 0) = true:=rfl
     have e3 : call tabW n (d + 1 + 1 + 1) f51 [v,.func 52 [.ptr h.nx 0]] h0 = .ret (.bool false) h0:=by
      rw [call51]
      simp -implicitDefEqProofs only [sh51,↓e2,↓n2,↓evR]
     refine ⟨h0,true,?_,U0,fun _=>⟨hl,by rw [List.drop_zero] at hall; exact hall⟩⟩
     rw [call37]
     simp -implicitDefEqProofs only [sh37,↓e0',↓ln,↓n1,↓e3,↓evR]
   · have n2 : ilt (.ofNat k) (.ofNat 0) = false:=ilt_false (by omega)
     have e3 : call tabW n (d + 1 + 1 + 1) f51 [v,.func 52 [.ptr h.nx 0]] h0 = .ret (.bool true) h0:=by
      rw [call51]
      simp -implicitDefEqProofs only [sh51,↓e2,↓n2,↓evR]
     refine ⟨h0,false,?_,U0,fun e=>by cases e⟩
     rw [call37]
     simp -implicitDefEqProofs only [sh37,↓e0',↓ln,↓n1,↓e3,↓evR]
 · have n1 : ilt (.ofNat 12) (.ofNat zs.length) = true:=ilt_true (by omega)
   refine ⟨h0,false,?_,U0,fun e=>by cases e⟩
   rw [call37]
   simp -implicitDefEqProofs only [sh37,↓e0',↓ln,↓n1,↓evR]
theorem idx53_loop {hs : Heap} {A : Nat→Prop} {cs : List (List Int)} {v : V} {p0 : Bid} {N : Nat} (hn : 1000 ≤ n) (hA : ∀ x,A x→x < hs.nx.val) (w : CellA hs A (.sl 1 (cs.map fun c=>[.sl 1 (c.map zT)])) v) (hl : cs.length ≤ 1000000) (lp : p0.val < hs.nx.val) (r : Row (hs.t.get p0) 1 [ik N]) :
 ∀ (j : Nat) {i q : Nat} {h : Heap},i + j = cs.length→j < q→Up hs h→∃ x h',lpk (b53_1 words n (call tabW n (d + 1 + 1 + 1 + 1 + 1))) q [v,.func 39 [.ptr p0 0],I (.ofNat cs.length),I (.ofNat i)] h = .ret (I x) h'∧Up hs h'∧((x = .negSucc 0∧∀ c ∈ cs.drop i,Places N c) ∨ ∃ k,x = .ofNat k)
 | j,i,0,_,_,h0,_=>absurd h0 (Nat.not_lt_zero _)
 | 0,i,q + 1,h,hi,_,U=>by
   have n1 : ilt (.ofNat i) (.ofNat cs.length) = false:=ilt_false (by omega)
   refine ⟨.negSucc 0,h,?_,U,.inl ⟨rfl,by rw [List.drop_eq_nil_of_le (by omega)]; simp⟩⟩
   rw [lpk_succ]
   simp -implicitDefEqProofs only [b53_1,↓n1,↓evR]
 | j + 1,i,q + 1,h,hi,hq,U=>by
   have hik : i < cs.length:=by omega
   have wh:=w.mv (A':=A) (fun _ hx=>hx) fun b hb=>U.get b (hA _ hb)
   obtain ⟨b,o,m,l',e,rr,_,_,_,ld⟩:=wh.row (i:=i) (by simpa using hik)
   rw [List.getElem_map] at rr
   obtain ⟨vc,rfl,rc⟩:=rr.inv1
   rw [List.length_map] at e
   have a1 : ∀ q : V→Res,words.load1 h b (Nat.add o i) q = q vc:=fun k=>by
    have:=ld 0 _ rfl k
    rw [Nat.mul_one,Nat.add_zero] at this
    exact this
   have n1:=ilt_true hik
   have n2 : Nat.blt i cs.length = true:=blt_of hik
   have n3:=ad_nat (a:=i) (b:=1) (by omega)
   obtain ⟨h1,bb,e1,U1,hb⟩:=places_law (n:=n) (d:=d) (N:=N) hn rc (fun x hx=>Nat.lt_of_lt_of_le (hA x hx) U.nx)
   have c0 : ∀ q : V→Res,words.load1 h p0 0 q = q (ik N):=fun q=>load1k_law (r.later lp U) rfl q
   have e2 : call tabW n (d + 1 + 1 + 1 + 1 + 1) f39 [vc,.ptr p0 0] h = .ret (.bool (!bb)) h1:=by
    rw [call39]
    simp -implicitDefEqProofs only [sh39,↓c0,↓e1,↓evR]
   have cvv:=cv39 (call tabW n (d + 1 + 1 + 1 + 1 + 1)) [.ptr p0 0] vc h
   cases bb with
   | true=>
     obtain ⟨x,h2,e3,U2,hx⟩:=idx53_loop hn hA w hl lp r j (i:=i + 1) (q:=q) (h:=h1) (by omega) (by omega) (U.trans U1)
     refine ⟨x,h2,?_,U2,hx.imp (fun ⟨h1,h2⟩=>⟨h1,fun z hz'=>?_⟩) id⟩
     · rw [lpk_succ]
       subst e
       simp -implicitDefEqProofs only [b53_1,↓n1,↓n2,↓a1,↓cvv,↓e2,↓n3,↓e3,↓evR]
     · rw [List.drop_eq_getElem_cons hik] at hz'
       rcases List.mem_cons.1 hz' with rfl | hz'
       · exact hb rfl
       · exact h2 z hz'
   | false=>
     refine ⟨.ofNat i,h1,?_,U.trans U1,.inr ⟨i,rfl⟩⟩
     rw [lpk_succ]
     subst e
     simp -implicitDefEqProofs only [b53_1,↓n1,↓n2,↓a1,↓cvv,↓e2,↓evR]
def MayOk (x : Ra) (i N : Nat) : Prop:=(i < 2→x.kind = i + 1∧x.fields = []∧x.cases = [])∧(2 ≤ i→(x.kind = 3∧x.cases = []∧Places N x.fields) ∨ (x.kind = 4∧x.fields = []∧x.cases.length ≤ 64∧∀ c ∈ x.cases,Places N c))
theorem may_law {A : Nat→Prop} {x : Ra} {l : List V} {i N : Nat} (hn : 1000 ≤ n) (hx : x.kind < 256) (hf : x.fields.length ≤ 140737488351232) (hc : x.cases.length ≤ 140737488351232) (hi : i ≤ 1000) (w : RowA h A (raT x) l) (hA : ∀ y,A y→y < h.nx.val) :
 ∃ h' b,call tabW n (d + 1 + 1 + 1 + 1 + 1 + 1 + 1 + 1) f16 [.agg 3 l,ik i,ik N] h = .ret (.bool b) h'∧Up h h'∧(b = true→MayOk x i N):=by
 obtain ⟨v0,vf,vc,rfl,r0,rf,rc⟩:=RowA.inv3 (show RowA h A [_,_,_] l from w)
 obtain rfl:=r0.int_inv
 obtain ⟨h0,e0,row0,U0,lt0⟩:=new_row h (g:=3) (l:=[.int .u8 (.ofNat x.kind),vf,vc]) rfl (by omega)
 have e0' : ∀ q,words.new h (.arr 3 1 (.lf [.int .u8 (.ofNat x.kind),vf,vc]) .false) q = q h.nx h0:=e0
 obtain ⟨h1,e1,row1,U1,lt1⟩:=new_row h0 (g:=1) (l:=[ik N]) rfl (by omega)
 have e1' : ∀ q,words.new h0 (.arr 1 1 (.lf [ik N]) .false) q = q h0.nx h1:=e1
 have U01:=U0.trans U1
 have row0':=row0.later lt0 U1
 have c0 : ∀ q : V→Res,words.load1 h1 h.nx 0 q = q (.int .u8 (.ofNat x.kind)):=fun q=>load1k_law row0' rfl q
 have c1 : ∀ q : V→Res,words.load1 h1 h.nx 1 q = q vf:=fun q=>load1k_law row0' rfl q
 have c2 : ∀ q : V→Res,words.load1 h1 h.nx 2 q = q vc:=fun q=>load1k_law row0' rfl q
 have g0 : ∀ q : V→Res,words.load1 h1 h0.nx 0 q = q (ik N):=fun q=>load1k_law row1 rfl q
 have lf : ∀ q : Nat→Res,lenk vf q = q x.fields.length:=fun q=>by rw [rf.lenk,List.length_map]
 have lc : ∀ q : Nat→Res,lenk vc q = q x.cases.length:=fun q=>by rw [rc.lenk,List.length_map]
 have k3 : Nat.beq (kno .i64) 3 = true:=rfl
 have hA1 : ∀ y,A y→y < h1.nx.val:=fun y hy=>Nat.lt_of_lt_of_le (hA y hy) U01.nx
 have stA : ∀ {t : Tr} {v : V},CellA h A t v→CellA h1 A t v:=fun c=>c.mv (fun _ hx=>hx) fun b hb=>U01.get b (hA _ hb)
 have f0 : x.fields.length = 0 ↔ x.fields = []:=List.length_eq_zero_iff
 have g00 : x.cases.length = 0 ↔ x.cases = []:=List.length_eq_zero_iff
 by_cases hi2 : i < 2
 · have n1:=ilt_true hi2
   have n2 : wrapv .i64 (.ofNat x.kind) = .ofNat x.kind:=wrapv_small .i64 _ (small_i64 (by omega))
   have n3:=ad_nat (a:=i) (b:=1) (by omega)
   have n4 : wrapv .i64 (Int.add (.ofNat x.fields.length) (.ofNat x.cases.length)) = .ofNat (x.fields.length + x.cases.length):=wrapv_small .i64 (x.fields.length + x.cases.length) (small_i64 (by omega))
   by_cases a1 : x.kind = i + 1
   · have b1 : ieq (.ofNat x.kind) (.ofNat (i + 1)) = true:=by rw [ieq_nat]; simpa using a1
     by_cases a2 : x.fields.length + x.cases.length = 0
     · have b2 : ieq (.ofNat (x.fields.length + x.cases.length)) (.ofNat 0) = true:=by rw [ieq_nat]; simpa using a2
       refine ⟨h1,true,?_,U01,fun _=>⟨fun _=>⟨a1,f0.1 (by omega),g00.1 (by omega)⟩,fun h=>by omega⟩⟩
       rw [call16]
       simp -implicitDefEqProofs only [sh16,↓e0',↓e1',↓n1,↓c0,↓n2,↓n3,↓b1,↓c1,↓lf,↓c2,↓lc,↓n4,↓k3,↓b2,↓evR]
     · have b2 : ieq (.ofNat (x.fields.length + x.cases.length)) (.ofNat 0) = false:=by rw [ieq_nat]; simpa using a2
       refine ⟨h1,false,?_,U01,fun e=>by cases e⟩
       rw [call16]
       simp -implicitDefEqProofs only [sh16,↓e0',↓e1',↓n1,↓c0,↓n2,↓n3,↓b1,↓c1,↓lf,↓c2,↓lc,↓n4,↓k3,↓b2,↓evR]
   · have b1 : ieq (.ofNat x.kind) (.ofNat (i + 1)) = false:=by rw [ieq_nat]; simpa using a1
     refine ⟨h1,false,?_,U01,fun e=>by cases e⟩
     rw [call16]
     simp -implicitDefEqProofs only [sh16,↓e0',↓e1',↓n1,↓c0,↓n2,↓n3,↓b1,↓evR]
 · have n1:=ilt_false hi2
   by_cases a3 : x.kind = 3
   · have b3 : ieq (.ofNat x.kind) (.ofNat 3) = true:=by rw [ieq_nat]; simpa using a3
     by_cases a4 : x.cases.length = 0
     · have b4 : ieq (.ofNat x.cases.length) (.ofNat 0) = true:=by rw [ieq_nat]; simpa using g00.1 a4
       obtain ⟨h2,b,e2,U2,hb⟩:=places_law (n:=n) (d:=d + 1 + 1 + 1) (N:=N) hn (stA rf) hA1
       refine ⟨h2,b,?_,U01.trans U2,fun e=>⟨fun h=>by omega,fun _=>.inl ⟨a3,g00.1 a4,hb e⟩⟩⟩
       rw [call16]
       simp -implicitDefEqProofs only [sh16,↓e0',↓e1',↓n1,↓c0,↓b3,↓c2,↓lc,↓b4,↓c1,↓g0,↓e2,↓evR]
     · have b4 : ieq (.ofNat x.cases.length) (.ofNat 0) = false:=by rw [ieq_nat]; simpa using a4
       refine ⟨h1,false,?_,U01,fun e=>by cases e⟩
       rw [call16]
       simp -implicitDefEqProofs only [sh16,↓e0',↓e1',↓n1,↓c0,↓b3,↓c2,↓lc,↓b4,↓evR]
   · have b3 : ieq (.ofNat x.kind) (.ofNat 3) = false:=by rw [ieq_nat]; simpa using a3
     by_cases a4 : x.kind = 4
     · have b4 : ieq (.ofNat x.kind) (.ofNat 4) = true:=by rw [ieq_nat]; simpa using a4
       by_cases a5 : x.fields.length = 0
       · have b5 : ilt (.ofNat 0) (.ofNat x.fields.length) = false:=ilt_false (by omega)
         by_cases a6 : x.cases.length = 0
         · have b6 : ieq (.ofNat x.cases.length) (.ofNat 0) = true:=by rw [ieq_nat]; simpa using g00.1 a6
           refine ⟨h1,false,?_,U01,fun e=>by cases e⟩
           rw [call16]
           simp -implicitDefEqProofs only [sh16,↓e0',↓e1',↓n1,↓c0,↓b3,↓b4,↓c1,↓lf,↓k3,↓b5,↓c2,↓lc,↓b6,↓evR]
         · have b6 : ieq (.ofNat x.cases.length) (.ofNat 0) = false:=by rw [ieq_nat]; simpa using a6
           by_cases a7 : x.cases.length ≤ 64
           · have b7 : ilt (.ofNat 64) (.ofNat x.cases.length) = false:=ilt_false (by omega)
             obtain ⟨z,h2,e2,U2,hz⟩:=idx53_loop (n:=n) (d:=d) (N:=N) hn hA1 (stA rc) (by omega) lt1 row1 x.cases.length (i:=0) (q:=n) (h:=h1) (by omega) (by omega) (.refl _)
             have e3 : call tabW n (d + 1 + 1 + 1 + 1 + 1 + 1) f53 [vc,.func 39 [.ptr h0.nx 0]] h1 = .ret (I z) h2:=by
              rw [call53]
              simp -implicitDefEqProofs only [sh53,↓lc,↓e2,↓evR]
             rcases hz with ⟨rfl,hall⟩ | ⟨k,rfl⟩
             · have n2 : ilt (.negSucc 0) (.ofNat 0) = true:=rfl
               have e4 : call tabW n (d + 1 + 1 + 1 + 1 + 1 + 1 + 1) f38 [vc,.func 39 [.ptr h0.nx 0]] h1 = .ret (.bool false) h2:=by
                rw [call38]
                simp -implicitDefEqProofs only [sh38,↓e3,↓n2,↓evR]
               refine ⟨h2,true,?_,U01.trans U2,fun _=>⟨fun h=>by omega,fun _=>.inr ⟨a4,f0.1 a5,a7,by rw [List.drop_zero] at hall; exact hall⟩⟩⟩
               rw [call16]
               simp -implicitDefEqProofs only [sh16,↓e0',↓e1',↓n1,↓c0,↓b3,↓b4,↓c1,↓lf,↓k3,↓b5,↓c2,↓lc,↓b6,↓b7,↓e4,↓evR]
             · have n2 : ilt (.ofNat k) (.ofNat 0) = false:=ilt_false (by omega)
               have e4 : call tabW n (d + 1 + 1 + 1 + 1 + 1 + 1 + 1) f38 [vc,.func 39 [.ptr h0.nx 0]] h1 = .ret (.bool true) h2:=by
                rw [call38]
                simp -implicitDefEqProofs only [sh38,↓e3,↓n2,↓evR]
               refine ⟨h2,false,?_,U01.trans U2,fun e=>by cases e⟩
               rw [call16]
               simp -implicitDefEqProofs only [sh16,↓e0',↓e1',↓n1,↓c0,↓b3,↓b4,↓c1,↓lf,↓k3,↓b5,↓c2,↓lc,↓b6,↓b7,↓e4,↓evR]
           · have b7 : ilt (.ofNat 64) (.ofNat x.cases.length) = true:=ilt_true (by omega)
             refine ⟨h1,false,?_,U01,fun e=>by cases e⟩
             rw [call16]
             simp -implicitDefEqProofs only [sh16,↓e0',↓e1',↓n1,↓c0,↓b3,↓b4,↓c1,↓lf,↓k3,↓b5,↓c2,↓lc,↓b6,↓b7,↓evR]
       · have b5 : ilt (.ofNat 0) (.ofNat x.fields.length) = true:=ilt_true (by omega)
         refine ⟨h1,false,?_,U01,fun e=>by cases e⟩
         rw [call16]
         simp -implicitDefEqProofs only [sh16,↓e0',↓e1',↓n1,↓c0,↓b3,↓b4,↓c1,↓lf,↓k3,↓b5,↓evR]
     · have b4 : ieq (.ofNat x.kind) (.ofNat 4) = false:=by rw [ieq_nat]; simpa using a4
       refine ⟨h1,false,?_,U01,fun e=>by cases e⟩
       rw [call16]
       simp -implicitDefEqProofs only [sh16,↓e0',↓e1',↓n1,↓c0,↓b3,↓b4,↓evR]
end
end Go.Ev.WIB
