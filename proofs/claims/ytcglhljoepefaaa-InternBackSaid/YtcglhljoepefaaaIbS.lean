/- IbS: texts joined. -/
import Derived.Test.YtcglhljoepefaaaIbO
/- InternBack: New: a table without things. -/
namespace Go.Ev.WIB
open Go.Proofs
set_option maxRecDepth 100000
theorem toNat_list {zs : List Int} (h : ∀ z ∈ zs,0 ≤ z) : zs.map zT = (zs.map Int.toNat).map iT:=by
 rw [List.map_map]
 apply List.map_congr_left
 intro z hz
 have : z = .ofNat z.toNat:=(Int.toNat_of_nonneg (h z hz)).symm
 show zT z = iT z.toNat
 conv=>lhs; rw [this]
theorem MayOk.nn {x : Ra} {i N : Nat} (h : MayOk x i N) : (∀ z ∈ x.fields,0 ≤ z)∧(∀ c ∈ x.cases,∀ z ∈ c,0 ≤ z)∧x.fields.length ≤ 12∧x.cases.length ≤ 64∧∀ c ∈ x.cases,c.length ≤ 12:=by
 by_cases hi : i < 2
 · obtain ⟨_,h2,h3⟩:=h.1 hi
   rw [h2,h3]; simp
 · rcases h.2 (by omega) with ⟨_,h2,h3⟩ | ⟨_,h2,h4,h3⟩
   · rw [h2]
     exact ⟨fun z hz=>(h3.2 z hz).1,by simp,h3.1,by simp,by simp⟩
   · rw [h2]
     exact ⟨by simp,fun c hc z hz=>((h3 c hc).2 z hz).1,by simp,h4,fun c hc=>(h3 c hc).1⟩
section
variable {h : Heap} {n d : Nat}
theorem cases_loop {hs : Heap} {A : Nat→Prop} {cs : List (List Int)} {vc v0 v1 v15 v18 : V} {x4 x5 x6 : Int} {p3 : Bid} (hA : ∀ x,A x→x < hs.nx.val∧x ≠ p3.val) (lp : p3.val < hs.nx.val) (w : CellA hs A (.sl 1 (cs.map fun c=>[.sl 1 (c.map zT)])) vc) (hl : cs.length ≤ 64) (hc : ∀ c ∈ cs,c.length ≤ 12) :
 ∀ (j : Nat) {i q : Nat} {h : Heap} {v : V},i + j = cs.length→j < q→Old hs.nx.val p3 hs h→Row (h.t.get p3) 3 [v0,v1,v]→OwnT h hs.nx.val 1 v ((cs.take i).map fun c=>[.sl 1 (c.map zT)]) →
  ∃ h' v',lpk (b5_1 words n (call tabW n (d + 1))) q [I x4,v15,.ptr p3 0,v18,I x5,I x6,vc,I (.ofNat cs.length),I (.ofNat i)] h = .done .normal [I x4,v15,.ptr p3 0,v18,I x5,I x6] h'∧Old hs.nx.val p3 hs h'∧Row (h'.t.get p3) 3 [v0,v1,v']∧OwnT h' hs.nx.val 1 v' (cs.map fun c=>[.sl 1 (c.map zT)])
 | j,i,0,_,_,_,h0,_,_,_=>absurd h0 (Nat.not_lt_zero _)
 | 0,i,q + 1,h,v,hi,_,O,r,W=>by
   have n1 : ilt (.ofNat i) (.ofNat cs.length) = false:=ilt_false (by omega)
   refine ⟨h,v,?_,O,r,by rwa [List.take_of_length_le (by omega)] at W⟩
   rw [lpk_succ]
   simp -implicitDefEqProofs only [b5_1,↓n1,↓evR]
 | j + 1,i,q + 1,h,v,hi,hq,O,r,W=>by
   have hik : i < cs.length:=by omega
   have keep : ∀ b : Bid,A b.val→h.t.get b = hs.t.get b:=fun b hb=>O.get b (hA _ hb).1 (bid_ne (hA _ hb).2)
   have wh:=w.mv (A':=A) (fun _ hx=>hx) keep
   obtain ⟨b,o,m,l',e,rr,_,_,_,ld⟩:=wh.row (i:=i) (by simpa using hik)
   rw [List.getElem_map] at rr
   obtain ⟨vi,rfl,ri⟩:=rr.inv1
   rw [List.length_map] at e
   have a1 : ∀ q : V→Res,words.load1 h b (Nat.add o i) q = q vi:=fun k=>by
    have:=ld 0 _ rfl k
    rw [Nat.mul_one,Nat.add_zero] at this
    exact this
   have n1:=ilt_true hik
   have n2 : Nat.blt i cs.length = true:=blt_of hik
   have n3:=ad_nat (a:=i) (b:=1) (by omega)
   have lph : p3.val < h.nx.val:=Nat.lt_of_lt_of_le lp O.nx
   have c2 : ∀ q : V→Res,words.load1 h p3 2 q = q v:=fun q=>load1k_law r rfl q
   obtain ⟨h1,v1',e1,w1,U1⟩:=clone_ints (n:=n) (d:=d) ri (fun x hx=>Nat.lt_of_lt_of_le (hA x hx).1 O.nx) (by have:=hc _ (List.getElem_mem hik); omega)
   have r1:=r.later lph U1
   have c2' : ∀ q : V→Res,words.load1 h1 p3 2 q = q v:=fun q=>load1k_law r1 rfl q
   have pv1 : ∀ q : Nat→List V→Res,partsk v1' q = q 1 [v1']:=fun q=>w1.parts q
   obtain ⟨h2,e2,r2,U2,lt2⟩:=new_row h1 (g:=1) (l:=[v1']) rfl (by omega)
   have e2' : ∀ q,words.new h1 (.arr 1 1 (.lf [v1']) .false) q = q h1.nx h2:=e2
   have rr1 : ∀ q,words.row 1 1 [v1'] q = q (.lf [v1']):=fun q=>row_one (g:=1) rfl q
   have U12:=U1.trans U2
   have r2p:=r.later lph U12
   have c2'' : ∀ q : V→Res,words.load1 h2 p3 2 q = q v:=fun q=>load1k_law r2p rfl q
   have W2:=W.up U12
   obtain ⟨h3,v3,e3,W3,U3,nx3,m3,ev3⟩:=app_one (g:=1) (r:=[.sl 1 (cs[i].map zT)]) W2 (by omega) r2 rfl rfl (Nat.le_trans O.nx U12.nx)
    (.cons (w1.mv (fun x hx=>⟨Nat.le_trans O.nx hx.1,Nat.lt_of_lt_of_le hx.2 U2.nx,W.low (.inr hx.1)⟩) fun b hb=>U2.get b hb.2) .nil) (by rw [List.length_map,List.length_take]; omega)
   have W3' : OwnT h3 hs.nx.val 1 v3 ((cs.take (i + 1)).map fun c=>[.sl 1 (c.map zT)]):=by rw [List.take_succ_eq_append_getElem hik,List.map_append]; exact W3
   have o3 : ∀ rr : Res,onek v3 rr = rr:=fun rr=>W3.onek rr
   have offp : Off v p3.val:=W2.low (.inl lp)
   have rp3 : Row (h3.t.get p3) 3 [v0,v1,v]:=by
    rw [U3.get p3 (by have:=U12.nx; omega) offp]
    exact r2p
   obtain ⟨h4,e4,r4,B4⟩:=storek_law (o:=2) (n:=1) (vs:=[v3]) rp3 rfl (by simp)
   have e4' : ∀ q,words.store h3 p3 (Nat.add 0 2) 1 [v3] q = q h4:=e4
   have O4 : Old hs.nx.val p3 hs h4:=⟨by rw [B4.nx]; have:=U3.nx; have:=U12.nx; have:=O.nx; omega,fun b hb' hne=>by
    rw [B4.get b hne,U3.get b (by have:=U12.nx; have:=O.nx; omega) (W2.low (.inl hb')),U12.get b (by have:=O.nx; omega)]
    exact O.get b hb' hne⟩
   have W4 : OwnT h4 hs.nx.val 1 v3 ((cs.take (i + 1)).map fun c=>[.sl 1 (c.map zT)]):=W3'.keep (by rw [B4.nx]; exact Nat.le_refl _) fun b hb1 hb2=>B4.get b (by rintro rfl; omega)
   obtain ⟨h5,v5,e5,O5,r5,W5⟩:=cases_loop (v15:=v15) (v18:=v18) (x4:=x4) (x5:=x5) (x6:=x6) hA lp w hl hc j (i:=i + 1) (q:=q) (h:=h4) (v:=v3) (by omega) (by omega) O4 r4 W4
   refine ⟨h5,v5,?_,O5,r5,W5⟩
   rw [lpk_succ]
   subst e
   simp -implicitDefEqProofs only [b5_1,↓n1,↓n2,↓a1,↓c2,↓e1,↓c2',↓pv1,↓rr1,↓e2',↓c2'',↓e3,↓o3,↓e4',↓n3,↓e5,↓evR]
theorem shapes_loop {hs : Heap} {N : Nat} {ras : List Ra} {v8 vof : V} {p bm : Bid} (hn : 1000 ≤ n) (hN : ras.length = N) (hN2 : N ≤ 258) (lp : p.val < hs.nx.val) (B : Nat) (hB : B ≤ hs.nx.val) (hpB : B ≤ p.val) (w : CellA hs (fun x=>x < B) (.sl 3 (ras.map raT)) v8)
 (hk : ∀ x ∈ ras,x.kind < 256∧x.fields.length ≤ 140737488351232∧x.cases.length ≤ 140737488351232) :
 ∀ (j : Nat) {i q : Nat} {h : Heap} {v : V},i + j = N→j < q→Old hs.nx.val p hs h→Row (h.t.get p) 4 [.nils,vof,v,.map bm]→OwnT h hs.nx.val 3 v ((ras.take i).map fun x=>shT (raS x))→(∀ (k : Nat) (x : Ra),k < i→ras[k]? = some x→MayOk x k N) →
  ∃ h',Old hs.nx.val p hs h'∧(lpk (b5_2 words n (call tabW n (d + 1 + 1 + 1 + 1 + 1 + 1 + 1 + 1))) q [ik N,.ptr p 0,v8,ik N,I (.ofNat i)] h = .ret .nilp h' ∨
   (lpk (b5_2 words n (call tabW n (d + 1 + 1 + 1 + 1 + 1 + 1 + 1 + 1))) q [ik N,.ptr p 0,v8,ik N,I (.ofNat i)] h = .ret (.ptr p 0) h'∧(∀ (k : Nat) (x : Ra),ras[k]? = some x→MayOk x k N) ∧
     ∃ v',Row (h'.t.get p) 4 [.nils,vof,v',.map bm]∧OwnT h' hs.nx.val 3 v' (ras.map fun x=>shT (raS x))))
 | j,i,0,_,_,_,h0,_,_,_,_=>absurd h0 (Nat.not_lt_zero _)
 | 0,i,q + 1,h,v,hi,_,O,r,W,M=>by
   have n1 : ilt (.ofNat i) (.ofNat N) = false:=ilt_false (by omega)
   refine ⟨h,O,.inr ⟨?_,fun k x hx=>M k x (by have:=(List.getElem?_eq_some_iff.1 hx).1; omega) hx,v,r,by rwa [List.take_of_length_le (by omega)] at W⟩⟩
   rw [lpk_succ]
   simp -implicitDefEqProofs only [b5_2,↓n1,↓evR]
 | j + 1,i,q + 1,h,v,hi,hq,O,r,W,M=>by
   have hik : i < ras.length:=by omega
   have lph : p.val < h.nx.val:=Nat.lt_of_lt_of_le lp O.nx
   have keep : ∀ b : Bid,b.val < B→h.t.get b = hs.t.get b:=fun b hb=>O.get b (by omega) (bid_ne (by omega))
   have wh:=w.mv (A':=fun x=>x < B) (fun _ hx=>hx) keep
   obtain ⟨b,o,m,l,e,rl,hl3,_,ld,_⟩:=wh.row (i:=i) (by simpa using hik)
   rw [List.getElem_map] at rl
   rw [List.length_map,hN] at e
   have a1 : ∀ q : List V→Res,words.load h b (Nat.add o (Nat.mul i 3)) 3 q = q l:=ld
   have n1 : ilt (.ofNat i) (.ofNat N) = true:=ilt_true (by omega)
   have n2 : Nat.blt i N = true:=blt_of (by omega)
   have n3:=ad_nat (a:=i) (b:=1) (by omega)
   obtain ⟨h1,h2,e1,e2,r2,U2,lt2⟩:=new_store h (g:=3) (z:=[uk 0,.nils,.nils]) (l:=l) rfl hl3 (by omega)
   have e1' : ∀ q,words.new h (.arr 3 1 (repT [uk 0,.nils,.nils] 1 1) .false) q = q h.nx h1:=e1
   have e2' : ∀ q,words.store h1 h.nx 0 3 l q = q h2:=e2
   have l2 : ∀ q : List V→Res,words.load h2 h.nx 0 3 q = q l:=fun q=>by
    have:=loadk_law r2 (o:=0) (n:=3) (by omega) q
    rw [List.drop_zero,List.take_of_length_le (by omega)] at this
    exact this
   have hBh : ∀ y,y < B→y < h.nx.val:=fun y hy=>by have:=O.nx; omega
   have rl2 : RowA h2 (fun x=>x < B) (raT ras[i]) l:=rl.mv (fun _ hx=>hx) fun b hb=>U2.get b (hBh _ hb)
   obtain ⟨hk1,hk2,hk3⟩:=hk _ (List.getElem_mem hik)
   obtain ⟨h3,bb,e3,U3,hbb⟩:=may_law (n:=n) (d:=d) (N:=N) (i:=i) hn hk1 hk2 hk3 (by omega) rl2 (fun y hy=>Nat.lt_of_lt_of_le (hBh y hy) U2.nx)
   have U23:=U2.trans U3
   have oldU : ∀ {h' : Heap},Up h h'→Old hs.nx.val p hs h':=fun U=>⟨Nat.le_trans O.nx U.nx,fun b hb hne=>(U.get b (by have:=O.nx; omega)).trans (O.get b hb hne)⟩
   cases bb with
   | false=>
     refine ⟨h3,oldU U23,.inl ?_⟩
     rw [lpk_succ]
     subst e
     simp -implicitDefEqProofs only [b5_2,↓n1,↓n2,↓a1,↓e1',↓e2',↓l2,↓e3,↓evR]
   | true=>
     have may:=hbb rfl
     obtain ⟨nn1,nn2,len1,len2,len3⟩:=may.nn
     obtain ⟨v0,vf,vc,rfl,r0,rf,rc⟩:=RowA.inv3 (show RowA h (fun x=>x < B) [_,_,_] l from rl)
     obtain rfl:=r0.int_inv
     have r3:=r2.later lt2 U3
     obtain ⟨h4,e4,r4',u4⟩:=newk_law h3 (.arr 3 1 (repT [uk 0,.nils,.nils] 1 1) false)
     have e4' : ∀ q,words.new h3 (.arr 3 1 (repT [uk 0,.nils,.nils] 1 1) .false) q = q h3.nx h4:=e4
     have U4:=u4.up
     have r4 : Row (h4.t.get h3.nx) 3 [uk 0,.nils,.nils]:=by
      rw [r4']
      exact Row.rep [uk 0,.nils,.nils] (by simp) 1
     have U24:=U23.trans U4
     have lt3:=Nat.lt_of_lt_of_le lt2 U3.nx
     have r24:=r3.later lt3 U4
     have c0 : ∀ q : V→Res,words.load1 h4 h.nx 0 q = q (.int .u8 (.ofNat ras[i].kind)):=fun q=>load1k_law r24 rfl q
     have c1 : ∀ q : V→Res,words.load1 h4 h.nx 1 q = q vf:=fun q=>load1k_law r24 rfl q
     have rf4 : CellA h4 (fun x=>x < B) (.sl 1 (ras[i].fields.map zT)) vf:=rf.mv (fun _ hx=>hx) fun b hb=>U24.get b (hBh _ hb)
     obtain ⟨h5,v5,e5,w5,U5⟩:=clone_ints (n:=n) (d:=d + 1 + 1 + 1 + 1 + 1 + 1 + 1) rf4 (fun y hy=>Nat.lt_of_lt_of_le (hBh y hy) U24.nx) (by omega)
     have lt4:=Nat.lt_of_lt_of_le lt3 U4.nx
     have r25:=r24.later lt4 U5
     have c0' : ∀ q : V→Res,words.load1 h5 h.nx 0 q = q (.int .u8 (.ofNat ras[i].kind)):=fun q=>load1k_law r25 rfl q
     have pv5 : ∀ q : Nat→List V→Res,partsk v5 q = q 1 [v5]:=fun q=>w5.parts q
     have lt34 : h3.nx.val < h4.nx.val:=u4.lt
     have r45:=r4.later lt34 U5
     obtain ⟨h6,e6,r6,B6⟩:=storek_law (o:=0) (n:=3) (vs:=[.int .u8 (.ofNat ras[i].kind),v5,.nils]) r45 rfl (by simp)
     have e6' : ∀ q,words.store h5 h3.nx 0 3 [.int .u8 (.ofNat ras[i].kind),v5,.nils] q = q h6:=e6
     have r6' : Row (h6.t.get h3.nx) 3 [.int .u8 (.ofNat ras[i].kind),v5,.nils]:=r6
     have U25:=U24.trans U5
     have U6 : Up h h6:=⟨by rw [B6.nx]; exact U25.nx,fun b hb=>by rw [B6.get b (bid_ne (by have:=U23.nx; omega))]; exact U25.get b hb⟩
     have lt36 : h3.nx.val < h6.nx.val:=by rw [B6.nx]; exact Nat.lt_of_lt_of_le lt34 U5.nx
     have hne23 : h.nx ≠ h3.nx:=bid_ne (by omega)
     have r26 : Row (h6.t.get h.nx) 3 [.int .u8 (.ofNat ras[i].kind),vf,vc]:=by rw [B6.get _ hne23]; exact r25
     have c2 : ∀ q : V→Res,words.load1 h6 h.nx 2 q = q vc:=fun q=>load1k_law r26 rfl q
     have lc : ∀ q : Nat→Res,lenk vc q = q ras[i].cases.length:=fun q=>by rw [rc.lenk,List.length_map]
     have rc6 : CellA h6 (fun x=>x < B) (.sl 1 (ras[i].cases.map fun c=>[.sl 1 (c.map zT)])) vc:=rc.mv (fun _ hx=>hx) fun b hb=>U6.get b (hBh _ hb)
     obtain ⟨h7,v7,e7,O7,r7,W7⟩:=cases_loop (n:=n) (d:=d + 1 + 1 + 1 + 1 + 1 + 1 + 1) (v15:=.ptr p 0) (v18:=v8) (x4:=.ofNat N) (x5:=.ofNat N) (x6:=.ofNat i) (p3:=h3.nx) (hs:=h6) (fun y hy=>⟨Nat.lt_of_lt_of_le (hBh y hy) U6.nx,by have:=hBh y hy; have:=U23.nx; omega⟩) lt36 rc6 (by omega) len3 ras[i].cases.length (i:=0) (q:=n) (h:=h6) (v:=.nils) (by omega) (by omega) (.refl _ _ _) r6' .nils
     have U7 : Up h h7:=⟨Nat.le_trans U6.nx O7.nx,fun b hb=>(O7.get b (Nat.lt_of_lt_of_le hb U6.nx) (bid_ne (by have:=U23.nx; omega))).trans (U6.get b hb)⟩
     have rp7:=r.later lph U7
     have g2 : ∀ q : V→Res,words.load1 h7 p 2 q = q v:=fun q=>load1k_law rp7 rfl q
     have l7 : ∀ q : List V→Res,words.load h7 h3.nx 0 3 q = q [.int .u8 (.ofNat ras[i].kind),v5,v7]:=fun q=>loadk_law r7 (by simp) q
     obtain ⟨h8,e8,r8,U8,lt8⟩:=new_row h7 (g:=3) (l:=[.int .u8 (.ofNat ras[i].kind),v5,v7]) rfl (by omega)
     have e8' : ∀ q,words.new h7 (.arr 3 1 (.lf [.int .u8 (.ofNat ras[i].kind),v5,v7]) .false) q = q h7.nx h8:=e8
     have rr8 : ∀ q,words.row 3 1 [.int .u8 (.ofNat ras[i].kind),v5,v7] q = q (.lf [.int .u8 (.ofNat ras[i].kind),v5,v7]):=fun q=>row_one (g:=3) rfl q
     have U78:=U7.trans U8
     have rp8:=r.later lph U78
     have g2' : ∀ q : V→Res,words.load1 h8 p 2 q = q v:=fun q=>load1k_law rp8 rfl q
     have lt37 : h3.nx.val < h7.nx.val:=Nat.lt_of_lt_of_le lt36 O7.nx
     have r78:=r7.later lt37 U8
     have l8 : ∀ q : List V→Res,words.load h8 h3.nx 0 3 q = q [.int .u8 (.ofNat ras[i].kind),v5,v7]:=fun q=>loadk_law r78 (by simp) q
     have W8:=W.up U78
     have wf8 : CellA h8 (fun x=>hs.nx.val ≤ x∧x < h8.nx.val∧Off v x) (.sl 1 ((ras[i].fields.map Int.toNat).map iT)) v5:=by
      rw [← toNat_list nn1]
      have h65 : h6.nx.val = h5.nx.val:=by rw [B6.nx]
      refine w5.mv (fun x hx=>⟨by have:=U24.nx; have:=O.nx; omega,by have:=O7.nx; have:=U8.nx; omega,W.low (.inr (by have:=U24.nx; omega))⟩) fun b hb=>?_
      have hb1 : b.val < h6.nx.val:=by rw [B6.nx]; exact hb.2
      have hne : b ≠ h3.nx:=bid_ne (by omega)
      rw [U8.get b (Nat.lt_of_lt_of_le hb1 O7.nx),O7.get b hb1 hne,B6.get b hne]
     have wc8 : CellA h8 (fun x=>hs.nx.val ≤ x∧x < h8.nx.val∧Off v x) (.sl 1 (((ras[i].cases.map fun c=>c.map Int.toNat)).map fun c=>[.sl 1 (c.map iT)])) v7:=by
      have ec : ((ras[i].cases.map fun c=>c.map Int.toNat)).map (fun c=>[Tr.sl 1 (c.map iT)]) = ras[i].cases.map fun c=>[.sl 1 (c.map zT)]:=by
       rw [List.map_map]
       apply List.map_congr_left
       intro c hc
       show [Tr.sl 1 ((c.map Int.toNat).map iT)] = _
       rw [← toNat_list (nn2 c hc)]
      rw [ec]
      exact W7.cell.mv (fun x hx=>⟨by have:=U6.nx; have:=O.nx; omega,by have:=U8.nx; omega,W.low (.inr (by have:=U6.nx; omega))⟩) fun b hb=>U8.get b hb.2
     obtain ⟨h9,v9,e9,W9,U9,nx9,m9,ev9⟩:=app_one (g:=3) (r:=shT (raS ras[i])) W8 (by omega) r8 rfl rfl (by have:=U78.nx; have:=O.nx; omega)
      (.cons (.i _ _) (.cons wf8 (.cons wc8 .nil))) (by rw [List.length_map,List.length_take]; omega)
     have W9' : OwnT h9 hs.nx.val 3 v9 ((ras.take (i + 1)).map fun x=>shT (raS x)):=by rw [List.take_succ_eq_append_getElem hik,List.map_append]; exact W9
     have o9 : ∀ rr : Res,onek v9 rr = rr:=fun rr=>W9.onek rr
     have offp : Off v p.val:=W8.low (.inl lp)
     have rp9 : Row (h9.t.get p) 4 [.nils,vof,v,.map bm]:=by
      rw [U9.get p (by have:=U78.nx; omega) offp]
      exact rp8
     obtain ⟨h10,e10,r10,B10⟩:=storek_law (o:=2) (n:=1) (vs:=[v9]) rp9 rfl (by simp)
     have e10' : ∀ q,words.store h9 p (Nat.add 0 2) 1 [v9] q = q h10:=e10
     have O10 : Old hs.nx.val p hs h10:=⟨by rw [B10.nx]; have:=U9.nx; have:=U78.nx; have:=O.nx; omega,fun b hb' hne=>by
      rw [B10.get b hne,U9.get b (by have:=U78.nx; have:=O.nx; omega) (W8.low (.inl hb')),U78.get b (by have:=O.nx; omega)]
      exact O.get b hb' hne⟩
     have W10 : OwnT h10 hs.nx.val 3 v9 ((ras.take (i + 1)).map fun x=>shT (raS x)):=W9'.keep (by rw [B10.nx]; exact Nat.le_refl _) fun b hb1 hb2=>B10.get b (by rintro rfl; omega)
     have ap : ∀ q : List V→Res,appk [.int .u8 (.ofNat ras[i].kind),v5,v7] [] q = q [.int .u8 (.ofNat ras[i].kind),v5,v7]:=fun q=>by rw [appk_eq,List.append_nil]
     have ap2 : ∀ q : List V→Res,appk [v5] [.nils] q = q [v5,.nils]:=fun q=>rfl
     obtain ⟨h11,O11,res⟩:=shapes_loop hn hN hN2 lp B hB hpB w hk j (i:=i + 1) (q:=q) (h:=h10) (v:=v9) (by omega) (by omega) O10 r10 W10 (fun k x hk hx=>by
      by_cases hki : k = i
      · subst hki
        rw [List.getElem?_eq_getElem hik] at hx
        cases hx
        exact may
      · exact M k x (by omega) hx)
     have step : ∀ R : Res,lpk (b5_2 words n (call tabW n (d + 1 + 1 + 1 + 1 + 1 + 1 + 1 + 1))) q [ik N,.ptr p 0,v8,ik N,I (.ofNat (i + 1))] h10 = R→lpk (b5_2 words n (call tabW n (d + 1 + 1 + 1 + 1 + 1 + 1 + 1 + 1))) (q + 1) [ik N,.ptr p 0,v8,ik N,I (.ofNat i)] h = R:=fun R hR=>by
      rw [lpk_succ]
      subst e
      simp -implicitDefEqProofs only [b5_2,↓n1,↓n2,↓a1,↓e1',↓e2',↓l2,↓e3,↓e4',↓c0,↓c1,↓e5,↓c0',↓pv5,↓e6',↓c2,↓lc,↓e7,↓g2,↓l7,↓rr8,↓e8',↓g2',↓l8,↓e9,↓o9,↓e10',↓n3,↓hR,↓evR]
     exact ⟨h11,O11,res.imp (step _) fun ⟨x1,x2⟩=>⟨step _ x1,x2⟩⟩
end
end Go.Ev.WIB

/- InternBack: New; the first loop. -/
namespace Go.Ev.WIB
open Go.Proofs
set_option maxRecDepth 100000
theorem raS_get {ras : List Ra} {s : Nat} {x : Sh} (h : (ras.map raS)[s]? = some x) : ∃ r,ras[s]? = some r∧x = raS r:=by
 rw [List.getElem?_map] at h
 obtain ⟨r,h1,h2⟩:=Option.map_eq_some_iff.1 h
 exact ⟨r,h1,h2.symm⟩
theorem shsOk {ras : List Ra} (h1 : 2 ≤ ras.length) (h2 : ras.length ≤ 258) (M : ∀ (k : Nat) (x : Ra),ras[k]? = some x→MayOk x k ras.length) : ShsOk (ras.map raS):=by
 have kd : ∀ {s : Nat} {r : Ra},ras[s]? = some r→kindOf (ras.map raS) s = r.kind:=fun {s r} hr=>by
  unfold kindOf
  rw [List.getElem?_map,hr]
  rfl
 have g : ∀ s,s < ras.length→∃ r,ras[s]? = some r:=fun s hs=>⟨_,List.getElem?_eq_getElem hs⟩
 refine ⟨by rw [List.length_map]; omega,?_,?_,?_,?_⟩
 · obtain ⟨r,hr⟩:=g 0 (by omega)
   rw [kd hr]
   exact ((M 0 r hr).1 (by omega)).1
 · obtain ⟨r,hr⟩:=g 1 (by omega)
   rw [kd hr]
   exact ((M 1 r hr).1 (by omega)).1
 · intro s hs2 hs
   obtain ⟨r,hr⟩:=g s (by rw [List.length_map] at hs; exact hs)
   rw [kd hr]
   exact ((M s r hr).2 hs2).imp (·.1) (·.1)
 · intro s b l hw
   unfold wantOf at hw
   split at hw
   · rename_i x hx
     obtain ⟨r,hr,rfl⟩:=raS_get hx
     have m:=M s r hr
     obtain ⟨nn1,nn2,len1,len2,len3⟩:=m.nn
     have pl : ∀ zs : List Int,Places ras.length zs→∀ a ∈ zs.map Int.toNat,a < (ras.map raS).length:=fun zs hp a ha=>by
      obtain ⟨z,hz,rfl⟩:=List.mem_map.1 ha
      have:=hp.2 z hz
      rw [List.length_map]
      omega
     split at hw
     · rename_i h3
       split at hw
       · rename_i hb
         cases hw
         refine ⟨by show (r.fields.map Int.toNat).length ≤ 12; rw [List.length_map]; exact len1,?_,by omega⟩
         show ∀ a ∈ r.fields.map Int.toNat,_
         by_cases hs : s < 2
         · rw [(m.1 hs).2.1]; simp
         · rcases m.2 (by omega) with ⟨_,_,h5⟩ | ⟨h4,_⟩
           · exact pl _ h5
           · have h3' : r.kind = 3:=h3
             omega
       · cases hw
     · split at hw
       · cases b with
         | negSucc b=>cases hw
         | ofNat b=>
           have hw' : (r.cases.map fun c=>c.map Int.toNat)[b]? = some l:=hw
           rw [List.getElem?_map] at hw'
           obtain ⟨cs,hc,rfl⟩:=Option.map_eq_some_iff.1 hw'
           have hbl:=(List.getElem?_eq_some_iff.1 hc).1
           have hcm:=List.mem_of_getElem? hc
           refine ⟨by rw [List.length_map]; exact len3 _ hcm,?_,by show (b : Int) ≤ 64; omega⟩
           by_cases hs : s < 2
           · rw [(m.1 hs).2.2] at hcm; simp at hcm
           · rcases m.2 (by omega) with ⟨_,h5,_⟩ | ⟨_,_,_,h5⟩
             · rw [h5] at hcm; simp at hcm
             · exact pl _ (h5 _ hcm)
       · cases hw
   · cases hw
section
variable {h : Heap} {n d : Nat}
theorem make_nils (h : Heap) {m : Nat} (hm : m ≤ 16777216) : ∃ h',(∀ q : V→Heap→Res,words.make 1 [.nils] (ik m) (ik m) h q = q (.slice h.nx 0 m (some m) 1) h')∧Row (h'.t.get h.nx) 1 (List.replicate m .nils)∧Up h h'∧h'.nx.val = h.nx.val + 1:=by
 obtain ⟨h',e,r,u⟩:=newk_law h (.arr 1 m (repT [.nils] m m) false)
 refine ⟨h',fun q=>?_,?_,u.up,by rw [u.nx,Bid.nxt_val]⟩
 · show ifk (Nat.ble m m) (ifk (Nat.ble m 16777216) (h.newk (.arr 1 m (repT [.nils] m m) false) fun bb h'=>q (.slice bb 0 m (some m) 1) h') .fail) .fail = _
   rw [ble_of (Nat.le_refl _),ifk_true,ble_of hm,ifk_true]
   exact e _
 · have:=Row.rep [V.nils] (by simp) m
   rw [r]
   have e : (List.replicate m [V.nils]).flatten = List.replicate m .nils:=by
    induction m with
    | zero=>rfl
    | succ m ih=>simp [List.replicate_succ]
   rw [e] at this
   exact this
theorem new_law {ras : List Ra} {v0 : V} (hn : 1000 ≤ n) (hl : ras.length ≤ 140737488351232) (w : CellA h (fun x=>x < h.nx.val) (.sl 3 (ras.map raT)) v0) (hk : ∀ x ∈ ras,x.kind < 256∧x.fields.length ≤ 140737488351232∧x.cases.length ≤ 140737488351232) :
 ∃ h',Up h h'∧(call tabW n (d + 1 + 1 + 1 + 1 + 1 + 1 + 1 + 1 + 1) f5 [v0] h = .ret .nilp h' ∨
  ∃ p S,call tabW n (d + 1 + 1 + 1 + 1 + 1 + 1 + 1 + 1 + 1) f5 [v0] h = .ret (.ptr p 0) h'∧TabR h' p (ras.map raS) [] S (fun _=>False)∧ShsOk (ras.map raS)∧∀ x,S x→h.nx.val ≤ x):=by
 have ln : ∀ q : Nat→Res,lenk v0 q = q ras.length:=fun q=>by rw [w.lenk,List.length_map]
 have k3 : Nat.beq (kno .i64) 3 = true:=rfl
 by_cases h2 : ras.length < 2
 · have n1:=ilt_true h2
   refine ⟨h,.refl _,.inl ?_⟩
   rw [call5]
   simp -implicitDefEqProofs only [sh5,↓ln,↓n1,↓evR]
 · have n1:=ilt_false h2
   by_cases h3 : 258 < ras.length
   · have n2:=ilt_true h3
     refine ⟨h,.refl _,.inl ?_⟩
     rw [call5]
     simp -implicitDefEqProofs only [sh5,↓ln,↓n1,↓k3,↓n2,↓evR]
   · have n2:=ilt_false h3
     obtain ⟨h1,e1,r1,U1,nx1⟩:=make_nils h (m:=ras.length) (by omega)
     obtain ⟨h2',e2,m2,U2,nx2⟩:=mkm_law h1
     obtain ⟨h3',e3,r3,U3,lt3⟩:=new_row h2' (g:=4) (l:=[.nils,.slice h.nx 0 ras.length (some ras.length) 1,.nils,.map h1.nx]) rfl (by omega)
     have e3' : ∀ q,words.new h2' (.arr 4 1 (.lf [.nils,.slice h.nx 0 ras.length (some ras.length) 1,.nils,.map h1.nx]) .false) q = q h2'.nx h3':=e3
     have U12:=U1.trans U2
     have U13:=U12.trans U3
     obtain ⟨h4,O4,res⟩:=shapes_loop (n:=n) (d:=d) (vof:=.slice h.nx 0 ras.length (some ras.length) 1) (v8:=v0) (p:=h2'.nx) (bm:=h1.nx) (hs:=h3') (N:=ras.length) (ras:=ras) hn rfl (by omega) lt3 h.nx.val U13.nx U12.nx (w.mv (fun _ hx=>hx) fun b hb=>U13.get b hb) hk ras.length (i:=0) (q:=n) (h:=h3') (v:=.nils) (by omega) (by omega) (.refl _ _ _) r3 .nils (fun k x hk=>by omega)
     have U4 : Up h h4:=⟨Nat.le_trans U13.nx O4.nx,fun b hb=>(O4.get b (Nat.lt_of_lt_of_le hb U13.nx) (bid_ne (by have:=U12.nx; omega))).trans (U13.get b hb)⟩
     have run : ∀ R : Res,lpk (b5_2 words n (call tabW n (d + 1 + 1 + 1 + 1 + 1 + 1 + 1 + 1))) n [ik ras.length,.ptr h2'.nx 0,v0,ik ras.length,ik 0] h3' = R→call tabW n (d + 1 + 1 + 1 + 1 + 1 + 1 + 1 + 1 + 1) f5 [v0] h = R:=fun R hR=>by
      have pm : ∀ q : Nat→List V→Res,partsk (.map h1.nx) q = q 1 [.map h1.nx]:=fun q=>rfl
      rw [call5]
      simp -implicitDefEqProofs only [sh5,↓ln,↓n1,↓k3,↓n2,↓e1,↓e2,↓pm,↓e3',↓hR,↓evR]
     refine ⟨h4,U4,res.imp (run _) fun ⟨x1,M,v',r4,W4⟩=>?_⟩
     have hp1 : h2'.nx.val = h1.nx.val + 1:=nx2
     have lt4 : h3'.nx.val ≤ h4.nx.val:=O4.nx
     have cm : ∀ v ∈ List.replicate ras.length V.nils,v = V.nils:=fun v hv=>(List.mem_replicate.1 hv).2
     refine ⟨h2'.nx,Sof h2'.nx h.nx h1.nx .nils (List.replicate ras.length .nils),run _ x1,⟨h.nx,h1.nx,some ras.length,.nils,v',List.replicate ras.length .nils,[],?_⟩,shsOk (by omega) (by omega) M,?_⟩
     · refine ⟨by rw [List.length_replicate]; exact r4,?_,by rw [List.length_replicate,List.length_map],.nils,rfl,fun i t v hi=>by simp at hi,?_,?_,?_,fun x hx=>hx.elim,by omega,by omega,⟨off_nils _,off_nils _,off_nils _⟩,fun v hv=>by rw [cm v hv]; exact ⟨off_nils _,off_nils _,off_nils _,fun x=>.inl (off_nils _)⟩,fun s s' v v' h1 h2 _=>by rw [cm v (List.mem_of_getElem? h1)]; exact fun x=>.inl (off_nils _),fun x=>Iff.rfl⟩
       · rw [O4.get h.nx (by omega) (bid_ne (by omega)),U3.get h.nx (by omega),U2.get h.nx (by omega)]
         exact r1
       · intro s v hv
         rw [cm v (List.mem_of_getElem? hv)]
         exact .nils
       · refine m2.keep ?_
         rw [O4.get h1.nx (by omega) (bid_ne (by omega)),U3.get h1.nx (by omega)]
       · have:=W4.cell
         rw [show (ras.map fun x=>shT (raS x)) = (ras.map raS).map shT by rw [List.map_map]; rfl] at this
         exact this.mv (fun x hx=>⟨hx.2,fun e=>e.elim (fun e=>by
          rcases e with e | e | e | e | ⟨u,hu,e⟩
          · omega
          · omega
          · omega
          · exact e (off_nils _)
          · rw [cm u hu] at e; exact e (off_nils _)) id⟩) fun _ _=>rfl
     · intro x hx
       rcases hx with e | e | e | e | ⟨u,hu,e⟩
       · omega
       · omega
       · omega
       · exact absurd (off_nils _) e
       · rw [cm u hu] at e; exact absurd (off_nils _) e
theorem TabR.turnX {p : Bid} {sh : List Sh} {L : List Th} {S X X' : Nat→Prop} (w : TabR h p sh L S X) {h' : Heap} (u : Chg X h h') (hx : ∀ x,X' x→x < h'.nx.val∧(X x ∨ h.nx.val ≤ x)) : TabR h' p sh L S X':=by
 obtain ⟨bo,bm,c,va,vs,cells,pv,wx⟩:=w
 have nx : ∀ x,S x→¬ X x:=fun x hs hx=>(wx.xs x hx).2 hs
 have m:=fun x e=>(wx.mem x).2 e
 have st : ∀ x,Still h (SX S X) x→Still h' (SX S X') x:=fun x hs=>⟨Nat.lt_of_lt_of_le hs.1 u.nx,fun e=>e.elim (fun e=>hs.2 (.inl e)) fun e=>(hx x e).2.elim (fun e=>hs.2 (.inr e)) fun e=>by have:=hs.1; omega⟩
 refine ⟨bo,bm,c,va,vs,cells,pv,u.row wx.row wx.lt.1 (nx _ (m _ (.inl rfl))),u.row wx.of wx.lt.2.1 (nx _ (m _ (.inr (.inl rfl)))),wx.len,wx.all.chg u fun x hx=>Classical.byContradiction fun e=>nx x (m x (.inr (.inr (.inr (.inl e))))) hx,wx.pl,?_,?_,wx.map.keep (u.get bm wx.lt.2.2 (nx _ (m _ (.inr (.inr (.inl rfl)))))),?_,?_,?_,wx.ne,wx.oa,wx.oc,wx.occ,wx.mem⟩
 · exact fun i t v e1 e2=>(wx.parts i t v e1 e2).mv st fun b hb=>u.get b hb.1 fun e=>hb.2 (.inr e)
 · exact fun s v hv=>(wx.idx s v hv).chg u fun x hx=>Classical.byContradiction fun e=>nx x (m x (.inr (.inr (.inr (.inr ⟨v,List.mem_of_getElem? hv,e⟩))))) hx
 · exact wx.shp.mv st fun b hb=>u.get b hb.1 fun e=>hb.2 (.inr e)
 · exact fun x hx'=>⟨(hx x hx').1,fun e=>(hx x hx').2.elim (fun e2=>(wx.xs x e2).2 e) fun e2=>by have:=wx.lts e; omega⟩
 · have:=u.nx
   obtain ⟨h1,h2,h3⟩:=wx.lt
   exact ⟨by omega,by omega,by omega⟩
end
end Go.Ev.WIB

/- InternBack: the law itself. -/
namespace Go.Ev.WIB
open Go.Proofs
set_option maxRecDepth 100000
def XX (vi vk : V) (x : Nat) : Prop:=¬ Off vi x ∨ ¬ Off vk x
structure LS (N : Nat) (h0 h : Heap) (p : Bid) (sh : List Sh) (L : List Th) (S : Nat→Prop) (vals : List (List Tr)) (s : Int) (vi vk : V) (ids : List Nat) (kr : List (List Tr)) (kc : List (List V)) : Prop where
 tab : TabR h p sh L S (XX vi vk)
 good : Good sh L
 hi : Hld h 1 vi (ids.map uV)
 hk : Hld h 4 vk kc.flatten
 k4 : ∀ c ∈ kc,c.length = 4
 ap : Apart vi vk
 len1 : kr.length = ids.length
 len2 : kc.length = ids.length
 mem : ∀ r ∈ kr,r ∈ vals∧wvRow r ≤ 199
 row : ∀ (j : Nat) (r : List Tr) (c : List V),kr[j]? = some r→kc[j]? = some c→RowA h0 (fun x=>x < N) r c
 den : ∀ (j w : Nat) (r : List Tr),ids[j]? = some w→kr[j]? = some r→w < 18446744073709551616∧∃ s',s = .ofNat s'∧Den sh L s' w r
 up : UpTo N h0 h
 lo : ∀ x,S x ∨ XX vi vk x→N ≤ x
theorem flat4 : ∀ {kc : List (List V)},(∀ c ∈ kc,c.length = 4)→kc.flatten.length = kc.length * 4
 | [],_=>rfl
 | c :: kc,h=>by
   have:=flat4 (kc:=kc) fun c hc=>h c (by simp [hc])
   rw [List.flatten_cons,List.length_append,this,h c (by simp),List.length_cons]
   omega
theorem flat4_at : ∀ {kc : List (List V)} {i : Nat} {c : List V},(∀ c ∈ kc,c.length = 4)→kc[i]? = some c→(kc.flatten.drop (i * 4)).take 4 = c
 | [],i,c,_,h=>by simp at h
 | x :: kc,0,c,h4,h=>by
   simp at h; subst h
   have:=h4 x (by simp)
   rw [List.flatten_cons,Nat.zero_mul,List.drop_zero,List.take_append_of_le_length (by omega),List.take_of_length_le (by omega)]
 | x :: kc,i + 1,c,h4,h=>by
   have hx:=h4 x (by simp)
   rw [List.flatten_cons,show (i + 1) * 4 = x.length + i * 4 by omega,List.drop_append,List.drop_eq_nil_of_le (by omega),List.nil_append,Nat.add_sub_cancel_left]
   exact flat4_at (fun c hc=>h4 c (by simp [hc])) (by simpa using h)
section
variable {N : Nat} {h0 h : Heap} {p : Bid} {sh : List Sh} {L : List Th} {S : Nat→Prop} {vals : List (List Tr)} {s : Int} {vi vk : V} {ids : List Nat} {kr : List (List Tr)} {kc : List (List V)} {n d : Nat}
theorem LS.up' (w : LS N h0 h p sh L S vals s vi vk ids kr kc) {h' : Heap} (u : Up h h') (hN : N ≤ h.nx.val) : LS N h0 h' p sh L S vals s vi vk ids kr kc:=
 ⟨w.tab.up u,w.good,w.hi.up u,w.hk.up u,w.k4,w.ap,w.len1,w.len2,w.mem,w.row,w.den,w.up.trans (u.to hN),w.lo⟩
theorem LS.id_at (w : LS N h0 h p sh L S vals s vi vk ids kr kc) {i : Nat} (hi : i < ids.length) : ∃ b,vi = .slice b 0 ids.length none 1∧b.val < h.nx.val∧∀ q,words.load1 h b (Nat.add 0 i) q = q (uV ids[i]):=by
 obtain ⟨b,e,hb,_,ld⟩:=w.hi.at_ (g:=1) (m:=ids.length) (by omega) (by rw [List.length_map,Nat.mul_one]) hi
 refine ⟨b,e,hb,fun q=>?_⟩
 have:=ld 0 (uV ids[i]) (by omega) (by rw [Nat.mul_one,Nat.add_zero,List.getElem?_map,List.getElem?_eq_getElem hi]; rfl) q
 rw [Nat.mul_one,Nat.add_zero] at this
 show load1k h b (0 + i) q = _
 rw [Nat.zero_add]; exact this
theorem LS.kc_at (w : LS N h0 h p sh L S vals s vi vk ids kr kc) {i : Nat} (hi : i < kc.length) : ∃ b,vk = .slice b 0 kc.length none 4∧b.val < h.nx.val∧∀ q,words.load h b (Nat.add 0 (Nat.mul i 4)) 4 q = q kc[i]:=by
 obtain ⟨b,e,hb,ld,_⟩:=w.hk.at_ (g:=4) (m:=kc.length) (by omega) (flat4 w.k4) hi
 refine ⟨b,e,hb,fun q=>?_⟩
 have:=ld 0 4 (by omega) q
 rw [Nat.add_zero,flat4_at w.k4 (List.getElem?_eq_getElem hi)] at this
 show loadk h b (0 + i * 4) 4 q = _
 rw [Nat.zero_add]; exact this
theorem LS.lnk (w : LS N h0 h p sh L S vals s vi vk ids kr kc) (q : Nat→Res) : lenk vk q = q kc.length:=w.hk.len (by omega) (flat4 w.k4) q
theorem LS.word (w : LS N h0 h p sh L S vals s vi vk ids kr kc) (hN : N ≤ h.nx.val) {h' : Heap} {S' : Nat→Prop} {L' : List Th} (t : TabR h' p sh L' S' (XX vi vk)) (g : Good sh L') (pr : L <+: L') (C : Chg S h h') (sS : ∀ x,S' x→S x ∨ h.nx.val ≤ x) : LS N h0 h' p sh L' S' vals s vi vk ids kr kc:=by
 have nS : ∀ x,XX vi vk x→¬ S x:=fun x hx=>(w.tab.xs hx).2
 refine ⟨t,g,w.hi.chg C fun x hx=>Classical.byContradiction fun e=>nS x (.inl e) hx,w.hk.chg C fun x hx=>Classical.byContradiction fun e=>nS x (.inr e) hx,w.k4,w.ap,w.len1,w.len2,w.mem,w.row,fun j w' r h1 h2=>?_,?_,fun x hx=>?_⟩
 · obtain ⟨a,s',b,c⟩:=w.den j w' r h1 h2
   exact ⟨a,s',b,c.pre pr⟩
 · exact ⟨Nat.le_trans w.up.nx C.nx,fun b hb=>(C.get b (by omega) fun e=>by have:=w.lo _ (.inl e); omega).trans (w.up.get b hb)⟩
 · rcases hx with hx | hx
   · exact (sS x hx).elim (fun e=>w.lo x (.inl e)) fun e=>by omega
   · exact w.lo x (.inr hx)
theorem app_nil4 {l : List V} (q : List V→Res) : appk l [] q = q l:=by rw [appk_eq,List.append_nil]
theorem loop1 (ok : ShsOk sh) (hn : 20000 ≤ n) {vv : V} (hN : N ≤ h0.nx.val) (wv : CellA h0 (fun x=>x < N) (.sl 4 vals) vv) (hvals : vals.length ≤ 30) (hv : ∀ r ∈ vals,IsV r∧SizeOf.sizeOf r + 12 ≤ d + 1) :
 ∀ (j : Nat) {i q : Nat} {h : Heap} {L : List Th} {S : Nat→Prop} {vi vk : V} {ids : List Nat} {kr : List (List Tr)} {kc : List (List V)},i + j = vals.length→j < q→LS N h0 h p sh L S vals s vi vk ids kr kc→L.length ≤ i * 202→ids.length ≤ i →
  ∃ h' vi' vk',lpk (b3_1 words n (call tabW n (d + 1))) q [I s,vv,.ptr p 0,vi,vk,ik i] h = .done .ret [I s,.bool true,.ptr p 0,vi',vk'] h' ∨
   ∃ L' S' ids' kr' kc',lpk (b3_1 words n (call tabW n (d + 1))) q [I s,vv,.ptr p 0,vi,vk,ik i] h = .done .normal [I s,.und,.ptr p 0,vi',vk'] h'∧LS N h0 h' p sh L' S' vals s vi' vk' ids' kr' kc'∧L'.length ≤ 6100∧ids'.length ≤ 30
 | j,i,0,_,_,_,_,_,_,_,_,_,h0,_,_,_=>absurd h0 (Nat.not_lt_zero _)
 | 0,i,q + 1,h,L,S,vi,vk,ids,kr,kc,hi,_,w,hL,hids=>by
   have n1 : ilt (.ofNat i) (.ofNat vals.length) = false:=ilt_false (by omega)
   have ln : ∀ q : Nat→Res,lenk vv q = q vals.length:=fun q=>by rw [wv.lenk]
   refine ⟨h,vi,vk,.inr ⟨L,S,ids,kr,kc,?_,w,by omega,by omega⟩⟩
   rw [lpk_succ]
   simp -implicitDefEqProofs only [b3_1,↓ln,↓n1,↓evR]
 | j + 1,i,q + 1,h,L,S,vi,vk,ids,kr,kc,hi,hq,w,hL,hids=>by
   have hik : i < vals.length:=by omega
   have ln : ∀ q : Nat→Res,lenk vv q = q vals.length:=fun q=>by rw [wv.lenk]
   have n1:=ilt_true hik
   have n2 : Nat.blt i vals.length = true:=blt_of hik
   have n3:=ad_nat (a:=i) (b:=1) (by omega)
   have hNh : N ≤ h.nx.val:=Nat.le_trans hN w.up.nx
   obtain ⟨hvi,hdi⟩:=hv _ (List.getElem_mem hik)
   obtain ⟨b,o,m,l,e,rl,hl4,_,ld0,_⟩:=wv.row hik
   have hbN : b.val < N:=by subst e; exact wv.bid
   have rlN : RowA h0 (fun x=>x < N) vals[i] l:=rl
   have ldh : ∀ {h' : Heap},UpTo N h0 h'→∀ q : List V→Res,words.load h' b (Nat.add o (Nat.mul i 4)) 4 q = q l:=fun {h'} U q=>by
    have : loadk h' b (o + i * 4) 4 q = loadk h0 b (o + i * 4) 4 q:=by
     unfold loadk
     rw [Heap.getk_eq,Heap.getk_eq,U.get b hbN]
    exact this.trans (ld0 q)
   have rlh : ∀ {h' : Heap},UpTo N h0 h'→RowA h' (fun x=>x < N) vals[i] l:=fun U=>rlN.mv (fun _ hx=>hx) fun b hb=>U.get b hb
   have l1:=ldh w.up
   obtain ⟨h1,k,e1,U1,k1,k2,k3⟩:=size_law (n:=n) (d:=d + 1) (by omega) _ (Nat.lt_succ_self _) hvi (by omega) h (fun x=>x < N) l (fun x hx=>by omega) (rlh w.up)
   by_cases hk200 : k ≤ 200
   · have n4 : ilt (.ofNat 200) (.ofNat k) = false:=ilt_false (by omega)
     have hwv:=k3 hk200
     have w1:=w.up' U1 hNh
     have hN1 : N ≤ h1.nx.val:=Nat.le_trans hNh U1.nx
     have esz:=Size_law (n:=n) (d:=d) w1.tab
     have l1':=ldh w1.up
     have rS : RowA h1 (Still h1 (SX S (XX vi vk))) vals[i] l:=(rlh w1.up).mv (fun x hx=>⟨by omega,fun e=>by have:=w1.lo x e; omega⟩) fun _ _=>rfl
     obtain ⟨h2,S2,L2,oo,ee,e2,t2,C2,s2,g2,pr2,len2,som,non,_⟩:=Word_law (n:=n) (d:=d + 1) ok (by omega) hvi (by omega) (by omega) w1.tab w1.good (by omega) (by omega) s rS
     have w2:=w1.word hN1 t2 g2 pr2 C2 s2
     have hN2 : N ≤ h2.nx.val:=Nat.le_trans hN1 C2.nx
     cases oo with
     | none=>
       obtain ⟨he,rfl⟩:=non rfl
       have e2' : call tabW n (d + 1) f9 [.ptr p 0,.int .i64 s,.agg 4 l] h1 = .ret (.tup [uV 0,ik ee]) h2:=e2
       have n5 : ieq (.ofNat ee) (.ofNat 0) = false:=by rw [ieq_nat]; simp; omega
       have n6 : ieq (.ofNat 0) (.ofNat 0) = true:=rfl
       have esz2:=Size_law (n:=n) (d:=d) t2
       have n7 : ieq (.ofNat L2.length) (.ofNat L2.length) = true:=by rw [ieq_nat]; simp
       obtain ⟨h3,vi',vk',res⟩:=loop1 ok hn hN wv hvals hv j (i:=i + 1) (q:=q) (h:=h2) (by omega) (by omega) w2 (by omega) (by omega)
       have step : ∀ R : Res,lpk (b3_1 words n (call tabW n (d + 1))) q [I s,vv,.ptr p 0,vi,vk,ik (i + 1)] h2 = R→lpk (b3_1 words n (call tabW n (d + 1))) (q + 1) [I s,vv,.ptr p 0,vi,vk,ik i] h = R:=fun R hR=>by
        rw [lpk_succ]
        subst e
        simp -implicitDefEqProofs only [b3_1,↓ln,↓n1,↓n2,↓l1,↓e1,↓n4,↓esz,↓l1',↓e2',↓n5,↓n6,↓esz2,↓n7,↓n3,↓hR,↓evR]
       exact ⟨h3,vi',vk',res.imp (step _) fun ⟨a1,a2,a3,a4,a5,a6,a7⟩=>⟨a1,a2,a3,a4,a5,step _ a6,a7⟩⟩
     | some ww=>
       obtain ⟨rfl,hw64,s',hs',hden⟩:=som ww rfl
       have e2' : call tabW n (d + 1) f9 [.ptr p 0,.int .i64 s,.agg 4 l] h1 = .ret (.tup [uV ww,ik 0]) h2:=e2
       have n5 : ieq (.ofNat 0) (.ofNat 0) = true:=rfl
       obtain ⟨h3,e3,r3,U3,lt3⟩:=new_row h2 (g:=1) (l:=[uV ww]) rfl (by omega)
       have e3' : ∀ q,words.new h2 (.arr 1 1 (.lf [uV ww]) .false) q = q h2.nx h3:=e3
       have rr3 : ∀ q,words.row 1 1 [uV ww] q = q (.lf [uV ww]):=fun q=>row_one (g:=1) rfl q
       have w3:=w2.up' U3 hN2
       have hN3 : N ≤ h3.nx.val:=Nat.le_trans hN2 U3.nx
       obtain ⟨h4,vi4,e4,o4,C4,f4',b4,l4,ev4⟩:=own_app w3.hi (by omega) r3 rfl (m:=ids.length) (by rw [List.length_map,Nat.mul_one]) (by omega)
       have C4N : UpTo N h3 h4:=⟨C4.nx,fun b hb=>C4.get b (by omega) fun e=>by have:=w3.lo _ (.inr (.inl e)); omega⟩
       have ap4 : Apart vi4 vk:=fun x=>Classical.byContradiction fun e=>by
        simp only [not_or] at e
        rcases f4' x e.1 with e1 | e1
        · exact ((w3.ap x).elim (fun q=>e1 q) fun q=>e.2 q)
        · have:=w3.hk.lt e.2
          omega
       have t4 : TabR h4 p sh L2 S2 (XX vi4 vk):=w3.tab.turnX (C4.mono fun x _ hx=>.inl hx) fun x hx=>by
        rcases hx with hx | hx
        · exact ⟨o4.lt hx,(f4' x hx).imp .inl id⟩
        · exact ⟨Nat.lt_of_lt_of_le (w3.hk.lt hx) C4.nx,.inl (.inr hx)⟩
       have hk4 : Hld h4 4 vk kc.flatten:=w3.hk.chg C4 fun x hx=>(w3.ap x).resolve_left hx
       have up4 : UpTo N h0 h4:=w3.up.trans C4N
       have l5:=ldh up4
       obtain ⟨h5,e5,r5,U5,lt5⟩:=new_row h4 (g:=4) (l:=l) hl4 (by omega)
       have e5' : ∀ q,words.new h4 (.arr 4 1 (.lf l) .false) q = q h4.nx h5:=e5
       have rr5 : ∀ q,words.row 4 1 l q = q (.lf l):=fun q=>row_one hl4 q
       have ap5 : ∀ q : List V→Res,appk l [] q = q l:=app_nil4
       have hN4 : N ≤ h4.nx.val:=Nat.le_trans hN3 C4.nx
       obtain ⟨h6,vk6,e6,o6,C6,f6,b6,l6,ev6⟩:=own_app (hk4.up U5) (by omega) r5 hl4 (m:=kc.length) (flat4 w3.k4) (by have:=w3.len2; omega)
       have hN5 : N ≤ h5.nx.val:=Nat.le_trans hN4 U5.nx
       have lok : ∀ x,¬ Off vk x→N ≤ x:=fun x hx=>w3.lo x (.inr (.inr hx))
       have C6N : UpTo N h5 h6:=⟨C6.nx,fun b hb=>C6.get b (by omega) fun e=>by have:=lok _ e; omega⟩
       have ap6 : Apart vi4 vk6:=fun x=>Classical.byContradiction fun e=>by
        simp only [not_or] at e
        rcases f6 x e.2 with e1 | e1
        · exact ((ap4 x).elim (fun q=>e.1 q) fun q=>e1 q)
        · have:=o4.lt e.1
          have:=U5.nx
          omega
       have hi6 : Hld h6 1 vi4 ((ids ++ [ww]).map uV):=by
        have:=(o4.up U5).chg C6 fun x hx=>(ap4 x).resolve_right hx
        rw [List.map_append]
        exact this
       have t6 : TabR h6 p sh L2 S2 (XX vi4 vk6):=(t4.up U5).turnX (C6.mono fun x _ hx=>.inr hx) fun x hx=>by
        rcases hx with hx | hx
        · exact ⟨hi6.lt hx,.inl (.inl hx)⟩
        · exact ⟨o6.lt hx,(f6 x hx).imp .inr id⟩
       have w6 : LS N h0 h6 p sh L2 S2 vals s vi4 vk6 (ids ++ [ww]) (kr ++ [vals[i]]) (kc ++ [l]):=by
        refine ⟨t6,g2,hi6,by rw [List.flatten_append]; simpa using o6,?_,ap6,by simp [w3.len1],by simp [w3.len2],?_,?_,?_,(up4.trans (U5.to hN4)).trans C6N,?_⟩
        · intro c hc
          rcases List.mem_append.1 hc with hc | hc
          · exact w3.k4 c hc
          · simp at hc; subst hc; exact hl4
        · intro r hr
          rcases List.mem_append.1 hr with hr | hr
          · exact w3.mem r hr
          · simp at hr; subst hr; exact ⟨List.getElem_mem hik,by omega⟩
        · intro j' r c hr hc
          by_cases hj : j' < kr.length
          · rw [List.getElem?_append_left hj] at hr
            rw [List.getElem?_append_left (by rw [w3.len2,← w3.len1]; exact hj)] at hc
            exact w3.row j' r c hr hc
          · rw [List.getElem?_append_right (by omega)] at hr
            rw [List.getElem?_append_right (by rw [w3.len2,← w3.len1]; omega)] at hc
            have e0 : j' - kr.length = 0:=by have:=(List.getElem?_eq_some_iff.1 hr).1; simp at this; omega
            rw [e0] at hr
            rw [show j' - kc.length = 0 by rw [w3.len2,← w3.len1]; exact e0] at hc
            simp at hr hc
            subst hr; subst hc
            exact rlN
        · intro j' w' r hw' hr
          by_cases hj : j' < kr.length
          · rw [List.getElem?_append_left hj] at hr
            rw [List.getElem?_append_left (by rw [← w3.len1]; exact hj)] at hw'
            exact w3.den j' w' r hw' hr
          · rw [List.getElem?_append_right (by omega)] at hr
            rw [List.getElem?_append_right (by rw [← w3.len1]; omega)] at hw'
            have e0 : j' - kr.length = 0:=by have:=(List.getElem?_eq_some_iff.1 hr).1; simp at this; omega
            rw [e0] at hr
            rw [show j' - ids.length = 0 by rw [← w3.len1]; exact e0] at hw'
            simp at hr hw'
            subst hr; subst hw'
            exact ⟨hw64,s',hs',hden⟩
        · intro x hx
          rcases hx with hx | hx | hx
          · exact w3.lo x (.inl hx)
          · rcases f4' x hx with e1 | e1
            · exact w3.lo x (.inr (.inl e1))
            · omega
          · rcases f6 x hx with e1 | e1
            · exact lok x e1
            · omega
       obtain ⟨h7,vi',vk',res⟩:=loop1 ok hn hN wv hvals hv j (i:=i + 1) (q:=q) (h:=h6) (by omega) (by omega) w6 (by omega) (by simp; omega)
       have step : ∀ R : Res,lpk (b3_1 words n (call tabW n (d + 1))) q [I s,vv,.ptr p 0,vi4,vk6,ik (i + 1)] h6 = R→lpk (b3_1 words n (call tabW n (d + 1))) (q + 1) [I s,vv,.ptr p 0,vi,vk,ik i] h = R:=fun R hR=>by
        rw [lpk_succ]
        subst e
        simp -implicitDefEqProofs only [b3_1,↓ln,↓n1,↓n2,↓l1,↓e1,↓n4,↓esz,↓l1',↓e2',↓n5,↓rr3,↓e3',↓e4,↓l5,↓ap5,↓rr5,↓e5',↓e6,↓n3,↓hR,↓evR]
       exact ⟨h7,vi',vk',res.imp (step _) fun ⟨a1,a2,a3,a4,a5,a6,a7⟩=>⟨a1,a2,a3,a4,a5,step _ a6,a7⟩⟩
   · have n4 : ilt (.ofNat 200) (.ofNat k) = true:=ilt_true (by omega)
     have ek:=worksC n d h1
     refine ⟨h1,vi,vk,.inl ?_⟩
     rw [lpk_succ]
     subst e
     simp -implicitDefEqProofs only [b3_1,↓ln,↓n1,↓n2,↓l1,↓e1,↓n4,↓ek,↓evR]
theorem loop2i (hn : 20000 ≤ n) (hN : N ≤ h0.nx.val) (hv : ∀ r ∈ vals,IsV r∧SizeOf.sizeOf r + 12 ≤ d) {i : Nat} (hi : i < ids.length) (hids : ids.length ≤ 30) :
 ∀ (j : Nat) {k q : Nat} {h : Heap},k + j = i→j < q→LS N h0 h p sh L S vals s vi vk ids kr kc→∃ h',lpk (b3_2 words n (call tabW n d)) q [I s,.ptr p 0,vi,vk,ik i,ik k] h = .done .normal [I s,.ptr p 0,vi,vk,ik i] h'∧LS N h0 h' p sh L S vals s vi vk ids kr kc
 | j,k,0,_,_,h0,_=>absurd h0 (Nat.not_lt_zero _)
 | 0,k,q + 1,h,hk,_,w=>by
   have n1 : ilt (.ofNat k) (.ofNat i) = false:=ilt_false (by omega)
   refine ⟨h,?_,w⟩
   rw [lpk_succ]
   simp -implicitDefEqProofs only [b3_2,↓n1,↓evR]
 | j + 1,k,q + 1,h,hk,hq,w=>by
   have hki : k < ids.length:=by omega
   have n1:=ilt_true (show k < i by omega)
   have n2 : Nat.blt k ids.length = true:=blt_of hki
   have n2' : Nat.blt i ids.length = true:=blt_of hi
   have n3:=ad_nat (a:=k) (b:=1) (by omega)
   have hNh : N ≤ h.nx.val:=Nat.le_trans hN w.up.nx
   have hkc : k < kc.length:=by rw [w.len2]; exact hki
   have hic : i < kc.length:=by rw [w.len2]; exact hi
   have hkr : k < kr.length:=by rw [w.len1]; exact hki
   have hir : i < kr.length:=by rw [w.len1]; exact hi
   obtain ⟨bi,ei,hbi,ldi⟩:=w.id_at hi
   obtain ⟨bi',ei',_,ldk⟩:=w.id_at hki
   rw [ei] at ei'
   cases ei'
   obtain ⟨bk,ekk,_,lci⟩:=w.kc_at hic
   obtain ⟨bk',ekk',_,lck⟩:=w.kc_at hkc
   rw [ekk] at ekk'
   cases ekk'
   have rk : RowA h (fun x=>x < N) kr[k] kc[k]:=(w.row k _ _ (List.getElem?_eq_getElem hkr) (List.getElem?_eq_getElem hkc)).mv (fun _ hx=>hx) fun b hb=>w.up.get b hb
   have ri : RowA h (fun x=>x < N) kr[i] kc[i]:=(w.row i _ _ (List.getElem?_eq_getElem hir) (List.getElem?_eq_getElem hic)).mv (fun _ hx=>hx) fun b hb=>w.up.get b hb
   obtain ⟨mk,mk2⟩:=w.mem _ (List.getElem_mem hkr)
   obtain ⟨mi,mi2⟩:=w.mem _ (List.getElem_mem hir)
   obtain ⟨h1,bb,e1,U1,iff⟩:=same_law (n:=n) (d:=d) (by omega) _ (Nat.lt_succ_self _) (hv _ mk).1 (hv _ mi).1 (by omega) (by have:=(hv _ mk).2; omega) h (fun x=>x < N) kc[k] kc[i] (fun x hx=>by omega) rk ri
   have w1:=w.up' U1 hNh
   have ldi1 : ∀ q,words.load1 h1 bi (Nat.add 0 i) q = q (uV ids[i]):=fun q=>(U1.ld hbi q).trans (ldi q)
   have ldk1 : ∀ q,words.load1 h1 bi (Nat.add 0 k) q = q (uV ids[k]):=fun q=>(U1.ld hbi q).trans (ldk q)
   obtain ⟨_,s1,es1,den1⟩:=w.den k _ _ (List.getElem?_eq_getElem hki) (List.getElem?_eq_getElem hkr)
   obtain ⟨_,s2,es2,den2⟩:=w.den i _ _ (List.getElem?_eq_getElem hi) (List.getElem?_eq_getElem hir)
   rw [es1] at es2
   cases es2
   have same : ieq (.ofNat ids[k]) (.ofNat ids[i]) = bb:=by
    rw [ieq_nat]
    cases bb with
    | true=>
      have:=iff.1 rfl
      rw [this] at den1
      simpa using den1.word w.good den2
    | false=>
      simp only [decide_eq_false_iff_not]
      intro e
      have:=iff.2 (den1.val den2 e (hv _ mk).1 (hv _ mi).1)
      cases this
   have bq : beqk bb bb = true:=beqk_self bb
   have hlen3 : kc.length = ids.length:=w.len2
   rw [hlen3] at ekk
   obtain ⟨h2,e2,w2⟩:=loop2i hn hN hv hi hids j (k:=k + 1) (q:=q) (h:=h1) (by omega) (by omega) w1
   refine ⟨h2,?_,w2⟩
   rw [lpk_succ]
   subst ei; subst ekk
   simp -implicitDefEqProofs only [b3_2,↓n1,↓n2,↓n2',↓ldk,↓ldi,↓lck,↓lci,↓e1,↓ldk1,↓ldi1,↓same,↓bq,↓n3,↓e2,↓evR]
theorem loop2 (ok : ShsOk sh) (hn : 20000 ≤ n) (hN : N ≤ h0.nx.val) (hv : ∀ r ∈ vals,IsV r∧SizeOf.sizeOf r + 12 ≤ d + 1) (hL : L.length ≤ 6100) (hids : ids.length ≤ 30) :
 ∀ (j : Nat) {i q : Nat} {h : Heap} {S : Nat→Prop},i + j = ids.length→j < q→LS N h0 h p sh L S vals s vi vk ids kr kc→∃ h',lpk (b3_3 words n (call tabW n (d + 1))) q [I s,.ptr p 0,vi,vk,ik i] h = .ret (.bool true) h'
 | j,i,0,_,_,_,h0,_=>absurd h0 (Nat.not_lt_zero _)
 | 0,i,q + 1,h,S,hi,_,w=>by
   have n1 : ilt (.ofNat i) (.ofNat kc.length) = false:=ilt_false (by rw [w.len2]; omega)
   have ln:=w.lnk
   have ek:=worksC n d h
   refine ⟨h,?_⟩
   rw [lpk_succ]
   simp -implicitDefEqProofs only [b3_3,↓ln,↓n1,↓ek,↓evR]
 | j + 1,i,q + 1,h,S,hi,hq,w=>by
   have hii : i < ids.length:=by omega
   have ln:=w.lnk
   have hic : i < kc.length:=by rw [w.len2]; exact hii
   have hir : i < kr.length:=by rw [w.len1]; exact hii
   have n1 : ilt (.ofNat i) (.ofNat kc.length) = true:=ilt_true hic
   have n2 : Nat.blt i ids.length = true:=blt_of hii
   have n2' : Nat.blt i kc.length = true:=blt_of hic
   have n3:=ad_nat (a:=i) (b:=1) (by omega)
   have hNh : N ≤ h.nx.val:=Nat.le_trans hN w.up.nx
   obtain ⟨bi,ei,hbi,ldi⟩:=w.id_at hii
   obtain ⟨bk,ekk,hbk,lci⟩:=w.kc_at hic
   obtain ⟨hw64,s',hs',den⟩:=w.den i _ _ (List.getElem?_eq_getElem hii) (List.getElem?_eq_getElem hir)
   obtain ⟨mi,mi2⟩:=w.mem _ (List.getElem_mem hir)
   obtain ⟨hvi,hdi⟩:=hv _ mi
   obtain ⟨h1,l,e1,U1,rl⟩:=value_law (n:=n) (p:=p) ok (by omega) (by omega) w.good _ (Nat.lt_succ_self _) hvi (d:=d + 1) (by omega) s' ids[i] S _ h den w.tab hw64
   rw [← hs'] at e1
   have hl4 : l.length = 4:=by rw [rl.len]; exact isV_len hvi
   obtain ⟨h2,h3,e2,e3,r3,U3,lt3⟩:=new_store h1 (g:=4) (z:=[uk 0,ik 0,.str 0 0,.nils]) (l:=l) rfl hl4 (by omega)
   have e2' : ∀ q,words.new h1 (.arr 4 1 (repT [uk 0,ik 0,.str 0 0,.nils] 1 1) .false) q = q h1.nx h2:=e2
   have e3' : ∀ q,words.store h2 h1.nx 0 4 l q = q h3:=e3
   have U13:=U1.trans U3
   have w3:=w.up' U13 hNh
   have hN3 : N ≤ h3.nx.val:=Nat.le_trans hNh U13.nx
   have lci3 : ∀ q,words.load h3 bk (Nat.add 0 (Nat.mul i 4)) 4 q = q kc[i]:=fun q=>(U13.lds hbk q).trans (lci q)
   have ri : RowA h0 (fun x=>x < N) kr[i] kc[i]:=w.row i _ _ (List.getElem?_eq_getElem hir) (List.getElem?_eq_getElem hic)
   have ri3 : RowA h3 (Still h3 (SX S (XX vi vk))) kr[i] kc[i]:=ri.mv (fun x hx=>⟨by omega,fun e=>by have:=w3.lo x e; omega⟩) fun b hb=>w3.up.get b hb
   obtain ⟨h4,S4,L4,oo,ee,e4,t4,C4,s4,g4,pr4,len4,som,non,back⟩:=Word_law (n:=n) (d:=d + 1) ok (by omega) hvi (by omega) (by omega) w3.tab w3.good (by omega) (by omega) s ri3
   obtain ⟨rfl,hL4⟩:=back s' ids[i] hs' den
   have hL4':=hL4.symm
   subst hL4'
   obtain ⟨rfl,_⟩:=som _ rfl
   have w4:=w3.word hN3 t4 g4 pr4 C4 s4
   have e4' : call tabW n (d + 1) f9 [.ptr p 0,.int .i64 s,.agg 4 kc[i]] h3 = .ret (.tup [uV ids[i],ik 0]) h4:=e4
   have hN4 : N ≤ h4.nx.val:=Nat.le_trans hN3 C4.nx
   have ltS : ∀ x,S x→x < h.nx.val:=fun x hx=>w.tab.lts hx
   have nS1 : ¬ S h1.nx.val:=fun e=>by have:=ltS _ e; have:=U1.nx; omega
   have r4:=C4.row r3 lt3 nS1
   have l4 : ∀ q : List V→Res,words.load h4 h1.nx 0 4 q = q l:=fun q=>by
    have:=loadk_law r4 (o:=0) (n:=4) (by omega) q
    rw [List.drop_zero,List.take_of_length_le (by omega)] at this
    exact this
   have rl4 : RowA h4 (fun x=>x < h4.nx.val) kr[i] l:=rl.mv (fun x hx=>by have:=U3.nx; have:=C4.nx; omega) fun b hb=>by
    rw [C4.get b (by have:=U3.nx; omega) fun e=>by have:=ltS _ e; omega,U3.get b hb.2]
   have ri4 : RowA h4 (fun x=>x < h4.nx.val) kr[i] kc[i]:=ri.mv (fun x hx=>by omega) fun b hb=>w4.up.get b hb
   obtain ⟨bi4,ei4,hbi4,ldi4⟩:=w4.id_at hii
   obtain ⟨bk4,ek4,hbk4,lci4⟩:=w4.kc_at hic
   rw [ei] at ei4
   cases ei4
   rw [ekk] at ek4
   cases ek4
   obtain ⟨h5,bb,e5,U5,iff⟩:=same_law (n:=n) (d:=d + 1) (by omega) _ (Nat.lt_succ_self _) hvi hvi (by omega) (by omega) h4 (fun x=>x < h4.nx.val) l kc[i] (fun x hx=>hx) rl4 ri4
   obtain rfl : bb = true:=iff.2 rfl
   have w5:=w4.up' U5 hN4
   have ldi5 : ∀ q,words.load1 h5 bi (Nat.add 0 i) q = q (uV ids[i]):=fun q=>(U5.ld hbi4 q).trans (ldi4 q)
   have n6 : ieq (.ofNat 0) (.ofNat 0) = true:=rfl
   have k3 : Nat.beq (kno .i64) 3 = true:=rfl
   have k8 : Nat.beq (kno .u64) (kno .u64) = true:=rfl
   have n7 : ieq (.ofNat ids[i]) (.ofNat ids[i]) = true:=by rw [ieq_nat]; simp
   obtain ⟨h6,e6,w6⟩:=loop2i (n:=n) (d:=d + 1) hn hN hv hii hids i (k:=0) (q:=n) (h:=h5) (by omega) (by omega) w5
   obtain ⟨h7,e7⟩:=loop2 ok hn hN hv hL hids j (i:=i + 1) (q:=q) (h:=h6) (by omega) (by omega) w6
   refine ⟨h7,?_⟩
   rw [lpk_succ]
   subst ei; subst ekk
   have ln' : ∀ q : Nat→Res,lenk (.slice bk 0 kc.length none 4) q = q kc.length:=fun q=>rfl
   simp -implicitDefEqProofs only [b3_3,↓n1,↓n2,↓n2',↓ldi,↓e1,↓e2',↓e3',↓lci3,↓e4',↓n6,↓k3,↓l4,↓lci4,↓e5,↓ldi5,↓ldi4,↓k8,↓n7,↓e6,↓n3,↓e7,↓evR]
theorem back_law {ras : List Ra} {v0 v2 : V} (hn : 20000 ≤ n) (hd : 20 ≤ d) (hl : ras.length ≤ 140737488351232) (w : CellA h (fun x=>x < h.nx.val) (.sl 3 (ras.map raT)) v0) (hk : ∀ x ∈ ras,x.kind < 256∧x.fields.length ≤ 140737488351232∧x.cases.length ≤ 140737488351232)
 (wv : CellA h (fun x=>x < h.nx.val) (.sl 4 vals) v2) (hv : ∀ r ∈ vals,IsV r∧SizeOf.sizeOf r + 12 ≤ d) (s : Int) : ∃ h',call tabW n (d + 1) f3 [v0,.int .i64 s,v2] h = .ret (.bool true) h':=by
 obtain ⟨d,rfl⟩ : ∃ d',d = d' + 1 + 1 + 1 + 1 + 1 + 1 + 1 + 1 + 1:=⟨d - 9,by omega⟩
 obtain ⟨h1,U1,res⟩:=new_law (n:=n) (d:=d) (by omega) hl w hk
 have k3 : Nat.beq (kno .i64) 3 = true:=rfl
 rcases res with e1 | ⟨p,S,e1,t1,ok,lo⟩
 · have pn : ∀ q : Bool→Res,pnk .nilp q = q true:=fun q=>rfl
   have ek:=worksC n (d + 1 + 1 + 1 + 1 + 1 + 1 + 1 + 1) h1
   refine ⟨h1,?_⟩
   rw [call3]
   simp -implicitDefEqProofs only [sh3,↓e1,↓pn,↓ek,↓evR]
 · have pn : ∀ q : Bool→Res,pnk (.ptr p 0) q = q false:=fun q=>rfl
   have ln : ∀ q : Nat→Res,lenk v2 q = q vals.length:=fun q=>by rw [wv.lenk]
   by_cases h30 : 30 < vals.length
   · have n1:=ilt_true h30
     have ek:=worksC n (d + 1 + 1 + 1 + 1 + 1 + 1 + 1 + 1) h1
     refine ⟨h1,?_⟩
     rw [call3]
     simp -implicitDefEqProofs only [sh3,↓e1,↓pn,↓ln,↓k3,↓n1,↓ek,↓evR]
   · have n1:=ilt_false h30
     have hX : ∀ x,¬ XX .nils .nils x:=fun x hx=>hx.elim (fun e=>e (off_nils x)) fun e=>e (off_nils x)
     have w1 : LS h.nx.val h h1 p (ras.map raS) [] S vals s .nils .nils [] [] []:=by
      refine ⟨t1.dropX fun x hx=>(hX x hx).elim,⟨by simp,by simp,by simp [Apt,mapL,mapF],by simp,by simp⟩,.nils,.nils,by simp,fun x=>.inl (off_nils x),rfl,rfl,by simp,by simp,by simp,U1.to (Nat.le_refl _),fun x hx=>hx.elim (lo x) fun e=>(hX x e).elim⟩
     obtain ⟨h2,vi,vk,r2⟩:=loop1 (n:=n) (d:=d + 1 + 1 + 1 + 1 + 1 + 1 + 1 + 1) ok hn (Nat.le_refl _) wv (by omega) hv vals.length (i:=0) (q:=n) (h:=h1) (by omega) (by omega) w1 (by simp) (by simp)
     rcases r2 with e2 | ⟨L',S',ids,kr,kc,e2,w2,hL,hids⟩
     · refine ⟨h2,?_⟩
       rw [call3]
       simp -implicitDefEqProofs only [sh3,↓e1,↓pn,↓ln,↓k3,↓n1,↓e2,↓evR]
     · obtain ⟨h3,e3⟩:=loop2 (n:=n) (d:=d + 1 + 1 + 1 + 1 + 1 + 1 + 1 + 1) ok hn (Nat.le_refl _) hv hL hids ids.length (i:=0) (q:=n) (h:=h2) (by omega) (by omega) w2
       refine ⟨h3,?_⟩
       rw [call3]
       simp -implicitDefEqProofs only [sh3,↓e1,↓pn,↓ln,↓k3,↓n1,↓e2,↓e3,↓evR]
end
end Go.Ev.WIB
