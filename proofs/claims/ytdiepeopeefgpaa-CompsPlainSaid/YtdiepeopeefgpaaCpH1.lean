/- CpH1: texts joined. -/
import Derived.Test.YtdiepeopeefgpaaEvRules
import Derived.Test.YtdiepeopeefgpaaCpF4
/- CompsPlain: items: types. -/
namespace Go.Ev.WCP
open Go.Proofs
set_option maxRecDepth 100000
structure It (h : Heap) (lo : Nat) (pk pf s pv pp : Bid) : Prop where
 nx : lo ≤ h.nx.val
 lk : pk.val < lo
 lf : pf.val < lo
 nf : pf ≠ pk
 ls : s.val < lo
 ns : s ≠ pk
 lv : pv.val < lo
 nv : pv ≠ pk
 lp : pp.val < lo
 np : pp ≠ pk
 rf : Row (h.t.get pf) 4 [.nils,.nils,.ptr s 0,.nilp]
 rs : ∃ vt vb vr lt lb lr,Row (h.t.get s) 6 [.str 0 0,vt,vb,vr,.nils,.nils]∧CellA h (fun x=>pk.val < x∧x < lo) (.sl 1 (txs lt)) vt∧CellA h (fun x=>pk.val < x∧x < lo) (.sl 1 (txs lb)) vb∧CellA h (fun x=>pk.val < x∧x < lo) (.sl 1 (txs lr)) vr∧lt.length ≤ 1000000∧lb.length ≤ 1000000∧lr.length ≤ 1000000
 rv : Row (h.t.get pv) 1 [.ptr pf 0]
 rp : Row (h.t.get pp) 1 [.str 0 0]
theorem It.old {h h' : Heap} {lo : Nat} {pk pf s pv pp : Bid} (C : It h lo pk pf s pv pp) (o : Old lo pk h h') : It h' lo pk pf s pv pp:=by
 obtain ⟨vt,vb,vr,lt,lb,lr,r,wt,wb,wr,q⟩:=C.rs
 have g : ∀ b : Bid,(pk.val < b.val∧b.val < lo)→h'.t.get b = h.t.get b:=fun b hb=>o.get b hb.2 (bid_ne (by omega))
 exact ⟨Nat.le_trans C.nx o.nx,C.lk,C.lf,C.nf,C.ls,C.ns,C.lv,C.nv,C.lp,C.np,by rw [o.get pf C.lf C.nf]; exact C.rf,⟨vt,vb,vr,lt,lb,lr,by rw [o.get s C.ls C.ns]; exact r,wt.mv (fun _ h=>h) g,wb.mv (fun _ h=>h) g,wr.mv (fun _ h=>h) g,q⟩,
  by rw [o.get pv C.lv C.nv]; exact C.rv,by rw [o.get pp C.lp C.np]; exact C.rp⟩
theorem It.fr {h : Heap} {lo : Nat} {pk pf s pv pp : Bid} (C : It h lo pk pf s pv pp) : Fr h pf s:=by
 obtain ⟨vt,vb,vr,lt,lb,lr,r,wt,wb,wr,q⟩:=C.rs
 have:=C.nx
 exact ⟨Nat.lt_of_lt_of_le C.lf C.nx,Nat.lt_of_lt_of_le C.ls C.nx,C.rf,vt,vb,vr,lt,lb,lr,r,wt.mv (fun x hx=>by omega) (fun _ _=>rfl),wb.mv (fun x hx=>by omega) (fun _ _=>rfl),wr.mv (fun x hx=>by omega) (fun _ _=>rfl),q⟩
theorem push {h : Heap} {lo g gk : Nat} {pk p : Bid} {pre post : List V} {v : V} {rows : List (List Tr)} {r : List Tr} {l : List V} (hlo : lo ≤ h.nx.val) (hpk : pk.val < lo) (W : OwnT h lo g v rows) (rk : Row (h.t.get pk) gk (pre ++ v :: post)) (hg : 0 < g) (hr : r.length = g) (rp : Row (h.t.get p) g l) (hp : p.val < h.nx.val) (hl : l.length = g)
 (w : RowA h (fun x=>lo ≤ x∧x < h.nx.val∧Off v x) r l) (hs : rows.length < 16777216) :
 ∃ h1 h2 m h3,(∀ q,words.new h (.arr g 1 (.lf l) .false) q = q h.nx h1)∧(∀ q : V→Res,load1k h1 pk pre.length q = q v)∧(∀ q : List V→Res,words.load h1 p 0 g q = q l)∧(∀ q,words.app g v (.slice h.nx 0 1 (.some 1) g) h1 q = q (.slice h1.nx 0 m none g) h2) ∧
  (∀ q : Heap→Res,storek h2 pk pre.length 1 [.slice h1.nx 0 m none g] q = q h3)∧Row (h3.t.get pk) gk (pre ++ .slice h1.nx 0 m none g :: post)∧OwnT h3 lo g (.slice h1.nx 0 m none g) (rows ++ [r])∧Old lo pk h h3:=by
 obtain ⟨h1,e1,r1,U1,t1⟩:=new_row h (g:=g) (l:=l) hl hg
 obtain ⟨h2,v2,e2,W2,U2,nx2,m,rfl⟩:=app_one (g:=g) (r:=r) (W.up U1) hg r1 hl hr (Nat.le_trans hlo U1.nx) (w.mv (fun x hx=>⟨hx.1,Nat.lt_of_lt_of_le hx.2.1 U1.nx,hx.2.2⟩) fun b hb=>U1.get b hb.2.1) hs
 have hpn : pk.val < h.nx.val:=by omega
 have rk1:=rk.later hpn U1
 have rk2 : Row (h2.t.get pk) gk (pre ++ v :: post):=by rw [U2.get pk (Nat.lt_of_lt_of_le hpn U1.nx) (W.low (.inl hpk))]; exact rk1
 obtain ⟨h3,e3,rk3,u3⟩:=set_one rk2 (.slice h1.nx 0 m none g)
 refine ⟨h1,h2,m,h3,e1,fun q=>load1k_law rk1 (by simp) q,fun q=>?_,e2,e3,rk3,W2.keep (by rw [u3.nx]; exact Nat.le_refl _) fun b hb _=>u3.get b (bid_ne (by omega)),⟨by rw [u3.nx,nx2]; exact Nat.le_trans U1.nx (Nat.le_succ _),fun b hb hn=>?_⟩⟩
 · have:=loadk_law (rp.later hp U1) (o:=0) (n:=g) (by omega) q
   rw [List.drop_zero,List.take_of_length_le (by omega)] at this
   exact this
 · rw [u3.get b hn,U2.get b (by have:=U1.nx; omega) (W.low (.inl hb)),U1.get b (by omega)]
section
variable {n d N lo : Nat} {pk pf s pv pp : Bid}
theorem isC_wid {r : List Tr} (h : IsC r) : r.length = 2:=by cases h; rfl
theorem type_go (hd : 11 < d) (hn : 1000000 < n) {again : List V→Heap→Res} {hs h : Heap} {ts : List (List Tr)} {v v5 x1 x2 : V} {post : List V} {i : Nat} (O : Old lo pk hs h) (C : It h lo pk pf s pv pp) (hN : N ≤ pk.val) (ht : ∀ r ∈ ts,IsT r) (hw : wtRows ts ≤ 1000000) (w : CellR h N (.sl 6 ts) v5)
 (rk : Row (h.t.get pk) 4 (v :: post)) (W : OwnT h lo 6 v (ts.take i)) (hi : i < ts.length) :
 ∃ h' v',b20_1 words n (call tabW n d) again [.ptr pk 0,x1,x2,.ptr pv 0,.ptr pp 0,v5,I (.ofNat ts.length),I (.ofNat i)] h = again [.ptr pk 0,x1,x2,.ptr pv 0,.ptr pp 0,v5,I (.ofNat ts.length),I (.ofNat (i + 1))] h'∧Old lo pk hs h'∧Row (h'.t.get pk) 4 (v' :: post)∧OwnT h' lo 6 v' (ts.take (i + 1)):=by
 have hlen:=wtRows_len ts
 obtain ⟨kd,a,a',e,e',fs,cs,p,hre,hf,hc,hwt⟩:=isT_eq (ht _ (List.getElem_mem hi))
 have hmem:=wtRows_mem (List.getElem_mem hi)
 have hfl:=wtRows_len fs
 have hcl:=wtRows_len cs
 have ha : a' < 256 ^ a:=w.txt hi (j:=1) (by rw [hre]; rfl)
 have he : e' < 256 ^ e:=w.txt hi (j:=2) (by rw [hre]; rfl)
 obtain ⟨b,o,c,vf,vc,hv5,wf,wc,l1,l4,ld⟩:=typeIn w hi hre
 obtain ⟨h5,h6,e5,e6,row6,U6,lt6⟩:=new_store h (g:=6) (z:=[uk 0,.str 0 0,.str 0 0,.nils,.nils,ik 0]) (l:=[.int .u8 kd,.str a a',.str e e',vf,vc,.int .i64 p]) rfl rfl (by omega)
 obtain ⟨h7,e7,row7,u7⟩:=set_one (pre:=[.int .u8 kd]) (post:=[.str e e',vf,vc,.int .i64 p]) row6 (.str a a')
 have hnx : N ≤ h.nx.val:=by have:=C.lk; have:=C.nx; omega
 have U7 : Up h h7:=⟨by rw [u7.nx]; exact U6.nx,fun b hb=>(u7.get b (bid_ne (by omega))).trans (U6.get b hb)⟩
 have lt7 : h.nx.val < h7.nx.val:=by rw [u7.nx]; exact lt6
 have d5 : ∀ q,words.new h (.arr 6 1 (repT [uk 0,.str 0 0,.str 0 0,.nils,.nils,ik 0] 1 1) .false) q = q h.nx h5:=e5
 have d6 : ∀ q : Heap→Res,words.store h5 h.nx 0 6 [.int .u8 kd,.str a a',.str e e',vf,vc,.int .i64 p] q = q h6:=e6
 have d7 : ∀ q : Heap→Res,words.store h6 h.nx 1 1 [.str a a'] q = q h7:=e7
 have a1 : ∀ q : List V→Res,words.load h b (Nat.add o (Nat.mul i 6)) 6 q = q [.int .u8 kd,.str a a',.str e e',vf,vc,.int .i64 p]:=ld
 have C6:=C.old (U6.old C.nx)
 have C7:=C.old (U7.old C.nx)
 have cp : ∀ q : V→Res,words.load1 h6 pp 0 q = q (.str 0 0):=fun q=>load1k_law C6.rp rfl q
 have c1 : ∀ q : V→Res,words.load1 h6 h.nx 1 q = q (.str a a'):=fun q=>load1k_law row6 rfl q
 have c0 : ∀ q : V→Res,words.load1 h7 h.nx 0 q = q (.int .u8 kd):=fun q=>load1k_law row7 rfl q
 have c2 : ∀ q : V→Res,words.load1 h7 h.nx 2 q = q (.str e e'):=fun q=>load1k_law row7 rfl q
 have cv' : ∀ q : V→Res,words.load1 h7 pv 0 q = q (.ptr pf 0):=fun q=>load1k_law C7.rv rfl q
 have sh0 : ∀ x,short 0 x = x:=fun x=>short_le (by omega) x
 have sha : ∀ x,short a x = x:=fun x=>short_le (by omega) x
 have hcat:=cat_nil a a'
 have rest : ∀ h9,Up h h9→Row (h9.t.get h.nx) 6 [.int .u8 kd,.str a a',.str e e',vf,vc,.int .i64 p]→h.nx.val < h9.nx.val →
  ∃ h10 vf' h11 h12 vc' h13 h14 h15 m h16,(∀ q : V→Res,words.load1 h9 pv 0 q = q (.ptr pf 0))∧(∀ q : V→Res,words.load1 h9 h.nx (Nat.add 0 3) q = q vf)∧call tabW n d f31 [.ptr pf 0,vf] h9 = .ret vf' h10∧(∀ r,onek vf' r = r) ∧
   (∀ q : Heap→Res,words.store h10 h.nx (Nat.add 0 3) 1 [vf'] q = q h11)∧(∀ q : V→Res,words.load1 h11 h.nx (Nat.add 0 4) q = q vc)∧call tabW n d f32 [vc,.func 33 [.ptr pp 0,.ptr pv 0]] h11 = .ret vc' h12∧(∀ r,onek vc' r = r) ∧
   (∀ q : Heap→Res,words.store h12 h.nx (Nat.add 0 4) 1 [vc'] q = q h13)∧(∀ q : V→Res,words.load1 h13 pk 0 q = q v)∧(∀ q : List V→Res,words.load h13 h.nx 0 6 q = q [.int .u8 kd,.str a a',.str e e',vf',vc',.int .i64 p]) ∧
   (∀ q,words.row 6 1 [.int .u8 kd,.str a a',.str e e',vf',vc',.int .i64 p] q = q (.lf [.int .u8 kd,.str a a',.str e e',vf',vc',.int .i64 p])) ∧
   (∀ q,words.new h13 (.arr 6 1 (.lf [.int .u8 kd,.str a a',.str e e',vf',vc',.int .i64 p]) .false) q = q h13.nx h14)∧(∀ q : V→Res,words.load1 h14 pk 0 q = q v)∧(∀ q : List V→Res,words.load h14 h.nx 0 6 q = q [.int .u8 kd,.str a a',.str e e',vf',vc',.int .i64 p]) ∧
   (∀ q,words.app 6 v (.slice h13.nx 0 1 (.some 1) 6) h14 q = q (.slice h14.nx 0 m none 6) h15)∧(∀ q : Heap→Res,words.store h15 pk 0 1 [.slice h14.nx 0 m none 6] q = q h16) ∧
   Old lo pk hs h16∧Row (h16.t.get pk) 4 (.slice h14.nx 0 m none 6 :: post)∧OwnT h16 lo 6 (.slice h14.nx 0 m none 6) (ts.take (i + 1)):=by
  intro h9 U9 q9 lt9
  have C9:=C.old (U9.old C.nx)
  obtain ⟨h10,vf',ef,U10,wf'⟩:=fields_law (n:=n) (d:=d) (by omega) hn C9.fr (Nat.le_trans hnx U9.nx) hf (by omega) (wf.to hnx U9)
  have q10:=q9.later lt9 U10
  obtain ⟨h11,e11,q11,u11⟩:=set_one (pre:=[.int .u8 kd,.str a a',.str e e']) (post:=[vc,.int .i64 p]) q10 vf'
  have U9a:=U9.trans U10
  have U11 : Up h h11:=⟨by rw [u11.nx]; exact U9a.nx,fun b hb=>by rw [u11.get b (bid_ne (by omega))]; exact U9a.get b hb⟩
  have C11:=C.old (U11.old C.nx)
  have lt11 : h.nx.val < h11.nx.val:=by rw [u11.nx]; exact Nat.lt_of_lt_of_le lt9 U10.nx
  obtain ⟨d,rfl⟩ : ∃ d',d = d' + 1:=⟨d - 1,by omega⟩
  obtain ⟨h12,vc',ec,U12,wc'⟩:=map32 (n:=n) (d:=d) (fv:=.func 33 [.ptr pp 0,.ptr pv 0]) hn (Nat.le_trans hnx U11.nx) (by omega) (wc.to hnx U11) (fun r h=>isC_wid (hc r h)) (fun r hm h' l U' w'=>by
   have hmem2:=wtRows_mem hm
   have C':=C11.old (U'.old C11.nx)
   rw [cv33]
   exact case_law (n:=n) (d:=d) (by omega) hn C'.fr (Nat.le_trans (Nat.le_trans hnx U11.nx) U'.nx) C'.rv (Nat.lt_of_lt_of_le C'.lv C'.nx) C'.rp (Nat.lt_of_lt_of_le C'.lp C'.nx) (hc r hm) (by omega) w')
  have q12:=q11.later lt11 U12
  obtain ⟨h13,e13,q13,u13⟩:=set_one (pre:=[.int .u8 kd,.str a a',.str e e',vf']) (post:=[.int .i64 p]) q12 vc'
  have U12a:=U11.trans U12
  have U13 : Up h h13:=⟨by rw [u13.nx]; exact U12a.nx,fun b hb=>by rw [u13.get b (bid_ne (by omega))]; exact U12a.get b hb⟩
  have lt13 : h.nx.val < h13.nx.val:=by rw [u13.nx]; exact Nat.lt_of_lt_of_le lt11 U12.nx
  have q13' : Row (h13.t.get h.nx) 6 [.int .u8 kd,.str a a',.str e e',vf',vc',.int .i64 p]:=q13
  have rk13 : Row (h13.t.get pk) 4 ([] ++ v :: post):=rk.later (by have:=C.lk; have:=C.nx; omega) U13
  have hoff : ∀ x,h.nx.val ≤ x→Off v x:=fun x hx=>W.low (.inr hx)
  have wr : RowA h13 (fun x=>lo ≤ x∧x < h13.nx.val∧Off v x) ts[i] [.int .u8 kd,.str a a',.str e e',vf',vc',.int .i64 p]:=by
   rw [hre]
   refine .cons (.i _ _) (.cons (.s _ _ ha) (.cons (.s _ _ he) (.cons ?_ (.cons ?_ (.cons (.i _ _) .nil)))))
   · exact wf'.mv (fun x hx=>⟨by have:=C.nx; have:=U9.nx; have:=hx.1; omega,by rw [u13.nx]; have:=hx.2; have:=U12.nx; rw [u11.nx] at this; omega,hoff x (Nat.le_trans U9.nx hx.1)⟩) fun b hb=>by
      rw [u13.get b (bid_ne (by have:=hb.1; have:=U9.nx; omega)),U12.get b (by rw [u11.nx]; exact hb.2),u11.get b (bid_ne (by have:=hb.1; have:=U9.nx; omega))]
   · exact wc'.mv (fun x hx=>⟨by have:=C.nx; have:=U11.nx; have:=hx.1; omega,by rw [u13.nx]; exact hx.2,hoff x (Nat.le_trans U11.nx hx.1)⟩) fun b hb=>by
      rw [u13.get b (bid_ne (by have:=hb.1; omega))]
  obtain ⟨h14,h15,m,h16,f1,f2,f3,f4,f5,f6,f7,f8⟩:=push (pre:=[]) (Nat.le_trans C.nx U13.nx) C.lk (W.up U13) rk13 (by omega) (by rw [hre]; rfl) q13' lt13 rfl wr (by rw [List.length_take]; omega)
  refine ⟨h10,vf',h11,h12,vc',h13,h14,h15,m,h16,fun q=>load1k_law C9.rv rfl q,fun q=>load1k_law q9 rfl q,ef,wf'.onek,e11,fun q=>load1k_law q11 rfl q,ec,wc'.onek,e13,fun q=>load1k_law rk13 rfl q,fun q=>loadk_law q13' (o:=0) (n:=6) (by simp) q,fun q=>row_one (g:=6) rfl q,f1,f2,f3,f4,f5,O.trans ((U13.old C.nx).trans f8),f6,?_⟩
  rw [List.take_succ_eq_append_getElem hi]
  exact f7
 have n1:=ilt_true hi
 have n2 : Nat.blt i ts.length = true:=blt_of hi
 have n3:=ad_nat (a:=i) (b:=1) (by omega)
 subst hv5
 by_cases hk : ieq kd (.ofNat 1) = true
 · obtain ⟨h8,em,U8⟩:=C7.fr.mean (n:=n) (d:=d) (by omega) hn (k:=0) (a:=e) (a':=e') (by omega) (by omega)
   have row8 : Row (h8.t.get h.nx) 6 ([.int .u8 kd,.str a a'] ++ .str e e' :: [vf,vc,.int .i64 p]):=row7.later lt7 U8
   obtain ⟨h9,e9,row9,u9⟩:=set_one row8 (.str e e')
   have d9 : ∀ q : Heap→Res,words.store h8 h.nx 2 1 [.str e e'] q = q h9:=e9
   have U78:=U7.trans U8
   obtain ⟨h10,vf',h11,h12,vc',h13,h14,h15,m,h16,g1,g2,g3,g4,g5,g6,g7,g8,g9,g10,g11,g12,g13,g14,g15,g16,g17,g18,g19,g20⟩:=rest h9 ⟨by rw [u9.nx]; exact U78.nx,fun b hb=>by rw [u9.get b (bid_ne (by omega))]; exact U78.get b hb⟩ row9 (by rw [u9.nx]; exact Nat.lt_of_lt_of_le lt7 U8.nx)
   refine ⟨h16,_,?_,g18,g19,g20⟩
   simp -implicitDefEqProofs only [b20_1,↓n1,↓n2,↓a1,↓d5,↓d6,↓cp,↓c1,↓sh0,↓sha,↓hcat,↓d7,↓c0,↓hk,↓cv',↓c2,↓em,↓d9,↓g1,↓g2,↓g3,↓g4,↓g5,↓g6,↓g7,↓g8,↓g9,↓g10,↓g11,↓g12,↓g13,↓g14,↓g15,↓g16,↓g17,↓n3,↓evR]
 · have hk : ieq kd (.ofNat 1) = false:=by simpa using hk
   obtain ⟨h10,vf',h11,h12,vc',h13,h14,h15,m,h16,g1,g2,g3,g4,g5,g6,g7,g8,g9,g10,g11,g12,g13,g14,g15,g16,g17,g18,g19,g20⟩:=rest h7 U7 row7 lt7
   refine ⟨h16,_,?_,g18,g19,g20⟩
   simp -implicitDefEqProofs only [b20_1,↓n1,↓n2,↓a1,↓d5,↓d6,↓cp,↓c1,↓sh0,↓sha,↓hcat,↓d7,↓c0,↓hk,↓g1,↓g2,↓g3,↓g4,↓g5,↓g6,↓g7,↓g8,↓g9,↓g10,↓g11,↓g12,↓g13,↓g14,↓g15,↓g16,↓g17,↓n3,↓evR]
theorem types_loop (hd : 11 < d) (hn : 1000000 < n) {hs : Heap} {ts : List (List Tr)} {v5 x1 x2 : V} {post : List V} (C : It hs lo pk pf s pv pp) (hN : N ≤ pk.val) (ht : ∀ r ∈ ts,IsT r) (hw : wtRows ts ≤ 1000000) (w : CellR hs N (.sl 6 ts) v5) :
 ∀ (j : Nat) {i q : Nat} {h : Heap} {v : V},i + j = ts.length→j < q→Old lo pk hs h→Row (h.t.get pk) 4 (v :: post)→OwnT h lo 6 v (ts.take i) →
  ∃ h' v',lpk (b20_1 words n (call tabW n d)) q [.ptr pk 0,x1,x2,.ptr pv 0,.ptr pp 0,v5,I (.ofNat ts.length),I (.ofNat i)] h = .done .normal [.ptr pk 0,x1,x2,.ptr pv 0,.ptr pp 0] h'∧Old lo pk hs h'∧Row (h'.t.get pk) 4 (v' :: post)∧OwnT h' lo 6 v' ts:=by
 intro j
 induction j with
 | zero=>
   intro i q h v hij hq O rk W
   obtain ⟨q,rfl⟩ : ∃ q',q = q' + 1:=⟨q - 1,by omega⟩
   have n1 : ilt (.ofNat i) (.ofNat ts.length) = false:=ilt_false (by omega)
   refine ⟨h,v,?_,O,rk,by rwa [List.take_of_length_le (by omega)] at W⟩
   rw [lpk_succ]
   simp -implicitDefEqProofs only [b20_1,↓n1,↓evR]
 | succ j ih=>
   intro i q h v hij hq O rk W
   obtain ⟨q,rfl⟩ : ∃ q',q = q' + 1:=⟨q - 1,by omega⟩
   obtain ⟨h1,v1,e1,O1,rk1,W1⟩:=type_go (n:=n) (d:=d) (again:=lpk (b20_1 words n (call tabW n d)) q) (x1:=x1) (x2:=x2) hd hn O (C.old O) hN ht hw (w.old O hN C.lk) rk W (by omega)
   obtain ⟨h2,v2,e2,r2⟩:=ih (i:=i + 1) (q:=q) (by omega) (by omega) O1 rk1 W1
   exact ⟨h2,v2,by rw [lpk_succ,e1]; exact e2,r2⟩
end
end Go.Ev.WCP

/- CompsPlain: items: relations, rules. -/
namespace Go.Ev.WCP
open Go.Proofs
set_option maxRecDepth 100000
theorem It.mono {h : Heap} {lo lo' : Nat} {pk pf s pv pp : Bid} (C : It h lo pk pf s pv pp) (h1 : lo ≤ lo') (h2 : lo' ≤ h.nx.val) : It h lo' pk pf s pv pp:=by
 obtain ⟨vt,vb,vr,lt,lb,lr,r,wt,wb,wr,q⟩:=C.rs
 have g : ∀ x,(pk.val < x∧x < lo)→(pk.val < x∧x < lo'):=fun x hx=>by omega
 exact ⟨h2,by have:=C.lk; omega,by have:=C.lf; omega,C.nf,by have:=C.ls; omega,C.ns,by have:=C.lv; omega,C.nv,by have:=C.lp; omega,C.np,C.rf,⟨vt,vb,vr,lt,lb,lr,r,wt.mv g (fun _ _=>rfl),wb.mv g (fun _ _=>rfl),wr.mv g (fun _ _=>rfl),q⟩,C.rv,C.rp⟩
section
variable {n d N lo : Nat} {pk pf s pv pp : Bid}
theorem rel_go (hd : 9 < d) (hn : 1000000 < n) {again : List V→Heap→Res} {hs h : Heap} {rs : List (List Tr)} {v v5 x1 x2 v0 : V} {post : List V} {i : Nat} (O : Old lo pk hs h) (C : It h lo pk pf s pv pp) (hN : N ≤ pk.val) (hr : ∀ r ∈ rs,IsR r) (hw : wtRows rs ≤ 1000000) (w : CellR h N (.sl 6 rs) v5)
 (rk : Row (h.t.get pk) 4 ([v0] ++ v :: post)) (W : OwnT h lo 6 v (rs.take i)) (hi : i < rs.length) :
 ∃ h' v',b20_2 words n (call tabW n d) again [.ptr pk 0,x1,x2,.ptr pv 0,.ptr pp 0,v5,I (.ofNat rs.length),I (.ofNat i)] h = again [.ptr pk 0,x1,x2,.ptr pv 0,.ptr pp 0,v5,I (.ofNat rs.length),I (.ofNat (i + 1))] h'∧Old lo pk hs h'∧Row (h'.t.get pk) 4 ([v0] ++ v' :: post)∧OwnT h' lo 6 v' (rs.take (i + 1)):=by
 have hlen:=wtRows_len rs
 obtain ⟨a,a',fs,x,y,z,p,hre,hf,hwt⟩:=isR_eq (hr _ (List.getElem_mem hi))
 have hmem:=wtRows_mem (List.getElem_mem hi)
 have hfl:=wtRows_len fs
 have ha : a' < 256 ^ a:=w.txt hi (j:=0) (by rw [hre]; rfl)
 obtain ⟨b,o,c,vf,hv5,wf,l1,ld⟩:=relIn w hi hre
 obtain ⟨h5,h6,e5,e6,row6,U6,lt6⟩:=new_store h (g:=6) (z:=[.str 0 0,.nils,.bool .false,.bool .false,.bool .false,ik 0]) (l:=[.str a a',vf,.bool x,.bool y,.bool z,.int .i64 p]) rfl rfl (by omega)
 obtain ⟨h7,e7,row7,u7⟩:=set_one (pre:=[]) (post:=[vf,.bool x,.bool y,.bool z,.int .i64 p]) row6 (.str a a')
 have hnx : N ≤ h.nx.val:=by have:=C.lk; have:=C.nx; omega
 have U7 : Up h h7:=⟨by rw [u7.nx]; exact U6.nx,fun b hb=>(u7.get b (bid_ne (by omega))).trans (U6.get b hb)⟩
 have lt7 : h.nx.val < h7.nx.val:=by rw [u7.nx]; exact lt6
 have d5 : ∀ q,words.new h (.arr 6 1 (repT [.str 0 0,.nils,.bool .false,.bool .false,.bool .false,ik 0] 1 1) .false) q = q h.nx h5:=e5
 have d6 : ∀ q : Heap→Res,words.store h5 h.nx 0 6 [.str a a',vf,.bool x,.bool y,.bool z,.int .i64 p] q = q h6:=e6
 have d7 : ∀ q : Heap→Res,words.store h6 h.nx 0 1 [.str a a'] q = q h7:=e7
 have a1 : ∀ q : List V→Res,words.load h b (Nat.add o (Nat.mul i 6)) 6 q = q [.str a a',vf,.bool x,.bool y,.bool z,.int .i64 p]:=ld
 have C6:=C.old (U6.old C.nx)
 have C7:=C.old (U7.old C.nx)
 have cp : ∀ q : V→Res,words.load1 h6 pp 0 q = q (.str 0 0):=fun q=>load1k_law C6.rp rfl q
 have c0 : ∀ q : V→Res,words.load1 h6 h.nx 0 q = q (.str a a'):=fun q=>load1k_law row6 rfl q
 have c1 : ∀ q : V→Res,words.load1 h7 h.nx 1 q = q vf:=fun q=>load1k_law row7 rfl q
 have cv' : ∀ q : V→Res,words.load1 h7 pv 0 q = q (.ptr pf 0):=fun q=>load1k_law C7.rv rfl q
 have sh0 : ∀ x,short 0 x = x:=fun x=>short_le (by omega) x
 have sha : ∀ x,short a x = x:=fun x=>short_le (by omega) x
 have hcat:=cat_nil a a'
 obtain ⟨h10,vf',ef,U10,wf'⟩:=fields_law (n:=n) (d:=d) (by omega) hn C7.fr (Nat.le_trans hnx U7.nx) hf (by omega) (wf.to hnx U7)
 have q10 : Row (h10.t.get h.nx) 6 ([.str a a'] ++ vf :: [.bool x,.bool y,.bool z,.int .i64 p]):=row7.later lt7 U10
 obtain ⟨h11,e11,q11,u11⟩:=set_one q10 vf'
 have q11' : Row (h11.t.get h.nx) 6 [.str a a',vf',.bool x,.bool y,.bool z,.int .i64 p]:=q11
 have U9a:=U7.trans U10
 have U11 : Up h h11:=⟨by rw [u11.nx]; exact U9a.nx,fun b hb=>by rw [u11.get b (bid_ne (by omega))]; exact U9a.get b hb⟩
 have lt11 : h.nx.val < h11.nx.val:=by rw [u11.nx]; exact Nat.lt_of_lt_of_le lt7 U10.nx
 have d11 : ∀ q : Heap→Res,words.store h10 h.nx 1 1 [vf'] q = q h11:=e11
 have rk11 : Row (h11.t.get pk) 4 ([v0] ++ v :: post):=rk.later (by have:=C.lk; have:=C.nx; omega) U11
 have hoff : ∀ x,h.nx.val ≤ x→Off v x:=fun x hx=>W.low (.inr hx)
 have wr : RowA h11 (fun x=>lo ≤ x∧x < h11.nx.val∧Off v x) rs[i] [.str a a',vf',.bool x,.bool y,.bool z,.int .i64 p]:=by
  rw [hre]
  refine .cons (.s _ _ ha) (.cons ?_ (.cons (.b _) (.cons (.b _) (.cons (.b _) (.cons (.i _ _) .nil)))))
  exact wf'.mv (fun x hx=>⟨by have:=C.nx; have:=U7.nx; have:=hx.1; omega,by rw [u11.nx]; exact hx.2,hoff x (Nat.le_trans U7.nx hx.1)⟩) fun b hb=>by
   rw [u11.get b (bid_ne (by have:=hb.1; omega))]
 obtain ⟨h14,h15,m,h16,f1,f2,f3,f4,f5,f6,f7,f8⟩:=push (pre:=[v0]) (Nat.le_trans C.nx U11.nx) C.lk (W.up U11) rk11 (by omega) (by rw [hre]; rfl) q11' lt11 rfl wr (by rw [List.length_take]; omega)
 have g1 : ∀ q : V→Res,words.load1 h11 pk (Nat.add 0 1) q = q v:=fun q=>load1k_law rk11 (by simp) q
 have g2 : ∀ q : List V→Res,words.load h11 h.nx 0 6 q = q [.str a a',vf',.bool x,.bool y,.bool z,.int .i64 p]:=fun q=>loadk_law q11' (o:=0) (n:=6) (by simp) q
 have g3 : ∀ q,words.row 6 1 [.str a a',vf',.bool x,.bool y,.bool z,.int .i64 p] q = q (.lf [.str a a',vf',.bool x,.bool y,.bool z,.int .i64 p]):=fun q=>row_one (g:=6) rfl q
 have g4 : ∀ q : V→Res,words.load1 h14 pk (Nat.add 0 1) q = q v:=f2
 have g5 : ∀ q : Heap→Res,words.store h15 pk (Nat.add 0 1) 1 [.slice h14.nx 0 m none 6] q = q h16:=f5
 have n1:=ilt_true hi
 have n2 : Nat.blt i rs.length = true:=blt_of hi
 have n3:=ad_nat (a:=i) (b:=1) (by omega)
 subst hv5
 refine ⟨h16,_,?_,O.trans ((U11.old C.nx).trans f8),f6,by rw [List.take_succ_eq_append_getElem hi]; exact f7⟩
 simp -implicitDefEqProofs only [b20_2,↓n1,↓n2,↓a1,↓d5,↓d6,↓cp,↓c0,↓sh0,↓sha,↓hcat,↓d7,↓cv',↓c1,↓ef,↓wf'.onek,↓d11,↓g1,↓g2,↓g3,↓f1,↓g4,↓f3,↓f4,↓g5,↓n3,↓evR]
theorem rels_loop (hd : 9 < d) (hn : 1000000 < n) {hs : Heap} {rs : List (List Tr)} {v5 x1 x2 v0 : V} {post : List V} (C : It hs lo pk pf s pv pp) (hN : N ≤ pk.val) (hr : ∀ r ∈ rs,IsR r) (hw : wtRows rs ≤ 1000000) (w : CellR hs N (.sl 6 rs) v5) :
 ∀ (j : Nat) {i q : Nat} {h : Heap} {v : V},i + j = rs.length→j < q→Old lo pk hs h→Row (h.t.get pk) 4 ([v0] ++ v :: post)→OwnT h lo 6 v (rs.take i) →
  ∃ h' v',lpk (b20_2 words n (call tabW n d)) q [.ptr pk 0,x1,x2,.ptr pv 0,.ptr pp 0,v5,I (.ofNat rs.length),I (.ofNat i)] h = .done .normal [.ptr pk 0,x1,x2,.ptr pv 0] h'∧Old lo pk hs h'∧Row (h'.t.get pk) 4 ([v0] ++ v' :: post)∧OwnT h' lo 6 v' rs:=by
 intro j
 induction j with
 | zero=>
   intro i q h v hij hq O rk W
   obtain ⟨q,rfl⟩ : ∃ q',q = q' + 1:=⟨q - 1,by omega⟩
   have n1 : ilt (.ofNat i) (.ofNat rs.length) = false:=ilt_false (by omega)
   refine ⟨h,v,?_,O,rk,by rwa [List.take_of_length_le (by omega)] at W⟩
   rw [lpk_succ]
   simp -implicitDefEqProofs only [b20_2,↓n1,↓evR]
 | succ j ih=>
   intro i q h v hij hq O rk W
   obtain ⟨q,rfl⟩ : ∃ q',q = q' + 1:=⟨q - 1,by omega⟩
   obtain ⟨h1,v1,e1,O1,rk1,W1⟩:=rel_go (n:=n) (d:=d) (again:=lpk (b20_2 words n (call tabW n d)) q) (x1:=x1) (x2:=x2) hd hn O (C.old O) hN hr hw (w.old O hN C.lk) rk W (by omega)
   obtain ⟨h2,v2,e2,r2⟩:=ih (i:=i + 1) (q:=q) (by omega) (by omega) O1 rk1 W1
   exact ⟨h2,v2,by rw [lpk_succ,e1]; exact e2,r2⟩
theorem rule_go {W0 : Nat} (hd : 2 * W0 + 13 ≤ d) (hn : 1000000 < n) {again : List V→Heap→Res} {hs h : Heap} {us : List (List Tr)} {v v5 v0 v1 : V} {post : List V} {i : Nat} (O : Old lo pk hs h) (C : It h lo pk pf s pv pp) (hN : N ≤ pk.val) (hr : ∀ r ∈ us,IsRu r) (hw : wtRows us ≤ W0) (hW : W0 ≤ 1000000) (w : CellR h N (.sl 4 us) v5)
 (rk : Row (h.t.get pk) 4 ([v0,v1] ++ v :: post)) (W : OwnT h lo 4 v (us.take i)) (hi : i < us.length) :
 ∃ h' v',b20_3 words n (call tabW n d) again [.ptr pk 0,.nils,.ptr pv 0,v5,I (.ofNat us.length),I (.ofNat i)] h = again [.ptr pk 0,.nils,.ptr pv 0,v5,I (.ofNat us.length),I (.ofNat (i + 1))] h'∧Old lo pk hs h'∧Row (h'.t.get pk) 4 ([v0,v1] ++ v' :: post)∧OwnT h' lo 4 v' (us.take (i + 1)):=by
 have hlen:=wtRows_len us
 obtain ⟨a,a',args,body,p,hre,hargs,hbody,hwt⟩:=isRu_eq (hr _ (List.getElem_mem hi))
 have hmem:=wtRows_mem (List.getElem_mem hi)
 have ha : a' < 256 ^ a:=w.txt hi (j:=0) (by rw [hre]; rfl)
 obtain ⟨b,o,c,va,vb,hv5,wa,wb,l1,l2,l3,l4,ld⟩:=ruleIn w hi hre
 obtain ⟨h5,h6,e5,e6,row6,U6,lt6⟩:=new_store h (g:=4) (z:=[.str 0 0,.nils,.nils,ik 0]) (l:=[.str a a',va,vb,.int .i64 p]) rfl rfl (by omega)
 have hnx : N ≤ h.nx.val:=by have:=C.lk; have:=C.nx; omega
 have d5 : ∀ q,words.new h (.arr 4 1 (repT [.str 0 0,.nils,.nils,ik 0] 1 1) .false) q = q h.nx h5:=e5
 have d6 : ∀ q : Heap→Res,words.store h5 h.nx 0 4 [.str a a',va,vb,.int .i64 p] q = q h6:=e6
 have a1 : ∀ q : List V→Res,words.load h b (Nat.add o (Nat.mul i 4)) 4 q = q [.str a a',va,vb,.int .i64 p]:=ld
 have C6:=C.old (U6.old C.nx)
 have c0 : ∀ q : V→Res,words.load1 h6 h.nx 0 q = q (.str a a'):=fun q=>load1k_law row6 rfl q
 have cv6 : ∀ q : V→Res,words.load1 h6 pv 0 q = q (.ptr pf 0):=fun q=>load1k_law C6.rv rfl q
 have e29 : call tabW n d f29 [.nils,.str a a'] h6 = .ret (.bool false) h6:=contains_law (n:=n) (d:=d) (l:=[]) (A:=fun _=>True) (by omega) (show CellA h6 _ (.sl 1 (txs [])) .nils from .nils 1) (by simp) (by simp; omega)
 obtain ⟨h7,em,U7⟩:=C6.fr.mean (n:=n) (d:=d) (by omega) hn (k:=2) (a:=a) (a':=a') (by omega) (by omega)
 have row7 : Row (h7.t.get h.nx) 4 ([] ++ .str a a' :: [va,vb,.int .i64 p]):=row6.later lt6 U7
 obtain ⟨h8,e8,row8,u8⟩:=set_one row7 (.str a a')
 have U67:=U6.trans U7
 have U8 : Up h h8:=⟨by rw [u8.nx]; exact U67.nx,fun b hb=>(u8.get b (bid_ne (by omega))).trans (U67.get b hb)⟩
 have lt8 : h.nx.val < h8.nx.val:=by rw [u8.nx]; exact Nat.lt_of_lt_of_le lt6 U7.nx
 have C8:=C.old (U8.old C.nx)
 have d8 : ∀ q : Heap→Res,words.store h7 h.nx 0 1 [.str a a'] q = q h8:=e8
 have c1 : ∀ q : V→Res,words.load1 h8 h.nx 1 q = q va:=fun q=>load1k_law row8 rfl q
 have cv8 : ∀ q : V→Res,words.load1 h8 pv 0 q = q (.ptr pf 0):=fun q=>load1k_law C8.rv rfl q
 obtain ⟨h9,va',ea,U9,wa'⟩:=map_exprs (n:=n) (d:=d) (pf:=pf) (s:=s) (W:=W0) hW hn (by omega) h8 N args va C8.fr (Nat.le_trans hnx U8.nx) hargs (by omega) (wa.to hnx U8)
 have row9 : Row (h9.t.get h.nx) 4 ([.str a a'] ++ va :: [vb,.int .i64 p]):=row8.later lt8 U9
 obtain ⟨h10,e10,row10,u10⟩:=set_one row9 va'
 have U89:=U8.trans U9
 have U10 : Up h h10:=⟨by rw [u10.nx]; exact U89.nx,fun b hb=>(u10.get b (bid_ne (by omega))).trans (U89.get b hb)⟩
 have lt10 : h.nx.val < h10.nx.val:=by rw [u10.nx]; exact Nat.lt_of_lt_of_le lt8 U9.nx
 have C10:=C.old (U10.old C.nx)
 have d10 : ∀ q : Heap→Res,words.store h9 h.nx 1 1 [va'] q = q h10:=e10
 have c2 : ∀ q : V→Res,words.load1 h10 h.nx 2 q = q vb:=fun q=>load1k_law row10 rfl q
 have cv10 : ∀ q : V→Res,words.load1 h10 pv 0 q = q (.ptr pf 0):=fun q=>load1k_law C10.rv rfl q
 obtain ⟨h11,vb',eb,U11,wb'⟩:=map_lits (n:=n) (d:=d) (pf:=pf) (s:=s) (W:=W0) hW hn (by omega) h10 N body vb C10.fr (Nat.le_trans hnx U10.nx) hbody (by omega) (wb.to hnx U10)
 have row11 : Row (h11.t.get h.nx) 4 ([.str a a',va'] ++ vb :: [.int .i64 p]):=row10.later lt10 U11
 obtain ⟨h12,e12,row12,u12⟩:=set_one row11 vb'
 have U1011:=U10.trans U11
 have U12 : Up h h12:=⟨by rw [u12.nx]; exact U1011.nx,fun b hb=>(u12.get b (bid_ne (by omega))).trans (U1011.get b hb)⟩
 have lt12 : h.nx.val < h12.nx.val:=by rw [u12.nx]; exact Nat.lt_of_lt_of_le lt10 U11.nx
 have d12 : ∀ q : Heap→Res,words.store h11 h.nx 2 1 [vb'] q = q h12:=e12
 have row12' : Row (h12.t.get h.nx) 4 [.str a a',va',vb',.int .i64 p]:=row12
 have rk12 : Row (h12.t.get pk) 4 ([v0,v1] ++ v :: post):=rk.later (by have:=C.lk; have:=C.nx; omega) U12
 have hoff : ∀ x,h.nx.val ≤ x→Off v x:=fun x hx=>W.low (.inr hx)
 have wr : RowA h12 (fun x=>lo ≤ x∧x < h12.nx.val∧Off v x) us[i] [.str a a',va',vb',.int .i64 p]:=by
  rw [hre]
  refine .cons (.s _ _ ha) (.cons ?_ (.cons ?_ (.cons (.i _ _) .nil)))
  · exact wa'.mv (fun x hx=>⟨by have:=C.nx; have:=U8.nx; have:=hx.1; omega,by rw [u12.nx]; have:=hx.2; have:=U11.nx; rw [u10.nx] at this; omega,hoff x (Nat.le_trans U8.nx hx.1)⟩) fun b hb=>by
     rw [u12.get b (bid_ne (by have:=hb.1; omega)),U11.get b (by rw [u10.nx]; exact hb.2),u10.get b (bid_ne (by have:=hb.1; omega))]
  · exact wb'.mv (fun x hx=>⟨by have:=C.nx; have:=U10.nx; have:=hx.1; omega,by rw [u12.nx]; exact hx.2,hoff x (Nat.le_trans U10.nx hx.1)⟩) fun b hb=>by
     rw [u12.get b (bid_ne (by have:=hb.1; omega))]
 obtain ⟨h14,h15,m,h16,f1,f2,f3,f4,f5,f6,f7,f8⟩:=push (pre:=[v0,v1]) (Nat.le_trans C.nx U12.nx) C.lk (W.up U12) rk12 (by omega) (by rw [hre]; rfl) row12' lt12 rfl wr (by rw [List.length_take]; omega)
 have g1 : ∀ q : V→Res,words.load1 h12 pk (Nat.add 0 2) q = q v:=fun q=>load1k_law rk12 (by simp) q
 have g2 : ∀ q : List V→Res,words.load h12 h.nx 0 4 q = q [.str a a',va',vb',.int .i64 p]:=fun q=>loadk_law row12' (o:=0) (n:=4) (by simp) q
 have g3 : ∀ q,words.row 4 1 [.str a a',va',vb',.int .i64 p] q = q (.lf [.str a a',va',vb',.int .i64 p]):=fun q=>row_one (g:=4) rfl q
 have g4 : ∀ q : V→Res,words.load1 h14 pk (Nat.add 0 2) q = q v:=f2
 have g5 : ∀ q : Heap→Res,words.store h15 pk (Nat.add 0 2) 1 [.slice h14.nx 0 m none 4] q = q h16:=f5
 have n1:=ilt_true hi
 have n2 : Nat.blt i us.length = true:=blt_of hi
 have n3:=ad_nat (a:=i) (b:=1) (by omega)
 subst hv5
 refine ⟨h16,_,?_,O.trans ((U12.old C.nx).trans f8),f6,by rw [List.take_succ_eq_append_getElem hi]; exact f7⟩
 simp -implicitDefEqProofs only [b20_3,↓n1,↓n2,↓a1,↓d5,↓d6,↓c0,↓e29,↓cv6,↓em,↓d8,↓c1,↓cv8,↓ea,↓wa'.onek,↓d10,↓c2,↓cv10,↓eb,↓wb'.onek,↓d12,↓g1,↓g2,↓g3,↓f1,↓g4,↓f3,↓f4,↓g5,↓n3,↓evR]
theorem rules_loop {W0 : Nat} (hd : 2 * W0 + 13 ≤ d) (hn : 1000000 < n) {hs : Heap} {us : List (List Tr)} {v5 v0 v1 : V} {post : List V} (C : It hs lo pk pf s pv pp) (hN : N ≤ pk.val) (hr : ∀ r ∈ us,IsRu r) (hw : wtRows us ≤ W0) (hW : W0 ≤ 1000000) (w : CellR hs N (.sl 4 us) v5) :
 ∀ (j : Nat) {i q : Nat} {h : Heap} {v : V},i + j = us.length→j < q→Old lo pk hs h→Row (h.t.get pk) 4 ([v0,v1] ++ v :: post)→OwnT h lo 4 v (us.take i) →
  ∃ h' v',lpk (b20_3 words n (call tabW n d)) q [.ptr pk 0,.nils,.ptr pv 0,v5,I (.ofNat us.length),I (.ofNat i)] h = .ret (.tup []) h'∧Old lo pk hs h'∧Row (h'.t.get pk) 4 ([v0,v1] ++ v' :: post)∧OwnT h' lo 4 v' us:=by
 intro j
 induction j with
 | zero=>
   intro i q h v hij hq O rk W
   obtain ⟨q,rfl⟩ : ∃ q',q = q' + 1:=⟨q - 1,by omega⟩
   have n1 : ilt (.ofNat i) (.ofNat us.length) = false:=ilt_false (by omega)
   refine ⟨h,v,?_,O,rk,by rwa [List.take_of_length_le (by omega)] at W⟩
   rw [lpk_succ]
   simp -implicitDefEqProofs only [b20_3,↓n1,↓evR]
 | succ j ih=>
   intro i q h v hij hq O rk W
   obtain ⟨q,rfl⟩ : ∃ q',q = q' + 1:=⟨q - 1,by omega⟩
   obtain ⟨h1,v1',e1,O1,rk1,W1⟩:=rule_go (n:=n) (d:=d) (again:=lpk (b20_3 words n (call tabW n d)) q) hd hn O (C.old O) hN hr hw hW (w.old O hN C.lk) rk W (by omega)
   obtain ⟨h2,v2,e2,r2⟩:=ih (i:=i + 1) (q:=q) (by omega) (by omega) O1 rk1 W1
   exact ⟨h2,v2,by rw [lpk_succ,e1]; exact e2,r2⟩
end
end Go.Ev.WCP

/- CompsPlain: items. -/
namespace Go.Ev.WCP
open Go.Proofs
set_option maxRecDepth 100000
structure Seen (h : Heap) (pk pc pf s : Bid) (v0 v1 v2 : V) : Prop where
 lk : pk.val < h.nx.val
 lc : pc.val < h.nx.val
 lf : pf.val < h.nx.val
 ls : s.val < h.nx.val
 nc : pc ≠ pk
 nf : pf ≠ pk
 ns : s ≠ pk
 rc : Row (h.t.get pc) 12 [.str 0 0,.nils,.str 0 0,.nils,v0,v1,v2,.nils,.nils,.nils,ik 0,.nilp]
 rf : Row (h.t.get pf) 4 [.nils,.nils,.ptr s 0,.nilp]
 rs : ∃ vt vb vr lt lb lr,Row (h.t.get s) 6 [.str 0 0,vt,vb,vr,.nils,.nils]∧CellA h (fun x=>pk.val < x∧x < h.nx.val) (.sl 1 (txs lt)) vt∧CellA h (fun x=>pk.val < x∧x < h.nx.val) (.sl 1 (txs lb)) vb∧CellA h (fun x=>pk.val < x∧x < h.nx.val) (.sl 1 (txs lr)) vr∧lt.length ≤ 1000000∧lb.length ≤ 1000000∧lr.length ≤ 1000000
theorem Seen.up {h h' : Heap} {pk pc pf s : Bid} {v0 v1 v2 : V} (E : Seen h pk pc pf s v0 v1 v2) (U : Up h h') : Seen h' pk pc pf s v0 v1 v2:=by
 obtain ⟨vt,vb,vr,lt,lb,lr,r,wt,wb,wr,q⟩:=E.rs
 have g : ∀ x,(pk.val < x∧x < h.nx.val)→(pk.val < x∧x < h'.nx.val):=fun x hx=>⟨hx.1,Nat.lt_of_lt_of_le hx.2 U.nx⟩
 have e : ∀ b : Bid,(pk.val < b.val∧b.val < h.nx.val)→h'.t.get b = h.t.get b:=fun b hb=>U.get b hb.2
 exact ⟨Nat.lt_of_lt_of_le E.lk U.nx,Nat.lt_of_lt_of_le E.lc U.nx,Nat.lt_of_lt_of_le E.lf U.nx,Nat.lt_of_lt_of_le E.ls U.nx,E.nc,E.nf,E.ns,E.rc.later E.lc U,E.rf.later E.lf U,vt,vb,vr,lt,lb,lr,r.later E.ls U,wt.mv g e,wb.mv g e,wr.mv g e,q⟩
theorem Old_mono {lo lo' : Nat} {s : Bid} {h h' : Heap} (o : Old lo' s h h') (hl : lo ≤ lo') : Old lo s h h':=⟨o.nx,fun b hb hs=>o.get b (by omega) hs⟩
section
variable {n d N : Nat} {pk pc pf s : Bid}
theorem items_law {W0 : Nat} (hd : 2 * W0 + 14 ≤ d) (hn : 1000000 < n) (hW : W0 ≤ 1000000) {h : Heap} {v0 v1 v2 : V} {ts rs us : List (List Tr)} (E : Seen h pk pc pf s v0 v1 v2) (rk : Row (h.t.get pk) 4 [.nils,.nils,.nils,ik 0]) (hN : N ≤ pk.val)
 (ht : ∀ r ∈ ts,IsT r) (hr : ∀ r ∈ rs,IsR r) (hu : ∀ r ∈ us,IsRu r) (hw : wtRows ts + wtRows rs + wtRows us ≤ W0) (w0 : CellR h N (.sl 6 ts) v0) (w1 : CellR h N (.sl 6 rs) v1) (w2 : CellR h N (.sl 4 us) v2) :
 ∃ h' vt vr vu,call tabW n d f20 [.ptr pk 0,.agg 2 [.ptr pc 0,.ptr pf 0],.nils] h = .ret (.tup []) h'∧Row (h'.t.get pk) 4 [vt,vr,vu,ik 0]∧CellA h' (newIn h h') (.sl 6 ts) vt∧CellA h' (newIn h h') (.sl 6 rs) vr∧CellA h' (newIn h h') (.sl 4 us) vu∧Old h.nx.val pk h h':=by
 obtain ⟨d,rfl⟩ : ∃ d',d = d' + 1:=⟨d - 1,by omega⟩
 have hlt:=wtRows_len ts
 have hlr:=wtRows_len rs
 have hlu:=wtRows_len us
 obtain ⟨h0,e0,r0,U0,t0⟩:=new_row h (g:=2) (l:=[.ptr pc 0,.ptr pf 0]) rfl (by omega)
 have z1 : repT [V.nilp] 1 1 = .lf [.nilp]:=by rw [repT_eq]; rfl
 have z2' : repT [V.str 0 0] 1 1 = .lf [.str 0 0]:=by rw [repT_eq]; rfl
 obtain ⟨h1,e1,r1,U1,t1⟩:=new_row h0 (g:=1) (l:=[.nilp]) rfl (by omega)
 obtain ⟨h2,e2,r2,U2,t2⟩:=new_row h1 (g:=1) (l:=[.str 0 0]) rfl (by omega)
 have U02:=U0.trans (U1.trans U2)
 have q12:=r1.later t1 U2
 obtain ⟨h3,e3,r3,u3'⟩:=storek_law (o:=0) (n:=1) (vs:=[.ptr pf 0]) q12 rfl (by simp)
 have ne21 : h1.nx ≠ h0.nx:=bid_ne (by omega)
 have q23 : Row (h3.t.get h1.nx) 1 [.str 0 0]:=by rw [u3'.get _ ne21]; exact r2
 obtain ⟨h4,e4,r4,u4⟩:=storek_law (o:=0) (n:=1) (vs:=[.str 0 0]) q23 rfl (by simp)
 have q34 : Row (h4.t.get h0.nx) 1 [.ptr pf 0]:=by rw [u4.get _ (Ne.symm ne21)]; exact row_ext r3 rfl
 have q44 : Row (h4.t.get h1.nx) 1 [.str 0 0]:=row_ext r4 rfl
 have nx4 : h4.nx = h2.nx:=by rw [u4.nx,u3'.nx]
 have U03 : Up h h3:=⟨by rw [u3'.nx]; exact U02.nx,fun b hb=>by rw [u3'.get b (bid_ne (by have:=U0.nx; omega))]; exact U02.get b hb⟩
 have U04 : Up h h4:=⟨by rw [nx4]; exact U02.nx,fun b hb=>by rw [u4.get b (bid_ne (by have:=U0.nx; have:=U1.nx; omega))]; exact U03.get b hb⟩
 have t04 : h.nx.val < h4.nx.val:=by rw [nx4]; have:=U1.nx; have:=U2.nx; omega
 have t14 : h0.nx.val < h4.nx.val:=by rw [nx4]; have:=U2.nx; omega
 have t24 : h1.nx.val < h4.nx.val:=by rw [nx4]; exact t2
 have r04 : Row (h4.t.get h.nx) 2 [.ptr pc 0,.ptr pf 0]:=by
  rw [u4.get _ (bid_ne (by have:=U1.nx; omega)),u3'.get _ (bid_ne (by omega))]
  exact r0.later t0 (U1.trans U2)
 have E4:=E.up U04
 obtain ⟨vt0,vb0,vr0,lt,lb,lr,rsc,wt,wb,wr,q⟩:=E4.rs
 have C : It h4 h4.nx.val pk pf s h0.nx h1.nx:=⟨Nat.le_refl _,E4.lk,E4.lf,E4.nf,E4.ls,E4.ns,t14,bid_ne (by have:=E.lk; have:=U0.nx; omega),t24,bid_ne (by have:=E.lk; have:=U0.nx; have:=U1.nx; omega),E4.rf,
  ⟨vt0,vb0,vr0,lt,lb,lr,rsc,wt,wb,wr,q⟩,q34,q44⟩
 have rk4 : Row (h4.t.get pk) 4 (.nils :: [.nils,.nils,ik 0]):=rk.later E.lk U04
 have hNh : N ≤ h.nx.val:=by have:=E.lk; omega
 have w04:=w0.to hNh U04
 obtain ⟨h5,vt,e5,O5,rk5,W5⟩:=types_loop (n:=n) (d:=d) (x1:=.nils) (x2:=.ptr h.nx 0) (by omega) hn C hN ht (by omega) w04 ts.length (i:=0) (q:=n) (h:=h4) (v:=.nils) (by omega) (by omega) (.refl _ _ _) rk4 (by rw [List.take_zero]; exact .nils)
 have C5 : It h5 h5.nx.val pk pf s h0.nx h1.nx:=(C.old O5).mono O5.nx (Nat.le_refl _)
 have w15:=(w1.to hNh U04).old O5 hN E4.lk
 obtain ⟨h6,vr,e6,O6,rk6,W6⟩:=rels_loop (n:=n) (d:=d) (x1:=.nils) (x2:=.ptr h.nx 0) (v0:=vt) (by omega) hn C5 hN hr (by omega) w15 rs.length (i:=0) (q:=n) (h:=h5) (v:=.nils) (by omega) (by omega) (.refl _ _ _) rk5 (by rw [List.take_zero]; exact .nils)
 have C6 : It h6 h6.nx.val pk pf s h0.nx h1.nx:=(C5.old O6).mono O6.nx (Nat.le_refl _)
 have w26:=((w2.to hNh U04).old O5 hN E4.lk).old O6 hN C5.lk
 obtain ⟨h7,vu,e7,O7,rk7,W7⟩:=rules_loop (n:=n) (d:=d) (W0:=W0) (v0:=vt) (v1:=vr) (by omega) hn C6 hN hu (by omega) hW w26 us.length (i:=0) (q:=n) (h:=h6) (v:=.nils) (by omega) (by omega) (.refl _ _ _) rk6 (by rw [List.take_zero]; exact .nils)
 have d0 : ∀ q,words.new h (.arr 2 1 (.lf [.ptr pc 0,.ptr pf 0]) .false) q = q h.nx h0:=e0
 have d1 : ∀ q,words.new h0 (.arr 1 1 (repT [.nilp] 1 1) .false) q = q h0.nx h1:=fun q=>by rw [z1]; exact e1 q
 have d2 : ∀ q,words.new h1 (.arr 1 1 (repT [.str 0 0] 1 1) .false) q = q h1.nx h2:=fun q=>by rw [z2']; exact e2 q
 have d3 : ∀ q : Heap→Res,words.store h2 h0.nx 0 1 [.ptr pf 0] q = q h3:=e3
 have d4 : ∀ q : Heap→Res,words.store h3 h1.nx 0 1 [.str 0 0] q = q h4:=e4
 have r02:=r0.later t0 (U1.trans U2)
 have a1 : ∀ q : V→Res,words.load1 h2 h.nx 1 q = q (.ptr pf 0):=fun q=>load1k_law r02 rfl q
 have a2 : ∀ q : V→Res,words.load1 h2 pf (Nat.add 0 2) q = q (.ptr s 0):=fun q=>load1k_law (E.up U02).rf rfl q
 have s2 : ∃ ls,Row (h2.t.get s) 6 ls∧ls[0]? = some (.str 0 0):=by obtain ⟨vt,vb,vr,lt,lb,lr,r,_⟩:=(E.up U02).rs; exact ⟨_,r,rfl⟩
 have s3 : ∃ ls,Row (h3.t.get s) 6 ls∧ls[0]? = some (.str 0 0):=by obtain ⟨vt,vb,vr,lt,lb,lr,r,_⟩:=(E.up U03).rs; exact ⟨_,r,rfl⟩
 obtain ⟨ls2,rs2,ls20⟩:=s2
 obtain ⟨ls3,rs3,ls30⟩:=s3
 have a3 : ∀ q : V→Res,words.load1 h2 s 0 q = q (.str 0 0):=fun q=>load1k_law rs2 ls20 q
 have r03 : Row (h3.t.get h.nx) 2 [.ptr pc 0,.ptr pf 0]:=by rw [u3'.get _ (bid_ne (by omega))]; exact r02
 have b1 : ∀ q : V→Res,words.load1 h3 h.nx 1 q = q (.ptr pf 0):=fun q=>load1k_law r03 rfl q
 have b2 : ∀ q : V→Res,words.load1 h3 pf (Nat.add 0 2) q = q (.ptr s 0):=fun q=>load1k_law (E.up U03).rf rfl q
 have b3 : ∀ q : V→Res,words.load1 h3 s 0 q = q (.str 0 0):=fun q=>load1k_law rs3 ls30 q
 have c1 : ∀ q : V→Res,words.load1 h4 h.nx 0 q = q (.ptr pc 0):=fun q=>load1k_law r04 rfl q
 have c2 : ∀ q : V→Res,words.load1 h4 pc (Nat.add 0 4) q = q v0:=fun q=>load1k_law E4.rc rfl q
 have np0 : h.nx ≠ pk:=bid_ne (by have:=E.lk; omega)
 have r05 : Row (h5.t.get h.nx) 2 [.ptr pc 0,.ptr pf 0]:=by rw [O5.get _ t04 np0]; exact r04
 have rc5 : Row (h5.t.get pc) 12 [.str 0 0,.nils,.str 0 0,.nils,v0,v1,v2,.nils,.nils,.nils,ik 0,.nilp]:=by rw [O5.get _ E4.lc E.nc]; exact E4.rc
 have c3 : ∀ q : V→Res,words.load1 h5 h.nx 0 q = q (.ptr pc 0):=fun q=>load1k_law r05 rfl q
 have c4 : ∀ q : V→Res,words.load1 h5 pc (Nat.add (Nat.add 0 4) 1) q = q v1:=fun q=>load1k_law rc5 rfl q
 have r06 : Row (h6.t.get h.nx) 2 [.ptr pc 0,.ptr pf 0]:=by rw [O6.get _ (Nat.lt_of_lt_of_le t04 O5.nx) np0]; exact r05
 have rc6 : Row (h6.t.get pc) 12 [.str 0 0,.nils,.str 0 0,.nils,v0,v1,v2,.nils,.nils,.nils,ik 0,.nilp]:=by rw [O6.get _ (Nat.lt_of_lt_of_le E4.lc O5.nx) E.nc]; exact rc5
 have c5 : ∀ q : V→Res,words.load1 h6 h.nx 0 q = q (.ptr pc 0):=fun q=>load1k_law r06 rfl q
 have c6 : ∀ q : V→Res,words.load1 h6 pc (Nat.add (Nat.add 0 4) 2) q = q v2:=fun q=>load1k_law rc6 rfl q
 have l0:=w04.lenk
 have l1:=w15.lenk
 have l2:=w26.lenk
 have O67:=Old_mono O7 O6.nx
 have wt7 : CellA h7 (newIn h h7) (.sl 6 ts) vt:=W5.cell.mv (fun x hx=>⟨by omega,Nat.lt_of_lt_of_le hx.2 (Nat.le_trans O6.nx O7.nx)⟩) fun b hb=>by
  have hne : b ≠ pk:=bid_ne (by have:=hb.1; have:=E4.lk; omega)
  rw [O67.get b hb.2 hne,O6.get b hb.2 hne]
 have wr7 : CellA h7 (newIn h h7) (.sl 6 rs) vr:=W6.cell.mv (fun x hx=>⟨by have:=O5.nx; omega,Nat.lt_of_lt_of_le hx.2 O7.nx⟩) fun b hb=>O7.get b hb.2 (bid_ne (by have:=hb.1; have:=C5.lk; omega))
 have wu7 : CellA h7 (newIn h h7) (.sl 4 us) vu:=W7.cell.mv (fun x hx=>⟨by have:=O5.nx; have:=O6.nx; omega,hx.2⟩) fun _ _=>rfl
 have O47 : Old h4.nx.val pk h4 h7:=O5.trans ((Old_mono O6 O5.nx).trans (Old_mono O67 O5.nx))
 refine ⟨h7,vt,vr,vu,?_,rk7,wt7,wr7,wu7,(U04.old (Nat.le_refl _)).trans (Old_mono O47 (by omega))⟩
 rw [call20,sh20]
 simp -implicitDefEqProofs only [↓d0,↓d1,↓d2,↓a1,↓a2,↓a3,↓d3,↓b1,↓b2,↓b3,↓d4,↓c1,↓c2,↓l0,↓e5,↓c3,↓c4,↓l1,↓e6,↓c5,↓c6,↓l2,↓e7,↓evR]
end
end Go.Ev.WCP

/- CompsPlain: scope. -/
namespace Go.Ev.WCP
open Go.Proofs
set_option maxRecDepth 100000
theorem slice_rest (pm : Bid) (h : Heap) (k : V→Heap→Res) : words.slice 2 (mems pm) (.some (I (.ofNat 1))) .none .none h k = k .emp h:=rfl
theorem Mem.keep {h h' : Heap} {lo : Nat} {s pm pc pf : Bid} {v0 v1 v2 : V} (M : Mem h lo s pm pc pf v0 v1 v2) (e1 : h'.t.get pm = h.t.get pm) (e2 : h'.t.get pc = h.t.get pc) (e3 : h'.t.get pf = h.t.get pf) : Mem h' lo s pm pc pf v0 v1 v2:=
 ⟨by rw [e1]; exact M.rm,by rw [e2]; exact M.rc,by rw [e3]; exact M.rf,M.lm,M.lc,M.lf,M.nm,M.nc,M.nf⟩
section
variable {n d N lo : Nat} {pk pm pc pf s : Bid}
theorem scope_law {W0 : Nat} (hd : 2 * W0 + 15 ≤ d) (hn : 1000000 < n) (hW : W0 ≤ 1000000) {h : Heap} {v0 v1 v2 : V} {ts rs us : List (List Tr)} (S : Sc h lo s .nils .nils .nils [] [] []) (M : Mem h lo s pm pc pf v0 v1 v2) (rk : Row (h.t.get pk) 4 [.nils,.nils,.nils,ik 0]) (hks : pk.val < s.val)
 (npm : pm ≠ pk) (npc : pc ≠ pk) (npf : pf ≠ pk) (hN : N ≤ pk.val) (hcl : (ts.flatMap cases4).length ≤ 1000000)
 (ht : ∀ r ∈ ts,IsT r) (hr : ∀ r ∈ rs,IsR r) (hu : ∀ r ∈ us,IsRu r) (hw : wtRows ts + wtRows rs + wtRows us ≤ W0) (w0 : CellR h N (.sl 6 ts) v0) (w1 : CellR h N (.sl 6 rs) v1) (w2 : CellR h N (.sl 4 us) v2) :
 (goodU ts rs = true∧∃ h' vt vr vu,call tabW n d f13 [.ptr pk 0,mems pm,.ptr s 0,.nils] h = .ret (.tup []) h'∧Row (h'.t.get pk) 4 [vt,vr,vu,ik 0]∧CellA h' (fun x=>lo ≤ x∧x < h'.nx.val) (.sl 6 ts) vt∧CellA h' (fun x=>lo ≤ x∧x < h'.nx.val) (.sl 6 rs) vr ∧
   CellA h' (fun x=>lo ≤ x∧x < h'.nx.val) (.sl 4 us) vu∧h.nx.val ≤ h'.nx.val∧∀ b : Bid,b.val < lo→b ≠ s→b ≠ pk→h'.t.get b = h.t.get b) ∨
 (goodU ts rs = false∧∃ h' a e,(e = 150 ∨ e = 170)∧call tabW n d f13 [.ptr pk 0,mems pm,.ptr s 0,.nils] h = .pan (fault a e) h'∧Old lo s h h'):=by
 obtain ⟨d,rfl⟩ : ∃ d',d = d' + 1:=⟨d - 1,by omega⟩
 have hlt:=wtRows_len ts
 have hlr:=wtRows_len rs
 have hNs : N ≤ s.val:=by omega
 rcases open_law (n:=n) (d:=d) (by omega) hn hNs ht hr S M w0 w1 (by omega) hcl (by omega) with ⟨hg,h1,vt0,vb0,vr0,eo,S1,O1⟩ | ⟨hg,h1,a,e,he,eo,O1⟩
 · refine .inl ⟨hg,?_⟩
   have M1:=M.old O1
   have hks' : pk ≠ s:=bid_ne (by omega)
   have hkl : pk.val < lo:=by have:=S.low; omega
   have rk1 : Row (h1.t.get pk) 4 [.nils,.nils,.nils,ik 0]:=by rw [O1.get pk hkl hks']; exact rk
   obtain ⟨h5,h6,a1,a2,a3,a4,U6,row6,lt6⟩:=member_at M1 S1.nx
   have M6:=M1.old (U6.old S1.nx)
   have S6:=S1.up U6
   have g : ∀ x,(lo ≤ x∧x < h6.nx.val)→(pk.val < x∧x < h6.nx.val):=fun x hx=>⟨by omega,hx.2⟩
   have E6 : Seen h6 pk pc pf s v0 v1 v2:=⟨Nat.lt_of_lt_of_le hkl S6.nx,Nat.lt_of_lt_of_le M6.lc S6.nx,Nat.lt_of_lt_of_le M6.lf S6.nx,Nat.lt_of_lt_of_le S6.low S6.nx,npc,npf,Ne.symm hks',M6.rc,M6.rf,
    vt0,vb0,vr0,_,_,_,S6.row,S6.t.cell.mv g (fun _ _=>rfl),S6.b.cell.mv g (fun _ _=>rfl),S6.r.cell.mv g (fun _ _=>rfl),by simp; omega,by simpa using hcl,by simp; omega⟩
   have O6:=O1.trans (U6.old S1.nx)
   obtain ⟨h7,vt,vr,vu,ei,rk7,wt,wr,wu,O7⟩:=items_law (n:=n) (d:=d) (N:=N) (W0:=W0) (by omega) hn hW E6 (rk1.later (Nat.lt_of_lt_of_le hkl S1.nx) U6) hN ht hr hu hw (w0.old O6 hNs S.low) (w1.old O6 hNs S.low) (w2.old O6 hNs S.low)
   have l6:=S6.nx
   have M7 : Mem h7 lo s pm pc pf v0 v1 v2:=M6.keep (O7.get pm (by have:=M.lm; omega) npm) (O7.get pc (by have:=M.lc; omega) npc) (O7.get pf (by have:=M.lf; omega) npf)
   obtain ⟨h8,h9,b1,b2,b3,b4,U9,row9,lt9⟩:=member_at M7 (Nat.le_trans S6.nx O7.nx)
   have M9:=M7.old (U9.old (Nat.le_trans S6.nx O7.nx))
   have c4 : ∀ q : V→Res,words.load1 h9 pc (Nat.add (Nat.add 0 4) 4) q = q .nils:=fun q=>load1k_law M9.rc rfl q
   have c2 : ∀ q : List V→Res,words.load h6 h1.nx 0 2 q = q [.ptr pc 0,.ptr pf 0]:=fun q=>loadk_law (o:=0) (n:=2) row6 (by simp) q
   have n1 : ilt (.ofNat 0) (.ofNat 1) = true:=ilt_true (by omega)
   have n2 : Nat.blt 0 1 = true:=rfl
   have n3 : ilt (.ofNat 1) (.ofNat 1) = false:=ilt_false (by omega)
   have n4 : ilt (.ofNat 0) (.ofNat 0) = false:=ilt_false (by omega)
   have n5 : ad (.ofNat 0) 1 = .ofNat 1:=ad_nat (a:=0) (b:=1) (by omega)
   have sl : ∀ (h : Heap) (k : V→Heap→Res),words.slice 2 (.slice pm 0 1 (.some 1) 2) (.some (V.int .i64 (.ofNat 1))) .none .none h k = k .emp h:=slice_rest pm
   obtain ⟨n',hn'⟩ : ∃ n',n = n' + 1 + 1:=⟨n - 2,by omega⟩
   have st2 : ∀ X : List V→Heap→Res,lpk (b13_2 words n (call tabW n d) X) n [.ptr pk 0,mems pm,.nils,.ptr h1.nx 0,.nils,mems pm,I (.ofNat 1),I (.ofNat 0),.emp,ik 0,ik 0] h6 = X [.ptr pk 0,mems pm,.nils,mems pm,I (.ofNat 1),I (.ofNat 1)] h7:=fun X=>by
    conv=>lhs; rw [show lpk (b13_2 words n (call tabW n d) X) n = lpk (b13_2 words n (call tabW n d) X) (n' + 1 + 1) by rw [← hn']]
    rw [lpk_succ]
    simp -implicitDefEqProofs only [b13_2,↓n4,↓c2,↓ei,↓n5,↓evR]
   have st3 : lpk (b13_3 words n (call tabW n d)) n [.ptr pk 0,mems pm,.nils,mems pm,ik 1,ik 0] h1 = .done .normal [.ptr pk 0,mems pm,.nils] h7:=by
    conv=>lhs; rw [show lpk (b13_3 words n (call tabW n d)) n = lpk (b13_3 words n (call tabW n d)) (n' + 1 + 1) by rw [← hn']]
    rw [lpk_succ]
    simp -implicitDefEqProofs only [b13_3,↓n1,↓n2,↓a1,↓a2,↓a3,↓n5,↓sl,↓st2,↓evR]
    rw [lpk_succ]
    simp -implicitDefEqProofs only [b13_3,↓n3,↓evR]
   have st4 : ∀ X : List V→Heap→Res,lpk (b13_4 words n (call tabW n d) X) n [.ptr pk 0,.nils,.ptr h7.nx 0,mems pm,I (.ofNat 1),I (.ofNat 0),.nils,ik 0,ik 0] h9 = X [.ptr pk 0,.nils,mems pm,I (.ofNat 1),I (.ofNat 1)] h9:=fun X=>by
    conv=>lhs; rw [show lpk (b13_4 words n (call tabW n d) X) n = lpk (b13_4 words n (call tabW n d) X) (n' + 1 + 1) by rw [← hn']]
    rw [lpk_succ]
    simp -implicitDefEqProofs only [b13_4,↓n4,↓n5,↓evR]
   have st5 : lpk (b13_5 words n (call tabW n d)) n [.ptr pk 0,.nils,mems pm,ik 1,ik 0] h7 = .ret (.tup []) h9:=by
    conv=>lhs; rw [show lpk (b13_5 words n (call tabW n d)) n = lpk (b13_5 words n (call tabW n d)) (n' + 1 + 1) by rw [← hn']]
    rw [lpk_succ]
    simp -implicitDefEqProofs only [b13_5,↓n1,↓n2,↓b1,↓b2,↓b3,↓b4,↓c4,↓st4,↓evR]
    rw [lpk_succ]
    simp -implicitDefEqProofs only [b13_5,↓n3,↓evR]
   have mv : ∀ {g : Nat} {rows : List (List Tr)} {v : V},CellA h7 (newIn h6 h7) (.sl g rows) v→CellA h9 (fun x=>lo ≤ x∧x < h9.nx.val) (.sl g rows) v:=fun w=>w.mv (fun x hx=>⟨by have:=hx.1; omega,Nat.lt_of_lt_of_le hx.2 U9.nx⟩) fun b hb=>U9.get b hb.2
   refine ⟨h9,vt,vr,vu,?_,rk7.later (by have:=O7.nx; omega) U9,mv wt,mv wr,mv wu,Nat.le_trans O6.nx (Nat.le_trans O7.nx U9.nx),fun b hb h1' h2'=>?_⟩
   · rw [call13,sh13]
     simp -implicitDefEqProofs only [↓eo,↓st3,↓st5,↓evR]
   · rw [U9.get b (by have:=O7.nx; omega),O7.get b (by omega) h2',O6.get b hb h1']
 · refine .inr ⟨hg,h1,a,e,he,?_,O1⟩
   rw [call13,sh13]
   simp -implicitDefEqProofs only [↓eo,↓evR]
end
end Go.Ev.WCP
