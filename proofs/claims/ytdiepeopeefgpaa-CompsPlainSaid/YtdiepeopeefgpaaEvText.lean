/- EvText: texts joined. -/
import Derived.Test.YtdiepeopeefgpaaEvRules
import Derived.Test.YtdiepeopeefgpaaCpH1
import Derived.Test.YtdiepeopeefgpaaEvAnn
/- CompsPlain: Expand. -/
namespace Go.Ev.WCP
open Go.Proofs
set_option maxRecDepth 100000
theorem tas_fault (a : Int) (e : Nat) (h : Heap) (k : V→Heap→Res) : words.ex (.tas 65 .true (.agg 2 [ik 0,ik 0])) [fault a e] h k = k (.tup [.agg 2 [I a,ik e],.bool true]) h:=rfl
section
variable {n d N : Nat}
theorem expand_law {W0 : Nat} (hd : 2 * W0 + 16 ≤ d) (hn : 1000000 < n) (hW : W0 ≤ 1000000) {h : Heap} {v0 v1 v2 : V} {ts rs us : List (List Tr)} (hN : N ≤ h.nx.val) (hcl : (ts.flatMap cases4).length ≤ 1000000)
 (ht : ∀ r ∈ ts,IsT r) (hr : ∀ r ∈ rs,IsR r) (hu : ∀ r ∈ us,IsRu r) (hw : wtRows ts + wtRows rs + wtRows us ≤ W0) (w0 : CellR h N (.sl 6 ts) v0) (w1 : CellR h N (.sl 6 rs) v1) (w2 : CellR h N (.sl 4 us) v2) :
 ∃ h' p0 p1 p2 at_ e,call tabW n d f6 [.agg 6 [v0,v1,v2,.nils,.nils,.nils]] h = .ret (.tup [.agg 3 [p0,p1,p2],I at_,ik e]) h'∧Up h h' ∧
  ((goodU ts rs = false∧(e = 150 ∨ e = 170)) ∨ (goodU ts rs = true∧e = 3∧(256 < ts.length ∨ 256 < rs.length ∨ 1024 < us.length)) ∨
   (goodU ts rs = true∧e = 0∧CellA h' (newIn h h') (.sl 6 ts) p0∧CellA h' (newIn h h') (.sl 6 rs) p1∧CellA h' (newIn h h') (.sl 4 us) p2)):=by
 obtain ⟨d,rfl⟩ : ∃ d',d = d' + 1:=⟨d - 1,by omega⟩
 have z3' : repT [V.nils,.nils,.nils] 1 1 = .lf [.nils,.nils,.nils]:=by rw [repT_eq]; rfl
 have z1 : repT [ik 0] 1 1 = .lf [ik 0]:=by rw [repT_eq]; rfl
 obtain ⟨h0,e0,r0,U0,t0⟩:=new_row h (g:=6) (l:=[v0,v1,v2,.nils,.nils,.nils]) rfl (by omega)
 obtain ⟨h1,e1,r1,U1,t1⟩:=new_row h0 (g:=3) (l:=[.nils,.nils,.nils]) rfl (by omega)
 obtain ⟨h2,e2,r2,U2,t2⟩:=new_row h1 (g:=1) (l:=[ik 0]) rfl (by omega)
 obtain ⟨h3,e3,r3,U3,t3⟩:=new_row h2 (g:=1) (l:=[ik 0]) rfl (by omega)
 obtain ⟨h4,e4,r4,U4,t4⟩:=new_row h3 (g:=4) (l:=[.nils,.nils,.nils,ik 0]) rfl (by omega)
 obtain ⟨h5,e5,r5,U5,t5⟩:=new_row h4 (g:=6) (l:=[.str 0 0,.nils,.nils,.nils,.nils,.nils]) rfl (by omega)
 obtain ⟨h6,e6,r6,U6,t6⟩:=new_row h5 (g:=12) (l:=[.str 0 0,.nils,.str 0 0,.nils,v0,v1,v2,.nils,.nils,.nils,ik 0,.nilp]) rfl (by omega)
 obtain ⟨h7,e7,r7,U7,t7⟩:=new_row h6 (g:=4) (l:=[.nils,.nils,.ptr h4.nx 0,.nilp]) rfl (by omega)
 obtain ⟨h8,e8,r8,U8,t8⟩:=new_row h7 (g:=2) (l:=[.ptr h5.nx 0,.ptr h6.nx 0]) rfl (by omega)
 have U78:=U7.trans U8
 have U68:=U6.trans U78
 have U58:=U5.trans U68
 have U48:=U4.trans U58
 have U38:=U3.trans U48
 have U28:=U2.trans U38
 have U18:=U1.trans U28
 have U08:=U0.trans U18
 have m1:=U1.nx
 have m2:=U2.nx
 have m3:=U3.nx
 have m4:=U4.nx
 have m5:=U5.nx
 have m6:=U6.nx
 have m7:=U7.nx
 have m8:=U8.nx
 have m0:=U0.nx
 have d0 : ∀ q,words.new h (.arr 6 1 (.lf [v0,v1,v2,.nils,.nils,.nils]) .false) q = q h.nx h0:=e0
 have d1 : ∀ q,words.new h0 (.arr 3 1 (repT [.nils,.nils,.nils] 1 1) .false) q = q h0.nx h1:=fun q=>by rw [z3']; exact e1 q
 have d2 : ∀ q,words.new h1 (.arr 1 1 (repT [ik 0] 1 1) .false) q = q h1.nx h2:=fun q=>by rw [z1]; exact e2 q
 have d3 : ∀ q,words.new h2 (.arr 1 1 (repT [ik 0] 1 1) .false) q = q h2.nx h3:=fun q=>by rw [z1]; exact e3 q
 have d4 : ∀ q,words.new h3 (.arr 4 1 (.lf [.nils,.nils,.nils,ik 0]) .false) q = q h3.nx h4:=e4
 have d5 : ∀ q,words.new h4 (.arr 6 1 (.lf [.str 0 0,.nils,.nils,.nils,.nils,.nils]) .false) q = q h4.nx h5:=e5
 have a0 : ∀ q : List V→Res,words.load h5 h.nx 0 6 q = q [v0,v1,v2,.nils,.nils,.nils]:=fun q=>loadk_law (o:=0) (n:=6) (r0.later t0 (U1.trans (U2.trans (U3.trans (U4.trans U5))))) (by simp) q
 have d6 : ∀ q,words.new h5 (.arr 12 1 (.lf [.str 0 0,.nils,.str 0 0,.nils,v0,v1,v2,.nils,.nils,.nils,ik 0,.nilp]) .false) q = q h5.nx h6:=e6
 have d7 : ∀ q,words.new h6 (.arr 4 1 (.lf [.nils,.nils,.ptr h4.nx 0,.nilp]) .false) q = q h6.nx h7:=e7
 have rr : ∀ q,words.row 2 1 [.ptr h5.nx 0,.ptr h6.nx 0] q = q (.lf [.ptr h5.nx 0,.ptr h6.nx 0]):=fun q=>row_one (g:=2) rfl q
 have d8 : ∀ q,words.new h7 (.arr 2 1 (.lf [.ptr h5.nx 0,.ptr h6.nx 0]) .false) q = q h7.nx h8:=e8
 have S : Sc h8 h8.nx.val h4.nx .nils .nils .nils [] [] []:=⟨r5.later t5 U68,.nils,.nils,.nils,fun x=>.inl (off_nils x),fun x=>.inl (off_nils x),fun x=>.inl (off_nils x),by omega,Nat.le_refl _⟩
 have M : Mem h8 h8.nx.val h4.nx h7.nx h5.nx h6.nx v0 v1 v2:=⟨r8,r6.later t6 U78,r7.later t7 U8,t8,by omega,by omega,bid_ne (by omega),bid_ne (by omega),bid_ne (by omega)⟩
 have rk : Row (h8.t.get h3.nx) 4 [.nils,.nils,.nils,ik 0]:=r4.later t4 U58
 have q1 : Row (h8.t.get h0.nx) 3 [.nils,.nils,.nils]:=r1.later t1 U28
 have q2 : Row (h8.t.get h1.nx) 1 [ik 0]:=r2.later t2 U38
 have q3 : Row (h8.t.get h2.nx) 1 [ik 0]:=r3.later t3 U48
 have wres : ∀ (h9 : Heap) (l1 : List V) (x y : V),Row (h9.t.get h0.nx) 3 [.nils,.nils,.nils]→Row (h9.t.get h1.nx) 1 [ik 0]→Row (h9.t.get h2.nx) 1 [ik 0]→l1.length = 3→∃ h10 h11 h12,(∀ q : Heap→Res,words.store h9 h0.nx 0 3 l1 q = q h10)∧(∀ q : Heap→Res,words.store h10 h1.nx 0 1 [x] q = q h11)∧(∀ q : Heap→Res,words.store h11 h2.nx 0 1 [y] q = q h12) ∧
  (∀ q : List V→Res,loadk h12 h0.nx 0 3 q = q l1)∧(∀ q : V→Res,load1k h12 h1.nx 0 q = q x)∧(∀ q : V→Res,load1k h12 h2.nx 0 q = q y)∧h12.nx = h9.nx∧(∀ b : Bid,b ≠ h0.nx→b ≠ h1.nx→b ≠ h2.nx→h12.t.get b = h9.t.get b):=by
  intro h9 l1 x y s1 s2 s3 hl
  obtain ⟨h10,f1,g1,k1⟩:=storek_law (o:=0) (n:=3) (vs:=l1) s1 hl (by simp)
  have s2' : Row (h10.t.get h1.nx) 1 [ik 0]:=by rw [k1.get _ (bid_ne (by omega))]; exact s2
  obtain ⟨h11,f2,g2,k2⟩:=storek_law (o:=0) (n:=1) (vs:=[x]) s2' rfl (by simp)
  have s3' : Row (h11.t.get h2.nx) 1 [ik 0]:=by rw [k2.get _ (bid_ne (by omega)),k1.get _ (bid_ne (by omega))]; exact s3
  obtain ⟨h12,f3,g3,k3⟩:=storek_law (o:=0) (n:=1) (vs:=[y]) s3' rfl (by simp)
  have t1' : Row (h12.t.get h0.nx) 3 l1:=by
   rw [k3.get _ (bid_ne (by omega)),k2.get _ (bid_ne (by omega))]
   exact row_ext g1 (by simp only [splice,List.take_zero,List.nil_append]; rw [List.drop_eq_nil_of_le (by simp [hl]),List.append_nil])
  have t2' : Row (h12.t.get h1.nx) 1 [x]:=by rw [k3.get _ (bid_ne (by omega))]; exact row_ext g2 rfl
  have t3' : Row (h12.t.get h2.nx) 1 [y]:=row_ext g3 rfl
  refine ⟨h10,h11,h12,f1,f2,f3,fun q=>?_,fun q=>load1k_law t2' rfl q,fun q=>load1k_law t3' rfl q,by rw [k3.nx,k2.nx,k1.nx],fun b n1 n2 n3=>by rw [k3.get b n3,k2.get b n2,k1.get b n1]⟩
  have:=loadk_law t1' (o:=0) (n:=3) (by omega) q
  rw [List.drop_zero,List.take_of_length_le (by omega)] at this
  exact this
 have hN8 : N ≤ h3.nx.val:=by omega
 rcases scope_law (n:=n) (d:=d) (N:=N) (W0:=W0) (by omega) hn hW S M rk (by omega) (bid_ne (by omega)) (bid_ne (by omega)) (bid_ne (by omega)) hN8 hcl ht hr hu hw (w0.to hN U08) (w1.to hN U08) (w2.to hN U08) with
  ⟨hg,h9,vt,vr,vu,es,rk9,wt,wr,wu,hnx,fr⟩ | ⟨hg,h9,a,e,he,es,O9⟩
 · have s1 : Row (h9.t.get h0.nx) 3 [.nils,.nils,.nils]:=by rw [fr _ (by omega) (bid_ne (by omega)) (bid_ne (by omega))]; exact q1
   have s2 : Row (h9.t.get h1.nx) 1 [ik 0]:=by rw [fr _ (by omega) (bid_ne (by omega)) (bid_ne (by omega))]; exact q2
   have s3 : Row (h9.t.get h2.nx) 1 [ik 0]:=by rw [fr _ (by omega) (bid_ne (by omega)) (bid_ne (by omega))]; exact q3
   have U09 : Up h h9:=⟨by omega,fun b hb=>by rw [fr b (by omega) (bid_ne (by omega)) (bid_ne (by omega)),U08.get b hb]⟩
   have c0 : ∀ q : V→Res,words.load1 h9 h3.nx 0 q = q vt:=fun q=>load1k_law rk9 rfl q
   have c1 : ∀ q : V→Res,words.load1 h9 h3.nx (Nat.add 0 1) q = q vr:=fun q=>load1k_law rk9 rfl q
   have c2 : ∀ q : V→Res,words.load1 h9 h3.nx (Nat.add 0 2) q = q vu:=fun q=>load1k_law rk9 rfl q
   have c3 : ∀ q : List V→Res,words.load h9 h3.nx 0 3 q = q [vt,vr,vu]:=fun q=>loadk_law (o:=0) (n:=3) rk9 (by simp) q
   have k3 : Nat.beq (kno .i64) 3 = true:=rfl
   have l0:=wt.lenk
   have l1:=wr.lenk
   have l2:=wu.lenk
   have fin : ∀ h12 : Heap,h12.nx = h9.nx→(∀ b : Bid,b ≠ h0.nx→b ≠ h1.nx→b ≠ h2.nx→h12.t.get b = h9.t.get b)→Up h h12:=fun h12 e g=>⟨by rw [e]; exact U09.nx,fun b hb=>by rw [g b (bid_ne (by omega)) (bid_ne (by omega)) (bid_ne (by omega))]; exact U09.get b hb⟩
   by_cases x1 : 256 < ts.length
   · have i1 : ilt (.ofNat 256) (.ofNat ts.length) = true:=ilt_true x1
     obtain ⟨h10,h11,h12,f1,f2,f3,f4,f5,f6',f7,f8⟩:=wres h9 [.nils,.nils,.nils] (ik 0) (ik 3) s1 s2 s3 rfl
     refine ⟨h12,.nils,.nils,.nils,.ofNat 0,3,?_,fin h12 f7 f8,.inr (.inl ⟨hg,rfl,.inl x1⟩)⟩
     rw [call6]
     simp -implicitDefEqProofs only [sh6,↓d0,↓d1,↓d2,↓d3,↓d4,↓d5,↓a0,↓d6,↓d7,↓rr,↓d8,↓es,↓c0,↓l0,↓i1,↓f1,↓f2,↓f3,↓f4,↓f5,↓f6',↓evR]
   · have i1 : ilt (.ofNat 256) (.ofNat ts.length) = false:=ilt_false x1
     by_cases x2 : 256 < rs.length
     · have i2 : ilt (.ofNat 256) (.ofNat rs.length) = true:=ilt_true x2
       obtain ⟨h10,h11,h12,f1,f2,f3,f4,f5,f6',f7,f8⟩:=wres h9 [.nils,.nils,.nils] (ik 0) (ik 3) s1 s2 s3 rfl
       refine ⟨h12,.nils,.nils,.nils,.ofNat 0,3,?_,fin h12 f7 f8,.inr (.inl ⟨hg,rfl,.inr (.inl x2)⟩)⟩
       rw [call6]
       simp -implicitDefEqProofs only [sh6,↓d0,↓d1,↓d2,↓d3,↓d4,↓d5,↓a0,↓d6,↓d7,↓rr,↓d8,↓es,↓c0,↓l0,↓i1,↓c1,↓l1,↓i2,↓k3,↓f1,↓f2,↓f3,↓f4,↓f5,↓f6',↓evR]
     · have i2 : ilt (.ofNat 256) (.ofNat rs.length) = false:=ilt_false x2
       by_cases x3 : 1024 < us.length
       · have i3 : ilt (.ofNat 1024) (.ofNat us.length) = true:=ilt_true x3
         obtain ⟨h10,h11,h12,f1,f2,f3,f4,f5,f6',f7,f8⟩:=wres h9 [.nils,.nils,.nils] (ik 0) (ik 3) s1 s2 s3 rfl
         refine ⟨h12,.nils,.nils,.nils,.ofNat 0,3,?_,fin h12 f7 f8,.inr (.inl ⟨hg,rfl,.inr (.inr x3)⟩)⟩
         rw [call6]
         simp -implicitDefEqProofs only [sh6,↓d0,↓d1,↓d2,↓d3,↓d4,↓d5,↓a0,↓d6,↓d7,↓rr,↓d8,↓es,↓c0,↓l0,↓i1,↓c1,↓l1,↓i2,↓k3,↓c2,↓l2,↓i3,↓f1,↓f2,↓f3,↓f4,↓f5,↓f6',↓evR]
       · have i3 : ilt (.ofNat 1024) (.ofNat us.length) = false:=ilt_false x3
         obtain ⟨h10,h11,h12,f1,f2,f3,f4,f5,f6',f7,f8⟩:=wres h9 [vt,vr,vu] (ik 0) (ik 0) s1 s2 s3 rfl
         have mv : ∀ {g : Nat} {rows : List (List Tr)} {v : V},CellA h9 (fun x=>h8.nx.val ≤ x∧x < h9.nx.val) (.sl g rows) v→CellA h12 (newIn h h12) (.sl g rows) v:=fun w=>w.mv (fun x hx=>⟨by have:=hx.1; omega,by rw [f7]; exact hx.2⟩) fun b hb=>f8 b (bid_ne (by have:=hb.1; omega)) (bid_ne (by have:=hb.1; omega)) (bid_ne (by have:=hb.1; omega))
         refine ⟨h12,vt,vr,vu,.ofNat 0,0,?_,fin h12 f7 f8,.inr (.inr ⟨hg,rfl,mv wt,mv wr,mv wu⟩)⟩
         rw [call6]
         simp -implicitDefEqProofs only [sh6,↓d0,↓d1,↓d2,↓d3,↓d4,↓d5,↓a0,↓d6,↓d7,↓rr,↓d8,↓es,↓c0,↓l0,↓i1,↓c1,↓l1,↓i2,↓k3,↓c2,↓l2,↓i3,↓c3,↓f1,↓f2,↓f3,↓f4,↓f5,↓f6',↓evR]
 ·
  have s1 : Row (h9.t.get h0.nx) 3 [.nils,.nils,.nils]:=by rw [O9.get _ (by omega) (bid_ne (by omega))]; exact q1
  have s2 : Row (h9.t.get h1.nx) 1 [ik 0]:=by rw [O9.get _ (by omega) (bid_ne (by omega))]; exact q2
  have s3 : Row (h9.t.get h2.nx) 1 [ik 0]:=by rw [O9.get _ (by omega) (bid_ne (by omega))]; exact q3
  have U09 : Up h h9:=⟨by have:=O9.nx; omega,fun b hb=>by rw [O9.get b (by omega) (bid_ne (by omega)),U08.get b hb]⟩
  have hnx9:=O9.nx
  obtain ⟨ha,hb,ea,eb,r9,U9,t9⟩:=new_store h9 (g:=2) (z:=[ik 0,ik 0]) (l:=[I a,ik e]) rfl rfl (by omega)
  have da : ∀ q,words.new h9 (.arr 2 1 (repT [ik 0,ik 0] 1 1) .false) q = q h9.nx ha:=ea
  have db : ∀ q : Heap→Res,words.store ha h9.nx 0 2 [I a,ik e] q = q hb:=eb
  obtain ⟨h10,h11,h12,f1,f2,f3,f4,f5,f6',f7,f8⟩:=wres hb [.nils,.nils,.nils] (I a) (ik e) (s1.later (by omega) U9) (s2.later (by omega) U9) (s3.later (by omega) U9) rfl
  obtain ⟨h10',f1',g1',k1'⟩:=storek_law (o:=0) (n:=3) (vs:=[.nils,.nils,.nils]) (s1.later (by omega) U9) rfl (by simp)
  have hE : h10 = h10':=by
   have e1:=f1 fun h=>.ret .skip h
   have e2:=f1' fun h=>.ret .skip h
   have : (Res.ret .skip h10) = .ret .skip h10':=by rw [← e1,← e2]; rfl
   injection this
  subst hE
  have s2b : Row (h10.t.get h1.nx) 1 [ik 0]:=by rw [k1'.get _ (bid_ne (by omega))]; exact s2.later (by omega) U9
  obtain ⟨h11',f2',g2',k2'⟩:=storek_law (o:=0) (n:=1) (vs:=[I a]) s2b rfl (by simp)
  have hE2 : h11 = h11':=by
   have e1:=f2 fun h=>.ret .skip h
   have e2:=f2' fun h=>.ret .skip h
   have : (Res.ret .skip h11) = .ret .skip h11':=by rw [← e1,← e2]; rfl
   injection this
  subst hE2
  have r10 : Row (h10.t.get h9.nx) 2 [I a,ik e]:=by rw [k1'.get _ (bid_ne (by omega))]; exact r9
  have r11 : Row (h11.t.get h9.nx) 2 [I a,ik e]:=by rw [k2'.get _ (bid_ne (by omega))]; exact r10
  have p0 : ∀ q : V→Res,words.load1 hb h9.nx 0 q = q (I a):=fun q=>load1k_law r9 rfl q
  have p1 : ∀ q : V→Res,words.load1 hb h9.nx (Nat.add 0 1) q = q (ik e):=fun q=>load1k_law r9 rfl q
  have p2 : ∀ q : V→Res,words.load1 h10 h9.nx 0 q = q (I a):=fun q=>load1k_law r10 rfl q
  have p3 : ∀ q : V→Res,words.load1 h10 h9.nx (Nat.add 0 1) q = q (ik e):=fun q=>load1k_law r10 rfl q
  have p4 : ∀ q : V→Res,words.load1 h11 h9.nx (Nat.add 0 1) q = q (ik e):=fun q=>load1k_law r11 rfl q
  have tf : ∀ k : V→Heap→Res,words.ex (.tas 65 .true (.agg 2 [.int .i64 (.ofNat 0),.int .i64 (.ofNat 0)])) [.iface 65 (.agg 2 [.int .i64 a,.int .i64 (.ofNat e)])] h9 k = k (.tup [.agg 2 [.int .i64 a,.int .i64 (.ofNat e)],.bool true]) h9:=tas_fault a e h9
  refine ⟨h12,.nils,.nils,.nils,a,e,?_,⟨by rw [f7]; exact Nat.le_trans U09.nx U9.nx,fun b hb'=>?_⟩,.inl ⟨hg,he⟩⟩
  · rw [call6]
    simp -implicitDefEqProofs only [sh6,↓d0,↓d1,↓d2,↓d3,↓d4,↓d5,↓a0,↓d6,↓d7,↓rr,↓d8,↓es,↓tf,↓da,↓db,↓p0,↓p1,↓f1,↓p2,↓p3,↓f2,↓p4,↓f3,↓f4,↓f5,↓f6',↓evR]
  · rw [f8 b (bid_ne (by omega)) (bid_ne (by omega)) (bid_ne (by omega)),U9.get b (by omega),U09.get b hb']
end
end Go.Ev.WCP

/- CompsPlain: the law's loops: is a name there twice, or has it a dot. -/
namespace Go.Ev.WCP
open Go.Proofs
set_option maxRecDepth 100000
theorem worksC (n d : Nat) (h : Heap) : call tabW n (d + 1) f5 [] h = .ret (.bool true) h:=by kernel_rfl
theorem tx_push {h : Heap} {lo : Nat} {v : V} {l : List (Nat × Nat)} (W : OwnT h lo 1 v (txs l)) (hlo : lo ≤ h.nx.val) {a a' : Nat} (ha : a' < 256 ^ a) (hs : l.length < 16777216) :
 ∃ h1 h2 m,(∀ q,words.row 1 1 [.str a a'] q = q (.lf [.str a a']))∧(∀ q,words.new h (.arr 1 1 (.lf [.str a a']) .false) q = q h.nx h1)∧(∀ q,words.app 1 v (.slice h.nx 0 1 (.some 1) 1) h1 q = q (.slice h1.nx 0 m none 1) h2) ∧
  OwnT h2 lo 1 (.slice h1.nx 0 m none 1) (txs (l ++ [(a,a')]))∧UpBut v h h2∧h.nx.val ≤ h1.nx.val∧∀ b : Bid,b.val < lo→h2.t.get b = h.t.get b:=by
 obtain ⟨h1,e1,r1,U1,t1⟩:=new_row h (g:=1) (l:=[.str a a']) rfl (by omega)
 obtain ⟨h2,v2,e2,W2,U2,nx2,m,rfl⟩:=app_one (g:=1) (r:=[.s a a']) (W.up U1) (by omega) r1 rfl rfl (Nat.le_trans hlo U1.nx) (.cons (.s _ _ ha) .nil) (by simp; omega)
 refine ⟨h1,h2,m,fun q=>row_one (g:=1) (l:=[.str a a']) rfl q,e1,e2,by simpa [txs] using W2,⟨by have:=U1.nx; omega,fun b hb ho=>(U2.get b (Nat.lt_of_lt_of_le hb U1.nx) ho).trans (U1.get b hb)⟩,U1.nx,fun b hb=>?_⟩
 rw [U2.get b (by have:=U1.nx; omega) (W.low (.inl hb)),U1.get b (by omega)]
section
variable {n d N : Nat} {p0 : Bid}
theorem b3_1_go (hd : 1 < d) (hn : 1000000 < n) {again : List V→Heap→Res} {hs h : Heap} {rs : List (List Tr)} {l0 : List V} {v v1 v2 : V} {x1 : Int} {i : Nat} {b : Bool} {ls : List (Nat × Nat)} (U : Up hs h) (hN : N ≤ hs.nx.val) (hp : p0.val < hs.nx.val) (r0 : Row (h.t.get p0) 6 l0) (hl0 : l0[1]? = some v1) (hr : ∀ r ∈ rs,IsR r) (hw : wtRows rs ≤ 1000000)
 (w : CellR h N (.sl 6 rs) v1) (W : OwnT h hs.nx.val 1 v (txs ls)) (hls : ls.length ≤ 1000000) (hi : i < rs.length) :
 ∃ h' v',b3_1 words n (call tabW n d) again [.ptr p0 0,v2,I x1,.bool b,v,I (.ofNat i)] h = again [.ptr p0 0,v2,I x1,.bool (b || badTx ls (txt0 rs[i]).1 (txt0 rs[i]).2),v',I (.ofNat (i + 1))] h'∧Up hs h'∧OwnT h' hs.nx.val 1 v' (txs (ls ++ [txt0 rs[i]])):=by
 have hlen:=wtRows_len rs
 obtain ⟨a,a',fs,x,y,z,p,hre,hf,hwt⟩:=isR_eq (hr _ (List.getElem_mem hi))
 have hmem:=wtRows_mem (List.getElem_mem hi)
 have ha : a' < 256 ^ a:=w.txt hi (j:=0) (by rw [hre]; rfl)
 have ht0 : txt0 rs[i] = (a,a'):=by rw [hre]; rfl
 rw [ht0]
 obtain ⟨bb,o,c,vf,hv1,wf,l1,ld⟩:=relIn w hi hre
 obtain ⟨h1,h2,m,e1,e2,e3,W2,U2,hn1,fr⟩:=tx_push W U.nx ha (by omega)
 have c1 : ∀ q : V→Res,words.load1 h p0 (Nat.add 0 1) q = q (.slice bb o rs.length c 6):=fun q=>load1k_law r0 (by rw [← hv1]; exact hl0) q
 have a1 : ∀ q : V→Res,words.load1 h bb (Nat.add o (Nat.mul i 6)) q = q (.str a a'):=l1
 have ed:=dotted_law (n:=n) (d:=d) (by omega) (h:=h) (l:=a) (s:=a') (by omega) (by omega)
 have eh:=hasText_law (n:=n) (d:=d) (by omega) W.cell (a:=a) (a':=a') (by omega) (by omega)
 have n1:=ilt_true hi
 have n2 : Nat.blt i rs.length = true:=blt_of hi
 have n3:=ad_nat (a:=i) (b:=1) (by omega)
 refine ⟨h2,.slice h1.nx 0 m none 1,?_,⟨Nat.le_trans U.nx U2.nx,fun b hb=>(fr b hb).trans (U.get b hb)⟩,W2⟩
 cases b with
 | true=>simp -implicitDefEqProofs only [b3_1,↓c1,↓n1,↓n2,↓a1,↓e1,↓e2,↓e3,↓n3,↓Bool.true_or,↓evR]
 | false=>
   cases hx : dotIn a a' with
   | true=>
     rw [hx] at ed
     have hb : badTx ls a a' = true:=by simp [badTx,hx]
     simp -implicitDefEqProofs only [b3_1,↓c1,↓n1,↓n2,↓a1,↓ed,↓e1,↓e2,↓e3,↓n3,↓hb,↓Bool.false_or,↓evR]
   | false=>
     rw [hx] at ed
     have hb : badTx ls a a' = ls.contains (a,a'):=by simp only [badTx,hx,Bool.false_or]
     rw [hb]
     simp -implicitDefEqProofs only [b3_1,↓c1,↓n1,↓n2,↓a1,↓ed,↓eh,↓e1,↓e2,↓e3,↓n3,↓Bool.false_or,↓evR]
theorem not_okTx (b : Bool) (l : List (Nat × Nat)) (x : Nat × Nat) (xs : List (Nat × Nat)) : ((b || badTx l x.1 x.2) || !okTx (l ++ [x]) xs) = (b || !okTx l (x :: xs)):=by
 rw [okTx]
 cases b <;> cases badTx l x.1 x.2 <;> rfl
theorem loop3_1 (hd : 1 < d) (hn : 1000000 < n) {hs : Heap} {rs : List (List Tr)} {l0 : List V} {v1 v2 : V} {x1 : Int} (hN : N ≤ hs.nx.val) (hp : p0.val < hs.nx.val) (r0 : Row (hs.t.get p0) 6 l0) (hl0 : l0[1]? = some v1) (hr : ∀ r ∈ rs,IsR r) (hw : wtRows rs ≤ 1000000) (w : CellR hs N (.sl 6 rs) v1) :
 ∀ (j : Nat) {i q : Nat} {h : Heap} {v : V} {b : Bool} {ls : List (Nat × Nat)},i + j = rs.length→j < q→Up hs h→OwnT h hs.nx.val 1 v (txs ls)→ls.length + j ≤ 1000000 →
  ∃ h',lpk (b3_1 words n (call tabW n d)) q [.ptr p0 0,v2,I x1,.bool b,v,I (.ofNat i)] h = .done .normal [.ptr p0 0,v2,I x1,.bool (b || !okTx ls ((rs.drop i).map txt0))] h'∧Up hs h':=by
 intro j
 induction j with
 | zero=>
   intro i q h v b ls hij hq U W hl
   obtain ⟨q,rfl⟩ : ∃ q',q = q' + 1:=⟨q - 1,by omega⟩
   have n1 : ilt (.ofNat i) (.ofNat rs.length) = false:=ilt_false (by omega)
   have c1 : ∀ q : V→Res,words.load1 h p0 (Nat.add 0 1) q = q v1:=fun q=>load1k_law (r0.later hp U) hl0 q
   have e : rs.drop i = []:=List.drop_eq_nil_of_le (by omega)
   have e2 : (b || !okTx ls ((rs.drop i).map txt0)) = b:=by rw [e]; cases b <;> rfl
   refine ⟨h,?_,U⟩
   rw [lpk_succ,e2]
   simp -implicitDefEqProofs only [b3_1,↓c1,↓w.lenk,↓n1,↓evR]
 | succ j ih=>
   intro i q h v b ls hij hq U W hl
   obtain ⟨q,rfl⟩ : ∃ q',q = q' + 1:=⟨q - 1,by omega⟩
   have hi : i < rs.length:=by omega
   obtain ⟨h1,v',e1,U1,W1⟩:=b3_1_go (n:=n) (d:=d) (again:=lpk (b3_1 words n (call tabW n d)) q) (v2:=v2) (x1:=x1) (b:=b) hd hn U hN hp (r0.later hp U) hl0 hr hw (w.to hN U) W (by omega) hi
   obtain ⟨h2,e2,U2⟩:=ih (i:=i + 1) (q:=q) (h:=h1) (by omega) (by omega) U1 W1 (by simp; omega)
   refine ⟨h2,?_,U2⟩
   rw [lpk_succ,e1,e2,not_okTx,List.drop_eq_getElem_cons hi,List.map_cons]
theorem b3_2_go (hd : 1 < d) (hn : 1000000 < n) {again : List V→Heap→Res} {hs h : Heap} {cs : List (List Tr)} {l0 : List V} {v vt v2 vc : V} {bb : Bid} {o L k : Nat} {c : Option Nat} {x1 : Int} {i : Nat} {b : Bool} {ls : List (Nat × Nat)} (U : Up hs h) (r0 : Row (h.t.get p0) 6 l0) (hl0 : l0[0]? = some (.slice bb o L c 6)) (hk : k < L)
 (l4 : ∀ q,load1k h bb (o + k * 6 + 4) q = q vc) (hr : ∀ r ∈ cs,IsC r) (hw : wtRows cs ≤ 1000000) {A : Nat→Prop} (w : CellA h A (.sl 2 cs) vc) (W : OwnT h hs.nx.val 1 v (txs ls)) (hls : ls.length ≤ 1000000) (hi : i < cs.length) :
 ∃ h1 h2 m,b3_2 words n (call tabW n d) again [.ptr p0 0,v2,I x1,.bool b,vt,v,I (.ofNat k),I (.ofNat i)] h = again [.ptr p0 0,v2,I x1,.bool (b || badTx ls (txt0 cs[i]).1 (txt0 cs[i]).2),vt,.slice h1 0 m none 1,I (.ofNat k),I (.ofNat (i + 1))] h2∧Up hs h2∧OwnT h2 hs.nx.val 1 (.slice h1 0 m none 1) (txs (ls ++ [txt0 cs[i]])) ∧
  UpBut v h h2∧h.nx.val ≤ h1.val:=by
 have hlen:=wtRows_len cs
 obtain ⟨a,a',fs,hre,hf,hwt⟩:=isC_eq (hr _ (List.getElem_mem hi))
 have hmem:=wtRows_mem (List.getElem_mem hi)
 have ha : a' < 256 ^ a:=w.txt hi (j:=0) (by rw [hre]; rfl)
 have ht0 : txt0 cs[i] = (a,a'):=by rw [hre]; rfl
 rw [ht0]
 obtain ⟨b2,o2,c2,vf,hvc,wf,l1,l2,ld⟩:=caseIn w hi hre
 obtain ⟨h1,h2,m,e1,e2,e3,W2,U2,hn1,fr⟩:=tx_push W U.nx ha (by omega)
 have c1 : ∀ q : V→Res,words.load1 h p0 0 q = q (.slice bb o L c 6):=fun q=>load1k_law r0 hl0 q
 have c4 : ∀ q : V→Res,words.load1 h bb (Nat.add (Nat.add o (Nat.mul k 6)) 4) q = q vc:=l4
 have a1 : ∀ q : V→Res,words.load1 h b2 (Nat.add o2 (Nat.mul i 2)) q = q (.str a a'):=l1
 have ed:=dotted_law (n:=n) (d:=d) (by omega) (h:=h) (l:=a) (s:=a') (by omega) (by omega)
 have eh:=hasText_law (n:=n) (d:=d) (by omega) W.cell (a:=a) (a':=a') (by omega) (by omega)
 have n0 : Nat.blt k L = true:=blt_of hk
 have n1:=ilt_true hi
 have n2 : Nat.blt i cs.length = true:=blt_of hi
 have n3:=ad_nat (a:=i) (b:=1) (by omega)
 refine ⟨h1.nx,h2,m,?_,⟨Nat.le_trans U.nx U2.nx,fun b hb=>(fr b hb).trans (U.get b hb)⟩,W2,U2,hn1⟩
 subst hvc
 cases b with
 | true=>simp -implicitDefEqProofs only [b3_2,↓c1,↓n0,↓c4,↓n1,↓n2,↓a1,↓e1,↓e2,↓e3,↓n3,↓Bool.true_or,↓evR]
 | false=>
   cases hx : dotIn a a' with
   | true=>
     rw [hx] at ed
     have hb : badTx ls a a' = true:=by simp [badTx,hx]
     simp -implicitDefEqProofs only [b3_2,↓c1,↓n0,↓c4,↓n1,↓n2,↓a1,↓ed,↓e1,↓e2,↓e3,↓n3,↓hb,↓Bool.false_or,↓evR]
   | false=>
     rw [hx] at ed
     have hb : badTx ls a a' = ls.contains (a,a'):=by simp only [badTx,hx,Bool.false_or]
     rw [hb]
     simp -implicitDefEqProofs only [b3_2,↓c1,↓n0,↓c4,↓n1,↓n2,↓a1,↓ed,↓eh,↓e1,↓e2,↓e3,↓n3,↓Bool.false_or,↓evR]
theorem loop3_2 (hd : 1 < d) (hn : 1000000 < n) {hs : Heap} {cs : List (List Tr)} {l0 : List V} {vt v2 vc : V} {bb : Bid} {o L k : Nat} {c : Option Nat} {x1 : Int} {lt : List (Nat × Nat)} (hN : N ≤ hs.nx.val) (hp : p0.val < hs.nx.val) (r0 : Row (hs.t.get p0) 6 l0) (hl0 : l0[0]? = some (.slice bb o L c 6)) (hbb : bb.val < N) (hk : k < L)
 (l4 : ∀ q,load1k hs bb (o + k * 6 + 4) q = q vc) (hr : ∀ r ∈ cs,IsC r) (hw : wtRows cs ≤ 1000000) (w : CellR hs N (.sl 2 cs) vc) :
 ∀ (j : Nat) {i q : Nat} {h : Heap} {v : V} {b : Bool} {ls : List (Nat × Nat)},i + j = cs.length→j < q→Up hs h→OwnT h hs.nx.val 1 v (txs ls)→OwnT h hs.nx.val 1 vt (txs lt)→Apart v vt→ls.length + j ≤ 1000000 →
  ∃ h' v',lpk (b3_2 words n (call tabW n d)) q [.ptr p0 0,v2,I x1,.bool b,vt,v,I (.ofNat k),I (.ofNat i)] h = .done .normal [.ptr p0 0,v2,I x1,.bool (b || !okTx ls ((cs.drop i).map txt0)),vt,v',I (.ofNat k)] h'∧Up hs h' ∧
   OwnT h' hs.nx.val 1 v' (txs (ls ++ (cs.drop i).map txt0))∧OwnT h' hs.nx.val 1 vt (txs lt)∧Apart v' vt:=by
 intro j
 induction j with
 | zero=>
   intro i q h v b ls hij hq U W Wt ap hl
   obtain ⟨q,rfl⟩ : ∃ q',q = q' + 1:=⟨q - 1,by omega⟩
   have n0 : Nat.blt k L = true:=blt_of hk
   have n1 : ilt (.ofNat i) (.ofNat cs.length) = false:=ilt_false (by omega)
   have c1 : ∀ q : V→Res,words.load1 h p0 0 q = q (.slice bb o L c 6):=fun q=>load1k_law (r0.later hp U) hl0 q
   have c4 : ∀ q : V→Res,words.load1 h bb (Nat.add (Nat.add o (Nat.mul k 6)) 4) q = q vc:=fun q=>(U.ld (Nat.lt_of_lt_of_le hbb hN) q).trans (l4 q)
   have e : cs.drop i = []:=List.drop_eq_nil_of_le (by omega)
   have e2 : (b || !okTx ls ((cs.drop i).map txt0)) = b:=by rw [e]; cases b <;> rfl
   refine ⟨h,v,?_,U,by rw [e]; simpa using W,Wt,ap⟩
   rw [lpk_succ,e2]
   simp -implicitDefEqProofs only [b3_2,↓c1,↓n0,↓c4,↓w.lenk,↓n1,↓evR]
 | succ j ih=>
   intro i q h v b ls hij hq U W Wt ap hl
   obtain ⟨q,rfl⟩ : ∃ q',q = q' + 1:=⟨q - 1,by omega⟩
   have hi : i < cs.length:=by omega
   obtain ⟨h1,h2,m,e1,U2,W2,B2,hn1⟩:=b3_2_go (n:=n) (d:=d) (again:=lpk (b3_2 words n (call tabW n d)) q) (vt:=vt) (v2:=v2) (x1:=x1) (b:=b) hd hn U (r0.later hp U) hl0 hk (fun q=>(U.ld (Nat.lt_of_lt_of_le hbb hN) q).trans (l4 q)) hr hw (w.to hN U) W (by omega) hi
   have Wt2:=Wt.but B2 ap (txs_s _)
   obtain ⟨h3,v',e3,U3,W3,Wt3,ap3⟩:=ih (i:=i + 1) (q:=q) (h:=h2) (by omega) (by omega) U2 W2 Wt2 (Wt.fresh hn1) (by simp; omega)
   have hdrop : (cs.drop i).map txt0 = txt0 cs[i] :: (cs.drop (i + 1)).map txt0:=by rw [List.drop_eq_getElem_cons hi,List.map_cons]
   refine ⟨h3,v',?_,U3,by rw [hdrop]; simpa using W3,Wt3,ap3⟩
   rw [lpk_succ,e1,e3,not_okTx,hdrop]
end
end Go.Ev.WCP

/- CompsPlain: the law's loop over types. -/
namespace Go.Ev.WCP
open Go.Proofs
set_option maxRecDepth 100000
theorem not_okTx2 (b : Bool) (lt lc : List (Nat × Nat)) (x : Nat × Nat) (xs cs rc : List (Nat × Nat)) :
 (((b || badTx lt x.1 x.2) || !okTx lc cs) || !(okTx (lt ++ [x]) xs && okTx (lc ++ cs) rc)) = (b || !(okTx lt (x :: xs) && okTx lc (cs ++ rc))):=by
 rw [okTx,okTx_app]
 cases b <;> cases badTx lt x.1 x.2 <;> cases okTx lc cs <;> cases okTx (lt ++ [x]) xs <;> cases okTx (lc ++ cs) rc <;> rfl
section
variable {n d N : Nat} {p0 : Bid}
theorem b3_3_go (hd : 1 < d) (hn : 1000000 < n) {again : List V→Heap→Res} {hs h : Heap} {ts : List (List Tr)} {l0 : List V} {v vt v1 v2 : V} {x1 : Int} {i : Nat} {b : Bool} {lt lc : List (Nat × Nat)} (U : Up hs h) (hN : N ≤ hs.nx.val) (hp : p0.val < hs.nx.val) (r0 : Row (hs.t.get p0) 6 l0) (hl0 : l0[0]? = some v1) (hr : ∀ r ∈ ts,IsT r) (hw : wtRows ts ≤ 1000000)
 (w : CellR hs N (.sl 6 ts) v1) (Wt : OwnT h hs.nx.val 1 vt (txs lt)) (W : OwnT h hs.nx.val 1 v (txs lc)) (ap : Apart v vt) (hlt : lt.length ≤ 1000000) (hi : i < ts.length) (hlc : lc.length + (cases4 ts[i]).length ≤ 1000000) :
 ∃ h' v' vt',b3_3 words n (call tabW n d) again [.ptr p0 0,v2,I x1,.bool b,vt,v,I (.ofNat i)] h = again [.ptr p0 0,v2,I x1,.bool ((b || badTx lt (txt1 ts[i]).1 (txt1 ts[i]).2) || !okTx lc ((cases4 ts[i]).map txt0)),vt',v',I (.ofNat (i + 1))] h'∧Up hs h' ∧
  OwnT h' hs.nx.val 1 vt' (txs (lt ++ [txt1 ts[i]]))∧OwnT h' hs.nx.val 1 v' (txs (lc ++ (cases4 ts[i]).map txt0))∧Apart v' vt':=by
 have hlen:=wtRows_len ts
 obtain ⟨kd,a,a',e,e',fs,cs,p,hre,hf,hc,hwt⟩:=isT_eq (hr _ (List.getElem_mem hi))
 have hmem:=wtRows_mem (List.getElem_mem hi)
 have hcs:=wtRows_len cs
 have ha : a' < 256 ^ a:=w.txt hi (j:=1) (by rw [hre]; rfl)
 have ht1 : txt1 ts[i] = (a,a'):=by rw [hre]; rfl
 have h4 : cases4 ts[i] = cs:=by rw [hre]; rfl
 rw [h4] at hlc
 rw [ht1,h4]
 obtain ⟨bb,o,c,vf,vc,hv1,wf,wc,l1,l4,ld⟩:=typeIn w hi hre
 have hbb : bb.val < N:=by rw [hv1] at w; exact w.bid
 have r0h:=r0.later hp U
 obtain ⟨h1,h2,m,e1,e2,e3,Wt2,B2,hn1,fr⟩:=tx_push Wt U.nx ha (by omega)
 have U2 : Up hs h2:=⟨Nat.le_trans U.nx B2.nx,fun b hb=>(fr b hb).trans (U.get b hb)⟩
 have W2:=W.but B2 ap.symm (txs_s _)
 have ap2 : Apart v (.slice h1.nx 0 m none 1):=(W.fresh hn1).symm
 obtain ⟨h3,v3,el,U3,W3,Wt3,ap3⟩:=loop3_2 (n:=n) (d:=d) (vt:=.slice h1.nx 0 m none 1) (v2:=v2) (x1:=x1) (lt:=lt ++ [(a,a')]) hd hn hN hp r0 (by rw [hv1] at hl0; exact hl0) hbb hi l4 hc (by omega) wc cs.length (i:=0) (q:=n) (h:=h2) (v:=v) (b:=b || badTx lt a a') (ls:=lc) (by omega) (by omega) U2 W2 Wt2 ap2 (by omega)
 rw [List.drop_zero] at el W3
 have c1 : ∀ q : V→Res,words.load1 h p0 0 q = q (.slice bb o ts.length c 6):=fun q=>load1k_law r0h (by rw [← hv1]; exact hl0) q
 have a1 : ∀ q : V→Res,words.load1 h bb (Nat.add (Nat.add o (Nat.mul i 6)) 1) q = q (.str a a'):=fun q=>(U.ld (Nat.lt_of_lt_of_le hbb hN) q).trans (l1 q)
 have ed:=dotted_law (n:=n) (d:=d) (by omega) (h:=h) (l:=a) (s:=a') (by omega) (by omega)
 have eh:=hasText_law (n:=n) (d:=d) (by omega) Wt.cell (a:=a) (a':=a') (by omega) (by omega)
 have n1:=ilt_true hi
 have n2 : Nat.blt i ts.length = true:=blt_of hi
 have n3:=ad_nat (a:=i) (b:=1) (by omega)
 refine ⟨h3,v3,.slice h1.nx 0 m none 1,?_,U3,Wt3,W3,ap3⟩
 cases b with
 | true=>
   rw [Bool.true_or] at el ⊢
   simp -implicitDefEqProofs only [b3_3,↓c1,↓n1,↓n2,↓a1,↓e1,↓e2,↓e3,↓el,↓n3,↓evR]
 | false=>
   rw [Bool.false_or] at el ⊢
   cases hx : dotIn a a' with
   | true=>
     rw [hx] at ed
     have hb : badTx lt a a' = true:=by simp [badTx,hx]
     rw [hb] at el ⊢
     simp -implicitDefEqProofs only [b3_3,↓c1,↓n1,↓n2,↓a1,↓ed,↓e1,↓e2,↓e3,↓el,↓n3,↓evR]
   | false=>
     rw [hx] at ed
     have hb : badTx lt a a' = lt.contains (a,a'):=by simp only [badTx,hx,Bool.false_or]
     rw [hb] at el ⊢
     simp -implicitDefEqProofs only [b3_3,↓c1,↓n1,↓n2,↓a1,↓ed,↓eh,↓e1,↓e2,↓e3,↓el,↓n3,↓evR]
theorem loop3_3 (hd : 1 < d) (hn : 1000000 < n) {hs : Heap} {ts : List (List Tr)} {l0 : List V} {v1 v2 : V} {x1 : Int} (hN : N ≤ hs.nx.val) (hp : p0.val < hs.nx.val) (r0 : Row (hs.t.get p0) 6 l0) (hl0 : l0[0]? = some v1) (hr : ∀ r ∈ ts,IsT r) (hw : wtRows ts ≤ 1000000) (w : CellR hs N (.sl 6 ts) v1) :
 ∀ (j : Nat) {i q : Nat} {h : Heap} {v vt : V} {b : Bool} {lt lc : List (Nat × Nat)},i + j = ts.length→j < q→Up hs h→OwnT h hs.nx.val 1 vt (txs lt)→OwnT h hs.nx.val 1 v (txs lc)→Apart v vt→lt.length + j ≤ 1000000→lc.length + ((ts.drop i).flatMap cases4).length ≤ 1000000 →
  ∃ h',lpk (b3_3 words n (call tabW n d)) q [.ptr p0 0,v2,I x1,.bool b,vt,v,I (.ofNat i)] h = .done .normal [.ptr p0 0,v2,I x1,.bool (b || !(okTx lt ((ts.drop i).map txt1) && okTx lc (((ts.drop i).flatMap cases4).map txt0)))] h'∧Up hs h':=by
 intro j
 induction j with
 | zero=>
   intro i q h v vt b lt lc hij hq U Wt W ap hl hl2
   obtain ⟨q,rfl⟩ : ∃ q',q = q' + 1:=⟨q - 1,by omega⟩
   have n1 : ilt (.ofNat i) (.ofNat ts.length) = false:=ilt_false (by omega)
   have c1 : ∀ q : V→Res,words.load1 h p0 0 q = q v1:=fun q=>load1k_law (r0.later hp U) hl0 q
   have e : ts.drop i = []:=List.drop_eq_nil_of_le (by omega)
   have e2 : (b || !(okTx lt ((ts.drop i).map txt1) && okTx lc (((ts.drop i).flatMap cases4).map txt0))) = b:=by rw [e]; cases b <;> rfl
   refine ⟨h,?_,U⟩
   rw [lpk_succ,e2]
   simp -implicitDefEqProofs only [b3_3,↓c1,↓w.lenk,↓n1,↓evR]
 | succ j ih=>
   intro i q h v vt b lt lc hij hq U Wt W ap hl hl2
   obtain ⟨q,rfl⟩ : ∃ q',q = q' + 1:=⟨q - 1,by omega⟩
   have hi : i < ts.length:=by omega
   have hdrop : ts.drop i = ts[i] :: ts.drop (i + 1):=List.drop_eq_getElem_cons hi
   rw [hdrop,List.flatMap_cons,List.length_append] at hl2
   obtain ⟨h1,v',vt',e1,U1,Wt1,W1,ap1⟩:=b3_3_go (n:=n) (d:=d) (again:=lpk (b3_3 words n (call tabW n d)) q) (v2:=v2) (x1:=x1) (b:=b) hd hn U hN hp r0 hl0 hr hw w Wt W ap (by omega) hi (by omega)
   obtain ⟨h2,e2,U2⟩:=ih (i:=i + 1) (q:=q) (h:=h1) (by omega) (by omega) U1 Wt1 W1 ap1 (by simp; omega) (by rw [List.length_append,List.length_map]; omega)
   refine ⟨h2,?_,U2⟩
   rw [lpk_succ,e1,e2,hdrop,List.map_cons,List.flatMap_cons,List.map_append,not_okTx2]
theorem cases_len : ∀ {ts : List (List Tr)},(∀ r ∈ ts,IsT r)→(ts.flatMap cases4).length ≤ wtRows ts
 | [],_=>by simp
 | r :: ts,h=>by
   rw [List.flatMap_cons,List.length_append,wtRows]
   have:=cases_len (ts:=ts) fun x hx=>h x (by simp [hx])
   obtain ⟨kd,a,a',e,e',fs,cs,p,rfl,hf,hc,hwt⟩:=isT_eq (h r (by simp))
   have h2:=wtRows_len cs
   show cs.length + _ ≤ _
   omega
theorem plain_law (hd : 10000 ≤ d) (hn : 1000000 < n) {h : Heap} {t0 t1 t2 t3 t4 t5 : Tr} {l : List V} (hN : N ≤ h.nx.val) (hu : IsU [t0,t1,t2,t3,t4,t5]) (hw : RowR h N [t0,t1,t2,t3,t4,t5] l) :
 ∃ h',call tabW n d f3 [.agg 6 l] h = .ret (.bool true) h':=by
 obtain ⟨d,rfl⟩ : ∃ d',d = d' + 1 + 1:=⟨d - 2,by omega⟩
 have hu':=hu
 cases hu with
 | mk ts rs us cs is os ht hr hu hc hi ho=>
   have hw':=hw
   cases hw with | cons w0 hw=>
   cases hw with | cons w1 hw=>
   cases hw with | cons w2 hw=>
   cases hw with | cons w3 hw=>
   cases hw with | cons w4 hw=>
   cases hw with | cons w5 hw=>
   cases hw
   rename_i v0 v1 v2 v3 v4 v5
   obtain ⟨h0,e0,r0,U0,s0⟩:=new_row h (g:=6) (l:=[v0,v1,v2,v3,v4,v5]) rfl (by omega)
   have d0 : ∀ q,words.new h (.arr 6 1 (.lf [v0,v1,v2,v3,v4,v5]) .false) q = q h.nx h0:=e0
   have a0 : ∀ q : List V→Res,words.load h0 h.nx 0 6 q = q [v0,v1,v2,v3,v4,v5]:=fun q=>loadk_law (o:=0) (n:=6) r0 (by simp) q
   obtain ⟨k,h1,ek,U1,k1,k2⟩:=size_unit 3000 (n:=n) (d:=d + 1) (by omega) (by omega) (by omega) h0 N _ _ _ _ _ _ ts rs us _ (Nat.le_trans hN U0.nx) hu' rfl rfl rfl (hw'.to hN U0)
   by_cases hk : k ≤ 3000
   · have hwt:=k2 hk
     have n1 : ilt (.ofNat 3000) (.ofNat k) = false:=ilt_false (by omega)
     have U01:=U0.trans U1
     have r01:=r0.later s0 U1
     have s01:=Nat.lt_of_lt_of_le s0 U1.nx
     have c0 : ∀ q : V→Res,words.load1 h1 h.nx 0 q = q v0:=fun q=>load1k_law r01 rfl q
     have c1 : ∀ q : V→Res,words.load1 h1 h.nx 1 q = q v1:=fun q=>load1k_law r01 rfl q
     have c2 : ∀ q : V→Res,words.load1 h1 h.nx 2 q = q v2:=fun q=>load1k_law r01 rfl q
     obtain ⟨h2,h3,e2,e3,r3,U3,s3⟩:=new_store h1 (g:=6) (z:=[.nils,.nils,.nils,.nils,.nils,.nils]) (l:=[v0,v1,v2,.nils,.nils,.nils]) rfl rfl (by omega)
     have d2 : ∀ q,words.new h1 (.arr 6 1 (repT [.nils,.nils,.nils,.nils,.nils,.nils] 1 1) .false) q = q h1.nx h2:=e2
     have d3 : ∀ q : Heap→Res,words.store h2 h1.nx 0 6 [v0,v1,v2,.nils,.nils,.nils] q = q h3:=e3
     have a3 : ∀ q : List V→Res,words.load h3 h1.nx 0 6 q = q [v0,v1,v2,.nils,.nils,.nils]:=fun q=>loadk_law (o:=0) (n:=6) r3 (by simp) q
     have U03:=U01.trans U3
     have N3:=Nat.le_trans hN U03.nx
     have hcl:=cases_len ht
     have hlt:=wtRows_len ts
     have hlr:=wtRows_len rs
     obtain ⟨h4,p0,p1,p2,at_,e,ex,U4,hres⟩:=expand_law (n:=n) (d:=d + 1) (N:=N) (W0:=3000) (by omega) hn (by omega) N3 (by omega) ht hr hu hwt (w0.to hN U03) (w1.to hN U03) (w2.to hN U03)
     have U04:=U03.trans U4
     obtain ⟨h5,h6,e5,e6,r6,U6,s6⟩:=new_store h4 (g:=3) (z:=[.nils,.nils,.nils]) (l:=[p0,p1,p2]) rfl rfl (by omega)
     have d5 : ∀ q,words.new h4 (.arr 3 1 (repT [.nils,.nils,.nils] 1 1) .false) q = q h4.nx h5:=e5
     have d6 : ∀ q : Heap→Res,words.store h5 h4.nx 0 3 [p0,p1,p2] q = q h6:=e6
     have U06:=U04.trans U6
     have r06 : Row (h6.t.get h.nx) 6 [v0,v1,v2,v3,v4,v5]:=r01.later s01 (U3.trans (U4.trans U6))
     have s06 : h.nx.val < h6.nx.val:=Nat.lt_of_lt_of_le s01 (U3.trans (U4.trans U6)).nx
     have N6:=Nat.le_trans hN U06.nx
     obtain ⟨h7,e7,U7⟩:=loop3_1 (n:=n) (d:=d + 1) (p0:=h.nx) (v2:=.ptr h4.nx 0) (x1:=.ofNat e) (by omega) hn N6 s06 r06 rfl hr (by omega) (w1.to hN U06) rs.length (i:=0) (q:=n) (h:=h6) (v:=.nils) (b:=false) (ls:=[]) (by omega) (by omega) (.refl _) .nils (by simp; omega)
     rw [List.drop_zero,Bool.false_or] at e7
     have U07:=U06.trans U7
     have r07:=r06.later s06 U7
     have s07:=Nat.lt_of_lt_of_le s06 U7.nx
     obtain ⟨h8,e8,U8⟩:=loop3_3 (n:=n) (d:=d + 1) (p0:=h.nx) (v2:=.ptr h4.nx 0) (x1:=.ofNat e) (by omega) hn (Nat.le_trans hN U07.nx) s07 r07 rfl ht (by omega) (w0.to hN U07) ts.length (i:=0) (q:=n) (h:=h7) (v:=.nils) (vt:=.nils) (b:=!okTx [] (rs.map txt0)) (lt:=[]) (lc:=[]) (by omega) (by omega) (.refl _) .nils .nils (fun x=>.inl (off_nils x)) (by simp; omega)
      (by rw [List.drop_zero,List.length_nil]; omega)
     rw [List.drop_zero] at e8
     have hbool : (!okTx [] (rs.map txt0) || !(okTx [] (ts.map txt1) && okTx [] ((ts.flatMap cases4).map txt0))) = !goodU ts rs:=by
      unfold goodU
      cases okTx [] (rs.map txt0) <;> cases okTx [] (ts.map txt1) <;> cases okTx [] ((ts.flatMap cases4).map txt0) <;> rfl
     rw [hbool] at e8
     have U08:=U07.trans U8
     have r08:=r07.later s07 U8
     have b0 : ∀ q : V→Res,words.load1 h8 h.nx 0 q = q v0:=fun q=>load1k_law r08 rfl q
     have b1 : ∀ q : V→Res,words.load1 h8 h.nx (Nat.add 0 1) q = q v1:=fun q=>load1k_law r08 rfl q
     have b2 : ∀ q : V→Res,words.load1 h8 h.nx (Nat.add 0 2) q = q v2:=fun q=>load1k_law r08 rfl q
     have wk:=worksC n d
     have k3 : Nat.beq (kno .i64) 3 = true:=rfl
     have l0:=(w0.to hN U08).lenk
     have l1:=(w1.to hN U08).lenk
     have l2:=(w2.to hN U08).lenk
     rcases hres with ⟨hg,he⟩ | ⟨hg,rfl,hx⟩ | ⟨hg,rfl,q0,q1,q2⟩
     · rw [hg] at e8
       refine ⟨h8,?_⟩
       rcases he with rfl | rfl
       · have i1 : ieq (.ofNat 150) (.ofNat 170) = false:=by rw [ieq_nat]; rfl
         rw [call3,sh3]
         simp -implicitDefEqProofs only [↓d0,↓a0,↓ek,↓n1,↓c0,↓c1,↓c2,↓w0.parts,↓w1.parts,↓w2.parts,↓d2,↓d3,↓a3,↓ex,↓d5,↓d6,↓e7,↓e8,↓i1,↓k3,↓wk,↓evR]
       · rw [call3,sh3]
         simp -implicitDefEqProofs only [↓d0,↓a0,↓ek,↓n1,↓c0,↓c1,↓c2,↓w0.parts,↓w1.parts,↓w2.parts,↓d2,↓d3,↓a3,↓ex,↓d5,↓d6,↓e7,↓e8,↓k3,↓wk,↓evR]
     · rw [hg] at e8
       refine ⟨h8,?_⟩
       by_cases x1 : 256 < ts.length
       · have i1 : ilt (.ofNat 256) (.ofNat ts.length) = true:=ilt_true x1
         rw [call3,sh3]
         simp -implicitDefEqProofs only [↓d0,↓a0,↓ek,↓n1,↓c0,↓c1,↓c2,↓w0.parts,↓w1.parts,↓w2.parts,↓d2,↓d3,↓a3,↓ex,↓d5,↓d6,↓e7,↓e8,↓b0,↓l0,↓i1,↓wk,↓evR]
       · have i1 : ilt (.ofNat 256) (.ofNat ts.length) = false:=ilt_false x1
         by_cases x2 : 256 < rs.length
         · have i2 : ilt (.ofNat 256) (.ofNat rs.length) = true:=ilt_true x2
           rw [call3,sh3]
           simp -implicitDefEqProofs only [↓d0,↓a0,↓ek,↓n1,↓c0,↓c1,↓c2,↓w0.parts,↓w1.parts,↓w2.parts,↓d2,↓d3,↓a3,↓ex,↓d5,↓d6,↓e7,↓e8,↓b0,↓l0,↓i1,↓b1,↓l1,↓k3,↓i2,↓wk,↓evR]
         · have i2 : ilt (.ofNat 256) (.ofNat rs.length) = false:=ilt_false x2
           have i3 : ilt (.ofNat 1024) (.ofNat us.length) = true:=ilt_true (by omega)
           rw [call3,sh3]
           simp -implicitDefEqProofs only [↓d0,↓a0,↓ek,↓n1,↓c0,↓c1,↓c2,↓w0.parts,↓w1.parts,↓w2.parts,↓d2,↓d3,↓a3,↓ex,↓d5,↓d6,↓e7,↓e8,↓b0,↓l0,↓i1,↓b1,↓l1,↓k3,↓i2,↓b2,↓l2,↓i3,↓wk,↓evR]
     · rw [hg] at e8
       have i1 : ieq (.ofNat 0) (.ofNat 3) = false:=by rw [ieq_nat]; rfl
       have U48:=U6.trans (U7.trans U8)
       have r68 : Row (h8.t.get h4.nx) 3 [p0,p1,p2]:=r6.later s6 (U7.trans U8)
       have b3 : ∀ q : List V→Res,words.load h8 h4.nx 0 3 q = q [p0,p1,p2]:=fun q=>loadk_law (o:=0) (n:=3) r68 (by simp) q
       have up : ∀ {t : Tr} {v : V},CellR h N t v→CellR h8 h8.nx.val t v:=fun w=>w.up (Nat.le_trans hN U08.nx) fun b hb=>U08.get b (by omega)
       have uq : ∀ {t : Tr} {v : V},CellA h4 (newIn h3 h4) t v→CellR h8 h8.nx.val t v:=fun w=>w.mv (fun x hx=>Nat.lt_of_lt_of_le hx.2 U48.nx) fun b hb=>U48.get b hb.2
       obtain ⟨h9,sp,U9⟩:=same_prog (n:=n) (d:=d + 1) (W:=3000) (N:=h8.nx.val) (by omega) (by omega) (by omega) (Nat.le_refl _) ht hr hu hwt (uq q0) (uq q1) (uq q2) (up w0) (up w1) (up w2)
       refine ⟨h9,?_⟩
       rw [call3,sh3]
       simp -implicitDefEqProofs only [↓d0,↓a0,↓ek,↓n1,↓c0,↓c1,↓c2,↓w0.parts,↓w1.parts,↓w2.parts,↓d2,↓d3,↓a3,↓ex,↓d5,↓d6,↓e7,↓e8,↓i1,↓b3,↓b0,↓b1,↓b2,↓sp,↓wk,↓evR]
   · have n1 : ilt (.ofNat 3000) (.ofNat k) = true:=ilt_true (by omega)
     refine ⟨h1,?_⟩
     have wk:=worksC n d
     rw [call3,sh3]
     simp -implicitDefEqProofs only [↓d0,↓a0,↓ek,↓n1,↓wk,↓evR]
end
end Go.Ev.WCP

/- EVALUATOR: slice expressions, copying, strings of bytes on a memory that is known. -/
namespace Go.Ev
def packN : List Nat→Nat
 | []=>0
 | b :: l=>b + 256 * packN l
theorem packN_lt {l : List Nat} (h : ∀ x ∈ l,x < 256) : packN l < 256 ^ l.length:=by
 induction l with
 | nil=>simp [packN]
 | cons b l ih=>
   have h1:=ih fun x hx=>h x (List.mem_cons_of_mem _ hx)
   have h2:=h b (by simp)
   simp only [packN,List.length_cons,Nat.pow_succ]; omega
theorem But.up {h h' : Heap} {b : Bid} {n : Nat} (u : But h b h') (hb : n ≤ b.val) : UpTo n h h':=⟨by rw [u.nx]; exact Nat.le_refl _,fun b' h1=>u.get b' (by rintro rfl; omega)⟩
end Go.Ev

/- EVALUATOR: strings as lists of bytes: what the words of strings come to. -/
namespace Go.Ev
def sV (bs : List Nat) : V:=.str bs.length (packN bs)
def Bytes (bs : List Nat) : Prop:=∀ x ∈ bs,x < 256
theorem Bytes.nil : Bytes []:=by intro x hx; cases hx
theorem Bytes.cons {b : Nat} {bs : List Nat} (h : b < 256) (hs : Bytes bs) : Bytes (b :: bs):=by
 intro x hx
 rcases List.mem_cons.1 hx with rfl | hx
 · exact h
 · exact hs x hx
theorem Bytes.append {a b : List Nat} (ha : Bytes a) (hb : Bytes b) : Bytes (a ++ b):=by
 intro x hx
 rcases List.mem_append.1 hx with hx | hx
 · exact ha x hx
 · exact hb x hx
theorem Bytes.take {a : List Nat} (ha : Bytes a) (n : Nat) : Bytes (a.take n):=fun x hx=>ha x (List.mem_of_mem_take hx)
theorem Bytes.drop {a : List Nat} (ha : Bytes a) (n : Nat) : Bytes (a.drop n):=fun x hx=>ha x (List.mem_of_mem_drop hx)
theorem Bytes.tail {b : Nat} {bs : List Nat} (h : Bytes (b :: bs)) : Bytes bs:=fun x hx=>h x (List.mem_cons_of_mem _ hx)
theorem Bytes.head {b : Nat} {bs : List Nat} (h : Bytes (b :: bs)) : b < 256:=h b (by simp)
theorem bytes_in {ρ : Rho} (s : ByteArray) : ∃ bs,Bytes bs∧bs.length = s.size∧VR ρ (sV bs) (.string s):=by
 refine ⟨s.data.toList.map UInt8.toNat,?_,by rw [List.length_map]; rfl,?_⟩
 · intro x hx
   obtain ⟨b,_,rfl⟩:=List.mem_map.1 hx
   exact b.toNat_lt
 · have e : packN (s.data.toList.map UInt8.toNat) = pack s.data.toList:=by
    induction s.data.toList with
    | nil=>rfl
    | cons b l ih=>simp only [List.map_cons,packN,pack,ih]
   rw [sV,e,List.length_map]
   exact .str (dig_pack s.data.toList).symm (pack_lt s.data.toList)
end Go.Ev
