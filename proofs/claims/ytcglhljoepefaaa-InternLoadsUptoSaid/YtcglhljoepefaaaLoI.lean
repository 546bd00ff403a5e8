/- LoI: texts joined. -/
import Derived.Test.YtcglhljoepefaaaLoF
import Derived.Test.YtcglhljoepefaaaIbP
/- InternLoads: the document's Load. -/
namespace Go.Ev.WIB
open Go.Proofs
set_option maxRecDepth 100000
theorem sMM_minU (a b : Nat) (h : Heap) (k : V→Heap→Res) : sMM false (.int .u64 (.ofNat a)) (.int .u64 (.ofNat b)) h k = k (.int .u64 (.ofNat (min a b))) h:=by
 show ifk (Nat.beq (kno .u64) (kno .u64)) (ifk (ilt (.ofNat b) (.ofNat a)) (k (.int .u64 (.ofNat b)) h) (k (.int .u64 (.ofNat a)) h)) .fail = _
 rw [kno_refl,ifk_true,ilt_nat,ifk_eq]
 by_cases hab : b < a
 · rw [if_pos (by simpa using hab),Nat.min_eq_right (by omega)]
 · rw [if_neg (by simpa using hab),Nat.min_eq_left (by omega)]
theorem i64_small {m : Nat} (h : m ≤ 4611686018427387904) : wrapv .i64 (.ofNat m) = .ofNat m:=wrapv_small .i64 m (small_i64 h)
theorem ai_nat {a b : Nat} (h : a + b ≤ 4611686018427387904) : ai (.ofNat a) (.ofNat b) = .ofNat (a + b):=wrapv_small .i64 (a + b) (small_i64 h)
theorem sub_nat {a b : Nat} (h : b ≤ a) (ha : a ≤ 4611686018427387904) : wrapv .i64 (Int.sub (.ofNat a) (.ofNat b)) = .ofNat (a - b):=by
 have : Int.sub (.ofNat a) (.ofNat b) = .ofNat (a - b):=by
  show (a : Int) - b = ((a - b : Nat) : Int)
  omega
 rw [this]; exact i64_small (by omega)
theorem _root_.Go.Ev.Own.but {h h' : Heap} {lo : Nat} {v : V} {l : List V} {p : Bid} (w : Own h lo v l) (b : But h p h') (hp : p.val < lo) : Own h' lo v l:=by
 cases w with
 | nils=>exact .nils
 | sl b' c _ blo bhi row cap=>exact .sl b' c l blo (by rw [b.nx]; exact bhi) (by rw [b.get b' (by rintro rfl; omega)]; exact row) cap
section
variable {h : Heap} {n d : Nat}
structure Rd (N0 : Nat) (h0 h : Heap) (pr : Bid) (vb : V) (bs : List Nat) (at_ : Nat) (bad : Bool) : Prop where
 row : Row (h.t.get pr) 3 [vb,ik at_,.bool bad]
 lt : pr.val < h.nx.val
 lo : N0 ≤ pr.val
 le : at_ ≤ bs.length
 up : UpTo N0 h0 h
theorem Rd.num {N0 : Nat} {h0 h : Heap} {pr : Bid} {vb : V} {bs : List Nat} {at_ : Nat} {bad : Bool} (w : Rd N0 h0 h pr vb bs at_ bad) (hn : 20 ≤ n) (hb : Bytes bs) (hl : bs.length ≤ 3000) (wb : IsB h0 vb (bs.map bV)) (lb : Low vb N0) :
 ∃ h' at',call tabW n (d + 1) f32 [.ptr pr 0] h = .ret (.int .u64 (.ofNat (numV (bs.drop at_)))) h'∧Rd N0 h0 h' pr vb bs at' (bad || (Go.Ev.WIB.num (bs.drop at_)).isNone)∧But h pr h'∧∀ m rest,Go.Ev.WIB.num (bs.drop at_) = some (m,rest)→bs.drop at' = rest:=by
 obtain ⟨h',at',e,B,r,a1,a2,a3⟩:=num32 (n:=n) (d:=d) (bad:=bad) hn hb (lb.mono w.lo) (by omega) w.le w.row (wb.upTo lb w.up)
 refine ⟨h',at',e,⟨r,by rw [B.nx]; exact w.lt,w.lo,a2,w.up.trans ⟨by rw [B.nx]; exact Nat.le_refl _,fun b hb=>B.get b (by rintro rfl; have:=w.lo; omega)⟩⟩,B,a3⟩
theorem Rd.to {N0 : Nat} {h0 h h' : Heap} {pr : Bid} {vb : V} {bs : List Nat} {at_ : Nat} {bad : Bool} (w : Rd N0 h0 h pr vb bs at_ bad) (u : UpTo N0 h h') (g : h'.t.get pr = h.t.get pr) : Rd N0 h0 h' pr vb bs at_ bad:=
 ⟨by rw [g]; exact w.row,Nat.lt_of_lt_of_le w.lt u.nx,w.lo,w.le,w.up.trans u⟩
theorem parts_loop {N0 : Nat} {h0 hs : Heap} {pr : Bid} {vb v0 v2 vw : V} {bs : List Nat} {i7 i8 : Nat} {i9 i10 i11 : Int} {want : List Nat} {A : Nat→Prop} (hn : 20 ≤ n) (hb : Bytes bs) (hl : bs.length ≤ 3000) (wb : IsB h0 vb (bs.map bV)) (lb : Low vb N0)
 (lo : pr.val < hs.nx.val) (ww : CellA hs A (.sl 1 (want.map iT)) vw) (hw12 : want.length ≤ 12) :
 ∀ (j : Nat) {k q at_ : Nat} {bad : Bool} {h : Heap} {v : V} {ws : List Nat},k + j = want.length→j < q→Rd N0 h0 h pr vb bs at_ bad→UpTo pr.val hs h→hs.nx.val ≤ h.nx.val→(∀ b : Bid,b.val < hs.nx.val→b ≠ pr→h.t.get b = hs.t.get b)→Own h hs.nx.val v (ws.map uV)→ws.length = k →
  ∃ h' v' at' bad' ws',lpk (b13_1 words n (call tabW n (d + 1))) q [v0,vb,v2,.ptr pr 0,.int .u64 (.ofNat i7),.int .u64 (.ofNat i8),I i9,I i10,I i11,vw,v,ik k] h = .done .normal [v0,vb,v2,.ptr pr 0,.int .u64 (.ofNat i7),.int .u64 (.ofNat i8),I i9,I i10,I i11,v'] h' ∧
   Rd N0 h0 h' pr vb bs at' bad'∧hs.nx.val ≤ h'.nx.val∧(∀ b : Bid,b.val < hs.nx.val→b ≠ pr→h'.t.get b = hs.t.get b)∧Own h' hs.nx.val v' (ws'.map uV)∧(bad = true→bad' = true) ∧
   (bad = false→nums j (bs.drop at_) = none→bad' = true)∧∀ l r,bad = false→nums j (bs.drop at_) = some (l,r)→bad' = false∧ws' = ws ++ l∧bs.drop at' = r
 | j,k,0,_,_,_,_,_,_,h0,_,_,_,_,_,_=>absurd h0 (Nat.not_lt_zero _)
 | 0,k,q + 1,at_,bad,h,v,ws,hk,_,R,U,nx,g,W,hw=>by
   have n1 : ilt (.ofNat k) (.ofNat want.length) = false:=ilt_false (by omega)
   have ln : ∀ q : Nat→Res,lenk vw q = q want.length:=fun q=>by rw [ww.lenk,List.length_map]
   refine ⟨h,v,at_,bad,ws,?_,R,nx,g,W,id,fun _ e=>by simp [nums] at e,fun l r hb e=>?_⟩
   · rw [lpk_succ]
     simp -implicitDefEqProofs only [b13_1,↓ln,↓n1,↓evR]
   · simp only [nums,Option.some.injEq,Prod.mk.injEq] at e
     obtain ⟨rfl,rfl⟩:=e
     exact ⟨hb,by simp,rfl⟩
 | j + 1,k,q + 1,at_,bad,h,v,ws,hk,hq,R,U,nx,g,W,hw=>by
   have n1 : ilt (.ofNat k) (.ofNat want.length) = true:=ilt_true (by omega)
   have ln : ∀ q : Nat→Res,lenk vw q = q want.length:=fun q=>by rw [ww.lenk,List.length_map]
   have n3:=ad_nat (a:=k) (b:=1) (by omega)
   obtain ⟨h1,at1,e1,R1,B1,d1⟩:=R.num (n:=n) (d:=d) hn hb hl wb lb
   have W1 : Own h1 hs.nx.val v (ws.map uV):=W.but B1 lo
   obtain ⟨h2,e2,r2,U2,lt2⟩:=new_row h1 (g:=1) (l:=[uV (numV (bs.drop at_))]) rfl (by omega)
   have e2' : ∀ q,words.new h1 (.arr 1 1 (.lf [.int .u64 (.ofNat (numV (bs.drop at_)))]) .false) q = q h1.nx h2:=e2
   have rr : ∀ q,words.row 1 1 [.int .u64 (.ofNat (numV (bs.drop at_)))] q = q (.lf [.int .u64 (.ofNat (numV (bs.drop at_)))]):=fun q=>row_one (g:=1) rfl q
   have nx1 : hs.nx.val ≤ h1.nx.val:=by rw [B1.nx]; exact nx
   obtain ⟨h3,v3,e3,W3,U3⟩:=app_own (W1.up U2) (one_isS r2) (Nat.le_trans nx1 U2.nx) (by simp; omega)
   have U13 : UpTo hs.nx.val h1 h3:=(U2.to nx1).trans U3
   have R3:=R1.to (U13.mono (Nat.le_trans R.lo (Nat.le_of_lt lo))) (U13.get pr lo)
   have g3 : ∀ b : Bid,b.val < hs.nx.val→b ≠ pr→h3.t.get b = hs.t.get b:=fun b hb hne=>by rw [U13.get b hb,B1.get b hne,g b hb hne]
   obtain ⟨h4,v4,at4,bad4,ws4,e4,R4,nx4,g4,W4,p1,p2,p3⟩:=parts_loop (v0:=v0) (v2:=v2) (i7:=i7) (i8:=i8) (i9:=i9) (i10:=i10) (i11:=i11) hn hb hl wb lb lo ww hw12 j (k:=k + 1) (q:=q) (h:=h3) (v:=v3) (ws:=ws ++ [numV (bs.drop at_)]) (by omega) (by omega) R3 ⟨by have:=U13.nx; have:=B1.nx; have:=U.nx; omega,fun b hb=>g3 b (by omega) (by rintro rfl; omega)⟩ (Nat.le_trans nx1 U13.nx) g3 (by simpa using W3) (by simp [hw])
   refine ⟨h4,v4,at4,bad4,ws4,?_,R4,nx4,g4,W4,fun e=>p1 (by rw [e]; rfl),fun hbad e=>?_,fun l r hbad e=>?_⟩
   · rw [lpk_succ]
     simp -implicitDefEqProofs only [b13_1,↓ln,↓n1,↓e1,↓rr,↓e2',↓e3,↓n3,↓e4,↓evR]
   · rw [nums] at e
     cases h1 : num (bs.drop at_) with
     | none=>exact p1 (by simp [h1])
     | some x=>
       obtain ⟨m,r1⟩:=x
       cases h2 : nums j r1 with
       | none=>exact p2 (by simp [hbad,h1]) (by rw [d1 m r1 h1]; exact h2)
       | some y=>simp [h1,h2] at e
   · rw [nums] at e
     cases h1 : num (bs.drop at_) with
     | none=>simp [h1] at e
     | some x=>
       obtain ⟨m,r1⟩:=x
       cases h2 : nums j r1 with
       | none=>simp [h1,h2] at e
       | some y=>
         obtain ⟨l',r'⟩:=y
         simp only [h1,h2,Option.some.injEq,Prod.mk.injEq] at e
         obtain ⟨rfl,rfl⟩:=e
         obtain ⟨q1,q2,q3⟩:=p3 l' r' (by simp [hbad,h1]) (by rw [d1 m r1 h1]; exact h2)
         exact ⟨q1,by rw [q2]; simp [numV,h1],q3⟩
structure St (N0 : Nat) (h0 h : Heap) (pt pr : Bid) (vb vs : V) (bs : List Nat) (sh : List Sh) (L : List Th) (at_ : Nat) (bad : Bool) : Prop where
 rd : Rd N0 h0 h pr vb bs at_ bad
 tab : ∃ va pv S,RefT h pt va vs pv sh L S (fun x=>x = pr.val)∧∀ x,S x→N0 ≤ x
def Goes13 (n d q : Nat) (v0 vb : V) (pt pr : Bid) (cnt i : Nat) (h h' : Heap) : Prop:=
 ∀ R,lpk (b13_2 words n (call tabW n d)) q [v0,vb,.ptr pt 0,.ptr pr 0,.int .u64 (.ofNat cnt),.int .u64 (.ofNat (i + 1))] h' = R→lpk (b13_2 words n (call tabW n d)) (q + 1) [v0,vb,.ptr pt 0,.ptr pr 0,.int .u64 (.ofNat cnt),.int .u64 (.ofNat i)] h = R
def Ends13 (n d q : Nat) (v0 vb : V) (pt pr : Bid) (cnt i : Nat) (h h' : Heap) : Prop:=
 lpk (b13_2 words n (call tabW n d)) (q + 1) [v0,vb,.ptr pt 0,.ptr pr 0,.int .u64 (.ofNat cnt),.int .u64 (.ofNat i)] h = .done .ret [vb,.nilp,ik 280,.ptr pt 0,.ptr pr 0] h'
theorem step13 {N0 : Nat} {h0 : Heap} {pt pr : Bid} {vb vs v0 : V} {bs : List Nat} {sh : List Sh} {L : List Th} {at_ cnt i q : Nat} (hn : 10000 ≤ n) (ok : ShsOk sh) (hb : Bytes bs) (hl : bs.length ≤ 3000) (wb : IsB h0 vb (bs.map bV)) (lb : Low vb N0) (l0 : ∀ k : Nat→Res,lenk v0 k = k sh.length)
 (inv : LInv sh L) (hL : L.length ≤ 3000) (hi : i < cnt) (hc : cnt < 18446744073709551616) (w : St N0 h0 h pt pr vb vs bs sh L at_ false) :
 (∀ L' b',stepP sh L (bs.drop at_) = some (L',b')→∃ h' at',St N0 h0 h' pt pr vb vs bs sh L' at' false∧bs.drop at' = b'∧Goes13 n (d + 1 + 1 + 1 + 1 + 1) q v0 vb pt pr cnt i h h') ∧
 (stepP sh L (bs.drop at_) = none→(∃ h',UpTo N0 h0 h'∧Ends13 n (d + 1 + 1 + 1 + 1 + 1) q v0 vb pt pr cnt i h h') ∨ ∃ h' L' at',St N0 h0 h' pt pr vb vs bs sh L' at' true∧Goes13 n (d + 1 + 1 + 1 + 1 + 1) q v0 vb pt pr cnt i h h'):=by
 obtain ⟨R0,va,pv,S,T0,sN⟩:=w
 have bb : ∀ a,Bytes (bs.drop a):=fun a x hx=>hb x (List.mem_of_mem_drop hx)
 have nb : ∀ a,numV (bs.drop a) < 18446744073709551616:=fun a=>numV_lt (bb a)
 have c2 : ∀ q : V→Res,words.load1 h pr 2 q = q (.bool false):=fun q=>load1k_law R0.row rfl q
 have c2' : ∀ q : V→Res,words.load1 h pr (Nat.add 0 2) q = q (.bool false):=c2
 have n0:=ilt_true hi
 have hlen:=ok.len
 have ni : wrapv .u64 (Int.add (.ofNat i) (.ofNat 1)) = .ofNat (i + 1):=u64_small (by omega)
 obtain ⟨h1,at1,e1,R1,B1,d1⟩:=R0.num (n:=n) (d:=d + 1 + 1 + 1 + 1) (by omega) hb hl wb lb
 have X1 : ∀ {h h' : Heap},But h pr h'→Chg (fun x=>x = pr.val) h h':=fun b=>But.chg b
 have T1:=T0.turn (X1 B1)
 have nN : wrapv .u64 (.ofNat sh.length) = .ofNat sh.length:=u64_small (by omega)
 have mm1:=fun (q : V→Heap→Res)=>sMM_minU (numV (bs.drop at_)) sh.length h1 q
 obtain ⟨_,t1,_⟩:=T1.ld
 have lt1:=T1.ln
 obtain ⟨s',hs'⟩ : ∃ s',min (numV (bs.drop at_)) sh.length = s':=⟨_,rfl⟩
 rw [hs'] at mm1
 have ns : wrapv .i64 (.ofNat s') = .ofNat s':=i64_small (by omega)
 obtain ⟨h2,at2,e2,R2,B2,d2⟩:=R1.num (n:=n) (d:=d + 1 + 1 + 1 + 1) (by omega) hb hl wb lb
 have T2:=T1.turn (X1 B2)
 have g2 : ∀ q : V→Res,words.load1 h2 pr 2 q = q (.bool ((false || (num (bs.drop at_)).isNone) || (num (bs.drop at1)).isNone)):=fun q=>load1k_law R2.row rfl q
 have g2' : ∀ q : V→Res,words.load1 h2 pr (Nat.add 0 2) q = q (.bool ((false || (num (bs.drop at_)).isNone) || (num (bs.drop at1)).isNone)):=g2
 have g1 : ∀ q : V→Res,words.load1 h2 pr 1 q = q (ik at2):=fun q=>load1k_law R2.row rfl q
 have g1' : ∀ q : V→Res,words.load1 h2 pr (Nat.add 0 1) q = q (ik at2):=g1
 by_cases hs1 : s' = 1
 · have i1 : ieq (.ofNat s') (.ofNat 1) = true:=by rw [ieq_nat]; simpa using hs1
   have hv1 : numV (bs.drop at_) = 1:=by omega
   cases hx1 : num (bs.drop at_) with
   | none=>rw [show numV (bs.drop at_) = 0 by simp [numV,hx1]] at hv1; omega
   | some x1=>
     obtain ⟨s,r⟩:=x1
     have hss : s = 1:=by simpa [numV,hx1] using hv1
     subst hss
     have hr:=d1 _ _ hx1
     have lst : stepP sh L (bs.drop at_) = stepS L r:=by simp [stepP,hx1]
     rw [lst]
     rw [hx1,Option.isNone_some,Bool.false_or,Bool.false_or] at g2 g2' R2
     cases hx2 : num (bs.drop at1) with
     | none=>
       rw [hx2,Option.isNone_none] at g2 g2'
       rw [hr] at hx2
       have e0 : stepS L r = none:=by simp [stepS,hx2]
       rw [e0]
       refine ⟨fun _ _ e=>(by cases e),fun _=>.inl ⟨h2,R2.up,?_⟩⟩
       unfold Ends13
       rw [lpk_succ]
       simp -implicitDefEqProofs only [b13_2,↓n0,↓c2,↓c2',↓e1,↓l0,↓nN,↓mm1,↓ns,↓t1,↓lt1,↓i1,↓e2,↓g2,↓g2',↓evR]
     | some x2=>
       obtain ⟨k,r2⟩:=x2
       have hr2:=d2 _ _ hx2
       have hkv : numV (bs.drop at1) = k:=by simp [numV,hx2]
       have hk64:=nb at1
       rw [hx2,Option.isNone_some] at g2 g2' R2
       rw [hkv] at e2 hk64
       rw [hr] at hx2
       have hle:=R2.le
       have hr2l : r2.length = bs.length - at2:=by rw [← hr2,List.length_drop]
       have lnb : ∀ q : Nat→Res,lenk vb q = q bs.length:=fun q=>by rw [wb.len,List.length_map]
       have sb:=sub_nat (a:=bs.length) (b:=at2) hle (by omega)
       have sb2 : wrapv .u64 (.ofNat (bs.length - at2)) = .ofNat (bs.length - at2):=u64_small (by omega)
       by_cases hkl : bs.length - at2 < k
       · have n3:=ilt_true hkl
         have e0 : stepS L r = none:=by
          simp only [stepS,hx2]
          rw [if_neg (fun h=>by have:=h.1; omega)]
         rw [e0]
         refine ⟨fun _ _ e=>(by cases e),fun _=>.inl ⟨h2,R2.up,?_⟩⟩
         unfold Ends13
         rw [lpk_succ]
         simp -implicitDefEqProofs only [b13_2,↓n0,↓c2,↓c2',↓e1,↓l0,↓nN,↓mm1,↓ns,↓t1,↓lt1,↓i1,↓e2,↓g2,↓g2',↓lnb,↓g1,↓g1',↓sb,↓sb2,↓n3,↓evR]
       · have n3:=ilt_false hkl
         have nk : wrapv .i64 (.ofNat k) = .ofNat k:=i64_small (by omega)
         have nak:=ai_nat (a:=at2) (b:=k) (by omega)
         have wb2:=wb.upTo lb R2.up
         obtain ⟨v5,e5,w5⟩:=slice_lawB wb2 (i:=at2) (j:=at2 + k) (by omega) (by simp; omega) (lo:=.some (ik at2)) (hi:=.some (ik (at2 + k))) (fun k=>rfl) (fun k=>rfl)
         have etext : ((bs.map bV).take (at2 + k)).drop at2 = (r2.take k).map bV:=by
          rw [← List.map_take,← List.map_drop,← hr2,List.drop_take,Nat.add_sub_cancel_left]
         rw [etext] at w5
         have hbt : Bytes (r2.take k):=fun x hx=>hb x (by rw [← hr2] at hx; exact List.mem_of_mem_drop (List.mem_of_mem_take hx))
         have hlt : (r2.take k).length = k:=by rw [List.length_take]; omega
         have e6 : ∀ q : V→Heap→Res,words.bytesS v5 h2 q = q (sV (r2.take k)) h2:=fun q=>w5.bytesS hbt q
         have ec:=castS_sV (r2.take k)
         obtain ⟨h3,m,e,L',va',pv',S',e7,T3,C3,s3,res⟩:=sym33 (n:=n) (d:=d + 1) T2 hn (by omega) inv.ths (by omega) hbt (by omega)
         have e7' : call tabW n (d + 1 + 1 + 1 + 1 + 1) f33 [.ptr pt 0,.str (r2.take k).length (packN (r2.take k))] h2 = .ret (.tup [.int .u64 (.ofNat m),ik e]) h3:=e7
         have prS : ¬ S pr.val:=(T2.xs pr.val rfl).2
         have U3 : UpTo N0 h2 h3:=⟨C3.nx,fun b hb'=>C3.get b (by have:=R2.lt; have:=R2.lo; omega) fun e=>by have:=sN _ e; omega⟩
         have R3 : Rd N0 h0 h3 pr vb bs at2 false:=R2.to U3 (C3.get pr R2.lt prS)
         have sN3 : ∀ x,S' x→N0 ≤ x:=fun x hx=>(s3 x hx).elim (sN x) fun e=>by have:=R2.lt; have:=R2.lo; omega
         have fin : ∃ h4,St N0 h0 h4 pt pr vb vs bs sh L' (at2 + k) (decide (e ≠ 0 ∨ L'.length = L.length))∧Goes13 n (d + 1 + 1 + 1 + 1 + 1) q v0 vb pt pr cnt i h h4:=by
          obtain ⟨_,t3,t3'⟩:=T3.ld
          have lt3:=T3.ln
          obtain ⟨h4,e8,r4,B4⟩:=storek_law (o:=2) (n:=1) (vs:=[.bool (decide (e ≠ 0 ∨ L'.length = L.length))]) R3.row rfl (by simp)
          have e8' : ∀ q,words.store h3 pr (Nat.add 0 2) 1 [.bool (decide (e ≠ 0 ∨ L'.length = L.length))] q = q h4:=e8
          have r4' : Row (h4.t.get pr) 3 [vb,ik at2,.bool (decide (e ≠ 0 ∨ L'.length = L.length))]:=r4
          have c4 : ∀ q : V→Res,words.load1 h4 pr 1 q = q (ik at2):=fun q=>load1k_law r4' rfl q
          obtain ⟨h5,e9,r5,B5⟩:=storek_law (o:=1) (n:=1) (vs:=[ik (at2 + k)]) r4' rfl (by simp)
          have e9' : ∀ q,words.store h4 pr (Nat.add 0 1) 1 [ik (at2 + k)] q = q h5:=e9
          have T5:=(T3.turn (X1 B4)).turn (X1 B5)
          have U5 : UpTo N0 h3 h5:=⟨by rw [B5.nx,B4.nx]; exact Nat.le_refl _,fun b hb'=>by rw [B5.get b (by rintro rfl; have:=R2.lo; omega),B4.get b (by rintro rfl; have:=R2.lo; omega)]⟩
          refine ⟨h5,⟨⟨r5,by rw [B5.nx,B4.nx]; exact R3.lt,R3.lo,by omega,R3.up.trans U5⟩,va',pv',S',T5,sN3⟩,fun R hR=>?_⟩
          rw [lpk_succ]
          by_cases he : e = 0
          · have z1 : ieq (.ofNat e) (.ofNat 0) = true:=by rw [ieq_nat]; simpa using he
            by_cases hll : L'.length = L.length
            · have z2 : ieq (.ofNat L'.length) (.ofNat L.length) = true:=by rw [ieq_nat]; simpa using hll
              rw [decide_eq_true (.inr hll)] at e8'
              simp -implicitDefEqProofs only [b13_2,↓n0,↓c2,↓c2',↓e1,↓l0,↓nN,↓mm1,↓ns,↓t1,↓lt1,↓i1,↓e2,↓g2,↓g2',↓lnb,↓g1,↓g1',↓sb,↓sb2,↓n3,↓nk,↓nak,↓e5,↓e6,↓ec,↓e7',↓z1,↓t3,↓t3',↓lt3,↓z2,↓e8',↓c4,↓e9',↓ni,↓hR,↓evR]
            · have z2 : ieq (.ofNat L'.length) (.ofNat L.length) = false:=by rw [ieq_nat]; simpa using hll
              rw [decide_eq_false (fun h=>h.elim (fun h=>h he) hll)] at e8'
              simp -implicitDefEqProofs only [b13_2,↓n0,↓c2,↓c2',↓e1,↓l0,↓nN,↓mm1,↓ns,↓t1,↓lt1,↓i1,↓e2,↓g2,↓g2',↓lnb,↓g1,↓g1',↓sb,↓sb2,↓n3,↓nk,↓nak,↓e5,↓e6,↓ec,↓e7',↓z1,↓t3,↓t3',↓lt3,↓z2,↓e8',↓c4,↓e9',↓ni,↓hR,↓evR]
          · have z1 : ieq (.ofNat e) (.ofNat 0) = false:=by rw [ieq_nat]; simpa using he
            rw [decide_eq_true (.inl he)] at e8'
            simp -implicitDefEqProofs only [b13_2,↓n0,↓c2,↓c2',↓e1,↓l0,↓nN,↓mm1,↓ns,↓t1,↓lt1,↓i1,↓e2,↓g2,↓g2',↓lnb,↓g1,↓g1',↓sb,↓sb2,↓n3,↓nk,↓nak,↓e5,↓e6,↓ec,↓e7',↓z1,↓e8',↓c4,↓e9',↓ni,↓hR,↓evR]
         obtain ⟨h4,st4,go4⟩:=fin
         have hd : bs.drop (at2 + k) = r2.drop k:=by rw [← hr2,List.drop_drop]
         rcases res with ⟨hok,he,hL'⟩ | ⟨hno,_,hbad⟩
         · subst hL'
           rw [decide_eq_false (fun h=>h.elim (fun h=>h he) fun h=>by simp at h)] at st4
           have e0 : stepS L r = some (L ++ [symT (r2.take k)],r2.drop k):=by
            simp only [stepS,hx2]
            rw [if_pos ⟨by omega,hok⟩]
           rw [e0]
           refine ⟨fun L1 b1 e=>?_,fun e=>(by cases e)⟩
           cases e
           exact ⟨h4,at2 + k,st4,hd,go4⟩
         · rw [decide_eq_true hbad] at st4
           have e0 : stepS L r = none:=by
            simp only [stepS,hx2]
            rw [if_neg (fun h=>hno h.2)]
           rw [e0]
           exact ⟨fun _ _ e=>(by cases e),fun _=>.inr ⟨h4,L',at2 + k,st4,go4⟩⟩
 · have i1 : ieq (.ofNat s') (.ofNat 1) = false:=by rw [ieq_nat]; simpa using hs1
   have hv1 : numV (bs.drop at_) ≠ 1:=by omega
   have mm2:=fun (q : V→Heap→Res)=>sMM_minU (numV (bs.drop at1)) 0x100000 h2 q
   obtain ⟨b',hb'⟩ : ∃ b',min (numV (bs.drop at1)) 0x100000 = b':=⟨_,rfl⟩
   rw [hb'] at mm2
   have nb' : wrapv .i64 (.ofNat b') = .ofNat b':=i64_small (by omega)
   cases hw : wantOf sh s' (.ofNat b') with
   | none=>
     obtain ⟨vw,ew⟩:=T2.want_no (n:=n) (d:=d + 1 + 1 + 1) hw
     have e0 : stepP sh L (bs.drop at_) = none:=by
      unfold stepP
      cases hx1 : num (bs.drop at_) with
      | none=>rfl
      | some x1=>
        obtain ⟨s,r⟩:=x1
        have hss : numV (bs.drop at_) = s:=by simp [numV,hx1]
        simp only
        rw [if_neg (by omega)]
        unfold stepN
        cases hx2 : num r with
        | none=>rfl
        | some x2=>
          obtain ⟨br,r2⟩:=x2
          have hbr : numV (bs.drop at1) = br:=by rw [d1 _ _ hx1]; simp [numV,hx2]
          simp only
          cases hw2 : wantOf sh s (.ofNat br) with
          | none=>rfl
          | some want=>
            have h1:=shape_lt hw2
            have h2 : (br : Int) ≤ 64:=(ok.want _ _ _ hw2).2.2
            rw [show s' = s by omega,show b' = br by omega,hw2] at hw
            cases hw
     rw [e0]
     refine ⟨fun _ _ e=>(by cases e),fun _=>.inl ⟨h2,R2.up,?_⟩⟩
     unfold Ends13
     rw [lpk_succ]
     simp -implicitDefEqProofs only [b13_2,↓n0,↓c2,↓c2',↓e1,↓l0,↓nN,↓mm1,↓ns,↓t1,↓lt1,↓i1,↓e2,↓mm2,↓nb',↓ew,↓evR]
   | some want=>
     obtain ⟨vw,ew,ww⟩:=T2.want (n:=n) (d:=d + 1 + 1 + 1) hw
     obtain ⟨hw12,hwk,hb64⟩:=ok.want _ _ _ hw
     have hb64' : (b' : Int) ≤ 64:=hb64
     have hsl:=shape_lt hw
     have hss : numV (bs.drop at_) = s':=by omega
     have hbr : numV (bs.drop at1) = b':=by omega
     cases hx1 : num (bs.drop at_) with
     | none=>
       have : s' = 0:=by rw [← hss]; simp [numV,hx1]
       subst this
       have:=want_kind hw
       have:=ok.k0
       omega
     | some x1=>
       obtain ⟨s,r⟩:=x1
       obtain rfl : s = s':=by rw [← hss]; simp [numV,hx1]
       have hr:=d1 _ _ hx1
       have lst : stepP sh L (bs.drop at_) = stepN sh L s r:=by simp [stepP,hx1,hs1]
       rw [lst]
       rw [hx1,Option.isNone_some,Bool.false_or,Bool.false_or] at R2
       have lt : ∀ x,SX S (fun x=>x = pr.val) x→x < h2.nx.val:=fun x hx=>hx.elim T2.lts fun h=>(T2.xs x h).1
       obtain ⟨h3,v3,at3,bad3,ws,e3,R3,nx3,g3,W3,p1,p2,p3⟩:=parts_loop (n:=n) (d:=d + 1 + 1 + 1 + 1) (v0:=v0) (v2:=.ptr pt 0) (i7:=cnt) (i8:=i) (i9:=.ofNat s) (i10:=.ofNat L.length) (i11:=.ofNat b') (hs:=h2) (A:=Still h2 (SX S fun x=>x = pr.val)) (by omega) hb hl wb lb R2.lt ww hw12 want.length (k:=0) (q:=n) (h:=h2) (v:=.nils) (ws:=[]) (by omega) (by omega) R2 (.refl _ _) (Nat.le_refl _) (fun _ _ _=>rfl) .nils rfl
       have c3 : ∀ q : V→Res,words.load1 h3 pr 2 q = q (.bool bad3):=fun q=>load1k_law R3.row rfl q
       have c3' : ∀ q : V→Res,words.load1 h3 pr (Nat.add 0 2) q = q (.bool bad3):=c3
       cases bad3 with
       | true=>
         have e0 : stepN sh L s r = none:=by
          unfold stepN
          cases hx2 : num r with
          | none=>rfl
          | some x2=>
            obtain ⟨br,r2⟩:=x2
            have hx2' : num (bs.drop at1) = some (br,r2):=by rw [hr]; exact hx2
            obtain rfl : br = b':=by rw [← hbr]; simp [numV,hx2']
            simp only
            rw [hw]
            simp only
            cases hx3 : nums want.length r2 with
            | none=>rfl
            | some x3=>
              obtain ⟨l,r3⟩:=x3
              have:=(p3 l r3 (by simp [hx2']) (by rw [d2 _ _ hx2']; exact hx3)).1
              cases this
         rw [e0]
         refine ⟨fun _ _ e=>(by cases e),fun _=>.inl ⟨h3,R3.up,?_⟩⟩
         unfold Ends13
         rw [lpk_succ]
         simp -implicitDefEqProofs only [b13_2,↓n0,↓c2,↓c2',↓e1,↓l0,↓nN,↓mm1,↓ns,↓t1,↓lt1,↓i1,↓e2,↓mm2,↓nb',↓ew,↓e3,↓c3,↓c3',↓evR]
       | false=>
         cases hx2 : num (bs.drop at1) with
         | none=>have:=p1 (by simp [hx2]); cases this
         | some x2=>
           obtain ⟨br,r2⟩:=x2
           obtain rfl : br = b':=by rw [← hbr]; simp [numV,hx2]
           cases hx3 : nums want.length r2 with
           | none=>have:=p2 (by simp [hx2]) (by rw [d2 _ _ hx2]; exact hx3); cases this
           | some x3=>
             obtain ⟨l,r3⟩:=x3
             obtain ⟨_,hws,hd3⟩:=p3 l r3 (by simp [hx2]) (by rw [d2 _ _ hx2]; exact hx3)
             rw [List.nil_append] at hws
             subst hws
             obtain ⟨y1,y2,_⟩:=nums_inv (show Bytes r2 by rw [← d2 _ _ hx2]; exact bb at2) hx3
             have CX3 : Chg (fun x=>x = pr.val) h2 h3:=⟨nx3,fun b hb' hne=>g3 b hb' fun e=>hne (by rw [e])⟩
             have T3:=T2.turn CX3
             have wp : CellA h3 (Still h3 (SX S fun x=>x = pr.val)) (.sl 1 (ws.map wT)) v3:=(own_words W3).mv (fun x hx=>⟨hx.2,fun e=>by have:=lt x e; omega⟩) fun _ _=>rfl
             obtain ⟨h4,m,e,L',va',pv',S',e7,T4,C4,s4,res⟩:=make35 (n:=n) (d:=d) T3 ok hn (by omega) inv.ths (by omega) inv.good.deep inv.k1 hw wp y1 y2
             have prS : ¬ S pr.val:=(T3.xs pr.val rfl).2
             have U4 : UpTo N0 h3 h4:=⟨C4.nx,fun b hb'=>C4.get b (by have:=R3.lt; have:=R3.lo; omega) fun e=>by have:=sN _ e; omega⟩
             have R4 : Rd N0 h0 h4 pr vb bs at3 false:=R3.to U4 (C4.get pr R3.lt prS)
             have sN4 : ∀ x,S' x→N0 ≤ x:=fun x hx=>(s4 x hx).elim (sN x) fun e=>by have:=R3.lt; have:=R3.lo; omega
             have fin : ∃ h5,St N0 h0 h5 pt pr vb vs bs sh L' at3 (decide (e ≠ 0 ∨ L'.length = L.length))∧Goes13 n (d + 1 + 1 + 1 + 1 + 1) q v0 vb pt pr cnt i h h5:=by
              obtain ⟨_,t3,t3'⟩:=T4.ld
              have lt3:=T4.ln
              obtain ⟨h5,e8,r5,B5⟩:=storek_law (o:=2) (n:=1) (vs:=[.bool (decide (e ≠ 0 ∨ L'.length = L.length))]) R4.row rfl (by simp)
              have e8' : ∀ q,words.store h4 pr (Nat.add 0 2) 1 [.bool (decide (e ≠ 0 ∨ L'.length = L.length))] q = q h5:=e8
              have T5:=T4.turn (X1 B5)
              have U5 : UpTo N0 h4 h5:=⟨by rw [B5.nx]; exact Nat.le_refl _,fun b hb'=>by rw [B5.get b (by rintro rfl; have:=R4.lo; omega)]⟩
              refine ⟨h5,⟨⟨r5,by rw [B5.nx]; exact R4.lt,R4.lo,R4.le,R4.up.trans U5⟩,va',pv',S',T5,sN4⟩,fun R hR=>?_⟩
              rw [lpk_succ]
              by_cases he : e = 0
              · have z1 : ieq (.ofNat e) (.ofNat 0) = true:=by rw [ieq_nat]; simpa using he
                by_cases hll : L'.length = L.length
                · have z2 : ieq (.ofNat L'.length) (.ofNat L.length) = true:=by rw [ieq_nat]; simpa using hll
                  rw [decide_eq_true (.inr hll)] at e8'
                  simp -implicitDefEqProofs only [b13_2,↓n0,↓c2,↓c2',↓e1,↓l0,↓nN,↓mm1,↓ns,↓t1,↓lt1,↓i1,↓e2,↓mm2,↓nb',↓ew,↓e3,↓c3,↓c3',↓e7,↓z1,↓t3,↓t3',↓lt3,↓z2,↓e8',↓ni,↓hR,↓evR]
                · have z2 : ieq (.ofNat L'.length) (.ofNat L.length) = false:=by rw [ieq_nat]; simpa using hll
                  rw [decide_eq_false (fun h=>h.elim (fun h=>h he) hll)] at e8'
                  simp -implicitDefEqProofs only [b13_2,↓n0,↓c2,↓c2',↓e1,↓l0,↓nN,↓mm1,↓ns,↓t1,↓lt1,↓i1,↓e2,↓mm2,↓nb',↓ew,↓e3,↓c3,↓c3',↓e7,↓z1,↓t3,↓t3',↓lt3,↓z2,↓e8',↓ni,↓hR,↓evR]
              · have z1 : ieq (.ofNat e) (.ofNat 0) = false:=by rw [ieq_nat]; simpa using he
                rw [decide_eq_true (.inl he)] at e8'
                simp -implicitDefEqProofs only [b13_2,↓n0,↓c2,↓c2',↓e1,↓l0,↓nN,↓mm1,↓ns,↓t1,↓lt1,↓i1,↓e2,↓mm2,↓nb',↓ew,↓e3,↓c3,↓c3',↓e7,↓z1,↓e8',↓ni,↓hR,↓evR]
             obtain ⟨h5,st5,go5⟩:=fin
             rcases res with ⟨hok,he,hL'⟩ | ⟨hno,_,hbad⟩
             · subst hL'
               rw [decide_eq_false (fun h=>h.elim (fun h=>h he) fun h=>by simp at h)] at st5
               have e0 : stepN sh L s r = some (L ++ [⟨s,br,[],ws,deepF sh L 1 want ws⟩],r3):=by
                unfold stepN
                rw [← hr,hx2]
                simp only
                rw [hw]
                simp only
                rw [hx3]
                simp only
                rw [if_pos hok]
               rw [e0]
               refine ⟨fun L1 b1 e=>?_,fun e=>(by cases e)⟩
               cases e
               exact ⟨h5,at3,st5,hd3,go5⟩
             · rw [decide_eq_true hbad] at st5
               have e0 : stepN sh L s r = none:=by
                unfold stepN
                rw [← hr,hx2]
                simp only
                rw [hw]
                simp only
                rw [hx3]
                simp only
                rw [if_neg hno]
               rw [e0]
               exact ⟨fun _ _ e=>(by cases e),fun _=>.inr ⟨h5,L',at3,st5,go5⟩⟩
end
end Go.Ev.WIB

/- InternLoads: the document's Load, whole. -/
namespace Go.Ev.WIB
open Go.Proofs
set_option maxRecDepth 100000
theorem _root_.Go.Ev.IsS.parts {h : Heap} {v : V} {l : List V} (w : IsS h v l) (q : Nat→List V→Res) : partsk v q = q 1 [v]:=by cases w <;> rfl
section
variable {h : Heap} {n d : Nat}
theorem RefT.toX {p : Bid} {va vs : V} {pv : List V} {sh : List Sh} {L : List Th} {S : Nat→Prop} (w : RefT h p va vs pv sh L S (fun _=>False)) {h' : Heap} (u : Up h h') {b : Bid} (h1 : h.nx.val ≤ b.val) (h2 : b.val < h'.nx.val) : RefT h' p va vs pv sh L S (fun x=>x = b.val) where
 row:=(w.up u).row
 all:=w.all.up u
 pl:=w.pl
 parts i t v e1 e2:=(w.parts i t v e1 e2).mv (fun x hx=>⟨Nat.lt_of_lt_of_le hx.1 u.nx,fun e=>e.elim (fun e=>hx.2 (.inl e)) fun e=>by have:=hx.1; omega⟩) fun b hb=>u.get b hb.1
 shp:=w.shp.mv (fun x hx=>⟨Nat.lt_of_lt_of_le hx.1 u.nx,fun e=>e.elim (fun e=>hx.2 (.inl e)) fun e=>by have:=hx.1; omega⟩) fun b hb=>u.get b hb.1
 xs x hx:=⟨by omega,fun e=>by have:=w.lts e; omega⟩
 lt:=Nat.lt_of_lt_of_le w.lt u.nx
 oa:=w.oa
 mem:=w.mem
theorem exit13 {N0 : Nat} {h0 : Heap} {pt pr : Bid} {vb vs v0 : V} {bs : List Nat} {sh : List Sh} {L : List Th} {at_ cnt i q : Nat} {bad : Bool} (w : St N0 h0 h pt pr vb vs bs sh L at_ bad) (hx : ¬ i < cnt ∨ bad = true) :
 lpk (b13_2 words n (call tabW n d)) (q + 1) [v0,vb,.ptr pt 0,.ptr pr 0,.int .u64 (.ofNat cnt),.int .u64 (.ofNat i)] h = .done .normal [vb,.und,.und,.ptr pt 0,.ptr pr 0] h:=by
 have c2 : ∀ q : V→Res,words.load1 h pr 2 q = q (.bool bad):=fun q=>load1k_law w.rd.row rfl q
 have c2' : ∀ q : V→Res,words.load1 h pr (Nat.add 0 2) q = q (.bool bad):=c2
 rw [lpk_succ]
 by_cases hi : i < cnt
 · obtain rfl:=hx.resolve_left fun e=>e hi
   have n1:=ilt_true hi
   simp -implicitDefEqProofs only [b13_2,↓n1,↓c2,↓c2',↓evR]
 · have n1:=ilt_false hi
   simp -implicitDefEqProofs only [b13_2,↓n1,↓evR]
theorem loop13 {N0 : Nat} {h0 : Heap} {pt pr : Bid} {vb vs v0 : V} {bs : List Nat} {sh : List Sh} {cnt : Nat} (hn : 10000 ≤ n) (ok : ShsOk sh) (hb : Bytes bs) (hl : bs.length ≤ 3000) (wb : IsB h0 vb (bs.map bV)) (lb : Low vb N0) (l0 : ∀ k : Nat→Res,lenk v0 k = k sh.length) (hc : cnt < 18446744073709551616) :
 ∀ (k : Nat) {L : List Th} {at_ i q : Nat} {h : Heap},bs.length - at_ ≤ k→k + 2 ≤ q→i ≤ cnt→St N0 h0 h pt pr vb vs bs sh L at_ false→LInv sh L→L.length + (bs.length - at_) ≤ 3000 →
  (∀ L' r,loadP sh (cnt - i) L (bs.drop at_) = some (L',r)→∃ h' at',lpk (b13_2 words n (call tabW n (d + 1 + 1 + 1 + 1 + 1))) q [v0,vb,.ptr pt 0,.ptr pr 0,.int .u64 (.ofNat cnt),.int .u64 (.ofNat i)] h = .done .normal [vb,.und,.und,.ptr pt 0,.ptr pr 0] h' ∧
    St N0 h0 h' pt pr vb vs bs sh L' at' false∧bs.drop at' = r) ∧
  (loadP sh (cnt - i) L (bs.drop at_) = none→(∃ h',UpTo N0 h0 h'∧lpk (b13_2 words n (call tabW n (d + 1 + 1 + 1 + 1 + 1))) q [v0,vb,.ptr pt 0,.ptr pr 0,.int .u64 (.ofNat cnt),.int .u64 (.ofNat i)] h = .done .ret [vb,.nilp,ik 280,.ptr pt 0,.ptr pr 0] h') ∨
    ∃ h' L' at',lpk (b13_2 words n (call tabW n (d + 1 + 1 + 1 + 1 + 1))) q [v0,vb,.ptr pt 0,.ptr pr 0,.int .u64 (.ofNat cnt),.int .u64 (.ofNat i)] h = .done .normal [vb,.und,.und,.ptr pt 0,.ptr pr 0] h'∧St N0 h0 h' pt pr vb vs bs sh L' at' true)
 | k,L,at_,i,0,h,_,hq,_,_,_,_=>by omega
 | k,L,at_,i,q + 1,h,hk,hq,hi,w,inv,hL=>by
   by_cases hic : i < cnt
   · obtain ⟨m,hm⟩ : ∃ m,cnt - i = m + 1:=⟨cnt - i - 1,by omega⟩
     have hm2 : cnt - (i + 1) = m:=by omega
     obtain ⟨p1,p2⟩:=step13 (n:=n) (d:=d) (v0:=v0) (q:=q) hn ok hb hl wb lb l0 inv (by omega) hic hc w
     rw [hm,loadP]
     cases hs : stepP sh L (bs.drop at_) with
     | none=>
       refine ⟨fun _ _ e=>(by cases e),fun _=>?_⟩
       rcases p2 hs with ⟨h',u,e⟩ | ⟨h',L',at',st,go⟩
       · exact .inl ⟨h',u,e⟩
       · obtain ⟨q,rfl⟩ : ∃ q',q = q' + 1:=⟨q - 1,by omega⟩
         exact .inr ⟨h',L',at',go _ (exit13 st (.inr rfl)),st⟩
     | some x=>
       obtain ⟨L1,b1⟩:=x
       have bb : Bytes (bs.drop at_):=fun x hx=>hb x (List.mem_of_mem_drop hx)
       obtain ⟨s1,⟨t,e1,e2⟩,s3,s4⟩:=stepP_inv ok inv bb (by rw [List.length_drop]; omega) hs
       obtain ⟨h',at',st,hd,go⟩:=p1 _ _ hs
       rw [← hd,List.length_drop,List.length_drop] at s4
       obtain ⟨k,rfl⟩ : ∃ k',k = k' + 1:=⟨k - 1,by omega⟩
       have hL1 : L1.length = L.length + 1:=by rw [e1]; simp
       have ih:=loop13 hn ok hb hl wb lb l0 hc k (L:=L1) (at_:=at') (i:=i + 1) (q:=q) (h:=h') (by omega) (by omega) (by omega) st s1 (by omega)
       rw [hm2,hd] at ih
       simp only
       refine ⟨fun L' r e=>?_,fun e=>?_⟩
       · obtain ⟨h2,at2,a1,a2⟩:=ih.1 L' r e
         exact ⟨h2,at2,go _ a1,a2⟩
       · rcases ih.2 e with ⟨h2,u,a1⟩ | ⟨h2,L2,at2,a1,a2⟩
         · exact .inl ⟨h2,u,go _ a1⟩
         · exact .inr ⟨h2,L2,at2,go _ a1,a2⟩
   · have e0 : cnt - i = 0:=by omega
     rw [e0,loadP]
     refine ⟨fun L' r e=>?_,fun e=>(by cases e)⟩
     cases e
     exact ⟨h,at_,exit13 w (.inl hic),w,rfl⟩
termination_by k=>k
theorem load13 {ras : List Ra} {v vb : V} {bs : List Nat} {A : Nat→Prop} (hn : 2000000 ≤ n) (hA : ∀ y,A y→y < h.nx.val) (w : CellA h A (.sl 3 (ras.map raT)) v) (hk : ∀ x ∈ ras,x.kind < 256∧raB x ≤ 1048576) (hb : Bytes bs) (hl : bs.length ≤ 3000) (wb : IsB h vb (bs.map bV)) (lb : Low vb h.nx.val) :
 ∃ h',Up h h'∧((call tabW n (d + 1 + 1 + 1 + 1 + 1 + 1) f13 [v,vb] h = .ret (.tup [.nilp,ik 2]) h'∧¬ AllMay ras) ∨ (AllMay ras ∧
  ((call tabW n (d + 1 + 1 + 1 + 1 + 1 + 1) f13 [v,vb] h = .ret (.tup [.nilp,ik 280]) h'∧fullP (ras.map raS) bs = none) ∨
    ∃ p va vs pv S X L,call tabW n (d + 1 + 1 + 1 + 1 + 1 + 1) f13 [v,vb] h = .ret (.tup [.ptr p 0,ik 0]) h'∧fullP (ras.map raS) bs = some L∧RefT h' p va vs pv (ras.map raS) L S X))):=by
 obtain ⟨h1,U1,res⟩:=new31 (n:=n) (d:=d + 1 + 1) hn hA w hk
 rcases res with ⟨e1,hno⟩ | ⟨p,vs,S,e1,T1,M,lo⟩
 · refine ⟨h1,U1,.inl ⟨?_,hno⟩⟩
   have pn : ∀ q : Bool→Res,pnk .nilp q = q true:=fun q=>rfl
   rw [call13]
   simp -implicitDefEqProofs only [sh13,↓e1,↓pn,↓evR]
 · have ok : ShsOk (ras.map raS):=shsOk M.1 M.2.1 M.2.2
   have pn : ∀ q : Bool→Res,pnk (.ptr p 0) q = q false:=fun q=>rfl
   have pb : ∀ q : Nat→List V→Res,partsk vb q = q 1 [vb]:=fun q=>wb.parts q
   obtain ⟨h2,e2,r2,U2,lt2⟩:=new_row h1 (g:=3) (l:=[vb,ik 0,.bool false]) rfl (by omega)
   have e2' : ∀ q,words.new h1 (.arr 3 1 (.lf [vb,ik 0,.bool false]) .false) q = q h1.nx h2:=e2
   have T2:=T1.toX U2 (Nat.le_refl _) lt2
   have U12:=U1.trans U2
   have R2 : Rd h.nx.val h h2 h1.nx vb bs 0 false:=⟨r2,lt2,U1.nx,Nat.zero_le _,U12.to (Nat.le_refl _)⟩
   obtain ⟨h3,at3,e3,R3,B3,d3⟩:=R2.num (n:=n) (d:=d + 1 + 1 + 1 + 1) (by omega) hb hl wb lb
   rw [List.drop_zero] at e3 R3 d3
   have T3:=T2.turn (But.chg B3)
   have l0 : ∀ k : Nat→Res,lenk v k = k (ras.map raS).length:=fun k=>by rw [w.lenk,List.length_map,List.length_map]
   have lnb : ∀ q : Nat→Res,lenk vb q = q bs.length:=fun q=>by rw [wb.len,List.length_map]
   have fin : ∀ {h' : Heap} {L : List Th} {at' : Nat} {bad : Bool},lpk (b13_2 words n (call tabW n (d + 1 + 1 + 1 + 1 + 1))) n [v,vb,.ptr p 0,.ptr h1.nx 0,.int .u64 (.ofNat (numV bs)),.int .u64 (.ofNat 0)] h3 = .done .normal [vb,.und,.und,.ptr p 0,.ptr h1.nx 0] h'→St h.nx.val h h' p h1.nx vb vs bs (ras.map raS) L at' bad →
    (bad = false∧at' = bs.length→call tabW n (d + 1 + 1 + 1 + 1 + 1 + 1) f13 [v,vb] h = .ret (.tup [.ptr p 0,ik 0]) h')∧(¬ (bad = false∧at' = bs.length)→call tabW n (d + 1 + 1 + 1 + 1 + 1 + 1) f13 [v,vb] h = .ret (.tup [.nilp,ik 280]) h'):=by
    intro h' L at' bad el st
    have c2 : ∀ q : V→Res,words.load1 h' h1.nx 2 q = q (.bool bad):=fun q=>load1k_law st.rd.row rfl q
    have c1 : ∀ q : V→Res,words.load1 h' h1.nx 1 q = q (ik at'):=fun q=>load1k_law st.rd.row rfl q
    have c1' : ∀ q : V→Res,words.load1 h' h1.nx (Nat.add 0 1) q = q (ik at'):=c1
    refine ⟨fun ⟨hb1,ha⟩=>?_,fun hno=>?_⟩
    · subst hb1
      have n1 : ieq (.ofNat at') (.ofNat bs.length) = true:=by rw [ieq_nat]; simpa using ha
      rw [call13]
      simp -implicitDefEqProofs only [sh13,↓e1,↓pn,↓pb,↓e2',↓e3,↓el,↓c2,↓c1,↓c1',↓lnb,↓n1,↓evR]
    · cases bad with
      | true=>
        rw [call13]
        simp -implicitDefEqProofs only [sh13,↓e1,↓pn,↓pb,↓e2',↓e3,↓el,↓c2,↓evR]
      | false=>
        have n1 : ieq (.ofNat at') (.ofNat bs.length) = false:=by rw [ieq_nat]; simpa using fun e=>hno ⟨rfl,e⟩
        rw [call13]
        simp -implicitDefEqProofs only [sh13,↓e1,↓pn,↓pb,↓e2',↓e3,↓el,↓c2,↓c1,↓c1',↓lnb,↓n1,↓evR]
   cases hx : num bs with
   | none=>
     have hv0 : numV bs = 0:=by simp [numV,hx]
     have e0 : fullP (ras.map raS) bs = none:=by simp [fullP,hx]
     have st3 : St h.nx.val h h3 p h1.nx vb vs bs (ras.map raS) [] at3 (false || (num bs).isNone):=⟨R3,_,_,_,T3,lo⟩
     have hbt : (false || (num bs).isNone) = true:=by rw [hx]; rfl
     obtain ⟨q,hq⟩ : ∃ q,n = q + 1:=⟨n - 1,by omega⟩
     have el:=exit13 (n:=n) (d:=d + 1 + 1 + 1 + 1 + 1) (v0:=v) (cnt:=numV bs) (i:=0) (q:=q) st3 (.inl (by omega))
     rw [← hq] at el
     exact ⟨h3,R3.up.up,.inr ⟨M,.inl ⟨(fin el st3).2 fun e=>(by rw [hbt] at e; cases e.1),e0⟩⟩⟩
   | some x=>
     obtain ⟨m,r⟩:=x
     have hv : numV bs = m:=by simp [numV,hx]
     have hd:=d3 m r hx
     have hbt : (false || (num bs).isNone) = false:=by rw [hx]; rfl
     rw [hbt] at R3
     have st3 : St h.nx.val h h3 p h1.nx vb vs bs (ras.map raS) [] at3 false:=⟨R3,_,_,_,T3,lo⟩
     have lp:=loop13 (n:=n) (d:=d) (v0:=v) (cnt:=numV bs) (by omega) ok hb hl wb lb l0 (numV_lt hb) bs.length (L:=[]) (at_:=at3) (i:=0) (q:=n) (h:=h3) (by omega) (by omega) (Nat.zero_le _) st3 .nil (by simp; omega)
     rw [Nat.sub_zero,hd,hv] at lp
     rw [hv] at fin
     cases hlp : loadP (ras.map raS) m [] r with
     | none=>
       have e0 : fullP (ras.map raS) bs = none:=by simp [fullP,hx,hlp]
       rcases lp.2 hlp with ⟨h',u,el⟩ | ⟨h',L',at',el,st⟩
       · refine ⟨h',u.up,.inr ⟨M,.inl ⟨?_,e0⟩⟩⟩
         rw [hv] at e3
         rw [call13]
         simp -implicitDefEqProofs only [sh13,↓e1,↓pn,↓pb,↓e2',↓e3,↓el,↓evR]
       · exact ⟨h',st.rd.up.up,.inr ⟨M,.inl ⟨(fin el st).2 fun e=>(by cases e.1),e0⟩⟩⟩
     | some y=>
       obtain ⟨L',r'⟩:=y
       obtain ⟨h',at',el,st,hdr⟩:=lp.1 L' r' hlp
       have hle:=st.rd.le
       by_cases ha : at' = bs.length
       · have hr' : r' = []:=by rw [← hdr,ha,List.drop_length]
         subst hr'
         have e0 : fullP (ras.map raS) bs = some L':=by simp [fullP,hx,hlp]
         have ec:=(fin el st).1 ⟨rfl,ha⟩
         have u:=st.rd.up.up
         obtain ⟨_,va,pv,S',T',_⟩:=st
         exact ⟨h',u,.inr ⟨M,.inr ⟨p,va,vs,pv,S',_,L',ec,e0,T'⟩⟩⟩
       · have hne : r' ≠ []:=fun e=>by
          rw [e] at hdr
          have:=congrArg List.length hdr
          simp at this
          omega
         have e0 : fullP (ras.map raS) bs = none:=by
          unfold fullP
          rw [hx]
          simp only
          rw [hlp]
          cases r' with
          | nil=>exact absurd rfl hne
          | cons _ _=>rfl
         exact ⟨h',st.rd.up.up,.inr ⟨M,.inl ⟨(fin el st).2 fun e=>ha e.2,e0⟩⟩⟩
end
end Go.Ev.WIB

/- InternLoads: Load: words that are none; one thing read. -/
namespace Go.Ev.WIB
open Go.Proofs
set_option maxRecDepth 100000
section
variable {h : Heap} {p : Bid} {sh : List Sh} {L : List Th} {S X : Nat→Prop} {n d : Nat}
theorem make_loop_bad {hs : Heap} (w : TabR hs p sh L S X) (ok : ShsOk sh) {want ws : List Nat} {vw vp v12 : V} {px : Bid} {s b : Nat} (hpx : hs.nx.val ≤ px.val) (hL : L.length ≤ 1000000) (hdeep : ∀ t ∈ L,t.deep ≤ 100)
 (ww : CellA hs (Still hs S) (.sl 1 (want.map iT)) vw) (wp : CellA hs (Still hs S) (.sl 1 (ws.map wT)) vp) (hl : ws.length = want.length) (hl2 : ws.length ≤ 12) (hws : ∀ x ∈ ws,x < 18446744073709551616) (hwk : ∀ a ∈ want,a < sh.length) :
 ∀ (j : Nat) {i q D : Nat} {h : Heap},i + j = ws.length→j < q→Up hs h→px.val < h.nx.val→Row (h.t.get px) 5 [I (.ofNat s),I (.ofNat b),.str 0 0,v12,I (.ofNat D)] →
  ¬ (∀ (i' a x : Nat),i ≤ i'→want[i']? = some a→ws[i']? = some x→(isW sh L a x).isSome) →
  ∃ h',lpk (b19_1 words n (call tabW n (d + 1 + 1 + 1))) q [.ptr p 0,vw,.ptr px 0,vp,I (.ofNat ws.length),I (.ofNat i)] h = .done .ret [.ptr p 0,.int .u64 (.ofNat 0),ik 50,.ptr px 0] h'∧Up hs h'
 | j,i,0,_,_,_,h0,_,_,_,_=>absurd h0 (Nat.not_lt_zero _)
 | 0,i,q + 1,D,h,hi,_,U,lx,r,hno=>absurd (fun i' a x hi' _ hx=>by have:=(List.getElem?_eq_some_iff.1 hx).1; omega) hno
 | j + 1,i,q + 1,D,h,hi,hq,U,lx,r,hno=>by
   have hik : i < ws.length:=by omega
   have hiw : i < want.length:=by omega
   have lt : ∀ x,S x→x < hs.nx.val:=fun x hx=>w.lts hx
   obtain ⟨b1,o1,m1,e1,a1⟩:=word_at (wp.stay U lt) hik
   obtain ⟨b2,o2,m2,e2,a2⟩:=want_at (ww.stay U lt) hiw
   obtain ⟨bo,bm,c,va,vs,cells,pv,wx⟩:=w.up U
   have hwl:=hwk _ (List.getElem_mem hiw)
   have ei:=wx.is (n:=n) (d:=d) (s:=want[i]) (k:=ws[i]) (ok.kind hwl) (hws _ (List.getElem_mem hik)) (by omega)
   have n1:=ilt_true hik
   have n2 : Nat.blt i ws.length = true:=blt_of hik
   have n2' : Nat.blt i want.length = true:=blt_of hiw
   have n3:=ad_nat (a:=i) (b:=1) (by omega)
   by_cases hsome : (isW sh L want[i] ws[i]).isSome = true
   · rw [hsome] at ei
     obtain ⟨dd,hdd⟩ : ∃ dd,(isW sh L want[i] ws[i]).getD 0 = dd:=⟨_,rfl⟩
     have hdd100 : dd ≤ 100:=by
      rw [← hdd]
      unfold isW
      split
      · simp
      · split
        · simp
        · split
          · rename_i jj hjj
            cases hL' : L[jj]? with
            | none=>simp
            | some t=>simpa using hdeep t (List.mem_of_getElem? hL')
          · simp
     have n4:=ad_nat (a:=dd) (b:=1) (by omega)
     have c4 : ∀ q : V→Res,words.load1 h px 4 q = q (I (.ofNat D)):=fun q=>load1k_law r rfl q
     obtain ⟨h1,e3,r1,B1⟩:=storek_law (o:=4) (n:=1) (vs:=[I (.ofNat (max D (dd + 1)))]) r rfl (by simp)
     have e3' : ∀ q,words.store h px (Nat.add 0 4) 1 [I (.ofNat (max D (dd + 1)))] q = q h1:=e3
     have U1 : Up hs h1:=⟨by rw [B1.nx]; exact U.nx,fun b' hb=>by rw [B1.get b' (by rintro rfl; omega)]; exact U.get b' hb⟩
     have mm:=fun (q : V→Heap→Res)=>sMM_max D (dd + 1) h q
     obtain ⟨h2,e4,U2⟩:=make_loop_bad w ok hpx hL hdeep ww wp hl hl2 hws hwk j (i:=i + 1) (q:=q) (D:=max D (dd + 1)) (h:=h1) (by omega) (by omega) U1 (by rw [B1.nx]; exact lx) r1 (fun H=>hno fun i' a x hi' q1 q2=>by
      by_cases e : i' = i
      · subst e
        rw [List.getElem?_eq_getElem hiw] at q1
        rw [List.getElem?_eq_getElem hik] at q2
        cases q1; cases q2
        exact hsome
      · exact H i' a x (by omega) q1 q2)
     rw [hdd] at ei
     refine ⟨h2,?_,U2⟩
     rw [lpk_succ]
     subst e1; subst e2
     simp -implicitDefEqProofs only [b19_1,↓n1,↓n2,↓n2',↓a1,↓a2,↓ei,↓c4,↓n4,↓mm,↓e3',↓n3,↓e4,↓evR]
   · have hs2 : (isW sh L want[i] ws[i]).isSome = false:=by simpa using hsome
     rw [hs2] at ei
     refine ⟨h,?_,U⟩
     rw [lpk_succ]
     subst e1; subst e2
     simp -implicitDefEqProofs only [b19_1,↓n1,↓n2,↓n2',↓a1,↓a2,↓ei,↓evR]
theorem make_bad (w : TabR h p sh L S X) (ok : ShsOk sh) (hn : 1000 ≤ n) (hL : L.length < 1000000) (hdeep : ∀ t ∈ L,t.deep ≤ 100) {s b : Nat} {want ws : List Nat} {vp : V} (hw : wantOf sh s (.ofNat b) = some want) (wp : CellA h (Still h S) (.sl 1 (ws.map wT)) vp) (hl : ws.length = want.length)
 (hws : ∀ x ∈ ws,x < 18446744073709551616) (hv : ¬ Valid sh L want ws) :
 ∃ h',call tabW n (d + 1 + 1 + 1 + 1) f19 [.ptr p 0,I (.ofNat s),I (.ofNat b),vp] h = .ret (.tup [.int .u64 (.ofNat 0),ik 50]) h'∧Up h h':=by
 obtain ⟨hw12,hwk,hb64⟩:=ok.want s _ want hw
 have lt : ∀ x,S x→x < h.nx.val:=fun x hx=>w.lts hx
 obtain ⟨bo,bm,c,va,vs,cells,pv,wx⟩:=w
 have w : TabR h p sh L S X:=⟨_,_,_,_,_,_,_,wx⟩
 obtain ⟨vw,ew,rw'⟩:=wx.want (n:=n) (d:=d + 1) (s:=s) (b:=.ofNat b) (l:=want) hw
 have rw':=noX rw'
 have pn : ∀ q : Bool→Res,pnk (.ptr p 0) q = q false:=fun q=>rfl
 have lw : ∀ q : Nat→Res,lenk vw q = q want.length:=fun q=>by rw [rw'.lenk,List.length_map]
 have lp : ∀ q : Nat→Res,lenk vp q = q ws.length:=fun q=>by rw [wp.lenk,List.length_map]
 have b3 : ieq (.ofNat ws.length) (.ofNat want.length) = true:=by rw [ieq_nat]; simpa using hl
 obtain ⟨h1,v1,e1,w1,U1⟩:=clone_words (n:=n) (d:=d + 1 + 1) wp (fun x hx=>hx.1) (by omega)
 obtain ⟨h2,h3,e2,e3,r3,U3,lt3⟩:=new_store h1 (g:=5) (z:=[ik 0,ik 0,.str 0 0,.nils,ik 0]) (l:=[I (.ofNat s),I (.ofNat b),.str 0 0,v1,I (.ofNat 1)]) rfl rfl (by omega)
 have e2' : ∀ q,words.new h1 (.arr 5 1 (repT [ik 0,ik 0,.str 0 0,.nils,ik 0] 1 1) .false) q = q h1.nx h2:=e2
 have e3' : ∀ q,words.store h2 h1.nx 0 5 [I (.ofNat s),I (.ofNat b),.str 0 0,v1,I (.ofNat 1)] q = q h3:=e3
 have pv1 : ∀ q : Nat→List V→Res,partsk v1 q = q 1 [v1]:=fun q=>w1.parts q
 obtain ⟨h4,e4,U4⟩:=make_loop_bad (n:=n) (d:=d) (w.up U1) ok (Nat.le_refl h1.nx.val) (by omega) hdeep (rw'.stay U1 lt) (wp.stay U1 lt) hl (by omega) hws hwk ws.length (i:=0) (q:=n) (D:=1) (h:=h3) (by omega) (by omega) U3 lt3 r3 fun H=>hv fun i a x=>H i a x (Nat.zero_le _)
 refine ⟨h4,?_,U1.trans U4⟩
 rw [call19]
 simp -implicitDefEqProofs only [sh19,↓pn,↓ew,↓lp,↓lw,↓b3,↓e1,↓pv1,↓e2',↓e3',↓e4,↓evR]
structure Sw (N0 : Nat) (h0 h : Heap) (ps : Bid) (rest : List Nat) (ok : Bool) : Prop where
 row : ∃ v,Row (h.t.get ps) 2 [v,.bool ok]∧IsS h v (rest.map bV)∧Low v N0
 lt : ps.val < h.nx.val
 lo : N0 ≤ ps.val
 up : UpTo N0 h0 h
theorem Sw.to {N0 : Nat} {h0 h h' : Heap} {ps : Bid} {rest : List Nat} {ok : Bool} (w : Sw N0 h0 h ps rest ok) (u : UpTo N0 h h') (g : h'.t.get ps = h.t.get ps) : Sw N0 h0 h' ps rest ok:=by
 obtain ⟨⟨v,r,s,l⟩,lt,lo,up⟩:=w
 exact ⟨⟨v,by rw [g]; exact r,s.upTo l u,l⟩,Nat.lt_of_lt_of_le lt u.nx,lo,up.trans u⟩
theorem Sw.num {N0 : Nat} {h0 h : Heap} {ps : Bid} {rest : List Nat} {ok : Bool} (w : Sw N0 h0 h ps rest ok) (hn : 20 ≤ n) (hb : Bytes rest) (hl : rest.length ≤ 3000) :
 ∃ h',call tabW n (d + 1) f29 [.ptr ps 0] h = .ret (.int .u64 (.ofNat (numV rest))) h'∧Sw N0 h0 h' ps (numT rest) (ok && (Go.Ev.WIB.num rest).isSome)∧But h ps h':=by
 obtain ⟨⟨v,r,s,l⟩,lt,lo,up⟩:=w
 obtain ⟨h',v',e,B,r',s',l'⟩:=num29 (n:=n) (d:=d) hn r s hb lo l (by omega)
 exact ⟨h',e,⟨⟨v',r',s',l'⟩,by rw [B.nx]; exact lt,lo,up.trans ⟨by rw [B.nx]; exact Nat.le_refl _,fun b hb=>B.get b (by rintro rfl; omega)⟩⟩,B⟩
def numsV : Nat→List Nat→List Nat × List Nat × Bool
 | 0,b=>([],b,true)
 | k + 1,b=>(numV b :: (numsV k (numT b)).1,(numsV k (numT b)).2.1,(Go.Ev.WIB.num b).isSome && (numsV k (numT b)).2.2)
theorem numsV_nums : ∀ (k : Nat) (b : List Nat),((numsV k b).2.2 = true→nums k b = some ((numsV k b).1,(numsV k b).2.1))∧((numsV k b).2.2 = false→nums k b = none)
 | 0,b=>⟨fun _=>rfl,fun e=>by cases e⟩
 | k + 1,b=>by
   obtain ⟨i1,i2⟩:=numsV_nums k (numT b)
   rw [numsV,nums]
   simp only
   cases hx : Go.Ev.WIB.num b with
   | none=>exact ⟨fun e=>by simp at e,fun _=>rfl⟩
   | some x=>
     obtain ⟨m,r⟩:=x
     have e1 : numT b = r:=by simp [numT,hx]
     have e2 : numV b = m:=by simp [numV,hx]
     rw [e1] at i1 i2 ⊢
     rw [e2]
     simp only [Option.isSome_some,Bool.true_and]
     refine ⟨fun e=>?_,fun e=>?_⟩
     · rw [i1 e]
     · rw [i2 e]
theorem parts30 {N0 : Nat} {h0 hs : Heap} {ps bp : Bid} {vt : V} {i3 i4 : Nat} {i2 : Int} {m : Nat} (hn : 20 ≤ n) (hm : m ≤ 12) (lps : ps.val < hs.nx.val) (lbp : hs.nx.val ≤ bp.val) :
 ∀ (j : Nat) {k q : Nat} {ok : Bool} {rest : List Nat} {h : Heap} {ws zs : List Nat},k + j = m→j < q→Bytes rest→rest.length ≤ 3000→Sw N0 h0 h ps rest ok→(∀ b : Bid,b.val < hs.nx.val→b ≠ ps→h.t.get b = hs.t.get b)→bp.val < h.nx.val→hs.nx.val ≤ h.nx.val →
  Row (h.t.get bp) 1 ((ws ++ zs).map uV)→ws.length = k→zs.length = j →
  ∃ h',lpk (b30_1 words n (call tabW n (d + 1))) q [.ptr ps 0,vt,I i2,.int .u64 (.ofNat i3),.int .u64 (.ofNat i4),.slice bp 0 m (some m) 1,ik m,ik k] h = .done .normal [.ptr ps 0,vt,I i2,.int .u64 (.ofNat i3),.int .u64 (.ofNat i4),.slice bp 0 m (some m) 1] h' ∧
   Sw N0 h0 h' ps (numsV j rest).2.1 (ok && (numsV j rest).2.2)∧(∀ b : Bid,b.val < hs.nx.val→b ≠ ps→h'.t.get b = hs.t.get b)∧bp.val < h'.nx.val∧hs.nx.val ≤ h'.nx.val∧Row (h'.t.get bp) 1 ((ws ++ (numsV j rest).1).map uV)
 | j,k,0,_,_,_,_,_,_,h0,_,_,_,_,_,_,_,_,_=>absurd h0 (Nat.not_lt_zero _)
 | 0,k,q + 1,ok,rest,h,ws,zs,hk,_,hb,hl,w,g,l1,l2,r,hw,hz=>by
   have n1 : ilt (.ofNat k) (.ofNat m) = false:=ilt_false (by omega)
   obtain rfl:=List.length_eq_zero_iff.1 hz
   refine ⟨h,?_,by simpa [numsV] using w,g,l1,l2,by simpa [numsV] using r⟩
   rw [lpk_succ]
   simp -implicitDefEqProofs only [b30_1,↓n1,↓evR]
 | j + 1,k,q + 1,ok,rest,h,ws,zs,hk,hq,hb,hl,w,g,l1,l2,r,hw,hz=>by
   have n1 : ilt (.ofNat k) (.ofNat m) = true:=ilt_true (by omega)
   have n2 : Nat.blt k m = true:=blt_of (by omega)
   have n3:=ad_nat (a:=k) (b:=1) (by omega)
   obtain ⟨h1,e1,w1,B1⟩:=w.num (n:=n) (d:=d) hn hb hl
   have hne : bp ≠ ps:=bid_ne (by omega)
   have r1 : Row (h1.t.get bp) 1 ((ws ++ zs).map uV):=by rw [B1.get bp hne]; exact r
   obtain ⟨h2,e2,r2,B2⟩:=storek_law (o:=k) (n:=1) (vs:=[uV (numV rest)]) r1 rfl (by simp; omega)
   have e2' : ∀ q,words.store h1 bp (Nat.add 0 k) 1 [.int .u64 (.ofNat (numV rest))] q = q h2:=fun q=>by
    show storek h1 bp (0 + k) 1 [uV (numV rest)] q = _
    rw [Nat.zero_add]; exact e2 q
   rw [splice_one _ (by simp; omega)] at r2
   obtain ⟨z,zs,rfl⟩ : ∃ z zs',zs = z :: zs':=by
    cases zs with
    | nil=>simp at hz
    | cons z zs=>exact ⟨z,zs,rfl⟩
   have e3 : ((ws ++ z :: zs).map uV).set k (uV (numV rest)) = ((ws ++ [numV rest]) ++ zs).map uV:=by
    rw [← List.map_set,← hw,List.set_append_right _ _ (Nat.le_refl _),Nat.sub_self,List.set_cons_zero,List.append_assoc]
    rfl
   rw [e3] at r2
   have U2 : UpTo N0 h1 h2:=⟨by rw [B2.nx]; exact Nat.le_refl _,fun b hb'=>B2.get b (by rintro rfl; have:=w.lo; omega)⟩
   have w2:=w1.to U2 (B2.get ps (Ne.symm hne))
   obtain ⟨t1,t2⟩:=numT_bytes hb
   obtain ⟨h3,e4,w3,g3,m1,m2,r3⟩:=parts30 (vt:=vt) (i3:=i3) (i4:=i4) (i2:=i2) hn hm lps lbp j (k:=k + 1) (q:=q) (h:=h2) (ws:=ws ++ [numV rest]) (zs:=zs) (by omega) (by omega) t1 (by omega) w2 (fun b hb' hne'=>by rw [B2.get b (by rintro rfl; omega),B1.get b hne',g b hb' hne']) (by rw [B2.nx,B1.nx]; exact l1) (by rw [B2.nx,B1.nx]; exact l2) r2 (by simp [hw]) (by simpa using hz)
   refine ⟨h3,?_,?_,g3,m1,m2,?_⟩
   · rw [lpk_succ]
     simp -implicitDefEqProofs only [b30_1,↓n1,↓e1,↓n2,↓e2',↓n3,↓e4,↓evR]
   · rw [Bool.and_assoc] at w3
     exact w3
   · rw [List.append_assoc] at r3
     exact r3
end
end Go.Ev.WIB
