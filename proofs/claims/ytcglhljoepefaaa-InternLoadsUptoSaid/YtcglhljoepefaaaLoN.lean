/- LoN: texts joined. -/
import Derived.Test.YtcglhljoepefaaaLoI
/- InternLoads: Load: one thing read. -/
namespace Go.Ev.WIB
open Go.Proofs
set_option maxRecDepth 100000
theorem digN_packN {ts : List Nat} (hb : Bytes ts) : digN ts.length (packN ts) = ts:=by
 have h:=packN_lt hb
 exact sV_inj (digN_ok _ _ h).1 hb (sV_dig h)
section
variable {h : Heap} {sh : List Sh} {L : List Th} {S : Nat→Prop} {n d : Nat}
theorem TabR.lnAll {p : Bid} {X : Nat→Prop} (w : TabR h p sh L S X) : ∃ va,(∀ q : V→Res,words.load1 h p 0 q = q va)∧∀ q : Nat→Res,lenk va q = q L.length:=by
 obtain ⟨bo,bm,c,va,vs,cells,pv,wx⟩:=w
 exact ⟨va,wx.ld.1,fun k=>wx.all.len (by omega) (thCs_len wx.pl) k⟩
theorem TabR.lnShp {p : Bid} {X : Nat→Prop} (w : TabR h p sh L S X) : ∃ vs,(∀ q : V→Res,words.load1 h p 2 q = q vs)∧∀ q : Nat→Res,lenk vs q = q sh.length:=by
 obtain ⟨bo,bm,c,va,vs,cells,pv,wx⟩:=w
 exact ⟨vs,wx.ld.2.2.1,fun k=>by rw [wx.shp.lenk,List.length_map]⟩
theorem thing30 {N0 : Nat} {h0 : Heap} {ps pt : Bid} {rest : List Nat} (hn : 10000 ≤ n) (ok : ShsOk sh) (inv : LInv sh L) (hL : L.length ≤ 3000) (T0 : TabR h pt sh L S (fun x=>x = ps.val)) (sN : ∀ x,S x→N0 ≤ x) (w0 : Sw N0 h0 h ps rest true) (hb : Bytes rest) (hl : rest.length ≤ 3000) :
 ∃ h',UpTo N0 h0 h'∧((stepP sh L rest = none∧call tabW n (d + 1 + 1 + 1 + 1 + 1) f30 [.ptr ps 0,.ptr pt 0] h = .ret (.bool false) h') ∨
  ∃ L' b' S',stepP sh L rest = some (L',b')∧call tabW n (d + 1 + 1 + 1 + 1 + 1) f30 [.ptr ps 0,.ptr pt 0] h = .ret (.bool true) h'∧TabR h' pt sh L' S' (fun x=>x = ps.val)∧(∀ x,S' x→N0 ≤ x)∧Sw N0 h0 h' ps b' true):=by
 obtain ⟨va,a0,la⟩:=T0.lnAll
 have hlen:=ok.len
 have X1 : ∀ {h h' : Heap},But h ps h'→Chg (fun x=>x = ps.val) h h':=fun b=>But.chg b
 obtain ⟨h1,e1,w1,B1⟩:=w0.num (n:=n) (d:=d + 1 + 1 + 1) (by omega) hb hl
 have T1:=T0.extX (X1 B1)
 obtain ⟨t1,t2⟩:=numT_bytes hb
 obtain ⟨h2,e2,w2,B2⟩:=w1.num (n:=n) (d:=d + 1 + 1 + 1) (by omega) t1 (by omega)
 have T2:=T1.extX (X1 B2)
 obtain ⟨u1,u2⟩:=numT_bytes t1
 have psS : ¬ S ps.val:=(T2.xs (x:=ps.val) rfl).2
 have k3 : Nat.beq (kno .i64) 3 = true:=rfl
 have k7 : Nat.beq (kno .u64) 7 = true:=rfl
 have z0 : ieq (.ofNat 0) (.ofNat 0) = true:=rfl
 by_cases hs1 : numV rest = 1
 · have i1 : ieq (.ofNat (numV rest)) (.ofNat 1) = true:=by rw [ieq_nat]; simpa using hs1
   cases hx1 : num rest with
   | none=>rw [show numV rest = 0 by simp [numV,hx1]] at hs1; omega
   | some x1=>
     obtain ⟨s,r⟩:=x1
     have hss : s = 1:=by simpa [numV,hx1] using hs1
     subst hss
     have hr : numT rest = r:=by simp [numT,hx1]
     have lst : stepP sh L rest = stepS L r:=by simp [stepP,hx1]
     rw [lst]
     rw [hx1,Option.isSome_some,Bool.true_and,Bool.true_and] at w2
     have hrl : r.length ≤ 3000:=by rw [← hr]; omega
     rw [hr] at e2 w2 t1 u1 u2
     obtain ⟨⟨v2,r2,s2,l2⟩,lt2,lo2,up2⟩:=w2
     have c0 : ∀ q : V→Res,words.load1 h2 ps 0 q = q v2:=fun q=>load1k_law r2 rfl q
     have lv : ∀ q : Nat→Res,lenk v2 q = q (numT r).length:=fun q=>by rw [s2.len,List.length_map]
     have nl : wrapv .u64 (.ofNat (numT r).length) = .ofNat (numT r).length:=u64_small (by omega)
     by_cases hk : (numT r).length < numV r
     · have n3:=ilt_true hk
       refine ⟨h2,up2,.inl ⟨?_,?_⟩⟩
       · unfold stepS
         cases hx2 : num r with
         | none=>rfl
         | some x2=>
           obtain ⟨k,r2⟩:=x2
           have q1 : numT r = r2:=by simp [numT,hx2]
           have q2 : numV r = k:=by simp [numV,hx2]
           simp only
           rw [if_neg (fun e=>by have:=e.1; rw [q1,q2] at hk; omega)]
       · rw [call30]
         simp -implicitDefEqProofs only [sh30,↓a0,↓la,↓e1,↓i1,↓e2,↓c0,↓lv,↓nl,↓n3,↓evR]
     · have n3:=ilt_false hk
       obtain ⟨v5,e5,w5,lo5⟩:=slice_law s2 (i:=0) (j:=numV r) (by omega) (by rw [List.length_map]; omega) (lo:=.none) (hi:=.some (.int .u64 (.ofNat (numV r)))) (fun k=>rfl) (fun k=>rfl)
       have e5' : ∀ q : V→Heap→Res,words.slice 1 v2 .none (.some (.int .u64 (.ofNat (numV r)))) .none h2 q = q v5 h2:=e5
       rw [List.drop_zero,← List.map_take] at w5
       have hbt : Bytes ((numT r).take (numV r)):=fun x hx=>u1 x (List.mem_of_mem_take hx)
       have hlt : ((numT r).take (numV r)).length = numV r:=by rw [List.length_take]; omega
       have e6 : ∀ q : V→Heap→Res,words.bytesS v5 h2 q = q (sV ((numT r).take (numV r))) h2:=fun q=>bytesS_law w5 hbt q
       have ec:=castS_sV ((numT r).take (numV r))
       obtain ⟨h3,S3,e7,T3,C3,s3⟩:=sym_law (n:=n) (d:=d) T2 ok (by omega) (by omega) (packN_lt hbt) (by omega)
       rw [digN_packN hbt] at e7 T3
       have U3 : UpTo N0 h2 h3:=⟨C3.nx,fun b hb'=>C3.get b (by omega) fun e=>by have:=sN _ e; omega⟩
       have sN3 : ∀ x,S3 x→N0 ≤ x:=fun x hx=>(s3 x hx).elim (sN x) fun e=>by omega
       have r3:=C3.row r2 lt2 psS
       have s3':=s2.upTo l2 U3
       have c0' : ∀ q : V→Res,words.load1 h3 ps 0 q = q v2:=fun q=>load1k_law r3 rfl q
       obtain ⟨v6,e8,w6,lo6⟩:=slice_law s3' (i:=numV r) (j:=((numT r).map bV).length) (by rw [List.length_map]; omega) (Nat.le_refl _) (lo:=.some (.int .u64 (.ofNat (numV r)))) (hi:=.none) (fun k=>rfl) (fun k=>rfl)
       have e8' : ∀ q : V→Heap→Res,words.slice 1 v2 (.some (.int .u64 (.ofNat (numV r)))) .none .none h3 q = q v6 h3:=e8
       rw [List.take_length,← List.map_drop] at w6
       have o6 : ∀ rr : Res,onek v6 rr = rr:=fun rr=>w6.onek rr
       obtain ⟨h4,e9,r4,B4⟩:=storek_law (o:=0) (n:=1) (vs:=[v6]) r3 rfl (by simp)
       have e9' : ∀ q,words.store h3 ps 0 1 [v6] q = q h4:=e9
       have r4' : Row (h4.t.get ps) 2 [v6,.bool (num r).isSome]:=r4
       have T4:=T3.extX (X1 B4)
       obtain ⟨va4,a4,la4⟩:=T4.lnAll
       have c1 : ∀ q : V→Res,words.load1 h4 ps 1 q = q (.bool (num r).isSome):=fun q=>load1k_law r4' rfl q
       have U4 : UpTo N0 h3 h4:=⟨by rw [B4.nx]; exact Nat.le_refl _,fun b hb'=>B4.get b (by rintro rfl; omega)⟩
       have Sw4 : Sw N0 h0 h4 ps ((numT r).drop (numV r)) (num r).isSome:=⟨⟨v6,r4',w6.upTo (lo6 _ l2) U4,lo6 _ l2⟩,by rw [B4.nx]; exact Nat.lt_of_lt_of_le lt2 C3.nx,lo2,(up2.trans U3).trans U4⟩
       cases hx2 : num r with
       | none=>
         rw [hx2,Option.isSome_none] at c1
         refine ⟨h4,Sw4.up,.inl ⟨by simp [stepS,hx2],?_⟩⟩
         rw [call30]
         simp -implicitDefEqProofs only [sh30,↓a0,↓la,↓e1,↓i1,↓e2,↓c0,↓lv,↓nl,↓n3,↓e5',↓e6,↓ec,↓e7,↓c0',↓e8',↓o6,↓e9',↓c1,↓evR]
       | some x2=>
         obtain ⟨k,r2'⟩:=x2
         have q1 : numT r = r2':=by simp [numT,hx2]
         have q2 : numV r = k:=by simp [numV,hx2]
         rw [hx2,Option.isSome_some] at c1 Sw4
         by_cases hnew : ∀ u ∈ L,¬ Alike u (symT ((numT r).take (numV r)))
         · rw [putP_new inv.good.form (symT_form ok _) hnew] at T4 la4
           have n9 : ilt (.ofNat L.length) (.ofNat (L ++ [symT ((numT r).take (numV r))]).length) = true:=ilt_true (by simp)
           refine ⟨h4,Sw4.up,.inr ⟨L ++ [symT ((numT r).take (numV r))],(numT r).drop (numV r),S3,?_,?_,T4,sN3,Sw4⟩⟩
           · simp only [stepS,hx2]
             rw [q1,q2] at hnew ⊢
             rw [if_pos ⟨by rw [q1,q2] at hk; omega,hnew⟩]
           · rw [call30]
             simp -implicitDefEqProofs only [sh30,↓a0,↓la,↓e1,↓i1,↓e2,↓c0,↓lv,↓nl,↓n3,↓e5',↓e6,↓ec,↓e7,↓c0',↓e8',↓o6,↓e9',↓c1,↓k3,↓z0,↓a4,↓la4,↓n9,↓evR]
         · have ho : ∃ u ∈ L,Alike u (symT ((numT r).take (numV r))):=Classical.byContradiction fun e=>hnew fun u hu al=>e ⟨u,hu,al⟩
           rw [putP_old ho] at T4 la4
           have n9 : ilt (.ofNat L.length) (.ofNat L.length) = false:=ilt_false (by omega)
           refine ⟨h4,Sw4.up,.inl ⟨?_,?_⟩⟩
           · simp only [stepS,hx2]
             rw [q1,q2] at hnew
             rw [if_neg (fun e=>hnew e.2)]
           · rw [call30]
             simp -implicitDefEqProofs only [sh30,↓a0,↓la,↓e1,↓i1,↓e2,↓c0,↓lv,↓nl,↓n3,↓e5',↓e6,↓ec,↓e7,↓c0',↓e8',↓o6,↓e9',↓c1,↓k3,↓z0,↓a4,↓la4,↓n9,↓evR]
 · have i1 : ieq (.ofNat (numV rest)) (.ofNat 1) = false:=by rw [ieq_nat]; simpa using hs1
   obtain ⟨vsh,b0,lb⟩:=T2.lnShp
   have nN : wrapv .u64 (.ofNat sh.length) = .ofNat sh.length:=u64_small (by omega)
   have nope : wantOf sh (numV rest) (.ofNat (numV (numT rest))) = none→stepP sh L rest = none:=fun hw=>by
    unfold stepP
    cases hx1 : num rest with
    | none=>rfl
    | some x1=>
      obtain ⟨s,r⟩:=x1
      have q1 : numT rest = r:=by simp [numT,hx1]
      have q2 : numV rest = s:=by simp [numV,hx1]
      rw [q2] at hs1
      simp only
      rw [if_neg hs1]
      unfold stepN
      cases hx2 : num r with
      | none=>rfl
      | some x2=>
        obtain ⟨br,r2⟩:=x2
        have q3 : numV r = br:=by simp [numV,hx2]
        rw [q1,q2,q3] at hw
        simp only
        rw [hw]
   by_cases hsl : numV rest < sh.length
   · have n3:=ilt_true hsl
     by_cases hbr : 64 < numV (numT rest)
     · have n4:=ilt_true hbr
       refine ⟨h2,w2.up,.inl ⟨nope ?_,?_⟩⟩
       · cases hw : wantOf sh (numV rest) (.ofNat (numV (numT rest))) with
         | none=>rfl
         | some want=>
           have h2 : (numV (numT rest) : Int) ≤ 64:=(ok.want _ _ _ hw).2.2
           omega
       · rw [call30]
         simp -implicitDefEqProofs only [sh30,↓a0,↓la,↓e1,↓i1,↓e2,↓b0,↓lb,↓nN,↓n3,↓k7,↓n4,↓evR]
     · have n4:=ilt_false hbr
       have ns : wrapv .i64 (.ofNat (numV rest)) = .ofNat (numV rest):=i64_small (by omega)
       have nb : wrapv .i64 (.ofNat (numV (numT rest))) = .ofNat (numV (numT rest)):=i64_small (by omega)
       cases hw : wantOf sh (numV rest) (.ofNat (numV (numT rest))) with
       | none=>
         obtain ⟨vw,ew⟩ : ∃ v,call tabW n (d + 1 + 1 + 1 + 1) f28 [.ptr pt 0,ik (numV rest),ik (numV (numT rest))] h2 = .ret (.tup [v,.bool false]) h2:=by
          obtain ⟨bo,bm,c,va,vs,cells,pv,wx⟩:=T2
          exact wx.want_no (n:=n) (d:=d + 1 + 1) hsl hw
         refine ⟨h2,w2.up,.inl ⟨nope hw,?_⟩⟩
         rw [call30]
         simp -implicitDefEqProofs only [sh30,↓a0,↓la,↓e1,↓i1,↓e2,↓b0,↓lb,↓nN,↓n3,↓k7,↓n4,↓ns,↓nb,↓ew,↓evR]
       | some want=>
         obtain ⟨hw12,hwk,_⟩:=ok.want _ _ _ hw
         obtain ⟨vw,ew,ww⟩ : ∃ v,call tabW n (d + 1 + 1 + 1 + 1) f28 [.ptr pt 0,ik (numV rest),ik (numV (numT rest))] h2 = .ret (.tup [v,.bool true]) h2∧∀ q : Nat→Res,lenk v q = q want.length:=by
          obtain ⟨bo,bm,c,va,vs,cells,pv,wx⟩:=T2
          obtain ⟨v,e,r⟩:=wx.want (n:=n) (d:=d + 1 + 1) hw
          exact ⟨v,e,fun q=>by rw [r.lenk,List.length_map]⟩
         obtain ⟨h3,em,r3,U3,lt3⟩:=make_words h2 (m:=want.length) (by omega)
         have w3:=w2.to (U3.to (by have:=w2.lt; have:=w2.lo; omega)) (U3.get ps w2.lt)
         obtain ⟨h4,e4,w4,g4,l4,nx4,r4⟩:=parts30 (n:=n) (d:=d + 1 + 1 + 1) (vt:=.ptr pt 0) (i2:=.ofNat L.length) (i3:=numV rest) (i4:=numV (numT rest)) (bp:=h2.nx) (hs:=h2) (m:=want.length) (by omega) hw12 w2.lt (Nat.le_refl _) want.length (k:=0) (q:=n) (h:=h3) (ws:=[]) (zs:=List.replicate want.length 0) (by omega) (by omega) u1 (by omega) w3 (fun b hb' _=>U3.get b hb') lt3 U3.nx (by rw [List.nil_append,List.map_replicate]; exact r3) rfl (by simp)
         rw [List.nil_append] at r4
         have ln4 : ∀ q : Nat→Res,lenk (.slice h2.nx 0 want.length (some want.length) 1) q = q want.length:=fun q=>rfl
         obtain ⟨⟨v4,r4',s4,l4'⟩,lt4,lo4,up4⟩:=w4
         have w4 : Sw N0 h0 h4 ps _ _:=⟨⟨v4,r4',s4,l4'⟩,lt4,lo4,up4⟩
         have c1 : ∀ q : V→Res,words.load1 h4 ps 1 q = q (.bool (true && (num rest).isSome && (num (numT rest)).isSome && (numsV want.length (numT (numT rest))).2.2)):=fun q=>load1k_law r4' rfl q
         have T4:=T2.extX (h':=h4) ⟨nx4,fun b hb' hne=>g4 b hb' fun e=>hne (by rw [e])⟩
         cases hx1 : num rest with
         | none=>
           have : numV rest = 0:=by simp [numV,hx1]
           rw [this] at hw
           have:=want_kind hw
           have:=ok.k0
           omega
         | some x1=>
           obtain ⟨s,r⟩:=x1
           have q1 : numT rest = r:=by simp [numT,hx1]
           have q2 : numV rest = s:=by simp [numV,hx1]
           have hs1' : ¬ s = 1:=by rw [← q2]; exact hs1
           have lst : stepP sh L rest = stepN sh L s r:=by simp [stepP,hx1,hs1']
           rw [lst]
           cases hx2 : num r with
           | none=>
             have hx2' : num (numT rest) = none:=by rw [q1]; exact hx2
             rw [hx2',Option.isSome_none,Bool.and_false,Bool.false_and] at c1
             refine ⟨h4,up4,.inl ⟨by simp [stepN,hx2],?_⟩⟩
             rw [call30]
             simp -implicitDefEqProofs only [sh30,↓a0,↓la,↓e1,↓i1,↓e2,↓b0,↓lb,↓nN,↓n3,↓k7,↓n4,↓ns,↓nb,↓ew,↓ww,↓em,↓ln4,↓e4,↓c1,↓evR]
           | some x2=>
             obtain ⟨br,r2⟩:=x2
             have hx2' : num (numT rest) = some (br,r2):=by rw [q1]; exact hx2
             have q3 : numT (numT rest) = r2:=by rw [q1]; simp [numT,hx2]
             have q4 : numV (numT rest) = br:=by rw [q1]; simp [numV,hx2]
             obtain ⟨y1,y2⟩:=numsV_nums want.length r2
             have hw':=hw
             rw [q2,q4] at hw'
             simp only [hx1,hx2',Option.isSome_some,Bool.true_and,q3] at c1
             cases hx3 : (numsV want.length r2).2.2 with
             | false=>
               rw [hx3] at c1
               refine ⟨h4,up4,.inl ⟨?_,?_⟩⟩
               · unfold stepN
                 rw [hx2]
                 simp only
                 rw [hw']
                 simp only
                 rw [y2 hx3]
               · rw [call30]
                 simp -implicitDefEqProofs only [sh30,↓a0,↓la,↓e1,↓i1,↓e2,↓b0,↓lb,↓nN,↓n3,↓k7,↓n4,↓ns,↓nb,↓ew,↓ww,↓em,↓ln4,↓e4,↓c1,↓evR]
             | true=>
               rw [hx3] at c1
               have hn3:=y1 hx3
               rw [q3] at r4
               obtain ⟨z1,z2,_,z4,_⟩:=nums_inv (show Bytes r2 by rw [← q3]; exact u1) hn3
               obtain ⟨ws,hws⟩ : ∃ ws,(numsV want.length r2).1 = ws:=⟨_,rfl⟩
               rw [hws] at hn3 z1 z2 r4
               have lt : ∀ x,S x→x < h2.nx.val:=fun x hx=>T2.lts hx
               have wp : CellA h4 (Still h4 S) (.sl 1 (ws.map wT)) (.slice h2.nx 0 want.length (some want.length) 1):=by
                have:=row_words (A:=Still h4 S) r4 ⟨l4,fun e=>by have:=lt _ e; omega⟩ (some want.length)
                rw [z1] at this
                exact this
               have w4' : Sw N0 h0 h4 ps (numsV want.length r2).2.1 true:=by
                rw [q3,hx1,hx2',hx3] at w4
                exact w4
               have est1 : OkM sh L s br want ws→stepN sh L s r = some (L ++ [⟨s,br,[],ws,deepF sh L 1 want ws⟩],(numsV want.length r2).2.1):=fun H=>by
                unfold stepN
                rw [hx2]
                simp only
                rw [hw']
                simp only
                rw [hn3]
                simp only
                rw [if_pos H]
               have est2 : ¬ OkM sh L s br want ws→stepN sh L s r = none:=fun H=>by
                unfold stepN
                rw [hx2]
                simp only
                rw [hw']
                simp only
                rw [hn3]
                simp only
                rw [if_neg H]
               by_cases hv : Valid sh L want ws
               · obtain ⟨h5,S5,e5,T5,C5,s5⟩:=make_law (n:=n) (d:=d) T4 ok (by omega) (by omega) inv.good.deep hw' wp z1 z2 hv
                 rw [← q2,← q4] at e5
                 have sN5 : ∀ x,S5 x→N0 ≤ x:=fun x hx=>(s5 x hx).elim (sN x) fun e=>by omega
                 have U5 : UpTo N0 h4 h5:=⟨C5.nx,fun b hb'=>C5.get b (by omega) fun e=>by have:=sN _ e; omega⟩
                 have w5:=w4'.to U5 (C5.get ps lt4 psS)
                 obtain ⟨⟨v5,r5,_⟩,_⟩:=w5
                 have w5:=w4'.to U5 (C5.get ps lt4 psS)
                 have c5 : ∀ q : V→Res,words.load1 h5 ps 1 q = q (.bool true):=fun q=>load1k_law r5 rfl q
                 by_cases hd : 100 < deepF sh L 1 want ws
                 · have em2 : makeP sh L (numV rest) (numV (numT rest)) want ws = (none,L):=by rw [makeP,if_pos hd]
                   rw [em2] at e5
                   simp only [Option.getD_none,if_true] at e5
                   have z3 : ieq (.ofNat 3) (.ofNat 0) = false:=rfl
                   rw [est2 (fun e=>by have:=e.2.1; omega)]
                   refine ⟨h5,w5.up,.inl ⟨rfl,?_⟩⟩
                   rw [call30]
                   simp -implicitDefEqProofs only [sh30,↓a0,↓la,↓e1,↓i1,↓e2,↓b0,↓lb,↓nN,↓n3,↓k7,↓n4,↓ns,↓nb,↓ew,↓ww,↓em,↓ln4,↓e4,↓c1,↓e5,↓c5,↓k3,↓z3,↓evR]
                 · have em2 : makeP sh L s br want ws = (some (putP sh L ⟨s,br,[],ws,deepF sh L 1 want ws⟩).1,(putP sh L ⟨s,br,[],ws,deepF sh L 1 want ws⟩).2):=by rw [makeP,if_neg hd]
                   rw [q2,q4,em2] at e5
                   rw [em2] at T5
                   simp only [Option.getD_some,reduceCtorEq,if_false] at e5
                   rw [← q2,← q4] at e5
                   have fm : Form sh ⟨s,br,[],ws,deepF sh L 1 want ws⟩:=⟨fun e=>by
                    have e' : kindOf sh s = 2:=e
                    have:=want_kind hw'
                    omega,fun _=>⟨rfl,want,hw',z1⟩⟩
                   obtain ⟨va5,a5,la5⟩:=T5.lnAll
                   by_cases hnew : ∀ u ∈ L,¬ Alike u ⟨s,br,[],ws,deepF sh L 1 want ws⟩
                   · rw [putP_new inv.good.form fm hnew] at T5 la5
                     have n9 : ilt (.ofNat L.length) (.ofNat (L ++ [(⟨s,br,[],ws,deepF sh L 1 want ws⟩ : Th)]).length) = true:=ilt_true (by simp)
                     rw [est1 ⟨hv,by omega,hnew⟩]
                     refine ⟨h5,w5.up,.inr ⟨_,_,S5,rfl,?_,T5,sN5,w5⟩⟩
                     rw [call30]
                     simp -implicitDefEqProofs only [sh30,↓a0,↓la,↓e1,↓i1,↓e2,↓b0,↓lb,↓nN,↓n3,↓k7,↓n4,↓ns,↓nb,↓ew,↓ww,↓em,↓ln4,↓e4,↓c1,↓e5,↓c5,↓k3,↓z0,↓a5,↓la5,↓n9,↓evR]
                   · have ho : ∃ u ∈ L,Alike u ⟨s,br,[],ws,deepF sh L 1 want ws⟩:=Classical.byContradiction fun e=>hnew fun u hu al=>e ⟨u,hu,al⟩
                     rw [putP_old ho] at T5 la5
                     have n9 : ilt (.ofNat L.length) (.ofNat L.length) = false:=ilt_false (by omega)
                     rw [est2 (fun e=>hnew e.2.2)]
                     refine ⟨h5,w5.up,.inl ⟨rfl,?_⟩⟩
                     rw [call30]
                     simp -implicitDefEqProofs only [sh30,↓a0,↓la,↓e1,↓i1,↓e2,↓b0,↓lb,↓nN,↓n3,↓k7,↓n4,↓ns,↓nb,↓ew,↓ww,↓em,↓ln4,↓e4,↓c1,↓e5,↓c5,↓k3,↓z0,↓a5,↓la5,↓n9,↓evR]
               · obtain ⟨h5,e5,U5⟩:=make_bad (n:=n) (d:=d) T4 ok (by omega) (by omega) inv.good.deep hw' wp z1 z2 hv
                 rw [← q2,← q4] at e5
                 have c5 : ∀ q : V→Res,words.load1 h5 ps 1 q = q (.bool true):=fun q=>(U5.ld lt4 q).trans (c1 q)
                 have z3 : ieq (.ofNat 50) (.ofNat 0) = false:=rfl
                 rw [est2 (fun e=>hv e.1)]
                 refine ⟨h5,up4.trans (U5.to (by omega)),.inl ⟨rfl,?_⟩⟩
                 rw [call30]
                 simp -implicitDefEqProofs only [sh30,↓a0,↓la,↓e1,↓i1,↓e2,↓b0,↓lb,↓nN,↓n3,↓k7,↓n4,↓ns,↓nb,↓ew,↓ww,↓em,↓ln4,↓e4,↓c1,↓e5,↓c5,↓k3,↓z3,↓evR]
   · have n3:=ilt_false hsl
     refine ⟨h2,w2.up,.inl ⟨nope ?_,?_⟩⟩
     · cases hw : wantOf sh (numV rest) (.ofNat (numV (numT rest))) with
       | none=>rfl
       | some want=>exact absurd (shape_lt hw) hsl
     · rw [call30]
       simp -implicitDefEqProofs only [sh30,↓a0,↓la,↓e1,↓i1,↓e2,↓b0,↓lb,↓nN,↓n3,↓evR]
end
end Go.Ev.WIB

/- InternLoads: Load, whole. -/
namespace Go.Ev.WIB
open Go.Proofs
set_option maxRecDepth 100000
section
variable {h : Heap} {sh : List Sh} {n d : Nat}
theorem loop12 {N0 : Nat} {h0 : Heap} {ps pt : Bid} (hn : 10000 ≤ n) (ok : ShsOk sh) :
 ∀ (k : Nat) {L : List Th} {S : Nat→Prop} {rest : List Nat} {c q : Nat} {h : Heap},rest.length ≤ k→k + 2 ≤ q→c < 18446744073709551616→TabR h pt sh L S (fun x=>x = ps.val)→(∀ x,S x→N0 ≤ x)→Sw N0 h0 h ps rest true→LInv sh L→L.length + rest.length ≤ 3000→Bytes rest →
  (∀ L' r,loadP sh c L rest = some (L',r)→∃ h' S',lpk (b12_1 words n (call tabW n (d + 1 + 1 + 1 + 1 + 1))) q [.ptr pt 0,.ptr ps 0,.int .u64 (.ofNat c)] h = .done .normal [.und,.und,.ptr pt 0,.ptr ps 0] h' ∧
    TabR h' pt sh L' S' (fun x=>x = ps.val)∧Sw N0 h0 h' ps r true) ∧
  (loadP sh c L rest = none→∃ h',UpTo N0 h0 h'∧lpk (b12_1 words n (call tabW n (d + 1 + 1 + 1 + 1 + 1))) q [.ptr pt 0,.ptr ps 0,.int .u64 (.ofNat c)] h = .done .ret [.nilp,ik 280,.ptr pt 0,.ptr ps 0] h')
 | k,L,S,rest,c,0,h,_,hq,_,_,_,_,_,_,_=>by omega
 | k,L,S,rest,c,q + 1,h,hk,hq,hc,T,sN,w,inv,hL,hb=>by
   cases c with
   | zero=>
     have n1 : ilt (.ofNat 0) (.ofNat 0) = false:=rfl
     rw [loadP]
     refine ⟨fun L' r e=>?_,fun e=>(by cases e)⟩
     cases e
     refine ⟨h,S,?_,T,w⟩
     rw [lpk_succ]
     simp -implicitDefEqProofs only [b12_1,↓n1,↓evR]
   | succ m=>
     have n1 : ilt (.ofNat 0) (.ofNat (m + 1)) = true:=ilt_true (by omega)
     have n2 : wrapv .u64 (Int.sub (.ofNat (m + 1)) (.ofNat 1)) = .ofNat m:=by
      have : Int.sub (.ofNat (m + 1)) (.ofNat 1) = .ofNat m:=by
       show ((m + 1 : Nat) : Int) - 1 = (m : Int)
       omega
      rw [this]; exact u64_small (by omega)
     obtain ⟨h1,U1,res⟩:=thing30 (n:=n) (d:=d) hn ok inv (by omega) T sN w hb (by omega)
     rw [loadP]
     rcases res with ⟨hs,e1⟩ | ⟨L1,b1,S1,hs,e1,T1,sN1,w1⟩
     · rw [hs]
       refine ⟨fun _ _ e=>(by cases e),fun _=>⟨h1,U1,?_⟩⟩
       rw [lpk_succ]
       simp -implicitDefEqProofs only [b12_1,↓n1,↓e1,↓evR]
     · obtain ⟨s1,⟨t,f1,f2⟩,s3,s4⟩:=stepP_inv ok inv hb (by omega) hs
       obtain ⟨k,rfl⟩ : ∃ k',k = k' + 1:=⟨k - 1,by omega⟩
       have hL1 : L1.length = L.length + 1:=by rw [f1]; simp
       have ih:=loop12 hn ok k (c:=m) (q:=q) (by omega) (by omega) (by omega) T1 sN1 w1 s1 (by omega) s3
       rw [hs]
       simp only
       refine ⟨fun L' r e=>?_,fun e=>?_⟩
       · obtain ⟨h2,S2,a1,a2⟩:=ih.1 L' r e
         refine ⟨h2,S2,?_,a2⟩
         rw [lpk_succ]
         simp -implicitDefEqProofs only [b12_1,↓n1,↓e1,↓n2,↓a1,↓evR]
       · obtain ⟨h2,u,a1⟩:=ih.2 e
         refine ⟨h2,u,?_⟩
         rw [lpk_succ]
         simp -implicitDefEqProofs only [b12_1,↓n1,↓e1,↓n2,↓a1,↓evR]
termination_by k=>k
theorem load12 {ras : List Ra} {v vb : V} {bs : List Nat} (hn : 10000 ≤ n) (hl0 : ras.length ≤ 140737488351232) (w : CellA h (fun x=>x < h.nx.val) (.sl 3 (ras.map raT)) v) (hk : ∀ x ∈ ras,x.kind < 256∧x.fields.length ≤ 140737488351232∧x.cases.length ≤ 140737488351232) (hb : Bytes bs) (hl : bs.length ≤ 3000) (wb : IsS h vb (bs.map bV)) (lb : Low vb h.nx.val) :
 ∃ h',Up h h'∧((call tabW n (d + 1 + 1 + 1 + 1 + 1 + 1 + 1 + 1 + 1 + 1) f12 [v,vb] h = .ret (.tup [.nilp,ik 2]) h'∧¬ AllMay ras) ∨ (AllMay ras ∧
  ((call tabW n (d + 1 + 1 + 1 + 1 + 1 + 1 + 1 + 1 + 1 + 1) f12 [v,vb] h = .ret (.tup [.nilp,ik 280]) h'∧fullP (ras.map raS) bs = none) ∨
    ∃ p S X L,call tabW n (d + 1 + 1 + 1 + 1 + 1 + 1 + 1 + 1 + 1 + 1) f12 [v,vb] h = .ret (.tup [.ptr p 0,ik 0]) h'∧fullP (ras.map raS) bs = some L∧TabR h' p (ras.map raS) L S X))):=by
 obtain ⟨h1,U1,res⟩:=new_law (n:=n) (d:=d) (by omega) hl0 w hk
 rcases res with ⟨e1,hno⟩ | ⟨p,S,e1,T1,ok,lo,M⟩
 · refine ⟨h1,U1,.inl ⟨?_,hno⟩⟩
   have pn : ∀ q : Bool→Res,pnk .nilp q = q true:=fun q=>rfl
   rw [call12]
   simp -implicitDefEqProofs only [sh12,↓e1,↓pn,↓evR]
 · have pn : ∀ q : Bool→Res,pnk (.ptr p 0) q = q false:=fun q=>rfl
   have pb : ∀ q : Nat→List V→Res,partsk vb q = q 1 [vb]:=fun q=>wb.parts q
   obtain ⟨h2,e2,r2,U2,lt2⟩:=new_row h1 (g:=2) (l:=[vb,.bool true]) rfl (by omega)
   have e2' : ∀ q,words.new h1 (.arr 2 1 (.lf [vb,.bool true]) .false) q = q h1.nx h2:=e2
   have T2:=(T1.addX U2 (b:=h1.nx) (Nat.le_refl _) lt2).dropX (Y:=fun x=>x = h1.nx.val) fun x hx=>.inr hx
   have U12:=U1.trans U2
   have W2 : Sw h.nx.val h h2 h1.nx bs true:=⟨⟨vb,r2,wb.upTo lb (U12.to (Nat.le_refl _)),lb⟩,lt2,U1.nx,U12.to (Nat.le_refl _)⟩
   obtain ⟨h3,e3,W3,B3⟩:=W2.num (n:=n) (d:=d + 1 + 1 + 1 + 1 + 1 + 1 + 1 + 1) (by omega) hb hl
   have T3:=T2.extX (But.chg B3)
   obtain ⟨t1,t2⟩:=numT_bytes hb
   have fin : ∀ {h' : Heap} {r : List Nat} {okk : Bool},lpk (b12_1 words n (call tabW n (d + 1 + 1 + 1 + 1 + 1 + 1 + 1 + 1 + 1))) n [.ptr p 0,.ptr h1.nx 0,.int .u64 (.ofNat (numV bs))] h3 = .done .normal [.und,.und,.ptr p 0,.ptr h1.nx 0] h'→Sw h.nx.val h h' h1.nx r okk →
    (okk = true∧r = []→call tabW n (d + 1 + 1 + 1 + 1 + 1 + 1 + 1 + 1 + 1 + 1) f12 [v,vb] h = .ret (.tup [.ptr p 0,ik 0]) h')∧(¬ (okk = true∧r = [])→call tabW n (d + 1 + 1 + 1 + 1 + 1 + 1 + 1 + 1 + 1 + 1) f12 [v,vb] h = .ret (.tup [.nilp,ik 280]) h'):=by
    intro h' r okk el st
    obtain ⟨⟨v4,r4,s4,l4⟩,_,_,_⟩:=st
    have c0 : ∀ q : V→Res,words.load1 h' h1.nx 0 q = q v4:=fun q=>load1k_law r4 rfl q
    have c1 : ∀ q : V→Res,words.load1 h' h1.nx 1 q = q (.bool okk):=fun q=>load1k_law r4 rfl q
    have lv : ∀ q : Nat→Res,lenk v4 q = q r.length:=fun q=>by rw [s4.len,List.length_map]
    have k3 : Nat.beq (kno .i64) 3 = true:=rfl
    refine ⟨fun ⟨hb1,ha⟩=>?_,fun hno=>?_⟩
    · subst hb1
      subst ha
      have n1 : ilt (.ofNat 0) (.ofNat ([] : List Nat).length) = false:=rfl
      rw [call12]
      simp -implicitDefEqProofs only [sh12,↓e1,↓pn,↓pb,↓e2',↓e3,↓el,↓c0,↓c1,↓lv,↓k3,↓n1,↓evR]
    · cases okk with
      | false=>
        rw [call12]
        simp -implicitDefEqProofs only [sh12,↓e1,↓pn,↓pb,↓e2',↓e3,↓el,↓c1,↓evR]
      | true=>
        have n1 : ilt (.ofNat 0) (.ofNat r.length) = true:=ilt_true (by
         cases r with
         | nil=>exact absurd ⟨rfl,rfl⟩ hno
         | cons _ _=>simp)
        rw [call12]
        simp -implicitDefEqProofs only [sh12,↓e1,↓pn,↓pb,↓e2',↓e3,↓el,↓c0,↓c1,↓lv,↓k3,↓n1,↓evR]
   cases hx : num bs with
   | none=>
     have hv0 : numV bs = 0:=by simp [numV,hx]
     have e0 : fullP (ras.map raS) bs = none:=by simp [fullP,hx]
     have hbt : (true && (num bs).isSome) = false:=by rw [hx]; rfl
     rw [hbt] at W3
     obtain ⟨q,hq⟩ : ∃ q,n = q + 1:=⟨n - 1,by omega⟩
     have el : lpk (b12_1 words n (call tabW n (d + 1 + 1 + 1 + 1 + 1 + 1 + 1 + 1 + 1))) n [.ptr p 0,.ptr h1.nx 0,.int .u64 (.ofNat (numV bs))] h3 = .done .normal [.und,.und,.ptr p 0,.ptr h1.nx 0] h3:=by
      have n1 : ilt (.ofNat 0) (.ofNat 0) = false:=rfl
      rw [hv0]
      conv=>lhs; arg 2; rw [hq]
      rw [lpk_succ]
      simp -implicitDefEqProofs only [b12_1,↓n1,↓evR]
     exact ⟨h3,W3.up.up,.inr ⟨M,.inl ⟨(fin el W3).2 fun e=>(by cases e.1),e0⟩⟩⟩
   | some x=>
     obtain ⟨m,r⟩:=x
     have hv : numV bs = m:=by simp [numV,hx]
     have ht : numT bs = r:=by simp [numT,hx]
     have hbt : (true && (num bs).isSome) = true:=by rw [hx]; rfl
     rw [hbt,ht] at W3
     rw [ht] at t1 t2
     have lp:=loop12 (n:=n) (d:=d + 1 + 1 + 1 + 1) hn ok 3000 (L:=[]) (rest:=r) (c:=numV bs) (q:=n) (by omega) (by omega) (numV_lt hb) T3 lo W3 .nil (by simp; omega) t1
     rw [hv] at lp fin
     cases hlp : loadP (ras.map raS) m [] r with
     | none=>
       have e0 : fullP (ras.map raS) bs = none:=by simp [fullP,hx,hlp]
       obtain ⟨h',u,el⟩:=lp.2 hlp
       refine ⟨h',u.up,.inr ⟨M,.inl ⟨?_,e0⟩⟩⟩
       rw [hv] at e3
       rw [call12]
       simp -implicitDefEqProofs only [sh12,↓e1,↓pn,↓pb,↓e2',↓e3,↓el,↓evR]
     | some y=>
       obtain ⟨L',r'⟩:=y
       obtain ⟨h',S',el,T',W'⟩:=lp.1 L' r' hlp
       by_cases hr : r' = []
       · subst hr
         have e0 : fullP (ras.map raS) bs = some L':=by simp [fullP,hx,hlp]
         exact ⟨h',W'.up.up,.inr ⟨M,.inr ⟨p,S',_,L',(fin el W').1 ⟨rfl,rfl⟩,e0,T'⟩⟩⟩
       · have e0 : fullP (ras.map raS) bs = none:=by
          unfold fullP
          rw [hx]
          simp only
          rw [hlp]
          cases r' with
          | nil=>exact absurd rfl hr
          | cons _ _=>rfl
         exact ⟨h',W'.up.up,.inr ⟨M,.inl ⟨(fin el W').2 fun e=>hr e.2,e0⟩⟩⟩
end
end Go.Ev.WIB

/- InternLoads: appending, and what does not change by it. -/
namespace Go.Ev.WIB
open Go.Proofs
set_option maxRecDepth 100000
structure Fine (v v' : V) (h h' : Heap) : Prop where
 get : ∀ b' : Bid,b'.val < h.nx.val→Off v b'.val→h'.t.get b' = h.t.get b'
 off : ∀ x,x < h.nx.val→Off v x→Off v' x
 nx : h.nx.val ≤ h'.nx.val
theorem Fine.refl (v : V) (h : Heap) : Fine v v h h:=⟨fun _ _ _=>rfl,fun _ _ o=>o,Nat.le_refl _⟩
theorem Fine.trans {v v' v'' : V} {h h' h'' : Heap} (a : Fine v v' h h') (b : Fine v' v'' h' h'') : Fine v v'' h h'':=
 ⟨fun x hx o=>(b.get x (Nat.lt_of_lt_of_le hx a.nx) (a.off _ hx o)).trans (a.get x hx o),fun x hx o=>b.off x (Nat.lt_of_lt_of_le hx a.nx) (a.off x hx o),Nat.le_trans a.nx b.nx⟩
theorem _root_.Go.Ev.Up.fine {h h' : Heap} (u : Up h h') (v : V) : Fine v v h h':=⟨fun b hb _=>u.get b hb,fun _ _ o=>o,u.nx⟩
theorem Fine.row {v v' : V} {h h' : Heap} (f : Fine v v' h h') {b : Bid} {g : Nat} {l : List V} (r : Row (h.t.get b) g l) (hb : b.val < h.nx.val) (ho : Off v b.val) : Row (h'.t.get b) g l:=by rw [f.get b hb ho]; exact r
theorem appendk_fine {lo : Nat} {v : V} {l new : List V} {h : Heap} (w : Own h lo v l) (hlo : lo ≤ h.nx.val) (hs : l.length + new.length ≤ 16777216) :
 ∃ h' v',(∀ k,appendk 1 v new.length new h k = k v' h')∧Own h' lo v' (l ++ new)∧UpTo lo h h'∧Fine v v' h h':=by
 cases w with
 | nils=>
   cases new with
   | nil=>exact ⟨h,.nils,fun k=>rfl,.nils,.refl _ _,⟨fun _ _ _=>rfl,fun x _ o=>o,Nat.le_refl _⟩⟩
   | cons x new=>
     obtain ⟨h',h1,h2,h3⟩:=freshk_law (l:=x :: new) h
     refine ⟨h',_,fun k=>?_,.sl h.nx none (x :: new) hlo h3.lt h2 (fun n e=>by cases e),h3.up.to hlo,⟨fun b' hb' _=>h3.up.get b' hb',fun x hx _=>off_slice.2 (by omega),h3.up.nx⟩⟩
     show zk (x :: new).length (k .nils h) (ifk (Nat.ble (x :: new).length 16777216) (freshk 1 (x :: new).length (x :: new) h k) .fail) = _
     rw [ble_of (by simpa using hs)]
     exact h1 k
 | sl b c _ blo bhi row cap=>
   have unf : ∀ k,appendk 1 (.slice b 0 l.length c 1) new.length new h k = optk c
    (fun cap=>ifk (Nat.ble (l.length + new.length) cap) (storek h b (0 + l.length * 1) (new.length * 1) new fun h'=>k (.slice b 0 (l.length + new.length) c 1) h')
      (loadk h b 0 (l.length * 1) fun old=>appk old new fun all=>freshk 1 (l.length + new.length) all h k))
    (h.getk b fun blk=>arrk blk fun g n t ro=>ifk (Nat.ble (0 + (l.length + new.length) * 1) (n * g))
      (storek h b (0 + l.length * 1) (new.length * 1) new fun h'=>k (.slice b 0 (l.length + new.length) c 1) h')
      (ifk ro .fail (ifk (Nat.beq g 1)
        (ifk (Nat.beq n l.length) (zk 0 (chopk 1 new.length l.length new t fun t'=>movek b 1 (l.length + new.length) t' h k) .fail)
          (loadk h b 0 (l.length * 1) fun old=>appk old new fun all=>rowk 1 (l.length + new.length) all fun t'=>movek b 1 (l.length + new.length) t' h k))
        (ifk (Nat.beq g 1) .fail (loadk h b 0 (l.length * 1) fun old=>appk old new fun all=>rowk 1 (l.length + new.length) all fun t'=>movek b 1 (l.length + new.length) t' h k))))):=by
    intro k
    show ifk (Nat.beq 1 1) (ifk (Nat.ble (l.length + new.length) 16777216) _ .fail) .fail = _
    rw [show Nat.beq 1 1 = true from rfl,ifk_true,ble_of hs,ifk_true]
    rfl
   have sto : new = []→∃ h' v',(∀ k : V→Heap→Res,storek h b (0 + l.length * 1) (new.length * 1) new (fun h'=>k (.slice b 0 (l.length + new.length) c 1) h') = k v' h')∧Own h' lo v' (l ++ new)∧UpTo lo h h'∧Fine (.slice b 0 l.length c 1) v' h h':=by
    rintro rfl
    obtain ⟨h',h1,h2,h3⟩:=storek_law row (vs:=[]) (o:=0 + l.length * 1) (n:=0 * 1) rfl (by omega)
    refine ⟨h',.slice b 0 (l.length + 0) c 1,fun k=>h1 _,?_,⟨by rw [h3.nx]; exact Nat.le_refl _,fun b' hb'=>h3.get b' (by rintro rfl; omega)⟩,⟨fun b' _ ho=>h3.get b' (by rintro rfl; exact off_slice.1 ho rfl),fun x _ ho=>off_slice.2 (off_slice.1 ho),by rw [h3.nx]; exact Nat.le_refl _⟩⟩
    rw [List.append_nil]
    exact .sl b c l blo (by rw [h3.nx]; exact bhi) (row_ext h2 (by simp [splice])) cap
   cases c with
   | some n=>
     have hn:=cap n rfl
     subst hn
     cases new with
     | nil=>
       obtain ⟨h',v',h1,h2⟩:=sto rfl
       refine ⟨h',v',fun k=>?_,h2⟩
       rw [unf,optk_some,ble_of (by simp),ifk_true]
       exact h1 k
     | cons x new=>
       obtain ⟨h',h1,h2,h3⟩:=freshk_law (l:=l ++ x :: new) h
       rw [List.length_append] at h1
       refine ⟨h',.slice h.nx 0 (l.length + (x :: new).length) none 1,fun k=>?_,?_,h3.up.to hlo,⟨fun b' hb' _=>h3.up.get b' hb',fun x hx _=>off_slice.2 (by omega),h3.up.nx⟩⟩
       · rw [unf,optk_some,ble_not (by simp),ifk_false,loadk_law row (by omega),appk_eq]
         have e : (l.drop 0).take (l.length * 1) ++ x :: new = l ++ x :: new:=by simp
         rw [e]
         exact h1 k
       · have:=Own.sl (h:=h') (lo:=lo) h.nx none (l ++ x :: new) hlo h3.lt h2 (fun n e=>by cases e)
         rwa [List.length_append] at this
   | none=>
     obtain ⟨n,t,g1,g2,g3,g4⟩:=row.is
     have hnl : n = l.length:=by omega
     subst hnl
     cases new with
     | nil=>
       obtain ⟨h',v',h1,h2⟩:=sto rfl
       refine ⟨h',v',fun k=>?_,h2⟩
       rw [unf,optk_none,Heap.getk_eq,g1]
       show (ifk (Nat.ble (0 + (l.length + ([] : List V).length) * 1) (l.length * 1)) _ _) = _
       rw [ble_of (by simp),ifk_true]
       exact h1 k
     | cons x new=>
       obtain ⟨t',h1,h2,h3⟩:=chopk_law (g:=1) (by omega) g2 (l:=x :: new) (m:=(x :: new).length) (by omega)
       have hr : Row (.arr 1 (l ++ x :: new).length t' false) 1 (l ++ x :: new):=by
        refine ⟨_,_,rfl,by rw [List.length_append]; exact h2,by omega,fun i=>?_⟩
        rw [h3]
        by_cases hi : l.length * 1 ≤ i
        · rw [if_pos hi,List.getElem?_append_right (by omega),Nat.mul_one]
        · rw [if_neg hi,g4,List.getElem?_append_left (by omega)]
       obtain ⟨h',h4,h5,h6,h7⟩:=movek_law (b:=b) h hr
       rw [List.length_append] at h4
       refine ⟨h',.slice h.nx 0 (l.length + (x :: new).length) none 1,fun k=>?_,?_,⟨by rw [h6,Bid.nxt_val]; omega,fun b' hb'=>h7 b' (by rintro rfl; omega) (by rintro rfl; omega)⟩,⟨fun b' hb' ho=>h7 b' (by rintro rfl; exact off_slice.1 ho rfl) (by rintro rfl; omega),fun x hx _=>off_slice.2 (by omega),by rw [h6,Bid.nxt_val]; omega⟩⟩
       · rw [unf,optk_none,Heap.getk_eq,g1]
         show (ifk (Nat.ble (0 + (l.length + (x :: new).length) * 1) (l.length * 1)) _ _) = _
         rw [ble_not (by simp),ifk_false,ifk_false,show Nat.beq 1 1 = true from rfl,ifk_true,Nat.beq_refl,ifk_true,zk_zero]
         exact (h1 _).trans (h4 k)
       · have:=Own.sl (h:=h') (lo:=lo) h.nx none (l ++ x :: new) hlo (by rw [h6,Bid.nxt_val]; omega) h5 (fun n e=>by cases e)
         rwa [List.length_append] at this
theorem app_fine {lo : Nat} {v u : V} {l new : List V} {h : Heap} (w : Own h lo v l) (x : IsS h u new) (hlo : lo ≤ h.nx.val) (hs : l.length + new.length ≤ 16777216) :
 ∃ h' v',(∀ k,words.app 1 v u h k = k v' h')∧Own h' lo v' (l ++ new)∧UpTo lo h h'∧Fine v v' h h':=by
 obtain ⟨h',v',h1,h2⟩:=appendk_fine w hlo hs
 refine ⟨h',v',fun k=>?_,h2⟩
 show srck 1 u h (fun m new=>appendk 1 v m new h k) = _
 rw [x.src]
 exact h1 k
section
variable {h : Heap} {n d : Nat}
theorem short_loopf {lo : Nat} : ∀ (j m : Nat) {q : Nat} {h : Heap} {v : V} {l : List Nat},m < 128 ^ (j + 1)→j < q→Own h lo v (l.map bV)→lo ≤ h.nx.val→l.length + j + 1 ≤ 16777216 →
 ∃ h' v' l' m',lpk (b36_1 words n (call tabW n d)) q [v,.int .u64 (.ofNat m)] h = .done .normal [v',.int .u64 (.ofNat m')] h'∧m' < 128∧Own h' lo v' (l'.map bV)∧l' ++ [m'] = l ++ shortB m∧UpTo lo h h'∧l'.length ≤ l.length + j∧Fine v v' h h'
 | j,m,0,_,_,_,_,h0,_,_,_=>absurd h0 (Nat.not_lt_zero _)
 | j,m,q + 1,h,v,l,hm,hj,w,hlo,hs=>by
   rw [lpk_succ]
   by_cases h1 : m < 128
   · have n1:=ilt_true h1
     refine ⟨h,v,l,m,?_,h1,w,?_,.refl _ _,by omega,.refl _ _⟩
     · simp -implicitDefEqProofs only [b36_1,↓n1,↓evR]
     · rw [shortB,dif_pos h1]
   · have n1:=ilt_false h1
     have n2:=orb m
     obtain ⟨h2,e2,r2,U2,lt2⟩:=new_row h (g:=1) (l:=[.int .u8 (.ofNat (m % 128 + 128))]) rfl (by omega)
     have e2' : ∀ q,words.new h (.arr 1 1 (.lf [.int .u8 (.ofNat (m % 128 + 128))]) .false) q = q h.nx h2:=e2
     have r1 : ∀ q,words.row 1 1 [.int .u8 (.ofNat (m % 128 + 128))] q = q (.lf [.int .u8 (.ofNat (m % 128 + 128))]):=fun q=>row_one (g:=1) rfl q
     obtain ⟨h3,v3,e3,w3,U3,F3⟩:=app_fine (w.up U2) (one_isS r2) (Nat.le_trans hlo U2.nx) (by rw [List.length_map,List.length_singleton]; omega)
     obtain ⟨j,rfl⟩ : ∃ j',j = j' + 1:=by
      cases j with
      | zero=>simp at hm; omega
      | succ j=>exact ⟨j,rfl⟩
     have n3 : shrv (.ofNat m) 128 = .ofNat (m / 128):=shrv_nat m 128
     obtain ⟨h4,v4,l4,m4,e4,i4,w4,j4,U4,k4,F4⟩:=short_loopf j (m / 128) (q:=q) (h:=h3) (v:=v3) (l:=l ++ [m % 128 + 128]) (by rw [Nat.pow_succ] at hm; omega) (by omega) (by rw [List.map_append]; exact w3) (Nat.le_trans (Nat.le_trans hlo U2.nx) U3.nx) (by rw [List.length_append,List.length_singleton]; omega)
     refine ⟨h4,v4,l4,m4,?_,i4,w4,?_,((U2.to hlo).trans U3).trans U4,by rw [List.length_append,List.length_singleton] at k4; omega,((U2.fine v).trans F3).trans F4⟩
     · simp -implicitDefEqProofs only [b36_1,↓n1,↓n2,↓r1,↓e2',↓e3,↓n3,↓e4,↓evR]
     · rw [j4,shortB.eq_def m,dif_neg h1,List.append_assoc]
       rfl
theorem short_fine {lo m : Nat} {v : V} {l : List Nat} (hn : 10 ≤ n) (hm : m < 18446744073709551616) (w : Own h lo v (l.map bV)) (hlo : lo ≤ h.nx.val) (hs : l.length + 20 ≤ 16777216) :
 ∃ h' v',call tabW n (d + 1) f36 [v,.int .u64 (.ofNat m)] h = .ret v' h'∧Own h' lo v' ((l ++ shortB m).map bV)∧UpTo lo h h'∧Fine v v' h h':=by
 obtain ⟨h1,v1,l1,m1,e1,i1,w1,k1,U1,j1,F1⟩:=short_loopf (n:=n) (d:=d) 9 m (q:=n) (by omega) (by omega) w hlo (by omega)
 have n2 : wrapv .u8 (.ofNat m1) = .ofNat m1:=by rw [wrapv_u8,Nat.mod_eq_of_lt (by omega)]
 obtain ⟨h2,e2,r2,U2,lt2⟩:=new_row h1 (g:=1) (l:=[.int .u8 (.ofNat m1)]) rfl (by omega)
 have e2' : ∀ q,words.new h1 (.arr 1 1 (.lf [.int .u8 (.ofNat m1)]) .false) q = q h1.nx h2:=e2
 have r1 : ∀ q,words.row 1 1 [.int .u8 (.ofNat m1)] q = q (.lf [.int .u8 (.ofNat m1)]):=fun q=>row_one (g:=1) rfl q
 have lo1:=Nat.le_trans hlo U1.nx
 obtain ⟨h3,v3,e3,w3,U3,F3⟩:=app_fine (w1.up U2) (one_isS r2) (Nat.le_trans lo1 U2.nx) (by rw [List.length_map,List.length_singleton]; omega)
 refine ⟨h3,v3,?_,?_,(U1.trans (U2.to lo1)).trans U3,(F1.trans (U2.fine v1)).trans F3⟩
 · rw [call36]
   simp -implicitDefEqProofs only [sh36,↓e1,↓n2,↓r1,↓e2',↓e3,↓evR]
 · rw [← k1,List.map_append]
   exact w3
end
end Go.Ev.WIB

/- InternLoads: Size, Save; the law. -/
namespace Go.Ev.WIB
open Go.Proofs
set_option maxRecDepth 100000
section
variable {h : Heap} {sh : List Sh} {L : List Th} {S X : Nat→Prop} {n d : Nat} {p bo bm : Bid} {c : Option Nat} {va vs : V} {cells pv : List V} {M : List (List Nat × Nat)}
theorem TabX.th (w : TabX h p bo bm c va vs cells pv sh L M S X) {i : Nat} (hi : i < L.length) (hp : i < pv.length) : ∃ b,va = .slice b 0 L.length none 5∧∀ q : List V→Res,words.load h b (Nat.add 0 (Nat.mul i 5)) 5 q = q (thC L[i] pv[i]):=by
 obtain ⟨b,e,hb,l5,l1⟩:=w.all.at_ (g:=5) (m:=L.length) (by omega) (thCs_len w.pl) hi
 have hd:=thCs_drop w.pl (List.getElem?_eq_getElem hi) (List.getElem?_eq_getElem hp)
 refine ⟨b,e,fun q=>?_⟩
 have:=l5 0 5 (by omega) q
 rw [Nat.add_zero,hd] at this
 show loadk h b (0 + i * 5) 5 q = _
 rw [Nat.zero_add]; exact this
theorem save_parts {lo : Nat} {hs : Heap} {parts : List Nat} {vp w : V} {x5 x6 : Int} {l0 : List V→Heap→Res} (hp : ∀ w ∈ parts,w < 18446744073709551616) (hpl : parts.length ≤ 100) (hlo : lo ≤ hs.nx.val) (A : Nat→Prop) (hA : ∀ x,A x→x < lo) (wp : CellA hs A (.sl 1 (parts.map wT)) vp) (hn : 10 ≤ n) :
 ∀ (j : Nat) {k q : Nat} {h : Heap} {v : V} {l : List Nat},k + j = parts.length→j < q→UpTo lo hs h→Own h lo v (l.map bV)→l.length + j * 10 + 20 ≤ 16777216 →
  ∃ h' v',lpk (b15_1 words n (call tabW n (d + 1)) l0) q [v,w,I x5,I x6,vp,ik parts.length,ik k] h = l0 [v',w,I x5,I (ad x6 1)] h'∧Own h' lo v' ((l ++ (parts.drop k).flatMap shortB).map bV)∧UpTo lo h h'
 | j,k,0,_,_,_,_,h0,_,_,_=>absurd h0 (Nat.not_lt_zero _)
 | 0,k,q + 1,h,v,l,hk,_,U,W,hs'=>by
   have n1 : ilt (.ofNat k) (.ofNat parts.length) = false:=ilt_false (by omega)
   refine ⟨h,v,?_,?_,.refl _ _⟩
   · rw [lpk_succ]
     simp -implicitDefEqProofs only [b15_1,↓n1,↓evR]
   · rw [List.drop_eq_nil_of_le (by omega)]; simpa using W
 | j + 1,k,q + 1,h,v,l,hk,hq,U,W,hs'=>by
   have hkl : k < parts.length:=by omega
   have n1:=ilt_true hkl
   have n2 : Nat.blt k parts.length = true:=blt_of hkl
   have n3:=ad_nat (a:=k) (b:=1) (by omega)
   have wh : CellA h A (.sl 1 (parts.map wT)) vp:=wp.mv (fun _ hx=>hx) fun b hb=>U.get b (hA _ hb)
   obtain ⟨b,o,m,e,a1⟩:=word_at wh hkl
   obtain ⟨h1,v1,e1,W1,U1⟩:=short_own (n:=n) (d:=d) hn (hp _ (List.getElem_mem hkl)) W (Nat.le_trans hlo U.nx) (by omega)
   have hlen:=shortB_len10 (hp _ (List.getElem_mem hkl))
   obtain ⟨h2,v2,e2,W2,U2⟩:=save_parts (w:=w) (x5:=x5) (x6:=x6) (l0:=l0) hp hpl hlo A hA wp hn j (k:=k + 1) (q:=q) (by omega) (by omega) (U.trans U1) W1 (by rw [List.length_append]; omega)
   refine ⟨h2,v2,?_,?_,U1.trans U2⟩
   · rw [lpk_succ]
     rw [e] at e2 ⊢
     simp -implicitDefEqProofs only [b15_1,↓n1,↓n2,↓a1,↓e1,↓n3,↓e2,↓evR]
   · rw [List.drop_eq_getElem_cons hkl,List.flatMap_cons,← List.append_assoc]
     exact W2
theorem save_loop {lo : Nat} {hs : Heap} (w : TabX hs p bo bm c va vs cells pv sh L M S X) (g : Good sh L) (hsh : sh.length ≤ 258) (hn : 10000 ≤ n) (hL : L.length ≤ 3000) (hlo : lo ≤ hs.nx.val) (hlt : ∀ x,x < hs.nx.val→x < lo) :
 ∀ (j : Nat) {i q : Nat} {h : Heap} {v : V} {l : List Nat},i + j = L.length→j < q→UpTo lo hs h→Own h lo v (l.map bV)→l.length + ((L.drop i).flatMap thB).length ≤ 3000 →
  ∃ h' v',lpk (b15_2 words n (call tabW n (d + 1))) q [v,va,ik L.length,ik i] h = .ret v' h'∧Own h' lo v' ((l ++ (L.drop i).flatMap thB).map bV)∧UpTo lo h h'
 | j,i,0,_,_,_,_,h0,_,_,_=>absurd h0 (Nat.not_lt_zero _)
 | 0,i,q + 1,h,v,l,hi,_,U,W,hs'=>by
   have n1 : ilt (.ofNat i) (.ofNat L.length) = false:=ilt_false (by omega)
   refine ⟨h,v,?_,?_,.refl _ _⟩
   · rw [lpk_succ]
     simp -implicitDefEqProofs only [b15_2,↓n1,↓evR]
   · rw [List.drop_eq_nil_of_le (by omega)]; simpa using W
 | j + 1,i,q + 1,h,v,l,hi,hq,U,W,hs'=>by
   have hil : i < L.length:=by omega
   have n1:=ilt_true hil
   have n2 : Nat.blt i L.length = true:=blt_of hil
   have n3:=ad_nat (a:=i) (b:=1) (by omega)
   have Uh : Up hs h:=⟨U.nx,fun b hb=>U.get b (hlt _ hb)⟩
   have hip : i < pv.length:=by rw [w.pl]; exact hil
   obtain ⟨b,e,l5⟩:=(w.up Uh).th hil hip
   have wp:=w.parts i _ _ (List.getElem?_eq_getElem hil) (List.getElem?_eq_getElem hip)
   obtain ⟨⟨o1,o2,o3,o4,o5⟩,o6,o7⟩:=g.ok _ (List.getElem_mem hil)
   rw [List.drop_eq_getElem_cons hil,List.flatMap_cons,List.length_append] at hs'
   rw [List.drop_eq_getElem_cons hil,List.flatMap_cons]
   have nlo:=Nat.le_trans hlo U.nx
   obtain ⟨h1,h2,e1,e2,r2,U2,lt2⟩:=new_store h (g:=5) (z:=[ik 0,ik 0,.str 0 0,.nils,ik 0]) (l:=thC L[i] pv[i]) rfl rfl (by omega)
   have e1' : ∀ q,words.new h (.arr 5 1 (repT [ik 0,ik 0,.str 0 0,.nils,ik 0] 1 1) .false) q = q h.nx h1:=e1
   have e2' : ∀ q,words.store h1 h.nx 0 5 (thC L[i] pv[i]) q = q h2:=e2
   have c0 : ∀ q : V→Res,words.load1 h2 h.nx 0 q = q (ik L[i].shape):=fun q=>load1k_law r2 rfl q
   have ns : wrapv .u64 (.ofNat L[i].shape) = .ofNat L[i].shape:=u64_small (by omega)
   have U2lo : UpTo lo h h2:=U2.to nlo
   have lo2:=Nat.le_trans nlo U2.nx
   have off0 : Off v h.nx.val:=Classical.byContradiction fun e=>by
    obtain ⟨b',o',l',c',s',e',hb'⟩:=not_off e
    have:=W.low b' o' l' c' s' e'
    omega
   obtain ⟨h3,v3,e3,W3,U3,F3⟩:=short_fine (n:=n) (d:=d) (by omega) (show L[i].shape < 18446744073709551616 by omega) (W.up U2) lo2 (by omega)
   have r3:=F3.row r2 lt2 off0
   have off3:=F3.off _ lt2 off0
   have lt3:=Nat.lt_of_lt_of_le lt2 F3.nx
   have lo3:=Nat.le_trans lo2 U3.nx
   have s3:=shortB_len10 (show L[i].shape < 18446744073709551616 by omega)
   have c3 : ∀ q : V→Res,words.load1 h3 h.nx 0 q = q (ik L[i].shape):=fun q=>load1k_law r3 rfl q
   by_cases hs1 : L[i].shape = 1
   · have i1 : ieq (.ofNat L[i].shape) (.ofNat 1) = true:=by rw [ieq_nat]; simpa using hs1
     have eth : thB L[i] = shortB L[i].shape ++ (shortB L[i].text.length ++ L[i].text):=by unfold thB; rw [if_pos hs1]
     rw [eth] at hs' ⊢
     simp only [List.length_append] at hs'
     have c3t : ∀ q : V→Res,words.load1 h3 h.nx 2 q = q (.str L[i].text.length (packN L[i].text)):=fun q=>load1k_law r3 rfl q
     have nt : wrapv .u64 (.ofNat L[i].text.length) = .ofNat L[i].text.length:=u64_small (by omega)
     obtain ⟨h4,v4,e4,W4,U4,F4⟩:=short_fine (n:=n) (d:=d) (by omega) (show L[i].text.length < 18446744073709551616 by omega) W3 lo3 (by rw [List.length_append]; omega)
     have r4:=F4.row r3 lt3 off3
     have c4t : ∀ q : V→Res,words.load1 h4 h.nx 2 q = q (.str L[i].text.length (packN L[i].text)):=fun q=>load1k_law r4 rfl q
     have lo4:=Nat.le_trans lo3 U4.nx
     obtain ⟨h5,v5,e5,W5,U5⟩:=appendk_own W4 (new:=L[i].text.map bV) lo4 (by simp only [List.length_map,List.length_append]; have:=shortB_len10 (show L[i].text.length < 18446744073709551616 by omega); omega)
     have e5' : ∀ q : V→Heap→Res,words.appS v4 (.str L[i].text.length (packN L[i].text)) h4 q = q v5 h5:=fun q=>by
      show bytesk L[i].text.length (packN L[i].text) (fun cs=>appendk 1 v4 L[i].text.length cs h4 q) = _
      rw [bytesk_law o4]
      have:=e5 q
      rw [List.length_map] at this
      exact this
     have U25:=((U2lo.trans U3).trans U4).trans U5
     obtain ⟨h6,v6,e6,W6,U6⟩:=save_loop w g hsh hn hL hlo hlt j (i:=i + 1) (q:=q) (h:=h5) (v:=v5) (l:=l ++ shortB L[i].shape ++ shortB L[i].text.length ++ L[i].text) (by omega) (by omega) (U.trans U25) (by rw [List.map_append]; exact W5) (by simp only [List.length_append]; omega)
     refine ⟨h6,v6,?_,by simpa [List.append_assoc] using W6,U25.trans U6⟩
     rw [lpk_succ]
     rw [e] at e6 ⊢
     simp -implicitDefEqProofs only [b15_2,↓n1,↓n2,↓l5,↓e1',↓e2',↓c0,↓ns,↓e3,↓c3,↓i1,↓c3t,↓nt,↓e4,↓c4t,↓e5',↓n3,↓e6,↓evR]
   · have i1 : ieq (.ofNat L[i].shape) (.ofNat 1) = false:=by rw [ieq_nat]; simpa using hs1
     have eth : thB L[i] = shortB L[i].shape ++ (shortB L[i].branch ++ L[i].parts.flatMap shortB):=by unfold thB; rw [if_neg hs1]
     rw [eth] at hs' ⊢
     simp only [List.length_append] at hs'
     have c3b : ∀ q : V→Res,words.load1 h3 h.nx 1 q = q (ik L[i].branch):=fun q=>load1k_law r3 rfl q
     have nbr : wrapv .u64 (.ofNat L[i].branch) = .ofNat L[i].branch:=u64_small (by omega)
     obtain ⟨h4,v4,e4,W4,U4,F4⟩:=short_fine (n:=n) (d:=d) (by omega) (show L[i].branch < 18446744073709551616 by omega) W3 lo3 (by rw [List.length_append]; omega)
     have r4:=F4.row r3 lt3 off3
     have c4p : ∀ q : V→Res,words.load1 h4 h.nx 3 q = q pv[i]:=fun q=>load1k_law r4 rfl q
     have lp : ∀ q : Nat→Res,lenk pv[i] q = q L[i].parts.length:=fun q=>by rw [wp.lenk,List.length_map]
     have U24:=(U2lo.trans U3).trans U4
     obtain ⟨h5,v5,e5,W5,U5⟩:=save_parts (n:=n) (d:=d) (w:=va) (x5:=.ofNat L.length) (x6:=.ofNat i) (l0:=lpk (b15_2 words n (call tabW n (d + 1))) q) o3 (by omega) hlo (Still hs (SX S X)) (fun x hx=>hlt _ hx.1) wp (by omega) L[i].parts.length (k:=0) (q:=n) (h:=h4) (v:=v4) (l:=l ++ shortB L[i].shape ++ shortB L[i].branch) (by omega) (by omega) (U.trans U24) W4 (by simp only [List.length_append]; have:=shortB_len10 (show L[i].branch < 18446744073709551616 by omega); omega)
     rw [List.drop_zero] at W5
     have U25:=U24.trans U5
     obtain ⟨h6,v6,e6,W6,U6⟩:=save_loop w g hsh hn hL hlo hlt j (i:=i + 1) (q:=q) (h:=h5) (v:=v5) (l:=l ++ shortB L[i].shape ++ shortB L[i].branch ++ L[i].parts.flatMap shortB) (by omega) (by omega) (U.trans U25) W5 (by simp only [List.length_append]; omega)
     refine ⟨h6,v6,?_,by simpa [List.append_assoc] using W6,U25.trans U6⟩
     have e5' : lpk (b15_1 words n (call tabW n (d + 1)) (lpk (b15_2 words n (call tabW n (d + 1))) q)) n [v4,va,ik L.length,ik i,pv[i],ik L[i].parts.length,ik 0] h4 = .ret v6 h6:=by
      rw [e5,n3]; exact e6
     rw [lpk_succ]
     rw [e] at e5' ⊢
     simp -implicitDefEqProofs only [b15_2,↓n1,↓n2,↓l5,↓e1',↓e2',↓c0,↓ns,↓e3,↓c3,↓i1,↓c3b,↓nbr,↓e4,↓c4p,↓lp,↓e5',↓evR]
theorem save15 (w : TabR h p sh L S X) (g : Good sh L) (hsh : sh.length ≤ 258) (hn : 10000 ≤ n) (hl : (saveB L).length ≤ 3000) (hL : L.length ≤ 3000) : ∃ h' v',call tabW n (d + 1 + 1) f15 [.ptr p 0] h = .ret v' h'∧IsS h' v' ((saveB L).map bV)∧Up h h':=by
 obtain ⟨bo,bm,c,va,vs,cells,pv,wx⟩:=w
 have pn : ∀ q : Bool→Res,pnk (.ptr p 0) q = q false:=fun q=>rfl
 obtain ⟨a0,_,_,_⟩:=wx.ld
 have la : ∀ q : Nat→Res,lenk va q = q L.length:=fun k=>wx.all.len (by omega) (thCs_len wx.pl) k
 have nl : wrapv .u64 (.ofNat L.length) = .ofNat L.length:=u64_small (by omega)
 obtain ⟨h1,v1,e1,W1,U1⟩:=short_own (n:=n) (d:=d) (lo:=h.nx.val) (h:=h) (v:=.nils) (l:=[]) (by omega) (show L.length < 18446744073709551616 by omega) .nils (Nat.le_refl _) (by simp)
 have U1' : Up h h1:=U1.up
 have wx1:=wx.up U1'
 obtain ⟨a1,_,_,_⟩:=wx1.ld
 rw [List.nil_append] at W1
 unfold saveB at hl
 rw [List.length_append] at hl
 obtain ⟨h2,v2,e2,W2,U2⟩:=save_loop (n:=n) (d:=d) (lo:=h.nx.val) wx g hsh hn hL (Nat.le_refl _) (fun x hx=>hx) L.length (i:=0) (q:=n) (h:=h1) (v:=v1) (l:=shortB L.length) (by omega) (by omega) U1 W1 (by rw [List.drop_zero]; omega)
 rw [List.drop_zero] at W2
 refine ⟨h2,v2,?_,W2.isS,(U1.trans U2).up⟩
 rw [call15]
 simp -implicitDefEqProofs only [sh15,↓pn,↓a0,↓la,↓nl,↓e1,↓a1,↓e2,↓evR]
theorem size8 (w : TabR h p sh L S X) : call tabW n (d + 1) f8 [.ptr p 0] h = .ret (ik L.length) h:=by
 obtain ⟨va,a0,la⟩:=w.lnAll
 have pn : ∀ q : Bool→Res,pnk (.ptr p 0) q = q false:=fun q=>rfl
 rw [call8]
 simp -implicitDefEqProofs only [sh8,↓pn,↓a0,↓la,↓evR]
theorem size14 {va vs : V} {pv : List V} (w : RefT h p va vs pv sh L S X) : call tabW n (d + 1) f14 [.ptr p 0] h = .ret (ik L.length) h:=by
 obtain ⟨_,l1,_⟩:=w.ld
 have ln:=w.ln
 rw [call14]
 simp -implicitDefEqProofs only [sh14,↓l1,↓ln,↓evR]
end
end Go.Ev.WIB

/- InternLoads: the law. -/
namespace Go.Ev.WIB
open Go.Proofs
set_option maxRecDepth 100000
section
variable {h : Heap} {n d : Nat}
theorem loads_law {ras : List Ra} {v vb : V} {bs : List Nat} (hn : 2000000 ≤ n) (hl0 : ras.length ≤ 140737488351232) (w : CellA h (fun x=>x < h.nx.val) (.sl 3 (ras.map raT)) v) (hk : ∀ x ∈ ras,x.kind < 256∧raB x ≤ 1048576) (hb : Bytes bs) (wb : IsB h vb (bs.map bV)) (lb : Low vb h.nx.val) :
 ∃ h',call tabW n (d + 1 + 1 + 1 + 1 + 1 + 1 + 1 + 1 + 1 + 1 + 1) f4 [v,vb] h = .ret (.bool true) h':=by
 have l0 : ∀ q : Nat→Res,lenk v q = q ras.length:=fun q=>by rw [w.lenk,List.length_map]
 have l1 : ∀ q : Nat→Res,lenk vb q = q bs.length:=fun q=>by rw [wb.len,List.length_map]
 have k3 : Nat.beq (kno .i64) 3 = true:=rfl
 by_cases hb3 : 3000 < bs.length
 · have n1:=ilt_true hb3
   refine ⟨h,?_⟩
   rw [call4]
   simp -implicitDefEqProofs only [sh4,↓l1,↓n1,↓evR]
 · have n1:=ilt_false hb3
   by_cases hs3 : 300 < ras.length
   · have n2:=ilt_true hs3
     refine ⟨h,?_⟩
     rw [call4]
     simp -implicitDefEqProofs only [sh4,↓l0,↓l1,↓n1,↓k3,↓n2,↓evR]
   · have n2:=ilt_false hs3
     have hk' : ∀ x ∈ ras,x.kind < 256∧x.fields.length ≤ 140737488351232∧x.cases.length ≤ 140737488351232:=fun x hx=>by
      obtain ⟨a,b⟩:=hk x hx
      unfold raB at b
      exact ⟨a,by omega,by omega⟩
     obtain ⟨vb0,wb0,_,sb,_⟩:=wb.isS
     obtain ⟨h1,v1,e1,W1,U1⟩:=appendk_own (h:=h) (lo:=h.nx.val) .nils (new:=bs.map bV) (Nat.le_refl _) (by simp; omega)
     have e1' : ∀ q : V→Heap→Res,words.app 1 .nils vb h q = q v1 h1:=fun q=>by
      show srck 1 vb h (fun m new=>appendk 1 .nils m new h q) = _
      rw [sb,wb0.src]
      exact e1 q
     rw [List.nil_append] at W1
     have Up1:=U1.up
     have w1 : CellA h1 (fun x=>x < h1.nx.val) (.sl 3 (ras.map raT)) v:=w.up Up1.nx fun b hb=>Up1.get b hb
     obtain ⟨h2,Up2,res2⟩:=load12 (n:=n) (d:=d) (h:=h1) (by omega) hl0 w1 hk' hb (by omega) W1.isS W1.low
     have Up12:=Up1.trans Up2
     have w2 : CellA h2 (fun x=>x < h.nx.val) (.sl 3 (ras.map raT)) v:=w.mv (fun _ hx=>hx) fun b hb=>Up12.get b hb
     have wb2:=wb.upTo lb (Up12.to (Nat.le_refl _))
     obtain ⟨h3,Up3,res3⟩:=load13 (n:=n) (d:=d + 1 + 1 + 1 + 1) (h:=h2) (A:=fun x=>x < h.nx.val) hn (fun y hy=>Nat.lt_of_lt_of_le hy Up12.nx) w2 hk hb (by omega) wb2 (lb.mono Up12.nx)
     have s1:=W1.isS.upto W1.low (Up2.trans Up3)
     have f1 : ∀ q : V→Heap→Res,words.bytesS v1 h3 q = q (.str bs.length (packN bs)) h3:=fun q=>bytesS_law s1 hb q
     have wb3:=wb.upTo lb ((Up12.trans Up3).to (Nat.le_refl _))
     have f2 : ∀ q : V→Heap→Res,words.bytesS vb h3 q = q (.str bs.length (packN bs)) h3:=fun q=>wb3.bytesS hb q
     have ek:=fun (h : Heap)=>worksC n (d + 1 + 1 + 1 + 1 + 1 + 1 + 1 + 1 + 1) h
     have pn : ∀ q : Bool→Res,pnk .nilp q = q true:=fun q=>rfl
     have z2 : ieq (.ofNat 2) (.ofNat 0) = false:=rfl
     have z280 : ieq (.ofNat 280) (.ofNat 0) = false:=rfl
     have z0 : ieq (.ofNat 0) (.ofNat 0) = true:=rfl
     have y2 : ieq (.ofNat 2) (.ofNat 2) = true:=rfl
     have y280 : ieq (.ofNat 280) (.ofNat 280) = true:=rfl
     by_cases M : AllMay ras
     · rcases res2 with ⟨_,hno⟩ | ⟨_,r2⟩
       · exact absurd M hno
       rcases res3 with ⟨_,hno⟩ | ⟨_,r3⟩
       · exact absurd M hno
       rcases r2 with ⟨e2,hf⟩ | ⟨p,S,X,L,e2,hf,T2⟩
       · rcases r3 with ⟨e3,_⟩ | ⟨_,_,_,_,_,_,_,_,hf',_⟩
         · have ek3:=ek h3
           refine ⟨h3,?_⟩
           rw [call4]
           simp -implicitDefEqProofs only [sh4,↓l0,↓l1,↓n1,↓k3,↓n2,↓e1',↓e2,↓e3,↓y280,↓f1,↓f2,↓z280,↓pn,↓ek3,↓evR]
         · rw [hf] at hf'; cases hf'
       · rcases r3 with ⟨_,hf'⟩ | ⟨p',va,vs,pv,S',X',L',e3,hf',T3⟩
         · rw [hf] at hf'; cases hf'
         · rw [hf] at hf'
           cases hf'
           have ok : ShsOk (ras.map raS):=shsOk M.1 M.2.1 M.2.2
           obtain ⟨inv,eb⟩:=fullP_inv ok hb (by omega) hf
           have pnp : ∀ q : Bool→Res,pnk (.ptr p 0) q = q false:=fun q=>rfl
           have T2':=T2.up Up3
           have e8:=size8 (n:=n) (d:=d + 1 + 1 + 1 + 1 + 1 + 1 + 1 + 1 + 1) T2'
           have e14:=size14 (n:=n) (d:=d + 1 + 1 + 1 + 1 + 1 + 1 + 1 + 1 + 1) T3
           have hLl : L.length ≤ 3000:=by
            have h1 : L.length ≤ (L.flatMap thB).length:=by
             have : ∀ l : List Th,l.length ≤ (l.flatMap thB).length:=by
              intro l
              induction l with
              | nil=>simp
              | cons t l ih=>
                rw [List.flatMap_cons,List.length_append,List.length_cons]
                have : 0 < (thB t).length:=by
                 unfold thB
                 have : 0 < (shortB t.shape).length:=by rw [shortB]; split <;> simp
                 rw [List.length_append]; omega
                omega
             exact this L
            have h2:=congrArg List.length eb
            unfold saveB at h2
            rw [List.length_append] at h2
            omega
           have nL : ieq (.ofNat L.length) (.ofNat L.length) = true:=by rw [ieq_nat]; simp
           obtain ⟨h4,v4,e15,s4,Up4⟩:=save15 (n:=n) (d:=d + 1 + 1 + 1 + 1 + 1 + 1 + 1 + 1) T2' inv.good (by have:=ok.len; omega) (by omega) (by rw [← eb]; omega) hLl
           rw [← eb] at s4
           have f3 : ∀ q : V→Heap→Res,words.bytesS v4 h4 q = q (.str bs.length (packN bs)) h4:=fun q=>bytesS_law s4 hb q
           have wb4:=wb.upTo lb (((Up12.trans Up3).trans Up4).to (Nat.le_refl _))
           have f4 : ∀ q : V→Heap→Res,words.bytesS vb h4 q = q (.str bs.length (packN bs)) h4:=fun q=>wb4.bytesS hb q
           have ek4:=ek h4
           refine ⟨h4,?_⟩
           rw [call4]
           simp -implicitDefEqProofs only [sh4,↓l0,↓l1,↓n1,↓k3,↓n2,↓e1',↓e2,↓e3,↓z0,↓f1,↓f2,↓pnp,↓e8,↓e14,↓nL,↓e15,↓f3,↓f4,↓ek4,↓evR]
     · rcases res2 with ⟨e2,_⟩ | ⟨m,_⟩
       · rcases res3 with ⟨e3,_⟩ | ⟨m,_⟩
         · have ek3:=ek h3
           refine ⟨h3,?_⟩
           rw [call4]
           simp -implicitDefEqProofs only [sh4,↓l0,↓l1,↓n1,↓k3,↓n2,↓e1',↓e2,↓e3,↓y2,↓f1,↓f2,↓z2,↓pn,↓ek3,↓evR]
         · exact absurd m M
       · exact absurd m M
end
end Go.Ev.WIB
