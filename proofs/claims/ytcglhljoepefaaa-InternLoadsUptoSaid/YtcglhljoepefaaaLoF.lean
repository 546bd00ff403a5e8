/- LoF: texts joined. -/
import Derived.Test.YtcglhljoepefaaaLoC
/- InternLoads: the document's New. -/
namespace Go.Ev.WIB
open Go.Proofs
set_option maxRecDepth 100000
def raB (x : Ra) : Nat:=x.fields.length + x.cases.length + (x.cases.map List.length).sum
def inR (N : Nat) (zs : List Int) : Prop:=∀ z ∈ zs,0 ≤ z∧z < N
theorem MayOk.inr {x : Ra} {i N : Nat} (m : MayOk x i N) : inR N (x.fields ++ x.cases.flatten):=by
 intro z hz
 by_cases hi : i < 2
 · obtain ⟨_,h2,h3⟩:=m.1 hi
   rw [h2,h3] at hz; simp at hz
 · rcases m.2 (by omega) with ⟨_,h2,h3⟩ | ⟨_,h2,_,h3⟩
   · rw [h2] at hz
     simp at hz
     exact h3.2 z hz
   · rw [h2] at hz
     simp at hz
     obtain ⟨c,hc,hz⟩:=hz
     exact (h3.1 c hc).2 z hz
section
variable {h : Heap} {n d : Nat}
theorem all_loop {hs : Heap} {A : Nat→Prop} {x : Ra} {p0 : Bid} {v0 vf vc : V} {i N : Nat} (hA : ∀ y,A y→y < hs.nx.val) (hp0 : p0.val < hs.nx.val) (r : Row (hs.t.get p0) 3 [v0,vf,vc]) (w : CellA hs A (.sl 1 (x.cases.map fun c=>[.sl 1 (c.map zT)])) vc) (hb : raB x ≤ 1048576) :
 ∀ (j : Nat) {k q : Nat} {h : Heap} {v : V},k + j = x.cases.length→j < q→Up hs h→Own h hs.nx.val v ((x.fields ++ (x.cases.take k).flatten).map zV') →
  ∃ h' v',lpk (b59_1 words n (call tabW n d)) q [ik i,ik N,.ptr p0 0,v,ik k] h = .done .normal [ik i,ik N,.ptr p0 0,v'] h'∧Up hs h'∧Own h' hs.nx.val v' ((x.fields ++ x.cases.flatten).map zV')
 | j,k,0,_,_,_,h0,_,_=>absurd h0 (Nat.not_lt_zero _)
 | 0,k,q + 1,h,v,hk,_,U,W=>by
   have rh:=r.later hp0 U
   have c2 : ∀ q : V→Res,words.load1 h p0 2 q = q vc:=fun q=>load1k_law rh rfl q
   have ln : ∀ q : Nat→Res,lenk vc q = q x.cases.length:=fun q=>by rw [w.lenk,List.length_map]
   have n1 : ilt (.ofNat k) (.ofNat x.cases.length) = false:=ilt_false (by omega)
   rw [List.take_of_length_le (by omega)] at W
   refine ⟨h,v,?_,U,W⟩
   rw [lpk_succ]
   simp -implicitDefEqProofs only [b59_1,↓c2,↓ln,↓n1,↓evR]
 | j + 1,k,q + 1,h,v,hk,hq,U,W=>by
   have hkl : k < x.cases.length:=by omega
   have rh:=r.later hp0 U
   have c2 : ∀ q : V→Res,words.load1 h p0 2 q = q vc:=fun q=>load1k_law rh rfl q
   have ln : ∀ q : Nat→Res,lenk vc q = q x.cases.length:=fun q=>by rw [w.lenk,List.length_map]
   have n1:=ilt_true hkl
   have n2 : Nat.blt k x.cases.length = true:=blt_of hkl
   have n3:=ad_nat (a:=k) (b:=1) (by unfold raB at hb; omega)
   have wh:=w.mv (A':=A) (fun _ hx=>hx) fun b hb=>U.get b (hA _ hb)
   obtain ⟨b,o,m,l',e,rr,_,_,_,ld⟩:=wh.row (i:=k) (by simpa using hkl)
   rw [List.getElem_map] at rr
   obtain ⟨vi,rfl,ri⟩:=rr.inv1
   rw [List.length_map] at e
   have a1 : ∀ q : V→Res,words.load1 h b (Nat.add o k) q = q vi:=fun k=>by
    have:=ld 0 _ rfl k
    rw [Nat.mul_one,Nat.add_zero] at this
    exact this
   have hlen : (x.fields ++ (x.cases.take k).flatten).length + x.cases[k].length ≤ 1048576:=by
    have h1 : ((x.cases.take (k + 1)).map List.length).sum ≤ (x.cases.map List.length).sum:=by
     have h2:=congrArg (fun l=>(l.map List.length).sum) (List.take_append_drop (k + 1) x.cases)
     simp only [List.map_append,List.sum_append] at h2
     omega
    rw [List.take_succ_eq_append_getElem hkl] at h1
    simp only [List.map_append,List.sum_append,List.map_cons,List.map_nil,List.sum_cons,List.sum_nil] at h1
    rw [List.length_append,List.length_flatten]
    unfold raB at hb
    omega
   obtain ⟨h1,v1,e1,W1,U1⟩:=appendk_own W (new:=x.cases[k].map zV') U.nx (by rw [List.length_map,List.length_map]; omega)
   have e1' : ∀ q : V→Heap→Res,words.app 1 v vi h q = q v1 h1:=fun q=>by
    show srck 1 vi h (fun m new=>appendk 1 v m new h q) = _
    rw [src_ints ri]
    have:=e1 q
    rw [List.length_map] at this
    exact this
   have U1' : Up hs h1:=⟨Nat.le_trans U.nx U1.nx,fun b hb=>(U1.get b hb).trans (U.get b hb)⟩
   have W1' : Own h1 hs.nx.val v1 ((x.fields ++ (x.cases.take (k + 1)).flatten).map zV'):=by
    rw [List.take_succ_eq_append_getElem hkl,List.flatten_append,← List.append_assoc,List.map_append]
    simpa using W1
   obtain ⟨h2,v2,e2,U2,W2⟩:=all_loop (i:=i) (N:=N) hA hp0 r w hb j (k:=k + 1) (q:=q) (h:=h1) (v:=v1) (by omega) (by omega) U1' W1'
   refine ⟨h2,v2,?_,U2,W2⟩
   rw [lpk_succ]
   rw [e] at c2 ln
   simp -implicitDefEqProofs only [b59_1,↓c2,↓ln,↓n1,↓n2,↓a1,↓e1',↓n3,↓e2,↓evR]
theorem range_loop {zs : List Int} {v : V} {p0 : Bid} {i N : Nat} (w : IsS h v (zs.map zV')) (hl : zs.length ≤ 2000000) :
 ∀ (j : Nat) {k q : Nat},k + j = zs.length→j < q →
  (inR N (zs.drop k)→lpk (b59_2 words n (call tabW n d)) q [ik N,ik i,.ptr p0 0,v,ik k] h = .done .normal [ik i,.ptr p0 0,.und] h) ∧
  (¬ inR N (zs.drop k)→lpk (b59_2 words n (call tabW n d)) q [ik N,ik i,.ptr p0 0,v,ik k] h = .done .ret [ik i,.ptr p0 0,.bool false] h)
 | j,k,0,_,h0=>absurd h0 (Nat.not_lt_zero _)
 | 0,k,q + 1,hk,_=>by
   have ln : ∀ q : Nat→Res,lenk v q = q zs.length:=fun q=>by rw [w.len,List.length_map]
   have n1 : ilt (.ofNat k) (.ofNat zs.length) = false:=ilt_false (by omega)
   rw [List.drop_eq_nil_of_le (by omega)]
   refine ⟨fun _=>?_,fun H=>absurd (fun z hz=>by simp at hz) H⟩
   rw [lpk_succ]
   simp -implicitDefEqProofs only [b59_2,↓ln,↓n1,↓evR]
 | j + 1,k,q + 1,hk,hq=>by
   have hkl : k < zs.length:=by omega
   have ln : ∀ q : Nat→Res,lenk v q = q zs.length:=fun q=>by rw [w.len,List.length_map]
   have n1:=ilt_true hkl
   have n3:=ad_nat (a:=k) (b:=1) (by omega)
   obtain ⟨b,o,nn,c',s',e,hnn,ld⟩:=w.at_ (i:=k) (by simpa using hkl)
   have n2 : Nat.blt k nn = true:=blt_of hnn
   have ld' : ∀ k' : V→Res,words.load1 h b (Nat.add o k) k' = k' (.int .i64 zs[k]):=fun k'=>by
    have:=ld k'
    rw [List.getElem_map] at this
    exact this
   have ih:=range_loop (p0:=p0) (i:=i) (N:=N) w hl j (k:=k + 1) (q:=q) (by omega) (by omega)
   rw [List.drop_eq_getElem_cons hkl]
   have eqv : inR N (zs[k] :: zs.drop (k + 1)) ↔ (0 ≤ zs[k]∧zs[k] < N)∧inR N (zs.drop (k + 1)):=by
    unfold inR
    constructor
    · intro H
      exact ⟨H _ List.mem_cons_self,fun z hz=>H z (List.mem_cons_of_mem _ hz)⟩
    · rintro ⟨h1,h2⟩ z hz
      rcases List.mem_cons.1 hz with rfl | hz
      · exact h1
      · exact h2 z hz
   rw [eqv]
   have g1 : ilt zs[k] (.ofNat 0) = decide (zs[k] < 0):=ilt_eq _ _
   have g2 : ilt zs[k] (.ofNat N) = decide (zs[k] < N):=ilt_eq _ _
   by_cases c1 : zs[k] < 0
   · have d1 : decide (zs[k] < 0) = true:=by simpa using c1
     refine ⟨fun H=>by have:=H.1.1; omega,fun _=>?_⟩
     rw [lpk_succ]
     rw [e] at ln ⊢
     simp -implicitDefEqProofs only [b59_2,↓ln,↓n1,↓n2,↓ld',↓g1,↓d1,↓evR]
   · have d1 : decide (zs[k] < 0) = false:=by simpa using c1
     by_cases c2 : zs[k] < N
     · have d2 : decide (zs[k] < (N : Int)) = true:=by simpa using c2
       have step : ∀ R : Res,lpk (b59_2 words n (call tabW n d)) q [ik N,ik i,.ptr p0 0,v,ik (k + 1)] h = R→lpk (b59_2 words n (call tabW n d)) (q + 1) [ik N,ik i,.ptr p0 0,v,ik k] h = R:=fun R hR=>by
        rw [lpk_succ]
        rw [e] at ln hR ⊢
        simp -implicitDefEqProofs only [b59_2,↓ln,↓n1,↓n2,↓ld',↓g1,↓d1,↓g2,↓d2,↓n3,↓hR,↓evR]
       exact ⟨fun H=>step _ (ih.1 H.2),fun H=>step _ (ih.2 fun H2=>H ⟨⟨by omega,c2⟩,H2⟩)⟩
     · have d2 : decide (zs[k] < (N : Int)) = false:=by simpa using c2
       refine ⟨fun H=>absurd H.1.2 c2,fun _=>?_⟩
       rw [lpk_succ]
       rw [e] at ln ⊢
       simp -implicitDefEqProofs only [b59_2,↓ln,↓n1,↓n2,↓ld',↓g1,↓d1,↓g2,↓d2,↓evR]
theorem lens_loop {A : Nat→Prop} {x : Ra} {p0 : Bid} {v0 vf vc : V} (r : Row (h.t.get p0) 3 [v0,vf,vc]) (w : CellA h A (.sl 1 (x.cases.map fun c=>[.sl 1 (c.map zT)])) vc) (hb : x.cases.length ≤ 1048576) :
 ∀ (j : Nat) {k q : Nat},k + j = x.cases.length→j < q →
  lpk (b59_3 words n (call tabW n d)) q [.ptr p0 0,ik k] h = .ret (.bool ((x.cases.drop k).all fun c=>decide (c.length ≤ 12))) h
 | j,k,0,_,h0=>absurd h0 (Nat.not_lt_zero _)
 | 0,k,q + 1,hk,_=>by
   have c2 : ∀ q : V→Res,words.load1 h p0 2 q = q vc:=fun q=>load1k_law r rfl q
   have ln : ∀ q : Nat→Res,lenk vc q = q x.cases.length:=fun q=>by rw [w.lenk,List.length_map]
   have n1 : ilt (.ofNat k) (.ofNat x.cases.length) = false:=ilt_false (by omega)
   rw [lpk_succ,List.drop_eq_nil_of_le (by omega),List.all_nil]
   simp -implicitDefEqProofs only [b59_3,↓c2,↓ln,↓n1,↓evR]
 | j + 1,k,q + 1,hk,hq=>by
   have hkl : k < x.cases.length:=by omega
   have c2 : ∀ q : V→Res,words.load1 h p0 2 q = q vc:=fun q=>load1k_law r rfl q
   have ln : ∀ q : Nat→Res,lenk vc q = q x.cases.length:=fun q=>by rw [w.lenk,List.length_map]
   have n1:=ilt_true hkl
   have n2 : Nat.blt k x.cases.length = true:=blt_of hkl
   have n3:=ad_nat (a:=k) (b:=1) (by omega)
   obtain ⟨b,o,m,l',e,rr,_,_,_,ld⟩:=w.row (i:=k) (by simpa using hkl)
   rw [List.getElem_map] at rr
   obtain ⟨vi,rfl,ri⟩:=rr.inv1
   rw [List.length_map] at e
   have a1 : ∀ q : V→Res,words.load1 h b (Nat.add o k) q = q vi:=fun k=>by
    have:=ld 0 _ rfl k
    rw [Nat.mul_one,Nat.add_zero] at this
    exact this
   have li : ∀ q : Nat→Res,lenk vi q = q x.cases[k].length:=fun q=>by rw [ri.lenk,List.length_map]
   have ih:=lens_loop r w hb j (k:=k + 1) (q:=q) (by omega) (by omega)
   rw [lpk_succ,List.drop_eq_getElem_cons hkl]
   rw [e] at c2 ln
   by_cases h12 : x.cases[k].length ≤ 12
   · have n4 : ilt (.ofNat 12) (.ofNat x.cases[k].length) = false:=ilt_false (by omega)
     rw [List.all_cons,decide_eq_true h12,Bool.true_and]
     simp -implicitDefEqProofs only [b59_3,↓c2,↓ln,↓n1,↓n2,↓a1,↓li,↓n4,↓n3,↓ih,↓evR]
   · have n4 : ilt (.ofNat 12) (.ofNat x.cases[k].length) = true:=ilt_true (by omega)
     rw [List.all_cons,decide_eq_false h12,Bool.false_and]
     simp -implicitDefEqProofs only [b59_3,↓c2,↓ln,↓n1,↓n2,↓a1,↓li,↓n4,↓evR]
theorem may59 {A : Nat→Prop} {x : Ra} {l : List V} {i N : Nat} (hn : 2000000 ≤ n) (hx : x.kind < 256) (hb : raB x ≤ 1048576) (hi : i ≤ 1000) (w : RowA h A (raT x) l) (hA : ∀ y,A y→y < h.nx.val) :
 ∃ h' b,call tabW n (d + 1) f59 [.agg 3 l,ik N,ik i] h = .ret (.bool b) h'∧Up h h'∧(b = true ↔ MayOk x i N):=by
 obtain ⟨v0,vf,vc,rfl,r0,rf,rc⟩:=RowA.inv3 (show RowA h A [_,_,_] l from w)
 obtain rfl:=r0.int_inv
 obtain ⟨h0,e0,row0,U0,lt0⟩:=new_row h (g:=3) (l:=[.int .u8 (.ofNat x.kind),vf,vc]) rfl (by omega)
 have e0' : ∀ q,words.new h (.arr 3 1 (.lf [.int .u8 (.ofNat x.kind),vf,vc]) .false) q = q h.nx h0:=e0
 have stA : ∀ {h' : Heap},Up h h'→∀ {t : Tr} {v : V},CellA h A t v→CellA h' A t v:=fun U _ _ c=>c.mv (fun _ hx=>hx) fun b hb=>U.get b (hA _ hb)
 have hf:=hb
 unfold raB at hf
 have c1 : ∀ q : V→Res,words.load1 h0 h.nx 1 q = q vf:=fun q=>load1k_law row0 rfl q
 have rf0:=stA U0 rf
 obtain ⟨h1,v1,e1,W1,U1⟩:=appendk_own (h:=h0) (lo:=h0.nx.val) .nils (new:=x.fields.map zV') (Nat.le_refl _) (by simp; omega)
 have e1' : ∀ q : V→Heap→Res,words.app 1 .nils vf h0 q = q v1 h1:=fun q=>by
  show srck 1 vf h0 (fun m new=>appendk 1 .nils m new h0 q) = _
  rw [src_ints rf0]
  have:=e1 q
  rw [List.length_map] at this
  exact this
 have W1' : Own h1 h0.nx.val v1 ((x.fields ++ (x.cases.take 0).flatten).map zV'):=by simpa using W1
 obtain ⟨h2,v2,e2,U2,W2⟩:=all_loop (n:=n) (d:=d) (i:=N) (N:=i) (hs:=h0) (A:=A) (x:=x) (fun y hy=>Nat.lt_of_lt_of_le (hA y hy) U0.nx) lt0 row0 (stA U0 rc) hb x.cases.length (k:=0) (q:=n) (h:=h1) (v:=v1) (by omega) (by omega) U1.up W1'
 have lz : (x.fields ++ x.cases.flatten).length ≤ 1048576:=by rw [List.length_append,List.length_flatten]; omega
 have U02:=U0.trans U2
 have rl:=range_loop (n:=n) (d:=d) (p0:=h.nx) (i:=i) (N:=N) W2.isS (by omega) (x.fields ++ x.cases.flatten).length (k:=0) (q:=n) (by omega) (by omega)
 rw [List.drop_zero] at rl
 by_cases hr : inR N (x.fields ++ x.cases.flatten)
 · have e3:=rl.1 hr
   have row2:=row0.later lt0 U2
   have g0 : ∀ q : V→Res,words.load1 h2 h.nx 0 q = q (.int .u8 (.ofNat x.kind)):=fun q=>load1k_law row2 rfl q
   have g1 : ∀ q : V→Res,words.load1 h2 h.nx 1 q = q vf:=fun q=>load1k_law row2 rfl q
   have g2 : ∀ q : V→Res,words.load1 h2 h.nx 2 q = q vc:=fun q=>load1k_law row2 rfl q
   have g1' : ∀ q : V→Res,words.load1 h2 h.nx (Nat.add 0 1) q = q vf:=g1
   have g2' : ∀ q : V→Res,words.load1 h2 h.nx (Nat.add 0 2) q = q vc:=g2
   have lf : ∀ q : Nat→Res,lenk vf q = q x.fields.length:=fun q=>by rw [rf.lenk,List.length_map]
   have lc : ∀ q : Nat→Res,lenk vc q = q x.cases.length:=fun q=>by rw [rc.lenk,List.length_map]
   have k3 : Nat.beq (kno .i64) 3 = true:=rfl
   have f0 : x.fields.length = 0 ↔ x.fields = []:=List.length_eq_zero_iff
   have g00 : x.cases.length = 0 ↔ x.cases = []:=List.length_eq_zero_iff
   by_cases hi2 : i < 2
   · have n1:=ilt_true hi2
     have n2 : wrapv .i64 (.ofNat x.kind) = .ofNat x.kind:=wrapv_small .i64 _ (small_i64 (by omega))
     have n3:=ad_nat (a:=i) (b:=1) (by omega)
     have hM : MayOk x i N ↔ x.kind = i + 1∧x.fields.length = 0∧x.cases.length = 0:=by
      rw [f0,g00]
      exact ⟨fun m=>m.1 hi2,fun m=>⟨fun _=>m,fun h=>by omega⟩⟩
     refine ⟨h2,decide (x.kind = i + 1∧x.fields.length = 0∧x.cases.length = 0),?_,U02,by rw [hM]; simp⟩
     rw [call59]
     by_cases a1 : x.kind = i + 1
     · have b1 : ieq (.ofNat x.kind) (.ofNat (i + 1)) = true:=by rw [ieq_nat]; simpa using a1
       by_cases a2 : x.fields.length = 0
       · have b2 : ieq (.ofNat x.fields.length) (.ofNat 0) = true:=by rw [ieq_nat]; exact decide_eq_true a2
         by_cases a3 : x.cases.length = 0
         · have b3 : ieq (.ofNat x.cases.length) (.ofNat 0) = true:=by rw [ieq_nat]; exact decide_eq_true a3
           rw [decide_eq_true ⟨a1,a2,a3⟩]
           simp -implicitDefEqProofs only [sh59,↓e0',↓c1,↓e1',↓e2,↓e3,↓n1,↓g0,↓n2,↓n3,↓b1,↓g1,↓g1',↓lf,↓k3,↓b2,↓g2,↓g2',↓lc,↓b3,↓evR]
         · have b3 : ieq (.ofNat x.cases.length) (.ofNat 0) = false:=by rw [ieq_nat]; exact decide_eq_false a3
           rw [decide_eq_false fun e=>a3 e.2.2]
           simp -implicitDefEqProofs only [sh59,↓e0',↓c1,↓e1',↓e2,↓e3,↓n1,↓g0,↓n2,↓n3,↓b1,↓g1,↓g1',↓lf,↓k3,↓b2,↓g2,↓g2',↓lc,↓b3,↓evR]
       · have b2 : ieq (.ofNat x.fields.length) (.ofNat 0) = false:=by rw [ieq_nat]; exact decide_eq_false a2
         rw [decide_eq_false fun e=>a2 e.2.1]
         simp -implicitDefEqProofs only [sh59,↓e0',↓c1,↓e1',↓e2,↓e3,↓n1,↓g0,↓n2,↓n3,↓b1,↓g1,↓g1',↓lf,↓k3,↓b2,↓evR]
     · have b1 : ieq (.ofNat x.kind) (.ofNat (i + 1)) = false:=by rw [ieq_nat]; simpa using a1
       rw [decide_eq_false fun e=>a1 e.1]
       simp -implicitDefEqProofs only [sh59,↓e0',↓c1,↓e1',↓e2,↓e3,↓n1,↓g0,↓n2,↓n3,↓b1,↓evR]
   · have n1:=ilt_false hi2
     by_cases a3 : x.kind = 3
     · have b3 : ieq (.ofNat x.kind) (.ofNat 3) = true:=by rw [ieq_nat]; simpa using a3
       have hM : MayOk x i N ↔ x.cases.length = 0∧x.fields.length ≤ 12:=by
        rw [g00]
        constructor
        · intro m
          rcases m.2 (by omega) with ⟨_,h2,h3⟩ | ⟨h1,_⟩
          · exact ⟨h2,h3.1⟩
          · omega
        · rintro ⟨h1,h2⟩
          exact ⟨fun h=>by omega,fun _=>.inl ⟨a3,h1,h2,fun z hz=>hr z (by simp [hz])⟩⟩
       refine ⟨h2,decide (x.cases.length = 0∧x.fields.length ≤ 12),?_,U02,by rw [hM]; simp⟩
       rw [call59]
       by_cases a4 : x.cases.length = 0
       · have b4 : ieq (.ofNat x.cases.length) (.ofNat 0) = true:=by rw [ieq_nat]; exact decide_eq_true a4
         by_cases a5 : x.fields.length ≤ 12
         · have b5 : ilt (.ofNat 12) (.ofNat x.fields.length) = false:=ilt_false (by omega)
           rw [decide_eq_true ⟨a4,a5⟩]
           simp -implicitDefEqProofs only [sh59,↓e0',↓c1,↓e1',↓e2,↓e3,↓n1,↓g0,↓b3,↓g2,↓g2',↓lc,↓b4,↓g1,↓g1',↓lf,↓k3,↓b5,↓evR]
         · have b5 : ilt (.ofNat 12) (.ofNat x.fields.length) = true:=ilt_true (by omega)
           rw [decide_eq_false fun e=>a5 e.2]
           simp -implicitDefEqProofs only [sh59,↓e0',↓c1,↓e1',↓e2,↓e3,↓n1,↓g0,↓b3,↓g2,↓g2',↓lc,↓b4,↓g1,↓g1',↓lf,↓k3,↓b5,↓evR]
       · have b4 : ieq (.ofNat x.cases.length) (.ofNat 0) = false:=by rw [ieq_nat]; exact decide_eq_false a4
         rw [decide_eq_false fun e=>a4 e.1]
         simp -implicitDefEqProofs only [sh59,↓e0',↓c1,↓e1',↓e2,↓e3,↓n1,↓g0,↓b3,↓g2,↓g2',↓lc,↓b4,↓evR]
     · have b3 : ieq (.ofNat x.kind) (.ofNat 3) = false:=by rw [ieq_nat]; simpa using a3
       have hM : MayOk x i N ↔ x.kind = 4∧x.fields.length = 0∧x.cases.length ≠ 0∧x.cases.length ≤ 64∧(x.cases.all fun c=>decide (c.length ≤ 12)) = true:=by
        constructor
        · intro m
          rcases m.2 (by omega) with ⟨h1,_⟩ | ⟨h1,h2,h3,h4⟩
          · omega
          · exact ⟨h1,f0.2 h2,fun e=>h4.2 (g00.1 e),h3,List.all_eq_true.2 fun c hc=>decide_eq_true (h4.1 c hc).1⟩
        · rintro ⟨h1,h2,h3,h4,h5⟩
          exact ⟨fun h=>by omega,fun _=>.inr ⟨h1,f0.1 h2,h4,fun c hc=>⟨of_decide_eq_true (List.all_eq_true.1 h5 c hc),fun z hz=>hr z (by simp; exact .inr ⟨c,hc,hz⟩)⟩,fun e=>h3 (g00.2 e)⟩⟩
       refine ⟨h2,decide (x.kind = 4∧x.fields.length = 0∧x.cases.length ≠ 0∧x.cases.length ≤ 64∧(x.cases.all fun c=>decide (c.length ≤ 12)) = true),?_,U02,by rw [hM]; simp⟩
       rw [call59]
       by_cases a4 : x.kind = 4
       · have b4 : ieq (.ofNat x.kind) (.ofNat 4) = true:=by rw [ieq_nat]; simpa using a4
         by_cases a5 : x.fields.length = 0
         · have b5 : ilt (.ofNat 0) (.ofNat x.fields.length) = false:=ilt_false (by omega)
           by_cases a6 : x.cases.length = 0
           · have b6 : ieq (.ofNat x.cases.length) (.ofNat 0) = true:=by rw [ieq_nat]; exact decide_eq_true a6
             rw [decide_eq_false fun e=>e.2.2.1 a6]
             simp -implicitDefEqProofs only [sh59,↓e0',↓c1,↓e1',↓e2,↓e3,↓n1,↓g0,↓b3,↓b4,↓g1,↓g1',↓lf,↓k3,↓b5,↓g2,↓g2',↓lc,↓b6,↓evR]
           · have b6 : ieq (.ofNat x.cases.length) (.ofNat 0) = false:=by rw [ieq_nat]; exact decide_eq_false a6
             by_cases a7 : x.cases.length ≤ 64
             · have b7 : ilt (.ofNat 64) (.ofNat x.cases.length) = false:=ilt_false (by omega)
               have e4:=lens_loop (n:=n) (d:=d) row2 (stA U02 rc) (by omega) x.cases.length (k:=0) (q:=n) (by omega) (by omega)
               rw [List.drop_zero] at e4
               have e5 : decide (x.kind = 4∧x.fields.length = 0∧x.cases.length ≠ 0∧x.cases.length ≤ 64∧(x.cases.all fun c=>decide (c.length ≤ 12)) = true) = x.cases.all (fun c=>decide (c.length ≤ 12)):=by
                cases hcc : x.cases.all (fun c=>decide (c.length ≤ 12)) with
                | true=>exact decide_eq_true ⟨a4,a5,a6,a7,rfl⟩
                | false=>exact decide_eq_false fun h=>by have:=h.2.2.2.2; cases this
               rw [e5]
               simp -implicitDefEqProofs only [sh59,↓e0',↓c1,↓e1',↓e2,↓e3,↓n1,↓g0,↓b3,↓b4,↓g1,↓g1',↓lf,↓k3,↓b5,↓g2,↓g2',↓lc,↓b6,↓b7,↓e4,↓evR]
             · have b7 : ilt (.ofNat 64) (.ofNat x.cases.length) = true:=ilt_true (by omega)
               rw [decide_eq_false fun e=>a7 e.2.2.2.1]
               simp -implicitDefEqProofs only [sh59,↓e0',↓c1,↓e1',↓e2,↓e3,↓n1,↓g0,↓b3,↓b4,↓g1,↓g1',↓lf,↓k3,↓b5,↓g2,↓g2',↓lc,↓b6,↓b7,↓evR]
         · have b5 : ilt (.ofNat 0) (.ofNat x.fields.length) = true:=ilt_true (by omega)
           rw [decide_eq_false fun e=>a5 e.2.1]
           simp -implicitDefEqProofs only [sh59,↓e0',↓c1,↓e1',↓e2,↓e3,↓n1,↓g0,↓b3,↓b4,↓g1,↓g1',↓lf,↓k3,↓b5,↓evR]
       · have b4 : ieq (.ofNat x.kind) (.ofNat 4) = false:=by rw [ieq_nat]; simpa using a4
         rw [decide_eq_false fun e=>a4 e.1]
         simp -implicitDefEqProofs only [sh59,↓e0',↓c1,↓e1',↓e2,↓e3,↓n1,↓g0,↓b3,↓b4,↓evR]
 · have e3:=rl.2 hr
   refine ⟨h2,false,?_,U02,⟨fun e=>(by cases e),fun m=>absurd m.inr hr⟩⟩
   rw [call59]
   simp -implicitDefEqProofs only [sh59,↓e0',↓c1,↓e1',↓e2,↓e3,↓evR]
end
end Go.Ev.WIB

/- InternLoads: the document's New. -/
namespace Go.Ev.WIB
open Go.Proofs
set_option maxRecDepth 100000
theorem raT_S {x : Ra} {i N : Nat} (m : MayOk x i N) : raT x = shT (raS x):=by
 obtain ⟨nn1,nn2,_⟩:=m.nn
 unfold raT shT raS
 simp only
 rw [toNat_list nn1]
 congr 3
 rw [List.map_map]
 congr 1
 apply List.map_congr_left
 intro c hc
 show [Tr.sl 1 (c.map zT)] = [Tr.sl 1 ((c.map Int.toNat).map iT)]
 rw [toNat_list (nn2 c hc)]
theorem src_rows {h : Heap} {A : Nat→Prop} {g : Nat} {rows : List (List Tr)} {v : V} (hg : 0 < g) (w : CellA h A (.sl g rows) v) : ∃ cells,(∀ k : Nat→List V→Res,srck g v h k = k rows.length cells)∧cells.length = rows.length * g ∧
 (∀ r ∈ rows,r.length = g)∧∀ (i : Nat) (r : List Tr) (j : Nat) (t : Tr) (u : V),rows[i]? = some r→r[j]? = some t→cells[i * g + j]? = some u→CellA h A t u:=by
 cases w with
 | nils=>exact ⟨[],fun k=>rfl,by simp,by simp,by simp⟩
 | emp=>exact ⟨[],fun k=>rfl,by simp,by simp,by simp⟩
 | sl _ _ b o c op cs hb row fit wid hs=>
   refine ⟨(cs.drop o).take (rows.length * g),fun k=>?_,by simp; omega,wid,fun i r j t u h1 h2 h3=>?_⟩
   · show loadk h b o (rows.length * g) (fun cs=>k rows.length cs) = _
     rw [loadk_law row fit]
   · have hj:=(List.getElem?_eq_some_iff.1 h3).1
     rw [List.getElem?_take_of_lt (by simp at hj; omega),List.getElem?_drop] at h3
     exact hs i r j t u h1 h2 (by rw [← h3]; congr 1; omega)
section
variable {h : Heap} {n d : Nat}
theorem shapes_loop46 {A : Nat→Prop} {ras : List Ra} {v : V} {hs : Heap} (hn : 2000000 ≤ n) (hN : ras.length ≤ 258) (hA : ∀ y,A y→y < hs.nx.val) (w : CellA hs A (.sl 3 (ras.map raT)) v) (hk : ∀ x ∈ ras,x.kind < 256∧raB x ≤ 1048576) :
 ∀ (j : Nat) {i q : Nat} {h : Heap},i + j = ras.length→j < q→Up hs h →
  ∃ h' b,lpk (b46_1 words n (call tabW n (d + 1))) q [v,ik i] h = .ret (.bool b) h'∧Up hs h'∧(b = true ↔ ∀ (k : Nat) (x : Ra),i ≤ k→ras[k]? = some x→MayOk x k ras.length)
 | j,i,0,_,_,h0,_=>absurd h0 (Nat.not_lt_zero _)
 | 0,i,q + 1,h,hi,_,U=>by
   have ln : ∀ q : Nat→Res,lenk v q = q ras.length:=fun q=>by rw [w.lenk,List.length_map]
   have n1 : ilt (.ofNat i) (.ofNat ras.length) = false:=ilt_false (by omega)
   refine ⟨h,true,?_,U,⟨fun _ k x hk hx=>by have:=(List.getElem?_eq_some_iff.1 hx).1; omega,fun _=>rfl⟩⟩
   rw [lpk_succ]
   simp -implicitDefEqProofs only [b46_1,↓ln,↓n1,↓evR]
 | j + 1,i,q + 1,h,hi,hq,U=>by
   have hik : i < ras.length:=by omega
   have ln : ∀ q : Nat→Res,lenk v q = q ras.length:=fun q=>by rw [w.lenk,List.length_map]
   have n1:=ilt_true hik
   have n2 : Nat.blt i ras.length = true:=blt_of hik
   have n3:=ad_nat (a:=i) (b:=1) (by omega)
   have wh:=w.mv (A':=A) (fun _ hx=>hx) fun b hb=>U.get b (hA _ hb)
   obtain ⟨b,o,m,l,e,rl,hl3,_,ld,_⟩:=wh.row (i:=i) (by simpa using hik)
   rw [List.getElem_map] at rl
   rw [List.length_map] at e
   have a1 : ∀ q : List V→Res,words.load h b (Nat.add o (Nat.mul i 3)) 3 q = q l:=ld
   obtain ⟨hk1,hk2⟩:=hk _ (List.getElem_mem hik)
   obtain ⟨h1,bb,e1,U1,hbb⟩:=may59 (n:=n) (d:=d) (N:=ras.length) (i:=i) hn hk1 hk2 (by omega) rl (fun y hy=>Nat.lt_of_lt_of_le (hA y hy) U.nx)
   have eqv : (∀ (k : Nat) (x : Ra),i ≤ k→ras[k]? = some x→MayOk x k ras.length) ↔ MayOk ras[i] i ras.length∧∀ (k : Nat) (x : Ra),i + 1 ≤ k→ras[k]? = some x→MayOk x k ras.length:=
    ⟨fun H=>⟨H i _ (Nat.le_refl _) (List.getElem?_eq_getElem hik),fun k x hk=>H k x (by omega)⟩,fun ⟨H1,H2⟩ k x hk hx=>by
      by_cases hki : k = i
      · subst hki
        rw [List.getElem?_eq_getElem hik] at hx
        cases hx
        exact H1
      · exact H2 k x (by omega) hx⟩
   rw [eqv]
   rw [e] at ln
   cases bb with
   | false=>
     refine ⟨h1,false,?_,U.trans U1,⟨fun e=>(by cases e),fun H=>by have:=hbb.2 H.1; cases this⟩⟩
     rw [lpk_succ,e]
     simp -implicitDefEqProofs only [b46_1,↓ln,↓n1,↓n2,↓a1,↓e1,↓evR]
   | true=>
     obtain ⟨h2,b2,e2,U2,hb2⟩:=shapes_loop46 hn hN hA w hk j (i:=i + 1) (q:=q) (h:=h1) (by omega) (by omega) (U.trans U1)
     refine ⟨h2,b2,?_,U2,⟨fun e=>⟨hbb.1 rfl,hb2.1 e⟩,fun H=>hb2.2 H.2⟩⟩
     rw [e] at e2
     rw [lpk_succ,e]
     simp -implicitDefEqProofs only [b46_1,↓ln,↓n1,↓n2,↓a1,↓e1,↓n3,↓e2,↓evR]
theorem shapes46 {A : Nat→Prop} {ras : List Ra} {v : V} (hn : 2000000 ≤ n) (hA : ∀ y,A y→y < h.nx.val) (w : CellA h A (.sl 3 (ras.map raT)) v) (hk : ∀ x ∈ ras,x.kind < 256∧raB x ≤ 1048576) :
 ∃ h' b,call tabW n (d + 1 + 1) f46 [v] h = .ret (.bool b) h'∧Up h h'∧(b = true ↔ AllMay ras):=by
 have ln : ∀ q : Nat→Res,lenk v q = q ras.length:=fun q=>by rw [w.lenk,List.length_map]
 have k3 : Nat.beq (kno .i64) 3 = true:=rfl
 by_cases h2 : ras.length < 2
 · have n1:=ilt_true h2
   refine ⟨h,false,?_,.refl _,⟨fun e=>(by cases e),fun m=>absurd m.1 (by omega)⟩⟩
   rw [call46]
   simp -implicitDefEqProofs only [sh46,↓ln,↓n1,↓evR]
 · have n1:=ilt_false h2
   by_cases h3 : 258 < ras.length
   · have n2:=ilt_true h3
     refine ⟨h,false,?_,.refl _,⟨fun e=>(by cases e),fun m=>absurd m.2.1 (by omega)⟩⟩
     rw [call46]
     simp -implicitDefEqProofs only [sh46,↓ln,↓n1,↓k3,↓n2,↓evR]
   · have n2:=ilt_false h3
     obtain ⟨h1,b,e1,U1,hb⟩:=shapes_loop46 (n:=n) (d:=d) hn (by omega) hA w hk ras.length (i:=0) (q:=n) (h:=h) (by omega) (by omega) (.refl _)
     refine ⟨h1,b,?_,U1,hb.trans ⟨fun H=>⟨by omega,by omega,fun k x=>H k x (Nat.zero_le _)⟩,fun m k x _=>m.2.2 k x⟩⟩
     rw [call46]
     simp -implicitDefEqProofs only [sh46,↓ln,↓n1,↓k3,↓n2,↓e1,↓evR]
theorem new31 {ras : List Ra} {v : V} {A : Nat→Prop} (hn : 2000000 ≤ n) (hA : ∀ y,A y→y < h.nx.val) (w : CellA h A (.sl 3 (ras.map raT)) v) (hk : ∀ x ∈ ras,x.kind < 256∧raB x ≤ 1048576) :
 ∃ h',Up h h'∧((call tabW n (d + 1 + 1 + 1) f31 [v] h = .ret .nilp h'∧¬ AllMay ras) ∨
  ∃ p vs S,call tabW n (d + 1 + 1 + 1) f31 [v] h = .ret (.ptr p 0) h'∧RefT h' p .nils vs [] (ras.map raS) [] S (fun _=>False)∧AllMay ras∧∀ x,S x→h.nx.val ≤ x):=by
 obtain ⟨h1,b,e1,U1,hb⟩:=shapes46 (n:=n) (d:=d) hn hA w hk
 cases b with
 | false=>
   refine ⟨h1,U1,.inl ⟨?_,fun m=>by have:=hb.2 m; cases this⟩⟩
   rw [call31]
   simp -implicitDefEqProofs only [sh31,↓e1,↓evR]
 | true=>
   have M:=hb.1 rfl
   obtain ⟨h2,e2,r2,U2,lt2⟩:=new_row h1 (g:=2) (l:=[.nils,.nils]) rfl (by omega)
   have e2' : ∀ q,words.new h1 (.arr 2 1 (.lf [.nils,.nils]) .false) q = q h1.nx h2:=e2
   have c0 : ∀ q : V→Res,words.load1 h2 h1.nx 0 q = q .nils:=fun q=>load1k_law r2 rfl q
   have U12:=U1.trans U2
   have w2:=w.mv (A':=A) (fun _ hx=>hx) fun b hb=>U12.get b (hA _ hb)
   obtain ⟨cells,s1,s2,s3,s4⟩:=src_rows (by omega) w2
   rw [List.length_map] at s1 s2
   have hne : ras.length ≠ 0:=by have:=M.1; omega
   obtain ⟨h3,e3,r3,u3⟩:=fresh_rows (g:=3) (n:=ras.length) (by omega) (l:=cells) s2 h2
   have U3:=u3.up
   have e3' : ∀ q : V→Heap→Res,words.app 3 .nils v h2 q = q (.slice h2.nx 0 ras.length none 3) h3:=fun q=>by
    have e : sApp 3 .nils v h2 q = srck 3 v h2 fun m new=>appendk 3 .nils m new h2 q:=by
     show ifk (Nat.blt 1 3) _ _ = _
     rw [ifk_eq]
     split <;> rfl
    show sApp 3 .nils v h2 q = _
    rw [e,s1]
    show zk ras.length (q .nils h2) (ifk (Nat.ble ras.length 16777216) (freshk 3 ras.length cells h2 q) .fail) = _
    rw [ble_of (by have:=M.2.1; omega),ifk_true]
    obtain ⟨m,hm⟩ : ∃ m,ras.length = m + 1:=⟨ras.length - 1,by omega⟩
    rw [← e3 q,hm]
    rfl
   have o3 : ∀ r : Res,onek (.slice h2.nx 0 ras.length none 3) r = r:=fun r=>rfl
   have r23:=r2.later lt2 U3
   obtain ⟨h4,e4,r4,B4⟩:=storek_law (o:=0) (n:=1) (vs:=[.slice h2.nx 0 ras.length none 3]) r23 rfl (by simp)
   have e4' : ∀ q,words.store h3 h1.nx 0 1 [.slice h2.nx 0 ras.length none 3] q = q h4:=e4
   have lt3 : h2.nx.val < h3.nx.val:=u3.lt
   have U4 : Up h h4:=⟨by rw [B4.nx]; exact Nat.le_trans U12.nx U3.nx,fun b hb=>by rw [B4.get b (by rintro rfl; have:=U1.nx; omega),U3.get b (by have:=U12.nx; omega)]; exact U12.get b hb⟩
   have gA : ∀ b : Bid,A b.val→h4.t.get b = h2.t.get b:=fun b hb=>by
    have:=hA _ hb
    rw [B4.get b (by rintro rfl; have:=U1.nx; omega),U3.get b (by have:=U12.nx; omega)]
   have lt1 : h1.nx.val < h2.nx.val:=lt2
   refine ⟨h4,U4,.inr ⟨h1.nx,.slice h2.nx 0 ras.length none 3,fun x=>x = h1.nx.val ∨ ¬ Off .nils x,?_,⟨r4,.nils,rfl,fun i t v hi=>by simp at hi,?_,fun x hx=>hx.elim,by rw [B4.nx]; omega,off_nils _,fun x=>Iff.rfl⟩,M,fun x hx=>?_⟩⟩
   · rw [call31]
     simp -implicitDefEqProofs only [sh31,↓e1,↓e2',↓c0,↓e3',↓o3,↓e4',↓evR]
   · have er : (ras.map raS).map shT = ras.map raT:=by
      rw [List.map_map]
      apply List.map_congr_left
      intro x hx
      obtain ⟨i,hi,rfl⟩:=List.getElem_of_mem hx
      exact (raT_S (M.2.2 i _ (List.getElem?_eq_getElem hi))).symm
     rw [er]
     have hl : ras.length = (ras.map raT).length:=by rw [List.length_map]
     rw [hl]
     have r34 : Row (h4.t.get h2.nx) 3 cells:=by rw [B4.get _ (bid_ne (by omega))]; exact r3
     have hlow : ∀ x,A x→Still h4 (SX (fun x=>x = h1.nx.val ∨ ¬ Off .nils x) fun _=>False) x:=fun x hx=>by
      have h1':=hA x hx
      refine ⟨by have:=U4.nx; omega,fun e=>e.elim (fun e=>e.elim (fun e=>?_) fun e=>e (off_nils _)) id⟩
      have:=U1.nx
      omega
     refine .sl 3 _ h2.nx 0 none false cells ⟨by rw [B4.nx]; omega,fun e=>e.elim (fun e=>e.elim (fun e=>by omega) fun e=>e (off_nils _)) id⟩ r34 (by rw [← hl]; omega) s3 fun i r j t u h1 h2 h3=>?_
     rw [Nat.zero_add] at h3
     exact (s4 i r j t u h1 h2 h3).mv hlow gA
   · rcases hx with e | e
     · have:=U1.nx; omega
     · exact absurd (off_nils _) e
end
end Go.Ev.WIB

/- InternLoads: what loading comes to, with no program in sight. -/
namespace Go.Ev.WIB
open Go.Proofs
variable {sh : List Sh} {L : List Th}
theorem putP_new {t : Th} (hf : ∀ u ∈ L,Form sh u) (ht : Form sh t) (hn : ∀ u ∈ L,¬ Alike u t) : putP sh L t = (cnt L t.shape + fst0 sh t.shape,L ++ [t]):=by
 unfold putP
 cases hfi : (mapL sh L).find? (fun x=>x.1 = keyB t) with
 | some x=>
   have h1:=List.mem_of_find?_eq_some hfi
   have h2 : x.1 = keyB t:=by have:=List.find?_some hfi; simpa using this
   obtain ⟨j,v,h3,rfl⟩:=(mapL_mem x).1 h1
   have hm:=List.mem_of_getElem? h3
   exact absurd (key_inj (hf v hm) ht h2) (hn v hm)
 | none=>rfl
theorem putP_old {t : Th} (ho : ∃ u ∈ L,Alike u t) : (putP sh L t).2 = L:=by
 obtain ⟨u,hu,al⟩:=ho
 unfold putP
 cases hfi : (mapL sh L).find? (fun x=>x.1 = keyB t) with
 | some x=>rfl
 | none=>
   obtain ⟨i,hi,e⟩:=List.getElem_of_mem hu
   have:=List.find?_eq_none.1 hfi _ ((mapL_mem (sh:=sh) (L:=L) _).2 ⟨i,u,by rw [List.getElem?_eq_getElem hi,e],rfl⟩)
   simp [alike_key al] at this
structure LInv (sh : List Sh) (L : List Th) : Prop where
 good : Good sh L
 k1 : ∀ u ∈ L,kindOf sh u.shape ≠ 1
 p12 : ∀ u ∈ L,u.parts.length ≤ 12
theorem LInv.nil : LInv sh []:=⟨⟨by simp,by simp,by simp [Apt,mapL,mapF],by simp,by simp⟩,by simp,by simp⟩
theorem LInv.ths (w : LInv sh L) : ThsOk L:=fun t ht=>⟨(w.good.ok t ht).1.text,w.p12 t ht⟩
theorem LInv.put {t : Th} (w : LInv sh L) (ht : Form sh t) (hd : t.deep ≤ 100) (hk : ThOk t) (hp2 : t.parts.length ≤ 12) (hs : t.shape < sh.length) (hk1 : kindOf sh t.shape ≠ 1) (hn : ∀ u ∈ L,¬ Alike u t)
 (hp : kindOf sh t.shape ≠ 2→∀ want,wantOf sh t.shape (.ofNat t.branch) = some want→Valid sh L want t.parts∧deepF sh L 1 want t.parts ≤ 100) : LInv sh (L ++ [t]):=by
 have g:=good_put w.good ht hd ⟨hk,by omega,hs⟩ hp
 rw [putP_new w.good.form ht hn] at g
 refine ⟨g,fun u hu=>?_,fun u hu=>?_⟩
 · rcases List.mem_append.1 hu with hu | hu
   · exact w.k1 u hu
   · simp at hu; subst hu; exact hk1
 · rcases List.mem_append.1 hu with hu | hu
   · exact w.p12 u hu
   · simp at hu; subst hu; exact hp2
def nums : Nat→List Nat→Option (List Nat × List Nat)
 | 0,b=>some ([],b)
 | k + 1,b=>match num b with
   | none=>none
   | some (n,r)=>match nums k r with
     | none=>none
     | some (l,r')=>some (n :: l,r')
theorem nums_inv : ∀ {k : Nat} {b l r : List Nat},Bytes b→nums k b = some (l,r)→l.length = k∧(∀ x ∈ l,x < 18446744073709551616)∧b = l.flatMap shortB ++ r∧Bytes r∧r.length ≤ b.length
 | 0,b,l,r,hb,h=>by
   simp only [nums,Option.some.injEq,Prod.mk.injEq] at h
   obtain ⟨rfl,rfl⟩:=h
   exact ⟨rfl,by simp,rfl,hb,Nat.le_refl _⟩
 | k + 1,b,l,r,hb,h=>by
   rw [nums] at h
   cases h1 : num b with
   | none=>simp [h1] at h
   | some x=>
     obtain ⟨n,r1⟩:=x
     obtain ⟨i1,i2⟩:=num_inv hb h1
     obtain ⟨t1,t2⟩:=num_tail hb h1
     cases h2 : nums k r1 with
     | none=>simp [h1,h2] at h
     | some y=>
       obtain ⟨l',r'⟩:=y
       simp only [h1,h2,Option.some.injEq,Prod.mk.injEq] at h
       obtain ⟨rfl,rfl⟩:=h
       obtain ⟨j1,j2,j3,j4,j5⟩:=nums_inv t1 h2
       refine ⟨by simp [j1],?_,?_,j4,by omega⟩
       · intro x hx
         rcases List.mem_cons.1 hx with rfl | hx
         · exact i1
         · exact j2 x hx
       · rw [i2,List.flatMap_cons,List.append_assoc,← j3]
open Classical in
noncomputable def stepS (L : List Th) (r : List Nat) : Option (List Th × List Nat):=
 match num r with
 | none=>none
 | some (k,r2)=>if k ≤ r2.length∧∀ u ∈ L,¬ Alike u (symT (r2.take k)) then some (L ++ [symT (r2.take k)],r2.drop k) else none
open Classical in
noncomputable def stepN (sh : List Sh) (L : List Th) (s : Nat) (r : List Nat) : Option (List Th × List Nat):=
 match num r with
 | none=>none
 | some (br,r2)=>match wantOf sh s (.ofNat br) with
   | none=>none
   | some want=>match nums want.length r2 with
     | none=>none
     | some (ws,r3)=>if OkM sh L s br want ws then some (L ++ [⟨s,br,[],ws,deepF sh L 1 want ws⟩],r3) else none
noncomputable def stepP (sh : List Sh) (L : List Th) (b : List Nat) : Option (List Th × List Nat):=
 match num b with
 | none=>none
 | some (s,r)=>if s = 1 then stepS L r else stepN sh L s r
noncomputable def loadP (sh : List Sh) : Nat→List Th→List Nat→Option (List Th × List Nat)
 | 0,L,b=>some (L,b)
 | n + 1,L,b=>match stepP sh L b with
   | none=>none
   | some (L',b')=>loadP sh n L' b'
def thB (t : Th) : List Nat:=shortB t.shape ++ if t.shape = 1 then shortB t.text.length ++ t.text else shortB t.branch ++ t.parts.flatMap shortB
def saveB (L : List Th) : List Nat:=shortB L.length ++ L.flatMap thB
structure Step (sh : List Sh) (L : List Th) (b : List Nat) (L' : List Th) (b' : List Nat) : Prop where
 inv : LInv sh L'
 ap : ∃ t,L' = L ++ [t]∧b = thB t ++ b'
 bytes : Bytes b'
 lt : b'.length < b.length
theorem shape_lt {s : Nat} {z : Int} {l : List Nat} (h : wantOf sh s z = some l) : s < sh.length:=by
 by_cases hs : s < sh.length
 · exact hs
 · simp [wantOf,List.getElem?_eq_none (Nat.not_lt.1 hs)] at h
theorem stepP_inv (ok : ShsOk sh) (w : LInv sh L) {b : List Nat} {L' : List Th} {b' : List Nat} (hb : Bytes b) (hl : b.length ≤ 3000) (h : stepP sh L b = some (L',b')) : Step sh L b L' b':=by
 unfold stepP at h
 cases h1 : num b with
 | none=>simp [h1] at h
 | some x=>
   obtain ⟨s,r⟩:=x
   obtain ⟨i1,i2⟩:=num_inv hb h1
   obtain ⟨t1,t2⟩:=num_tail hb h1
   simp only [h1] at h
   split at h
   · rename_i hs
     subst hs
     unfold stepS at h
     cases h2 : num r with
     | none=>simp [h2] at h
     | some y=>
       obtain ⟨k,r2⟩:=y
       obtain ⟨j1,j2⟩:=num_inv t1 h2
       obtain ⟨u1,u2⟩:=num_tail t1 h2
       simp only [h2] at h
       split at h
       · rename_i hc
         obtain ⟨hk,hn⟩:=hc
         simp only [Option.some.injEq,Prod.mk.injEq] at h
         obtain ⟨rfl,rfl⟩:=h
         have hlen : (r2.take k).length = k:=by rw [List.length_take]; omega
         have hbt : Bytes (r2.take k):=fun x hx=>u1 x (List.mem_of_mem_take hx)
         refine ⟨w.put (symT_form ok _) (by simp [symT]) (symT_ok hbt (by omega)) (by simp [symT]) (show 1 < sh.length by have:=ok.len; omega) (by show kindOf sh 1 ≠ 1; rw [ok.k1]; omega) hn (fun hk2=>absurd ok.k1 hk2),⟨_,rfl,?_⟩,fun x hx=>u1 x (List.mem_of_mem_drop hx),by rw [List.length_drop]; omega⟩
         have e1 : thB (symT (r2.take k)) = shortB 1 ++ (shortB k ++ r2.take k):=by
          unfold thB symT
          simp only
          rw [if_pos trivial,hlen]
         rw [e1,i2,j2,List.append_assoc,List.append_assoc,List.take_append_drop]
       · cases h
   · rename_i hs
     unfold stepN at h
     cases h2 : num r with
     | none=>simp [h2] at h
     | some y=>
       obtain ⟨br,r2⟩:=y
       obtain ⟨j1,j2⟩:=num_inv t1 h2
       obtain ⟨u1,u2⟩:=num_tail t1 h2
       simp only [h2] at h
       cases h3 : wantOf sh s (.ofNat br) with
       | none=>
         have h3' : wantOf sh s (br : Int) = none:=h3
         simp [h3'] at h
       | some want=>
         simp only [h3] at h
         cases h4 : nums want.length r2 with
         | none=>simp [h4] at h
         | some z=>
           obtain ⟨ws,r3⟩:=z
           simp only [h4] at h
           obtain ⟨k1,k2,k3,k4,k5⟩:=nums_inv u1 h4
           obtain ⟨w1,w2,w3⟩:=ok.want _ _ _ h3
           have w3' : (br : Int) ≤ 64:=w3
           split at h
           · rename_i hc
             simp only [Option.some.injEq,Prod.mk.injEq] at h
             obtain ⟨rfl,rfl⟩:=h
             have hk34:=want_kind h3
             have hsl:=shape_lt h3
             have:=ok.len
             refine ⟨w.put (t:=⟨s,br,[],ws,deepF sh L 1 want ws⟩) ⟨fun e=>?_,fun _=>⟨rfl,want,h3,k1⟩⟩ hc.2.1 ⟨by show s < _; omega,by show br < _; omega,k2,.nil,by show 0 + ws.length * 10 ≤ _; omega⟩ (by show ws.length ≤ 12; omega) hsl (fun e=>?_) hc.2.2 (fun _ want' hw=>?_),⟨_,rfl,?_⟩,k4,by omega⟩
             · have e' : kindOf sh s = 2:=e
               omega
             · have e' : kindOf sh s = 1:=e
               omega
             · have hw' : wantOf sh s (.ofNat br) = some want':=hw
               rw [h3] at hw'
               cases hw'
               exact ⟨hc.1,hc.2.1⟩
             · have e1 : thB ⟨s,br,[],ws,deepF sh L 1 want ws⟩ = shortB s ++ (shortB br ++ ws.flatMap shortB):=by
                unfold thB
                simp only
                rw [if_neg hs]
               rw [e1,i2,j2,k3,List.append_assoc,List.append_assoc]
           · cases h
theorem loadP_inv (ok : ShsOk sh) : ∀ {n : Nat} {L : List Th} {b : List Nat} {L' : List Th} {b' : List Nat},LInv sh L→Bytes b→b.length ≤ 3000→loadP sh n L b = some (L',b') →
 LInv sh L'∧L'.length = L.length + n∧∃ R,L' = L ++ R∧b = R.flatMap thB ++ b'
 | 0,L,b,L',b',w,_,_,h=>by
   simp only [loadP,Option.some.injEq,Prod.mk.injEq] at h
   obtain ⟨rfl,rfl⟩:=h
   exact ⟨w,rfl,[],by simp,rfl⟩
 | n + 1,L,b,L',b',w,hb,hl,h=>by
   rw [loadP] at h
   cases h1 : stepP sh L b with
   | none=>simp [h1] at h
   | some x=>
     obtain ⟨L1,b1⟩:=x
     simp only [h1] at h
     obtain ⟨s1,⟨t,rfl,e2⟩,s3,s4⟩:=stepP_inv ok w hb hl h1
     obtain ⟨i1,i2,R,e3,e4⟩:=loadP_inv ok s1 s3 (by omega) h
     refine ⟨i1,by rw [i2,List.length_append,List.length_singleton]; omega,t :: R,by rw [e3]; simp,by rw [e2,e4,List.flatMap_cons,List.append_assoc]⟩
noncomputable def fullP (sh : List Sh) (b : List Nat) : Option (List Th):=
 match num b with
 | none=>none
 | some (n,r)=>match loadP sh n [] r with
   | some (L,[])=>some L
   | _=>none
theorem fullP_inv (ok : ShsOk sh) {b : List Nat} (hb : Bytes b) (hl : b.length ≤ 3000) (h : fullP sh b = some L) : LInv sh L∧b = saveB L:=by
 unfold fullP at h
 cases h1 : num b with
 | none=>simp [h1] at h
 | some x=>
   obtain ⟨n,r⟩:=x
   obtain ⟨i1,i2⟩:=num_inv hb h1
   obtain ⟨t1,t2⟩:=num_tail hb h1
   simp only [h1] at h
   split at h
   · rename_i L1 hL1
     cases h
     obtain ⟨j1,j2,R,j3,j4⟩:=loadP_inv ok .nil t1 (by omega) hL1
     refine ⟨j1,?_⟩
     simp only [List.nil_append,List.length_nil,Nat.zero_add] at j2 j3
     subst j3
     rw [i2,j4,List.append_nil,saveB,j2]
   · cases h
end Go.Ev.WIB
