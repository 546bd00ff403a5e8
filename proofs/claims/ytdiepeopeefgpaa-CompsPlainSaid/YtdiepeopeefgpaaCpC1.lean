/- CpC1: texts joined. -/
import Derived.Test.YtdiepeopeefgpaaEvRules
import Derived.Test.YtdiepeopeefgpaaCpS2
/- CompsPlain: how big fields are. -/
namespace Go.Ev.WCP
open Go.Proofs
set_option maxRecDepth 100000
theorem fieldAt {h : Heap} {N : Nat} {rows : List (List Tr)} {v : V} (w : CellR h N (.sl 2 rows) v) {i : Nat} (hi : i < rows.length) (hr : IsF rows[i]) : ∃ b o c a a' e e',v = .slice b o rows.length c 2∧wtRow rows[i] = a + e∧rows[i] = [.s a a',.s e e'] ∧
 (∀ k,load1k h b (o + i * 2) k = k (.str a a'))∧(∀ k,load1k h b (o + i * 2 + 1) k = k (.str e e'))∧∀ k,loadk h b (o + i * 2) 2 k = k [.str a a',.str e e']:=by
 obtain ⟨b,o,c,l',rfl,hw,hl',_,ld,ld1⟩:=w.row hi
 generalize rows[i] = r at hr hw
 cases hr with
 | mk a a' e e'=>
   cases hw with | cons w0 hw=>
   cases hw with | cons w1 hw=>
   cases hw
   cases w0; cases w1
   exact ⟨b,o,c,a,a',e,e',rfl,by simp [wtRow,Tr.wt],rfl,fun k=>ld1 0 _ rfl k,fun k=>ld1 1 _ rfl k,ld⟩
section
variable {n d m : Nat} {v : V} {N : Nat}
theorem b17_end {cf : CF} {again : List V→Heap→Res} {h : Heap} {cur i L : Nat} (hl : ∀ k : Nat→Res,lenk v k = k L) (hx : ¬ i < L ∨ m < cur) :
 b17_1 words n cf again [v,I (.ofNat m),I (.ofNat cur),I (.ofNat i)] h = .ret (I (.ofNat cur)) h:=by
 by_cases hi' : i < L
 · have hc : m < cur:=hx.resolve_left (fun h=>h hi')
   have n1:=ilt_true hi'
   have n2 : ilt (.ofNat m) (.ofNat cur) = true:=ilt_true hc
   simp -implicitDefEqProofs only [b17_1,↓uF,↓u2,↓zF,↓I,↓unc_cons,↓castF_int,↓nilk'_nil,↓hl,↓lb_eq,↓n1,↓gd_true,↓intk_int,↓kno_refl,↓ak_true,↓n2,↓Bool.not_true,↓an_true,↓ifk_false]
 · have n1:=ilt_false hi'
   simp -implicitDefEqProofs only [b17_1,↓uF,↓u2,↓zF,↓I,↓unc_cons,↓castF_int,↓nilk'_nil,↓hl,↓lb_eq,↓n1,↓gd_false,↓an_false,↓ifk_false]
theorem b17_go {cf : CF} {again : List V→Heap→Res} {h : Heap} {b : Bid} {o L : Nat} {cc : Option Nat} {cur i a a' e e' : Nat} (hi : i < L) (hc : cur ≤ m) (hm : m ≤ 1000000) (hii : i ≤ 1000000)
 (l1 : ∀ k,load1k h b (o + i * 2) k = k (.str a a')) (l2 : ∀ k,load1k h b (o + i * 2 + 1) k = k (.str e e')) :
 b17_1 words n cf again [.slice b o L cc 2,I (.ofNat m),I (.ofNat cur),I (.ofNat i)] h = again [.slice b o L cc 2,I (.ofNat m),I (.ofNat (cur + 1 + min a m + min e m)),I (.ofNat (i + 1))] h:=by
 have a1 : ∀ q : V→Res,words.load1 h b (Nat.add o (Nat.mul i 2)) q = q (.str a a'):=l1
 have a2 : ∀ q : V→Res,words.load1 h b (Nat.add (Nat.add o (Nat.mul i 2)) 1) q = q (.str e e'):=l2
 have n0 : Nat.blt i L = true:=blt_of hi
 have n1:=ilt_true hi
 have n2 : ilt (.ofNat m) (.ofNat cur) = false:=ilt_false (by omega)
 have m1 : min a m ≤ m:=Nat.min_le_right _ _
 have m2 : min e m ≤ m:=Nat.min_le_right _ _
 have n4:=ad_nat (a:=cur) (b:=1) (by omega)
 have n5:=ai_nat (a:=cur + 1) (b:=min a m) (by omega)
 have n6:=ai_nat (a:=cur + 1 + min a m) (b:=min e m) (by omega)
 have n7:=ad_nat (a:=i) (b:=1) (by omega)
 simp -implicitDefEqProofs only [b17_1,↓n1,↓n2,↓n0,↓a1,↓a2,↓n4,↓n5,↓n6,↓n7,↓evR]
theorem loop17 {cf : CF} {h : Heap} (hm : m ≤ 1000000) {rows : List (List Tr)} (hr : ∀ r ∈ rows,IsF r) (w : CellR h N (.sl 2 rows) v) :
 ∀ (j : Nat) {i cur q : Nat},i + j = rows.length→i ≤ cur→cur ≤ 3 * m + 1→m + 1 - cur < q →
  ∃ k,lpk (b17_1 words n cf) q [v,I (.ofNat m),I (.ofNat cur),I (.ofNat i)] h = .ret (I (.ofNat k)) h∧cur ≤ k∧k ≤ 3 * m + 1∧(k ≤ m→cur + wtRows (rows.drop i) ≤ k):=by
 intro j
 induction j with
 | zero=>
   intro i cur q hij hic hcm hq
   obtain ⟨q,rfl⟩ : ∃ q',q = q' + 1:=⟨q - 1,by omega⟩
   refine ⟨cur,?_,Nat.le_refl _,hcm,fun _=>?_⟩
   · rw [lpk_succ]; exact b17_end w.lenk (.inl (by omega))
   · rw [List.drop_eq_nil_of_le (by omega)]; simp [wtRows]
 | succ j ih=>
   intro i cur q hij hic hcm hq
   obtain ⟨q,rfl⟩ : ∃ q',q = q' + 1:=⟨q - 1,by omega⟩
   have hi : i < rows.length:=by omega
   by_cases hc : cur ≤ m
   · obtain ⟨b,o,c,a,a',e,e',rfl,hw,_,l1,l2,_⟩:=fieldAt w hi (hr _ (List.getElem_mem hi))
     have m1 : min a m ≤ m:=Nat.min_le_right _ _
     have m2 : min e m ≤ m:=Nat.min_le_right _ _
     obtain ⟨k,e1,k1,k2,k3⟩:=ih (i:=i + 1) (cur:=cur + 1 + min a m + min e m) (q:=q) (by omega) (by omega) (by omega) (by omega)
     refine ⟨k,?_,by omega,k2,fun hk=>?_⟩
     · rw [lpk_succ,b17_go hi hc hm (by omega) l1 l2]; exact e1
     · have q1:=k3 hk
       rw [List.drop_eq_getElem_cons hi,wtRows,hw]; omega
   · refine ⟨cur,?_,Nat.le_refl _,hcm,fun hk=>absurd hk hc⟩
     rw [lpk_succ]; exact b17_end w.lenk (.inr (by omega))
end
theorem size_fields {m n d : Nat} (hm : m ≤ 1000000) (hn : m + 2 < n) (hd : 0 < d) {h : Heap} {N : Nat} {rows : List (List Tr)} {v : V} (hr : ∀ r ∈ rows,IsF r) (w : CellR h N (.sl 2 rows) v) :
 ∃ k,call tabW n d f17 [v,I (.ofNat m)] h = .ret (I (.ofNat k)) h∧k ≤ 3 * m + 1∧(k ≤ m→wtRows rows ≤ k):=by
 obtain ⟨d,rfl⟩ : ∃ d',d = d' + 1:=⟨d - 1,by omega⟩
 obtain ⟨k,e1,_,k2,k3⟩:=loop17 (n:=n) (cf:=call tabW n d) (m:=m) (v:=v) (N:=N) (h:=h) hm hr w rows.length (i:=0) (cur:=0) (q:=n) (by omega) (by omega) (by omega) (by omega)
 refine ⟨k,?_,k2,fun hk=>?_⟩
 · rw [call17,sh17]
   simp -implicitDefEqProofs only [↓u2,↓unc_cons,↓I,↓ik,↓castI_int,↓nilk'_nil]
   exact e1
 · have:=k3 hk
   rw [List.drop_zero] at this; omega
end Go.Ev.WCP

/- CompsPlain: how big a program is. -/
namespace Go.Ev.WCP
open Go.Proofs
set_option maxRecDepth 100000
theorem caseAt {h : Heap} {N : Nat} {rows : List (List Tr)} {v : V} (w : CellR h N (.sl 2 rows) v) {i : Nat} (hi : i < rows.length) (hr : IsC rows[i]) : ∃ b o c a a' fs vf,v = .slice b o rows.length c 2∧(∀ f ∈ fs,IsF f)∧CellR h N (.sl 2 fs) vf ∧
 wtRow rows[i] = a + wtRows fs∧(∀ k,load1k h b (o + i * 2) k = k (.str a a'))∧∀ k,load1k h b (o + i * 2 + 1) k = k vf:=by
 obtain ⟨b,o,c,l',rfl,hw,hl',_,ld,ld1⟩:=w.row hi
 generalize rows[i] = r at hr hw
 cases hr with
 | mk a a' fs hf=>
   cases hw with | cons w0 hw=>
   cases hw with | cons w1 hw=>
   cases hw
   cases w0
   exact ⟨b,o,c,a,a',fs,_,rfl,hf,w1,by simp [wtRow,Tr.wt],fun k=>ld1 0 _ rfl k,fun k=>ld1 1 _ rfl k⟩
section
variable {n d m : Nat} {v : V} {N : Nat}
theorem b10_1_go {again : List V→Heap→Res} {h : Heap} {x : V} {y : Int} {b p : Bid} {o L : Nat} {c : Option Nat} {l : List V} {i cur a a' s : Nat} {vf : V} (row : Row (h.t.get p) 6 l) (hv : l[4]? = some (.slice b o L c 2)) (hi : i < L) (hc : cur ≤ m) (hm : m ≤ 1000000) (hii : i ≤ 1000000) (hs : s ≤ 10000000)
 (l1 : ∀ k,load1k h b (o + i * 2) k = k (.str a a')) (l2 : ∀ k,load1k h b (o + i * 2 + 1) k = k vf) (e : call tabW n d f17 [vf,I (.ofNat m)] h = .ret (I (.ofNat s)) h) :
 b10_1 words n (call tabW n d) again [I (.ofNat m),x,I (.ofNat cur),I y,.ptr p 0,I (.ofNat i)] h = again [I (.ofNat m),x,I (.ofNat (cur + 1 + min a m + s)),I y,.ptr p 0,I (.ofNat (i + 1))] h:=by
 have a4 : ∀ q : V→Res,words.load1 h p (Nat.add 0 4) q = q (.slice b o L c 2):=fun q=>load1k_law row hv q
 have a1 : ∀ q : V→Res,words.load1 h b (Nat.add o (Nat.mul i 2)) q = q (.str a a'):=l1
 have a2 : ∀ q : V→Res,words.load1 h b (Nat.add (Nat.add o (Nat.mul i 2)) 1) q = q vf:=l2
 have n1:=ilt_true hi
 have n2 : ilt (.ofNat m) (.ofNat cur) = false:=ilt_false (by omega)
 have n3 : Nat.blt i L = true:=blt_of hi
 have hmin : min a m ≤ m:=Nat.min_le_right _ _
 have n4:=ad_nat (a:=cur) (b:=1) (by omega)
 have n5:=ai_nat (a:=cur + 1) (b:=min a m) (by omega)
 have n6:=ai_nat (a:=cur + 1 + min a m) (b:=s) (by omega)
 have n7:=ad_nat (a:=i) (b:=1) (by omega)
 simp -implicitDefEqProofs only [b10_1,↓a4,↓n1,↓n2,↓n3,↓a1,↓a2,↓e,↓n4,↓n5,↓n6,↓n7,↓evR]
theorem b10_1_end {cf : CF} {again : List V→Heap→Res} {h : Heap} {x : V} {y : Int} {p : Bid} {L : Nat} {l : List V} {i cur : Nat} (row : Row (h.t.get p) 6 l) (hv : l[4]? = some v) (hl : ∀ k : Nat→Res,lenk v k = k L) (hx : ¬ i < L ∨ m < cur) :
 b10_1 words n cf again [I (.ofNat m),x,I (.ofNat cur),I y,.ptr p 0,I (.ofNat i)] h = .done .normal [I (.ofNat m),x,I (.ofNat cur),I y] h:=by
 have a4 : ∀ q : V→Res,words.load1 h p (Nat.add 0 4) q = q v:=fun q=>load1k_law row hv q
 by_cases hi' : i < L
 · have n1:=ilt_true hi'
   have n2 : ilt (.ofNat m) (.ofNat cur) = true:=ilt_true (hx.resolve_left (fun h=>h hi'))
   simp -implicitDefEqProofs only [b10_1,↓a4,↓hl,↓n1,↓n2,↓evR]
 · have n1:=ilt_false hi'
   simp -implicitDefEqProofs only [b10_1,↓a4,↓hl,↓n1,↓evR]
theorem loop10_1 (hm : m ≤ 1000000) (hn : m + 2 < n) (hd : 0 < d) {rows : List (List Tr)} (hr : ∀ r ∈ rows,IsC r) {h : Heap} {x : V} {y : Int} {p : Bid} {l : List V} (row : Row (h.t.get p) 6 l) (hv : l[4]? = some v) (w : CellR h N (.sl 2 rows) v) :
 ∀ (j : Nat) {i cur q : Nat},i + j = rows.length→i ≤ cur→m + 1 - cur < q →
  ∃ k,lpk (b10_1 words n (call tabW n d)) q [I (.ofNat m),x,I (.ofNat cur),I y,.ptr p 0,I (.ofNat i)] h = .done .normal [I (.ofNat m),x,I (.ofNat k),I y] h∧cur ≤ k∧k ≤ max cur (5 * m + 2)∧(k ≤ m→cur + wtRows (rows.drop i) ≤ k):=by
 intro j
 induction j with
 | zero=>
   intro i cur q hij hic hq
   obtain ⟨q,rfl⟩ : ∃ q',q = q' + 1:=⟨q - 1,by omega⟩
   refine ⟨cur,?_,Nat.le_refl _,by omega,fun _=>?_⟩
   · rw [lpk_succ]; exact b10_1_end row hv w.lenk (.inl (by omega))
   · rw [List.drop_eq_nil_of_le (by omega)]; simp [wtRows]
 | succ j ih=>
   intro i cur q hij hic hq
   obtain ⟨q,rfl⟩ : ∃ q',q = q' + 1:=⟨q - 1,by omega⟩
   have hi : i < rows.length:=by omega
   by_cases hc : cur ≤ m
   · obtain ⟨b,o,c,a,a',fs,vf,rfl,hf,wf,hw,l1,l2⟩:=caseAt w hi (hr _ (List.getElem_mem hi))
     obtain ⟨s,e,s1,s2⟩:=size_fields (n:=n) (d:=d) hm hn hd hf wf
     have m1 : min a m ≤ m:=Nat.min_le_right _ _
     obtain ⟨k,e1,k1,k2,k3⟩:=ih (i:=i + 1) (cur:=cur + 1 + min a m + s) (q:=q) (by omega) (by omega) (by omega)
     refine ⟨k,?_,by omega,by omega,fun hk=>?_⟩
     · rw [lpk_succ,b10_1_go row hv hi hc hm (by omega) (by omega) l1 l2 e]; exact e1
     · have q1:=k3 hk
       have q2:=s2 (by omega)
       rw [List.drop_eq_getElem_cons hi,wtRows,hw]; omega
   · refine ⟨cur,?_,Nat.le_refl _,by omega,fun hk=>absurd hk hc⟩
     rw [lpk_succ]; exact b10_1_end row hv w.lenk (.inr (by omega))
theorem typeAt {h : Heap} {N : Nat} {rows : List (List Tr)} {v : V} (w : CellR h N (.sl 6 rows) v) {i : Nat} (hi : i < rows.length) (hr : IsT rows[i]) : ∃ b o c kd a a' e e' fs cs vf vc ps,v = .slice b o rows.length c 6∧(∀ f ∈ fs,IsF f)∧(∀ f ∈ cs,IsC f) ∧
 CellR h N (.sl 2 fs) vf∧CellR h N (.sl 2 cs) vc∧wtRow rows[i] = a + e + wtRows fs + wtRows cs∧∀ k,loadk h b (o + i * 6) 6 k = k [.int .u8 kd,.str a a',.str e e',vf,vc,.int .i64 ps]:=by
 obtain ⟨b,o,c,l',rfl,hw,hl',_,ld,ld1⟩:=w.row hi
 generalize rows[i] = r at hr hw
 cases hr with
 | mk kd a a' e e' fs cs ps hf hc=>
   cases hw with | cons w0 hw=>
   cases hw with | cons w1 hw=>
   cases hw with | cons w2 hw=>
   cases hw with | cons w3 hw=>
   cases hw with | cons w4 hw=>
   cases hw with | cons w5 hw=>
   cases hw
   cases w0; cases w1; cases w2; cases w5
   exact ⟨b,o,c,kd,a,a',e,e',fs,cs,_,_,ps,rfl,hf,hc,w3,w4,by simp [wtRow,Tr.wt]; omega,ld⟩
theorem b10_2_go (hm : m ≤ 1000000) (hn : m + 2 < n) (hd : 0 < d) {again : List V→Heap→Res} {h : Heap} {p1 b : Bid} {o L : Nat} {c : Option Nat} {l6 : List V} {i cur a a' e e' : Nat} {kd ps : Int} {fs cs : List (List Tr)} {vf vc : V}
 (l0 : ∀ k,load1k h p1 0 k = k (.slice b o L c 6)) (hi : i < L) (hc : cur ≤ m) (hii : i ≤ 1000000) (hN : N ≤ h.nx.val) (hl : l6 = [.int .u8 kd,.str a a',.str e e',vf,vc,.int .i64 ps])
 (ld : ∀ k,loadk h b (o + i * 6) 6 k = k l6) (hf : ∀ f ∈ fs,IsF f) (hcs : ∀ f ∈ cs,IsC f) (wf : CellR h N (.sl 2 fs) vf) (wc : CellR h N (.sl 2 cs) vc) :
 ∃ s h',b10_2 words n (call tabW n d) again [I (.ofNat m),.ptr p1 0,I (.ofNat cur),I (.ofNat i)] h = again [I (.ofNat m),.ptr p1 0,I (.ofNat s),I (.ofNat (i + 1))] h'∧Up h h'∧cur + 1 ≤ s∧s ≤ 6 * m + 3∧(s ≤ m→cur + 1 + a + e + wtRows fs + wtRows cs ≤ s):=by
 obtain ⟨h5,h6,e5,e6,row,u,lt⟩:=new_store h (g:=6) (z:=[uk 0,.str 0 0,.str 0 0,.nils,.nils,ik 0]) (l:=l6) rfl (by rw [hl]; rfl) (by omega)
 have hnew : ∀ q,words.new h (.arr 6 1 (repT [uk 0,.str 0 0,.str 0 0,.nils,.nils,ik 0] 1 1) .false) q = q h.nx h5:=e5
 have hsto : ∀ q : Heap→Res,words.store h5 h.nx 0 6 l6 q = q h6:=e6
 subst hl
 have a0 : ∀ q : V→Res,words.load1 h p1 0 q = q (.slice b o L c 6):=l0
 have a1 : ∀ q : List V→Res,words.load h b (Nat.add o (Nat.mul i 6)) 6 q = q [.int .u8 kd,.str a a',.str e e',vf,vc,.int .i64 ps]:=ld
 have c1 : ∀ q : V→Res,words.load1 h6 h.nx 1 q = q (.str a a'):=fun q=>load1k_law row rfl q
 have c2 : ∀ q : V→Res,words.load1 h6 h.nx 2 q = q (.str e e'):=fun q=>load1k_law row rfl q
 have c3 : ∀ q : V→Res,words.load1 h6 h.nx 3 q = q vf:=fun q=>load1k_law row rfl q
 have n1:=ilt_true hi
 have n2 : ilt (.ofNat m) (.ofNat cur) = false:=ilt_false (by omega)
 have n3 : Nat.blt i L = true:=blt_of hi
 have m1 : min a m ≤ m:=Nat.min_le_right _ _
 have m2 : min e m ≤ m:=Nat.min_le_right _ _
 have n4:=ad_nat (a:=cur) (b:=1) (by omega)
 have n5:=ai_nat (a:=cur + 1) (b:=min a m) (by omega)
 have n6:=ai_nat (a:=cur + 1 + min a m) (b:=min e m) (by omega)
 have n7:=ad_nat (a:=i) (b:=1) (by omega)
 by_cases hx : cur + 1 + min a m + min e m ≤ m
 · obtain ⟨s,es,s1,s2⟩:=size_fields (m:=m - (cur + 1 + min a m + min e m)) (n:=n) (d:=d) (by omega) (by omega) hd hf (wf.to hN u)
   have n8 : ilt (.ofNat m) (.ofNat (cur + 1 + min a m + min e m)) = false:=ilt_false (by omega)
   have n9:=si_nat (a:=m) (b:=cur + 1 + min a m + min e m) hx (by omega)
   have n10:=ai_nat (a:=cur + 1 + min a m + min e m) (b:=s) (by omega)
   obtain ⟨k,ek,k1,k2,k3⟩:=loop10_1 (n:=n) (d:=d) (x:=.ptr p1 0) (y:=.ofNat i) hm hn hd hcs row rfl (wc.to hN u) cs.length (i:=0) (cur:=cur + 1 + min a m + min e m + s) (q:=n) (by omega) (by omega) (by omega)
   refine ⟨k,h6,?_,u,by omega,by omega,fun hk=>?_⟩
   · simp -implicitDefEqProofs only [b10_2,↓a0,↓n1,↓n2,↓n3,↓a1,↓hnew,↓hsto,↓c1,↓c2,↓c3,↓n4,↓n5,↓n6,↓n8,↓n9,↓es,↓n10,↓ek,↓n7,↓evR]
   · have q1:=k3 hk
     have q2:=s2 (by omega)
     rw [List.drop_zero] at q1
     omega
 · have n8 : ilt (.ofNat m) (.ofNat (cur + 1 + min a m + min e m)) = true:=ilt_true (by omega)
   obtain ⟨k,ek,k1,k2,k3⟩:=loop10_1 (n:=n) (d:=d) (x:=.ptr p1 0) (y:=.ofNat i) hm hn hd hcs row rfl (wc.to hN u) cs.length (i:=0) (cur:=cur + 1 + min a m + min e m) (q:=n) (by omega) (by omega) (by omega)
   refine ⟨k,h6,?_,u,by omega,by omega,fun hk=>absurd hk (by omega)⟩
   simp -implicitDefEqProofs only [b10_2,↓a0,↓n1,↓n2,↓n3,↓a1,↓hnew,↓hsto,↓c1,↓c2,↓c3,↓n4,↓n5,↓n6,↓n8,↓ek,↓n7,↓evR]
end
end Go.Ev.WCP

/- CompsPlain: how big a program is: relations, all. -/
namespace Go.Ev.WCP
open Go.Proofs
set_option maxRecDepth 100000
section
variable {n d m : Nat} {v : V} {N : Nat}
theorem b10_2_end {cf : CF} {again : List V→Heap→Res} {h : Heap} {p : Bid} {L : Nat} {i cur : Nat} (l0 : ∀ k,load1k h p 0 k = k v) (hl : ∀ k : Nat→Res,lenk v k = k L) (hx : ¬ i < L ∨ m < cur) :
 b10_2 words n cf again [I (.ofNat m),.ptr p 0,I (.ofNat cur),I (.ofNat i)] h = .done .normal [I (.ofNat m),.ptr p 0,I (.ofNat cur)] h:=by
 have a0 : ∀ q : V→Res,words.load1 h p 0 q = q v:=l0
 by_cases hi' : i < L
 · have n1:=ilt_true hi'
   have n2 : ilt (.ofNat m) (.ofNat cur) = true:=ilt_true (hx.resolve_left (fun h=>h hi'))
   simp -implicitDefEqProofs only [b10_2,↓a0,↓hl,↓n1,↓n2,↓evR]
 · have n1:=ilt_false hi'
   simp -implicitDefEqProofs only [b10_2,↓a0,↓hl,↓n1,↓evR]
theorem loop10_2 (hm : m ≤ 1000000) (hn : m + 2 < n) (hd : 0 < d) {rows : List (List Tr)} (hr : ∀ r ∈ rows,IsT r) {p : Bid} {l : List V} (hv : l[0]? = some v) :
 ∀ (j : Nat) {i cur q : Nat} {h : Heap},i + j = rows.length→i ≤ cur→m + 1 - cur < q→N ≤ h.nx.val→Row (h.t.get p) 3 l→p.val < h.nx.val→CellR h N (.sl 6 rows) v →
  ∃ k h',lpk (b10_2 words n (call tabW n d)) q [I (.ofNat m),.ptr p 0,I (.ofNat cur),I (.ofNat i)] h = .done .normal [I (.ofNat m),.ptr p 0,I (.ofNat k)] h'∧Up h h'∧cur ≤ k∧k ≤ max cur (6 * m + 3)∧(k ≤ m→cur + wtRows (rows.drop i) ≤ k):=by
 intro j
 induction j with
 | zero=>
   intro i cur q h hij hic hq hN row hp w
   obtain ⟨q,rfl⟩ : ∃ q',q = q' + 1:=⟨q - 1,by omega⟩
   refine ⟨cur,h,?_,.refl _,Nat.le_refl _,by omega,fun _=>?_⟩
   · rw [lpk_succ]; exact b10_2_end (fun k=>load1k_law row hv k) w.lenk (.inl (by omega))
   · rw [List.drop_eq_nil_of_le (by omega)]; simp [wtRows]
 | succ j ih=>
   intro i cur q h hij hic hq hN row hp w
   obtain ⟨q,rfl⟩ : ∃ q',q = q' + 1:=⟨q - 1,by omega⟩
   have hi : i < rows.length:=by omega
   by_cases hc : cur ≤ m
   · obtain ⟨b,o,c,kd,a,a',e,e',fs,cs,vf,vc,ps,rfl,hf,hcs,wf,wc,hw,ld⟩:=typeAt w hi (hr _ (List.getElem_mem hi))
     obtain ⟨s,h1,e1,u1,s1,s2,s3⟩:=b10_2_go (again:=lpk (b10_2 words n (call tabW n d)) q) (n:=n) (d:=d) hm hn hd (fun k=>load1k_law row hv k) hi hc (by omega) hN rfl ld hf hcs wf wc
     obtain ⟨k,h2,e2,u2,k1,k2,k3⟩:=ih (i:=i + 1) (cur:=s) (q:=q) (h:=h1) (by omega) (by omega) (by omega) (Nat.le_trans hN u1.nx) (row.later hp u1) (Nat.lt_of_lt_of_le hp u1.nx) (w.to hN u1)
     refine ⟨k,h2,?_,u1.trans u2,by omega,by omega,fun hk=>?_⟩
     · rw [lpk_succ,e1]; exact e2
     · have q1:=k3 hk
       have q2:=s3 (by omega)
       rw [List.drop_eq_getElem_cons hi,wtRows,hw]; omega
   · refine ⟨cur,h,?_,.refl _,Nat.le_refl _,by omega,fun hk=>absurd hk hc⟩
     rw [lpk_succ]; exact b10_2_end (fun k=>load1k_law row hv k) w.lenk (.inr (by omega))
theorem relAt {h : Heap} {A : Nat→Prop} {rows : List (List Tr)} {v : V} (w : CellA h A (.sl 6 rows) v) {i : Nat} (hi : i < rows.length) (hr : IsR rows[i]) : ∃ b o c a a' fs vf x y z ps,v = .slice b o rows.length c 6∧(∀ f ∈ fs,IsF f) ∧
 CellA h A (.sl 2 fs) vf∧wtRow rows[i] = a + wtRows fs∧rows[i] = [.s a a',.sl 2 fs,.b x,.b y,.b z,.i .i64 ps]∧(∀ k,load1k h b (o + i * 6) k = k (.str a a'))∧(∀ k,load1k h b (o + i * 6 + 1) k = k vf) ∧
 ∀ k,loadk h b (o + i * 6) 6 k = k [.str a a',vf,.bool x,.bool y,.bool z,.int .i64 ps]:=by
 obtain ⟨b,o,c,l',rfl,hw,hl',_,ld,ld1⟩:=w.row hi
 generalize rows[i] = r at hr hw
 cases hr with
 | mk a a' fs x y z ps hf=>
   cases hw with | cons w0 hw=>
   cases hw with | cons w1 hw=>
   cases hw with | cons w2 hw=>
   cases hw with | cons w3 hw=>
   cases hw with | cons w4 hw=>
   cases hw with | cons w5 hw=>
   cases hw
   cases w0; cases w2; cases w3; cases w4; cases w5
   exact ⟨b,o,c,a,a',fs,_,x,y,z,ps,rfl,hf,w1,by simp [wtRow,Tr.wt],rfl,fun k=>ld1 0 _ rfl k,fun k=>ld1 1 _ rfl k,ld⟩
theorem b10_3_go {again : List V→Heap→Res} {h : Heap} {b p : Bid} {o L : Nat} {c : Option Nat} {i cur a a' s : Nat} {vf : V} (l0 : ∀ k,load1k h p 1 k = k (.slice b o L c 6)) (hi : i < L) (hc : cur ≤ m) (hm : m ≤ 1000000) (hii : i ≤ 1000000) (hs : s ≤ 10000000)
 (l1 : ∀ k,load1k h b (o + i * 6) k = k (.str a a')) (l2 : ∀ k,load1k h b (o + i * 6 + 1) k = k vf) (e : call tabW n d f17 [vf,I (.ofNat m)] h = .ret (I (.ofNat s)) h) :
 b10_3 words n (call tabW n d) again [I (.ofNat m),.ptr p 0,I (.ofNat cur),I (.ofNat i)] h = again [I (.ofNat m),.ptr p 0,I (.ofNat (cur + 1 + min a m + s)),I (.ofNat (i + 1))] h:=by
 have a4 : ∀ q : V→Res,words.load1 h p (Nat.add 0 1) q = q (.slice b o L c 6):=l0
 have a1 : ∀ q : V→Res,words.load1 h b (Nat.add o (Nat.mul i 6)) q = q (.str a a'):=l1
 have a2 : ∀ q : V→Res,words.load1 h b (Nat.add (Nat.add o (Nat.mul i 6)) 1) q = q vf:=l2
 have n1:=ilt_true hi
 have n2 : ilt (.ofNat m) (.ofNat cur) = false:=ilt_false (by omega)
 have n3 : Nat.blt i L = true:=blt_of hi
 have hmin : min a m ≤ m:=Nat.min_le_right _ _
 have n4:=ad_nat (a:=cur) (b:=1) (by omega)
 have n5:=ai_nat (a:=cur + 1) (b:=min a m) (by omega)
 have n6:=ai_nat (a:=cur + 1 + min a m) (b:=s) (by omega)
 have n7:=ad_nat (a:=i) (b:=1) (by omega)
 simp -implicitDefEqProofs only [b10_3,↓a4,↓n1,↓n2,↓n3,↓a1,↓a2,↓e,↓n4,↓n5,↓n6,↓n7,↓evR]
theorem b10_3_end {cf : CF} {again : List V→Heap→Res} {h : Heap} {p : Bid} {L : Nat} {i cur : Nat} (l0 : ∀ k,load1k h p 1 k = k v) (hl : ∀ k : Nat→Res,lenk v k = k L) (hx : ¬ i < L ∨ m < cur) :
 b10_3 words n cf again [I (.ofNat m),.ptr p 0,I (.ofNat cur),I (.ofNat i)] h = .done .normal [I (.ofNat m),.ptr p 0,I (.ofNat cur)] h:=by
 have a0 : ∀ q : V→Res,words.load1 h p (Nat.add 0 1) q = q v:=l0
 by_cases hi' : i < L
 · have n1:=ilt_true hi'
   have n2 : ilt (.ofNat m) (.ofNat cur) = true:=ilt_true (hx.resolve_left (fun h=>h hi'))
   simp -implicitDefEqProofs only [b10_3,↓a0,↓hl,↓n1,↓n2,↓evR]
 · have n1:=ilt_false hi'
   simp -implicitDefEqProofs only [b10_3,↓a0,↓hl,↓n1,↓evR]
theorem loop10_3 (hm : m ≤ 1000000) (hn : m + 2 < n) (hd : 0 < d) {rows : List (List Tr)} (hr : ∀ r ∈ rows,IsR r) {p : Bid} {h : Heap} (l0 : ∀ k,load1k h p 1 k = k v) (w : CellR h N (.sl 6 rows) v) :
 ∀ (j : Nat) {i cur q : Nat},i + j = rows.length→i ≤ cur→m + 1 - cur < q →
  ∃ k,lpk (b10_3 words n (call tabW n d)) q [I (.ofNat m),.ptr p 0,I (.ofNat cur),I (.ofNat i)] h = .done .normal [I (.ofNat m),.ptr p 0,I (.ofNat k)] h∧cur ≤ k∧k ≤ max cur (5 * m + 2)∧(k ≤ m→cur + wtRows (rows.drop i) ≤ k):=by
 intro j
 induction j with
 | zero=>
   intro i cur q hij hic hq
   obtain ⟨q,rfl⟩ : ∃ q',q = q' + 1:=⟨q - 1,by omega⟩
   refine ⟨cur,?_,Nat.le_refl _,by omega,fun _=>?_⟩
   · rw [lpk_succ]; exact b10_3_end l0 w.lenk (.inl (by omega))
   · rw [List.drop_eq_nil_of_le (by omega)]; simp [wtRows]
 | succ j ih=>
   intro i cur q hij hic hq
   obtain ⟨q,rfl⟩ : ∃ q',q = q' + 1:=⟨q - 1,by omega⟩
   have hi : i < rows.length:=by omega
   by_cases hc : cur ≤ m
   · obtain ⟨b,o,c,a,a',fs,vf,x,y,z,ps,rfl,hf,wf,hw,_,l1,l2,_⟩:=relAt w hi (hr _ (List.getElem_mem hi))
     obtain ⟨s,e,s1,s2⟩:=size_fields (n:=n) (d:=d) hm hn hd hf wf
     have m1 : min a m ≤ m:=Nat.min_le_right _ _
     obtain ⟨k,e1,k1,k2,k3⟩:=ih (i:=i + 1) (cur:=cur + 1 + min a m + s) (q:=q) (by omega) (by omega) (by omega)
     refine ⟨k,?_,by omega,by omega,fun hk=>?_⟩
     · rw [lpk_succ,b10_3_go l0 hi hc hm (by omega) (by omega) l1 l2 e]; exact e1
     · have q1:=k3 hk
       have q2:=s2 (by omega)
       rw [List.drop_eq_getElem_cons hi,wtRows,hw]; omega
   · refine ⟨cur,?_,Nat.le_refl _,by omega,fun hk=>absurd hk hc⟩
     rw [lpk_succ]; exact b10_3_end l0 w.lenk (.inr (by omega))
end
end Go.Ev.WCP

/- CompsPlain: how big a program is, a unit is. -/
namespace Go.Ev.WCP
open Go.Proofs
set_option maxRecDepth 100000
theorem size_prog {m n d : Nat} (hm : m ≤ 1000000) (hn : m + 2 < n) (hd : m + 3 < d) {h : Heap} {N : Nat} {ts rs us : List (List Tr)} {v0 v1 v2 : V} (hN : N ≤ h.nx.val) (ht : ∀ r ∈ ts,IsT r) (hr : ∀ r ∈ rs,IsR r) (hu : ∀ r ∈ us,IsRu r)
 (w0 : CellR h N (.sl 6 ts) v0) (w1 : CellR h N (.sl 6 rs) v1) (w2 : CellR h N (.sl 4 us) v2) :
 ∃ k h',call tabW n d f10 [.agg 3 [v0,v1,v2],I (.ofNat m)] h = .ret (I (.ofNat k)) h'∧Up h h'∧k ≤ 8 * m + 4∧(k ≤ m→wtRows ts + wtRows rs + wtRows us ≤ k):=by
 obtain ⟨d,rfl⟩ : ∃ d',d = d' + 1:=⟨d - 1,by omega⟩
 obtain ⟨h0,e0,row,u0,lt0⟩:=new_row h (g:=3) (l:=[v0,v1,v2]) rfl (by omega)
 have hnew : ∀ q,words.new h (.arr 3 1 (.lf [v0,v1,v2]) .false) q = q h.nx h0:=e0
 obtain ⟨k1,h1,e1,u1,a1,a2,a3⟩:=loop10_2 (n:=n) (d:=d) (m:=m) (N:=N) hm hn (by omega) ht (p:=h.nx) (l:=[v0,v1,v2]) rfl ts.length (i:=0) (cur:=0) (q:=n) (h:=h0) (by omega) (by omega) (by omega) (Nat.le_trans hN u0.nx) row lt0 (w0.to hN u0)
 have u01:=u0.trans u1
 have row1:=row.later lt0 u1
 obtain ⟨k2,e2,b1,b2,b3⟩:=loop10_3 (n:=n) (d:=d) (m:=m) (N:=N) hm hn (by omega) hr (p:=h.nx) (h:=h1) (fun k=>load1k_law row1 rfl k) (w1.to hN u01) rs.length (i:=0) (cur:=k1) (q:=n) (by omega) (by omega) (by omega)
 have c2 : ∀ q : V→Res,words.load1 h1 h.nx (Nat.add 0 2) q = q v2:=fun q=>load1k_law row1 rfl q
 rw [List.drop_zero] at a3 b3
 by_cases hk : k2 ≤ m
 · obtain ⟨k3,h3,e3,u3,c1,c3⟩:=size_rules (m:=m - k2) (n:=n) (d:=d) (by omega) (by omega) (by omega) (Nat.le_trans hN u01.nx) hu (w2.to hN u01)
   have n1 : ilt (.ofNat m) (.ofNat k2) = false:=ilt_false (by omega)
   have n2:=si_nat (a:=m) (b:=k2) hk (by omega)
   have n3:=ai_nat (a:=k2) (b:=k3) (by omega)
   refine ⟨k2 + k3,h3,?_,u01.trans u3,by omega,fun hx=>?_⟩
   · rw [call10,sh10]
     simp -implicitDefEqProofs only [↓hnew,↓e1,↓e2,↓n1,↓c2,↓n2,↓e3,↓n3,↓evR]
   · have:=a3 (by omega); have:=b3 (by omega); have:=c3 (by omega); omega
 · have n1 : ilt (.ofNat m) (.ofNat k2) = true:=ilt_true (by omega)
   refine ⟨k2,h1,?_,u01,by omega,fun hx=>absurd hx hk⟩
   rw [call10,sh10]
   simp -implicitDefEqProofs only [↓hnew,↓e1,↓e2,↓n1,↓evR]
theorem textAt {h : Heap} {A : Nat→Prop} {rows : List (List Tr)} {v : V} (w : CellA h A (.sl 1 rows) v) {i : Nat} (hi : i < rows.length) (hr : IsX rows[i]) : ∃ b o c a a',v = .slice b o rows.length c 1∧rows[i] = [.s a a']∧a' < 256 ^ a∧∀ k,load1k h b (o + i) k = k (.str a a'):=by
 obtain ⟨b,o,c,l',rfl,hw,hl',_,ld,ld1⟩:=w.row hi
 generalize rows[i] = r at hr hw
 cases hr with
 | mk a a'=>
   cases hw with | cons w0 hw=>
   cases hw
   cases w0 with
   | s _ _ hn=>exact ⟨b,o,c,a,a',rfl,rfl,hn,fun k=>by have:=ld1 0 _ rfl k; rwa [Nat.mul_one] at this⟩
theorem initAt {h : Heap} {N : Nat} {rows : List (List Tr)} {v : V} (w : CellR h N (.sl 4 rows) v) {i : Nat} (hi : i < rows.length) (hr : IsI rows[i]) : ∃ b o c a a' ts vt,v = .slice b o rows.length c 4∧(∀ t ∈ ts,IsX t)∧ts.length ≤ 1152921504606846976∧CellR h N (.sl 1 ts) vt ∧
 (∀ k,load1k h b (o + i * 4) k = k (.str a a'))∧∀ k,load1k h b (o + i * 4 + 2) k = k vt:=by
 obtain ⟨b,o,c,l',rfl,hw,hl',_,ld,ld1⟩:=w.row hi
 generalize rows[i] = r at hr hw
 cases hr with
 | mk a a' e e' ts p ht lt=>
   cases hw with | cons w0 hw=>
   cases hw with | cons w1 hw=>
   cases hw with | cons w2 hw=>
   cases hw with | cons w3 hw=>
   cases hw
   cases w0
   exact ⟨b,o,c,a,a',ts,_,rfl,ht,lt,w2,fun k=>ld1 0 _ rfl k,fun k=>ld1 2 _ rfl k⟩
section
variable {n d m : Nat} {v : V} {N : Nat}
theorem b4_1_go {cf : CF} {again : List V→Heap→Res} {h : Heap} {b p b2 : Bid} {o L o2 L2 : Nat} {c c2 : Option Nat} {i k cur a a' : Nat} (l0 : ∀ k,load1k h p 4 k = k (.slice b o L c 4)) (l2 : ∀ k,load1k h b (o + i * 4 + 2) k = k (.slice b2 o2 L2 c2 1))
 (l3 : ∀ q,load1k h b2 (o2 + k) q = q (.str a a')) (hi : i < L) (hk : k < L2) (hc : cur ≤ m) (hm : m ≤ 1000000) (hkk : k ≤ 2305843009213693952) :
 b4_1 words n cf again [I (.ofNat m),.ptr p 0,I (.ofNat cur),I (.ofNat i),I (.ofNat k)] h = again [I (.ofNat m),.ptr p 0,I (.ofNat (cur + min a m)),I (.ofNat i),I (.ofNat (k + 1))] h:=by
 have a0 : ∀ q : V→Res,words.load1 h p (Nat.add 0 4) q = q (.slice b o L c 4):=l0
 have a1 : ∀ q : V→Res,words.load1 h b (Nat.add (Nat.add o (Nat.mul i 4)) 2) q = q (.slice b2 o2 L2 c2 1):=l2
 have a2 : ∀ q : V→Res,words.load1 h b2 (Nat.add o2 k) q = q (.str a a'):=l3
 have n1:=ilt_true hk
 have n2 : ilt (.ofNat m) (.ofNat cur) = false:=ilt_false (by omega)
 have n3 : Nat.blt i L = true:=blt_of hi
 have n4 : Nat.blt k L2 = true:=blt_of hk
 have hmin : min a m ≤ m:=Nat.min_le_right _ _
 have n5:=ai_nat (a:=cur) (b:=min a m) (by omega)
 have n7:=ad_nat (a:=k) (b:=1) (by omega)
 simp -implicitDefEqProofs only [b4_1,↓a0,↓n3,↓a1,↓n1,↓n2,↓n4,↓a2,↓n5,↓n7,↓evR]
theorem b4_1_end {cf : CF} {again : List V→Heap→Res} {h : Heap} {b p : Bid} {o L L2 : Nat} {c : Option Nat} {i k cur : Nat} (l0 : ∀ k,load1k h p 4 k = k (.slice b o L c 4)) (l2 : ∀ k,load1k h b (o + i * 4 + 2) k = k v) (hl : ∀ k : Nat→Res,lenk v k = k L2) (hi : i < L) (hx : ¬ k < L2 ∨ m < cur) :
 b4_1 words n cf again [I (.ofNat m),.ptr p 0,I (.ofNat cur),I (.ofNat i),I (.ofNat k)] h = .done .normal [I (.ofNat m),.ptr p 0,I (.ofNat cur),I (.ofNat i)] h:=by
 have a0 : ∀ q : V→Res,words.load1 h p (Nat.add 0 4) q = q (.slice b o L c 4):=l0
 have a1 : ∀ q : V→Res,words.load1 h b (Nat.add (Nat.add o (Nat.mul i 4)) 2) q = q v:=l2
 have n3 : Nat.blt i L = true:=blt_of hi
 by_cases hi' : k < L2
 · have n1:=ilt_true hi'
   have n2 : ilt (.ofNat m) (.ofNat cur) = true:=ilt_true (hx.resolve_left (fun h=>h hi'))
   simp -implicitDefEqProofs only [b4_1,↓a0,↓n3,↓a1,↓hl,↓n1,↓n2,↓evR]
 · have n1:=ilt_false hi'
   simp -implicitDefEqProofs only [b4_1,↓a0,↓n3,↓a1,↓hl,↓n1,↓evR]
theorem loop4_1 {cf : CF} (hm : m ≤ 1000000) {h : Heap} {b p : Bid} {o L : Nat} {c : Option Nat} {i : Nat} (l0 : ∀ k,load1k h p 4 k = k (.slice b o L c 4)) (l2 : ∀ k,load1k h b (o + i * 4 + 2) k = k v) (hi : i < L) {ts : List (List Tr)} (ht : ∀ t ∈ ts,IsX t) (w : CellR h N (.sl 1 ts) v) :
 ∀ (j : Nat) {k cur q : Nat},k + j = ts.length→(cur ≤ m→j < q)→0 < q→(cur ≤ m→ts.length ≤ 1000000) →
  ∃ s,lpk (b4_1 words n cf) q [I (.ofNat m),.ptr p 0,I (.ofNat cur),I (.ofNat i),I (.ofNat k)] h = .done .normal [I (.ofNat m),.ptr p 0,I (.ofNat s),I (.ofNat i)] h∧cur ≤ s∧s ≤ max cur (2 * m):=by
 intro j
 induction j with
 | zero=>
   intro k cur q hij hq hq0 hl
   obtain ⟨q,rfl⟩ : ∃ q',q = q' + 1:=⟨q - 1,by omega⟩
   refine ⟨cur,?_,Nat.le_refl _,by omega⟩
   rw [lpk_succ]; exact b4_1_end l0 l2 w.lenk hi (.inl (by omega))
 | succ j ih=>
   intro k cur q hij hq hq0 hl
   obtain ⟨q,rfl⟩ : ∃ q',q = q' + 1:=⟨q - 1,by omega⟩
   have hk : k < ts.length:=by omega
   by_cases hc : cur ≤ m
   · obtain ⟨b2,o2,c2,a,a',rfl,_,_,l3⟩:=textAt w hk (ht _ (List.getElem_mem hk))
     have hmin : min a m ≤ m:=Nat.min_le_right _ _
     have:=hl hc
     have:=hq hc
     obtain ⟨s,e1,s1,s2⟩:=ih (k:=k + 1) (cur:=cur + min a m) (q:=q) (by omega) (fun _=>by omega) (by omega) (fun _=>by omega)
     refine ⟨s,?_,by omega,by omega⟩
     rw [lpk_succ,b4_1_go l0 l2 l3 hi hk hc hm (by omega)]; exact e1
   · refine ⟨cur,?_,Nat.le_refl _,by omega⟩
     rw [lpk_succ]; exact b4_1_end l0 l2 w.lenk hi (.inr (by omega))
theorem b4_2_go (hm : m ≤ 1000000) (hn : m + 2 < n) {cf : CF} {again : List V→Heap→Res} {h : Heap} {b p : Bid} {o L : Nat} {c : Option Nat} {i cur a a' : Nat} {ts : List (List Tr)} (l0 : ∀ k,load1k h p 4 k = k (.slice b o L c 4)) (hi : i < L) (hc : cur ≤ m) (hii : i ≤ 1000000)
 (l1 : ∀ k,load1k h b (o + i * 4) k = k (.str a a')) (l2 : ∀ k,load1k h b (o + i * 4 + 2) k = k v) (ht : ∀ t ∈ ts,IsX t) (hl : ts.length ≤ 1152921504606846976) (w : CellR h N (.sl 1 ts) v) :
 ∃ s,b4_2 words n cf again [I (.ofNat m),.ptr p 0,I (.ofNat cur),I (.ofNat i)] h = again [I (.ofNat m),.ptr p 0,I (.ofNat s),I (.ofNat (i + 1))] h∧cur + 1 ≤ s∧s ≤ 1152921504616846976:=by
 have a0 : ∀ q : V→Res,words.load1 h p (Nat.add 0 4) q = q (.slice b o L c 4):=l0
 have a1 : ∀ q : V→Res,words.load1 h b (Nat.add o (Nat.mul i 4)) q = q (.str a a'):=l1
 have a2 : ∀ q : V→Res,words.load1 h b (Nat.add (Nat.add o (Nat.mul i 4)) 2) q = q v:=l2
 have n1:=ilt_true hi
 have n2 : ilt (.ofNat m) (.ofNat cur) = false:=ilt_false (by omega)
 have n3 : Nat.blt i L = true:=blt_of hi
 have hmin : min a m ≤ m:=Nat.min_le_right _ _
 have n4:=ad_nat (a:=cur) (b:=1) (by omega)
 have n5:=ai_nat (a:=cur + 1) (b:=min a m) (by omega)
 have n6:=ai_nat (a:=cur + 1 + min a m) (b:=ts.length) (by omega)
 have n7:=ad_nat (a:=i) (b:=1) (by omega)
 obtain ⟨s,e1,s1,s2⟩:=loop4_1 (n:=n) (cf:=cf) hm l0 l2 hi ht w ts.length (k:=0) (cur:=cur + 1 + min a m + ts.length) (q:=n) (by omega) (fun _=>by omega) (by omega) (fun _=>by omega)
 refine ⟨s,?_,by omega,by omega⟩
 simp -implicitDefEqProofs only [b4_2,↓a0,↓n1,↓n2,↓n3,↓a1,↓a2,↓w.lenk,↓n4,↓n5,↓n6,↓e1,↓n7,↓evR]
theorem b4_2_end {cf : CF} {again : List V→Heap→Res} {h : Heap} {p : Bid} {L : Nat} {i cur : Nat} (l0 : ∀ k,load1k h p 4 k = k v) (hl : ∀ k : Nat→Res,lenk v k = k L) (hx : ¬ i < L ∨ m < cur) :
 b4_2 words n cf again [I (.ofNat m),.ptr p 0,I (.ofNat cur),I (.ofNat i)] h = .done .normal [I (.ofNat m),.ptr p 0,I (.ofNat cur)] h:=by
 have a0 : ∀ q : V→Res,words.load1 h p (Nat.add 0 4) q = q v:=l0
 by_cases hi' : i < L
 · have n1:=ilt_true hi'
   have n2 : ilt (.ofNat m) (.ofNat cur) = true:=ilt_true (hx.resolve_left (fun h=>h hi'))
   simp -implicitDefEqProofs only [b4_2,↓a0,↓hl,↓n1,↓n2,↓evR]
 · have n1:=ilt_false hi'
   simp -implicitDefEqProofs only [b4_2,↓a0,↓hl,↓n1,↓evR]
theorem loop4_2 {cf : CF} (hm : m ≤ 1000000) (hn : m + 2 < n) {h : Heap} {p : Bid} {rows : List (List Tr)} (hr : ∀ r ∈ rows,IsI r) (l0 : ∀ k,load1k h p 4 k = k v) (w : CellR h N (.sl 4 rows) v) :
 ∀ (j : Nat) {i cur q : Nat},i + j = rows.length→i ≤ cur→m + 1 - cur < q →
  ∃ s,lpk (b4_2 words n cf) q [I (.ofNat m),.ptr p 0,I (.ofNat cur),I (.ofNat i)] h = .done .normal [I (.ofNat m),.ptr p 0,I (.ofNat s)] h∧cur ≤ s∧s ≤ max cur 1152921504616846976:=by
 intro j
 induction j with
 | zero=>
   intro i cur q hij hic hq
   obtain ⟨q,rfl⟩ : ∃ q',q = q' + 1:=⟨q - 1,by omega⟩
   refine ⟨cur,?_,Nat.le_refl _,by omega⟩
   rw [lpk_succ]; exact b4_2_end l0 w.lenk (.inl (by omega))
 | succ j ih=>
   intro i cur q hij hic hq
   obtain ⟨q,rfl⟩ : ∃ q',q = q' + 1:=⟨q - 1,by omega⟩
   have hi : i < rows.length:=by omega
   by_cases hc : cur ≤ m
   · obtain ⟨b,o,c,a,a',ts,vt,rfl,ht,lt,wt,l1,l2⟩:=initAt w hi (hr _ (List.getElem_mem hi))
     obtain ⟨s,e1,s1,s2⟩:=b4_2_go (again:=lpk (b4_2 words n cf) q) (cf:=cf) hm hn l0 hi hc (by omega) l1 l2 ht lt wt
     obtain ⟨k,e2,k1,k2⟩:=ih (i:=i + 1) (cur:=s) (q:=q) (by omega) (by omega) (by omega)
     refine ⟨k,?_,by omega,by omega⟩
     rw [lpk_succ,e1]; exact e2
   · refine ⟨cur,?_,Nat.le_refl _,by omega⟩
     rw [lpk_succ]; exact b4_2_end l0 w.lenk (.inr (by omega))
theorem overAt {h : Heap} {N : Nat} {rows : List (List Tr)} {v : V} (w : CellR h N (.sl 2 rows) v) {i : Nat} (hi : i < rows.length) (hr : IsO rows[i]) : ∃ b o c a a',v = .slice b o rows.length c 2∧∀ k,load1k h b (o + i * 2) k = k (.str a a'):=by
 obtain ⟨b,o,c,l',rfl,hw,hl',_,ld,ld1⟩:=w.row hi
 generalize rows[i] = r at hr hw
 cases hr with
 | mk a a' p=>
   cases hw with | cons w0 hw=>
   cases w0
   exact ⟨b,o,c,a,a',rfl,fun k=>ld1 0 _ rfl k⟩
theorem b4_3_go {cf : CF} {again : List V→Heap→Res} {h : Heap} {b p : Bid} {o L : Nat} {c : Option Nat} {i cur a a' : Nat} (l0 : ∀ k,load1k h p 5 k = k (.slice b o L c 2)) (hi : i < L) (hc : cur ≤ m) (hm : m ≤ 1000000) (hii : i ≤ 1000000)
 (l1 : ∀ k,load1k h b (o + i * 2) k = k (.str a a')) :
 b4_3 words n cf again [I (.ofNat m),.ptr p 0,I (.ofNat cur),I (.ofNat i)] h = again [I (.ofNat m),.ptr p 0,I (.ofNat (cur + 1 + min a m)),I (.ofNat (i + 1))] h:=by
 have a0 : ∀ q : V→Res,words.load1 h p (Nat.add 0 5) q = q (.slice b o L c 2):=l0
 have a1 : ∀ q : V→Res,words.load1 h b (Nat.add o (Nat.mul i 2)) q = q (.str a a'):=l1
 have n1:=ilt_true hi
 have n2 : ilt (.ofNat m) (.ofNat cur) = false:=ilt_false (by omega)
 have n3 : Nat.blt i L = true:=blt_of hi
 have hmin : min a m ≤ m:=Nat.min_le_right _ _
 have n4:=ad_nat (a:=cur) (b:=1) (by omega)
 have n5:=ai_nat (a:=cur + 1) (b:=min a m) (by omega)
 have n7:=ad_nat (a:=i) (b:=1) (by omega)
 simp -implicitDefEqProofs only [b4_3,↓a0,↓n1,↓n2,↓n3,↓a1,↓n4,↓n5,↓n7,↓evR]
theorem b4_3_end {cf : CF} {again : List V→Heap→Res} {h : Heap} {p : Bid} {L : Nat} {i cur : Nat} (l0 : ∀ k,load1k h p 5 k = k v) (hl : ∀ k : Nat→Res,lenk v k = k L) (hx : ¬ i < L ∨ m < cur) :
 b4_3 words n cf again [I (.ofNat m),.ptr p 0,I (.ofNat cur),I (.ofNat i)] h = .done .normal [I (.ofNat m),.ptr p 0,I (.ofNat cur)] h:=by
 have a0 : ∀ q : V→Res,words.load1 h p (Nat.add 0 5) q = q v:=l0
 by_cases hi' : i < L
 · have n1:=ilt_true hi'
   have n2 : ilt (.ofNat m) (.ofNat cur) = true:=ilt_true (hx.resolve_left (fun h=>h hi'))
   simp -implicitDefEqProofs only [b4_3,↓a0,↓hl,↓n1,↓n2,↓evR]
 · have n1:=ilt_false hi'
   simp -implicitDefEqProofs only [b4_3,↓a0,↓hl,↓n1,↓evR]
theorem loop4_3 {cf : CF} (hm : m ≤ 1000000) {h : Heap} {p : Bid} {rows : List (List Tr)} (hr : ∀ r ∈ rows,IsO r) (l0 : ∀ k,load1k h p 5 k = k v) (w : CellR h N (.sl 2 rows) v) :
 ∀ (j : Nat) {i cur q : Nat},i + j = rows.length→i ≤ cur→m + 1 - cur < q →
  ∃ s,lpk (b4_3 words n cf) q [I (.ofNat m),.ptr p 0,I (.ofNat cur),I (.ofNat i)] h = .done .normal [I (.ofNat m),.ptr p 0,I (.ofNat s)] h∧cur ≤ s∧s ≤ max cur (2 * m + 1):=by
 intro j
 induction j with
 | zero=>
   intro i cur q hij hic hq
   obtain ⟨q,rfl⟩ : ∃ q',q = q' + 1:=⟨q - 1,by omega⟩
   refine ⟨cur,?_,Nat.le_refl _,by omega⟩
   rw [lpk_succ]; exact b4_3_end l0 w.lenk (.inl (by omega))
 | succ j ih=>
   intro i cur q hij hic hq
   obtain ⟨q,rfl⟩ : ∃ q',q = q' + 1:=⟨q - 1,by omega⟩
   have hi : i < rows.length:=by omega
   by_cases hc : cur ≤ m
   · obtain ⟨b,o,c,a,a',rfl,l1⟩:=overAt w hi (hr _ (List.getElem_mem hi))
     have hmin : min a m ≤ m:=Nat.min_le_right _ _
     obtain ⟨k,e2,k1,k2⟩:=ih (i:=i + 1) (cur:=cur + 1 + min a m) (q:=q) (by omega) (by omega) (by omega)
     refine ⟨k,?_,by omega,by omega⟩
     rw [lpk_succ,b4_3_go l0 hi hc hm (by omega) l1]; exact e2
   · refine ⟨cur,?_,Nat.le_refl _,by omega⟩
     rw [lpk_succ]; exact b4_3_end l0 w.lenk (.inr (by omega))
end
end Go.Ev.WCP

/- CompsPlain: how big a unit is. -/
namespace Go.Ev.WCP
open Go.Proofs
set_option maxRecDepth 100000
def SzU (n d m : Nat) : Prop:=∀ (h : Heap) (N : Nat) (t0 t1 t2 t3 t4 t5 : Tr) (ts rs us : List (List Tr)) (l : List V),N ≤ h.nx.val→IsU [t0,t1,t2,t3,t4,t5]→t0 = .sl 6 ts→t1 = .sl 6 rs→t2 = .sl 4 us→RowR h N [t0,t1,t2,t3,t4,t5] l →
 ∃ k h',call tabW n d f4 [.agg 6 l,I (.ofNat m)] h = .ret (I (.ofNat k)) h'∧Up h h'∧k ≤ 2305843009215693952 + m∧(k ≤ m→wtRows ts + wtRows rs + wtRows us ≤ m)
theorem compAt {h : Heap} {N : Nat} {rows : List (List Tr)} {v : V} (w : CellR h N (.sl 11 rows) v) {i : Nat} (hi : i < rows.length) (hr : IsK rows[i]) : ∃ b o c a a' ps qs vp vq t0 t1 t2 t3 t4 t5 l,v = .slice b o rows.length c 11 ∧
 ps ≤ 1152921504606846976∧qs ≤ 1152921504606846976∧(∀ k : Nat→Res,lenk vp k = k ps)∧(∀ k : Nat→Res,lenk vq k = k qs)∧IsU [t0,t1,t2,t3,t4,t5]∧RowR h N [t0,t1,t2,t3,t4,t5] l ∧
 (∀ k,load1k h b (o + i * 11) k = k (.str a a'))∧(∀ k,load1k h b (o + i * 11 + 1) k = k vp)∧(∀ k,load1k h b (o + i * 11 + 3) k = k vq)∧∀ k,loadk h b (o + i * 11 + 4) 6 k = k l:=by
 obtain ⟨b,o,c,l',rfl,hw,hl',ld1,ld⟩:=w.row' hi
 generalize rows[i] = r at hr hw
 cases hr with
 | mk a a' e e' ps qs t0 t1 t2 t3 t4 t5 p hp hq hu=>
   cases hw with | cons w0 hw=>
   cases hw with | cons w1 hw=>
   cases hw with | cons w2 hw=>
   cases hw with | cons w3 hw=>
   cases hw with | cons w4 hw=>
   cases hw with | cons w5 hw=>
   cases hw with | cons w6 hw=>
   cases hw with | cons w7 hw=>
   cases hw with | cons w8 hw=>
   cases hw with | cons w9 hw=>
   cases hw with | cons w10 hw=>
   cases hw
   cases w0
   refine ⟨b,o,c,a,a',ps.length,qs.length,_,_,t0,t1,t2,t3,t4,t5,_,rfl,hp,hq,w1.lenk,w3.lenk,hu,.cons w4 (.cons w5 (.cons w6 (.cons w7 (.cons w8 (.cons w9 .nil))))),fun k=>ld1 0 _ rfl k,fun k=>ld1 1 _ rfl k,fun k=>ld1 3 _ rfl k,fun k=>?_⟩
   exact ld 4 6 (by omega) k
section
variable {n d m : Nat} {v : V} {N : Nat}
theorem b4_4_go (hm : m ≤ 1000000) (H : ∀ m',m' < m→SzU n d m') {again : List V→Heap→Res} {h : Heap} {b p : Bid} {o L : Nat} {c : Option Nat} {i cur a a' ps qs : Nat} {vp vq : V} {t0 t1 t2 t3 t4 t5 : Tr} {l : List V} (hN : N ≤ h.nx.val)
 (l0 : ∀ k,load1k h p 3 k = k (.slice b o L c 11)) (hi : i < L) (hc : cur ≤ m) (hii : i ≤ 1000000)
 (hps : ps ≤ 1152921504606846976) (hqs : qs ≤ 1152921504606846976) (lp : ∀ k : Nat→Res,lenk vp k = k ps) (lq' : ∀ k : Nat→Res,lenk vq k = k qs) (hu : IsU [t0,t1,t2,t3,t4,t5]) (hw : RowR h N [t0,t1,t2,t3,t4,t5] l)
 (l1 : ∀ k,load1k h b (o + i * 11) k = k (.str a a')) (l2 : ∀ k,load1k h b (o + i * 11 + 1) k = k vp) (l3 : ∀ k,load1k h b (o + i * 11 + 3) k = k vq) (l4 : ∀ k,loadk h b (o + i * 11 + 4) 6 k = k l) :
 ∃ s h',b4_4 words n (call tabW n d) again [I (.ofNat m),.ptr p 0,I (.ofNat cur),I (.ofNat i)] h = again [I (.ofNat m),.ptr p 0,I (.ofNat s),I (.ofNat (i + 1))] h'∧Up h h'∧cur + 1 ≤ s∧s ≤ 2305843009215693952 + m:=by
 have a0 : ∀ q : V→Res,words.load1 h p (Nat.add 0 3) q = q (.slice b o L c 11):=l0
 have a1 : ∀ q : V→Res,words.load1 h b (Nat.add o (Nat.mul i 11)) q = q (.str a a'):=l1
 have a2 : ∀ q : V→Res,words.load1 h b (Nat.add (Nat.add o (Nat.mul i 11)) 1) q = q vp:=l2
 have a3 : ∀ q : V→Res,words.load1 h b (Nat.add (Nat.add o (Nat.mul i 11)) 3) q = q vq:=l3
 have a4 : ∀ q : List V→Res,words.load h b (Nat.add (Nat.add o (Nat.mul i 11)) 4) 6 q = q l:=l4
 have n1:=ilt_true hi
 have n2 : ilt (.ofNat m) (.ofNat cur) = false:=ilt_false (by omega)
 have n3 : Nat.blt i L = true:=blt_of hi
 have hmin : min a m ≤ m:=Nat.min_le_right _ _
 have n4:=ad_nat (a:=cur) (b:=1) (by omega)
 have n5:=ai_nat (a:=cur + 1) (b:=min a m) (by omega)
 have n6:=ai_nat (a:=cur + 1 + min a m) (b:=ps) (by omega)
 have n7:=ai_nat (a:=cur + 1 + min a m + ps) (b:=qs) (by omega)
 have n8:=ad_nat (a:=i) (b:=1) (by omega)
 by_cases hx : cur + 1 + min a m + ps + qs ≤ m
 · have hsh : ∃ ts rs us,t0 = .sl 6 ts∧t1 = .sl 6 rs∧t2 = .sl 4 us:=by cases hu; exact ⟨_,_,_,rfl,rfl,rfl⟩
   obtain ⟨ts,rs,us,e0,e1,e2⟩:=hsh
   obtain ⟨k,h',ek,uk',k1,_⟩:=H (m - (cur + 1 + min a m + ps + qs)) (by omega) h N t0 t1 t2 t3 t4 t5 ts rs us l hN hu e0 e1 e2 hw
   have n9 : ilt (.ofNat m) (.ofNat (cur + 1 + min a m + ps + qs)) = false:=ilt_false (by omega)
   have n10:=si_nat (a:=m) (b:=cur + 1 + min a m + ps + qs) hx (by omega)
   have n11:=ai_nat (a:=cur + 1 + min a m + ps + qs) (b:=k) (by omega)
   refine ⟨cur + 1 + min a m + ps + qs + k,h',?_,uk',by omega,by omega⟩
   simp -implicitDefEqProofs only [b4_4,↓a0,↓n1,↓n2,↓n3,↓a1,↓a2,↓a3,↓lp,↓lq',↓n4,↓n5,↓n6,↓n7,↓n9,↓a4,↓n10,↓ek,↓n11,↓n8,↓evR]
 · have n9 : ilt (.ofNat m) (.ofNat (cur + 1 + min a m + ps + qs)) = true:=ilt_true (by omega)
   refine ⟨cur + 1 + min a m + ps + qs,h,?_,.refl _,by omega,by omega⟩
   simp -implicitDefEqProofs only [b4_4,↓a0,↓n1,↓n2,↓n3,↓a1,↓a2,↓a3,↓lp,↓lq',↓n4,↓n5,↓n6,↓n7,↓n9,↓n8,↓evR]
theorem b4_4_end {cf : CF} {again : List V→Heap→Res} {h : Heap} {p : Bid} {L : Nat} {i cur : Nat} (l0 : ∀ k,load1k h p 3 k = k v) (hl : ∀ k : Nat→Res,lenk v k = k L) (hx : ¬ i < L ∨ m < cur) :
 b4_4 words n cf again [I (.ofNat m),.ptr p 0,I (.ofNat cur),I (.ofNat i)] h = .ret (I (.ofNat cur)) h:=by
 have a0 : ∀ q : V→Res,words.load1 h p (Nat.add 0 3) q = q v:=l0
 by_cases hi' : i < L
 · have n1:=ilt_true hi'
   have n2 : ilt (.ofNat m) (.ofNat cur) = true:=ilt_true (hx.resolve_left (fun h=>h hi'))
   simp -implicitDefEqProofs only [b4_4,↓a0,↓hl,↓n1,↓n2,↓evR]
 · have n1:=ilt_false hi'
   simp -implicitDefEqProofs only [b4_4,↓a0,↓hl,↓n1,↓evR]
theorem loop4_4 (hm : m ≤ 1000000) (H : ∀ m',m' < m→SzU n d m') {p : Bid} {l : List V} (hv : l[3]? = some v) {rows : List (List Tr)} (hr : ∀ r ∈ rows,IsK r) :
 ∀ (j : Nat) {i cur q : Nat} {h : Heap},i + j = rows.length→i ≤ cur→m + 1 - cur < q→N ≤ h.nx.val→Row (h.t.get p) 6 l→p.val < h.nx.val→CellR h N (.sl 11 rows) v →
  ∃ s h',lpk (b4_4 words n (call tabW n d)) q [I (.ofNat m),.ptr p 0,I (.ofNat cur),I (.ofNat i)] h = .ret (I (.ofNat s)) h'∧Up h h'∧cur ≤ s∧s ≤ max cur (2305843009215693952 + m):=by
 intro j
 induction j with
 | zero=>
   intro i cur q h hij hic hq hN row hp w
   obtain ⟨q,rfl⟩ : ∃ q',q = q' + 1:=⟨q - 1,by omega⟩
   refine ⟨cur,h,?_,.refl _,Nat.le_refl _,by omega⟩
   rw [lpk_succ]; exact b4_4_end (fun k=>load1k_law row hv k) w.lenk (.inl (by omega))
 | succ j ih=>
   intro i cur q h hij hic hq hN row hp w
   obtain ⟨q,rfl⟩ : ∃ q',q = q' + 1:=⟨q - 1,by omega⟩
   have hi : i < rows.length:=by omega
   by_cases hc : cur ≤ m
   · obtain ⟨b,o,c,a,a',ps,qs,vp,vq,t0,t1,t2,t3,t4,t5,l',rfl,hps,hqs,lp,lq',hu,hw,l1,l2,l3,l4⟩:=compAt w hi (hr _ (List.getElem_mem hi))
     obtain ⟨s,h1,e1,u1,s1,s2⟩:=b4_4_go (again:=lpk (b4_4 words n (call tabW n d)) q) (n:=n) (d:=d) hm H hN (fun k=>load1k_law row hv k) hi hc (by omega) hps hqs lp lq' hu hw l1 l2 l3 l4
     obtain ⟨k,h2,e2,u2,k1,k2⟩:=ih (i:=i + 1) (cur:=s) (q:=q) (h:=h1) (by omega) (by omega) (by omega) (Nat.le_trans hN u1.nx) (row.later hp u1) (Nat.lt_of_lt_of_le hp u1.nx) (w.to hN u1)
     refine ⟨k,h2,?_,u1.trans u2,by omega,by omega⟩
     rw [lpk_succ,e1]; exact e2
   · refine ⟨cur,h,?_,.refl _,Nat.le_refl _,by omega⟩
     rw [lpk_succ]; exact b4_4_end (fun k=>load1k_law row hv k) w.lenk (.inr (by omega))
end
theorem size_unit : ∀ (m : Nat) {n d : Nat},m ≤ 1000000→m + 2 < n→m + 4 < d→SzU n d m:=by
 intro m
 induction m using Nat.strongRecOn with
 | _ m ih=>
   intro n d hm hn hd h N t0 t1 t2 t3 t4 t5 ts rs us l hN hu e0 e1 e2 hw
   obtain ⟨d,rfl⟩ : ∃ d',d = d' + 1:=⟨d - 1,by omega⟩
   cases hu with
   | mk ts' rs' us' cs is os ht hr hu hc hi ho=>
     cases e0; cases e1; cases e2
     cases hw with | cons w0 hw=>
     cases hw with | cons w1 hw=>
     cases hw with | cons w2 hw=>
     cases hw with | cons w3 hw=>
     cases hw with | cons w4 hw=>
     cases hw with | cons w5 hw=>
     cases hw
     rename_i v0 v1 v2 v3 v4 v5
     obtain ⟨h0,e0,row,u0,lt0⟩:=new_row h (g:=6) (l:=[v0,v1,v2,v3,v4,v5]) rfl (by omega)
     have hnew : ∀ q,words.new h (.arr 6 1 (.lf [v0,v1,v2,v3,v4,v5]) .false) q = q h.nx h0:=e0
     have a0 : ∀ q : V→Res,words.load1 h0 h.nx 0 q = q v0:=fun q=>load1k_law row rfl q
     have a1 : ∀ q : V→Res,words.load1 h0 h.nx 1 q = q v1:=fun q=>load1k_law row rfl q
     have a2 : ∀ q : V→Res,words.load1 h0 h.nx 2 q = q v2:=fun q=>load1k_law row rfl q
     obtain ⟨k1,h1,e1,u1,c1,c2⟩:=size_prog (m:=m) (n:=n) (d:=d) hm (by omega) (by omega) (Nat.le_trans hN u0.nx) ht hr hu (w0.to hN u0) (w1.to hN u0) (w2.to hN u0)
     have u01:=u0.trans u1
     have row1:=row.later lt0 u1
     obtain ⟨k2,e2,f1,f2⟩:=loop4_2 (n:=n) (cf:=call tabW n d) (m:=m) (N:=N) hm (by omega) hi (p:=h.nx) (fun k=>load1k_law row1 rfl k) (w4.to hN u01) is.length (i:=0) (cur:=k1) (q:=n) (by omega) (by omega) (by omega)
     obtain ⟨k3,e3,g1,g2⟩:=loop4_3 (n:=n) (cf:=call tabW n d) (m:=m) (N:=N) hm ho (p:=h.nx) (fun k=>load1k_law row1 rfl k) (w5.to hN u01) os.length (i:=0) (cur:=k2) (q:=n) (by omega) (by omega) (by omega)
     obtain ⟨k4,h4,e4,u4,j1,j2⟩:=loop4_4 (n:=n) (d:=d) (m:=m) (N:=N) hm (fun m' hm'=>ih m' hm' (by omega) (by omega) (by omega)) (p:=h.nx) (l:=[v0,v1,v2,v3,v4,v5]) rfl hc cs.length (i:=0) (cur:=k3) (q:=n) (h:=h1) (by omega) (by omega) (by omega)
      (Nat.le_trans hN u01.nx) row1 (Nat.lt_of_lt_of_le lt0 u1.nx) (w3.to hN u01)
     refine ⟨k4,h4,?_,u01.trans u4,by omega,fun hk=>Nat.le_trans (c2 (by omega)) (by omega)⟩
     rw [call4,sh4]
     simp -implicitDefEqProofs only [↓hnew,↓a0,↓a1,↓a2,↓w0.parts,↓w1.parts,↓w2.parts,↓e1,↓e2,↓e3,↓e4,↓evR]
end Go.Ev.WCP

/- CompsPlain: trees that are the same: fields, expressions, literals, rules. -/
namespace Go.Ev.WCP
open Go.Proofs
set_option maxRecDepth 100000
theorem neq_same (a a' e e' : Nat) (h : Heap) (k : V→Heap→Res) : words.ex (.eqs .neq 2) [.agg 2 [.str a a',.str e e'],.agg 2 [.str a a',.str e e']] h k = k (.bool false) h:=by
 show eqsk [.str a a',.str e e'] [.str a a',.str e e'] (fun q=>notIf .neq q fun u=>k u h) = _
 show Bool.rec (motive:=fun _=>Res) _ (Bool.rec (motive:=fun _=>Res) _ (notIf .neq true fun u=>k u h) (seq e e' e e')) (seq a a' a a') = _
 rw [seq_self,seq_self]
 rfl
theorem fieldIn {h : Heap} {A : Nat→Prop} {rows : List (List Tr)} {v : V} (w : CellA h A (.sl 2 rows) v) {i : Nat} (hi : i < rows.length) {a a' e e' : Nat} (hr : rows[i] = [.s a a',.s e e']) : ∃ b o c,v = .slice b o rows.length c 2 ∧
 (∀ k,load1k h b (o + i * 2) k = k (.str a a'))∧(∀ k,load1k h b (o + i * 2 + 1) k = k (.str e e'))∧∀ k,loadk h b (o + i * 2) 2 k = k [.str a a',.str e e']:=by
 obtain ⟨b,o,c,l',rfl,hw,hl',_,ld,ld1⟩:=w.row hi
 rw [hr] at hw
 cases hw with | cons w0 hw=>
 cases hw with | cons w1 hw=>
 cases hw
 cases w0; cases w1
 exact ⟨b,o,c,rfl,fun k=>ld1 0 _ rfl k,fun k=>ld1 1 _ rfl k,ld⟩
theorem isF_eq {r : List Tr} (h : IsF r) : ∃ a a' e e',r = [.s a a',.s e e']:=by cases h; exact ⟨_,_,_,_,rfl⟩
section
variable {n d : Nat} {v v' : V} {N : Nat}
theorem loop22 {cf : CF} {h : Heap} {A A' : Nat→Prop} {rows : List (List Tr)} (hr : ∀ r ∈ rows,IsF r) (hl : rows.length ≤ 1000000000) (w : CellA h A (.sl 2 rows) v) (w' : CellA h A' (.sl 2 rows) v') :
 ∀ (j : Nat) {i q : Nat},i + j = rows.length→j < q→lpk (b22_1 words n cf) q [v,v',I (.ofNat i)] h = .ret (.bool true) h:=by
 intro j
 induction j with
 | zero=>
   intro i q hij hq
   obtain ⟨q,rfl⟩ : ∃ q',q = q' + 1:=⟨q - 1,by omega⟩
   have n1 : ilt (.ofNat i) (.ofNat rows.length) = false:=ilt_false (by omega)
   rw [lpk_succ]
   simp -implicitDefEqProofs only [b22_1,↓w.lenk,↓n1,↓evR]
 | succ j ih=>
   intro i q hij hq
   obtain ⟨q,rfl⟩ : ∃ q',q = q' + 1:=⟨q - 1,by omega⟩
   have hi : i < rows.length:=by omega
   obtain ⟨a,a',e,e',hre⟩:=isF_eq (hr _ (List.getElem_mem hi))
   obtain ⟨b,o,c,rfl,_,_,ld⟩:=fieldIn w hi hre
   obtain ⟨b2,o2,c2,rfl,_,_,ld2⟩:=fieldIn w' hi hre
   have a1 : ∀ q : List V→Res,words.load h b (Nat.add o (Nat.mul i 2)) 2 q = q [.str a a',.str e e']:=ld
   have a2 : ∀ q : List V→Res,words.load h b2 (Nat.add o2 (Nat.mul i 2)) 2 q = q [.str a a',.str e e']:=ld2
   have n1:=ilt_true hi
   have n2 : Nat.blt i rows.length = true:=blt_of hi
   have n3:=ad_nat (a:=i) (b:=1) (by omega)
   have:=ih (i:=i + 1) (q:=q) (by omega) (by omega)
   rw [lpk_succ]
   simp -implicitDefEqProofs only [b22_1,↓n1,↓n2,↓a1,↓a2,↓neq_same,↓n3,↓evR]
   exact this
theorem same_fields (hd : 0 < d) {h : Heap} {A A' : Nat→Prop} {rows : List (List Tr)} (hr : ∀ r ∈ rows,IsF r) (hl : rows.length ≤ 1000000000) (hn : rows.length < n) (w : CellA h A (.sl 2 rows) v) (w' : CellA h A' (.sl 2 rows) v') :
 call tabW n d f22 [v,v'] h = .ret (.bool true) h:=by
 obtain ⟨d,rfl⟩ : ∃ d',d = d' + 1:=⟨d - 1,by omega⟩
 have:=loop22 (n:=n) (cf:=call tabW n d) hr hl w w' rows.length (i:=0) (q:=n) (by omega) hn
 rw [call22,sh22]
 simp -implicitDefEqProofs only [↓w.lenk,↓w'.lenk,↓evR]
 exact this
end
def SmE (n d W : Nat) : Prop:=∀ (h : Heap) (N : Nat) (r : List Tr) (l l' : List V),N ≤ h.nx.val→IsE r→wtRow r ≤ W→RowR h N r l→RowR h N r l'→∃ h',call tabW n d f44 [.agg 5 l,.agg 5 l',.bool true] h = .ret (.bool true) h'∧Up h h'
def SmEs (n d W : Nat) : Prop:=∀ (h : Heap) (N : Nat) (rows : List (List Tr)) (v v' : V),N ≤ h.nx.val→(∀ r ∈ rows,IsE r)→wtRows rows ≤ W→CellR h N (.sl 5 rows) v→CellR h N (.sl 5 rows) v'→∃ h',call tabW n d f23 [v,v',.bool true] h = .ret (.bool true) h'∧Up h h'
section
variable {n d W : Nat} {v v' : V} {N : Nat}
theorem loop23 (H : ∀ r,IsE r→1 + wtRow r ≤ W→SmE n d (wtRow r)) (hW : W ≤ 1000000) {rows : List (List Tr)} (hr : ∀ r ∈ rows,IsE r) (hw : wtRows rows ≤ W) :
 ∀ (j : Nat) {i q : Nat} {h : Heap},i + j = rows.length→j < q→N ≤ h.nx.val→CellR h N (.sl 5 rows) v→CellR h N (.sl 5 rows) v'→∃ h',lpk (b23_1 words n (call tabW n d)) q [v,v',.bool true,I (.ofNat i)] h = .ret (.bool true) h'∧Up h h':=by
 have hlen:=wtRows_len rows
 intro j
 induction j with
 | zero=>
   intro i q h hij hq hN w w'
   obtain ⟨q,rfl⟩ : ∃ q',q = q' + 1:=⟨q - 1,by omega⟩
   have n1 : ilt (.ofNat i) (.ofNat rows.length) = false:=ilt_false (by omega)
   refine ⟨h,?_,.refl _⟩
   rw [lpk_succ]
   simp -implicitDefEqProofs only [b23_1,↓w.lenk,↓n1,↓evR]
 | succ j ih=>
   intro i q h hij hq hN w w'
   obtain ⟨q,rfl⟩ : ∃ q',q = q' + 1:=⟨q - 1,by omega⟩
   have hi : i < rows.length:=by omega
   obtain ⟨b,o,c,l,hv,hl,_,_,ld,_⟩:=w.row hi
   obtain ⟨b2,o2,c2,l2,hv2,hl2,_,_,ld2,_⟩:=w'.row hi
   have hmem:=wtRows_mem (List.getElem_mem hi)
   obtain ⟨h1,e1,u1⟩:=H rows[i] (hr _ (List.getElem_mem hi)) (by omega) h N rows[i] l l2 hN (hr _ (List.getElem_mem hi)) (Nat.le_refl _) hl hl2
   obtain ⟨h2,e2,u2⟩:=ih (i:=i + 1) (q:=q) (h:=h1) (by omega) (by omega) (Nat.le_trans hN u1.nx) (w.to hN u1) (w'.to hN u1)
   subst hv; subst hv2
   have a1 : ∀ q : List V→Res,words.load h b (Nat.add o (Nat.mul i 5)) 5 q = q l:=ld
   have a2 : ∀ q : List V→Res,words.load h b2 (Nat.add o2 (Nat.mul i 5)) 5 q = q l2:=ld2
   have n1:=ilt_true hi
   have n2 : Nat.blt i rows.length = true:=blt_of hi
   have n3:=ad_nat (a:=i) (b:=1) (by omega)
   refine ⟨h2,?_,u1.trans u2⟩
   rw [lpk_succ]
   simp -implicitDefEqProofs only [b23_1,↓n1,↓n2,↓a1,↓a2,↓e1,↓n3,↓evR]
   exact e2
theorem same_exprs_of (H : ∀ r,IsE r→1 + wtRow r ≤ W→SmE n d (wtRow r)) (hW : W ≤ 1000000) (hn : W < n) : SmEs n (d + 1) W:=by
 intro h N rows v v' hN hr hw w w'
 have hlen:=wtRows_len rows
 obtain ⟨h',e,u⟩:=loop23 (n:=n) (d:=d) (N:=N) H hW hr hw rows.length (i:=0) (q:=n) (h:=h) (by omega) (by omega) hN w w'
 refine ⟨h',?_,u⟩
 rw [call23,sh23]
 simp -implicitDefEqProofs only [↓w.lenk,↓w'.lenk,↓evR]
 exact e
theorem same_expr_of (H : SmEs n d W) : SmE n (d + 1) W:=by
 intro h N r l l' hN hr hw w w'
 cases hr with
 | mk op tl tn z args p0 ha=>
 cases w with | cons w0 w=>
 cases w with | cons w1 w=>
 cases w with | cons w2 w=>
 cases w with | cons w3 w=>
 cases w with | cons w4 w=>
 cases w
 cases w0; cases w1; cases w2; cases w4
 cases w' with | cons w0 w'=>
 cases w' with | cons w1 w'=>
 cases w' with | cons w2 w'=>
 cases w' with | cons w3' w'=>
 cases w' with | cons w4 w'=>
 cases w'
 cases w0; cases w1; cases w2; cases w4
 rename_i v3 _ v3' _
 obtain ⟨h0,e0,row,u0,lt0⟩:=new_row h (g:=5) (l:=[.int .u8 op,.str tl tn,.int .i64 z,v3,.int .i64 p0]) rfl (by omega)
 obtain ⟨h1,e1,row1,u1,lt1⟩:=new_row h0 (g:=5) (l:=[.int .u8 op,.str tl tn,.int .i64 z,v3',.int .i64 p0]) rfl (by omega)
 have row0:=row.later lt0 u1
 have b0 : ∀ q,words.new h (.arr 5 1 (.lf [.int .u8 op,.str tl tn,.int .i64 z,v3,.int .i64 p0]) .false) q = q h.nx h0:=e0
 have b1 : ∀ q,words.new h0 (.arr 5 1 (.lf [.int .u8 op,.str tl tn,.int .i64 z,v3',.int .i64 p0]) .false) q = q h0.nx h1:=e1
 have c0 : ∀ q : V→Res,words.load1 h1 h.nx 0 q = q (.int .u8 op):=fun q=>load1k_law row0 rfl q
 have c1 : ∀ q : V→Res,words.load1 h1 h.nx (Nat.add 0 1) q = q (.str tl tn):=fun q=>load1k_law row0 rfl q
 have c1' : ∀ q : V→Res,words.load1 h1 h.nx 1 q = q (.str tl tn):=fun q=>load1k_law row0 rfl q
 have c2 : ∀ q : V→Res,words.load1 h1 h.nx 2 q = q (.int .i64 z):=fun q=>load1k_law row0 rfl q
 have c3 : ∀ q : V→Res,words.load1 h1 h.nx 3 q = q v3:=fun q=>load1k_law row0 rfl q
 have c4 : ∀ q : V→Res,words.load1 h1 h.nx 4 q = q (.int .i64 p0):=fun q=>load1k_law row0 rfl q
 have f0 : ∀ q : V→Res,words.load1 h1 h0.nx 0 q = q (.int .u8 op):=fun q=>load1k_law row1 rfl q
 have f1' : ∀ q : V→Res,words.load1 h1 h0.nx 1 q = q (.str tl tn):=fun q=>load1k_law row1 rfl q
 have f2 : ∀ q : V→Res,words.load1 h1 h0.nx 2 q = q (.int .i64 z):=fun q=>load1k_law row1 rfl q
 have f3 : ∀ q : V→Res,words.load1 h1 h0.nx 3 q = q v3':=fun q=>load1k_law row1 rfl q
 have f4 : ∀ q : V→Res,words.load1 h1 h0.nx 4 q = q (.int .i64 p0):=fun q=>load1k_law row1 rfl q
 have hN1 : N ≤ h1.nx.val:=Nat.le_trans hN (u0.trans u1).nx
 obtain ⟨h2,e2,u2⟩:=H h1 N args v3 v3' hN1 ha (by simp only [wtRow,Tr.wt] at hw; omega) (w3.to hN (u0.trans u1)) (w3'.to hN (u0.trans u1))
 refine ⟨h2,?_,(u0.trans u1).trans u2⟩
 rw [call44]
 simp -implicitDefEqProofs only [sh44,↓b0,↓b1,↓c0,↓f0,↓c1',↓f1',↓c2,↓f2,↓c4,↓f4,↓c3,↓f3,↓e2,↓evR]
theorem same_expr : ∀ (W : Nat) {n d : Nat},W ≤ 1000000→W < n→2 * W + 2 ≤ d→SmE n d W:=by
 intro W
 induction W using Nat.strongRecOn with
 | _ W ih=>
   intro n d hW hn hd
   obtain ⟨d,rfl⟩ : ∃ d',d = d' + 1 + 1:=⟨d - 2,by omega⟩
   exact same_expr_of (same_exprs_of (fun r _ h=>ih (wtRow r) (by omega) (by omega) (by omega) (by omega)) hW hn)
theorem same_exprs {W : Nat} (hW : W ≤ 1000000) (hn : W < n) (hd : 2 * W + 3 ≤ d) : SmEs n d W:=by
 obtain ⟨d,rfl⟩ : ∃ d',d = d' + 1:=⟨d - 1,by omega⟩
 exact same_exprs_of (fun r _ h=>same_expr (wtRow r) (by omega) (by omega) (by omega)) hW hn
end
end Go.Ev.WCP
