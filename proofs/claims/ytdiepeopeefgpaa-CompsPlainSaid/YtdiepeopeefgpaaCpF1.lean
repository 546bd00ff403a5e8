/- CpF1: texts joined. -/
import Derived.Test.YtdiepeopeefgpaaEvRules
import Derived.Test.YtdiepeopeefgpaaCpE2
/- CompsPlain: open: branches. -/
namespace Go.Ev.WCP
open Go.Proofs
set_option maxRecDepth 100000
def okTx : List (Nat × Nat)→List (Nat × Nat)→Bool
 | _,[]=>true
 | l,x :: xs=>!badTx l x.1 x.2 && okTx (l ++ [x]) xs
def txt0 : List Tr→Nat × Nat
 | .s a a' :: _=>(a,a')
 | _=>(0,0)
def txt1 : List Tr→Nat × Nat
 | _ :: .s a a' :: _=>(a,a')
 | _=>(0,0)
def cases4 : List Tr→List (List Tr)
 | [_,_,_,_,.sl _ cs,_]=>cs
 | _=>[]
theorem Sc.txt {h : Heap} {lo : Nat} {s : Bid} {vt vb vr : V} {lt lb lr : List (Nat × Nat)} (S : Sc h lo s vt vb vr lt lb lr) {N : Nat} (hN : N ≤ s.val) : N ≤ h.nx.val:=by
 have:=S.low
 have:=S.nx
 omega
section
variable {n d N lo : Nat} {s : Bid}
theorem loop19_1 (hd : 6 < d) (hN : N ≤ s.val) (l0 l5 : List V→Heap→Res) {rows : List (List Tr)} (hr : ∀ r ∈ rows,IsC r) {p3 : Bid} {lty : List V} {at_ : Int} (hat : lty[5]? = some (.int .i64 at_)) {vc vt vr : V} {lt lr : List (Nat × Nat)} {v1 v2 v3 : V} {x1 x2 x3 : Int} {x4 : Nat} (hx4 : x4 ≤ 1000000)
 (hp : p3 ≠ s) (hrl : rows.length ≤ 1000000) : ∀ (j : Nat) {i q : Nat} {h : Heap} {vb : V} {lb : List (Nat × Nat)},i + j = rows.length→j < q→Sc h lo s vt vb vr lt lb lr→Row (h.t.get p3) 6 lty→p3.val < h.nx.val→Off vb p3.val→CellR h N (.sl 2 rows) vc →
   lb.length + j ≤ 1000000→lb.length + j < n →
   (okTx lb ((rows.drop i).map txt0) = true∧∃ h' vb',lpk (b19_1 words n (call tabW n d) l0 l5) q [.ptr s 0,v1,.ptr p3 0,v2,I x1,I x2,v3,I x3,I (.ofNat x4),vc,I (.ofNat rows.length),I (.ofNat i)] h = l5 [.ptr s 0,v1,v2,I x1,I x2,v3,I x3,I (.ofNat (x4 + 1))] h' ∧
     Sc h' lo s vt vb' vr lt (lb ++ (rows.drop i).map txt0) lr∧Old lo s h h') ∨
   (okTx lb ((rows.drop i).map txt0) = false∧∃ h' a e,(e = 150 ∨ e = 170)∧lpk (b19_1 words n (call tabW n d) l0 l5) q [.ptr s 0,v1,.ptr p3 0,v2,I x1,I x2,v3,I x3,I (.ofNat x4),vc,I (.ofNat rows.length),I (.ofNat i)] h = .done (.pan (fault a e)) [.ptr s 0,v1] h'∧Old lo s h h'):=by
 intro j
 induction j with
 | zero=>
   intro i q h vb lb hij hq S row hp3 ho w hl hln
   obtain ⟨q,rfl⟩ : ∃ q',q = q' + 1:=⟨q - 1,by omega⟩
   have n1 : ilt (.ofNat i) (.ofNat rows.length) = false:=ilt_false (by omega)
   have n2:=ad_nat (a:=x4) (b:=1) (by omega)
   have e : (rows.drop i).map txt0 = []:=by rw [List.drop_eq_nil_of_le (by omega)]; rfl
   refine .inl ⟨by rw [e]; rfl,h,vb,?_,by rw [e,List.append_nil]; exact S,.refl _ _ _⟩
   rw [lpk_succ]
   simp -implicitDefEqProofs only [b19_1,↓n1,↓n2,↓evR]
 | succ j ih=>
   intro i q h vb lb hij hq S row hp3 ho w hl hln
   obtain ⟨q,rfl⟩ : ∃ q',q = q' + 1:=⟨q - 1,by omega⟩
   have hi : i < rows.length:=by omega
   obtain ⟨a,a',fs,hre,hf,hwt⟩:=isC_eq (hr _ (List.getElem_mem hi))
   have hname : (rows.drop i).map txt0 = (a,a') :: (rows.drop (i + 1)).map txt0:=by rw [List.drop_eq_getElem_cons hi,List.map_cons,hre]; rfl
   have hok : okTx lb ((rows.drop i).map txt0) = (!badTx lb a a' && okTx (lb ++ [(a,a')]) ((rows.drop (i + 1)).map txt0)):=by rw [hname]; rfl
   have ha : a' < 256 ^ a:=w.txt hi (j:=0) (by rw [hre]; rfl)
   obtain ⟨b,o,c,vf,hvc,wf,l1,l2,ld⟩:=caseIn w hi hre
   obtain ⟨h5,h6,e5,e6,row6,U,lt6⟩:=new_store h (g:=2) (z:=[.str 0 0,.nils]) (l:=[.str a a',vf]) rfl rfl (by omega)
   have hnew : ∀ q,words.new h (.arr 2 1 (repT [.str 0 0,.nils] 1 1) .false) q = q h.nx h5:=e5
   have hsto : ∀ q : Heap→Res,words.store h5 h.nx 0 2 [.str a a',vf] q = q h6:=e6
   have a1 : ∀ q : List V→Res,words.load h b (Nat.add o (Nat.mul i 2)) 2 q = q [.str a a',vf]:=ld
   have row3:=row.later hp3 U
   have S6:=S.up U
   have c0 : ∀ q : V→Res,words.load1 h6 h.nx 0 q = q (.str a a'):=fun q=>load1k_law row6 rfl q
   have c5 : ∀ q : V→Res,words.load1 h6 p3 (Nat.add 0 5) q = q (.int .i64 at_):=fun q=>load1k_law row3 hat q
   have cs : ∀ q : V→Res,words.load1 h6 s (Nat.add (Nat.add 0 1) 1) q = q vb:=fun q=>load1k_law S6.row rfl q
   have n1:=ilt_true hi
   have n2 : Nat.blt i rows.length = true:=blt_of hi
   have n3:=ad_nat (a:=i) (b:=1) (by omega)
   have dt:=dot_law (n:=n) (d:=d) (by omega) h6 a a'
   by_cases hdot : dotIn a a' = true
   · rw [hdot] at dt
     refine .inr ⟨by rw [hok]; simp [badTx,hdot],h6,at_,170,.inr rfl,?_,U.old S.nx⟩
     subst hvc
     rw [lpk_succ]
     simp -implicitDefEqProofs only [b19_1,↓n1,↓n2,↓a1,↓hnew,↓hsto,↓c0,↓dt,↓c5,↓evR]
   · have hdot : dotIn a a' = false:=by simpa using hdot
     rw [hdot] at dt
     rcases sc_b (n:=n) (d:=d) (by omega) S6 (a:=a) (a':=a') (at_:=at_) (by omega) (by omega) ha with ⟨hbad,e,he,ec⟩ | ⟨hbad,h7,b',m,h8,ec,es,S8,O8,fr,hb'⟩
     · refine .inr ⟨by rw [hok,hbad]; rfl,h6,at_,e,he,?_,U.old S.nx⟩
       subst hvc
       rw [lpk_succ]
       simp -implicitDefEqProofs only [b19_1,↓n1,↓n2,↓a1,↓hnew,↓hsto,↓c0,↓dt,↓c5,↓cs,↓ec,↓evR]
     · have hp36 : p3.val < h6.nx.val:=Nat.lt_of_lt_of_le hp3 U.nx
       have row38 : Row (h8.t.get p3) 6 lty:=by rw [fr p3 hp36 hp ho]; exact row3
       have es' : ∀ q : Heap→Res,words.store h7 s (Nat.add (Nat.add 0 1) 1) 1 [.slice b' 0 m none 1] q = q h8:=es
       have O:=(U.old S.nx).trans O8
       have step : lpk (b19_1 words n (call tabW n d) l0 l5) (q + 1) [.ptr s 0,v1,.ptr p3 0,v2,I x1,I x2,v3,I x3,I (.ofNat x4),vc,I (.ofNat rows.length),I (.ofNat i)] h =
        lpk (b19_1 words n (call tabW n d) l0 l5) q [.ptr s 0,v1,.ptr p3 0,v2,I x1,I x2,v3,I x3,I (.ofNat x4),vc,I (.ofNat rows.length),I (.ofNat (i + 1))] h8:=by
        subst hvc
        rw [lpk_succ]
        simp -implicitDefEqProofs only [b19_1,↓n1,↓n2,↓a1,↓hnew,↓hsto,↓c0,↓dt,↓c5,↓cs,↓ec,↓es',↓n3,↓evR]
       rcases ih (i:=i + 1) (q:=q) (h:=h8) (by omega) (by omega) S8 row38 (Nat.lt_of_lt_of_le hp36 O8.nx) (off_slice.2 (by omega)) (w.old O hN S.low) (by simp; omega) (by simp; omega) with ⟨k1,h',vb',k2,k3,k4⟩ | ⟨k1,h',a2,e,he,k2,k3⟩
       · refine .inl ⟨by rw [hok,hbad,k1]; rfl,h',vb',by rw [step]; exact k2,?_,O.trans k4⟩
         rw [hname]
         simpa using k3
       · exact .inr ⟨by rw [hok,hbad,k1]; rfl,h',a2,e,he,by rw [step]; exact k2,O.trans k3⟩
end
end Go.Ev.WCP

/- CompsPlain: open: types, relations. -/
namespace Go.Ev.WCP
open Go.Proofs
set_option maxRecDepth 100000
theorem okTx_app : ∀ (xs l ys : List (Nat × Nat)),okTx l (xs ++ ys) = (okTx l xs && okTx (l ++ xs) ys)
 | [],l,ys=>by simp [okTx]
 | x :: xs,l,ys=>by
   rw [List.cons_append,okTx,okTx,okTx_app xs (l ++ [x]) ys,List.append_assoc,List.singleton_append,Bool.and_assoc]
theorem okTx_append {xs l ys : List (Nat × Nat)} (h1 : okTx l xs = true) (h2 : okTx (l ++ xs) ys = true) : okTx l (xs ++ ys) = true:=by rw [okTx_app,h1,h2]; rfl
theorem okTx_right {xs l ys : List (Nat × Nat)} (h2 : okTx (l ++ xs) ys = false) : okTx l (xs ++ ys) = false:=by rw [okTx_app,h2,Bool.and_false]
theorem okTx_left {xs l ys : List (Nat × Nat)} (h1 : okTx l xs = false) : okTx l (xs ++ ys) = false:=by rw [okTx_app,h1]; rfl
section
variable {n d N lo : Nat} {s : Bid}
theorem loop19_2 (hd : 6 < d) (hn : 1000000 < n) (hN : N ≤ s.val) (l0 : List V→Heap→Res) {rows : List (List Tr)} (hr : ∀ r ∈ rows,IsT r) {vr : V} {lr : List (Nat × Nat)} {v1 v2 v3 : V} {x1 : Int} {x2 : Nat} (hx2 : x2 ≤ 1000000) (hrl : rows.length ≤ 1000000) :
 ∀ (j : Nat) {i q : Nat} {h : Heap} {vt vb : V} {lt lb : List (Nat × Nat)},i + j = rows.length→j < q→Sc h lo s vt vb vr lt lb lr→CellR h N (.sl 6 rows) v3 →
  lt.length + j ≤ 1000000→lb.length + ((rows.drop i).flatMap cases4).length ≤ 1000000 →
  ((okTx lt ((rows.drop i).map txt1) && okTx lb (((rows.drop i).flatMap cases4).map txt0)) = true∧∃ h' vt' vb',lpk (b19_2 words n (call tabW n d) l0) q [.ptr s 0,v1,v2,I x1,I (.ofNat x2),v3,I (.ofNat rows.length),I (.ofNat i)] h = l0 [.ptr s 0,v1,v2,I x1,I (.ofNat (x2 + 1))] h' ∧
    Sc h' lo s vt' vb' vr (lt ++ (rows.drop i).map txt1) (lb ++ ((rows.drop i).flatMap cases4).map txt0) lr∧Old lo s h h') ∨
  ((okTx lt ((rows.drop i).map txt1) && okTx lb (((rows.drop i).flatMap cases4).map txt0)) = false∧∃ h' a e,(e = 150 ∨ e = 170)∧lpk (b19_2 words n (call tabW n d) l0) q [.ptr s 0,v1,v2,I x1,I (.ofNat x2),v3,I (.ofNat rows.length),I (.ofNat i)] h = .done (.pan (fault a e)) [.ptr s 0,v1] h'∧Old lo s h h'):=by
 intro j
 induction j with
 | zero=>
   intro i q h vt vb lt lb hij hq S w hl hl2
   obtain ⟨q,rfl⟩ : ∃ q',q = q' + 1:=⟨q - 1,by omega⟩
   have n1 : ilt (.ofNat i) (.ofNat rows.length) = false:=ilt_false (by omega)
   have n2:=ad_nat (a:=x2) (b:=1) (by omega)
   have e : rows.drop i = []:=List.drop_eq_nil_of_le (by omega)
   refine .inl ⟨by rw [e]; rfl,h,vt,vb,?_,by rw [e]; simpa using S,.refl _ _ _⟩
   rw [lpk_succ]
   simp -implicitDefEqProofs only [b19_2,↓n1,↓n2,↓evR]
 | succ j ih=>
   intro i q h vt vb lt lb hij hq S w hl hl2
   obtain ⟨q,rfl⟩ : ∃ q',q = q' + 1:=⟨q - 1,by omega⟩
   have hi : i < rows.length:=by omega
   obtain ⟨kd,a,a',e0,e0',fs,cs,p,hre,hf,hc,hwt⟩:=isT_eq (hr _ (List.getElem_mem hi))
   have hdrop : rows.drop i = rows[i] :: rows.drop (i + 1):=List.drop_eq_getElem_cons hi
   have h4 : cases4 rows[i] = cs:=by rw [hre]; rfl
   have h1x : txt1 rows[i] = (a,a'):=by rw [hre]; rfl
   have hname : (rows.drop i).map txt1 = (a,a') :: (rows.drop (i + 1)).map txt1:=by rw [hdrop,List.map_cons,h1x]
   have hcase : (rows.drop i).flatMap cases4 = cs ++ (rows.drop (i + 1)).flatMap cases4:=by rw [hdrop,List.flatMap_cons,h4]
   have ha : a' < 256 ^ a:=w.txt hi (j:=1) (by rw [hre]; rfl)
   obtain ⟨b,o,c,vf,vc,hv3,wf,wc,l1,l4,ld⟩:=typeIn w hi hre
   obtain ⟨h5,h6,e5,e6,row6,U,lt6⟩:=new_store h (g:=6) (z:=[uk 0,.str 0 0,.str 0 0,.nils,.nils,ik 0]) (l:=[.int .u8 kd,.str a a',.str e0 e0',vf,vc,.int .i64 p]) rfl rfl (by omega)
   have hnew : ∀ q,words.new h (.arr 6 1 (repT [uk 0,.str 0 0,.str 0 0,.nils,.nils,ik 0] 1 1) .false) q = q h.nx h5:=e5
   have hsto : ∀ q : Heap→Res,words.store h5 h.nx 0 6 [.int .u8 kd,.str a a',.str e0 e0',vf,vc,.int .i64 p] q = q h6:=e6
   have a1 : ∀ q : List V→Res,words.load h b (Nat.add o (Nat.mul i 6)) 6 q = q [.int .u8 kd,.str a a',.str e0 e0',vf,vc,.int .i64 p]:=ld
   have S6:=S.up U
   have hps : h.nx ≠ s:=bid_ne (by have:=S.low; have:=S.nx; omega)
   have c1 : ∀ q : V→Res,words.load1 h6 h.nx 1 q = q (.str a a'):=fun q=>load1k_law row6 rfl q
   have c5 : ∀ q : V→Res,words.load1 h6 h.nx 5 q = q (.int .i64 p):=fun q=>load1k_law row6 rfl q
   have cs0 : ∀ q : V→Res,words.load1 h6 s (Nat.add (Nat.add 0 1) 0) q = q vt:=fun q=>load1k_law S6.row rfl q
   have n1:=ilt_true hi
   have n2 : Nat.blt i rows.length = true:=blt_of hi
   rcases sc_t (n:=n) (d:=d) (by omega) S6 (a:=a) (a':=a') (at_:=p) (by omega) (by omega) ha with ⟨hbad,e,he,ec⟩ | ⟨hbad,h7,b',m,h8,ec,es,S8,O8,fr,hb'⟩
   · refine .inr ⟨by rw [hname]; simp only [okTx]; rw [hbad]; rfl,h6,p,e,he,?_,U.old S.nx⟩
     subst hv3
     rw [lpk_succ]
     simp -implicitDefEqProofs only [b19_2,↓n1,↓n2,↓a1,↓hnew,↓hsto,↓cs0,↓c1,↓c5,↓ec,↓evR]
   · have hoff : Off vt h.nx.val:=S.t.low (.inr (Nat.le_refl _))
     have row38 : Row (h8.t.get h.nx) 6 [.int .u8 kd,.str a a',.str e0 e0',vf,vc,.int .i64 p]:=by rw [fr h.nx lt6 hps hoff]; exact row6
     have es' : ∀ q : Heap→Res,words.store h7 s (Nat.add (Nat.add 0 1) 0) 1 [.slice b' 0 m none 1] q = q h8:=es
     have O:=(U.old S.nx).trans O8
     have c4 : ∀ q : V→Res,words.load1 h8 h.nx 4 q = q vc:=fun q=>load1k_law row38 rfl q
     have wc8:=wc.old O hN S.low
     have hcl : cs.length ≤ 1000000:=by rw [hcase,List.length_append] at hl2; omega
     have step : lpk (b19_2 words n (call tabW n d) l0) (q + 1) [.ptr s 0,v1,v2,I x1,I (.ofNat x2),v3,I (.ofNat rows.length),I (.ofNat i)] h =
      lpk (b19_1 words n (call tabW n d) l0 (lpk (b19_2 words n (call tabW n d) l0) q)) n [.ptr s 0,v1,.ptr h.nx 0,v2,I x1,I (.ofNat x2),v3,I (.ofNat rows.length),I (.ofNat i),vc,I (.ofNat cs.length),I (.ofNat 0)] h8:=by
      subst hv3
      rw [lpk_succ]
      simp -implicitDefEqProofs only [b19_2,↓n1,↓n2,↓a1,↓hnew,↓hsto,↓cs0,↓c1,↓c5,↓ec,↓es',↓c4,↓wc8.lenk,↓evR]
     have hb6 : Off vb h.nx.val:=S.b.low (.inr (Nat.le_refl _))
     rcases loop19_1 (n:=n) (d:=d) hd hN l0 (lpk (b19_2 words n (call tabW n d) l0) q) hc (lty:=[.int .u8 kd,.str a a',.str e0 e0',vf,vc,.int .i64 p]) (at_:=p) rfl (v1:=v1) (v2:=v2) (v3:=v3) (x1:=x1) (x2:=.ofNat x2) (x3:=.ofNat rows.length) (x4:=i) (by omega) hps hcl
      cs.length (i:=0) (q:=n) (by omega) (by omega) S8 row38 (Nat.lt_of_lt_of_le lt6 O8.nx) hb6 wc8 (by rw [hcase,List.length_append] at hl2; omega) (by rw [hcase,List.length_append] at hl2; omega) with ⟨k1,h',vb',k2,k3,k4⟩ | ⟨k1,h',a2,e,he,k2,k3⟩
     · rw [List.drop_zero] at k1 k3
       have O2:=O.trans k4
       have hlen : (lb ++ cs.map txt0).length = lb.length + cs.length:=by simp
       rcases ih (i:=i + 1) (q:=q) (h:=h') (by omega) (by omega) k3 (w.old O2 hN S.low) (by simp; omega) (by rw [hcase,List.length_append] at hl2; omega) with ⟨m1,h'',vt2,vb2,m2,m3,m4⟩ | ⟨m1,h'',a2,e,he,m2,m3⟩
       · refine .inl ⟨?_,h'',vt2,vb2,by rw [step,k2]; exact m2,?_,O2.trans m4⟩
         · rw [hname,hcase,List.map_append]
           simp only [okTx,hbad,Bool.not_false,Bool.true_and]
           rw [Bool.and_eq_true] at m1 ⊢
           exact ⟨m1.1,okTx_append k1 m1.2⟩
         · rw [hname,hcase,List.map_append]
           simpa using m3
       · refine .inr ⟨?_,h'',a2,e,he,by rw [step,k2]; exact m2,O2.trans m3⟩
         rw [hname,hcase,List.map_append]
         simp only [okTx,hbad,Bool.not_false,Bool.true_and]
         rw [Bool.and_eq_false_iff] at m1 ⊢
         rcases m1 with m1 | m1
         · exact .inl m1
         · exact .inr (okTx_right m1)
     · rw [List.drop_zero] at k1
       refine .inr ⟨?_,h',a2,e,he,by rw [step]; exact k2,O.trans k3⟩
       rw [hname,hcase,List.map_append,Bool.and_eq_false_iff]
       exact .inr (okTx_left k1)
end
end Go.Ev.WCP

/- CompsPlain: open: relations, and all. -/
namespace Go.Ev.WCP
open Go.Proofs
set_option maxRecDepth 100000
section
variable {n d N lo : Nat} {s : Bid}
theorem loop19_4 (hd : 6 < d) (hn : 1000000 < n) (hN : N ≤ s.val) (l0 : List V→Heap→Res) {rows : List (List Tr)} (hr : ∀ r ∈ rows,IsR r) {vt vb : V} {lt lb : List (Nat × Nat)} {v1 v2 v3 : V} {x1 : Int} {x2 : Nat} (hx2 : x2 ≤ 1000000) (hrl : rows.length ≤ 1000000) :
 ∀ (j : Nat) {i q : Nat} {h : Heap} {vr : V} {lr : List (Nat × Nat)},i + j = rows.length→j < q→Sc h lo s vt vb vr lt lb lr→CellR h N (.sl 6 rows) v3→lr.length + j ≤ 1000000 →
  (okTx lr ((rows.drop i).map txt0) = true∧∃ h' vr',lpk (b19_4 words n (call tabW n d) l0) q [.ptr s 0,v1,v2,I x1,I (.ofNat x2),v3,I (.ofNat rows.length),I (.ofNat i)] h = l0 [.ptr s 0,v1,v2,I x1,I (.ofNat (x2 + 1))] h' ∧
    Sc h' lo s vt vb vr' lt lb (lr ++ (rows.drop i).map txt0)∧Old lo s h h') ∨
  (okTx lr ((rows.drop i).map txt0) = false∧∃ h' a e,(e = 150 ∨ e = 170)∧lpk (b19_4 words n (call tabW n d) l0) q [.ptr s 0,v1,v2,I x1,I (.ofNat x2),v3,I (.ofNat rows.length),I (.ofNat i)] h = .done (.pan (fault a e)) [.ptr s 0,v1] h'∧Old lo s h h'):=by
 intro j
 induction j with
 | zero=>
   intro i q h vr lr hij hq S w hl
   obtain ⟨q,rfl⟩ : ∃ q',q = q' + 1:=⟨q - 1,by omega⟩
   have n1 : ilt (.ofNat i) (.ofNat rows.length) = false:=ilt_false (by omega)
   have n2:=ad_nat (a:=x2) (b:=1) (by omega)
   have e : rows.drop i = []:=List.drop_eq_nil_of_le (by omega)
   refine .inl ⟨by rw [e]; rfl,h,vr,?_,by rw [e]; simpa using S,.refl _ _ _⟩
   rw [lpk_succ]
   simp -implicitDefEqProofs only [b19_4,↓n1,↓n2,↓evR]
 | succ j ih=>
   intro i q h vr lr hij hq S w hl
   obtain ⟨q,rfl⟩ : ∃ q',q = q' + 1:=⟨q - 1,by omega⟩
   have hi : i < rows.length:=by omega
   obtain ⟨a,a',fs,x,y,z,p,hre,hf,hwt⟩:=isR_eq (hr _ (List.getElem_mem hi))
   have hdrop : rows.drop i = rows[i] :: rows.drop (i + 1):=List.drop_eq_getElem_cons hi
   have h1x : txt0 rows[i] = (a,a'):=by rw [hre]; rfl
   have hname : (rows.drop i).map txt0 = (a,a') :: (rows.drop (i + 1)).map txt0:=by rw [hdrop,List.map_cons,h1x]
   have hok : okTx lr ((rows.drop i).map txt0) = (!badTx lr a a' && okTx (lr ++ [(a,a')]) ((rows.drop (i + 1)).map txt0)):=by rw [hname]; rfl
   have ha : a' < 256 ^ a:=w.txt hi (j:=0) (by rw [hre]; rfl)
   obtain ⟨b,o,c,vf,hv3,wf,l1,ld⟩:=relIn w hi hre
   obtain ⟨h5,h6,e5,e6,row6,U,lt6⟩:=new_store h (g:=6) (z:=[.str 0 0,.nils,.bool .false,.bool .false,.bool .false,ik 0]) (l:=[.str a a',vf,.bool x,.bool y,.bool z,.int .i64 p]) rfl rfl (by omega)
   have hnew : ∀ q,words.new h (.arr 6 1 (repT [.str 0 0,.nils,.bool .false,.bool .false,.bool .false,ik 0] 1 1) .false) q = q h.nx h5:=e5
   have hsto : ∀ q : Heap→Res,words.store h5 h.nx 0 6 [.str a a',vf,.bool x,.bool y,.bool z,.int .i64 p] q = q h6:=e6
   have a1 : ∀ q : List V→Res,words.load h b (Nat.add o (Nat.mul i 6)) 6 q = q [.str a a',vf,.bool x,.bool y,.bool z,.int .i64 p]:=ld
   have S6:=S.up U
   have c0 : ∀ q : V→Res,words.load1 h6 h.nx 0 q = q (.str a a'):=fun q=>load1k_law row6 rfl q
   have c5 : ∀ q : V→Res,words.load1 h6 h.nx 5 q = q (.int .i64 p):=fun q=>load1k_law row6 rfl q
   have cs0 : ∀ q : V→Res,words.load1 h6 s (Nat.add (Nat.add 0 1) 2) q = q vr:=fun q=>load1k_law S6.row rfl q
   have n1:=ilt_true hi
   have n2 : Nat.blt i rows.length = true:=blt_of hi
   have n3:=ad_nat (a:=i) (b:=1) (by omega)
   rcases sc_r (n:=n) (d:=d) (by omega) S6 (a:=a) (a':=a') (at_:=p) (by omega) (by omega) ha with ⟨hbad,e,he,ec⟩ | ⟨hbad,h7,b',m,h8,ec,es,S8,O8,fr,hb'⟩
   · refine .inr ⟨by rw [hok,hbad]; rfl,h6,p,e,he,?_,U.old S.nx⟩
     subst hv3
     rw [lpk_succ]
     simp -implicitDefEqProofs only [b19_4,↓n1,↓n2,↓a1,↓hnew,↓hsto,↓cs0,↓c0,↓c5,↓ec,↓evR]
   · have es' : ∀ q : Heap→Res,words.store h7 s (Nat.add (Nat.add 0 1) 2) 1 [.slice b' 0 m none 1] q = q h8:=es
     have O:=(U.old S.nx).trans O8
     have step : lpk (b19_4 words n (call tabW n d) l0) (q + 1) [.ptr s 0,v1,v2,I x1,I (.ofNat x2),v3,I (.ofNat rows.length),I (.ofNat i)] h =
      lpk (b19_4 words n (call tabW n d) l0) q [.ptr s 0,v1,v2,I x1,I (.ofNat x2),v3,I (.ofNat rows.length),I (.ofNat (i + 1))] h8:=by
      subst hv3
      rw [lpk_succ]
      simp -implicitDefEqProofs only [b19_4,↓n1,↓n2,↓a1,↓hnew,↓hsto,↓cs0,↓c0,↓c5,↓ec,↓es',↓n3,↓evR]
     rcases ih (i:=i + 1) (q:=q) (h:=h8) (by omega) (by omega) S8 (w.old O hN S.low) (by simp; omega) with ⟨m1,h'',vr2,m2,m3,m4⟩ | ⟨m1,h'',a2,e,he,m2,m3⟩
     · refine .inl ⟨by rw [hok,hbad,m1]; rfl,h'',vr2,by rw [step]; exact m2,?_,O.trans m4⟩
       rw [hname]
       simpa using m3
     · exact .inr ⟨by rw [hok,hbad,m1]; rfl,h'',a2,e,he,by rw [step]; exact m2,O.trans m3⟩
structure Mem (h : Heap) (lo : Nat) (s pm pc pf : Bid) (v0 v1 v2 : V) : Prop where
 rm : Row (h.t.get pm) 2 [.ptr pc 0,.ptr pf 0]
 rc : Row (h.t.get pc) 12 [.str 0 0,.nils,.str 0 0,.nils,v0,v1,v2,.nils,.nils,.nils,ik 0,.nilp]
 rf : Row (h.t.get pf) 4 [.nils,.nils,.ptr s 0,.nilp]
 lm : pm.val < lo
 lc : pc.val < lo
 lf : pf.val < lo
 nm : pm ≠ s
 nc : pc ≠ s
 nf : pf ≠ s
theorem Mem.old {h h' : Heap} {pm pc pf : Bid} {v0 v1 v2 : V} (M : Mem h lo s pm pc pf v0 v1 v2) (o : Old lo s h h') : Mem h' lo s pm pc pf v0 v1 v2:=
 ⟨by rw [o.get pm M.lm M.nm]; exact M.rm,by rw [o.get pc M.lc M.nc]; exact M.rc,by rw [o.get pf M.lf M.nf]; exact M.rf,M.lm,M.lc,M.lf,M.nm,M.nc,M.nf⟩
abbrev mems (pm : Bid) : V:=.slice pm 0 1 (.some 1) 2
theorem member_at {h : Heap} {pm pc pf : Bid} {v0 v1 v2 : V} (M : Mem h lo s pm pc pf v0 v1 v2) (hlo : lo ≤ h.nx.val) : ∃ h5 h6,(∀ q : List V→Res,words.load h pm (Nat.add 0 (Nat.mul 0 2)) 2 q = q [.ptr pc 0,.ptr pf 0]) ∧
 (∀ q,words.new h (.arr 2 1 (repT [.nilp,.nilp] 1 1) .false) q = q h.nx h5)∧(∀ q : Heap→Res,words.store h5 h.nx 0 2 [.ptr pc 0,.ptr pf 0] q = q h6)∧(∀ q : V→Res,words.load1 h6 h.nx 0 q = q (.ptr pc 0))∧Up h h6∧Row (h6.t.get h.nx) 2 [.ptr pc 0,.ptr pf 0]∧h.nx.val < h6.nx.val:=by
 obtain ⟨h5,h6,e5,e6,row6,U,lt6⟩:=new_store h (g:=2) (z:=[.nilp,.nilp]) (l:=[.ptr pc 0,.ptr pf 0]) rfl rfl (by omega)
 exact ⟨h5,h6,fun q=>loadk_law (o:=0) (n:=2) M.rm (by simp) q,e5,e6,fun q=>load1k_law row6 rfl q,U,row6,lt6⟩
theorem open_types (hd : 6 < d) (hn : 1000000 < n) (hN : N ≤ s.val) {ts : List (List Tr)} (hr : ∀ r ∈ ts,IsT r) {vr : V} {lr : List (Nat × Nat)} {pm pc pf : Bid} {v0 v1 v2 : V} {h : Heap} {vt vb : V} {lt lb : List (Nat × Nat)} (S : Sc h lo s vt vb vr lt lb lr) (M : Mem h lo s pm pc pf v0 v1 v2) (w : CellR h N (.sl 6 ts) v0)
 (hl : lt.length + ts.length ≤ 1000000) (hl2 : lb.length + (ts.flatMap cases4).length ≤ 1000000) :
 ((okTx lt (ts.map txt1) && okTx lb ((ts.flatMap cases4).map txt0)) = true∧∃ h' vt' vb',lpk (b19_3 words n (call tabW n d)) n [.ptr s 0,mems pm,mems pm,ik 1,ik 0] h = .done .normal [.ptr s 0,mems pm] h' ∧
    Sc h' lo s vt' vb' vr (lt ++ ts.map txt1) (lb ++ (ts.flatMap cases4).map txt0) lr∧Old lo s h h') ∨
   ((okTx lt (ts.map txt1) && okTx lb ((ts.flatMap cases4).map txt0)) = false∧∃ h' a e,(e = 150 ∨ e = 170)∧lpk (b19_3 words n (call tabW n d)) n [.ptr s 0,mems pm,mems pm,ik 1,ik 0] h = .done (.pan (fault a e)) [.ptr s 0,mems pm] h'∧Old lo s h h'):=by
 obtain ⟨n',hn'⟩ : ∃ n',n = n' + 1 + 1:=⟨n - 2,by omega⟩
 obtain ⟨h5,h6,a1,a2,a3,a4,U,row6,lt6⟩:=member_at M S.nx
 have S6:=S.up U
 have M6:=M.old (U.old S.nx)
 have w6:=w.old (U.old S.nx) hN S.low
 have c4 : ∀ q : V→Res,words.load1 h6 pc (Nat.add 0 4) q = q v0:=fun q=>load1k_law M6.rc rfl q
 have n1 : ilt (.ofNat 0) (.ofNat 1) = true:=ilt_true (by omega)
 have n2 : Nat.blt 0 1 = true:=rfl
 have n3 : ilt (.ofNat 1) (.ofNat 1) = false:=ilt_false (by omega)
 have step : lpk (b19_3 words n (call tabW n d)) n [.ptr s 0,mems pm,mems pm,ik 1,ik 0] h =
  lpk (b19_2 words n (call tabW n d) (lpk (b19_3 words n (call tabW n d)) (n' + 1))) n [.ptr s 0,mems pm,mems pm,I (.ofNat 1),I (.ofNat 0),v0,I (.ofNat ts.length),I (.ofNat 0)] h6:=by
  conv=>lhs; rw [show lpk (b19_3 words n (call tabW n d)) n = lpk (b19_3 words n (call tabW n d)) (n' + 1 + 1) by rw [← hn']]
  rw [lpk_succ]
  simp -implicitDefEqProofs only [b19_3,↓n1,↓n2,↓a1,↓a2,↓a3,↓a4,↓c4,↓w6.lenk,↓evR]
 rcases loop19_2 (n:=n) (d:=d) hd hn hN (lpk (b19_3 words n (call tabW n d)) (n' + 1)) hr (v1:=mems pm) (v2:=mems pm) (v3:=v0) (x1:=.ofNat 1) (x2:=0) (by omega) (by omega) ts.length (i:=0) (q:=n) (h:=h6) (by omega) (by omega) S6 w6 (by omega) (by rw [List.drop_zero]; omega) with ⟨k1,h',vt',vb',k2,k3,k4⟩ | ⟨k1,h',a,e,he,k2,k3⟩
 · rw [List.drop_zero] at k1 k3
   refine .inl ⟨k1,h',vt',vb',?_,k3,(U.old S.nx).trans k4⟩
   rw [step,k2,lpk_succ]
   have n4 : ilt (.ofNat (0 + 1)) (.ofNat 1) = false:=n3
   simp -implicitDefEqProofs only [b19_3,↓n4,↓evR]
 · rw [List.drop_zero] at k1
   exact .inr ⟨k1,h',a,e,he,by rw [step]; exact k2,(U.old S.nx).trans k3⟩
theorem open_rels (hd : 6 < d) (hn : 1000000 < n) (hN : N ≤ s.val) {rs : List (List Tr)} (hr : ∀ r ∈ rs,IsR r) {vr : V} {lr : List (Nat × Nat)} {pm pc pf : Bid} {v0 v1 v2 : V} {h : Heap} {vt vb : V} {lt lb : List (Nat × Nat)} (S : Sc h lo s vt vb vr lt lb lr) (M : Mem h lo s pm pc pf v0 v1 v2) (w : CellR h N (.sl 6 rs) v1)
 (hl : lr.length + rs.length ≤ 1000000) :
 (okTx lr (rs.map txt0) = true∧∃ h' vr',lpk (b19_5 words n (call tabW n d)) n [.ptr s 0,mems pm,mems pm,ik 1,ik 0] h = .done .normal [.ptr s 0,mems pm] h' ∧
   Sc h' lo s vt vb vr' lt lb (lr ++ rs.map txt0)∧Old lo s h h') ∨
   (okTx lr (rs.map txt0) = false∧∃ h' a e,(e = 150 ∨ e = 170)∧lpk (b19_5 words n (call tabW n d)) n [.ptr s 0,mems pm,mems pm,ik 1,ik 0] h = .done (.pan (fault a e)) [.ptr s 0,mems pm] h'∧Old lo s h h'):=by
 obtain ⟨n',hn'⟩ : ∃ n',n = n' + 1 + 1:=⟨n - 2,by omega⟩
 obtain ⟨h5,h6,a1,a2,a3,a4,U,row6,lt6⟩:=member_at M S.nx
 have S6:=S.up U
 have M6:=M.old (U.old S.nx)
 have w6:=w.old (U.old S.nx) hN S.low
 have c4 : ∀ q : V→Res,words.load1 h6 pc (Nat.add (Nat.add 0 4) 1) q = q v1:=fun q=>load1k_law M6.rc rfl q
 have n1 : ilt (.ofNat 0) (.ofNat 1) = true:=ilt_true (by omega)
 have n2 : Nat.blt 0 1 = true:=rfl
 have n3 : ilt (.ofNat 1) (.ofNat 1) = false:=ilt_false (by omega)
 have step : lpk (b19_5 words n (call tabW n d)) n [.ptr s 0,mems pm,mems pm,ik 1,ik 0] h =
  lpk (b19_4 words n (call tabW n d) (lpk (b19_5 words n (call tabW n d)) (n' + 1))) n [.ptr s 0,mems pm,mems pm,I (.ofNat 1),I (.ofNat 0),v1,I (.ofNat rs.length),I (.ofNat 0)] h6:=by
  conv=>lhs; rw [show lpk (b19_5 words n (call tabW n d)) n = lpk (b19_5 words n (call tabW n d)) (n' + 1 + 1) by rw [← hn']]
  rw [lpk_succ]
  simp -implicitDefEqProofs only [b19_5,↓n1,↓n2,↓a1,↓a2,↓a3,↓a4,↓c4,↓w6.lenk,↓evR]
 rcases loop19_4 (n:=n) (d:=d) hd hn hN (lpk (b19_5 words n (call tabW n d)) (n' + 1)) hr (v1:=mems pm) (v2:=mems pm) (v3:=v1) (x1:=.ofNat 1) (x2:=0) (by omega) (by omega) rs.length (i:=0) (q:=n) (h:=h6) (by omega) (by omega) S6 w6 (by omega) with ⟨k1,h',vr',k2,k3,k4⟩ | ⟨k1,h',a,e,he,k2,k3⟩
 · rw [List.drop_zero] at k1 k3
   refine .inl ⟨k1,h',vr',?_,k3,(U.old S.nx).trans k4⟩
   rw [step,k2,lpk_succ]
   have n4 : ilt (.ofNat (0 + 1)) (.ofNat 1) = false:=n3
   simp -implicitDefEqProofs only [b19_5,↓n4,↓evR]
 · rw [List.drop_zero] at k1
   exact .inr ⟨k1,h',a,e,he,by rw [step]; exact k2,(U.old S.nx).trans k3⟩
theorem open_comps (hn : 1000000 < n) {cf : CF} {pm pc pf : Bid} {v0 v1 v2 : V} {h : Heap} (M : Mem h lo s pm pc pf v0 v1 v2) (hlo : lo ≤ h.nx.val) : ∃ h',lpk (b19_7 words n cf) n [.ptr s 0,mems pm,.nils,mems pm,ik 1,ik 0] h = .done .normal [.ptr s 0,mems pm] h'∧Up h h':=by
 obtain ⟨n',hn'⟩ : ∃ n',n = n' + 1 + 1:=⟨n - 2,by omega⟩
 obtain ⟨h5,h6,a1,a2,a3,a4,U,row6,lt6⟩:=member_at M hlo
 have M6:=M.old (U.old hlo)
 have c4 : ∀ q : V→Res,words.load1 h6 pc (Nat.add (Nat.add 0 4) 3) q = q .nils:=fun q=>load1k_law M6.rc rfl q
 have n1 : ilt (.ofNat 0) (.ofNat 1) = true:=ilt_true (by omega)
 have n2 : Nat.blt 0 1 = true:=rfl
 have n3 : ilt (.ofNat 1) (.ofNat 1) = false:=ilt_false (by omega)
 have n4 : ilt (.ofNat 0) (.ofNat 0) = false:=ilt_false (by omega)
 have n5 : ad (.ofNat 0) 1 = .ofNat 1:=ad_nat (a:=0) (b:=1) (by omega)
 refine ⟨h6,?_,U⟩
 have st : ∀ X : List V→Heap→Res,lpk (b19_6 words n cf X) n [.ptr s 0,mems pm,.nils,.ptr h.nx 0,mems pm,I (.ofNat 1),I (.ofNat 0),.nils,ik 0,ik 0] h6 = X [.ptr s 0,mems pm,.nils,mems pm,I (.ofNat 1),I (.ofNat 1)] h6:=fun X=>by
  conv=>lhs; rw [show lpk (b19_6 words n cf X) n = lpk (b19_6 words n cf X) (n' + 1 + 1) by rw [← hn']]
  rw [lpk_succ]
  simp -implicitDefEqProofs only [b19_6,↓n4,↓n5,↓evR]
 conv=>lhs; rw [show lpk (b19_7 words n cf) n = lpk (b19_7 words n cf) (n' + 1 + 1) by rw [← hn']]
 rw [lpk_succ]
 simp -implicitDefEqProofs only [b19_7,↓n1,↓n2,↓a1,↓a2,↓a3,↓a4,↓c4,↓st,↓evR]
 rw [lpk_succ]
 simp -implicitDefEqProofs only [b19_7,↓n3,↓evR]
theorem open_inits (hn : 1000000 < n) {cf : CF} {pm pc pf : Bid} {v0 v1 v2 : V} {h : Heap} (M : Mem h lo s pm pc pf v0 v1 v2) (hlo : lo ≤ h.nx.val) : ∃ h',lpk (b19_9 words n cf) n [.ptr s 0,mems pm,mems pm,ik 1,ik 0] h = .done .normal [mems pm] h'∧Up h h':=by
 obtain ⟨n',hn'⟩ : ∃ n',n = n' + 1 + 1:=⟨n - 2,by omega⟩
 obtain ⟨h5,h6,a1,a2,a3,a4,U,row6,lt6⟩:=member_at M hlo
 have M6:=M.old (U.old hlo)
 have c4 : ∀ q : V→Res,words.load1 h6 pc (Nat.add (Nat.add 0 4) 4) q = q .nils:=fun q=>load1k_law M6.rc rfl q
 have n1 : ilt (.ofNat 0) (.ofNat 1) = true:=ilt_true (by omega)
 have n2 : Nat.blt 0 1 = true:=rfl
 have n3 : ilt (.ofNat 1) (.ofNat 1) = false:=ilt_false (by omega)
 have n4 : ilt (.ofNat 0) (.ofNat 0) = false:=ilt_false (by omega)
 have n5 : ad (.ofNat 0) 1 = .ofNat 1:=ad_nat (a:=0) (b:=1) (by omega)
 refine ⟨h6,?_,U⟩
 have st : ∀ X : List V→Heap→Res,lpk (b19_8 words n cf X) n [.ptr s 0,mems pm,mems pm,I (.ofNat 1),I (.ofNat 0),.nils,ik 0,ik 0] h6 = X [.ptr s 0,mems pm,mems pm,I (.ofNat 1),I (.ofNat 1)] h6:=fun X=>by
  conv=>lhs; rw [show lpk (b19_8 words n cf X) n = lpk (b19_8 words n cf X) (n' + 1 + 1) by rw [← hn']]
  rw [lpk_succ]
  simp -implicitDefEqProofs only [b19_8,↓n4,↓n5,↓evR]
 conv=>lhs; rw [show lpk (b19_9 words n cf) n = lpk (b19_9 words n cf) (n' + 1 + 1) by rw [← hn']]
 rw [lpk_succ]
 simp -implicitDefEqProofs only [b19_9,↓n1,↓n2,↓a1,↓a2,↓a3,↓a4,↓c4,↓st,↓evR]
 rw [lpk_succ]
 simp -implicitDefEqProofs only [b19_9,↓n3,↓evR]
end
end Go.Ev.WCP

/- CompsPlain: open. -/
namespace Go.Ev.WCP
open Go.Proofs
set_option maxRecDepth 100000
section
variable {n d N lo : Nat} {s : Bid}
theorem loop19_11 {cf : CF} (hN : N ≤ lo) (l0 : List V→Heap→Res) {rows : List (List Tr)} (hr : ∀ r ∈ rows,IsR r) {v2 v3 : V} {x1 : Int} {x2 : Nat} (hx2 : x2 ≤ 1000000) (hrl : rows.length ≤ 1000000) :
 ∀ (j : Nat) {i q : Nat} {h : Heap} {v : V} {l : List (Nat × Nat)},i + j = rows.length→j < q→OwnT h lo 1 v (txs l)→lo ≤ h.nx.val→CellR h N (.sl 6 rows) v3→l.length + j ≤ 1000000 →
  ∃ h' v',lpk (b19_11 words n cf l0) q [v,v2,I x1,I (.ofNat x2),v3,I (.ofNat rows.length),I (.ofNat i)] h = l0 [v',v2,I x1,I (.ofNat (x2 + 1))] h'∧h.nx.val ≤ h'.nx.val∧∀ b : Bid,b.val < lo→h'.t.get b = h.t.get b:=by
 intro j
 induction j with
 | zero=>
   intro i q h v l hij hq W hlo w hl
   obtain ⟨q,rfl⟩ : ∃ q',q = q' + 1:=⟨q - 1,by omega⟩
   have n1 : ilt (.ofNat i) (.ofNat rows.length) = false:=ilt_false (by omega)
   have n2:=ad_nat (a:=x2) (b:=1) (by omega)
   refine ⟨h,v,?_,Nat.le_refl _,fun _ _=>rfl⟩
   rw [lpk_succ]
   simp -implicitDefEqProofs only [b19_11,↓n1,↓n2,↓evR]
 | succ j ih=>
   intro i q h v l hij hq W hlo w hl
   obtain ⟨q,rfl⟩ : ∃ q',q = q' + 1:=⟨q - 1,by omega⟩
   have hi : i < rows.length:=by omega
   obtain ⟨a,a',fs,x,y,z,p,hre,hf,hwt⟩:=isR_eq (hr _ (List.getElem_mem hi))
   have ha : a' < 256 ^ a:=w.txt hi (j:=0) (by rw [hre]; rfl)
   obtain ⟨b,o,c,vf,hv3,wf,l1,ld⟩:=relIn w hi hre
   obtain ⟨h5,h6,e5,e6,row6,U,lt6⟩:=new_store h (g:=6) (z:=[.str 0 0,.nils,.bool .false,.bool .false,.bool .false,ik 0]) (l:=[.str a a',vf,.bool x,.bool y,.bool z,.int .i64 p]) rfl rfl (by omega)
   have hnew : ∀ q,words.new h (.arr 6 1 (repT [.str 0 0,.nils,.bool .false,.bool .false,.bool .false,ik 0] 1 1) .false) q = q h.nx h5:=e5
   have hsto : ∀ q : Heap→Res,words.store h5 h.nx 0 6 [.str a a',vf,.bool x,.bool y,.bool z,.int .i64 p] q = q h6:=e6
   have a1 : ∀ q : List V→Res,words.load h b (Nat.add o (Nat.mul i 6)) 6 q = q [.str a a',vf,.bool x,.bool y,.bool z,.int .i64 p]:=ld
   have c0 : ∀ q : V→Res,words.load1 h6 h.nx 0 q = q (.str a a'):=fun q=>load1k_law row6 rfl q
   obtain ⟨h7,f7',row7,U7,lt7⟩:=new_row h6 (g:=1) (l:=[.str a a']) rfl (by omega)
   have f8' : ∀ q,words.new h6 (.arr 1 1 (.lf [.str a a']) .false) q = q h6.nx h7:=f7'
   have r1 : ∀ q,words.row 1 1 [.str a a'] q = q (.lf [.str a a']):=fun q=>row_one (g:=1) (l:=[.str a a']) rfl q
   have U67:=U.trans U7
   obtain ⟨h8,v8,e8,W8,U8,nx8,m,rfl⟩:=app_one (g:=1) (r:=[.s a a']) (W.up U67) (by omega) row7 rfl rfl (Nat.le_trans hlo U67.nx) (.cons (.s _ _ ha) .nil) (by simp; omega)
   have W8' : OwnT h8 lo 1 (.slice h7.nx 0 m none 1) (txs (l ++ [(a,a')])):=by simpa [txs] using W8
   have fr : ∀ b : Bid,b.val < lo→h8.t.get b = h.t.get b:=fun b hb=>(U8.get b (by have:=U67.nx; omega) (W.low (.inl hb))).trans (U67.get b (by omega))
   have hnx : h.nx.val ≤ h8.nx.val:=by have:=U67.nx; omega
   have n1:=ilt_true hi
   have n2 : Nat.blt i rows.length = true:=blt_of hi
   have n3:=ad_nat (a:=i) (b:=1) (by omega)
   have step : lpk (b19_11 words n cf l0) (q + 1) [v,v2,I x1,I (.ofNat x2),v3,I (.ofNat rows.length),I (.ofNat i)] h = lpk (b19_11 words n cf l0) q [.slice h7.nx 0 m none 1,v2,I x1,I (.ofNat x2),v3,I (.ofNat rows.length),I (.ofNat (i + 1))] h8:=by
    subst hv3
    rw [lpk_succ]
    simp -implicitDefEqProofs only [b19_11,↓n1,↓n2,↓a1,↓hnew,↓hsto,↓c0,↓r1,↓f8',↓e8,↓n3,↓evR]
   obtain ⟨h',v',k1,k2,k3⟩:=ih (i:=i + 1) (q:=q) (h:=h8) (by omega) (by omega) W8' (by omega) (w.up (Nat.le_refl _) fun b hb=>fr b (by omega)) (by simp; omega)
   exact ⟨h',v',by rw [step]; exact k1,by omega,fun b hb=>(k3 b hb).trans (fr b hb)⟩
theorem open_overs (hn : 1000000 < n) {cf : CF} (hN : N ≤ s.val) (hs : s.val < lo) {rs : List (List Tr)} (hr : ∀ r ∈ rs,IsR r) (hrl : rs.length ≤ 1000000) {pm pc pf : Bid} {v0 v1 v2 : V} {h : Heap} (M : Mem h lo s pm pc pf v0 v1 v2) (hlo : lo ≤ h.nx.val) (w : CellR h N (.sl 6 rs) v1) :
 ∃ h',lpk (b19_12 words n cf) n [.nils,mems pm,ik 1,ik 0] h = .ret (.tup []) h'∧Up h h':=by
 obtain ⟨n',hn'⟩ : ∃ n',n = n' + 1 + 1:=⟨n - 2,by omega⟩
 obtain ⟨h5,h6,a1,a2,a3,a4,U,row6,lt6⟩:=member_at M hlo
 have M6:=M.old (U.old hlo)
 have w6:=w.old (U.old hlo) hN hs
 have c4 : ∀ q : V→Res,words.load1 h6 pc (Nat.add (Nat.add 0 4) 5) q = q .nils:=fun q=>load1k_law M6.rc rfl q
 have c1 : ∀ q : V→Res,words.load1 h6 pc (Nat.add (Nat.add 0 4) 1) q = q v1:=fun q=>load1k_law M6.rc rfl q
 have n1 : ilt (.ofNat 0) (.ofNat 1) = true:=ilt_true (by omega)
 have n2 : Nat.blt 0 1 = true:=rfl
 have n3 : ilt (.ofNat 1) (.ofNat 1) = false:=ilt_false (by omega)
 have n4 : ilt (.ofNat 0) (.ofNat 0) = false:=ilt_false (by omega)
 have st : lpk (b19_10 words n cf) n [.nils,.ptr h.nx 0,mems pm,I (.ofNat 1),I (.ofNat 0),.nils,ik 0,ik 0] h6 = .done .normal [.nils,.ptr h.nx 0,mems pm,I (.ofNat 1),I (.ofNat 0)] h6:=by
  conv=>lhs; rw [show lpk (b19_10 words n cf) n = lpk (b19_10 words n cf) (n' + 1 + 1) by rw [← hn']]
  rw [lpk_succ]
  simp -implicitDefEqProofs only [b19_10,↓n4,↓evR]
 have step : lpk (b19_12 words n cf) n [.nils,mems pm,ik 1,ik 0] h = lpk (b19_11 words n cf (lpk (b19_12 words n cf) (n' + 1))) n [.nils,mems pm,I (.ofNat 1),I (.ofNat 0),v1,I (.ofNat rs.length),I (.ofNat 0)] h6:=by
  conv=>lhs; rw [show lpk (b19_12 words n cf) n = lpk (b19_12 words n cf) (n' + 1 + 1) by rw [← hn']]
  rw [lpk_succ]
  simp -implicitDefEqProofs only [b19_12,↓n1,↓n2,↓a1,↓a2,↓a3,↓a4,↓c4,↓st,↓c1,↓w6.lenk,↓evR]
 obtain ⟨h',v',k1,k2,k3⟩:=loop19_11 (n:=n) (cf:=cf) (lo:=h6.nx.val) (N:=N) (by have:=U.nx; omega) (lpk (b19_12 words n cf) (n' + 1)) hr (v2:=mems pm) (v3:=v1) (x1:=.ofNat 1) (x2:=0) (by omega) hrl rs.length (i:=0) (q:=n) (h:=h6) (v:=.nils) (l:=[]) (by omega) (by omega) .nils (Nat.le_refl _) w6 (by simp; omega)
 refine ⟨h',?_,U.trans ⟨k2,k3⟩⟩
 rw [step,k1,lpk_succ]
 have n5 : ilt (.ofNat (0 + 1)) (.ofNat 1) = false:=n3
 simp -implicitDefEqProofs only [b19_12,↓n5,↓evR]
def goodU (ts rs : List (List Tr)) : Bool:=okTx [] (ts.map txt1) && okTx [] ((ts.flatMap cases4).map txt0) && okTx [] (rs.map txt0)
theorem open_law (hd : 8 < d) (hn : 1000000 < n) (hN : N ≤ s.val) {ts rs : List (List Tr)} (ht : ∀ r ∈ ts,IsT r) (hr : ∀ r ∈ rs,IsR r) {pm pc pf : Bid} {v0 v1 v2 : V} {h : Heap} (S : Sc h lo s .nils .nils .nils [] [] []) (M : Mem h lo s pm pc pf v0 v1 v2) (w0 : CellR h N (.sl 6 ts) v0) (w1 : CellR h N (.sl 6 rs) v1)
 (hl : ts.length ≤ 1000000) (hl2 : (ts.flatMap cases4).length ≤ 1000000) (hl3 : rs.length ≤ 1000000) :
 (goodU ts rs = true∧∃ h' vt vb vr,call tabW n d f19 [.ptr s 0,mems pm] h = .ret (.tup []) h'∧Sc h' lo s vt vb vr (ts.map txt1) ((ts.flatMap cases4).map txt0) (rs.map txt0)∧Old lo s h h') ∨
   (goodU ts rs = false∧∃ h' a e,(e = 150 ∨ e = 170)∧call tabW n d f19 [.ptr s 0,mems pm] h = .pan (fault a e) h'∧Old lo s h h'):=by
 obtain ⟨d,rfl⟩ : ∃ d',d = d' + 1:=⟨d - 1,by omega⟩
 rcases open_types (n:=n) (d:=d) (by omega) hn hN ht S M w0 (by simp; omega) (by rw [List.length_nil,Nat.zero_add]; exact hl2) with ⟨k1,h1,vt,vb,e1,S1,O1⟩ | ⟨k1,h1,a,e,he,e1,O1⟩
 · rcases open_rels (n:=n) (d:=d) (by omega) hn hN hr S1 (M.old O1) (w1.old O1 hN S.low) (by simp; omega) with ⟨k2,h2,vr,e2,S2,O2⟩ | ⟨k2,h2,a,e,he,e2,O2⟩
   · have O12:=O1.trans O2
     obtain ⟨h3,e3,U3⟩:=open_comps (n:=n) hn (cf:=call tabW n d) (M.old O12) S2.nx
     have O3:=O12.trans (U3.old S2.nx)
     have S3:=S2.up U3
     obtain ⟨h4,e4,U4⟩:=open_inits (n:=n) hn (cf:=call tabW n d) (M.old O3) S3.nx
     have O4:=O3.trans (U4.old S3.nx)
     have S4:=S3.up U4
     obtain ⟨h5,e5,U5⟩:=open_overs (n:=n) hn (cf:=call tabW n d) hN S4.low hr hl3 (M.old O4) S4.nx (w1.old O4 hN S.low)
     refine .inl ⟨by unfold goodU; rw [k1,k2]; rfl,h5,vt,vb,vr,?_,by simpa using S4.up U5,O4.trans (U5.old S4.nx)⟩
     rw [call19,sh19]
     simp -implicitDefEqProofs only [↓e1,↓e2,↓e3,↓e4,↓e5,↓evR]
   · refine .inr ⟨by unfold goodU; rw [k2]; simp,h2,a,e,he,?_,O1.trans O2⟩
     rw [call19,sh19]
     simp -implicitDefEqProofs only [↓e1,↓e2,↓evR]
 · refine .inr ⟨by unfold goodU; rw [k1]; rfl,h1,a,e,he,?_,O1⟩
   rw [call19,sh19]
   simp -implicitDefEqProofs only [↓e1,↓evR]
end
end Go.Ev.WCP

/- CompsPlain: a name's meaning is the name. -/
namespace Go.Ev.WCP
open Go.Proofs
set_option maxRecDepth 100000
theorem cv49 (cf : CF) (caps : List V) (x : V) (h : Heap) : callv cf (.func 49 caps) [x] h = cf f49 (x :: caps) h:=rfl
theorem pnk_ptr (b : Bid) (o : Nat) (k : Bool→Res) : pnk (.ptr b o) k = k false:=rfl
theorem pnk_nil (k : Bool→Res) : pnk .nilp k = k true:=rfl
theorem cat_nil (a a' : Nat) : V.str (Nat.add 0 a) (Nat.add 0 (Nat.mul a' (Nat.pow 2 (Nat.mul 8 0)))) = .str a a':=by
 show V.str (0 + a) (0 + a' * 2 ^ (8 * 0)) = _
 simp
section
variable {n d N lo : Nat} {s : Bid}
theorem meaning1 (hd : 3 < d) (hn : 1000000 < n) {h : Heap} {pf p0 p1 p2 p3 p4 : Bid} {k a a' c c' : Nat} {t : Bool} {vk : V} {l : List (Nat × Nat)} {A : Nat→Prop} {ls : List V} (rf : Row (h.t.get pf) 4 [.nils,.nils,.ptr s 0,.nilp]) (rs : Row (h.t.get s) 6 ls) (rs0 : ls[0]? = some (.str 0 0)) (rs4 : ls[4]? = some .nils)
 (rsk : ls[0 + 1 + k]? = some vk) (wk : CellA h A (.sl 1 (txs l)) vk) (hk : k < 3) (hl : l.length ≤ 1000000) (r0 : Row (h.t.get p0) 1 [I (.ofNat k)]) (r1 : Row (h.t.get p1) 1 [.str a a']) (r2 : Row (h.t.get p2) 1 [.str a a']) (r3 : Row (h.t.get p3) 1 [.str c c']) (r4 : Row (h.t.get p4) 1 [.bool t]) (ha : a ≤ 1000000) :
 ∃ b h',call tabW n d f49 [.ptr pf 0,.ptr p1 0,.ptr p0 0,.ptr p2 0,.ptr p4 0,.ptr p3 0] h = .ret (.bool b) h'∧But h p2 h'∧Row (h'.t.get p2) 1 [.str a a']:=by
 obtain ⟨d,rfl⟩ : ∃ d',d = d' + 1:=⟨d - 1,by omega⟩
 have a0 : ∀ q : V→Res,words.load1 h pf 0 q = q .nils:=fun q=>load1k_law rf rfl q
 have a2 : ∀ q : V→Res,words.load1 h pf (Nat.add 0 2) q = q (.ptr s 0):=fun q=>load1k_law rf rfl q
 have c0 : ∀ q : V→Res,words.load1 h p0 0 q = q (I (.ofNat k)):=fun q=>load1k_law r0 rfl q
 have c1 : ∀ q : V→Res,words.load1 h p1 0 q = q (.str a a'):=fun q=>load1k_law r1 rfl q
 have c3 : ∀ q : V→Res,words.load1 h p3 0 q = q (.str c c'):=fun q=>load1k_law r3 rfl q
 have c4 : ∀ q : V→Res,words.load1 h p4 0 q = q (.bool t):=fun q=>load1k_law r4 rfl q
 have s0 : ∀ q : V→Res,words.load1 h s 0 q = q (.str 0 0):=fun q=>load1k_law rs rs0 q
 have s4 : ∀ q : V→Res,words.load1 h s (Nat.add 0 4) q = q .nils:=fun q=>load1k_law rs rs4 q
 have sk : ∀ q : V→Res,words.load1 h s (Nat.add (Nat.add 0 1) k) q = q vk:=fun q=>load1k_law rs rsk q
 obtain ⟨r,e1,⟨_,rfl⟩ | ⟨h0,_⟩⟩:=index_law (n:=n) (d:=d) (l:=[]) (by omega) (show CellA h A (.sl 1 (txs [])) .nils from .nils 1) (a:=a) (a':=a') (by simp) (by simp; omega)
 rotate_left
 · simp at h0
 have e2:=contains_law (n:=n) (d:=d) (by omega) wk (a:=a) (a':=a') (by omega) (by omega)
 have e3 : call tabW n d f29 [.nils,.str c c'] h = .ret (.bool false) h:=contains_law (n:=n) (d:=d) (l:=[]) (by omega) (show CellA h A (.sl 1 (txs [])) .nils from .nils 1) (a:=c) (a':=c') (by simp) (by simp; omega)
 have n1 : ilt (.negSucc 0) (.ofNat 0) = true:=rfl
 have n2 : Nat.blt k 3 = true:=blt_of hk
 have sh0 : ∀ x,short 0 x = x:=fun x=>short_le (by omega) x
 have sha : ∀ x,short a x = x:=fun x=>short_le (by omega) x
 have k3 : Nat.beq (kno .i64) 3 = true:=rfl
 obtain ⟨h',e4,r2',u2⟩:=storek_law (o:=0) (n:=1) (vs:=[.str a a']) r2 rfl (by simp)
 have e4' : ∀ q : Heap→Res,words.store h p2 0 1 [.str a a'] q = q h':=e4
 have r2'' : Row (h'.t.get p2) 1 [.str a a']:=row_ext r2' rfl
 have hcat:=cat_nil a a'
 cases hb : l.contains (a,a') with
 | true=>
   rw [hb] at e2
   refine ⟨true,h',?_,u2,r2''⟩
   cases h0 : ieq (.ofNat k) (.ofNat 0) <;>
   · rw [call49]
     simp -implicitDefEqProofs only [sh49,↓a0,↓c1,↓e1,↓c0,↓h0,↓n1,↓k3,↓a2,↓n2,↓sk,↓e2,↓s0,↓sh0,↓sha,↓hcat,↓e4',↓evR]
 | false=>
   rw [hb] at e2
   refine ⟨false,h,?_,⟨rfl,fun _ _=>rfl⟩,r2⟩
   cases h0 : ieq (.ofNat k) (.ofNat 0) <;> cases t <;>
   · rw [call49]
     simp -implicitDefEqProofs only [sh49,↓a0,↓c1,↓e1,↓c0,↓h0,↓n1,↓k3,↓a2,↓n2,↓sk,↓e2,↓c4,↓s4,↓c3,↓e3,↓evR]
theorem meaning_law (hd : 6 < d) (hn : 1000000 < n) {h : Heap} {pf : Bid} {k a a' : Nat} {vk : V} {l : List (Nat × Nat)} {A : Nat→Prop} {ls : List V} (rf : Row (h.t.get pf) 4 [.nils,.nils,.ptr s 0,.nilp]) (hpf : pf.val < h.nx.val) (rs : Row (h.t.get s) 6 ls) (hs : s.val < h.nx.val)
 (rs0 : ls[0]? = some (.str 0 0)) (rs4 : ls[4]? = some .nils) (rsk : ls[0 + 1 + k]? = some vk) (wk : CellA h A (.sl 1 (txs l)) vk) (hA : ∀ x,A x→x < h.nx.val) (hk : k < 3) (hl : l.length ≤ 1000000) (ha : a ≤ 1000000) :
 ∃ h',call tabW n d f30 [.ptr pf 0,I (.ofNat k),.str a a'] h = .ret (.str a a') h'∧Up h h':=by
 obtain ⟨d,rfl⟩ : ∃ d',d = d' + 1 + 1:=⟨d - 2,by omega⟩
 obtain ⟨h0,e0,r0,U0,t0⟩:=new_row h (g:=1) (l:=[I (.ofNat k)]) rfl (by omega)
 obtain ⟨h1,e1,r1,U1,t1⟩:=new_row h0 (g:=1) (l:=[.str a a']) rfl (by omega)
 obtain ⟨h2,h3,e2,e3,r2,U2,t2⟩:=new_store h1 (g:=1) (z:=[.str 0 0]) (l:=[.str a a']) rfl rfl (by omega)
 obtain ⟨x,x',y,y',t,ec⟩:=cut_law (n:=n) (d:=d + 1) (by omega) h3 a a' (by omega)
 have z1 : repT [V.str 0 0] 1 1 = .lf [.str 0 0]:=by rw [repT_eq]; rfl
 have z2' : repT [V.bool .false] 1 1 = .lf [.bool .false]:=by rw [repT_eq]; rfl
 obtain ⟨h5,e5,r5,U5,t5⟩:=new_row h3 (g:=1) (l:=[.str 0 0]) rfl (by omega)
 obtain ⟨h6,e6,r6,U6,t6⟩:=new_row h5 (g:=1) (l:=[.bool .false]) rfl (by omega)
 have r56:=r5.later t5 U6
 obtain ⟨h7,e7,r7,u7⟩:=storek_law (o:=0) (n:=1) (vs:=[.str x x']) r56 rfl (by simp)
 have ne65 : h5.nx ≠ h3.nx:=bid_ne (by omega)
 have r67 : Row (h7.t.get h5.nx) 1 [.bool .false]:=by rw [u7.get _ ne65]; exact r6
 obtain ⟨h8,e8,r8,u8⟩:=storek_law (o:=0) (n:=1) (vs:=[.bool t]) r67 rfl (by simp)
 have r78 : Row (h8.t.get h3.nx) 1 [.str x x']:=by rw [u8.get _ (Ne.symm ne65)]; exact row_ext r7 rfl
 have r88 : Row (h8.t.get h5.nx) 1 [.bool t]:=row_ext r8 rfl
 have U38 : Up h3 h8:=⟨by rw [u8.nx,u7.nx]; exact (U5.trans U6).nx,fun b hb=>by
  rw [u8.get b (bid_ne (by have:=U5.nx; omega)),u7.get b (bid_ne (by omega))]
  exact (U5.trans U6).get b hb⟩
 have U01:=U0.trans U1
 have U03:=U01.trans U2
 have U08:=U03.trans U38
 have t03 : h.nx.val < h3.nx.val:=by have:=U1.nx; have:=U2.nx; omega
 have t13 : h0.nx.val < h3.nx.val:=by have:=U2.nx; omega
 have q0 : Row (h8.t.get h.nx) 1 [I (.ofNat k)]:=((r0.later t0 (U1.trans U2)).later t03 U38)
 have q1 : Row (h8.t.get h0.nx) 1 [.str a a']:=((r1.later t1 U2).later t13 U38)
 have q2 : Row (h8.t.get h1.nx) 1 [.str a a']:=r2.later t2 U38
 obtain ⟨b,h9,e9,u9,q9⟩:=meaning1 (n:=n) (d:=d) (by omega) hn (rf.later hpf U08) (rs.later hs U08) rs0 rs4 rsk (wk.mv (fun _ hx=>hx) fun b hb=>U08.get b (hA _ hb)) hk hl q0 q1 q2 r78 r88 ha
 have U89 : Up h h9:=⟨by rw [u9.nx]; exact U08.nx,fun b hb=>(u9.get b (bid_ne (by have:=U0.nx; have:=U1.nx; omega))).trans (U08.get b hb)⟩
 have ne2 : pf ≠ h1.nx:=bid_ne (by have:=U0.nx; have:=U1.nx; omega)
 have rf9 : Row (h9.t.get pf) 4 [.nils,.nils,.ptr s 0,.nilp]:=by rw [u9.get pf ne2]; exact rf.later hpf U08
 have c3 : ∀ q : V→Res,words.load1 h9 pf (Nat.add 0 3) q = q .nilp:=fun q=>load1k_law rf9 rfl q
 have ar : call tabW n (d + 1) f48 [.ptr pf 0,.func 49 [.ptr h0.nx 0,.ptr h.nx 0,.ptr h1.nx 0,.ptr h5.nx 0,.ptr h3.nx 0]] h8 = .ret (.tup []) h9:=by
  obtain ⟨n',hn'⟩ : ∃ n',n = n' + 1 + 1:=⟨n - 2,by omega⟩
  rw [call48,sh48]
  have hl : ∀ vs h,lpk (b48_1 words n (call tabW n d)) n vs h = b48_1 words n (call tabW n d) (lpk (b48_1 words n (call tabW n d)) (n' + 1)) vs h:=fun vs h=>by
   conv=>lhs; rw [show lpk (b48_1 words n (call tabW n d)) n = lpk (b48_1 words n (call tabW n d)) (n' + 1 + 1) by rw [← hn']]
   rfl
  cases b with
  | true=>simp -implicitDefEqProofs only [↓hl,b48_1,↓pnk_ptr,↓cv49,↓e9,↓evR]
  | false=>
    simp -implicitDefEqProofs only [↓hl,b48_1,↓pnk_ptr,↓cv49,↓e9,↓c3,↓evR]
    rw [lpk_succ]
    simp -implicitDefEqProofs only [b48_1,↓pnk_nil,↓evR]
 have d0 : ∀ q,words.new h (.arr 1 1 (.lf [I (.ofNat k)]) .false) q = q h.nx h0:=e0
 have d1 : ∀ q,words.new h0 (.arr 1 1 (.lf [.str a a']) .false) q = q h0.nx h1:=e1
 have d2 : ∀ q,words.new h1 (.arr 1 1 (repT [.str 0 0] 1 1) .false) q = q h1.nx h2:=e2
 have d3 : ∀ q : Heap→Res,words.store h2 h1.nx 0 1 [.str a a'] q = q h3:=e3
 have d5 : ∀ q,words.new h3 (.arr 1 1 (repT [.str 0 0] 1 1) .false) q = q h3.nx h5:=fun q=>by rw [z1]; exact e5 q
 have d6 : ∀ q,words.new h5 (.arr 1 1 (repT [.bool .false] 1 1) .false) q = q h5.nx h6:=fun q=>by rw [z2']; exact e6 q
 have d7 : ∀ q : Heap→Res,words.store h6 h3.nx 0 1 [.str x x'] q = q h7:=e7
 have d8 : ∀ q : Heap→Res,words.store h7 h5.nx 0 1 [.bool t] q = q h8:=e8
 have c1 : ∀ q : V→Res,words.load1 h1 h0.nx 0 q = q (.str a a'):=fun q=>load1k_law r1 rfl q
 have c1' : ∀ q : V→Res,words.load1 h3 h0.nx 0 q = q (.str a a'):=fun q=>load1k_law (r1.later t1 U2) rfl q
 have c9 : ∀ q : V→Res,words.load1 h9 h1.nx 0 q = q (.str a a'):=fun q=>load1k_law q9 rfl q
 refine ⟨h9,?_,U89⟩
 rw [call30]
 simp -implicitDefEqProofs only [sh30,↓d0,↓d1,↓c1,↓d2,↓d3,↓c1',↓ec,↓d5,↓d6,↓d7,↓d8,↓ar,↓c9,↓evR]
end
end Go.Ev.WCP
