/- IbJ: texts joined. -/
import Derived.Test.YtcglhljoepefaaaIbG
/- InternBack: records and terms. -/
namespace Go.Ev.WIB
open Go.Proofs
set_option maxRecDepth 100000
theorem sMM_max (a b : Nat) (h : Heap) (k : V→Heap→Res) : sMM true (.int .i64 (.ofNat a)) (.int .i64 (.ofNat b)) h k = k (.int .i64 (.ofNat (max a b))) h:=by
 show ifk (Nat.beq (kno .i64) (kno .i64)) (ifk (ilt (.ofNat a) (.ofNat b)) (k (.int .i64 (.ofNat b)) h) (k (.int .i64 (.ofNat a)) h)) .fail = _
 rw [kno_refl,ifk_true,ilt_nat,ifk_eq]
 by_cases hab : a < b
 · rw [if_pos (by simpa using hab),Nat.max_eq_right (by omega)]
 · rw [if_neg (by simpa using hab),Nat.max_eq_left (by omega)]
def putP (sh : List Sh) (L : List Th) (t : Th) : Nat × List Th:=
 match (mapL sh L).find? (fun x=>x.1 = keyB t) with
 | some x=>(x.2,L)
 | none=>(cnt L t.shape + fst0 sh t.shape,L ++ [t])
theorem fst0_le (sh : List Sh) (s : Nat) : fst0 sh s ≤ 1:=by unfold fst0; split <;> omega
theorem mapF_le (sh : List Sh) : ∀ (pre L : List Th),∀ x ∈ mapF sh pre L,x.2 ≤ pre.length + L.length + 1
 | pre,[],x,h=>by simp [mapF] at h
 | pre,t :: L,x,h=>by
   rw [mapF] at h
   rcases List.mem_cons.1 h with rfl | h
   · have : cnt pre t.shape ≤ pre.length:=idxs_le pre t.shape
     have:=fst0_le sh t.shape
     show cnt pre t.shape + _ ≤ _
     simp only [List.length_cons]
     omega
   · have:=mapF_le sh (pre ++ [t]) L x h
     simp only [List.length_append,List.length_cons,List.length_nil] at this ⊢
     omega
section
variable {h : Heap} {p bo bm : Bid} {c : Option Nat} {va vs : V} {cells pv : List V} {sh : List Sh} {L : List Th} {M : List (List Nat × Nat)} {S X : Nat→Prop} {n d : Nat}
theorem TabR.xs (w : TabR h p sh L S X) {x : Nat} (hx : X x) : x < h.nx.val∧¬ S x:=by
 obtain ⟨_,_,_,_,_,_,_,wx⟩:=w
 exact wx.xs x hx
theorem put_law (w : TabR h p sh L S X) {t : Th} {v : V} (ok : ThOk t) (hn : 1000 ≤ n) (hn2 : t.parts.length < n) (hs : t.shape < sh.length) (hL : L.length < 1000000) (wv : CellA h (Still h (SX S X)) (.sl 1 (t.parts.map wT)) v) :
 ∃ h' S',call tabW n (d + 1 + 1 + 1) f42 [.ptr p 0,.agg 5 (thC t v)] h = .ret (.tup [.int .u64 (.ofNat (putP sh L t).1),ik 0]) h'∧TabR h' p sh (putP sh L t).2 S' X∧Chg S h h'∧∀ x,S' x→S x ∨ h.nx.val ≤ x:=by
 unfold putP
 cases hf : (mapL sh L).find? (fun x=>x.1 = keyB t) with
 | some x=>
   have h1:=List.mem_of_find?_eq_some hf
   have h2 : x.1 = keyB t:=by have:=List.find?_some hf; simpa using this
   have h3:=mapF_le sh [] L x h1
   simp only [List.length_nil] at h3
   obtain ⟨h',e,U⟩:=put_there (d:=d) w ok hn hn2 wv (k:=x.2) (by rw [← h2]; exact h1) (by omega)
   exact ⟨h',S,e,w.up U,U.chg,fun x hx=>.inl hx⟩
 | none=>
   obtain ⟨h',S',e,w',C,sS⟩:=put_new (d:=d) w ok hn hn2 hs hL wv fun x hx e=>by
    have:=List.find?_eq_none.1 hf x hx
    simp [e] at this
   exact ⟨h',S',e,w',C,sS⟩
def digN : Nat→Nat→List Nat
 | 0,_=>[]
 | l + 1,t=>t % 256 :: digN l (t / 256)
theorem digN_ok : ∀ (l t : Nat),t < 256 ^ l→Bytes (digN l t)∧(digN l t).length = l∧packN (digN l t) = t
 | 0,t,h=>⟨.nil,rfl,by simp at h; subst h; rfl⟩
 | l + 1,t,h=>by
   obtain ⟨h1,h2,h3⟩:=digN_ok l (t / 256) (by rw [Nat.pow_succ] at h; omega)
   exact ⟨.cons (by omega) h1,by rw [digN,List.length_cons,h2],by rw [digN,packN,h3]; omega⟩
theorem sV_dig {l t : Nat} (h : t < 256 ^ l) : sV (digN l t) = .str l t:=by
 obtain ⟨_,h2,h3⟩:=digN_ok l t h
 rw [sV,h2,h3]
theorem sym_law (w : TabR h p sh L S X) (ok : ShsOk sh) (hn : 1000 ≤ n) (hL : L.length < 1000000) {l t : Nat} (ht : t < 256 ^ l) (hl : l ≤ 65536) :
 ∃ h' S',call tabW n (d + 1 + 1 + 1 + 1) f44 [.ptr p 0,.str l t] h = .ret (.tup [.int .u64 (.ofNat (putP sh L (symT (digN l t))).1),ik 0]) h'∧TabR h' p sh (putP sh L (symT (digN l t))).2 S' X∧Chg S h h'∧∀ x,S' x→S x ∨ h.nx.val ≤ x:=by
 obtain ⟨b1,b2,b3⟩:=digN_ok l t ht
 obtain ⟨h',S',e,r⟩:=put_law (n:=n) (d:=d) (v:=.nils) w (symT_ok b1 (by omega)) hn (by simp [symT]; omega) (show 1 < sh.length by have:=ok.len; omega) hL (.nils 1)
 refine ⟨h',S',?_,r⟩
 have n1 : ilt (.ofNat 65536) (.ofNat l) = false:=ilt_false (by omega)
 have pn : ∀ q : Bool→Res,pnk (.ptr p 0) q = q false:=fun q=>rfl
 have e' : call tabW n (d + 1 + 1 + 1) f42 [.ptr p 0,.agg 5 [.int .i64 (.ofNat 1),.int .i64 (.ofNat 0),.str l t,.nils,.int .i64 (.ofNat 0)]] h = .ret (.tup [.int .u64 (.ofNat (putP sh L (symT (digN l t))).1),ik 0]) h':=by
  rw [← sV_dig ht]; exact e
 rw [call44]
 simp -implicitDefEqProofs only [sh44,↓pn,↓n1,↓e',↓evR]
def deepF (sh : List Sh) (L : List Th) : Nat→List Nat→List Nat→Nat
 | D,a :: as',x :: xs=>deepF sh L (max D ((isW sh L a x).getD 0 + 1)) as' xs
 | D,_,_=>D
def makeP (sh : List Sh) (L : List Th) (s b : Nat) (want ws : List Nat) : Option Nat × List Th:=
 if 100 < deepF sh L 1 want ws then (none,L) else (some (putP sh L ⟨s,b,[],ws,deepF sh L 1 want ws⟩).1,(putP sh L ⟨s,b,[],ws,deepF sh L 1 want ws⟩).2)
theorem make_loop {hs : Heap} (w : TabR hs p sh L S X) (ok : ShsOk sh) {want ws : List Nat} {vw vp v12 : V} {px : Bid} {s b : Nat} (hpx : hs.nx.val ≤ px.val) (hL : L.length ≤ 1000000) (hdeep : ∀ t ∈ L,t.deep ≤ 100)
 (ww : CellA hs (Still hs S) (.sl 1 (want.map iT)) vw) (wp : CellA hs (Still hs S) (.sl 1 (ws.map wT)) vp) (hl : ws.length = want.length) (hl2 : ws.length ≤ 12) (hws : ∀ x ∈ ws,x < 18446744073709551616) (hwk : ∀ a ∈ want,a < sh.length)
 (hv : ∀ (i a x : Nat),want[i]? = some a→ws[i]? = some x→(isW sh L a x).isSome) :
 ∀ (j : Nat) {i q D : Nat} {h : Heap},i + j = ws.length→j < q→Up hs h→px.val < h.nx.val→Row (h.t.get px) 5 [I (.ofNat s),I (.ofNat b),.str 0 0,v12,I (.ofNat D)] →
  ∃ h',lpk (b19_1 words n (call tabW n (d + 1 + 1 + 1))) q [.ptr p 0,vw,.ptr px 0,vp,I (.ofNat ws.length),I (.ofNat i)] h = .done .normal [.ptr p 0,.und,.und,.ptr px 0] h'∧Up hs h'∧px.val < h'.nx.val ∧
   Row (h'.t.get px) 5 [I (.ofNat s),I (.ofNat b),.str 0 0,v12,I (.ofNat (deepF sh L D (want.drop i) (ws.drop i)))]
 | j,i,0,_,_,_,h0,_,_,_=>absurd h0 (Nat.not_lt_zero _)
 | 0,i,q + 1,D,h,hi,_,U,lx,r=>by
   have n1 : ilt (.ofNat i) (.ofNat ws.length) = false:=ilt_false (by omega)
   refine ⟨h,?_,U,lx,?_⟩
   · rw [lpk_succ]
     simp -implicitDefEqProofs only [b19_1,↓n1,↓evR]
   · rw [List.drop_eq_nil_of_le (by omega),List.drop_eq_nil_of_le (by omega)]
     exact r
 | j + 1,i,q + 1,D,h,hi,hq,U,lx,r=>by
   have hik : i < ws.length:=by omega
   have hiw : i < want.length:=by omega
   have lt : ∀ x,S x→x < hs.nx.val:=fun x hx=>w.lts hx
   obtain ⟨b1,o1,m1,e1,a1⟩:=word_at (wp.stay U lt) hik
   obtain ⟨b2,o2,m2,e2,a2⟩:=want_at (ww.stay U lt) hiw
   obtain ⟨bo,bm,c,va,vs,cells,pv,wx⟩:=w.up U
   have hwl:=hwk _ (List.getElem_mem hiw)
   have ei:=wx.is (n:=n) (d:=d) (s:=want[i]) (k:=ws[i]) (ok.kind hwl) (hws _ (List.getElem_mem hik)) (by omega)
   have hsome:=hv i want[i] ws[i] (List.getElem?_eq_getElem hiw) (List.getElem?_eq_getElem hik)
   rw [hsome] at ei
   have n1:=ilt_true hik
   have n2 : Nat.blt i ws.length = true:=blt_of hik
   have n2' : Nat.blt i want.length = true:=blt_of hiw
   have n3:=ad_nat (a:=i) (b:=1) (by omega)
   obtain ⟨dd,hdd⟩ : ∃ dd,(isW sh L want[i] ws[i]).getD 0 = dd:=⟨_,rfl⟩
   have hdd100 : dd ≤ 100:=by
    rw [← hdd]
    unfold isW
    split
    · simp
    · split
      · simp
      · split
        · rename_i jj hjj
          cases hL' : L[jj]? with
          | none=>simp
          | some t=>simpa using hdeep t (List.mem_of_getElem? hL')
        · simp
   have n4:=ad_nat (a:=dd) (b:=1) (by omega)
   have c4 : ∀ q : V→Res,words.load1 h px 4 q = q (I (.ofNat D)):=fun q=>load1k_law r rfl q
   obtain ⟨h1,e3,r1,B1⟩:=storek_law (o:=4) (n:=1) (vs:=[I (.ofNat (max D (dd + 1)))]) r rfl (by simp)
   have e3' : ∀ q,words.store h px (Nat.add 0 4) 1 [I (.ofNat (max D (dd + 1)))] q = q h1:=e3
   have U1 : Up hs h1:=⟨by rw [B1.nx]; exact U.nx,fun b' hb=>by rw [B1.get b' (by rintro rfl; omega)]; exact U.get b' hb⟩
   have mm:=fun (q : V→Heap→Res)=>sMM_max D (dd + 1) h q
   obtain ⟨h2,e4,U2,lx2,r2⟩:=make_loop w ok hpx hL hdeep ww wp hl hl2 hws hwk hv j (i:=i + 1) (q:=q) (D:=max D (dd + 1)) (h:=h1) (by omega) (by omega) U1 (by rw [B1.nx]; exact lx) r1
   rw [hdd] at ei
   refine ⟨h2,?_,U2,lx2,?_⟩
   · rw [lpk_succ]
     subst e1; subst e2
     simp -implicitDefEqProofs only [b19_1,↓n1,↓n2,↓n2',↓a1,↓a2,↓ei,↓c4,↓n4,↓mm,↓e3',↓n3,↓e4,↓evR]
   · rw [List.drop_eq_getElem_cons hiw,List.drop_eq_getElem_cons hik,deepF,hdd]
     exact r2
theorem make_law (w : TabR h p sh L S X) (ok : ShsOk sh) (hn : 1000 ≤ n) (hL : L.length < 1000000) (hdeep : ∀ t ∈ L,t.deep ≤ 100) {s b : Nat} {want ws : List Nat} {vp : V} (hw : wantOf sh s (.ofNat b) = some want) (wp : CellA h (Still h S) (.sl 1 (ws.map wT)) vp) (hl : ws.length = want.length)
 (hws : ∀ x ∈ ws,x < 18446744073709551616) (hv : ∀ (i a x : Nat),want[i]? = some a→ws[i]? = some x→(isW sh L a x).isSome) :
 ∃ h' S',call tabW n (d + 1 + 1 + 1 + 1) f19 [.ptr p 0,I (.ofNat s),I (.ofNat b),vp] h = .ret (.tup [.int .u64 (.ofNat ((makeP sh L s b want ws).1.getD 0)),ik (if (makeP sh L s b want ws).1 = none then 3 else 0)]) h'∧TabR h' p sh (makeP sh L s b want ws).2 S' X∧Chg S h h'∧∀ x,S' x→S x ∨ h.nx.val ≤ x:=by
 obtain ⟨hw12,hwk,hb64⟩:=ok.want s _ want hw
 have lt : ∀ x,S x→x < h.nx.val:=fun x hx=>w.lts hx
 obtain ⟨bo,bm,c,va,vs,cells,pv,wx⟩:=w
 have w : TabR h p sh L S X:=⟨_,_,_,_,_,_,_,wx⟩
 obtain ⟨vw,ew,rw'⟩:=wx.want (n:=n) (d:=d + 1) (s:=s) (b:=.ofNat b) (l:=want) hw
 have rw':=noX rw'
 have hs : s < sh.length:=by
  by_cases hs : s < sh.length
  · exact hs
  · simp [wantOf,List.getElem?_eq_none (Nat.not_lt.1 hs)] at hw
 have pn : ∀ q : Bool→Res,pnk (.ptr p 0) q = q false:=fun q=>rfl
 have lw : ∀ q : Nat→Res,lenk vw q = q want.length:=fun q=>by rw [rw'.lenk,List.length_map]
 have lp : ∀ q : Nat→Res,lenk vp q = q ws.length:=fun q=>by rw [wp.lenk,List.length_map]
 have b3 : ieq (.ofNat ws.length) (.ofNat want.length) = true:=by rw [ieq_nat]; simpa using hl
 obtain ⟨h1,v1,e1,w1,U1⟩:=clone_words (n:=n) (d:=d + 1 + 1) wp (fun x hx=>hx.1) (by omega)
 have lt1 : ∀ x,S x→x < h1.nx.val:=fun x hx=>Nat.lt_of_lt_of_le (lt x hx) U1.nx
 obtain ⟨h2,h3,e2,e3,r3,U3,lt3⟩:=new_store h1 (g:=5) (z:=[ik 0,ik 0,.str 0 0,.nils,ik 0]) (l:=[I (.ofNat s),I (.ofNat b),.str 0 0,v1,I (.ofNat 1)]) rfl rfl (by omega)
 have e2' : ∀ q,words.new h1 (.arr 5 1 (repT [ik 0,ik 0,.str 0 0,.nils,ik 0] 1 1) .false) q = q h1.nx h2:=e2
 have e3' : ∀ q,words.store h2 h1.nx 0 5 [I (.ofNat s),I (.ofNat b),.str 0 0,v1,I (.ofNat 1)] q = q h3:=e3
 have pv1 : ∀ q : Nat→List V→Res,partsk v1 q = q 1 [v1]:=fun q=>w1.parts q
 obtain ⟨h4,e4,U4,lx4,r4⟩:=make_loop (n:=n) (d:=d) (w.up U1) ok (Nat.le_refl h1.nx.val) (by omega) hdeep (rw'.stay U1 lt) (wp.stay U1 lt) hl (by omega) hws hwk hv ws.length (i:=0) (q:=n) (D:=1) (h:=h3) (by omega) (by omega) U3 lt3 r3
 rw [List.drop_zero,List.drop_zero] at r4
 have c4 : ∀ q : V→Res,words.load1 h4 h1.nx 4 q = q (I (.ofNat (deepF sh L 1 want ws))):=fun q=>load1k_law r4 rfl q
 have U14:=U1.trans U4
 unfold makeP
 by_cases hd : 100 < deepF sh L 1 want ws
 · have n5:=ilt_true hd
   rw [if_pos hd]
   refine ⟨h4,S,?_,w.up U14,U14.chg,fun x hx=>.inl hx⟩
   rw [call19]
   simp -implicitDefEqProofs only [sh19,↓pn,↓ew,↓lp,↓lw,↓b3,↓e1,↓pv1,↓e2',↓e3',↓e4,↓c4,↓n5,↓evR]
   simp
 · have n5:=ilt_false hd
   rw [if_neg hd]
   have w4:=w.up U14
   have wv4 : CellA h4 (Still h4 (SX S X)) (.sl 1 (ws.map wT)) v1:=w1.mv (fun x hx=>⟨Nat.lt_of_lt_of_le hx.2 U4.nx,fun hs=>hs.elim (fun e=>by have:=lt x e; omega) fun e=>by have:=(w.xs e).1; omega⟩) fun b' hb=>U4.get b' hb.2
   obtain ⟨h5,S5,e5,w5,C5,s5⟩:=put_law (n:=n) (d:=d) (t:=⟨s,b,[],ws,deepF sh L 1 want ws⟩) (v:=v1) w4 ⟨by show s < _; have:=ok.len; omega,by show b < _; have : (b : Int) ≤ 64:=hb64; omega,hws,.nil,by show 0 + ws.length * 10 ≤ _; omega⟩ hn (by show ws.length < n; omega) hs hL wv4
   have l4 : ∀ q : List V→Res,words.load h4 h1.nx 0 5 q = q [I (.ofNat s),I (.ofNat b),.str 0 0,v1,I (.ofNat (deepF sh L 1 want ws))]:=fun q=>loadk_law r4 (by simp) q
   have e5' : call tabW n (d + 1 + 1 + 1) f42 [.ptr p 0,.agg 5 [I (.ofNat s),I (.ofNat b),.str 0 0,v1,I (.ofNat (deepF sh L 1 want ws))]] h4 = .ret (.tup [.int .u64 (.ofNat (putP sh L ⟨s,b,[],ws,deepF sh L 1 want ws⟩).1),ik 0]) h5:=e5
   refine ⟨h5,S5,?_,w5,(U14.chg (S:=S)).trans C5 fun x hx=>.inl hx,fun x hx=>(s5 x hx).imp id fun e=>Nat.le_trans U14.nx e⟩
   rw [call19]
   simp -implicitDefEqProofs only [sh19,↓pn,↓ew,↓lp,↓lw,↓b3,↓e1,↓pv1,↓e2',↓e3',↓e4,↓c4,↓n5,↓l4,↓e5',↓evR]
   simp
end
end Go.Ev.WIB

/- InternBack: what interning comes to, with no program in sight: what a word denotes. -/
namespace Go.Ev.WIB
theorem shortB_inj : ∀ (a b : Nat) {x y : List Nat},shortB a ++ x = shortB b ++ y→a = b∧x = y:=by
 intro a
 induction a using Nat.strongRecOn with
 | ind a ih=>
   intro b x y h
   rw [shortB.eq_def a,shortB.eq_def b] at h
   by_cases ha : a < 128
   · by_cases hb : b < 128
     · rw [dif_pos ha,dif_pos hb] at h
       simpa using h
     · rw [dif_pos ha,dif_neg hb] at h
       simp at h
       omega
   · by_cases hb : b < 128
     · rw [dif_neg ha,dif_pos hb] at h
       simp at h
       omega
     · rw [dif_neg ha,dif_neg hb,List.cons_append,List.cons_append,List.cons.injEq] at h
       obtain ⟨h1,h2⟩:=ih (a / 128) (by omega) (b / 128) h.2
       exact ⟨by omega,h2⟩
theorem flat_inj : ∀ (a b : List Nat),a.length = b.length→a.flatMap shortB = b.flatMap shortB→a = b
 | [],[],_,_=>rfl
 | x :: a,y :: b,hl,h=>by
   rw [List.flatMap_cons,List.flatMap_cons] at h
   obtain ⟨h1,h2⟩:=shortB_inj x y h
   rw [h1,flat_inj a b (by simpa using hl) h2]
 | [],_ :: _,hl,_=>by simp at hl
 | _ :: _,[],hl,_=>by simp at hl
variable {sh : List Sh} {L L' : List Th}
structure Form (sh : List Sh) (t : Th) : Prop where
 sym : kindOf sh t.shape = 2→t.branch = 0∧t.parts = []
 node : kindOf sh t.shape ≠ 2→t.text = []∧∃ want,wantOf sh t.shape (.ofNat t.branch) = some want∧t.parts.length = want.length
def Alike (t u : Th) : Prop:=t.shape = u.shape∧t.branch = u.branch∧t.parts = u.parts∧t.text = u.text
theorem key_inj {t u : Th} (ht : Form sh t) (hu : Form sh u) (h : keyB t = keyB u) : Alike t u:=by
 unfold keyB at h
 simp only [List.append_assoc] at h
 obtain ⟨h1,h⟩:=shortB_inj _ _ h
 obtain ⟨h2,h⟩:=shortB_inj _ _ h
 by_cases hk : kindOf sh t.shape = 2
 · have ⟨_,p1⟩:=ht.sym hk
   have ⟨_,p2⟩:=hu.sym (by rw [← h1]; exact hk)
   rw [p1,p2] at h
   exact ⟨h1,h2,by rw [p1,p2],by simpa using h⟩
 · obtain ⟨t1,w1,e1,l1⟩:=ht.node hk
   obtain ⟨t2,w2,e2,l2⟩:=hu.node (by rw [← h1]; exact hk)
   rw [h1,h2,e2] at e1
   cases e1
   rw [t1,t2,List.append_nil,List.append_nil] at h
   exact ⟨h1,h2,flat_inj _ _ (by omega) h,by rw [t1,t2]⟩
theorem alike_key {t u : Th} (h : Alike t u) : keyB t = keyB u:=by
 obtain ⟨h1,h2,h3,h4⟩:=h
 unfold keyB
 rw [h1,h2,h3,h4]
theorem idxs_pre (L R : List Th) (s : Nat) : idxs (L ++ R) s = idxs L s ++ idxsF s L.length R:=by
 rw [idxs,idxsF_app,Nat.zero_add]; rfl
theorem idxs_at {i : Nat} {t : Th} (h : L[i]? = some t) : (idxs L t.shape)[cnt (L.take i) t.shape]? = some i:=by
 obtain ⟨hi,e0⟩:=List.getElem?_eq_some_iff.1 h
 have e : L = L.take i ++ (t :: L.drop (i + 1)):=by rw [← e0,← List.drop_eq_getElem_cons hi,List.take_append_drop]
 have e2 : idxs L t.shape = idxs (L.take i) t.shape ++ idxsF t.shape (L.take i).length (t :: L.drop (i + 1)):=(congrArg (fun l=>idxs l t.shape) e).trans (idxs_pre _ _ _)
 rw [e2,List.getElem?_append_right (Nat.le_refl _),Nat.sub_self,idxsF,if_pos rfl,List.length_take,Nat.min_eq_left (by omega)]
 rfl
theorem idxs_mono {s w i : Nat} (h : (idxs L s)[w]? = some i) (R : List Th) : (idxs (L ++ R) s)[w]? = some i:=by
 rw [idxs_pre,List.getElem?_append_left (List.getElem?_eq_some_iff.1 h).1]
 exact h
theorem mapF_mem (sh : List Sh) : ∀ (pre R : List Th) (x : List Nat × Nat),x ∈ mapF sh pre R ↔ ∃ i t,R[i]? = some t∧x = (keyB t,cnt (pre ++ R.take i) t.shape + fst0 sh t.shape)
 | pre,[],x=>by simp [mapF]
 | pre,t :: R,x=>by
   rw [mapF,List.mem_cons,mapF_mem sh (pre ++ [t]) R x]
   constructor
   · rintro (rfl | ⟨i,u,h1,rfl⟩)
     · exact ⟨0,t,rfl,by simp⟩
     · exact ⟨i + 1,u,by simpa using h1,by simp⟩
   · rintro ⟨i,u,h1,rfl⟩
     cases i with
     | zero=>simp at h1; subst h1; exact .inl (by simp)
     | succ i=>exact .inr ⟨i,u,by simpa using h1,by simp⟩
theorem mapL_mem (x : List Nat × Nat) : x ∈ mapL sh L ↔ ∃ i t,L[i]? = some t∧x = (keyB t,cnt (L.take i) t.shape + fst0 sh t.shape):=by
 rw [mapL,mapF_mem]
 simp
def Apt (sh : List Sh) (L : List Th) : Prop:=((mapL sh L).map (·.1)).Nodup
theorem apt_inj (a : Apt sh L) {i j : Nat} {t u : Th} (h1 : L[i]? = some t) (h2 : L[j]? = some u) (hk : keyB t = keyB u) : i = j:=by
 have x1 : (keyB t,cnt (L.take i) t.shape + fst0 sh t.shape) ∈ mapL sh L:=(mapL_mem _).2 ⟨i,t,h1,rfl⟩
 have key : ∀ (pre R : List Th),((mapF sh pre R).map (·.1)).Nodup→∀ (i j : Nat) (t u : Th),R[i]? = some t→R[j]? = some u→keyB t = keyB u→i = j:=by
  intro pre R
  induction R generalizing pre with
  | nil=>intro _ i j t u h; simp at h
  | cons r R ih=>
    intro hn i j t u h1 h2 hk
    rw [mapF,List.map_cons,List.nodup_cons] at hn
    have nin : ∀ k v,R[k]? = some v→keyB v ≠ keyB r:=fun k v hv e=>hn.1 (List.mem_map.2 ⟨_,(mapF_mem sh _ _ _).2 ⟨k,v,hv,rfl⟩,e⟩)
    cases i with
    | zero=>
      cases j with
      | zero=>rfl
      | succ j=>simp at h1 h2; subst h1; exact absurd hk.symm (nin j u h2)
    | succ i=>
      cases j with
      | zero=>simp at h1 h2; subst h2; exact absurd hk (nin i t h1)
      | succ j=>rw [ih _ hn.2 i j t u (by simpa using h1) (by simpa using h2) hk]
 exact key [] L a i j t u h1 h2 hk
theorem putP_there {i : Nat} {t u : Th} (a : Apt sh L) (h : L[i]? = some u) (al : Alike t u) : putP sh L t = (cnt (L.take i) t.shape + fst0 sh t.shape,L):=by
 unfold putP
 cases hf : (mapL sh L).find? (fun x=>x.1 = keyB t) with
 | some x=>
   have h1:=List.mem_of_find?_eq_some hf
   have h2 : x.1 = keyB t:=by have:=List.find?_some hf; simpa using this
   obtain ⟨j,v,h3,rfl⟩:=(mapL_mem x).1 h1
   have:=apt_inj a h3 h (h2.trans (alike_key al))
   subst this
   rw [h] at h3
   cases h3
   simp only
   rw [al.1]
 | none=>
   have:=List.find?_eq_none.1 hf _ ((mapL_mem _).2 ⟨i,u,h,rfl⟩)
   simp [alike_key al] at this
structure Put (sh : List Sh) (L : List Th) (t : Th) (w : Nat) (L' : List Th) : Prop where
 pre : L <+: L'
 len : L'.length ≤ L.length + 1
 mem : ∀ u ∈ L',u ∈ L ∨ u = t
 new : ∀ i u,L'[i]? = some u→L[i]? = some u ∨ (i = L.length∧u = t)
 fst : fst0 sh t.shape ≤ w
 at_ : ∃ i u,(idxs L' t.shape)[w - fst0 sh t.shape]? = some i∧L'[i]? = some u∧Alike t u
theorem putP_law {t : Th} (hf : ∀ u ∈ L,Form sh u) (ht : Form sh t) : Put sh L t (putP sh L t).1 (putP sh L t).2:=by
 unfold putP
 cases hfi : (mapL sh L).find? (fun x=>x.1 = keyB t) with
 | some x=>
   have h1:=List.mem_of_find?_eq_some hfi
   have h2 : x.1 = keyB t:=by have:=List.find?_some hfi; simpa using this
   obtain ⟨j,v,h3,rfl⟩:=(mapL_mem x).1 h1
   have al:=key_inj ht (hf v (List.mem_of_getElem? h3)) h2.symm
   refine ⟨List.prefix_refl _,by simp,fun u hu=>.inl hu,fun i u hu=>.inl hu,by rw [al.1]; exact Nat.le_add_left _ _,j,v,?_,h3,al⟩
   rw [al.1,Nat.add_sub_cancel]
   exact idxs_at h3
 | none=>
   refine ⟨List.prefix_append _ _,by simp,fun u hu=>?_,fun i u hu=>?_,Nat.le_add_left _ _,L.length,t,?_,by simp,rfl,rfl,rfl,rfl⟩
   · rcases List.mem_append.1 hu with h | h
     · exact .inl h
     · simp at h; exact .inr h
   · by_cases hi : i < L.length
     · rw [List.getElem?_append_left hi] at hu; exact .inl hu
     · rw [List.getElem?_append_right (by omega)] at hu
       have e : i - L.length = 0:=by have:=(List.getElem?_eq_some_iff.1 hu).1; simp at this; omega
       rw [e] at hu
       simp at hu
       exact .inr ⟨by omega,hu.symm⟩
   · rw [Nat.add_sub_cancel,idxs_app,if_pos rfl,List.getElem?_append_right (Nat.le_refl _),Nat.sub_self]
     rfl
theorem isW_mono {s w dd : Nat} (h : isW sh L s w = some dd) (R : List Th) : isW sh (L ++ R) s w = some dd:=by
 unfold isW at h ⊢
 split
 · rename_i h1; rw [if_pos h1] at h; exact h
 · rename_i h1
   rw [if_neg h1] at h
   split
   · rename_i h2; rw [if_pos h2] at h; exact h
   · rename_i h2
     rw [if_neg h2] at h
     split at h
     · rename_i i hi
       rw [idxs_mono hi R]
       simp only
       obtain ⟨t,ht,e⟩:=Option.map_eq_some_iff.1 h
       rw [List.getElem?_append_left (List.getElem?_eq_some_iff.1 ht).1,ht]
       simp [e]
     · cases h
inductive Den (sh : List Sh) (L : List Th) : Nat→Nat→List Tr→Prop where
 | num (s : Nat) (z : Int) (hk : kindOf sh s = 1) : Den sh L s (z % 18446744073709551616).toNat (vT 1 z 0 0 [])
 | nil (s : Nat) (hk : kindOf sh s = 3) : Den sh L s 0 (vT 3 0 0 0 [])
 | sym (s l t w i : Nat) (th : Th) (hk : kindOf sh s = 2) (hi : (idxs L s)[w]? = some i) (ht : L[i]? = some th) (hx : th.text = digN l t) : Den sh L s w (vT 2 0 l t [])
 | node (s k b : Nat) (want : List Nat) (kids : List (List Tr)) (w i : Nat) (th : Th) (hk : k = 4∧kindOf sh s = 3 ∨ k = 5∧kindOf sh s = 4) (hw : wantOf sh s (.ofNat b) = some want) (hf : fst0 sh s ≤ w)
    (hi : (idxs L s)[w - fst0 sh s]? = some i) (ht : L[i]? = some th) (hb : th.branch = b) (hl : kids.length = want.length) (hpl : th.parts.length = want.length)
    (hd : ∀ (j a x : Nat) (r : List Tr),want[j]? = some a→th.parts[j]? = some x→kids[j]? = some r→Den sh L a x r) : Den sh L s w (vT k (.ofNat b) 0 0 kids)
theorem Den.mono {s w : Nat} {r : List Tr} (h : Den sh L s w r) (R : List Th) : Den sh (L ++ R) s w r:=by
 induction h with
 | num s z hk=>exact .num s z hk
 | nil s hk=>exact .nil s hk
 | sym s l t w i th hk hi ht hx=>exact .sym s l t w i th hk (idxs_mono hi R) (by rw [List.getElem?_append_left (List.getElem?_eq_some_iff.1 ht).1]; exact ht) hx
 | node s k b want kids w i th hk hw hf hi ht hb hl hpl hd ih=>exact .node s k b want kids w i th hk hw hf (idxs_mono hi R) (by rw [List.getElem?_append_left (List.getElem?_eq_some_iff.1 ht).1]; exact ht) hb hl hpl ih
theorem Den.pre {s w : Nat} {r : List Tr} (h : Den sh L s w r) (p : L <+: L') : Den sh L' s w r:=by
 obtain ⟨R,rfl⟩:=p
 exact h.mono R
theorem Den.is {s w : Nat} {r : List Tr} (h : Den sh L s w r) : (isW sh L s w).isSome:=by
 cases h with
 | num _ _ hk=>simp [isW,hk]
 | nil _ hk=>simp [isW,hk]
 | sym _ _ _ _ i th hk hi ht hx=>
   have : fst0 sh s = 0:=by simp [fst0,hk]
   simp [isW,hk,this,hi,ht]
 | node _ _ _ _ _ _ i th hk hw hf hi ht=>
   unfold isW
   split
   · rfl
   · split
     · rfl
     · rw [hi]; simp [ht]
end Go.Ev.WIB

/- InternBack: what interning a value comes to: its word denotes it, and it is the same again. -/
namespace Go.Ev.WIB
variable {sh : List Sh} {L L' : List Th}
def Valid (sh : List Sh) (L : List Th) (want ws : List Nat) : Prop:=∀ (i a x : Nat),want[i]? = some a→ws[i]? = some x→(isW sh L a x).isSome
theorem Valid.mono {want ws : List Nat} (v : Valid sh L want ws) (R : List Th) : Valid sh (L ++ R) want ws:=fun i a x h1 h2=>by
 obtain ⟨dd,e⟩:=Option.isSome_iff_exists.1 (v i a x h1 h2)
 rw [isW_mono e R]; rfl
theorem deepF_mono (R : List Th) : ∀ {want ws : List Nat} {D : Nat},Valid sh L want ws→deepF sh (L ++ R) D want ws = deepF sh L D want ws
 | [],ws,D,_=>by cases ws <;> rfl
 | a :: want,[],D,_=>rfl
 | a :: want,x :: ws,D,v=>by
   obtain ⟨dd,e⟩:=Option.isSome_iff_exists.1 (v 0 a x rfl rfl)
   rw [deepF,deepF,isW_mono e R,e]
   exact deepF_mono R fun i a' x' h1 h2=>v (i + 1) a' x' (by simpa using h1) (by simpa using h2)
structure Good (sh : List Sh) (L : List Th) : Prop where
 form : ∀ u ∈ L,Form sh u
 deep : ∀ u ∈ L,u.deep ≤ 100
 apt : Apt sh L
 ok : ∀ u ∈ L,ThOk u∧u.parts.length ≤ 100∧u.shape < sh.length
 dp : ∀ u ∈ L,kindOf sh u.shape ≠ 2→∀ want,wantOf sh u.shape (.ofNat u.branch) = some want→Valid sh L want u.parts∧deepF sh L 1 want u.parts ≤ 100
theorem idxsF_inj {s : Nat} : ∀ {k : Nat} {L : List Th} {a b i : Nat},(idxsF s k L)[a]? = some i→(idxsF s k L)[b]? = some i→a = b
 | k,[],a,b,i,h,_=>by simp [idxsF] at h
 | k,t :: L,a,b,i,h1,h2=>by
   rw [idxsF] at h1 h2
   split at h1
   · rename_i hs
     rw [if_pos hs] at h2
     cases a with
     | zero=>
       cases b with
       | zero=>rfl
       | succ b=>
         simp at h1 h2
         have:=(idxsF_mem (List.mem_of_getElem? h2)).1
         omega
     | succ a=>
       cases b with
       | zero=>
         simp at h1 h2
         have:=(idxsF_mem (List.mem_of_getElem? h1)).1
         omega
       | succ b=>
         have:=idxsF_inj (s:=s) (k:=k + 1) (L:=L) (a:=a) (b:=b) (i:=i) (by simpa using h1) (by simpa using h2)
         omega
   · rename_i hs
     rw [if_neg hs] at h2
     exact idxsF_inj h1 h2
theorem Den.val {s w : Nat} {r : List Tr} (h : Den sh L s w r) : ∀ {w' : Nat} {r' : List Tr},Den sh L s w' r'→w = w'→IsV r→IsV r'→r = r':=by
 induction h with
 | num s z hk=>
   intro w' r' h' e v v'
   cases h' with
   | num _ z' hk'=>
     cases v with | mk _ _ _ _ _ hz=>
     cases v' with | mk _ _ _ _ _ hz'=>
     have : z = z':=by omega
     rw [this]
   | nil _ hk'=>omega
   | sym _ _ _ _ _ _ hk'=>omega
   | node _ _ _ _ _ _ _ _ hk'=>omega
 | nil s hk=>
   intro w' r' h' e v v'
   cases h' with
   | num _ z' hk'=>omega
   | nil _ hk'=>rfl
   | sym _ _ _ _ _ _ hk'=>omega
   | node _ _ _ _ _ _ _ _ hk' hw hf=>
     have : fst0 sh s = 1:=by simp [fst0,hk]
     omega
 | sym s l t w i th hk hi ht hx=>
   intro w' r' h' e v v'
   subst e
   cases h' with
   | num _ z' hk'=>omega
   | nil _ hk'=>omega
   | sym _ l' t' _ i' th' hk' hi' ht' hx'=>
     rw [hi] at hi'
     cases hi'
     rw [ht] at ht'
     cases ht'
     rw [hx] at hx'
     cases v with | mk _ _ _ _ _ _ _ _ _ hlt=>
     cases v' with | mk _ _ _ _ _ _ _ _ _ hlt'=>
     obtain ⟨_,b2,b3⟩:=digN_ok l t hlt
     obtain ⟨_,c2,c3⟩:=digN_ok l' t' hlt'
     have e1 : l = l':=by rw [← b2,← c2,hx']
     have e2 : t = t':=by rw [← b3,← c3,hx']
     rw [e1,e2]
   | node _ _ _ _ _ _ _ _ hk'=>omega
 | node s k b want kids w i th hk hw hf hi ht hb hl hpl hd ih=>
   intro w' r' h' e v v'
   subst e
   cases h' with
   | num _ z' hk'=>omega
   | nil _ hk'=>
     have : fst0 sh s = 1:=by simp [fst0,hk']
     omega
   | sym _ _ _ _ _ _ hk'=>omega
   | node _ k' b' want' kids' _ i' th' hk' hw' hf' hi' ht' hb' hl' hpl' hd'=>
     rw [hi] at hi'
     cases hi'
     rw [ht] at ht'
     cases ht'
     rw [hb] at hb'
     subst hb'
     rw [hw] at hw'
     cases hw'
     have ek : k = k':=by omega
     cases v with | mk _ _ _ _ _ _ _ _ hv=>
     cases v' with | mk _ _ _ _ _ _ _ _ hv'=>
     have e : kids = kids':=by
      apply List.ext_getElem (by omega)
      intro j h1 h2
      have j1 : want[j]? = some want[j]:=List.getElem?_eq_getElem (by omega)
      have j2 : th.parts[j]? = some th.parts[j]:=List.getElem?_eq_getElem (by omega)
      exact ih j _ _ _ j1 j2 (List.getElem?_eq_getElem h1) (hd' j _ _ _ j1 j2 (List.getElem?_eq_getElem h2)) rfl (hv _ (List.getElem_mem h1)) (hv' _ (List.getElem_mem h2))
     rw [ek,e]
theorem Den.word (g : Good sh L) {s w : Nat} {r : List Tr} (h : Den sh L s w r) : ∀ {w' : Nat},Den sh L s w' r→w = w':=by
 induction h with
 | num s z hk=>
   intro w' h'
   cases h' with
   | num=>rfl
   | node _ _ _ _ _ _ _ _ hk'=>omega
 | nil s hk=>
   intro w' h'
   cases h' with
   | nil=>rfl
   | node _ _ _ _ _ _ _ _ hk'=>omega
 | sym s l t w i th hk hi ht hx=>
   intro w' h'
   cases h' with
   | sym _ _ _ _ i' th' hk' hi' ht' hx'=>
     obtain ⟨u,hu,hus⟩:=idxs_mem (List.mem_of_getElem? hi)
     obtain ⟨u',hu',hus'⟩:=idxs_mem (List.mem_of_getElem? hi')
     rw [ht] at hu; cases hu
     rw [ht'] at hu'; cases hu'
     have f1:=(g.form _ (List.mem_of_getElem? ht)).sym (by rw [hus]; exact hk)
     have f2:=(g.form _ (List.mem_of_getElem? ht')).sym (by rw [hus']; exact hk)
     have:=apt_inj g.apt ht ht' (alike_key ⟨by rw [hus,hus'],by rw [f1.1,f2.1],by rw [f1.2,f2.2],by rw [hx,hx']⟩)
     subst this
     exact idxsF_inj hi hi'
   | node _ _ _ _ _ _ _ _ hk'=>omega
 | node s k b want kids w i th hk hw hf hi ht hb hl hpl hd ih=>
   intro w' h'
   generalize hz : Int.ofNat b = z at h'
   generalize hl0 : (0 : Nat) = l0 at h'
   generalize hkk : k = k0 at h'
   cases h' with
   | num=>omega
   | nil=>omega
   | sym=>omega
   | node _ _ b' want' _ _ i' th' hk' hw' hf' hi' ht' hb' hl' hpl' hd'=>
     cases hz
     rw [hw] at hw'
     cases hw'
     obtain ⟨u,hu,hus⟩:=idxs_mem (List.mem_of_getElem? hi)
     obtain ⟨u',hu',hus'⟩:=idxs_mem (List.mem_of_getElem? hi')
     rw [ht] at hu; cases hu
     rw [ht'] at hu'; cases hu'
     have f1:=(g.form _ (List.mem_of_getElem? ht)).node (by rw [hus]; omega)
     have f2:=(g.form _ (List.mem_of_getElem? ht')).node (by rw [hus']; omega)
     have ep : th.parts = th'.parts:=by
      apply List.ext_getElem (by omega)
      intro j h1 h2
      have j1 : want[j]? = some want[j]:=List.getElem?_eq_getElem (by omega)
      have j3 : kids[j]? = some kids[j]:=List.getElem?_eq_getElem (by omega)
      exact ih j _ _ _ j1 (List.getElem?_eq_getElem h1) j3 (hd' j _ _ _ j1 (List.getElem?_eq_getElem h2) j3)
     have:=apt_inj g.apt ht ht' (alike_key ⟨by rw [hus,hus'],by rw [hb,hb'],ep,by rw [f1.1,f2.1]⟩)
     subst this
     have:=idxsF_inj hi hi'
     omega
mutual
def wvT : Tr→Nat
 | .i _ _=>0
 | .s l _=>l / 64
 | .b _=>0
 | .sl _ rows=>wvRows rows
def wvRow : List Tr→Nat
 | []=>0
 | t :: r=>wvT t + wvRow r
def wvRows : List (List Tr)→Nat
 | []=>0
 | r :: rs=>1 + wvRow r + wvRows rs
end
theorem wv_vT (k : Nat) (z : Int) (l t : Nat) (kids : List (List Tr)) : wvRow (vT k z l t kids) = l / 64 + wvRows kids:=by
 simp only [vT,wvRow,wvT]
 omega
theorem wvRows_mem {r : List Tr} : ∀ {rs : List (List Tr)},r ∈ rs→1 + wvRow r ≤ wvRows rs
 | x :: rs,h=>by
   rw [wvRows]
   rcases List.mem_cons.1 h with rfl | h
   · omega
   · have:=wvRows_mem h; omega
def kidsF (f : List Th→Nat→List Tr→Option Nat × List Th) : List Th→List Nat→List (List Tr)→Option (List Nat) × List Th
 | L,a :: want,r :: rs=>match f L a r with
   | (none,L1)=>(none,L1)
   | (some w,L1)=>match kidsF f L1 want rs with
     | (none,L2)=>(none,L2)
     | (some ws,L2)=>(some (w :: ws),L2)
 | L,_,_=>(some [],L)
def wordF (sh : List Sh) : Nat→List Th→Nat→List Tr→Option Nat × List Th
 | m + 1,L,s,[.i _ (.ofNat k),.i _ z,.s l t,.sl _ kids]=>
   if k = 1 then (some (z % 18446744073709551616).toNat,L) else if k = 3 then (some 0,L) else if k = 2 then (some (putP sh L (symT (digN l t))).1,(putP sh L (symT (digN l t))).2) else
    match kidsF (wordF sh m) L ((wantOf sh s z).getD []) kids with
    | (none,L1)=>(none,L1)
    | (some ws,L1)=>makeP sh L1 s z.toNat ((wantOf sh s z).getD []) ws
 | _,L,_,_=>(none,L)
structure WF (sh : List Sh) (L : List Th) (s : Nat) (r : List Tr) (q : Option Nat × List Th) : Prop where
 pre : L <+: q.2
 len : q.2.length ≤ L.length + 1 + wvRow r
 good : Good sh q.2
 den : ∀ w,q.1 = some w→Den sh q.2 s w r∧w < 18446744073709551616
 no : q.1 = none→q.2 ≠ []
 back : ∀ w,Den sh L s w r→q = (some w,L)
structure KF (sh : List Sh) (L : List Th) (want : List Nat) (kids : List (List Tr)) (q : Option (List Nat) × List Th) : Prop where
 pre : L <+: q.2
 len : q.2.length ≤ L.length + wvRows kids
 good : Good sh q.2
 den : ∀ ws,q.1 = some ws→ws.length = kids.length∧∀ (j a x : Nat) (r : List Tr),want[j]? = some a→ws[j]? = some x→kids[j]? = some r→Den sh q.2 a x r∧x < 18446744073709551616
 no : q.1 = none→q.2 ≠ []
 back : ∀ ws,ws.length = kids.length→(∀ (j a x : Nat) (r : List Tr),want[j]? = some a→ws[j]? = some x→kids[j]? = some r→Den sh L a x r)→q = (some ws,L)
theorem kidsF_law {f : List Th→Nat→List Tr→Option Nat × List Th} : ∀ {kids : List (List Tr)} {want : List Nat} {L : List Th},kids.length = want.length→Good sh L→L.length + wvRows kids ≤ 1000000 →
 (∀ r ∈ kids,∀ (L : List Th) (a : Nat),Good sh L→L.length + 1 + wvRow r ≤ 1000000→(∃ i : Nat,want[i]? = some a∧kids[i]? = some r)→WF sh L a r (f L a r))→KF sh L want kids (kidsF f L want kids)
 | [],[],L,_,g,_,_=>⟨List.prefix_refl _,by simp [kidsF],g,fun ws e=>(by simp [kidsF] at e; subst e; simp),fun e=>(by simp [kidsF] at e),fun ws hl _=>by
    have : ws = []:=by simpa using hl
    subst this; rfl⟩
 | r :: rs,a :: want,L,hl,g,hs,hf=>by
   rw [wvRows] at hs
   have h1:=hf r (by simp) L a g (by omega) ⟨0,rfl,rfl⟩
   rw [kidsF]
   cases e1 : f L a r with
   | mk o L1=>
     rw [e1] at h1
     cases o with
     | none=>exact ⟨h1.pre,by have:=h1.len; simp only [wvRows] at this ⊢; omega,h1.good,fun ws e=>(by cases e),fun _=>h1.no rfl,fun ws hlw hd=>by
        match ws,hlw with
        | x :: ws,_=>
          have:=h1.back x (hd 0 a x r rfl rfl rfl)
          cases this⟩
     | some w=>
       have hlen:=h1.len
       have h2:=kidsF_law (f:=f) (kids:=rs) (want:=want) (L:=L1) (by simpa using hl) h1.good (by simp only at hlen; omega) fun r' hr' L' a' g' hs' ⟨i,hi1,hi2⟩=>hf r' (by simp [hr']) L' a' g' hs' ⟨i + 1,by simpa using hi1,by simpa using hi2⟩
       simp only
       cases e2 : kidsF f L1 want rs with
       | mk o2 L2=>
         rw [e2] at h2
         have p2 : L1 <+: L2:=h2.pre
         cases o2 with
         | none=>exact ⟨h1.pre.trans p2,by have:=h2.len; simp only [wvRows] at this hlen ⊢; omega,h2.good,fun ws e=>(by cases e),fun _=>h2.no rfl,fun ws hlw hd=>by
            match ws,hlw with
            | x :: ws,hlw=>
              have b1:=h1.back x (hd 0 a x r rfl rfl rfl)
              cases b1
              have b2:=h2.back ws (by simpa using hlw) fun j a' x' r' k1 k2 k3=>hd (j + 1) a' x' r' (by simpa using k1) (by simpa using k2) (by simpa using k3)
              cases b2⟩
         | some ws2=>
           refine ⟨h1.pre.trans p2,by have:=h2.len; simp only [wvRows] at this hlen ⊢; omega,h2.good,fun ws e=>?_,fun e=>(by cases e),fun ws hlw hd=>?_⟩
           · cases e
             obtain ⟨d1,d2⟩:=h2.den ws2 rfl
             refine ⟨by simp [d1],fun j a' x' r' k1 k2 k3=>?_⟩
             cases j with
             | zero=>
               simp at k1 k2 k3
               subst k1; subst k2; subst k3
               obtain ⟨e1,e2⟩:=h1.den w rfl
               exact ⟨e1.pre p2,e2⟩
             | succ j=>exact d2 j a' x' r' (by simpa using k1) (by simpa using k2) (by simpa using k3)
           · match ws,hlw with
             | x :: ws,hlw=>
               have b1:=h1.back x (hd 0 a x r rfl rfl rfl)
               cases b1
               have b2:=h2.back ws (by simpa using hlw) fun j a' x' r' k1 k2 k3=>hd (j + 1) a' x' r' (by simpa using k1) (by simpa using k2) (by simpa using k3)
               cases b2
               rfl
 | [],_ :: _,_,hl,_,_,_=>by simp at hl
 | _ :: _,[],_,hl,_,_,_=>by simp at hl
theorem good_put {t : Th} (g : Good sh L) (ht : Form sh t) (hd : t.deep ≤ 100) (hk : ThOk t∧t.parts.length ≤ 100∧t.shape < sh.length) (hp : kindOf sh t.shape ≠ 2→∀ want,wantOf sh t.shape (.ofNat t.branch) = some want→Valid sh L want t.parts∧deepF sh L 1 want t.parts ≤ 100) : Good sh (putP sh L t).2:=by
 have pl:=putP_law g.form ht
 refine ⟨fun u hu=>(pl.mem u hu).elim (g.form u) fun e=>by rw [e]; exact ht,fun u hu=>(pl.mem u hu).elim (g.deep u) fun e=>by rw [e]; exact hd,?_,fun u hu=>(pl.mem u hu).elim (g.ok u) fun e=>by rw [e]; exact hk,fun u hu hk2 want hw=>?_⟩
 rotate_left
 · obtain ⟨R,e⟩:=pl.pre
   rw [← e]
   have:=(pl.mem u hu).elim (fun h=>g.dp u h hk2 want hw) fun h=>by subst h; exact hp hk2 want hw
   exact ⟨this.1.mono R,by rw [deepF_mono R this.1]; exact this.2⟩
 unfold putP
 cases hf : (mapL sh L).find? (fun x=>x.1 = keyB t) with
 | some x=>exact g.apt
 | none=>
   show ((mapL sh (L ++ [t])).map (·.1)).Nodup
   rw [mapL,mapF_app,List.map_append,List.nodup_append]
   refine ⟨g.apt,by simp [mapF],fun x hx y hy e=>?_⟩
   subst e
   obtain ⟨z,hz,rfl⟩:=List.mem_map.1 hx
   have:=List.find?_eq_none.1 hf z hz
   simp [mapF] at hy
   simp [hy] at this
theorem symT_form (ok : ShsOk sh) (bs : List Nat) : Form sh (symT bs):=⟨fun _=>⟨rfl,rfl⟩,fun h=>absurd ok.k1 h⟩
theorem deepF_nil : ∀ (want ws : List Nat),deepF sh [] 1 want ws = 1
 | [],_=>by cases ‹List Nat› <;> rfl
 | _ :: _,[]=>rfl
 | a :: want,x :: ws=>by
   have : (isW sh [] a x).getD 0 = 0:=by
    unfold isW
    split
    · rfl
    · split
      · rfl
      · simp [idxs,idxsF]
   rw [deepF,this]
   exact deepF_nil want ws
theorem putP_le (L : List Th) (t : Th) : (putP sh L t).1 ≤ L.length + 1:=by
 unfold putP
 cases hf : (mapL sh L).find? (fun x=>x.1 = keyB t) with
 | some x=>
   have:=mapF_le sh [] L x (List.mem_of_find?_eq_some hf)
   simpa using this
 | none=>
   have h1 : cnt L t.shape ≤ L.length:=idxs_le L t.shape
   have:=fst0_le sh t.shape
   show cnt L t.shape + _ ≤ _
   omega
theorem wordF_law (ok : ShsOk sh) : ∀ (m : Nat) {L : List Th} {s : Nat} {r : List Tr},SizeOf.sizeOf r < m→Good sh L→Fits sh s r→IsV r→L.length + 1 + wvRow r ≤ 1000000→wvRow r ≤ 1000→WF sh L s r (wordF sh m L s r)
 | 0,_,_,_,hm,_,_,_,_,_=>absurd hm (Nat.not_lt_zero _)
 | m + 1,L,s,r,hm,g,hf,hv,hs,hwv=>by
   cases hf with
   | num _ z hk=>
     refine ⟨List.prefix_refl _,by simp [wordF]; omega,g,fun w e=>?_,fun e=>(by simp [wordF] at e),fun w hd=>?_⟩
     · simp [wordF] at e
       subst e
       exact ⟨.num s z hk,by omega⟩
     · generalize hr : vT 1 z 0 0 [] = r at hd
       cases hd with
       | num _ z'=>cases hr; simp [wordF]
       | nil=>cases hr
       | sym=>cases hr
       | node _ _ _ _ _ _ _ _ hk'=>cases hr; omega
   | sym _ l t hk=>
     have hs1 : s = 1:=by
      by_cases h0 : s = 0
      · subst h0; have:=ok.k0; omega
      · by_cases h1 : s = 1
        · exact h1
        · have:=ok.k2 s (by omega) (kind_ge (sh:=sh) (s:=s) (by omega)).1; omega
     subst hs1
     have fm:=symT_form ok (digN l t)
     rw [wv_vT] at hwv
     have hdg : Bytes (digN l t)∧(digN l t).length = l:=by
      cases hv with | mk _ _ _ _ _ _ _ _ _ hlt=>exact ⟨(digN_ok l t hlt).1,(digN_ok l t hlt).2.1⟩
     have pl:=putP_law g.form fm
     have e : wordF sh (m + 1) L 1 (vT 2 0 l t []) = (some (putP sh L (symT (digN l t))).1,(putP sh L (symT (digN l t))).2):=by simp [wordF]
     rw [e]
     have f0 : fst0 sh 1 = 0:=by simp [fst0,hk]
     refine ⟨pl.pre,by have:=pl.len; simp only; omega,good_put g fm (by simp [symT]) ⟨symT_ok hdg.1 (by rw [hdg.2]; omega),by simp [symT],by show 1 < sh.length; have:=ok.len; omega⟩ (fun h=>absurd hk h),fun w e=>?_,fun e=>(by cases e),fun w hd=>?_⟩
     · cases e
       obtain ⟨i,u,h1,h2,al⟩:=pl.at_
       rw [show (symT (digN l t)).shape = 1 from rfl,f0,Nat.sub_zero] at h1
       exact ⟨.sym 1 l t _ i u hk h1 h2 al.2.2.2.symm,by have:=putP_le (sh:=sh) L (symT (digN l t)); omega⟩
     · cases hd with
       | sym _ _ _ _ i th hk' hi ht hx=>
         obtain ⟨u,hu,hus⟩:=idxs_mem (List.mem_of_getElem? hi)
         rw [ht] at hu; cases hu
         have f1:=(g.form _ (List.mem_of_getElem? ht)).sym (by rw [hus]; exact hk)
         have al : Alike (symT (digN l t)) th:=⟨hus.symm,f1.1.symm,f1.2.symm,hx.symm⟩
         have e2:=putP_there g.apt ht al
         rw [e2]
         have e3:=idxs_at ht
         rw [hus] at e3
         have : w = cnt (L.take i) 1:=idxsF_inj hi e3
         rw [show (symT (digN l t)).shape = 1 from rfl,f0,Nat.add_zero,this]
       | node _ _ _ _ _ _ _ _ hk'=>omega
   | nil _ hk=>
     refine ⟨List.prefix_refl _,by simp [wordF]; omega,g,fun w e=>?_,fun e=>(by simp [wordF] at e),fun w hd=>?_⟩
     · simp [wordF] at e
       subst e
       exact ⟨.nil s hk,by omega⟩
     · cases hd with
       | nil=>simp [wordF]
       | node _ _ _ _ _ _ _ _ hk'=>omega
   | node _ k z want kids hk hw hl hfk=>
     cases hv with
     | mk _ _ _ _ _ hz hl0 hkl hvk=>
     rw [wv_vT] at hs hwv
     obtain ⟨b,rfl⟩ : ∃ b,z = .ofNat b:=by
      unfold wantOf at hw
      cases z with
      | ofNat b=>exact ⟨b,rfl⟩
      | negSucc b=>
        split at hw
        · split at hw
          · simp at hw
          · split at hw
            · cases hw
            · cases hw
        · cases hw
     have kf:=kidsF_law (sh:=sh) (f:=wordF sh m) hl g (by omega) fun r hr L' a g' hs' ⟨i,i1,i2⟩=>wordF_law ok m (by
      have:=List.sizeOf_lt_of_mem hr
      simp only [List.cons.sizeOf_spec,Tr.sl.sizeOf_spec] at hm
      omega) g' (hfk i a r i1 i2) (hvk r hr) hs' (by have:=wvRows_mem hr; omega)
     have e0 : wordF sh (m + 1) L s (vT k (.ofNat b) 0 0 kids) = match kidsF (wordF sh m) L want kids with
      | (none,L1)=>(none,L1)
      | (some ws,L1)=>makeP sh L1 s b want ws:=by
      rw [wordF,if_neg (by omega),if_neg (by omega),if_neg (by omega),hw]
      rfl
     rw [e0]
     cases e1 : kidsF (wordF sh m) L want kids with
     | mk o L1=>
       rw [e1] at kf
       have kpre : L <+: L1:=kf.pre
       have klen:=kf.len
       simp only at klen
       cases o with
       | none=>
         refine ⟨kpre,by rw [wv_vT]; simp only; omega,kf.good,fun w e=>(by cases e),fun _=>kf.no rfl,fun w hd=>?_⟩
         generalize hz' : Int.ofNat b = z' at hd
         generalize hkk : k = k0 at hd
         generalize hl0' : (0 : Nat) = l0 at hd
         cases hd with
         | num=>omega
         | nil=>omega
         | sym=>omega
         | node _ _ b' want' _ _ i th hk' hw' hf' hi ht hb hl' hpl hd'=>
           cases hz'
           rw [hw] at hw'; cases hw'
           have:=kf.back th.parts (by omega) hd'
           cases this
       | some ws=>
         obtain ⟨d1,d2⟩:=kf.den ws rfl
         simp only
         have fm : ∀ D,Form sh ⟨s,b,[],ws,D⟩:=fun D=>⟨fun h=>by have : kindOf sh s = 2:=h; omega,fun _=>⟨rfl,want,hw,by show ws.length = _; omega⟩⟩
         have isws : ∀ (i a x : Nat),want[i]? = some a→ws[i]? = some x→(isW sh L1 a x).isSome:=fun i a x i1 i2=>by
          have hi : i < kids.length:=by have:=(List.getElem?_eq_some_iff.1 i2).1; omega
          exact (d2 i a x kids[i] i1 i2 (List.getElem?_eq_getElem hi)).1.is
         unfold makeP
         by_cases hD : 100 < deepF sh L1 1 want ws
         · rw [if_pos hD]
           have ne : L1 ≠ []:=fun e=>by rw [e,deepF_nil] at hD; omega
           refine ⟨kpre,by rw [wv_vT]; simp only; omega,kf.good,fun w e=>(by cases e),fun _=>ne,fun w hd=>?_⟩
           generalize hz' : Int.ofNat b = z' at hd
           generalize hkk : k = k0 at hd
           generalize hl0' : (0 : Nat) = l0 at hd
           cases hd with
           | num=>omega
           | nil=>omega
           | sym=>omega
           | node _ _ b' want' _ _ i th hk' hw' hf' hi ht hb hl' hpl hd'=>
             cases hz'
             rw [hw] at hw'; cases hw'
             have:=kf.back th.parts (by omega) hd'
             cases this
             obtain ⟨u,hu,hus⟩:=idxs_mem (List.mem_of_getElem? hi)
             rw [ht] at hu; cases hu
             have:=(g.dp th (List.mem_of_getElem? ht) (by rw [hus]; omega) want (by rw [hus,hb]; exact hw)).2
             omega
         · rw [if_neg hD]
           have pl:=putP_law kf.good.form (fm (deepF sh L1 1 want ws))
           refine ⟨kpre.trans pl.pre,by have:=pl.len; rw [wv_vT]; simp only at this ⊢; omega,good_put kf.good (fm _) (by show deepF sh L1 1 want ws ≤ 100; omega) ⟨⟨by show s < _; have:=(kind_ge (sh:=sh) (s:=s) (by omega)).1; have:=ok.len; omega,by show b < _; have : (b : Int) ≤ 64:=(ok.want s _ want hw).2.2; omega,fun x hx=>by
            obtain ⟨i,hi,rfl⟩:=List.getElem_of_mem hx
            have hi' : i < kids.length:=by have : i < ws.length:=hi; omega
            exact (d2 i want[i] ws[i] kids[i] (List.getElem?_eq_getElem (by omega)) (List.getElem?_eq_getElem hi) (List.getElem?_eq_getElem hi')).2,.nil,by show 0 + ws.length * 10 ≤ _; have:=(ok.want s _ want hw).1; omega⟩,by show ws.length ≤ 100; have:=(ok.want s _ want hw).1; omega,(kind_ge (sh:=sh) (s:=s) (by omega)).1⟩ (fun _ want' hw'=>by
            rw [show wantOf sh s (.ofNat b) = some want from hw] at hw'
            cases hw'
            exact ⟨isws,Nat.not_lt.1 hD⟩),fun w e=>?_,fun e=>(by cases e),fun w hd=>?_⟩
           · cases e
             obtain ⟨i,u,h1,h2,al⟩:=pl.at_
             have hf0:=pl.fst
             refine ⟨.node s k b want kids _ i u hk hw hf0 h1 h2 al.2.1.symm hl (by rw [← al.2.2.1]; show ws.length = _; omega) fun j a x r j1 j2 j3=>?_,by have:=putP_le (sh:=sh) L1 ⟨s,b,[],ws,deepF sh L1 1 want ws⟩; omega⟩
             rw [← al.2.2.1] at j2
             exact (d2 j a x r j1 j2 j3).1.pre pl.pre
           · generalize hz' : Int.ofNat b = z' at hd
             generalize hkk : k = k0 at hd
             generalize hl0' : (0 : Nat) = l0 at hd
             cases hd with
             | num=>omega
             | nil=>omega
             | sym=>omega
             | node _ _ b' want' _ _ i th hk' hw' hf' hi ht hb hl' hpl hd'=>
               cases hz'
               rw [hw] at hw'; cases hw'
               have:=kf.back th.parts (by omega) hd'
               cases this
               obtain ⟨u,hu,hus⟩:=idxs_mem (List.mem_of_getElem? hi)
               rw [ht] at hu; cases hu
               have f1:=(g.form _ (List.mem_of_getElem? ht)).node (by rw [hus]; omega)
               have al : Alike ⟨s,b,[],th.parts,deepF sh L 1 want th.parts⟩ th:=⟨hus.symm,hb.symm,rfl,f1.1.symm⟩
               have e2:=putP_there g.apt ht al
               rw [e2]
               have e3:=idxs_at ht
               rw [hus] at e3
               have:=idxsF_inj hi e3
               congr 1
               show some (cnt (L.take i) s + fst0 sh s) = some w
               congr 1
               omega
end Go.Ev.WIB
