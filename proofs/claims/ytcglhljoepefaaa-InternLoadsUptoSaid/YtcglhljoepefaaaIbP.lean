/- IbP: texts joined. -/
import Derived.Test.YtcglhljoepefaaaIbI
/- InternBack: what interning a value comes to: its word denotes it, and it is the same again. -/
namespace Go.Ev.WIB
variable {sh : List Sh} {L L' : List Th}
def Valid (sh : List Sh) (L : List Th) (want ws : List Nat) : Prop:=∀ (i a x : Nat),want[i]? = some a→ws[i]? = some x→(isW sh L a x).isSome
theorem Valid.mono {want ws : List Nat} (v : Valid sh L want ws) (R : List Th) : Valid sh (L ++ R) want ws:=fun i a x h1 h2=>by
 obtain ⟨dd,e⟩:=Option.isSome_iff_exists.1 (v i a x h1 h2)
 rw [isW_mono e R]; rfl
theorem deepF_mono (R : List Th) : ∀ {want ws : List Nat} {D : Nat},Valid sh L want ws→deepF sh (L ++ R) D want ws = deepF sh L D want ws
 | [],ws,D,_=>by cases ws <;> rfl
 | a :: want,[],D,_=>rfl
 | a :: want,x :: ws,D,v=>by
   obtain ⟨dd,e⟩:=Option.isSome_iff_exists.1 (v 0 a x rfl rfl)
   rw [deepF,deepF,isW_mono e R,e]
   exact deepF_mono R fun i a' x' h1 h2=>v (i + 1) a' x' (by simpa using h1) (by simpa using h2)
structure Good (sh : List Sh) (L : List Th) : Prop where
 form : ∀ u ∈ L,Form sh u
 deep : ∀ u ∈ L,u.deep ≤ 100
 apt : Apt sh L
 ok : ∀ u ∈ L,ThOk u∧u.parts.length ≤ 100∧u.shape < sh.length
 dp : ∀ u ∈ L,kindOf sh u.shape ≠ 2→∀ want,wantOf sh u.shape (.ofNat u.branch) = some want→Valid sh L want u.parts∧deepF sh L 1 want u.parts ≤ 100
theorem idxsF_inj {s : Nat} : ∀ {k : Nat} {L : List Th} {a b i : Nat},(idxsF s k L)[a]? = some i→(idxsF s k L)[b]? = some i→a = b
 | k,[],a,b,i,h,_=>by simp [idxsF] at h
 | k,t :: L,a,b,i,h1,h2=>by
   rw [idxsF] at h1 h2
   split at h1
   · rename_i hs
     rw [if_pos hs] at h2
     cases a with
     | zero=>
       cases b with
       | zero=>rfl
       | succ b=>
         simp at h1 h2
         have:=(idxsF_mem (List.mem_of_getElem? h2)).1
         omega
     | succ a=>
       cases b with
       | zero=>
         simp at h1 h2
         have:=(idxsF_mem (List.mem_of_getElem? h1)).1
         omega
       | succ b=>
         have:=idxsF_inj (s:=s) (k:=k + 1) (L:=L) (a:=a) (b:=b) (i:=i) (by simpa using h1) (by simpa using h2)
         omega
   · rename_i hs
     rw [if_neg hs] at h2
     exact idxsF_inj h1 h2
theorem Den.val {s w : Nat} {r : List Tr} (h : Den sh L s w r) : ∀ {w' : Nat} {r' : List Tr},Den sh L s w' r'→w = w'→IsV r→IsV r'→r = r':=by
 induction h with
 | num s z hk=>
   intro w' r' h' e v v'
   cases h' with
   | num _ z' hk'=>
     cases v with | mk _ _ _ _ _ hz=>
     cases v' with | mk _ _ _ _ _ hz'=>
     have : z = z':=by omega
     rw [this]
   | nil _ hk'=>omega
   | sym _ _ _ _ _ _ hk'=>omega
   | node _ _ _ _ _ _ _ _ hk'=>omega
 | nil s hk=>
   intro w' r' h' e v v'
   cases h' with
   | num _ z' hk'=>omega
   | nil _ hk'=>rfl
   | sym _ _ _ _ _ _ hk'=>omega
   | node _ _ _ _ _ _ _ _ hk' hw hf=>
     have : fst0 sh s = 1:=by simp [fst0,hk]
     omega
 | sym s l t w i th hk hi ht hx=>
   intro w' r' h' e v v'
   subst e
   cases h' with
   | num _ z' hk'=>omega
   | nil _ hk'=>omega
   | sym _ l' t' _ i' th' hk' hi' ht' hx'=>
     rw [hi] at hi'
     cases hi'
     rw [ht] at ht'
     cases ht'
     rw [hx] at hx'
     cases v with | mk _ _ _ _ _ _ _ _ _ hlt=>
     cases v' with | mk _ _ _ _ _ _ _ _ _ hlt'=>
     obtain ⟨_,b2,b3⟩:=digN_ok l t hlt
     obtain ⟨_,c2,c3⟩:=digN_ok l' t' hlt'
     have e1 : l = l':=by rw [← b2,← c2,hx']
     have e2 : t = t':=by rw [← b3,← c3,hx']
     rw [e1,e2]
   | node _ _ _ _ _ _ _ _ hk'=>omega
 | node s k b want kids w i th hk hw hf hi ht hb hl hpl hd ih=>
   intro w' r' h' e v v'
   subst e
   cases h' with
   | num _ z' hk'=>omega
   | nil _ hk'=>
     have : fst0 sh s = 1:=by simp [fst0,hk']
     omega
   | sym _ _ _ _ _ _ hk'=>omega
   | node _ k' b' want' kids' _ i' th' hk' hw' hf' hi' ht' hb' hl' hpl' hd'=>
     rw [hi] at hi'
     cases hi'
     rw [ht] at ht'
     cases ht'
     rw [hb] at hb'
     subst hb'
     rw [hw] at hw'
     cases hw'
     have ek : k = k':=by omega
     cases v with | mk _ _ _ _ _ _ _ _ hv=>
     cases v' with | mk _ _ _ _ _ _ _ _ hv'=>
     have e : kids = kids':=by
      apply List.ext_getElem (by omega)
      intro j h1 h2
      have j1 : want[j]? = some want[j]:=List.getElem?_eq_getElem (by omega)
      have j2 : th.parts[j]? = some th.parts[j]:=List.getElem?_eq_getElem (by omega)
      exact ih j _ _ _ j1 j2 (List.getElem?_eq_getElem h1) (hd' j _ _ _ j1 j2 (List.getElem?_eq_getElem h2)) rfl (hv _ (List.getElem_mem h1)) (hv' _ (List.getElem_mem h2))
     rw [ek,e]
theorem Den.word (g : Good sh L) {s w : Nat} {r : List Tr} (h : Den sh L s w r) : ∀ {w' : Nat},Den sh L s w' r→w = w':=by
 induction h with
 | num s z hk=>
   intro w' h'
   cases h' with
   | num=>rfl
   | node _ _ _ _ _ _ _ _ hk'=>omega
 | nil s hk=>
   intro w' h'
   cases h' with
   | nil=>rfl
   | node _ _ _ _ _ _ _ _ hk'=>omega
 | sym s l t w i th hk hi ht hx=>
   intro w' h'
   cases h' with
   | sym _ _ _ _ i' th' hk' hi' ht' hx'=>
     obtain ⟨u,hu,hus⟩:=idxs_mem (List.mem_of_getElem? hi)
     obtain ⟨u',hu',hus'⟩:=idxs_mem (List.mem_of_getElem? hi')
     rw [ht] at hu; cases hu
     rw [ht'] at hu'; cases hu'
     have f1:=(g.form _ (List.mem_of_getElem? ht)).sym (by rw [hus]; exact hk)
     have f2:=(g.form _ (List.mem_of_getElem? ht')).sym (by rw [hus']; exact hk)
     have:=apt_inj g.apt ht ht' (alike_key ⟨by rw [hus,hus'],by rw [f1.1,f2.1],by rw [f1.2,f2.2],by rw [hx,hx']⟩)
     subst this
     exact idxsF_inj hi hi'
   | node _ _ _ _ _ _ _ _ hk'=>omega
 | node s k b want kids w i th hk hw hf hi ht hb hl hpl hd ih=>
   intro w' h'
   generalize hz : Int.ofNat b = z at h'
   generalize hl0 : (0 : Nat) = l0 at h'
   generalize hkk : k = k0 at h'
   cases h' with
   | num=>omega
   | nil=>omega
   | sym=>omega
   | node _ _ b' want' _ _ i' th' hk' hw' hf' hi' ht' hb' hl' hpl' hd'=>
     cases hz
     rw [hw] at hw'
     cases hw'
     obtain ⟨u,hu,hus⟩:=idxs_mem (List.mem_of_getElem? hi)
     obtain ⟨u',hu',hus'⟩:=idxs_mem (List.mem_of_getElem? hi')
     rw [ht] at hu; cases hu
     rw [ht'] at hu'; cases hu'
     have f1:=(g.form _ (List.mem_of_getElem? ht)).node (by rw [hus]; omega)
     have f2:=(g.form _ (List.mem_of_getElem? ht')).node (by rw [hus']; omega)
     have ep : th.parts = th'.parts:=by
      apply List.ext_getElem (by omega)
      intro j h1 h2
      have j1 : want[j]? = some want[j]:=List.getElem?_eq_getElem (by omega)
      have j3 : kids[j]? = some kids[j]:=List.getElem?_eq_getElem (by omega)
      exact ih j _ _ _ j1 (List.getElem?_eq_getElem h1) j3 (hd' j _ _ _ j1 (List.getElem?_eq_getElem h2) j3)
     have:=apt_inj g.apt ht ht' (alike_key ⟨by rw [hus,hus'],by rw [hb,hb'],ep,by rw [f1.1,f2.1]⟩)
     subst this
     have:=idxsF_inj hi hi'
     omega
mutual
def wvT : Tr→Nat
 | .i _ _=>0
 | .s l _=>l / 64
 | .b _=>0
 | .sl _ rows=>wvRows rows
def wvRow : List Tr→Nat
 | []=>0
 | t :: r=>wvT t + wvRow r
def wvRows : List (List Tr)→Nat
 | []=>0
 | r :: rs=>1 + wvRow r + wvRows rs
end
structure WF (sh : List Sh) (L : List Th) (s : Nat) (r : List Tr) (q : Option Nat × List Th) : Prop where
 pre : L <+: q.2
 len : q.2.length ≤ L.length + 1 + wvRow r
 good : Good sh q.2
 den : ∀ w,q.1 = some w→Den sh q.2 s w r∧w < 18446744073709551616
 no : q.1 = none→q.2 ≠ []
 back : ∀ w,Den sh L s w r→q = (some w,L)
structure KF (sh : List Sh) (L : List Th) (want : List Nat) (kids : List (List Tr)) (q : Option (List Nat) × List Th) : Prop where
 pre : L <+: q.2
 len : q.2.length ≤ L.length + wvRows kids
 good : Good sh q.2
 den : ∀ ws,q.1 = some ws→ws.length = kids.length∧∀ (j a x : Nat) (r : List Tr),want[j]? = some a→ws[j]? = some x→kids[j]? = some r→Den sh q.2 a x r∧x < 18446744073709551616
 no : q.1 = none→q.2 ≠ []
 back : ∀ ws,ws.length = kids.length→(∀ (j a x : Nat) (r : List Tr),want[j]? = some a→ws[j]? = some x→kids[j]? = some r→Den sh L a x r)→q = (some ws,L)
theorem good_put {t : Th} (g : Good sh L) (ht : Form sh t) (hd : t.deep ≤ 100) (hk : ThOk t∧t.parts.length ≤ 100∧t.shape < sh.length) (hp : kindOf sh t.shape ≠ 2→∀ want,wantOf sh t.shape (.ofNat t.branch) = some want→Valid sh L want t.parts∧deepF sh L 1 want t.parts ≤ 100) : Good sh (putP sh L t).2:=by
 have pl:=putP_law g.form ht
 refine ⟨fun u hu=>(pl.mem u hu).elim (g.form u) fun e=>by rw [e]; exact ht,fun u hu=>(pl.mem u hu).elim (g.deep u) fun e=>by rw [e]; exact hd,?_,fun u hu=>(pl.mem u hu).elim (g.ok u) fun e=>by rw [e]; exact hk,fun u hu hk2 want hw=>?_⟩
 rotate_left
 · obtain ⟨R,e⟩:=pl.pre
   rw [← e]
   have:=(pl.mem u hu).elim (fun h=>g.dp u h hk2 want hw) fun h=>by subst h; exact hp hk2 want hw
   exact ⟨this.1.mono R,by rw [deepF_mono R this.1]; exact this.2⟩
 unfold putP
 cases hf : (mapL sh L).find? (fun x=>x.1 = keyB t) with
 | some x=>exact g.apt
 | none=>
   show ((mapL sh (L ++ [t])).map (·.1)).Nodup
   rw [mapL,mapF_app,List.map_append,List.nodup_append]
   refine ⟨g.apt,by simp [mapF],fun x hx y hy e=>?_⟩
   subst e
   obtain ⟨z,hz,rfl⟩:=List.mem_map.1 hx
   have:=List.find?_eq_none.1 hf z hz
   simp [mapF] at hy
   simp [hy] at this
theorem symT_form (ok : ShsOk sh) (bs : List Nat) : Form sh (symT bs):=⟨fun _=>⟨rfl,rfl⟩,fun h=>absurd ok.k1 h⟩
end Go.Ev.WIB

/- InternBack: a value's word: the walk. -/
namespace Go.Ev.WIB
open Go.Proofs
set_option maxRecDepth 100000
section
variable {h : Heap} {p : Bid} {sh : List Sh} {L : List Th} {S X : Nat→Prop} {n d : Nat}
def Xb (X : Nat→Prop) (b : Bid) (x : Nat) : Prop:=X x ∨ x = b.val
theorem TabR.addX (w : TabR h p sh L S X) {h' : Heap} (u : Up h h') {b : Bid} (h1 : h.nx.val ≤ b.val) (h2 : b.val < h'.nx.val) : TabR h' p sh L S (Xb X b):=by
 have w':=w.up u
 obtain ⟨bo,bm,c,va,vs,cells,pv,wx⟩:=w
 have lt : ∀ x,S x→x < h.nx.val:=fun x hx=>wx.lts hx
 have u':=wx.up u
 refine ⟨bo,bm,c,va,vs,cells,pv,u'.row,u'.of,u'.len,u'.all,u'.pl,?_,u'.idx,u'.map,?_,?_,u'.lt,u'.ne,u'.oa,u'.oc,u'.occ,u'.mem⟩
 · exact fun i t v e1 e2=>(wx.parts i t v e1 e2).mv (fun x hx=>⟨Nat.lt_of_lt_of_le hx.1 u.nx,fun e=>e.elim (fun e=>hx.2 (.inl e)) fun e=>e.elim (fun e=>hx.2 (.inr e)) fun e=>by have:=hx.1; omega⟩) fun b hb=>u.get b hb.1
 · exact wx.shp.mv (fun x hx=>⟨Nat.lt_of_lt_of_le hx.1 u.nx,fun e=>e.elim (fun e=>hx.2 (.inl e)) fun e=>e.elim (fun e=>hx.2 (.inr e)) fun e=>by have:=hx.1; omega⟩) fun b hb=>u.get b hb.1
 · rintro x (hx | hx)
   · exact u'.xs x hx
   · exact ⟨by omega,fun e=>by have:=lt x e; omega⟩
theorem TabR.dropX (w : TabR h p sh L S X) {Y : Nat→Prop} (hy : ∀ x,Y x→X x) : TabR h p sh L S Y:=by
 obtain ⟨bo,bm,c,va,vs,cells,pv,wx⟩:=w
 have sub : ∀ x,Still h (SX S X) x→Still h (SX S Y) x:=fun x hx=>⟨hx.1,fun e=>hx.2 (e.imp id (hy x))⟩
 exact ⟨bo,bm,c,va,vs,cells,pv,wx.row,wx.of,wx.len,wx.all,wx.pl,fun i t v e1 e2=>(wx.parts i t v e1 e2).mv sub fun _ _=>rfl,wx.idx,wx.map,wx.shp.mv sub fun _ _=>rfl,fun x hx=>wx.xs x (hy x hx),wx.lt,wx.ne,wx.oa,wx.oc,wx.occ,wx.mem⟩
theorem TabR.extX (w : TabR h p sh L S X) {h' : Heap} (u : Chg X h h') : TabR h' p sh L S X:=by
 obtain ⟨bo,bm,c,va,vs,cells,pv,wx⟩:=w
 have nx : ∀ x,S x→¬ X x:=fun x hs hx=>(wx.xs x hx).2 hs
 have m:=fun x e=>(wx.mem x).2 e
 refine ⟨bo,bm,c,va,vs,cells,pv,u.row wx.row wx.lt.1 (nx _ (m _ (.inl rfl))),u.row wx.of wx.lt.2.1 (nx _ (m _ (.inr (.inl rfl)))),wx.len,wx.all.chg u fun x hx=>Classical.byContradiction fun e=>nx x (m x (.inr (.inr (.inr (.inl e))))) hx,wx.pl,?_,?_,wx.map.keep (u.get bm wx.lt.2.2 (nx _ (m _ (.inr (.inr (.inl rfl)))))),?_,?_,?_,wx.ne,wx.oa,wx.oc,wx.occ,wx.mem⟩
 · exact fun i t v e1 e2=>(wx.parts i t v e1 e2).mv (fun x hx=>⟨Nat.lt_of_lt_of_le hx.1 u.nx,hx.2⟩) fun b hb=>u.get b hb.1 fun e=>hb.2 (.inr e)
 · exact fun s v hv=>(wx.idx s v hv).chg u fun x hx=>Classical.byContradiction fun e=>nx x (m x (.inr (.inr (.inr (.inr ⟨v,List.mem_of_getElem? hv,e⟩))))) hx
 · exact wx.shp.mv (fun x hx=>⟨Nat.lt_of_lt_of_le hx.1 u.nx,hx.2⟩) fun b hb=>u.get b hb.1 fun e=>hb.2 (.inr e)
 · exact fun x hx=>⟨Nat.lt_of_lt_of_le (wx.xs x hx).1 u.nx,(wx.xs x hx).2⟩
 · have:=u.nx
   obtain ⟨h1,h2,h3⟩:=wx.lt
   exact ⟨by omega,by omega,by omega⟩
theorem make_words (h : Heap) {m : Nat} (hm : m ≤ 16777216) : ∃ h',(∀ q : V→Heap→Res,words.make 1 [.int .u64 (.ofNat 0)] (ik m) (ik m) h q = q (.slice h.nx 0 m (some m) 1) h')∧Row (h'.t.get h.nx) 1 (List.replicate m (.int .u64 (.ofNat 0)))∧Up h h'∧h.nx.val < h'.nx.val:=by
 obtain ⟨h',e,r,u⟩:=newk_law h (.arr 1 m (repT [.int .u64 (.ofNat 0)] m m) false)
 refine ⟨h',fun q=>?_,?_,u.up,u.lt⟩
 · show ifk (Nat.ble m m) (ifk (Nat.ble m 16777216) (h.newk (.arr 1 m (repT [.int .u64 (.ofNat 0)] m m) false) fun bb h'=>q (.slice bb 0 m (some m) 1) h') .fail) .fail = _
   rw [ble_of (Nat.le_refl _),ifk_true,ble_of hm,ifk_true]
   exact e _
 · have:=Row.rep [V.int .u64 (.ofNat 0)] (by simp) m
   rw [r]
   have e : (List.replicate m [V.int .u64 (.ofNat 0)]).flatten = List.replicate m (.int .u64 (.ofNat 0)):=by
    induction m with
    | zero=>rfl
    | succ m ih=>simp [List.replicate_succ]
   rw [e] at this
   exact this
abbrev uV (x : Nat) : V:=.int .u64 (.ofNat x)
theorem row_words {b : Bid} {ws : List Nat} {A : Nat→Prop} (r : Row (h.t.get b) 1 (ws.map uV)) (hA : A b.val) (c : Option Nat) : CellA h A (.sl 1 (ws.map wT)) (.slice b 0 ws.length c 1):=by
 have:=CellA.sl (h:=h) (A:=A) 1 (ws.map wT) b 0 c false (ws.map uV) hA r (by simp) (by intro r hr; obtain ⟨x,_,rfl⟩:=List.mem_map.1 hr; rfl) (by
  intro i r' j t v h1 h2 h3
  rw [List.getElem?_map] at h1
  obtain ⟨x,h4,rfl⟩:=Option.map_eq_some_iff.1 h1
  match j,h2 with
  | 0,h2=>
    cases h2
    rw [Nat.mul_one,Nat.zero_add,Nat.add_zero,List.getElem?_map,h4] at h3
    cases h3
    exact .i _ _
  | j + 1,h2=>simp at h2)
 rw [List.length_map] at this
 exact this
end
end Go.Ev.WIB

/- InternBack: what is taken back: keys, places, things. -/
namespace Go.Ev.WIB
open Go.Proofs
set_option maxRecDepth 100000
structure TabJ (h : Heap) (p bo bm : Bid) (c : Option Nat) (va vs : V) (cells pv : List V) (sh : List Sh) (L : List Th) (K : Nat→Nat) (M : List (List Nat × Nat)) (S X : Nat→Prop) : Prop where
 row : Row (h.t.get p) 4 [va,.slice bo 0 cells.length c 1,vs,.map bm]
 of : Row (h.t.get bo) 1 cells
 len : cells.length = sh.length
 all : Hld h 5 va (thCs L pv)
 pl : pv.length = L.length
 parts : ∀ (i : Nat) (t : Th) (v : V),L[i]? = some t→pv[i]? = some v→CellA h (Still h (SX S X)) (.sl 1 (t.parts.map wT)) v
 idx : ∀ (s : Nat) (v : V),cells[s]? = some v→Hld h 1 v (((idxs L s).take (K s)).map fun i=>I (.ofNat i))
 map : MapIs h bm M
 shp : CellA h (Still h (SX S X)) (.sl 3 (sh.map shT)) vs
 xs : ∀ x,X x→x < h.nx.val∧¬ S x
 lt : p.val < h.nx.val∧bo.val < h.nx.val∧bm.val < h.nx.val
 ne : p.val ≠ bo.val∧p.val ≠ bm.val∧bo.val ≠ bm.val
 oa : Off va p.val∧Off va bo.val∧Off va bm.val
 oc : ∀ v ∈ cells,Off v p.val∧Off v bo.val∧Off v bm.val∧Apart va v
 occ : ∀ (s s' : Nat) (v v' : V),cells[s]? = some v→cells[s']? = some v'→s ≠ s'→Apart v v'
 mem : ∀ x,Sof p bo bm va cells x→S x
 lts : ∀ x,S x→x < h.nx.val
section
variable {h : Heap} {p bo bm : Bid} {c : Option Nat} {va vs : V} {cells pv : List V} {sh : List Sh} {L : List Th} {K : Nat→Nat} {M : List (List Nat × Nat)} {S X : Nat→Prop} {n d : Nat}
theorem TabJ.up (w : TabJ h p bo bm c va vs cells pv sh L K M S X) {h' : Heap} (u : Up h h') : TabJ h' p bo bm c va vs cells pv sh L K M S X where
 row:=by rw [u.get p w.lt.1]; exact w.row
 of:=by rw [u.get bo w.lt.2.1]; exact w.of
 len:=w.len
 all:=w.all.up u
 pl:=w.pl
 parts i t v h1 h2:=(w.parts i t v h1 h2).stay u fun x hx=>hx.elim (w.lts x) fun h=>(w.xs x h).1
 idx s v hv:=(w.idx s v hv).up u
 map:=w.map.keep (u.get bm w.lt.2.2)
 shp:=w.shp.stay u fun x hx=>hx.elim (w.lts x) fun h=>(w.xs x h).1
 xs x hx:=⟨Nat.lt_of_lt_of_le (w.xs x hx).1 u.nx,(w.xs x hx).2⟩
 lt:=by have:=u.nx; obtain ⟨h1,h2,h3⟩:=w.lt; omega
 ne:=w.ne
 oa:=w.oa
 oc:=w.oc
 occ:=w.occ
 mem:=w.mem
 lts x hx:=Nat.lt_of_lt_of_le (w.lts x hx) u.nx
end
end Go.Ev.WIB

/- InternBack: Word; sizes; what is the same. -/
namespace Go.Ev.WIB
open Go.Proofs
set_option maxRecDepth 100000
theorem Den.fits {sh : List Sh} {L : List Th} {s w : Nat} {r : List Tr} (h : Den sh L s w r) : Fits sh s r:=by
 induction h with
 | num s z hk=>exact .num s z hk
 | nil s hk=>exact .nil s hk
 | sym s l t w i th hk=>exact .sym s l t hk
 | node s k b want kids w i th hk hw hf hi ht hb hl hpl hd ih=>
   refine .node s k _ want kids hk hw hl fun j a r h1 h2=>?_
   have hj : j < th.parts.length:=by have:=(List.getElem?_eq_some_iff.1 h1).1; omega
   exact ih j a th.parts[j] r h1 (List.getElem?_eq_getElem hj) h2
section
variable {h : Heap} {p : Bid} {sh : List Sh} {L : List Th} {S X : Nat→Prop} {n d : Nat}
end
end Go.Ev.WIB

/- InternBack: Value. -/
namespace Go.Ev.WIB
open Go.Proofs
set_option maxRecDepth 100000
section
variable {p : Bid} {sh : List Sh} {L : List Th} {S X : Nat→Prop} {n d : Nat}
end
end Go.Ev.WIB

/- InternBack: New. -/
namespace Go.Ev.WIB
open Go.Proofs
set_option maxRecDepth 100000
structure Ra where
 kind : Nat
 fields : List Int
 cases : List (List Int)
abbrev zT (z : Int) : List Tr:=[.i .i64 z]
abbrev zV' (z : Int) : V:=.int .i64 z
def raT (x : Ra) : List Tr:=[.i .u8 (.ofNat x.kind),.sl 1 (x.fields.map zT),.sl 1 (x.cases.map fun c=>[.sl 1 (c.map zT)])]
def raS (x : Ra) : Sh:=⟨x.kind,x.fields.map Int.toNat,x.cases.map fun c=>c.map Int.toNat⟩
section
variable {h : Heap} {n d : Nat}
theorem int_at {A : Nat→Prop} {zs : List Int} {v : V} (w : CellA h A (.sl 1 (zs.map zT)) v) {i : Nat} (hi : i < zs.length) : ∃ b o m,v = .slice b o zs.length m 1∧∀ q : V→Res,words.load1 h b (Nat.add o i) q = q (zV' zs[i]):=by
 obtain ⟨b,o,m,l',e,r,_,_,_,ld⟩:=w.row (i:=i) (by simpa using hi)
 rw [List.getElem_map] at r
 obtain ⟨v0,rfl,r0⟩:=r.inv1
 obtain rfl:=r0.int_inv
 rw [List.length_map] at e
 refine ⟨b,o,m,e,fun k=>?_⟩
 have:=ld 0 _ rfl k
 rw [Nat.mul_one,Nat.add_zero] at this
 exact this
theorem src_ints {A : Nat→Prop} {zs : List Int} {v : V} (w : CellA h A (.sl 1 (zs.map zT)) v) (k : Nat→List V→Res) : srck 1 v h k = k zs.length (zs.map zV'):=by
 generalize hr : zs.map zT = rows at w
 have hl : zs.length = rows.length:=by rw [← hr,List.length_map]
 cases w with
 | nils=>
   have : zs = []:=by simpa using hr
   subst this; rfl
 | emp=>
   have : zs = []:=by simpa using hr
   subst this; rfl
 | sl _ _ b o c op cs hb row fit wid hs=>
   show loadk h b o (Nat.mul rows.length 1) (fun cs=>k rows.length cs) = _
   rw [show Nat.mul rows.length 1 = rows.length by exact Nat.mul_one _,loadk_law row (by omega),hl]
   congr 1
   apply List.ext_getElem (by simp; omega)
   intro i h1 h2
   simp at h1 h2
   have hi : o + i < cs.length:=by omega
   have:=hs i (zT zs[i]) 0 (.i .i64 zs[i]) cs[o + i] (by rw [← hr,List.getElem?_map,List.getElem?_eq_getElem (by omega)]; rfl) rfl (by rw [Nat.mul_one,Nat.add_zero,List.getElem?_eq_getElem hi])
   simp only [List.getElem_take,List.getElem_drop,List.getElem_map]
   exact this.int_inv
theorem own_ints {lo : Nat} {zs : List Int} {v : V} (w : Own h lo v (zs.map zV')) : CellA h (fun x=>lo ≤ x∧x < h.nx.val) (.sl 1 (zs.map zT)) v:=by
 generalize hr : zs.map zV' = l at w
 cases w with
 | nils=>
   have : zs = []:=by simpa using hr
   subst this; exact .nils 1
 | sl b c _ blo bhi row cap=>
   have hl : l.length = (zs.map zT).length:=by rw [← hr]; simp
   rw [hl]
   refine .sl 1 _ b 0 c false l ⟨blo,bhi⟩ row (by omega) (by intro r hr'; obtain ⟨x,_,rfl⟩:=List.mem_map.1 hr'; rfl) ?_
   intro i r j t v h1 h2 h3
   rw [List.getElem?_map] at h1
   obtain ⟨x,h4,rfl⟩:=Option.map_eq_some_iff.1 h1
   match j,h2 with
   | 0,h2=>
     cases h2
     rw [← hr,Nat.mul_one,Nat.zero_add,Nat.add_zero,List.getElem?_map,h4] at h3
     cases h3
     exact .i _ _
   | j + 1,h2=>simp at h2
theorem clone_ints {A : Nat→Prop} {zs : List Int} {v : V} (w : CellA h A (.sl 1 (zs.map zT)) v) (hA : ∀ x,A x→x < h.nx.val) (hl : zs.length ≤ 16777216) :
 ∃ h' v',call tabW n (d + 1) f17 [v] h = .ret v' h'∧CellA h' (fun x=>h.nx.val ≤ x∧x < h'.nx.val) (.sl 1 (zs.map zT)) v'∧Up h h':=by
 by_cases hn : v = .nils
 · subst hn
   refine ⟨h,.nils,?_,?_,.refl _⟩
   · have sn : ∀ q : Bool→Res,snk .nils q = q true:=fun q=>rfl
     rw [call17]
     simp -implicitDefEqProofs only [sh17,↓sn,↓evR]
   · generalize zs.map zT = rows at w
     cases w
     exact .nils 1
 · obtain ⟨h1,e1,r1,u1⟩:=newk_law h (.arr 1 0 .e false)
   have U1:=u1.up
   have e1' : ∀ q,words.new h (.arr 1 0 .e .false) q = q h.nx h1:=e1
   have w1 : CellA h1 A (.sl 1 (zs.map zT)) v:=w.mv (fun _ hx=>hx) fun b hb=>U1.get b (hA _ hb)
   have ow : Own h1 h.nx.val (.slice h.nx 0 0 (some 0) 1) []:=.sl h.nx (some 0) [] (Nat.le_refl _) u1.lt ⟨0,.e,r1,wf_e (by omega),rfl,fun i=>by simp [T.cell,T.get]⟩ fun n hn=>by cases hn; rfl
   obtain ⟨h2,v2,e2,w2,U2⟩:=appendk_own ow (new:=zs.map zV') U1.nx (by simpa using hl)
   have e2' : ∀ q : V→Heap→Res,words.app 1 (.slice h.nx 0 0 (.some 0) 1) v h1 q = q v2 h2:=fun q=>by
    show srck 1 v h1 (fun m new=>appendk 1 (.slice h.nx 0 0 (.some 0) 1) m new h1 q) = _
    rw [src_ints w1]
    have:=e2 q
    rw [List.length_map] at this
    exact this
   have r0 : ∀ q : T→Res,words.row 1 0 [] q = q .e:=fun q=>rfl
   have sn : ∀ q : Bool→Res,snk v q = q false:=fun q=>by
    generalize zs.map zT = rows at w
    cases w with
    | nils=>exact absurd rfl hn
    | emp=>rfl
    | sl=>rfl
   refine ⟨h2,v2,?_,own_ints (by simpa using w2),⟨Nat.le_trans U1.nx U2.nx,fun b hb=>(U2.get b hb).trans (U1.get b hb)⟩⟩
   rw [call17]
   simp -implicitDefEqProofs only [sh17,↓sn,↓r0,↓e1',↓e2',↓evR]
theorem cv52 (cf : CF) (caps : List V) (x : V) (h : Heap) : callv cf (.func 52 caps) [x] h = cf f52 (x :: caps) h:=rfl
theorem cv39 (cf : CF) (caps : List V) (x : V) (h : Heap) : callv cf (.func 39 caps) [x] h = cf f39 (x :: caps) h:=rfl
theorem out_law {p0 : Bid} {N : Nat} (r : Row (h.t.get p0) 1 [ik N]) (z : Int) : call tabW n (d + 1) f52 [zV' z,.ptr p0 0] h = .ret (.bool (!decide (0 ≤ z∧z < N))) h:=by
 have c0 : ∀ q : V→Res,words.load1 h p0 0 q = q (ik N):=fun q=>load1k_law r rfl q
 have k3 : Nat.beq (kno .i64) (kno .i64) = true:=rfl
 rw [call52]
 cases z with
 | negSucc z=>
   have n1 : ilt (.negSucc z) (.ofNat 0) = true:=rfl
   have e : decide (0 ≤ Int.negSucc z∧Int.negSucc z < (N : Int)) = false:=decide_eq_false fun h=>by omega
   rw [e]
   simp -implicitDefEqProofs only [sh52,↓n1,↓evR]
 | ofNat z=>
   have n1 : ilt (.ofNat z) (.ofNat 0) = false:=ilt_false (by omega)
   by_cases hz : z < N
   · have n2:=ilt_true hz
     have e : decide (0 ≤ Int.ofNat z∧Int.ofNat z < (N : Int)) = true:=by simp; omega
     rw [e]
     simp -implicitDefEqProofs only [sh52,↓n1,↓c0,↓n2,↓evR]
   · have n2:=ilt_false hz
     have e : decide (0 ≤ Int.ofNat z∧Int.ofNat z < (N : Int)) = false:=by simp; omega
     rw [e]
     simp -implicitDefEqProofs only [sh52,↓n1,↓c0,↓n2,↓evR]
theorem idx63_loop {hs : Heap} {A : Nat→Prop} {zs : List Int} {v : V} {p0 : Bid} {N : Nat} (w : CellA hs A (.sl 1 (zs.map zT)) v) (hl : zs.length ≤ 1000000) (r : Row (hs.t.get p0) 1 [ik N]) :
 ∀ (j : Nat) {i q : Nat},i + j = zs.length→j < q→∃ x,lpk (b63_1 words n (call tabW n (d + 1))) q [v,.func 52 [.ptr p0 0],I (.ofNat zs.length),I (.ofNat i)] hs = .ret (I x) hs∧((x = .negSucc 0∧∀ z ∈ zs.drop i,0 ≤ z∧z < N) ∨ ((∃ k,x = .ofNat k)∧¬ ∀ z ∈ zs.drop i,0 ≤ z∧z < N))
 | j,i,0,_,h0=>absurd h0 (Nat.not_lt_zero _)
 | 0,i,q + 1,hi,_=>by
   have n1 : ilt (.ofNat i) (.ofNat zs.length) = false:=ilt_false (by omega)
   refine ⟨.negSucc 0,?_,.inl ⟨rfl,by rw [List.drop_eq_nil_of_le (by omega)]; simp⟩⟩
   rw [lpk_succ]
   simp -implicitDefEqProofs only [b63_1,↓n1,↓evR]
 | j + 1,i,q + 1,hi,hq=>by
   have hik : i < zs.length:=by omega
   obtain ⟨b,o,m,e,a1⟩:=int_at w hik
   have n1:=ilt_true hik
   have n2 : Nat.blt i zs.length = true:=blt_of hik
   have n3:=ad_nat (a:=i) (b:=1) (by omega)
   have e1:=out_law (n:=n) (d:=d) r zs[i]
   have cvv:=cv52 (call tabW n (d + 1)) [.ptr p0 0] (zV' zs[i]) hs
   by_cases hz : 0 ≤ zs[i]∧zs[i] < N
   · rw [decide_eq_true hz] at e1
     obtain ⟨x,e2,hx⟩:=idx63_loop w hl r j (i:=i + 1) (q:=q) (by omega) (by omega)
     refine ⟨x,?_,hx.imp (fun ⟨h1,h2⟩=>⟨h1,fun z hz'=>?_⟩) fun ⟨h1,h2⟩=>⟨h1,fun H=>h2 fun z hz=>H z (by rw [List.drop_eq_getElem_cons hik]; exact List.mem_cons_of_mem _ hz)⟩⟩
     · rw [lpk_succ]
       subst e
       simp -implicitDefEqProofs only [b63_1,↓n1,↓n2,↓a1,↓cvv,↓e1,↓n3,↓e2,↓evR]
     · rw [List.drop_eq_getElem_cons hik] at hz'
       rcases List.mem_cons.1 hz' with rfl | hz'
       · exact hz
       · exact h2 z hz'
   · rw [decide_eq_false hz] at e1
     refine ⟨.ofNat i,?_,.inr ⟨⟨i,rfl⟩,fun H=>hz (H _ (by rw [List.drop_eq_getElem_cons hik]; exact List.mem_cons_self))⟩⟩
     rw [lpk_succ]
     subst e
     simp -implicitDefEqProofs only [b63_1,↓n1,↓n2,↓a1,↓cvv,↓e1,↓evR]
def Places (N : Nat) (zs : List Int) : Prop:=zs.length ≤ 12∧∀ z ∈ zs,0 ≤ z∧z < N
theorem places_law {A : Nat→Prop} {zs : List Int} {v : V} {N : Nat} (hn : 1000 ≤ n) (w : CellA h A (.sl 1 (zs.map zT)) v) (hA : ∀ x,A x→x < h.nx.val) :
 ∃ h' b,call tabW n (d + 1 + 1 + 1 + 1) f37 [v,ik N] h = .ret (.bool b) h'∧Up h h'∧(b = true ↔ Places N zs):=by
 obtain ⟨h0,e0,r0,U0,lt0⟩:=new_row h (g:=1) (l:=[ik N]) rfl (by omega)
 have e0' : ∀ q,words.new h (.arr 1 1 (.lf [ik N]) .false) q = q h.nx h0:=e0
 have ln : ∀ q : Nat→Res,lenk v q = q zs.length:=fun q=>by rw [w.lenk,List.length_map]
 by_cases hl : zs.length ≤ 12
 · have n1 : ilt (.ofNat 12) (.ofNat zs.length) = false:=ilt_false (by omega)
   obtain ⟨x,e1,hx⟩:=idx63_loop (n:=n) (d:=d) (hs:=h0) (w.mv (A':=A) (fun _ hx=>hx) fun b hb=>U0.get b (hA _ hb)) (by omega) r0 zs.length (i:=0) (q:=n) (by omega) (by omega)
   have e2 : call tabW n (d + 1 + 1) f63 [v,.func 52 [.ptr h.nx 0]] h0 = .ret (I x) h0:=by
    rw [call63]
    simp -implicitDefEqProofs only [sh63,↓ln,↓e1,↓evR]
   rcases hx with ⟨rfl,hall⟩ | ⟨⟨k,rfl⟩,hno⟩
   · have n2 : ilt (.negSucc 0) (.ofNat 0) = true:=rfl
     have e3 : call tabW n (d + 1 + 1 + 1) f51 [v,.func 52 [.ptr h.nx 0]] h0 = .ret (.bool false) h0:=by
      rw [call51]
      simp -implicitDefEqProofs only [sh51,↓e2,↓n2,↓evR]
     refine ⟨h0,true,?_,U0,⟨fun _=>⟨hl,by rw [List.drop_zero] at hall; exact hall⟩,fun _=>rfl⟩⟩
     rw [call37]
     simp -implicitDefEqProofs only [sh37,↓e0',↓ln,↓n1,↓e3,↓evR]
   · have n2 : ilt (.ofNat k) (.ofNat 0) = false:=ilt_false (by omega)
     have e3 : call tabW n (d + 1 + 1 + 1) f51 [v,.func 52 [.ptr h.nx 0]] h0 = .ret (.bool true) h0:=by
      rw [call51]
      simp -implicitDefEqProofs only [sh51,↓e2,↓n2,↓evR]
     refine ⟨h0,false,?_,U0,⟨fun e=>(by cases e),fun H=>absurd (by rw [List.drop_zero]; exact H.2) hno⟩⟩
     rw [call37]
     simp -implicitDefEqProofs only [sh37,↓e0',↓ln,↓n1,↓e3,↓evR]
 · have n1 : ilt (.ofNat 12) (.ofNat zs.length) = true:=ilt_true (by omega)
   refine ⟨h0,false,?_,U0,⟨fun e=>(by cases e),fun H=>absurd H.1 hl⟩⟩
   rw [call37]
   simp -implicitDefEqProofs only [sh37,↓e0',↓ln,↓n1,↓evR]
theorem idx53_loop {hs : Heap} {A : Nat→Prop} {cs : List (List Int)} {v : V} {p0 : Bid} {N : Nat} (hn : 1000 ≤ n) (hA : ∀ x,A x→x < hs.nx.val) (w : CellA hs A (.sl 1 (cs.map fun c=>[.sl 1 (c.map zT)])) v) (hl : cs.length ≤ 1000000) (lp : p0.val < hs.nx.val) (r : Row (hs.t.get p0) 1 [ik N]) :
 ∀ (j : Nat) {i q : Nat} {h : Heap},i + j = cs.length→j < q→Up hs h→∃ x h',lpk (b53_1 words n (call tabW n (d + 1 + 1 + 1 + 1 + 1))) q [v,.func 39 [.ptr p0 0],I (.ofNat cs.length),I (.ofNat i)] h = .ret (I x) h'∧Up hs h'∧((x = .negSucc 0∧∀ c ∈ cs.drop i,Places N c) ∨ ((∃ k,x = .ofNat k)∧¬ ∀ c ∈ cs.drop i,Places N c))
 | j,i,0,_,_,h0,_=>absurd h0 (Nat.not_lt_zero _)
 | 0,i,q + 1,h,hi,_,U=>by
   have n1 : ilt (.ofNat i) (.ofNat cs.length) = false:=ilt_false (by omega)
   refine ⟨.negSucc 0,h,?_,U,.inl ⟨rfl,by rw [List.drop_eq_nil_of_le (by omega)]; simp⟩⟩
   rw [lpk_succ]
   simp -implicitDefEqProofs only [b53_1,↓n1,↓evR]
 | j + 1,i,q + 1,h,hi,hq,U=>by
   have hik : i < cs.length:=by omega
   have wh:=w.mv (A':=A) (fun _ hx=>hx) fun b hb=>U.get b (hA _ hb)
   obtain ⟨b,o,m,l',e,rr,_,_,_,ld⟩:=wh.row (i:=i) (by simpa using hik)
   rw [List.getElem_map] at rr
   obtain ⟨vc,rfl,rc⟩:=rr.inv1
   rw [List.length_map] at e
   have a1 : ∀ q : V→Res,words.load1 h b (Nat.add o i) q = q vc:=fun k=>by
    have:=ld 0 _ rfl k
    rw [Nat.mul_one,Nat.add_zero] at this
    exact this
   have n1:=ilt_true hik
   have n2 : Nat.blt i cs.length = true:=blt_of hik
   have n3:=ad_nat (a:=i) (b:=1) (by omega)
   obtain ⟨h1,bb,e1,U1,hb⟩:=places_law (n:=n) (d:=d) (N:=N) hn rc (fun x hx=>Nat.lt_of_lt_of_le (hA x hx) U.nx)
   have c0 : ∀ q : V→Res,words.load1 h p0 0 q = q (ik N):=fun q=>load1k_law (r.later lp U) rfl q
   have e2 : call tabW n (d + 1 + 1 + 1 + 1 + 1) f39 [vc,.ptr p0 0] h = .ret (.bool (!bb)) h1:=by
    rw [call39]
    simp -implicitDefEqProofs only [sh39,↓c0,↓e1,↓evR]
   have cvv:=cv39 (call tabW n (d + 1 + 1 + 1 + 1 + 1)) [.ptr p0 0] vc h
   cases bb with
   | true=>
     obtain ⟨x,h2,e3,U2,hx⟩:=idx53_loop hn hA w hl lp r j (i:=i + 1) (q:=q) (h:=h1) (by omega) (by omega) (U.trans U1)
     refine ⟨x,h2,?_,U2,hx.imp (fun ⟨h1,h2⟩=>⟨h1,fun z hz'=>?_⟩) fun ⟨h1,h2⟩=>⟨h1,fun H=>h2 fun z hz=>H z (by rw [List.drop_eq_getElem_cons hik]; exact List.mem_cons_of_mem _ hz)⟩⟩
     · rw [lpk_succ]
       subst e
       simp -implicitDefEqProofs only [b53_1,↓n1,↓n2,↓a1,↓cvv,↓e2,↓n3,↓e3,↓evR]
     · rw [List.drop_eq_getElem_cons hik] at hz'
       rcases List.mem_cons.1 hz' with rfl | hz'
       · exact hb.1 rfl
       · exact h2 z hz'
   | false=>
     refine ⟨.ofNat i,h1,?_,U.trans U1,.inr ⟨⟨i,rfl⟩,fun H=>by have:=hb.2 (H _ (by rw [List.drop_eq_getElem_cons hik]; exact List.mem_cons_self)); cases this⟩⟩
     rw [lpk_succ]
     subst e
     simp -implicitDefEqProofs only [b53_1,↓n1,↓n2,↓a1,↓cvv,↓e2,↓evR]
def MayOk (x : Ra) (i N : Nat) : Prop:=(i < 2→x.kind = i + 1∧x.fields = []∧x.cases = [])∧(2 ≤ i→(x.kind = 3∧x.cases = []∧Places N x.fields) ∨ (x.kind = 4∧x.fields = []∧x.cases.length ≤ 64∧(∀ c ∈ x.cases,Places N c)∧x.cases ≠ []))
theorem may_law {A : Nat→Prop} {x : Ra} {l : List V} {i N : Nat} (hn : 1000 ≤ n) (hx : x.kind < 256) (hf : x.fields.length ≤ 140737488351232) (hc : x.cases.length ≤ 140737488351232) (hi : i ≤ 1000) (w : RowA h A (raT x) l) (hA : ∀ y,A y→y < h.nx.val) :
 ∃ h' b,call tabW n (d + 1 + 1 + 1 + 1 + 1 + 1 + 1 + 1) f16 [.agg 3 l,ik i,ik N] h = .ret (.bool b) h'∧Up h h'∧(b = true ↔ MayOk x i N):=by
 obtain ⟨v0,vf,vc,rfl,r0,rf,rc⟩:=RowA.inv3 (show RowA h A [_,_,_] l from w)
 obtain rfl:=r0.int_inv
 obtain ⟨h0,e0,row0,U0,lt0⟩:=new_row h (g:=3) (l:=[.int .u8 (.ofNat x.kind),vf,vc]) rfl (by omega)
 have e0' : ∀ q,words.new h (.arr 3 1 (.lf [.int .u8 (.ofNat x.kind),vf,vc]) .false) q = q h.nx h0:=e0
 obtain ⟨h1,e1,row1,U1,lt1⟩:=new_row h0 (g:=1) (l:=[ik N]) rfl (by omega)
 have e1' : ∀ q,words.new h0 (.arr 1 1 (.lf [ik N]) .false) q = q h0.nx h1:=e1
 have U01:=U0.trans U1
 have row0':=row0.later lt0 U1
 have c0 : ∀ q : V→Res,words.load1 h1 h.nx 0 q = q (.int .u8 (.ofNat x.kind)):=fun q=>load1k_law row0' rfl q
 have c1 : ∀ q : V→Res,words.load1 h1 h.nx 1 q = q vf:=fun q=>load1k_law row0' rfl q
 have c2 : ∀ q : V→Res,words.load1 h1 h.nx 2 q = q vc:=fun q=>load1k_law row0' rfl q
 have g0 : ∀ q : V→Res,words.load1 h1 h0.nx 0 q = q (ik N):=fun q=>load1k_law row1 rfl q
 have lf : ∀ q : Nat→Res,lenk vf q = q x.fields.length:=fun q=>by rw [rf.lenk,List.length_map]
 have lc : ∀ q : Nat→Res,lenk vc q = q x.cases.length:=fun q=>by rw [rc.lenk,List.length_map]
 have k3 : Nat.beq (kno .i64) 3 = true:=rfl
 have hA1 : ∀ y,A y→y < h1.nx.val:=fun y hy=>Nat.lt_of_lt_of_le (hA y hy) U01.nx
 have stA : ∀ {t : Tr} {v : V},CellA h A t v→CellA h1 A t v:=fun c=>c.mv (fun _ hx=>hx) fun b hb=>U01.get b (hA _ hb)
 have f0 : x.fields.length = 0 ↔ x.fields = []:=List.length_eq_zero_iff
 have g00 : x.cases.length = 0 ↔ x.cases = []:=List.length_eq_zero_iff
 by_cases hi2 : i < 2
 · have n1:=ilt_true hi2
   have n2 : wrapv .i64 (.ofNat x.kind) = .ofNat x.kind:=wrapv_small .i64 _ (small_i64 (by omega))
   have n3:=ad_nat (a:=i) (b:=1) (by omega)
   have n4 : wrapv .i64 (Int.add (.ofNat x.fields.length) (.ofNat x.cases.length)) = .ofNat (x.fields.length + x.cases.length):=wrapv_small .i64 (x.fields.length + x.cases.length) (small_i64 (by omega))
   by_cases a1 : x.kind = i + 1
   · have b1 : ieq (.ofNat x.kind) (.ofNat (i + 1)) = true:=by rw [ieq_nat]; simpa using a1
     by_cases a2 : x.fields.length + x.cases.length = 0
     · have b2 : ieq (.ofNat (x.fields.length + x.cases.length)) (.ofNat 0) = true:=by rw [ieq_nat]; simpa using a2
       refine ⟨h1,true,?_,U01,⟨fun _=>⟨fun _=>⟨a1,f0.1 (by omega),g00.1 (by omega)⟩,fun h=>by omega⟩,fun _=>rfl⟩⟩
       rw [call16]
       simp -implicitDefEqProofs only [sh16,↓e0',↓e1',↓n1,↓c0,↓n2,↓n3,↓b1,↓c1,↓lf,↓c2,↓lc,↓n4,↓k3,↓b2,↓evR]
     · have b2 : ieq (.ofNat (x.fields.length + x.cases.length)) (.ofNat 0) = false:=by rw [ieq_nat]; simpa using a2
       refine ⟨h1,false,?_,U01,⟨fun e=>(by cases e),fun m=>absurd (by rw [(m.1 hi2).2.1,(m.1 hi2).2.2]; rfl) a2⟩⟩
       rw [call16]
       simp -implicitDefEqProofs only [sh16,↓e0',↓e1',↓n1,↓c0,↓n2,↓n3,↓b1,↓c1,↓lf,↓c2,↓lc,↓n4,↓k3,↓b2,↓evR]
   · have b1 : ieq (.ofNat x.kind) (.ofNat (i + 1)) = false:=by rw [ieq_nat]; simpa using a1
     refine ⟨h1,false,?_,U01,⟨fun e=>(by cases e),fun m=>absurd (m.1 hi2).1 a1⟩⟩
     rw [call16]
     simp -implicitDefEqProofs only [sh16,↓e0',↓e1',↓n1,↓c0,↓n2,↓n3,↓b1,↓evR]
 · have n1:=ilt_false hi2
   by_cases a3 : x.kind = 3
   · have b3 : ieq (.ofNat x.kind) (.ofNat 3) = true:=by rw [ieq_nat]; simpa using a3
     by_cases a4 : x.cases.length = 0
     · have b4 : ieq (.ofNat x.cases.length) (.ofNat 0) = true:=by rw [ieq_nat]; simpa using g00.1 a4
       obtain ⟨h2,b,e2,U2,hb⟩:=places_law (n:=n) (d:=d + 1 + 1 + 1) (N:=N) hn (stA rf) hA1
       refine ⟨h2,b,?_,U01.trans U2,⟨fun e=>⟨fun h=>by omega,fun _=>.inl ⟨a3,g00.1 a4,hb.1 e⟩⟩,fun m=>hb.2 ((m.2 (by omega)).elim (fun k=>k.2.2) fun k=>by have:=k.1; omega)⟩⟩
       rw [call16]
       simp -implicitDefEqProofs only [sh16,↓e0',↓e1',↓n1,↓c0,↓b3,↓c2,↓lc,↓b4,↓c1,↓g0,↓e2,↓evR]
     · have b4 : ieq (.ofNat x.cases.length) (.ofNat 0) = false:=by rw [ieq_nat]; simpa using a4
       refine ⟨h1,false,?_,U01,⟨fun e=>(by cases e),fun m=>(m.2 (by omega)).elim (fun k=>absurd (g00.2 k.2.1) a4) fun k=>by have:=k.1; omega⟩⟩
       rw [call16]
       simp -implicitDefEqProofs only [sh16,↓e0',↓e1',↓n1,↓c0,↓b3,↓c2,↓lc,↓b4,↓evR]
   · have b3 : ieq (.ofNat x.kind) (.ofNat 3) = false:=by rw [ieq_nat]; simpa using a3
     by_cases a4 : x.kind = 4
     · have b4 : ieq (.ofNat x.kind) (.ofNat 4) = true:=by rw [ieq_nat]; simpa using a4
       by_cases a5 : x.fields.length = 0
       · have b5 : ilt (.ofNat 0) (.ofNat x.fields.length) = false:=ilt_false (by omega)
         by_cases a6 : x.cases.length = 0
         · have b6 : ieq (.ofNat x.cases.length) (.ofNat 0) = true:=by rw [ieq_nat]; simpa using g00.1 a6
           refine ⟨h1,false,?_,U01,⟨fun e=>(by cases e),fun m=>(m.2 (by omega)).elim (fun k=>by have:=k.1; omega) fun k=>absurd (g00.1 a6) k.2.2.2.2⟩⟩
           rw [call16]
           simp -implicitDefEqProofs only [sh16,↓e0',↓e1',↓n1,↓c0,↓b3,↓b4,↓c1,↓lf,↓k3,↓b5,↓c2,↓lc,↓b6,↓evR]
         · have b6 : ieq (.ofNat x.cases.length) (.ofNat 0) = false:=by rw [ieq_nat]; simpa using a6
           by_cases a7 : x.cases.length ≤ 64
           · have b7 : ilt (.ofNat 64) (.ofNat x.cases.length) = false:=ilt_false (by omega)
             obtain ⟨z,h2,e2,U2,hz⟩:=idx53_loop (n:=n) (d:=d) (N:=N) hn hA1 (stA rc) (by omega) lt1 row1 x.cases.length (i:=0) (q:=n) (h:=h1) (by omega) (by omega) (.refl _)
             have e3 : call tabW n (d + 1 + 1 + 1 + 1 + 1 + 1) f53 [vc,.func 39 [.ptr h0.nx 0]] h1 = .ret (I z) h2:=by
              rw [call53]
              simp -implicitDefEqProofs only [sh53,↓lc,↓e2,↓evR]
             rcases hz with ⟨rfl,hall⟩ | ⟨⟨k,rfl⟩,hno⟩
             · have n2 : ilt (.negSucc 0) (.ofNat 0) = true:=rfl
               have e4 : call tabW n (d + 1 + 1 + 1 + 1 + 1 + 1 + 1) f38 [vc,.func 39 [.ptr h0.nx 0]] h1 = .ret (.bool false) h2:=by
                rw [call38]
                simp -implicitDefEqProofs only [sh38,↓e3,↓n2,↓evR]
               refine ⟨h2,true,?_,U01.trans U2,⟨fun _=>⟨fun h=>by omega,fun _=>.inr ⟨a4,f0.1 a5,a7,by rw [List.drop_zero] at hall; exact hall,fun e=>a6 (g00.2 e)⟩⟩,fun _=>rfl⟩⟩
               rw [call16]
               simp -implicitDefEqProofs only [sh16,↓e0',↓e1',↓n1,↓c0,↓b3,↓b4,↓c1,↓lf,↓k3,↓b5,↓c2,↓lc,↓b6,↓b7,↓e4,↓evR]
             · have n2 : ilt (.ofNat k) (.ofNat 0) = false:=ilt_false (by omega)
               have e4 : call tabW n (d + 1 + 1 + 1 + 1 + 1 + 1 + 1) f38 [vc,.func 39 [.ptr h0.nx 0]] h1 = .ret (.bool true) h2:=by
                rw [call38]
                simp -implicitDefEqProofs only [sh38,↓e3,↓n2,↓evR]
               refine ⟨h2,false,?_,U01.trans U2,⟨fun e=>(by cases e),fun m=>(m.2 (by omega)).elim (fun k=>by have:=k.1; omega) fun k=>absurd (by rw [List.drop_zero]; exact k.2.2.2.1) hno⟩⟩
               rw [call16]
               simp -implicitDefEqProofs only [sh16,↓e0',↓e1',↓n1,↓c0,↓b3,↓b4,↓c1,↓lf,↓k3,↓b5,↓c2,↓lc,↓b6,↓b7,↓e4,↓evR]
           · have b7 : ilt (.ofNat 64) (.ofNat x.cases.length) = true:=ilt_true (by omega)
             refine ⟨h1,false,?_,U01,⟨fun e=>(by cases e),fun m=>(m.2 (by omega)).elim (fun k=>by have:=k.1; omega) fun k=>absurd k.2.2.1 a7⟩⟩
             rw [call16]
             simp -implicitDefEqProofs only [sh16,↓e0',↓e1',↓n1,↓c0,↓b3,↓b4,↓c1,↓lf,↓k3,↓b5,↓c2,↓lc,↓b6,↓b7,↓evR]
       · have b5 : ilt (.ofNat 0) (.ofNat x.fields.length) = true:=ilt_true (by omega)
         refine ⟨h1,false,?_,U01,⟨fun e=>(by cases e),fun m=>(m.2 (by omega)).elim (fun k=>by have:=k.1; omega) fun k=>absurd (f0.2 k.2.1) a5⟩⟩
         rw [call16]
         simp -implicitDefEqProofs only [sh16,↓e0',↓e1',↓n1,↓c0,↓b3,↓b4,↓c1,↓lf,↓k3,↓b5,↓evR]
     · have b4 : ieq (.ofNat x.kind) (.ofNat 4) = false:=by rw [ieq_nat]; simpa using a4
       refine ⟨h1,false,?_,U01,⟨fun e=>(by cases e),fun m=>(m.2 (by omega)).elim (fun k=>absurd k.1 a3) fun k=>absurd k.1 a4⟩⟩
       rw [call16]
       simp -implicitDefEqProofs only [sh16,↓e0',↓e1',↓n1,↓c0,↓b3,↓b4,↓evR]
end
end Go.Ev.WIB

/- InternBack: New: a table without things. -/
namespace Go.Ev.WIB
open Go.Proofs
set_option maxRecDepth 100000
theorem toNat_list {zs : List Int} (h : ∀ z ∈ zs,0 ≤ z) : zs.map zT = (zs.map Int.toNat).map iT:=by
 rw [List.map_map]
 apply List.map_congr_left
 intro z hz
 have : z = .ofNat z.toNat:=(Int.toNat_of_nonneg (h z hz)).symm
 show zT z = iT z.toNat
 conv=>lhs; rw [this]
theorem MayOk.nn {x : Ra} {i N : Nat} (h : MayOk x i N) : (∀ z ∈ x.fields,0 ≤ z)∧(∀ c ∈ x.cases,∀ z ∈ c,0 ≤ z)∧x.fields.length ≤ 12∧x.cases.length ≤ 64∧∀ c ∈ x.cases,c.length ≤ 12:=by
 by_cases hi : i < 2
 · obtain ⟨_,h2,h3⟩:=h.1 hi
   rw [h2,h3]; simp
 · rcases h.2 (by omega) with ⟨_,h2,h3⟩ | ⟨_,h2,h4,h3⟩
   · rw [h2]
     exact ⟨fun z hz=>(h3.2 z hz).1,by simp,h3.1,by simp,by simp⟩
   · rw [h2]
     exact ⟨by simp,fun c hc z hz=>((h3.1 c hc).2 z hz).1,by simp,h4,fun c hc=>(h3.1 c hc).1⟩
section
variable {h : Heap} {n d : Nat}
theorem cases_loop {hs : Heap} {A : Nat→Prop} {cs : List (List Int)} {vc v0 v1 v15 v18 : V} {x4 x5 x6 : Int} {p3 : Bid} (hA : ∀ x,A x→x < hs.nx.val∧x ≠ p3.val) (lp : p3.val < hs.nx.val) (w : CellA hs A (.sl 1 (cs.map fun c=>[.sl 1 (c.map zT)])) vc) (hl : cs.length ≤ 64) (hc : ∀ c ∈ cs,c.length ≤ 12) :
 ∀ (j : Nat) {i q : Nat} {h : Heap} {v : V},i + j = cs.length→j < q→Old hs.nx.val p3 hs h→Row (h.t.get p3) 3 [v0,v1,v]→OwnT h hs.nx.val 1 v ((cs.take i).map fun c=>[.sl 1 (c.map zT)]) →
  ∃ h' v',lpk (b5_1 words n (call tabW n (d + 1))) q [I x4,v15,.ptr p3 0,v18,I x5,I x6,vc,I (.ofNat cs.length),I (.ofNat i)] h = .done .normal [I x4,v15,.ptr p3 0,v18,I x5,I x6] h'∧Old hs.nx.val p3 hs h'∧Row (h'.t.get p3) 3 [v0,v1,v']∧OwnT h' hs.nx.val 1 v' (cs.map fun c=>[.sl 1 (c.map zT)])
 | j,i,0,_,_,_,h0,_,_,_=>absurd h0 (Nat.not_lt_zero _)
 | 0,i,q + 1,h,v,hi,_,O,r,W=>by
   have n1 : ilt (.ofNat i) (.ofNat cs.length) = false:=ilt_false (by omega)
   refine ⟨h,v,?_,O,r,by rwa [List.take_of_length_le (by omega)] at W⟩
   rw [lpk_succ]
   simp -implicitDefEqProofs only [b5_1,↓n1,↓evR]
 | j + 1,i,q + 1,h,v,hi,hq,O,r,W=>by
   have hik : i < cs.length:=by omega
   have keep : ∀ b : Bid,A b.val→h.t.get b = hs.t.get b:=fun b hb=>O.get b (hA _ hb).1 (bid_ne (hA _ hb).2)
   have wh:=w.mv (A':=A) (fun _ hx=>hx) keep
   obtain ⟨b,o,m,l',e,rr,_,_,_,ld⟩:=wh.row (i:=i) (by simpa using hik)
   rw [List.getElem_map] at rr
   obtain ⟨vi,rfl,ri⟩:=rr.inv1
   rw [List.length_map] at e
   have a1 : ∀ q : V→Res,words.load1 h b (Nat.add o i) q = q vi:=fun k=>by
    have:=ld 0 _ rfl k
    rw [Nat.mul_one,Nat.add_zero] at this
    exact this
   have n1:=ilt_true hik
   have n2 : Nat.blt i cs.length = true:=blt_of hik
   have n3:=ad_nat (a:=i) (b:=1) (by omega)
   have lph : p3.val < h.nx.val:=Nat.lt_of_lt_of_le lp O.nx
   have c2 : ∀ q : V→Res,words.load1 h p3 2 q = q v:=fun q=>load1k_law r rfl q
   obtain ⟨h1,v1',e1,w1,U1⟩:=clone_ints (n:=n) (d:=d) ri (fun x hx=>Nat.lt_of_lt_of_le (hA x hx).1 O.nx) (by have:=hc _ (List.getElem_mem hik); omega)
   have r1:=r.later lph U1
   have c2' : ∀ q : V→Res,words.load1 h1 p3 2 q = q v:=fun q=>load1k_law r1 rfl q
   have pv1 : ∀ q : Nat→List V→Res,partsk v1' q = q 1 [v1']:=fun q=>w1.parts q
   obtain ⟨h2,e2,r2,U2,lt2⟩:=new_row h1 (g:=1) (l:=[v1']) rfl (by omega)
   have e2' : ∀ q,words.new h1 (.arr 1 1 (.lf [v1']) .false) q = q h1.nx h2:=e2
   have rr1 : ∀ q,words.row 1 1 [v1'] q = q (.lf [v1']):=fun q=>row_one (g:=1) rfl q
   have U12:=U1.trans U2
   have r2p:=r.later lph U12
   have c2'' : ∀ q : V→Res,words.load1 h2 p3 2 q = q v:=fun q=>load1k_law r2p rfl q
   have W2:=W.up U12
   obtain ⟨h3,v3,e3,W3,U3,nx3,m3,ev3⟩:=app_one (g:=1) (r:=[.sl 1 (cs[i].map zT)]) W2 (by omega) r2 rfl rfl (Nat.le_trans O.nx U12.nx)
    (.cons (w1.mv (fun x hx=>⟨Nat.le_trans O.nx hx.1,Nat.lt_of_lt_of_le hx.2 U2.nx,W.low (.inr hx.1)⟩) fun b hb=>U2.get b hb.2) .nil) (by rw [List.length_map,List.length_take]; omega)
   have W3' : OwnT h3 hs.nx.val 1 v3 ((cs.take (i + 1)).map fun c=>[.sl 1 (c.map zT)]):=by rw [List.take_succ_eq_append_getElem hik,List.map_append]; exact W3
   have o3 : ∀ rr : Res,onek v3 rr = rr:=fun rr=>W3.onek rr
   have offp : Off v p3.val:=W2.low (.inl lp)
   have rp3 : Row (h3.t.get p3) 3 [v0,v1,v]:=by
    rw [U3.get p3 (by have:=U12.nx; omega) offp]
    exact r2p
   obtain ⟨h4,e4,r4,B4⟩:=storek_law (o:=2) (n:=1) (vs:=[v3]) rp3 rfl (by simp)
   have e4' : ∀ q,words.store h3 p3 (Nat.add 0 2) 1 [v3] q = q h4:=e4
   have O4 : Old hs.nx.val p3 hs h4:=⟨by rw [B4.nx]; have:=U3.nx; have:=U12.nx; have:=O.nx; omega,fun b hb' hne=>by
    rw [B4.get b hne,U3.get b (by have:=U12.nx; have:=O.nx; omega) (W2.low (.inl hb')),U12.get b (by have:=O.nx; omega)]
    exact O.get b hb' hne⟩
   have W4 : OwnT h4 hs.nx.val 1 v3 ((cs.take (i + 1)).map fun c=>[.sl 1 (c.map zT)]):=W3'.keep (by rw [B4.nx]; exact Nat.le_refl _) fun b hb1 hb2=>B4.get b (by rintro rfl; omega)
   obtain ⟨h5,v5,e5,O5,r5,W5⟩:=cases_loop (v15:=v15) (v18:=v18) (x4:=x4) (x5:=x5) (x6:=x6) hA lp w hl hc j (i:=i + 1) (q:=q) (h:=h4) (v:=v3) (by omega) (by omega) O4 r4 W4
   refine ⟨h5,v5,?_,O5,r5,W5⟩
   rw [lpk_succ]
   subst e
   simp -implicitDefEqProofs only [b5_1,↓n1,↓n2,↓a1,↓c2,↓e1,↓c2',↓pv1,↓rr1,↓e2',↓c2'',↓e3,↓o3,↓e4',↓n3,↓e5,↓evR]
theorem shapes_loop {hs : Heap} {N : Nat} {ras : List Ra} {v8 vof : V} {p bm : Bid} (hn : 1000 ≤ n) (hN : ras.length = N) (hN2 : N ≤ 258) (lp : p.val < hs.nx.val) (B : Nat) (hB : B ≤ hs.nx.val) (hpB : B ≤ p.val) (w : CellA hs (fun x=>x < B) (.sl 3 (ras.map raT)) v8)
 (hk : ∀ x ∈ ras,x.kind < 256∧x.fields.length ≤ 140737488351232∧x.cases.length ≤ 140737488351232) :
 ∀ (j : Nat) {i q : Nat} {h : Heap} {v : V},i + j = N→j < q→Old hs.nx.val p hs h→Row (h.t.get p) 4 [.nils,vof,v,.map bm]→OwnT h hs.nx.val 3 v ((ras.take i).map fun x=>shT (raS x))→(∀ (k : Nat) (x : Ra),k < i→ras[k]? = some x→MayOk x k N) →
  ∃ h',Old hs.nx.val p hs h'∧((lpk (b5_2 words n (call tabW n (d + 1 + 1 + 1 + 1 + 1 + 1 + 1 + 1))) q [ik N,.ptr p 0,v8,ik N,I (.ofNat i)] h = .ret .nilp h'∧¬ ∀ (k : Nat) (x : Ra),ras[k]? = some x→MayOk x k N) ∨
   (lpk (b5_2 words n (call tabW n (d + 1 + 1 + 1 + 1 + 1 + 1 + 1 + 1))) q [ik N,.ptr p 0,v8,ik N,I (.ofNat i)] h = .ret (.ptr p 0) h'∧(∀ (k : Nat) (x : Ra),ras[k]? = some x→MayOk x k N) ∧
     ∃ v',Row (h'.t.get p) 4 [.nils,vof,v',.map bm]∧OwnT h' hs.nx.val 3 v' (ras.map fun x=>shT (raS x))))
 | j,i,0,_,_,_,h0,_,_,_,_=>absurd h0 (Nat.not_lt_zero _)
 | 0,i,q + 1,h,v,hi,_,O,r,W,M=>by
   have n1 : ilt (.ofNat i) (.ofNat N) = false:=ilt_false (by omega)
   refine ⟨h,O,.inr ⟨?_,fun k x hx=>M k x (by have:=(List.getElem?_eq_some_iff.1 hx).1; omega) hx,v,r,by rwa [List.take_of_length_le (by omega)] at W⟩⟩
   rw [lpk_succ]
   simp -implicitDefEqProofs only [b5_2,↓n1,↓evR]
 | j + 1,i,q + 1,h,v,hi,hq,O,r,W,M=>by
   have hik : i < ras.length:=by omega
   have lph : p.val < h.nx.val:=Nat.lt_of_lt_of_le lp O.nx
   have keep : ∀ b : Bid,b.val < B→h.t.get b = hs.t.get b:=fun b hb=>O.get b (by omega) (bid_ne (by omega))
   have wh:=w.mv (A':=fun x=>x < B) (fun _ hx=>hx) keep
   obtain ⟨b,o,m,l,e,rl,hl3,_,ld,_⟩:=wh.row (i:=i) (by simpa using hik)
   rw [List.getElem_map] at rl
   rw [List.length_map,hN] at e
   have a1 : ∀ q : List V→Res,words.load h b (Nat.add o (Nat.mul i 3)) 3 q = q l:=ld
   have n1 : ilt (.ofNat i) (.ofNat N) = true:=ilt_true (by omega)
   have n2 : Nat.blt i N = true:=blt_of (by omega)
   have n3:=ad_nat (a:=i) (b:=1) (by omega)
   obtain ⟨h1,h2,e1,e2,r2,U2,lt2⟩:=new_store h (g:=3) (z:=[uk 0,.nils,.nils]) (l:=l) rfl hl3 (by omega)
   have e1' : ∀ q,words.new h (.arr 3 1 (repT [uk 0,.nils,.nils] 1 1) .false) q = q h.nx h1:=e1
   have e2' : ∀ q,words.store h1 h.nx 0 3 l q = q h2:=e2
   have l2 : ∀ q : List V→Res,words.load h2 h.nx 0 3 q = q l:=fun q=>by
    have:=loadk_law r2 (o:=0) (n:=3) (by omega) q
    rw [List.drop_zero,List.take_of_length_le (by omega)] at this
    exact this
   have hBh : ∀ y,y < B→y < h.nx.val:=fun y hy=>by have:=O.nx; omega
   have rl2 : RowA h2 (fun x=>x < B) (raT ras[i]) l:=rl.mv (fun _ hx=>hx) fun b hb=>U2.get b (hBh _ hb)
   obtain ⟨hk1,hk2,hk3⟩:=hk _ (List.getElem_mem hik)
   obtain ⟨h3,bb,e3,U3,hbb⟩:=may_law (n:=n) (d:=d) (N:=N) (i:=i) hn hk1 hk2 hk3 (by omega) rl2 (fun y hy=>Nat.lt_of_lt_of_le (hBh y hy) U2.nx)
   have U23:=U2.trans U3
   have oldU : ∀ {h' : Heap},Up h h'→Old hs.nx.val p hs h':=fun U=>⟨Nat.le_trans O.nx U.nx,fun b hb hne=>(U.get b (by have:=O.nx; omega)).trans (O.get b hb hne)⟩
   cases bb with
   | false=>
     refine ⟨h3,oldU U23,.inl ⟨?_,fun M'=>by have:=hbb.2 (M' i _ (List.getElem?_eq_getElem hik)); cases this⟩⟩
     rw [lpk_succ]
     subst e
     simp -implicitDefEqProofs only [b5_2,↓n1,↓n2,↓a1,↓e1',↓e2',↓l2,↓e3,↓evR]
   | true=>
     have may:=hbb.1 rfl
     obtain ⟨nn1,nn2,len1,len2,len3⟩:=may.nn
     obtain ⟨v0,vf,vc,rfl,r0,rf,rc⟩:=RowA.inv3 (show RowA h (fun x=>x < B) [_,_,_] l from rl)
     obtain rfl:=r0.int_inv
     have r3:=r2.later lt2 U3
     obtain ⟨h4,e4,r4',u4⟩:=newk_law h3 (.arr 3 1 (repT [uk 0,.nils,.nils] 1 1) false)
     have e4' : ∀ q,words.new h3 (.arr 3 1 (repT [uk 0,.nils,.nils] 1 1) .false) q = q h3.nx h4:=e4
     have U4:=u4.up
     have r4 : Row (h4.t.get h3.nx) 3 [uk 0,.nils,.nils]:=by
      rw [r4']
      exact Row.rep [uk 0,.nils,.nils] (by simp) 1
     have U24:=U23.trans U4
     have lt3:=Nat.lt_of_lt_of_le lt2 U3.nx
     have r24:=r3.later lt3 U4
     have c0 : ∀ q : V→Res,words.load1 h4 h.nx 0 q = q (.int .u8 (.ofNat ras[i].kind)):=fun q=>load1k_law r24 rfl q
     have c1 : ∀ q : V→Res,words.load1 h4 h.nx 1 q = q vf:=fun q=>load1k_law r24 rfl q
     have rf4 : CellA h4 (fun x=>x < B) (.sl 1 (ras[i].fields.map zT)) vf:=rf.mv (fun _ hx=>hx) fun b hb=>U24.get b (hBh _ hb)
     obtain ⟨h5,v5,e5,w5,U5⟩:=clone_ints (n:=n) (d:=d + 1 + 1 + 1 + 1 + 1 + 1 + 1) rf4 (fun y hy=>Nat.lt_of_lt_of_le (hBh y hy) U24.nx) (by omega)
     have lt4:=Nat.lt_of_lt_of_le lt3 U4.nx
     have r25:=r24.later lt4 U5
     have c0' : ∀ q : V→Res,words.load1 h5 h.nx 0 q = q (.int .u8 (.ofNat ras[i].kind)):=fun q=>load1k_law r25 rfl q
     have pv5 : ∀ q : Nat→List V→Res,partsk v5 q = q 1 [v5]:=fun q=>w5.parts q
     have lt34 : h3.nx.val < h4.nx.val:=u4.lt
     have r45:=r4.later lt34 U5
     obtain ⟨h6,e6,r6,B6⟩:=storek_law (o:=0) (n:=3) (vs:=[.int .u8 (.ofNat ras[i].kind),v5,.nils]) r45 rfl (by simp)
     have e6' : ∀ q,words.store h5 h3.nx 0 3 [.int .u8 (.ofNat ras[i].kind),v5,.nils] q = q h6:=e6
     have r6' : Row (h6.t.get h3.nx) 3 [.int .u8 (.ofNat ras[i].kind),v5,.nils]:=r6
     have U25:=U24.trans U5
     have U6 : Up h h6:=⟨by rw [B6.nx]; exact U25.nx,fun b hb=>by rw [B6.get b (bid_ne (by have:=U23.nx; omega))]; exact U25.get b hb⟩
     have lt36 : h3.nx.val < h6.nx.val:=by rw [B6.nx]; exact Nat.lt_of_lt_of_le lt34 U5.nx
     have hne23 : h.nx ≠ h3.nx:=bid_ne (by omega)
     have r26 : Row (h6.t.get h.nx) 3 [.int .u8 (.ofNat ras[i].kind),vf,vc]:=by rw [B6.get _ hne23]; exact r25
     have c2 : ∀ q : V→Res,words.load1 h6 h.nx 2 q = q vc:=fun q=>load1k_law r26 rfl q
     have lc : ∀ q : Nat→Res,lenk vc q = q ras[i].cases.length:=fun q=>by rw [rc.lenk,List.length_map]
     have rc6 : CellA h6 (fun x=>x < B) (.sl 1 (ras[i].cases.map fun c=>[.sl 1 (c.map zT)])) vc:=rc.mv (fun _ hx=>hx) fun b hb=>U6.get b (hBh _ hb)
     obtain ⟨h7,v7,e7,O7,r7,W7⟩:=cases_loop (n:=n) (d:=d + 1 + 1 + 1 + 1 + 1 + 1 + 1) (v15:=.ptr p 0) (v18:=v8) (x4:=.ofNat N) (x5:=.ofNat N) (x6:=.ofNat i) (p3:=h3.nx) (hs:=h6) (fun y hy=>⟨Nat.lt_of_lt_of_le (hBh y hy) U6.nx,by have:=hBh y hy; have:=U23.nx; omega⟩) lt36 rc6 (by omega) len3 ras[i].cases.length (i:=0) (q:=n) (h:=h6) (v:=.nils) (by omega) (by omega) (.refl _ _ _) r6' .nils
     have U7 : Up h h7:=⟨Nat.le_trans U6.nx O7.nx,fun b hb=>(O7.get b (Nat.lt_of_lt_of_le hb U6.nx) (bid_ne (by have:=U23.nx; omega))).trans (U6.get b hb)⟩
     have rp7:=r.later lph U7
     have g2 : ∀ q : V→Res,words.load1 h7 p 2 q = q v:=fun q=>load1k_law rp7 rfl q
     have l7 : ∀ q : List V→Res,words.load h7 h3.nx 0 3 q = q [.int .u8 (.ofNat ras[i].kind),v5,v7]:=fun q=>loadk_law r7 (by simp) q
     obtain ⟨h8,e8,r8,U8,lt8⟩:=new_row h7 (g:=3) (l:=[.int .u8 (.ofNat ras[i].kind),v5,v7]) rfl (by omega)
     have e8' : ∀ q,words.new h7 (.arr 3 1 (.lf [.int .u8 (.ofNat ras[i].kind),v5,v7]) .false) q = q h7.nx h8:=e8
     have rr8 : ∀ q,words.row 3 1 [.int .u8 (.ofNat ras[i].kind),v5,v7] q = q (.lf [.int .u8 (.ofNat ras[i].kind),v5,v7]):=fun q=>row_one (g:=3) rfl q
     have U78:=U7.trans U8
     have rp8:=r.later lph U78
     have g2' : ∀ q : V→Res,words.load1 h8 p 2 q = q v:=fun q=>load1k_law rp8 rfl q
     have lt37 : h3.nx.val < h7.nx.val:=Nat.lt_of_lt_of_le lt36 O7.nx
     have r78:=r7.later lt37 U8
     have l8 : ∀ q : List V→Res,words.load h8 h3.nx 0 3 q = q [.int .u8 (.ofNat ras[i].kind),v5,v7]:=fun q=>loadk_law r78 (by simp) q
     have W8:=W.up U78
     have wf8 : CellA h8 (fun x=>hs.nx.val ≤ x∧x < h8.nx.val∧Off v x) (.sl 1 ((ras[i].fields.map Int.toNat).map iT)) v5:=by
      rw [← toNat_list nn1]
      have h65 : h6.nx.val = h5.nx.val:=by rw [B6.nx]
      refine w5.mv (fun x hx=>⟨by have:=U24.nx; have:=O.nx; omega,by have:=O7.nx; have:=U8.nx; omega,W.low (.inr (by have:=U24.nx; omega))⟩) fun b hb=>?_
      have hb1 : b.val < h6.nx.val:=by rw [B6.nx]; exact hb.2
      have hne : b ≠ h3.nx:=bid_ne (by omega)
      rw [U8.get b (Nat.lt_of_lt_of_le hb1 O7.nx),O7.get b hb1 hne,B6.get b hne]
     have wc8 : CellA h8 (fun x=>hs.nx.val ≤ x∧x < h8.nx.val∧Off v x) (.sl 1 (((ras[i].cases.map fun c=>c.map Int.toNat)).map fun c=>[.sl 1 (c.map iT)])) v7:=by
      have ec : ((ras[i].cases.map fun c=>c.map Int.toNat)).map (fun c=>[Tr.sl 1 (c.map iT)]) = ras[i].cases.map fun c=>[.sl 1 (c.map zT)]:=by
       rw [List.map_map]
       apply List.map_congr_left
       intro c hc
       show [Tr.sl 1 ((c.map Int.toNat).map iT)] = _
       rw [← toNat_list (nn2 c hc)]
      rw [ec]
      exact W7.cell.mv (fun x hx=>⟨by have:=U6.nx; have:=O.nx; omega,by have:=U8.nx; omega,W.low (.inr (by have:=U6.nx; omega))⟩) fun b hb=>U8.get b hb.2
     obtain ⟨h9,v9,e9,W9,U9,nx9,m9,ev9⟩:=app_one (g:=3) (r:=shT (raS ras[i])) W8 (by omega) r8 rfl rfl (by have:=U78.nx; have:=O.nx; omega)
      (.cons (.i _ _) (.cons wf8 (.cons wc8 .nil))) (by rw [List.length_map,List.length_take]; omega)
     have W9' : OwnT h9 hs.nx.val 3 v9 ((ras.take (i + 1)).map fun x=>shT (raS x)):=by rw [List.take_succ_eq_append_getElem hik,List.map_append]; exact W9
     have o9 : ∀ rr : Res,onek v9 rr = rr:=fun rr=>W9.onek rr
     have offp : Off v p.val:=W8.low (.inl lp)
     have rp9 : Row (h9.t.get p) 4 [.nils,vof,v,.map bm]:=by
      rw [U9.get p (by have:=U78.nx; omega) offp]
      exact rp8
     obtain ⟨h10,e10,r10,B10⟩:=storek_law (o:=2) (n:=1) (vs:=[v9]) rp9 rfl (by simp)
     have e10' : ∀ q,words.store h9 p (Nat.add 0 2) 1 [v9] q = q h10:=e10
     have O10 : Old hs.nx.val p hs h10:=⟨by rw [B10.nx]; have:=U9.nx; have:=U78.nx; have:=O.nx; omega,fun b hb' hne=>by
      rw [B10.get b hne,U9.get b (by have:=U78.nx; have:=O.nx; omega) (W8.low (.inl hb')),U78.get b (by have:=O.nx; omega)]
      exact O.get b hb' hne⟩
     have W10 : OwnT h10 hs.nx.val 3 v9 ((ras.take (i + 1)).map fun x=>shT (raS x)):=W9'.keep (by rw [B10.nx]; exact Nat.le_refl _) fun b hb1 hb2=>B10.get b (by rintro rfl; omega)
     have ap : ∀ q : List V→Res,appk [.int .u8 (.ofNat ras[i].kind),v5,v7] [] q = q [.int .u8 (.ofNat ras[i].kind),v5,v7]:=fun q=>by rw [appk_eq,List.append_nil]
     have ap2 : ∀ q : List V→Res,appk [v5] [.nils] q = q [v5,.nils]:=fun q=>rfl
     obtain ⟨h11,O11,res⟩:=shapes_loop hn hN hN2 lp B hB hpB w hk j (i:=i + 1) (q:=q) (h:=h10) (v:=v9) (by omega) (by omega) O10 r10 W10 (fun k x hk hx=>by
      by_cases hki : k = i
      · subst hki
        rw [List.getElem?_eq_getElem hik] at hx
        cases hx
        exact may
      · exact M k x (by omega) hx)
     have step : ∀ R : Res,lpk (b5_2 words n (call tabW n (d + 1 + 1 + 1 + 1 + 1 + 1 + 1 + 1))) q [ik N,.ptr p 0,v8,ik N,I (.ofNat (i + 1))] h10 = R→lpk (b5_2 words n (call tabW n (d + 1 + 1 + 1 + 1 + 1 + 1 + 1 + 1))) (q + 1) [ik N,.ptr p 0,v8,ik N,I (.ofNat i)] h = R:=fun R hR=>by
      rw [lpk_succ]
      subst e
      simp -implicitDefEqProofs only [b5_2,↓n1,↓n2,↓a1,↓e1',↓e2',↓l2,↓e3,↓e4',↓c0,↓c1,↓e5,↓c0',↓pv5,↓e6',↓c2,↓lc,↓e7,↓g2,↓l7,↓rr8,↓e8',↓g2',↓l8,↓e9,↓o9,↓e10',↓n3,↓hR,↓evR]
     exact ⟨h11,O11,res.imp (fun ⟨x1,x2⟩=>⟨step _ x1,x2⟩) fun ⟨x1,x2⟩=>⟨step _ x1,x2⟩⟩
end
end Go.Ev.WIB
