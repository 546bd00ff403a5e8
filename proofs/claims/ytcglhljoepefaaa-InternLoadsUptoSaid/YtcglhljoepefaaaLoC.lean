/- LoC: texts joined. -/
import Derived.Test.YtcglhljoepefaaaLoA
import Derived.Test.YtcglhljoepefaaaIbP
/- InternLoads: the document's table, as it lies in the memory; what only asks it. -/
namespace Go.Ev.WIB
open Go.Proofs
set_option maxRecDepth 100000
def rC (t : Th) (v : V) : List V:=[I (.ofNat t.shape),I (.ofNat t.branch),v,sV t.text,I (.ofNat t.deep)]
def rCs (L : List Th) (pv : List V) : List V:=(List.zipWith rC L pv).flatten
theorem rCs_len : ∀ {L : List Th} {pv : List V},pv.length = L.length→(rCs L pv).length = L.length * 5
 | [],[],_=>rfl
 | t :: L,v :: pv,h=>by
   have:=rCs_len (L:=L) (pv:=pv) (by simpa using h)
   simp only [rCs,List.zipWith_cons_cons,List.flatten_cons,List.length_append,List.length_cons] at this ⊢
   rw [this]
   simp [rC]; omega
 | [],_ :: _,h=>by simp at h
 | _ :: _,[],h=>by simp at h
theorem rCs_app {L : List Th} {pv : List V} (h : pv.length = L.length) (t : Th) (v : V) : rCs (L ++ [t]) (pv ++ [v]) = rCs L pv ++ rC t v:=by
 rw [rCs,rCs,List.zipWith_append (by omega),List.flatten_append]
 simp
theorem rCs_drop : ∀ {L : List Th} {pv : List V},pv.length = L.length→∀ {i : Nat} {t : Th} {v : V},L[i]? = some t→pv[i]? = some v→((rCs L pv).drop (i * 5)).take 5 = rC t v
 | t :: L,v :: pv,h,0,t',v',h1,h2=>by
   simp at h1 h2; subst h1; subst h2
   simp [rCs,rC]
 | t :: L,v :: pv,h,i + 1,t',v',h1,h2=>by
   have:=rCs_drop (L:=L) (pv:=pv) (by simpa using h) (i:=i) (by simpa using h1) (by simpa using h2)
   rw [← this]
   simp only [rCs,List.zipWith_cons_cons,List.flatten_cons]
   rw [show (i + 1) * 5 = (rC t v).length + i * 5 by simp [rC]; omega,List.drop_append,List.drop_eq_nil_of_le (by omega),List.nil_append,Nat.add_sub_cancel_left]
 | [],_,_,_,_,_,h1,_=>by simp at h1
 | _ :: _,[],h,_,_,_,_,_=>by simp at h
structure RefT (h : Heap) (p : Bid) (va vs : V) (pv : List V) (sh : List Sh) (L : List Th) (S X : Nat→Prop) : Prop where
 row : Row (h.t.get p) 2 [vs,va]
 all : Hld h 5 va (rCs L pv)
 pl : pv.length = L.length
 parts : ∀ (i : Nat) (t : Th) (v : V),L[i]? = some t→pv[i]? = some v→CellA h (Still h (SX S X)) (.sl 1 (t.parts.map wT)) v
 shp : CellA h (Still h (SX S X)) (.sl 3 (sh.map shT)) vs
 xs : ∀ x,X x→x < h.nx.val∧¬ S x
 lt : p.val < h.nx.val
 oa : Off va p.val
 mem : ∀ x,S x ↔ x = p.val ∨ ¬ Off va x
section
variable {h : Heap} {p : Bid} {va vs : V} {pv : List V} {sh : List Sh} {L : List Th} {S X : Nat→Prop} {n d : Nat}
theorem RefT.ld (w : RefT h p va vs pv sh L S X) : (∀ q : V→Res,words.load1 h p 0 q = q vs)∧(∀ q : V→Res,words.load1 h p 1 q = q va)∧∀ q : V→Res,words.load1 h p (Nat.add 0 1) q = q va:=
 ⟨fun q=>load1k_law w.row rfl q,fun q=>load1k_law w.row rfl q,fun q=>load1k_law w.row rfl q⟩
theorem RefT.lts (w : RefT h p va vs pv sh L S X) {x : Nat} (hx : S x) : x < h.nx.val:=by
 rcases (w.mem x).1 hx with rfl | h4
 · exact w.lt
 · exact w.all.lt h4
theorem RefT.up (w : RefT h p va vs pv sh L S X) {h' : Heap} (u : Up h h') : RefT h' p va vs pv sh L S X where
 row:=by rw [u.get p w.lt]; exact w.row
 all:=w.all.up u
 pl:=w.pl
 parts i t v h1 h2:=(w.parts i t v h1 h2).stay u fun x hx=>hx.elim w.lts fun h=>(w.xs x h).1
 shp:=w.shp.stay u fun x hx=>hx.elim w.lts fun h=>(w.xs x h).1
 xs x hx:=⟨Nat.lt_of_lt_of_le (w.xs x hx).1 u.nx,(w.xs x hx).2⟩
 lt:=Nat.lt_of_lt_of_le w.lt u.nx
 oa:=w.oa
 mem:=w.mem
theorem RefT.turn (w : RefT h p va vs pv sh L S X) {h' : Heap} (u : Chg X h h') : RefT h' p va vs pv sh L S X where
 row:=u.row w.row w.lt fun e=>(w.xs _ e).2 ((w.mem _).2 (.inl rfl))
 all:=w.all.chg u fun x hx=>Classical.byContradiction fun e=>(w.xs x hx).2 ((w.mem x).2 (.inr e))
 pl:=w.pl
 parts i t v h1 h2:=(w.parts i t v h1 h2).chg (u.mono (S':=SX S X) fun _ _ e=>.inr e) fun _ e=>.inl e
 shp:=w.shp.chg (u.mono (S':=SX S X) fun _ _ e=>.inr e) fun _ e=>.inl e
 xs x hx:=⟨Nat.lt_of_lt_of_le (w.xs x hx).1 u.nx,(w.xs x hx).2⟩
 lt:=Nat.lt_of_lt_of_le w.lt u.nx
 oa:=w.oa
 mem:=w.mem
theorem RefT.ln (w : RefT h p va vs pv sh L S X) (k : Nat→Res) : lenk va k = k L.length:=w.all.len (by omega) (rCs_len w.pl) k
theorem RefT.th (w : RefT h p va vs pv sh L S X) {i : Nat} (hi : i < L.length) (hp : i < pv.length) : ∃ b,va = .slice b 0 L.length none 5∧b.val < h.nx.val∧(∀ q : List V→Res,words.load h b (Nat.add 0 (Nat.mul i 5)) 5 q = q (rC L[i] pv[i]))∧∀ q : V→Res,words.load1 h b (Nat.add 0 (Nat.mul i 5)) q = q (I (.ofNat L[i].shape)):=by
 obtain ⟨b,e,hb,l5,l1⟩:=w.all.at_ (g:=5) (m:=L.length) (by omega) (rCs_len w.pl) hi
 have hd:=rCs_drop w.pl (List.getElem?_eq_getElem hi) (List.getElem?_eq_getElem hp)
 refine ⟨b,e,hb,fun q=>?_,fun q=>?_⟩
 · have:=l5 0 5 (by omega) q
   rw [Nat.add_zero,hd] at this
   show loadk h b (0 + i * 5) 5 q = _
   rw [Nat.zero_add]; exact this
 · have:=l1 0 (I (.ofNat L[i].shape)) (by omega) (by
    have h2:=congrArg (fun l=>l[0]?) hd
    simp only [List.getElem?_take,List.getElem?_drop] at h2
    rw [if_pos (by omega)] at h2
    exact h2) q
   rw [Nat.add_zero] at this
   show load1k h b (0 + i * 5) q = _
   rw [Nat.zero_add]; exact this
theorem RefT.at_ (w : RefT h p va vs pv sh L S X) {s : Nat} (hs : s < sh.length) : ∃ b o m vf vc,vs = .slice b o sh.length m 3∧(∀ k,words.load1 h b (Nat.add o (Nat.mul s 3)) k = k (.int .u8 (.ofNat sh[s].kind)))∧(∀ k,words.load1 h b (Nat.add (Nat.add o (Nat.mul s 3)) 1) k = k vf) ∧
 (∀ k,words.load1 h b (Nat.add (Nat.add o (Nat.mul s 3)) 2) k = k vc)∧CellA h (Still h (SX S X)) (.sl 1 (sh[s].fields.map iT)) vf∧CellA h (Still h (SX S X)) (.sl 1 (sh[s].cases.map fun c=>[.sl 1 (c.map iT)])) vc:=by
 obtain ⟨b,o,m,l,e,r,_,_,_,ld⟩:=w.shp.row (i:=s) (by simpa using hs)
 rw [List.getElem_map,shT] at r
 obtain ⟨v0,vf,vc,rfl,r0,r1,r2⟩:=r.inv3
 obtain rfl:=r0.int_inv
 exact ⟨b,o,m,vf,vc,by rw [e,List.length_map],ld 0 _ rfl,ld 1 _ rfl,ld 2 _ rfl,r1,r2⟩
theorem RefT.kind (w : RefT h p va vs pv sh L S X) (s : Nat) : call tabW n (d + 1) f48 [.ptr p 0,ik s] h = .ret (.int .u8 (.ofNat (kindOf sh s))) h:=by
 obtain ⟨l0,_,_⟩:=w.ld
 have ln : ∀ k : Nat→Res,lenk vs k = k sh.length:=fun k=>by rw [w.shp.lenk,List.length_map]
 rw [call48]
 have n1 : ilt (.ofNat s) (.ofNat 0) = false:=ilt_false (by omega)
 by_cases hs : s < sh.length
 · obtain ⟨b,o,m,vf,vc,rfl,k0,_⟩:=w.at_ hs
   have n2:=ilt_true hs
   have n3 : Nat.blt s sh.length = true:=blt_of hs
   have e : kindOf sh s = sh[s].kind:=by simp [kindOf,List.getElem?_eq_getElem hs]
   simp -implicitDefEqProofs only [sh48,↓n1,↓n2,↓n3,↓l0,↓ln,↓k0,↓e,↓evR]
 · have n2:=ilt_false hs
   have e : kindOf sh s = 0:=by simp [kindOf,List.getElem?_eq_none (Nat.not_lt.1 hs)]
   simp -implicitDefEqProofs only [sh48,↓n1,↓n2,↓l0,↓ln,↓e,↓evR]
theorem RefT.first (w : RefT h p va vs pv sh L S X) (s : Nat) : call tabW n (d + 1 + 1) f60 [.ptr p 0,ik s] h = .ret (.int .u64 (.ofNat (fst0 sh s))) h:=by
 have ek:=w.kind (n:=n) (d:=d) s
 rw [call60]
 by_cases h3 : kindOf sh s = 3
 · have n1 : ieq (.ofNat (kindOf sh s)) (.ofNat 3) = true:=by rw [ieq_nat]; simpa using h3
   have e : fst0 sh s = 1:=by simp [fst0,h3]
   simp -implicitDefEqProofs only [sh60,↓ek,↓n1,↓e,↓evR]
 · have n1 : ieq (.ofNat (kindOf sh s)) (.ofNat 3) = false:=by rw [ieq_nat]; simpa using h3
   have e : fst0 sh s = 0:=by simp [fst0,h3]
   simp -implicitDefEqProofs only [sh60,↓ek,↓n1,↓e,↓evR]
theorem RefT.want (w : RefT h p va vs pv sh L S X) {s b : Nat} {l : List Nat} (hw : wantOf sh s (.ofNat b) = some l) :
 ∃ v,call tabW n (d + 1 + 1) f34 [.ptr p 0,ik s,ik b] h = .ret (.tup [v,.bool true]) h∧CellA h (Still h (SX S X)) (.sl 1 (l.map iT)) v:=by
 have hs : s < sh.length:=by
  by_cases hs : s < sh.length
  · exact hs
  · simp [wantOf,List.getElem?_eq_none (Nat.not_lt.1 hs)] at hw
 obtain ⟨l0,_,_⟩:=w.ld
 have ek:=w.kind (n:=n) (d:=d) s
 have e : kindOf sh s = sh[s].kind:=by simp [kindOf,List.getElem?_eq_getElem hs]
 rw [e] at ek
 obtain ⟨b',o,m,vf,vc,rfl,k0,k1,k2,r1,r2⟩:=w.at_ hs
 have n3 : Nat.blt s sh.length = true:=blt_of hs
 simp only [wantOf,List.getElem?_eq_getElem hs] at hw
 rw [call34]
 by_cases h3 : sh[s].kind = 3
 · rw [if_pos h3] at hw
   split at hw
   · rename_i hb
     cases hw
     rw [h3] at ek
     refine ⟨vf,?_,r1⟩
     have n4 : ieq (.ofNat 3) (.ofNat 3) = true:=rfl
     have n5 : ieq (.ofNat b) (.ofNat 0) = true:=by rw [ieq_eq]; simpa using hb
     simp -implicitDefEqProofs only [sh34,↓ek,↓l0,↓n3,↓k1,↓n4,↓n5,↓evR]
   · cases hw
 · rw [if_neg h3] at hw
   split at hw
   · rename_i h4
     rw [h4] at ek
     have n4 : ieq (.ofNat 4) (.ofNat 3) = false:=rfl
     have n5 : ieq (.ofNat 4) (.ofNat 4) = true:=rfl
     obtain ⟨hb,hl⟩:=List.getElem?_eq_some_iff.1 hw
     obtain ⟨b2,o2,m2,l2',e2,r,_,_,_,ld2⟩:=r2.row (i:=b) (by simpa using hb)
     rw [List.getElem_map] at r
     obtain ⟨v,rfl,r0⟩:=r.inv1
     rw [hl] at r0
     refine ⟨v,?_,r0⟩
     have ln : ∀ k : Nat→Res,lenk vc k = k sh[s].cases.length:=fun k=>by rw [r2.lenk,List.length_map]
     rw [List.length_map] at e2
     have n6 : ilt (.ofNat b) (.ofNat 0) = false:=ilt_false (by omega)
     have n7:=ilt_true hb
     have n8 : Nat.blt b sh[s].cases.length = true:=blt_of hb
     subst e2
     have ld2' : ∀ k,words.load1 h b2 (Nat.add o2 b) k = k v:=fun k=>by
      have:=ld2 0 v rfl k
      rw [Nat.mul_one,Nat.add_zero] at this
      exact this
     simp -implicitDefEqProofs only [sh34,↓ek,↓l0,↓n3,↓k2,↓n4,↓n5,↓n6,↓n7,↓n8,↓ln,↓ld2',↓evR]
   · cases hw
theorem RefT.want_no (w : RefT h p va vs pv sh L S X) {s b : Nat} (hw : wantOf sh s (.ofNat b) = none) : ∃ v,call tabW n (d + 1 + 1) f34 [.ptr p 0,ik s,ik b] h = .ret (.tup [v,.bool false]) h:=by
 obtain ⟨l0,_,_⟩:=w.ld
 have ek:=w.kind (n:=n) (d:=d) s
 by_cases hs : s < sh.length
 · have e : kindOf sh s = sh[s].kind:=by simp [kindOf,List.getElem?_eq_getElem hs]
   rw [e] at ek
   obtain ⟨b',o,m,vf,vc,rfl,k0,k1,k2,r1,r2⟩:=w.at_ hs
   have n3 : Nat.blt s sh.length = true:=blt_of hs
   simp only [wantOf,List.getElem?_eq_getElem hs] at hw
   rw [call34]
   by_cases h3 : sh[s].kind = 3
   · rw [if_pos h3] at hw
     split at hw
     · cases hw
     · rename_i hb
       rw [h3] at ek
       refine ⟨vf,?_⟩
       have n4 : ieq (.ofNat 3) (.ofNat 3) = true:=rfl
       have n5 : ieq (.ofNat b) (.ofNat 0) = false:=by rw [ieq_eq]; simpa using hb
       simp -implicitDefEqProofs only [sh34,↓ek,↓l0,↓n3,↓k1,↓n4,↓n5,↓evR]
   · rw [if_neg h3] at hw
     have n4 : ieq (.ofNat sh[s].kind) (.ofNat 3) = false:=by rw [ieq_nat]; simpa using h3
     by_cases h4 : sh[s].kind = 4
     · rw [if_pos h4] at hw
       have n5 : ieq (.ofNat sh[s].kind) (.ofNat 4) = true:=by rw [ieq_nat]; simpa using h4
       have ln : ∀ k : Nat→Res,lenk vc k = k sh[s].cases.length:=fun k=>by rw [r2.lenk,List.length_map]
       refine ⟨.nils,?_⟩
       have n6 : ilt (.ofNat b) (.ofNat 0) = false:=ilt_false (by omega)
       have n7 : ilt (.ofNat b) (.ofNat sh[s].cases.length) = false:=ilt_false (by
        have : sh[s].cases[b]? = none:=hw
        simpa using this)
       simp -implicitDefEqProofs only [sh34,↓ek,↓l0,↓n3,↓k2,↓n4,↓n5,↓n6,↓n7,↓ln,↓evR]
     · have n5 : ieq (.ofNat sh[s].kind) (.ofNat 4) = false:=by rw [ieq_nat]; simpa using h4
       exact ⟨.nils,by simp -implicitDefEqProofs only [sh34,↓ek,↓n4,↓n5,↓evR]⟩
 · have e : kindOf sh s = 0:=by simp [kindOf,List.getElem?_eq_none (Nat.not_lt.1 hs)]
   rw [e] at ek
   have n4 : ieq (.ofNat 0) (.ofNat 3) = false:=rfl
   have n5 : ieq (.ofNat 0) (.ofNat 4) = false:=rfl
   refine ⟨.nils,?_⟩
   rw [call34]
   simp -implicitDefEqProofs only [sh34,↓ek,↓n4,↓n5,↓evR]
def thingR (sh : List Sh) (L : List Th) (s k : Nat) : Option Nat:=if fst0 sh s ≤ k then (idxs L s)[k - fst0 sh s]? else none
def zeroT : List V:=[ik 0,ik 0,.nils,.str 0 0,ik 0]
theorem thing_loop (w : RefT h p va vs pv sh L S X) {px : Bid} {s k : Nat} (hk : k < 18446744073709551616) (hL : L.length ≤ 1000000) (rx : Row (h.t.get px) 5 zeroT) :
 ∀ (j : Nat) {i q c : Nat},i + j = L.length→j < q→c + j ≤ L.length + 2 →
  ((if c ≤ k then (idxsF s i (L.drop i))[k - c]? else none) = none→lpk (b62_1 words n (call tabW n d)) q [.ptr p 0,ik s,.int .u64 (.ofNat k),.ptr px 0,.int .u64 (.ofNat c),ik i] h = .done .normal [.ptr px 0,.und] h) ∧
  ∀ x,(if c ≤ k then (idxsF s i (L.drop i))[k - c]? else none) = some x→∃ h' t v,lpk (b62_1 words n (call tabW n d)) q [.ptr p 0,ik s,.int .u64 (.ofNat k),.ptr px 0,.int .u64 (.ofNat c),ik i] h = .done .ret [.ptr px 0,.bool true] h' ∧
   But h px h'∧Row (h'.t.get px) 5 (rC t v)∧L[x]? = some t
 | j,i,0,_,_,h0,_=>absurd h0 (Nat.not_lt_zero _)
 | 0,i,q + 1,c,hi,_,_=>by
   have n1 : ilt (.ofNat i) (.ofNat L.length) = false:=ilt_false (by omega)
   obtain ⟨_,l1,_⟩:=w.ld
   have ln:=w.ln
   refine ⟨fun _=>?_,fun x hx=>?_⟩
   · rw [lpk_succ]
     simp -implicitDefEqProofs only [b62_1,↓l1,↓ln,↓n1,↓evR]
   · rw [List.drop_eq_nil_of_le (by omega)] at hx
     simp [idxsF] at hx
 | j + 1,i,q + 1,c,hi,hq,hc=>by
   have hil : i < L.length:=by omega
   have hip : i < pv.length:=by rw [w.pl]; exact hil
   have n1:=ilt_true hil
   have n2 : Nat.blt i L.length = true:=blt_of hil
   have n3:=ad_nat (a:=i) (b:=1) (by omega)
   obtain ⟨_,l1,_⟩:=w.ld
   have ln:=w.ln
   obtain ⟨b,ev,hb,l5,ls⟩:=w.th hil hip
   rw [ev] at l1 ln
   have ih:=fun c'=>thing_loop w (px:=px) (s:=s) hk hL rx j (i:=i + 1) (q:=q) (c:=c')
   rw [List.drop_eq_getElem_cons hil,idxsF]
   by_cases hs : L[i].shape = s
   · rw [if_pos hs]
     have n4 : ieq (.ofNat L[i].shape) (.ofNat s) = true:=by rw [ieq_nat]; simpa using hs
     by_cases hck : c = k
     · subst hck
       have n5 : ieq (.ofNat c) (.ofNat c) = true:=by rw [ieq_nat]; simp
       rw [if_pos (Nat.le_refl _),Nat.sub_self]
       refine ⟨fun e=>(by cases e),fun x hx=>?_⟩
       simp at hx
       subst hx
       obtain ⟨h1,e1,r1,B1⟩:=storek_law (o:=0) (n:=5) (vs:=rC L[i] pv[i]) rx rfl (by simp [zeroT])
       have e1' : ∀ q,words.store h px 0 5 (rC L[i] pv[i]) q = q h1:=e1
       refine ⟨h1,L[i],pv[i],?_,B1,?_,List.getElem?_eq_getElem hil⟩
       · rw [lpk_succ]
         simp -implicitDefEqProofs only [b62_1,↓l1,↓ln,↓n1,↓n2,↓ls,↓n4,↓n5,↓l5,↓e1',↓evR]
       · exact row_ext' r1 rfl
     · have n5 : ieq (.ofNat c) (.ofNat k) = false:=by rw [ieq_nat]; simpa using hck
       have n6 : wrapv .u64 (Int.add (.ofNat c) (.ofNat 1)) = .ofNat (c + 1):=u64_small (by omega)
       have ih:=ih (c + 1) (by omega) (by omega) (by omega)
       have e0 : (if c ≤ k then (i :: idxsF s (i + 1) (L.drop (i + 1)))[k - c]? else none) = if c + 1 ≤ k then (idxsF s (i + 1) (L.drop (i + 1)))[k - (c + 1)]? else none:=by
        by_cases h1 : c + 1 ≤ k
        · rw [if_pos h1,if_pos (by omega),show k - c = (k - (c + 1)) + 1 by omega,List.getElem?_cons_succ]
        · rw [if_neg h1,if_neg (by omega)]
       rw [e0]
       have step : ∀ R : Res,lpk (b62_1 words n (call tabW n d)) q [.ptr p 0,ik s,.int .u64 (.ofNat k),.ptr px 0,.int .u64 (.ofNat (c + 1)),ik (i + 1)] h = R→lpk (b62_1 words n (call tabW n d)) (q + 1) [.ptr p 0,ik s,.int .u64 (.ofNat k),.ptr px 0,.int .u64 (.ofNat c),ik i] h = R:=fun R hR=>by
        rw [lpk_succ]
        simp -implicitDefEqProofs only [b62_1,↓l1,↓ln,↓n1,↓n2,↓ls,↓n4,↓n5,↓n6,↓n3,↓hR,↓evR]
       exact ⟨fun e=>step _ (ih.1 e),fun x hx=>by
        obtain ⟨h',t,v,a1,a2⟩:=ih.2 x hx
        exact ⟨h',t,v,step _ a1,a2⟩⟩
   · rw [if_neg hs]
     have n4 : ieq (.ofNat L[i].shape) (.ofNat s) = false:=by rw [ieq_nat]; simpa using hs
     have ih:=ih c (by omega) (by omega) (by omega)
     have step : ∀ R : Res,lpk (b62_1 words n (call tabW n d)) q [.ptr p 0,ik s,.int .u64 (.ofNat k),.ptr px 0,.int .u64 (.ofNat c),ik (i + 1)] h = R→lpk (b62_1 words n (call tabW n d)) (q + 1) [.ptr p 0,ik s,.int .u64 (.ofNat k),.ptr px 0,.int .u64 (.ofNat c),ik i] h = R:=fun R hR=>by
      rw [lpk_succ]
      simp -implicitDefEqProofs only [b62_1,↓l1,↓ln,↓n1,↓n2,↓ls,↓n4,↓n3,↓hR,↓evR]
     exact ⟨fun e=>step _ (ih.1 e),fun x hx=>by
      obtain ⟨h',t,v,a1,a2⟩:=ih.2 x hx
      exact ⟨h',t,v,step _ a1,a2⟩⟩
theorem thing_law (w : RefT h p va vs pv sh L S X) {s k : Nat} (hn : L.length < n) (hk : k < 18446744073709551616) (hL : L.length ≤ 1000000) :
 ∃ h' cells,call tabW n (d + 1 + 1 + 1) f62 [.ptr p 0,ik s,.int .u64 (.ofNat k)] h = .ret (.tup [.agg 5 cells,.bool (thingR sh L s k).isSome]) h'∧Up h h'∧cells.length = 5 ∧
  cells[4]? = some (ik (match thingR sh L s k with | some j=>((L[j]?).map (·.deep)).getD 0 | none=>0)):=by
 obtain ⟨h0,e0,r0,u0⟩:=newk_law h (.arr 5 1 (repT zeroT 1 1) false)
 have e0' : ∀ q,words.new h (.arr 5 1 (repT [ik 0,ik 0,.nils,.str 0 0,ik 0] 1 1) .false) q = q h.nx h0:=e0
 have U0:=u0.up
 have r0' : Row (h0.t.get h.nx) 5 zeroT:=by
  rw [r0]
  exact Row.rep zeroT (by simp [zeroT]) 1
 have w0:=w.up U0
 have ef:=w0.first (n:=n) (d:=d) s
 have f1:=fst0_le sh s
 have lp:=thing_loop w0 (n:=n) (d:=d + 1 + 1) (px:=h.nx) (s:=s) (k:=k) hk hL r0' L.length (i:=0) (q:=n) (c:=fst0 sh s) (by omega) (by omega) (by omega)
 rw [List.drop_zero] at lp
 have ed : ∀ {h' : Heap} {l : List V},Row (h'.t.get h.nx) 5 l→l.length = 5→∀ q : List V→Res,loadk h' h.nx 0 5 q = q l:=fun r hl q=>by
  have:=loadk_law r (o:=0) (n:=5) (by omega) q
  rw [List.drop_zero,List.take_of_length_le (by omega)] at this
  exact this
 cases hc : thingR sh L s k with
 | none=>
   have e1:=lp.1 hc
   obtain ⟨h1,e2,r1,B1⟩:=storek_law (o:=0) (n:=5) (vs:=zeroT) r0' rfl (by simp [zeroT])
   have e2' : ∀ q,words.store h0 h.nx 0 5 [ik 0,ik 0,.nils,.str 0 0,ik 0] q = q h1:=e2
   have r1' : Row (h1.t.get h.nx) 5 zeroT:=row_ext' r1 rfl
   have l1:=ed r1' rfl
   refine ⟨h1,zeroT,?_,⟨by rw [B1.nx]; exact U0.nx,fun b hb=>by rw [B1.get b (by rintro rfl; omega)]; exact U0.get b hb⟩,rfl,rfl⟩
   rw [call62]
   simp -implicitDefEqProofs only [sh62,↓e0',↓ef,↓e1,↓e2',↓l1,↓Option.isSome_none,↓evR]
 | some j=>
   obtain ⟨h1,t,v,e1,B1,r1,ht⟩:=lp.2 j hc
   have l1:=ed r1 rfl
   refine ⟨h1,rC t v,?_,⟨by rw [B1.nx]; exact U0.nx,fun b hb=>by rw [B1.get b (by rintro rfl; omega)]; exact U0.get b hb⟩,rfl,?_⟩
   · rw [call62]
     simp -implicitDefEqProofs only [sh62,↓e0',↓ef,↓e1,↓l1,↓Option.isSome_some,↓evR]
   · show _ = some (ik (((L[j]?).map (·.deep)).getD 0))
     rw [ht]
     rfl
theorem ref_is (w : RefT h p va vs pv sh L S X) {s k : Nat} (hn : L.length < n) (hk : k < 18446744073709551616) (hL : L.length ≤ 1000000) (hs : 1 ≤ kindOf sh s) :
 ∃ h',call tabW n (d + 1 + 1 + 1 + 1) f49 [.ptr p 0,ik s,.int .u64 (.ofNat k)] h = .ret (.bool (isW sh L s k).isSome) h'∧Up h h':=by
 have ek:=w.kind (n:=n) (d:=d + 1 + 1) s
 have n0 : ieq (.ofNat (kindOf sh s)) (.ofNat 0) = false:=by rw [ieq_nat]; simp; omega
 have k7 : Nat.beq (kno .u64) 7 = true:=rfl
 have k4 : Nat.beq (kno .u8) 4 = true:=rfl
 rw [call49]
 by_cases h1 : kindOf sh s = 1
 · have n1 : ieq (.ofNat (kindOf sh s)) (.ofNat 1) = true:=by rw [ieq_nat]; simpa using h1
   have e : isW sh L s k = some 0:=by simp [isW,h1]
   refine ⟨h,?_,.refl _⟩
   rw [e]
   simp -implicitDefEqProofs only [sh49,↓ek,↓n0,↓n1,↓Option.isSome_some,↓evR]
 · have n1 : ieq (.ofNat (kindOf sh s)) (.ofNat 1) = false:=by rw [ieq_nat]; simpa using h1
   by_cases h3 : kindOf sh s = 3∧k = 0
   · obtain ⟨h3,rfl⟩:=h3
     have n2 : ieq (.ofNat (kindOf sh s)) (.ofNat 3) = true:=by rw [ieq_nat]; simpa using h3
     have n3 : ieq (.ofNat 0) (.ofNat 0) = true:=rfl
     have e : isW sh L s 0 = some 0:=by simp [isW,h3]
     refine ⟨h,?_,.refl _⟩
     rw [e]
     simp -implicitDefEqProofs only [sh49,↓ek,↓n0,↓n1,↓k4,↓n2,↓k7,↓n3,↓Option.isSome_some,↓evR]
   · have hf : fst0 sh s ≤ k:=by
      simp only [fst0]
      split
      · rename_i h; have:=Nat.pos_of_ne_zero (fun e=>h3 ⟨h,e⟩); omega
      · omega
     have e : (isW sh L s k).isSome = (thingR sh L s k).isSome:=by
      simp only [isW,h1,h3,if_false,thingR,if_pos hf]
      cases hx : (idxs L s)[k - fst0 sh s]? with
      | none=>rfl
      | some i=>
        obtain ⟨t,ht,_⟩:=idxs_mem (List.mem_of_getElem? hx)
        simp [ht]
     rw [e]
     obtain ⟨h1',cells,e1,U1,hc5,_⟩:=thing_law (n:=n) (d:=d) (s:=s) w hn hk hL
     obtain ⟨h2,h3',e2,e3,r3,U3,lt3⟩:=new_store h1' (g:=5) (z:=zeroT) (l:=cells) rfl hc5 (by omega)
     have e2' : ∀ q,words.new h1' (.arr 5 1 (repT [ik 0,ik 0,.nils,.str 0 0,ik 0] 1 1) .false) q = q h1'.nx h2:=e2
     have e3' : ∀ q,words.store h2 h1'.nx 0 5 cells q = q h3':=e3
     refine ⟨h3',?_,U1.trans U3⟩
     by_cases h3' : kindOf sh s = 3
     · have n2 : ieq (.ofNat (kindOf sh s)) (.ofNat 3) = true:=by rw [ieq_nat]; simpa using h3'
       have n3 : ieq (.ofNat k) (.ofNat 0) = false:=by rw [ieq_nat]; simpa using fun e=>h3 ⟨h3',e⟩
       simp -implicitDefEqProofs only [sh49,↓ek,↓n0,↓n1,↓k4,↓n2,↓k7,↓n3,↓e1,↓e2',↓e3',↓evR]
     · have n2 : ieq (.ofNat (kindOf sh s)) (.ofNat 3) = false:=by rw [ieq_nat]; simpa using h3'
       simp -implicitDefEqProofs only [sh49,↓ek,↓n0,↓n1,↓k4,↓n2,↓e1,↓e2',↓e3',↓evR]
theorem ref_deep (w : RefT h p va vs pv sh L S X) {s k : Nat} (hn : L.length < n) (hk : k < 18446744073709551616) (hL : L.length ≤ 1000000) (h1 : ∀ t ∈ L,kindOf sh t.shape ≠ 1) :
 ∃ h',call tabW n (d + 1 + 1 + 1 + 1) f50 [.ptr p 0,ik s,.int .u64 (.ofNat k)] h = .ret (ik ((isW sh L s k).getD 0)) h'∧Up h h':=by
 obtain ⟨h1',cells,e1,U1,hc5,hd⟩:=thing_law (n:=n) (d:=d) (s:=s) w hn hk hL
 obtain ⟨h2,h3',e2,e3,r3,U3,lt3⟩:=new_store h1' (g:=5) (z:=zeroT) (l:=cells) rfl hc5 (by omega)
 have e2' : ∀ q,words.new h1' (.arr 5 1 (repT [ik 0,ik 0,.nils,.str 0 0,ik 0] 1 1) .false) q = q h1'.nx h2:=e2
 have e3' : ∀ q,words.store h2 h1'.nx 0 5 cells q = q h3':=e3
 have ed : (match thingR sh L s k with | some j=>((L[j]?).map (·.deep)).getD 0 | none=>0) = (isW sh L s k).getD 0:=by
  simp only [isW,thingR]
  by_cases hk1 : kindOf sh s = 1
  · have : idxs L s = []:=by
     cases hx : idxs L s with
     | nil=>rfl
     | cons i r=>
       obtain ⟨t,ht,hs⟩:=idxs_mem (L:=L) (s:=s) (i:=i) (by rw [hx]; simp)
       exact absurd (by rw [hs]; exact hk1) (h1 t (List.mem_of_getElem? ht))
    rw [if_pos hk1,this]
    simp
  · rw [if_neg hk1]
    by_cases h3 : kindOf sh s = 3∧k = 0
    · rw [if_pos h3,if_neg (by simp only [fst0,if_pos h3.1]; omega)]
      rfl
    · have hf : fst0 sh s ≤ k:=by
       simp only [fst0]
       split
       · rename_i h; have:=Nat.pos_of_ne_zero (fun e=>h3 ⟨h,e⟩); omega
       · omega
      rw [if_neg h3,if_pos hf]
      cases (idxs L s)[k - fst0 sh s]? <;> rfl
 rw [ed] at hd
 have c4 : ∀ q : V→Res,words.load1 h3' h1'.nx 4 q = q (ik ((isW sh L s k).getD 0)):=fun q=>load1k_law r3 hd q
 refine ⟨h3',?_,U1.trans U3⟩
 rw [call50]
 simp -implicitDefEqProofs only [sh50,↓e1,↓e2',↓e3',↓c4,↓evR]
end
end Go.Ev.WIB

/- InternLoads: the document's table: one thing more; symbols; records and terms. -/
namespace Go.Ev.WIB
open Go.Proofs
set_option maxRecDepth 100000
theorem seq_sV {a b : List Nat} (ha : Bytes a) (hb : Bytes b) : seq a.length (packN a) b.length (packN b) = decide (a = b):=by
 rw [seq_law]
 by_cases e : a = b
 · subst e; simp
 · rw [decide_eq_false e]
   simp only [decide_eq_false_iff_not]
   rintro ⟨h1,h2⟩
   exact e (sV_inj ha hb (by rw [sV,sV,h1,h2]))
instance (t u : Th) : Decidable (Alike t u):=by unfold Alike; infer_instance
section
variable {h : Heap} {p : Bid} {va vs : V} {pv : List V} {sh : List Sh} {L : List Th} {S X : Nat→Prop} {n d : Nat}
theorem same61_loop {hs : Heap} {A : Nat→Prop} {p0 p1 : Bid} {a b : List Nat} {va vb x0 x1 x2 x3 y0 y1 y2 y3 : V} (r0 : Row (hs.t.get p0) 5 [x0,x1,va,x2,x3]) (r1 : Row (hs.t.get p1) 5 [y0,y1,vb,y2,y3]) (wa : CellA hs A (.sl 1 (a.map wT)) va) (wb : CellA hs A (.sl 1 (b.map wT)) vb) (hl : a.length = b.length) (hl2 : a.length ≤ 1000000) :
 ∀ (j : Nat) {i q : Nat},i + j = a.length→j < q→lpk (b61_1 words n (call tabW n d)) q [.ptr p0 0,.ptr p1 0,ik i] hs = .ret (.bool (decide (a.drop i = b.drop i))) hs
 | j,i,0,_,h0=>absurd h0 (Nat.not_lt_zero _)
 | j,i,q + 1,hi,hq=>by
   have g0 : ∀ q : V→Res,words.load1 hs p0 2 q = q va:=fun q=>load1k_law r0 rfl q
   have g0' : ∀ q : V→Res,words.load1 hs p0 (Nat.add 0 2) q = q va:=g0
   have g1 : ∀ q : V→Res,words.load1 hs p1 2 q = q vb:=fun q=>load1k_law r1 rfl q
   have g1' : ∀ q : V→Res,words.load1 hs p1 (Nat.add 0 2) q = q vb:=g1
   have la : ∀ q : Nat→Res,lenk va q = q a.length:=fun q=>by rw [wa.lenk,List.length_map]
   by_cases hil : i < a.length
   · obtain ⟨j,rfl⟩ : ∃ j',j = j' + 1:=⟨j - 1,by omega⟩
     have hib : i < b.length:=by omega
     have n1:=ilt_true hil
     have n2 : Nat.blt i a.length = true:=blt_of hil
     have n2' : Nat.blt i b.length = true:=blt_of hib
     have n3:=ad_nat (a:=i) (b:=1) (by omega)
     obtain ⟨b1,o1,m1,e1,a1⟩:=word_at wa hil
     obtain ⟨b2,o2,m2,e2,a2⟩:=word_at wb hib
     have ih:=same61_loop r0 r1 wa wb hl hl2 j (i:=i + 1) (q:=q) (by omega) (by omega)
     rw [e1] at g0 g0' la
     rw [e2] at g1 g1'
     rw [lpk_succ,List.drop_eq_getElem_cons hil,List.drop_eq_getElem_cons hib]
     by_cases he : a[i] = b[i]
     · have n4 : ieq (.ofNat a[i]) (.ofNat b[i]) = true:=by rw [ieq_nat]; simpa using he
       have e5 : decide (a[i] :: a.drop (i + 1) = b[i] :: b.drop (i + 1)) = decide (a.drop (i + 1) = b.drop (i + 1)):=decide_eq_decide.2 ⟨fun h=>(List.cons.inj h).2,fun h=>by rw [he,h]⟩
       rw [e5]
       simp -implicitDefEqProofs only [b61_1,↓g0,↓g0',↓la,↓n1,↓n2,↓a1,↓g1,↓g1',↓n2',↓a2,↓n4,↓n3,↓ih,↓evR]
     · have n4 : ieq (.ofNat a[i]) (.ofNat b[i]) = false:=by rw [ieq_nat]; simpa using he
       have e5 : decide (a[i] :: a.drop (i + 1) = b[i] :: b.drop (i + 1)) = false:=decide_eq_false fun h=>he (List.cons.inj h).1
       rw [e5]
       simp -implicitDefEqProofs only [b61_1,↓g0,↓g0',↓la,↓n1,↓n2,↓a1,↓g1,↓g1',↓n2',↓a2,↓n4,↓evR]
   · have n1 : ilt (.ofNat i) (.ofNat a.length) = false:=ilt_false hil
     rw [lpk_succ,List.drop_eq_nil_of_le (by omega),List.drop_eq_nil_of_le (by omega)]
     have e5 : decide (([] : List Nat) = []) = true:=rfl
     rw [e5]
     simp -implicitDefEqProofs only [b61_1,↓g0,↓g0',↓la,↓n1,↓evR]
theorem same61 {A : Nat→Prop} {t u : Th} {v v' : V} (hn : 10000 ≤ n) (ht : Bytes t.text) (hu : Bytes u.text) (hA : ∀ x,A x→x < h.nx.val) (wt : CellA h A (.sl 1 (t.parts.map wT)) v) (wu : CellA h A (.sl 1 (u.parts.map wT)) v') (hp : t.parts.length ≤ 9000) :
 ∃ h' bb,call tabW n (d + 1) f61 [.agg 5 (rC t v),.agg 5 (rC u v')] h = .ret (.bool bb) h'∧Up h h'∧(bb = true ↔ Alike t u):=by
 obtain ⟨h0,e0,r0,U0,lt0⟩:=new_row h (g:=5) (l:=rC t v) rfl (by omega)
 have e0' : ∀ q,words.new h (.arr 5 1 (.lf [I (.ofNat t.shape),I (.ofNat t.branch),v,.str t.text.length (packN t.text),I (.ofNat t.deep)]) .false) q = q h.nx h0:=e0
 obtain ⟨h1,e1,r1,U1,lt1⟩:=new_row h0 (g:=5) (l:=rC u v') rfl (by omega)
 have e1' : ∀ q,words.new h0 (.arr 5 1 (.lf [I (.ofNat u.shape),I (.ofNat u.branch),v',.str u.text.length (packN u.text),I (.ofNat u.deep)]) .false) q = q h0.nx h1:=e1
 have r01:=r0.later lt0 U1
 have U01:=U0.trans U1
 have wt1 : CellA h1 A (.sl 1 (t.parts.map wT)) v:=wt.mv (fun _ hx=>hx) fun b hb=>U01.get b (hA _ hb)
 have wu1 : CellA h1 A (.sl 1 (u.parts.map wT)) v':=wu.mv (fun _ hx=>hx) fun b hb=>U01.get b (hA _ hb)
 have a0 : ∀ q : V→Res,words.load1 h1 h.nx 0 q = q (ik t.shape):=fun q=>load1k_law r01 rfl q
 have a1 : ∀ q : V→Res,words.load1 h1 h.nx 1 q = q (ik t.branch):=fun q=>load1k_law r01 rfl q
 have a2 : ∀ q : V→Res,words.load1 h1 h.nx 2 q = q v:=fun q=>load1k_law r01 rfl q
 have a3 : ∀ q : V→Res,words.load1 h1 h.nx 3 q = q (.str t.text.length (packN t.text)):=fun q=>load1k_law r01 rfl q
 have b0 : ∀ q : V→Res,words.load1 h1 h0.nx 0 q = q (ik u.shape):=fun q=>load1k_law r1 rfl q
 have b1 : ∀ q : V→Res,words.load1 h1 h0.nx 1 q = q (ik u.branch):=fun q=>load1k_law r1 rfl q
 have b2 : ∀ q : V→Res,words.load1 h1 h0.nx 2 q = q v':=fun q=>load1k_law r1 rfl q
 have b3 : ∀ q : V→Res,words.load1 h1 h0.nx 3 q = q (.str u.text.length (packN u.text)):=fun q=>load1k_law r1 rfl q
 have lt : ∀ q : Nat→Res,lenk v q = q t.parts.length:=fun q=>by rw [wt.lenk,List.length_map]
 have lu : ∀ q : Nat→Res,lenk v' q = q u.parts.length:=fun q=>by rw [wu.lenk,List.length_map]
 have ss:=seq_sV ht hu
 have lp : (fun t v=>[I (.ofNat t.shape),I (.ofNat t.branch),v,V.str t.text.length (packN t.text),I (.ofNat t.deep)]) = rC:=rfl
 rw [call61,← lp]
 refine ⟨h1,decide (Alike t u),?_,U01,by simp⟩
 by_cases c0 : t.shape = u.shape
 · have n0 : ieq (.ofNat t.shape) (.ofNat u.shape) = true:=by rw [ieq_nat]; simpa using c0
   by_cases c1 : t.branch = u.branch
   · have n1 : ieq (.ofNat t.branch) (.ofNat u.branch) = true:=by rw [ieq_nat]; simpa using c1
     by_cases c2 : t.text = u.text
     · have n2 : seq t.text.length (packN t.text) u.text.length (packN u.text) = true:=by rw [ss]; simpa using c2
       by_cases c3 : t.parts.length = u.parts.length
       · have n3 : ieq (.ofNat t.parts.length) (.ofNat u.parts.length) = true:=by rw [ieq_nat]; simpa using c3
         have e5:=same61_loop (n:=n) (d:=d) r01 r1 wt1 wu1 c3 (by omega) t.parts.length (i:=0) (q:=n) (by omega) (by omega)
         rw [List.drop_zero,List.drop_zero] at e5
         have e6 : decide (Alike t u) = decide (t.parts = u.parts):=by simp [Alike,c0,c1,c2]
         rw [e6]
         simp -implicitDefEqProofs only [sh61,↓e0',↓e1',↓a0,↓b0,↓n0,↓a1,↓b1,↓n1,↓a3,↓b3,↓n2,↓a2,↓b2,↓lt,↓lu,↓n3,↓e5,↓evR]
       · have n3 : ieq (.ofNat t.parts.length) (.ofNat u.parts.length) = false:=by rw [ieq_nat]; simpa using c3
         rw [decide_eq_false fun e=>c3 (by rw [e.2.2.1])]
         simp -implicitDefEqProofs only [sh61,↓e0',↓e1',↓a0,↓b0,↓n0,↓a1,↓b1,↓n1,↓a3,↓b3,↓n2,↓a2,↓b2,↓lt,↓lu,↓n3,↓evR]
     · have n2 : seq t.text.length (packN t.text) u.text.length (packN u.text) = false:=by rw [ss]; simpa using c2
       rw [decide_eq_false fun e=>c2 e.2.2.2]
       simp -implicitDefEqProofs only [sh61,↓e0',↓e1',↓a0,↓b0,↓n0,↓a1,↓b1,↓n1,↓a3,↓b3,↓n2,↓evR]
   · have n1 : ieq (.ofNat t.branch) (.ofNat u.branch) = false:=by rw [ieq_nat]; simpa using c1
     rw [decide_eq_false fun e=>c1 e.2.1]
     simp -implicitDefEqProofs only [sh61,↓e0',↓e1',↓a0,↓b0,↓n0,↓a1,↓b1,↓n1,↓evR]
 · have n0 : ieq (.ofNat t.shape) (.ofNat u.shape) = false:=by rw [ieq_nat]; simpa using c0
   rw [decide_eq_false fun e=>c0 e.1]
   simp -implicitDefEqProofs only [sh61,↓e0',↓e1',↓a0,↓b0,↓n0,↓evR]
def ThsOk (L : List Th) : Prop:=∀ t ∈ L,Bytes t.text∧t.parts.length ≤ 12
theorem put_loop {hs : Heap} (w : RefT hs p va vs pv sh L S X) {t : Th} {v : V} {p0 : Bid} (hn : 10000 ≤ n) (ok : ThsOk L) (ht : Bytes t.text) (hp : t.parts.length ≤ 12) (hL : L.length ≤ 1000000) (wv : CellA hs (Still hs (SX S X)) (.sl 1 (t.parts.map wT)) v) (r0 : Row (hs.t.get p0) 5 (rC t v)) (l0 : p0.val < hs.nx.val) :
 ∀ (j : Nat) {i q c : Nat} {h : Heap},i + j = L.length→j < q→c + j ≤ L.length + 2→Up hs h →
  ((∃ u ∈ L.drop i,Alike u t)→∃ h' m,lpk (b47_1 words n (call tabW n (d + 1))) q [.ptr p 0,.ptr p0 0,.int .u64 (.ofNat c),ik i] h = .done .ret [.ptr p 0,.ptr p0 0,.int .u64 (.ofNat m),ik 0,.int .u64 (.ofNat m)] h'∧Up hs h') ∧
  ((∀ u ∈ L.drop i,¬ Alike u t)→∃ h' m,lpk (b47_1 words n (call tabW n (d + 1))) q [.ptr p 0,.ptr p0 0,.int .u64 (.ofNat c),ik i] h = .done .normal [.ptr p 0,.ptr p0 0,.und,.und,.int .u64 (.ofNat m)] h'∧Up hs h')
 | j,i,0,_,_,_,h0,_,_=>absurd h0 (Nat.not_lt_zero _)
 | 0,i,q + 1,c,h,hi,_,_,U=>by
   have n1 : ilt (.ofNat i) (.ofNat L.length) = false:=ilt_false (by omega)
   obtain ⟨_,l1,l1'⟩:=(w.up U).ld
   have ln:=w.ln
   rw [List.drop_eq_nil_of_le (by omega)]
   refine ⟨fun ⟨u,hu,_⟩=>by simp at hu,fun _=>⟨h,c,?_,U⟩⟩
   rw [lpk_succ]
   simp -implicitDefEqProofs only [b47_1,↓l1,↓l1',↓ln,↓n1,↓evR]
 | j + 1,i,q + 1,c,h,hi,hq,hc,U=>by
   have hil : i < L.length:=by omega
   have hip : i < pv.length:=by rw [w.pl]; exact hil
   have n1:=ilt_true hil
   have n2 : Nat.blt i L.length = true:=blt_of hil
   have n3:=ad_nat (a:=i) (b:=1) (by omega)
   have wh:=w.up U
   obtain ⟨_,l1,l1'⟩:=wh.ld
   have ln:=w.ln
   obtain ⟨b,ev,hb,l5,ls⟩:=wh.th hil hip
   have lt : ∀ x,SX S X x→x < hs.nx.val:=fun x hx=>hx.elim w.lts fun h=>(w.xs x h).1
   have r0h:=r0.later l0 U
   have ld5 : ∀ {h' : Heap},Row (h'.t.get p0) 5 (rC t v)→∀ q : List V→Res,words.load h' p0 0 5 q = q (rC t v):=fun r q=>by
    have:=loadk_law r (o:=0) (n:=5) (by simp [rC]) q
    rw [List.drop_zero,List.take_of_length_le (by simp [rC])] at this
    exact this
   have l5':=ld5 r0h
   obtain ⟨h1,bb,e1,U1,hbb⟩:=same61 (n:=n) (d:=d) (h:=h) (A:=Still h (SX S X)) (t:=L[i]) (u:=t) hn (ok _ (List.getElem_mem hil)).1 ht (fun x hx=>hx.1) (wh.parts i _ _ (List.getElem?_eq_getElem hil) (List.getElem?_eq_getElem hip)) (wv.stay U lt) (by have:=(ok _ (List.getElem_mem hil)).2; omega)
   have w1:=wh.up U1
   obtain ⟨_,m1,m1'⟩:=w1.ld
   obtain ⟨b',ev',_,_,ls'⟩:=w1.th hil hip
   rw [ev] at ev'
   cases ev'
   rw [ev] at l1 l1' ln m1 m1'
   have c0 : ∀ q : V→Res,words.load1 h1 p0 0 q = q (ik t.shape):=fun q=>load1k_law (r0.later l0 (U.trans U1)) rfl q
   rw [List.drop_eq_getElem_cons hil]
   cases bb with
   | true=>
     have hal:=hbb.1 rfl
     refine ⟨fun _=>⟨h1,c,?_,U.trans U1⟩,fun hno=>absurd hal (hno _ List.mem_cons_self)⟩
     rw [lpk_succ]
     simp -implicitDefEqProofs only [b47_1,↓l1,↓l1',↓ln,↓n1,↓n2,↓l5,↓l5',↓e1,↓evR]
   | false=>
     have hal : ¬ Alike L[i] t:=fun e=>by have:=hbb.2 e; cases this
     by_cases hsh : L[i].shape = t.shape
     · have n4 : ieq (.ofNat L[i].shape) (.ofNat t.shape) = true:=by rw [ieq_nat]; simpa using hsh
       have n6 : wrapv .u64 (Int.add (.ofNat c) (.ofNat 1)) = .ofNat (c + 1):=u64_small (by omega)
       have ih:=put_loop w hn ok ht hp hL wv r0 l0 j (i:=i + 1) (q:=q) (c:=c + 1) (h:=h1) (by omega) (by omega) (by omega) (U.trans U1)
       have step : ∀ R : Res,lpk (b47_1 words n (call tabW n (d + 1))) q [.ptr p 0,.ptr p0 0,.int .u64 (.ofNat (c + 1)),ik (i + 1)] h1 = R→lpk (b47_1 words n (call tabW n (d + 1))) (q + 1) [.ptr p 0,.ptr p0 0,.int .u64 (.ofNat c),ik i] h = R:=fun R hR=>by
        rw [lpk_succ]
        simp -implicitDefEqProofs only [b47_1,↓l1,↓l1',↓ln,↓n1,↓n2,↓l5,↓l5',↓e1,↓m1,↓m1',↓ls',↓c0,↓n4,↓n6,↓n3,↓hR,↓evR]
       refine ⟨fun ⟨u,hu,hal'⟩=>?_,fun hno=>?_⟩
       · obtain ⟨h',m,a1,a2⟩:=ih.1 ⟨u,((List.mem_cons.1 hu).resolve_left fun e=>hal (e ▸ hal')),hal'⟩
         exact ⟨h',m,step _ a1,a2⟩
       · obtain ⟨h',m,a1,a2⟩:=ih.2 fun u hu=>hno u (List.mem_cons_of_mem _ hu)
         exact ⟨h',m,step _ a1,a2⟩
     · have n4 : ieq (.ofNat L[i].shape) (.ofNat t.shape) = false:=by rw [ieq_nat]; simpa using hsh
       have ih:=put_loop w hn ok ht hp hL wv r0 l0 j (i:=i + 1) (q:=q) (c:=c) (h:=h1) (by omega) (by omega) (by omega) (U.trans U1)
       have step : ∀ R : Res,lpk (b47_1 words n (call tabW n (d + 1))) q [.ptr p 0,.ptr p0 0,.int .u64 (.ofNat c),ik (i + 1)] h1 = R→lpk (b47_1 words n (call tabW n (d + 1))) (q + 1) [.ptr p 0,.ptr p0 0,.int .u64 (.ofNat c),ik i] h = R:=fun R hR=>by
        rw [lpk_succ]
        simp -implicitDefEqProofs only [b47_1,↓l1,↓l1',↓ln,↓n1,↓n2,↓l5,↓l5',↓e1,↓m1,↓m1',↓ls',↓c0,↓n4,↓n3,↓hR,↓evR]
       refine ⟨fun ⟨u,hu,hal'⟩=>?_,fun hno=>?_⟩
       · obtain ⟨h',m,a1,a2⟩:=ih.1 ⟨u,((List.mem_cons.1 hu).resolve_left fun e=>hal (e ▸ hal')),hal'⟩
         exact ⟨h',m,step _ a1,a2⟩
       · obtain ⟨h',m,a1,a2⟩:=ih.2 fun u hu=>hno u (List.mem_cons_of_mem _ hu)
         exact ⟨h',m,step _ a1,a2⟩
def Puts (h : Heap) (p : Bid) (vs : V) (sh : List Sh) (L : List Th) (S X : Nat→Prop) (ok : Prop) (t : Th) (R : Res) : Prop:=
 ∃ h' m e L' va' pv' S',R = .ret (.tup [.int .u64 (.ofNat m),ik e]) h'∧RefT h' p va' vs pv' sh L' S' X∧Chg S h h'∧(∀ x,S' x→S x ∨ h.nx.val ≤ x)∧((ok∧e = 0∧L' = L ++ [t]) ∨ (¬ ok∧(e ≠ 0 ∨ e = 0)∧(e ≠ 0 ∨ L'.length = L.length)))
theorem put47 (w : RefT h p va vs pv sh L S X) {t : Th} {v : V} (hn : 10000 ≤ n) (hn2 : L.length < n) (ok : ThsOk L) (ht : Bytes t.text) (hp : t.parts.length ≤ 12) (hL : L.length < 1000000) (wv : CellA h (Still h (SX S X)) (.sl 1 (t.parts.map wT)) v) :
 Puts h p vs sh L S X (∀ u ∈ L,¬ Alike u t) t (call tabW n (d + 1 + 1 + 1) f47 [.ptr p 0,.agg 5 (rC t v)] h):=by
 obtain ⟨h0,e0,r0,U0,lt0⟩:=new_row h (g:=5) (l:=rC t v) rfl (by omega)
 have e0' : ∀ q,words.new h (.arr 5 1 (.lf (rC t v)) .false) q = q h.nx h0:=e0
 have len5 : (rC t v).length = 5:=rfl
 have w0:=w.up U0
 have lt : ∀ x,SX S X x→x < h.nx.val:=fun x hx=>hx.elim w.lts fun h=>(w.xs x h).1
 have c0 : ∀ q : V→Res,words.load1 h0 h.nx 0 q = q (ik t.shape):=fun q=>load1k_law r0 rfl q
 have ef:=w0.first (n:=n) (d:=d) t.shape
 have f1:=fst0_le sh t.shape
 have lp:=put_loop (n:=n) (d:=d + 1) w0 hn ok ht hp (by omega) (wv.stay U0 lt) r0 lt0 L.length (i:=0) (q:=n) (c:=fst0 sh t.shape) (h:=h0) (by omega) (by omega) (by omega) (.refl _)
 rw [List.drop_zero] at lp
 by_cases hk : ∃ u ∈ L,Alike u t
 · obtain ⟨h1,m,e1,U1⟩:=lp.1 hk
   refine ⟨h1,m,0,L,va,pv,S,?_,w.up (U0.trans U1),(U0.trans U1).chg,fun x hx=>.inl hx,.inr ⟨fun hno=>?_,.inr rfl,.inr rfl⟩⟩
   · rw [call47]
     simp -implicitDefEqProofs only [sh47,↓e0',↓len5,↓c0,↓ef,↓e1,↓evR]
   · obtain ⟨u,hu,hal⟩:=hk
     exact hno u hu hal
 · have hno : ∀ u ∈ L,¬ Alike u t:=fun u hu hal=>hk ⟨u,hu,hal⟩
   obtain ⟨h1,m,e1,U1⟩:=lp.2 hno
   have w1:=w0.up U1
   obtain ⟨_,l1,l1'⟩:=w1.ld
   have ln:=w1.ln
   have n1 : ieq (.ofNat L.length) (.ofNat 0x100000) = false:=by rw [ieq_nat]; simp; omega
   have ld5 : ∀ {h' : Heap},Row (h'.t.get h.nx) 5 (rC t v)→∀ q : List V→Res,words.load h' h.nx 0 5 q = q (rC t v):=fun r q=>by
    have:=loadk_law r (o:=0) (n:=5) (by simp [rC]) q
    rw [List.drop_zero,List.take_of_length_le (by simp [rC])] at this
    exact this
   have r01:=r0.later lt0 U1
   have l5:=ld5 r01
   obtain ⟨h2,e2,r2,U2,lt2⟩:=new_row h1 (g:=5) (l:=rC t v) rfl (by omega)
   have e2' : ∀ q,words.new h1 (.arr 5 1 (.lf (rC t v)) .false) q = q h1.nx h2:=e2
   have w2:=w1.up U2
   have l5':=ld5 (r01.later (Nat.lt_of_lt_of_le lt0 U1.nx) U2)
   obtain ⟨_,m1,m1'⟩:=w2.ld
   obtain ⟨h3,v3,e3,o3,C3,f3,b3,ll3,ev3⟩:=own_app w2.all (by omega) r2 rfl (m:=L.length) (rCs_len w.pl) (by omega)
   have rp3:=C3.row w2.row w2.lt fun x=>x w.oa
   obtain ⟨h4,e4,r4,B4⟩:=storek_law (o:=1) (n:=1) (vs:=[v3]) rp3 rfl (by simp)
   have e4' : ∀ q,words.store h3 p (Nat.add 0 1) 1 [v3] q = q h4:=e4
   have C4:=But.chg B4
   have o3n : ∀ r : Res,onek v3 r = r:=fun r=>by rw [ev3]; rfl
   have ap : ∀ q : List V→Res,appk (rC t v) [] q = q (rC t v):=fun q=>by rw [appk_eq,List.append_nil]
   have rr : ∀ q,words.row 5 1 (rC t v) q = q (.lf (rC t v)):=fun q=>row_one (g:=5) rfl q
   have U02:=(U0.trans U1).trans U2
   have hS : ∀ x,(x = p.val ∨ ¬ Off va x)→S x:=fun x hx=>(w.mem x).2 hx
   have CS : Chg S h h4:=by
    have c3 : Chg S h2 h3:=C3.mono fun x _ hx=>hS x (.inr hx)
    have c4 : Chg S h3 h4:=C4.mono fun x _ hx=>hS x (.inl hx)
    have tr : ∀ {a b c : Heap},Chg S a b→Chg S b c→Chg S a c:=fun p q=>p.trans q fun x hx=>.inl hx
    exact tr (tr U02.chg c3) c4
   have m3 : ∀ x,x < h2.nx.val→Off va x→Off v3 x:=fun x hx ho=>Classical.byContradiction fun e=>(f3 x e).elim (fun e2=>e2 ho) fun e2=>by omega
   have S'S : ∀ x,(x = p.val ∨ ¬ Off v3 x)→S x ∨ h.nx.val ≤ x:=fun x hx=>by
    rcases hx with e | e
    · exact .inl (hS x (.inl e))
    · exact (f3 x e).elim (fun e=>.inl (hS x (.inr e))) fun e=>.inr (by have:=U02.nx; omega)
   have CX : Chg (SX S X) h h4:=CS.mono fun x _ hx=>.inl hx
   have X'X : ∀ x,SX (fun x=>x = p.val ∨ ¬ Off v3 x) X x→SX S X x ∨ h.nx.val ≤ x:=fun x hx=>hx.elim (fun e=>(S'S x e).imp .inl id) fun e=>.inl (.inr e)
   have nx24 : h2.nx.val ≤ h4.nx.val:=Nat.le_trans C3.nx C4.nx
   have nx02:=U02.nx
   refine ⟨h4,m,0,L ++ [t],v3,pv ++ [v],fun x=>x = p.val ∨ ¬ Off v3 x,?_,⟨r4,?_,by simp [w.pl],?_,w.shp.chg CX X'X,fun x hx=>⟨by have:=(w.xs x hx).1; omega,fun e=>(S'S x e).elim (w.xs x hx).2 fun e2=>by have:=(w.xs x hx).1; omega⟩,by have:=w2.lt; omega,m3 _ w2.lt w.oa,fun x=>Iff.rfl⟩,CS,S'S,.inl ⟨hno,rfl,rfl⟩⟩
   · rw [call47]
     simp -implicitDefEqProofs only [sh47,↓e0',↓len5,↓c0,↓ef,↓e1,↓l1,↓l1',↓ln,↓n1,↓l5,↓ap,↓rr,↓e2',↓m1,↓m1',↓l5',↓e3,↓o3n,↓e4',↓evR]
   · rw [rCs_app w.pl]
     exact o3.chg C4 fun x hx=>by subst hx; exact m3 _ w2.lt w.oa
   · intro i t' v' h1' h2'
     by_cases hi : i < L.length
     · rw [List.getElem?_append_left hi] at h1'
       rw [List.getElem?_append_left (by rw [w.pl]; exact hi)] at h2'
       exact (w.parts i t' v' h1' h2').chg CX X'X
     · rw [List.getElem?_append_right (by omega)] at h1'
       rw [List.getElem?_append_right (by rw [w.pl]; omega),w.pl] at h2'
       have : i - L.length = 0:=by have:=(List.getElem?_eq_some_iff.1 h1').1; simp at this; omega
       rw [this] at h1' h2'
       simp at h1' h2'
       subst h1'; subst h2'
       exact wv.chg CX X'X
theorem sym33 (w : RefT h p va vs pv sh L S X) (hn : 10000 ≤ n) (hn2 : L.length < n) (ok : ThsOk L) (hL : L.length < 1000000) {bs : List Nat} (hb : Bytes bs) (hl : bs.length ≤ 65536) :
 Puts h p vs sh L S X (∀ u ∈ L,¬ Alike u (symT bs)) (symT bs) (call tabW n (d + 1 + 1 + 1 + 1) f33 [.ptr p 0,sV bs] h):=by
 obtain ⟨h',m,e,L',va',pv',S',e1,r⟩:=put47 (d:=d) w (t:=symT bs) (v:=.nils) hn hn2 ok hb (by simp [symT]) hL (.nils 1)
 refine ⟨h',m,e,L',va',pv',S',?_,r⟩
 have n1 : ilt (.ofNat 65536) (.ofNat bs.length) = false:=ilt_false (by omega)
 have e1' : call tabW n (d + 1 + 1 + 1) f47 [.ptr p 0,.agg 5 [.int .i64 (.ofNat 1),.int .i64 (.ofNat 0),.nils,.str bs.length (packN bs),.int .i64 (.ofNat 0)]] h = .ret (.tup [.int .u64 (.ofNat m),ik e]) h':=e1
 have ec:=castS_sV bs
 rw [call33]
 simp -implicitDefEqProofs only [sh33,↓ec,↓n1,↓e1',↓evR]
def deepR (sh : List Sh) (L : List Th) : Nat→List Nat→List Nat→Nat
 | D,a :: as',x :: xs=>deepR sh L (max D ((isW sh L a x).getD 0)) as' xs
 | D,_,_=>D
theorem deepR_F (sh : List Sh) (L : List Th) : ∀ (D : Nat) (want ws : List Nat),deepF sh L (D + 1) want ws = deepR sh L D want ws + 1
 | D,[],_=>by simp [deepF,deepR]
 | D,_ :: _,[]=>by simp [deepF,deepR]
 | D,a :: as',x :: xs=>by
   rw [deepF,deepR,← deepR_F]
   congr 1
   omega
def OkM (sh : List Sh) (L : List Th) (s b : Nat) (want ws : List Nat) : Prop:=Valid sh L want ws∧deepF sh L 1 want ws ≤ 100∧∀ u ∈ L,¬ Alike u ⟨s,b,[],ws,deepF sh L 1 want ws⟩
theorem make35_loop {hs : Heap} (w : RefT hs p va vs pv sh L S X) (ok : ShsOk sh) {want ws : List Nat} {vw vp : V} {s b : Nat} (hn2 : L.length < n) (hL : L.length ≤ 1000000) (hdeep : ∀ t ∈ L,t.deep ≤ 100) (h1 : ∀ t ∈ L,kindOf sh t.shape ≠ 1)
 (ww : CellA hs (Still hs (SX S X)) (.sl 1 (want.map iT)) vw) (wp : CellA hs (Still hs (SX S X)) (.sl 1 (ws.map wT)) vp) (hl : ws.length = want.length) (hl2 : ws.length ≤ 12) (hws : ∀ x ∈ ws,x < 18446744073709551616) (hwk : ∀ a ∈ want,a < sh.length) :
 ∀ (j : Nat) {i q D : Nat} {h : Heap},i + j = ws.length→j < q→D ≤ 1000→Up hs h →
  ∃ h',Up hs h'∧((∀ (i' a x : Nat),i ≤ i'→want[i']? = some a→ws[i']? = some x→(isW sh L a x).isSome) →
   lpk (b35_1 words n (call tabW n (d + 1 + 1 + 1 + 1))) q [.ptr p 0,ik s,ik b,vp,vw,ik D,ik i] h = .done .normal [.ptr p 0,ik s,ik b,vp,.und,.und,ik (deepR sh L D (want.drop i) (ws.drop i))] h') ∧
   (¬ (∀ (i' a x : Nat),i ≤ i'→want[i']? = some a→ws[i']? = some x→(isW sh L a x).isSome)→∃ D',lpk (b35_1 words n (call tabW n (d + 1 + 1 + 1 + 1))) q [.ptr p 0,ik s,ik b,vp,vw,ik D,ik i] h = .done .ret [.ptr p 0,ik s,ik b,vp,.int .u64 (.ofNat 0),ik 50,ik D'] h')
 | j,i,0,_,_,_,h0,_,_=>absurd h0 (Nat.not_lt_zero _)
 | 0,i,q + 1,D,h,hi,_,_,U=>by
   have n1 : ilt (.ofNat i) (.ofNat ws.length) = false:=ilt_false (by omega)
   have lp : ∀ q : Nat→Res,lenk vp q = q ws.length:=fun q=>by rw [wp.lenk,List.length_map]
   refine ⟨h,U,fun _=>?_,fun hno=>absurd (fun i' a x hi' _ hx=>by have:=(List.getElem?_eq_some_iff.1 hx).1; omega) hno⟩
   rw [lpk_succ,List.drop_eq_nil_of_le (by omega),List.drop_eq_nil_of_le (by omega)]
   simp -implicitDefEqProofs only [b35_1,↓lp,↓n1,↓deepR,↓evR]
 | j + 1,i,q + 1,D,h,hi,hq,hD,U=>by
   have hik : i < ws.length:=by omega
   have hiw : i < want.length:=by omega
   have lt : ∀ x,SX S X x→x < hs.nx.val:=fun x hx=>hx.elim w.lts fun h=>(w.xs x h).1
   obtain ⟨b1,o1,m1,e1,a1⟩:=word_at (wp.stay U lt) hik
   obtain ⟨b2,o2,m2,e2,a2⟩:=want_at (ww.stay U lt) hiw
   have lp : ∀ q : Nat→Res,lenk vp q = q ws.length:=fun q=>by rw [wp.lenk,List.length_map]
   have wx:=w.up U
   have hwl:=hwk _ (List.getElem_mem hiw)
   obtain ⟨h1',ei,U1⟩:=ref_is (n:=n) (d:=d) wx (s:=want[i]) (k:=ws[i]) hn2 (hws _ (List.getElem_mem hik)) hL (ok.kind hwl).1
   obtain ⟨h2,ed,U2⟩:=ref_deep (n:=n) (d:=d) (wx.up U1) (s:=want[i]) (k:=ws[i]) hn2 (hws _ (List.getElem_mem hik)) hL h1
   have a1' : ∀ q : V→Res,words.load1 h1' b1 (Nat.add o1 i) q = q (.int .u64 (.ofNat ws[i])):=by
    obtain ⟨_,_,_,e1',a1'⟩:=word_at (wp.stay (U.trans U1) lt) hik
    rw [e1] at e1'; cases e1'; exact a1'
   have a2' : ∀ q : V→Res,words.load1 h1' b2 (Nat.add o2 i) q = q (ik want[i]):=by
    obtain ⟨_,_,_,e2',a2'⟩:=want_at (ww.stay (U.trans U1) lt) hiw
    rw [e2] at e2'; cases e2'; exact a2'
   have n1:=ilt_true hik
   have n2 : Nat.blt i ws.length = true:=blt_of hik
   have n2' : Nat.blt i want.length = true:=blt_of hiw
   have n3:=ad_nat (a:=i) (b:=1) (by omega)
   rw [e1] at lp
   by_cases hs1 : (isW sh L want[i] ws[i]).isSome = true
   · rw [hs1] at ei
     have hdd100 : (isW sh L want[i] ws[i]).getD 0 ≤ 100:=by
      unfold isW
      split
      · simp
      · split
        · simp
        · split
          · rename_i jj hjj
            cases hL' : L[jj]? with
            | none=>simp
            | some t=>simpa using hdeep t (List.mem_of_getElem? hL')
          · simp
     have mm:=fun (q : V→Heap→Res)=>sMM_max D ((isW sh L want[i] ws[i]).getD 0) h2 q
     obtain ⟨h3,U3,p1,p2⟩:=make35_loop (s:=s) (b:=b) w ok hn2 hL hdeep h1 ww wp hl hl2 hws hwk j (i:=i + 1) (q:=q) (D:=max D ((isW sh L want[i] ws[i]).getD 0)) (h:=h2) (by omega) (by omega) (by omega) ((U.trans U1).trans U2)
     have step : ∀ R : Res,lpk (b35_1 words n (call tabW n (d + 1 + 1 + 1 + 1))) q [.ptr p 0,ik s,ik b,vp,vw,ik (max D ((isW sh L want[i] ws[i]).getD 0)),ik (i + 1)] h2 = R→lpk (b35_1 words n (call tabW n (d + 1 + 1 + 1 + 1))) (q + 1) [.ptr p 0,ik s,ik b,vp,vw,ik D,ik i] h = R:=fun R hR=>by
      rw [lpk_succ]
      subst e1; subst e2
      simp -implicitDefEqProofs only [b35_1,↓lp,↓n1,↓n2,↓n2',↓a1,↓a2,↓ei,↓a1',↓a2',↓ed,↓mm,↓n3,↓hR,↓evR]
     have eqv : (∀ (i' a x : Nat),i ≤ i'→want[i']? = some a→ws[i']? = some x→(isW sh L a x).isSome) ↔ ∀ (i' a x : Nat),i + 1 ≤ i'→want[i']? = some a→ws[i']? = some x→(isW sh L a x).isSome:=
      ⟨fun H i' a x hi'=>H i' a x (by omega),fun H i' a x hi' h1 h2=>by
        by_cases e : i' = i
        · subst e
          rw [List.getElem?_eq_getElem hiw] at h1
          rw [List.getElem?_eq_getElem hik] at h2
          cases h1; cases h2
          exact hs1
        · exact H i' a x (by omega) h1 h2⟩
     rw [eqv,List.drop_eq_getElem_cons hiw,List.drop_eq_getElem_cons hik,deepR]
     refine ⟨h3,U3,fun H=>step _ (p1 H),fun H=>?_⟩
     obtain ⟨D',e⟩:=p2 H
     exact ⟨D',step _ e⟩
   · have hs2 : (isW sh L want[i] ws[i]).isSome = false:=by simpa using hs1
     rw [hs2] at ei
     refine ⟨h1',U.trans U1,fun H=>absurd (H i _ _ (Nat.le_refl _) (List.getElem?_eq_getElem hiw) (List.getElem?_eq_getElem hik)) hs1,fun _=>⟨D,?_⟩⟩
     rw [lpk_succ]
     subst e1; subst e2
     simp -implicitDefEqProofs only [b35_1,↓lp,↓n1,↓n2,↓n2',↓a1,↓a2,↓ei,↓evR]
theorem make35 (w : RefT h p va vs pv sh L S X) (ok : ShsOk sh) (hn : 10000 ≤ n) (hn2 : L.length < n) (ths : ThsOk L) (hL : L.length < 1000000) (hdeep : ∀ t ∈ L,t.deep ≤ 100) (h1 : ∀ t ∈ L,kindOf sh t.shape ≠ 1) {s b : Nat} {want ws : List Nat} {vp : V} (hw : wantOf sh s (.ofNat b) = some want)
 (wp : CellA h (Still h (SX S X)) (.sl 1 (ws.map wT)) vp) (hl : ws.length = want.length) (hws : ∀ x ∈ ws,x < 18446744073709551616) :
 Puts h p vs sh L S X (OkM sh L s b want ws) ⟨s,b,[],ws,deepF sh L 1 want ws⟩ (call tabW n (d + 1 + 1 + 1 + 1 + 1) f35 [.ptr p 0,ik s,ik b,vp] h):=by
 obtain ⟨hw12,hwk,hb64⟩:=ok.want s _ want hw
 have lt : ∀ x,SX S X x→x < h.nx.val:=fun x hx=>hx.elim w.lts fun h=>(w.xs x h).1
 obtain ⟨vw,ew,rw'⟩:=w.want (n:=n) (d:=d + 1 + 1) (s:=s) (b:=b) (l:=want) hw
 have lw : ∀ q : Nat→Res,lenk vw q = q want.length:=fun q=>by rw [rw'.lenk,List.length_map]
 have lp : ∀ q : Nat→Res,lenk vp q = q ws.length:=fun q=>by rw [wp.lenk,List.length_map]
 have b3 : ieq (.ofNat ws.length) (.ofNat want.length) = true:=by rw [ieq_nat]; simpa using hl
 obtain ⟨h2,U2,p1,p2⟩:=make35_loop (n:=n) (d:=d) (s:=s) (b:=b) w ok hn2 (by omega) hdeep h1 rw' wp hl (by omega) hws hwk ws.length (i:=0) (q:=n) (D:=0) (h:=h) (by omega) (by omega) (by omega) (.refl _)
 rw [List.drop_zero,List.drop_zero] at p1
 have dF:=deepR_F sh L 0 want ws
 rw [Nat.zero_add] at dF
 by_cases hv : Valid sh L want ws
 · have e2:=p1 fun i' a x _=>hv i' a x
   by_cases hd : 100 ≤ deepR sh L 0 want ws
   · have n5 : ilt (.ofNat (deepR sh L 0 want ws)) (.ofNat 100) = false:=ilt_false (by omega)
     refine ⟨h2,0,3,L,va,pv,S,?_,w.up U2,U2.chg,fun x hx=>.inl hx,.inr ⟨fun e=>by have:=e.2.1; omega,.inl (by omega),.inl (by omega)⟩⟩
     rw [call35]
     simp -implicitDefEqProofs only [sh35,↓ew,↓lp,↓lw,↓b3,↓e2,↓n5,↓evR]
   · have n5 : ilt (.ofNat (deepR sh L 0 want ws)) (.ofNat 100) = true:=ilt_true (by omega)
     obtain ⟨h3,h4,e3,e4,r4,U4,lt4⟩:=new_store h2 (g:=5) (z:=zeroT) (l:=[ik s,ik b,.nils,.str 0 0,ik (deepR sh L 0 want ws + 1)]) rfl rfl (by omega)
     have e3' : ∀ q,words.new h2 (.arr 5 1 (repT [ik 0,ik 0,.nils,.str 0 0,ik 0] 1 1) .false) q = q h2.nx h3:=e3
     have e4' : ∀ q,words.store h3 h2.nx 0 5 [ik s,ik b,.nils,.str 0 0,ik (deepR sh L 0 want ws + 1)] q = q h4:=e4
     have n6:=ad_nat (a:=deepR sh L 0 want ws) (b:=1) (by omega)
     have c2 : ∀ q : V→Res,words.load1 h4 h2.nx 2 q = q .nils:=fun q=>load1k_law r4 rfl q
     have U24:=U2.trans U4
     have wp4:=wp.stay U24 lt
     obtain ⟨h5,v5,e5,w5,U5⟩:=appendk_own (h:=h4) (lo:=h4.nx.val) .nils (new:=ws.map fun x=>.int .u64 (.ofNat x)) (Nat.le_refl _) (by simp; omega)
     have e5' : ∀ q : V→Heap→Res,words.app 1 .nils vp h4 q = q v5 h5:=fun q=>by
      show srck 1 vp h4 (fun m new=>appendk 1 .nils m new h4 q) = _
      rw [src_words wp4]
      have:=e5 q
      rw [List.length_map] at this
      exact this
     have w5':=own_words (ws:=ws) (by simpa using w5)
     have o5 : ∀ r : Res,onek v5 r = r:=fun r=>w5'.onek r
     have r5:=r4.later lt4 U5.up
     obtain ⟨h6,e6,r6,B6⟩:=storek_law (o:=2) (n:=1) (vs:=[v5]) r5 rfl (by simp)
     have e6' : ∀ q,words.store h5 h2.nx 2 1 [v5] q = q h6:=e6
     have r6' : Row (h6.t.get h2.nx) 5 [ik s,ik b,v5,.str 0 0,ik (deepR sh L 0 want ws + 1)]:=r6
     have l6 : ∀ q : List V→Res,words.load h6 h2.nx 0 5 q = q [ik s,ik b,v5,.str 0 0,ik (deepR sh L 0 want ws + 1)]:=fun q=>loadk_law r6' (by simp) q
     have U6 : Up h h6:=⟨by rw [B6.nx]; exact Nat.le_trans U24.nx U5.nx,fun b' hb=>by rw [B6.get b' (by rintro rfl; have:=U2.nx; omega),U5.get b' (by have:=U24.nx; omega)]; exact U24.get b' hb⟩
     have w6:=w.up U6
     have wv6 : CellA h6 (Still h6 (SX S X)) (.sl 1 (ws.map wT)) v5:=w5'.mv (fun x hx=>⟨by rw [B6.nx]; exact hx.2,fun e=>by have:=lt x e; have:=U24.nx; omega⟩) fun b' hb=>B6.get b' (bid_ne (by omega))
     obtain ⟨h7,m,e,L',va',pv',S',e7,w7,C7,s7,res⟩:=put47 (n:=n) (d:=d + 1) w6 (t:=⟨s,b,[],ws,deepF sh L 1 want ws⟩) hn hn2 ths .nil (show ws.length ≤ 12 by omega) hL wv6
     have e7' : call tabW n (d + 1 + 1 + 1 + 1) f47 [.ptr p 0,.agg 5 [ik s,ik b,v5,.str 0 0,ik (deepR sh L 0 want ws + 1)]] h6 = .ret (.tup [.int .u64 (.ofNat m),ik e]) h7:=by
      rw [← dF]; exact e7
     refine ⟨h7,m,e,L',va',pv',S',?_,w7,(U6.chg (S:=S)).trans C7 fun x hx=>.inl hx,fun x hx=>(s7 x hx).imp id fun e=>Nat.le_trans U6.nx e,res.imp (fun ⟨a1,a2⟩=>⟨⟨hv,by omega,a1⟩,a2⟩) fun ⟨a1,a2⟩=>⟨fun e=>a1 e.2.2,a2⟩⟩
     rw [call35]
     simp -implicitDefEqProofs only [sh35,↓ew,↓lp,↓lw,↓b3,↓e2,↓n5,↓e3',↓n6,↓e4',↓c2,↓e5',↓o5,↓e6',↓l6,↓e7',↓evR]
 · obtain ⟨D',e2⟩:=p2 fun H=>hv fun i' a x=>H i' a x (Nat.zero_le _)
   refine ⟨h2,0,50,L,va,pv,S,?_,w.up U2,U2.chg,fun x hx=>.inl hx,.inr ⟨fun e=>hv e.1,.inl (by omega),.inl (by omega)⟩⟩
   rw [call35]
   simp -implicitDefEqProofs only [sh35,↓ew,↓lp,↓lw,↓b3,↓e2,↓evR]
end
end Go.Ev.WIB
