/- CpF4: texts joined. -/
import Derived.Test.YtdiepeopeefgpaaEvRules
import Derived.Test.YtdiepeopeefgpaaCpF1
/- CompsPlain: mapped; printed by mkF2.py. -/
namespace Go.Ev.WCP
open Go.Proofs
set_option maxRecDepth 100000
section
variable {n N : Nat}
theorem map50_go {d : Nat} {fv v4 : V} {again : List V→Heap→Res} {h hs : Heap} {rows : List (List Tr)} {i L : Nat} {v : V} (hN : N ≤ hs.nx.val) (U : Up hs h) (W : OwnT h hs.nx.val 2 v (rows.take i)) (hi : i < rows.length) (hl : rows.length ≤ 1000000) (w : CellR h N (.sl 2 rows) v4) (hw : ∀ r ∈ rows,r.length = 2)
 (H : ∀ r ∈ rows,∀ h l,Up hs h→RowR h N r l→∃ h' l',callv (call tabW n d) fv [.agg 2 l] h = .ret (.agg 2 l') h'∧Up h h'∧RowA h' (fun x=>h.nx.val ≤ x∧x < h'.nx.val) r l') :
 ∃ h' v',b50_1 words n (call tabW n d) again [fv,v,v4,I (.ofNat rows.length),I (.ofNat i)] h = again [fv,v',v4,I (.ofNat rows.length),I (.ofNat (i + 1))] h'∧Up hs h'∧OwnT h' hs.nx.val 2 v' (rows.take (i + 1)):=by
 obtain ⟨b,o,c,l,hv4,hr,hl5,hr5,ld,_⟩:=w.row hi
 obtain ⟨h1,h2,e1,e2,row2,U2,lt2⟩:=new_store h (g:=2) (z:=[.str 0 0,.str 0 0]) (l:=l) rfl hl5 (by omega)
 have Us2:=U.trans U2
 obtain ⟨h3,l',e3,U3,w3⟩:=H rows[i] (List.getElem_mem hi) h2 l Us2 (hr.to (Nat.le_trans hN U.nx) U2)
 have hl' : l'.length = 2:=by rw [w3.len,hr5]
 obtain ⟨h4,e4,row4,U4,lt4⟩:=new_row h3 (g:=2) (l:=l') hl' (by omega)
 have U24:=U2.trans (U3.trans U4)
 have W4:=W.up U24
 obtain ⟨h5,v5,e5,W5,U5,nx5,m,_⟩:=app_one (g:=2) (r:=rows[i]) W4 (by omega) row4 hl' hr5 (Nat.le_trans (Nat.le_trans Us2.nx U3.nx) U4.nx)
  (w3.mv (fun x hx=>⟨Nat.le_trans Us2.nx hx.1,Nat.lt_of_lt_of_le hx.2 U4.nx,W.low (.inr (Nat.le_trans U2.nx hx.1))⟩) fun b hb=>U4.get b hb.2) (by rw [List.length_take]; omega)
 have W5' : OwnT h5 hs.nx.val 2 v5 (rows.take (i + 1)):=by rw [List.take_succ_eq_append_getElem hi]; exact W5
 have d1 : ∀ q,words.new h (.arr 2 1 (repT [.str 0 0,.str 0 0] 1 1) .false) q = q h.nx h1:=e1
 have d2 : ∀ q : Heap→Res,words.store h1 h.nx 0 2 l q = q h2:=e2
 have a1 : ∀ q : List V→Res,words.load h b (Nat.add o (Nat.mul i 2)) 2 q = q l:=ld
 have a2 : ∀ q : List V→Res,words.load h2 h.nx 0 2 q = q l:=fun q=>by
  have:=loadk_law row2 (o:=0) (n:=2) (by omega) q
  rw [List.drop_zero,List.take_of_length_le (by omega)] at this
  exact this
 have r1 : ∀ q,words.row 2 1 l' q = q (.lf l'):=fun q=>row_one hl' q
 have d4 : ∀ q,words.new h3 (.arr 2 1 (.lf l') .false) q = q h3.nx h4:=e4
 have ap : ∀ q : List V→Res,appk l' [] q = q l':=fun q=>by rw [appk_eq,List.append_nil]
 have n1:=ilt_true hi
 have n2 : Nat.blt i rows.length = true:=blt_of hi
 have n3:=ad_nat (a:=i) (b:=1) (by omega)
 refine ⟨h5,v5,?_,⟨by have:=Us2.nx; have:=U3.nx; have:=U4.nx; omega,fun x hx=>?_⟩,W5'⟩
 · subst hv4
   simp -implicitDefEqProofs only [b50_1,↓n1,↓n2,↓a1,↓d1,↓d2,↓a2,↓e3,↓ap,↓r1,↓d4,↓e5,↓n3,↓evR]
 · rw [U5.get x (by have:=Us2.nx; have:=U3.nx; have:=U4.nx; omega) (W4.low (.inl hx)),U24.get x (Nat.lt_of_lt_of_le hx U.nx),U.get x hx]
theorem map50_loop {d : Nat} {fv v4 : V} {hs : Heap} {rows : List (List Tr)} (hN : N ≤ hs.nx.val) (hl : rows.length ≤ 1000000) (w : CellR hs N (.sl 2 rows) v4) (hw : ∀ r ∈ rows,r.length = 2)
 (H : ∀ r ∈ rows,∀ h l,Up hs h→RowR h N r l→∃ h' l',callv (call tabW n d) fv [.agg 2 l] h = .ret (.agg 2 l') h'∧Up h h'∧RowA h' (fun x=>h.nx.val ≤ x∧x < h'.nx.val) r l') :
 ∀ (j : Nat) {i q : Nat} {h : Heap} {v : V},i + j = rows.length→j < q→Up hs h→OwnT h hs.nx.val 2 v (rows.take i) →
  ∃ h' v',lpk (b50_1 words n (call tabW n d)) q [fv,v,v4,I (.ofNat rows.length),I (.ofNat i)] h = .ret v' h'∧Up hs h'∧OwnT h' hs.nx.val 2 v' rows:=by
 intro j
 induction j with
 | zero=>
   intro i q h v hij hq U W
   obtain ⟨q,rfl⟩ : ∃ q',q = q' + 1:=⟨q - 1,by omega⟩
   have n1 : ilt (.ofNat i) (.ofNat rows.length) = false:=ilt_false (by omega)
   refine ⟨h,v,?_,U,by rwa [List.take_of_length_le (by omega)] at W⟩
   rw [lpk_succ]
   simp -implicitDefEqProofs only [b50_1,↓n1,↓evR]
 | succ j ih=>
   intro i q h v hij hq U W
   obtain ⟨q,rfl⟩ : ∃ q',q = q' + 1:=⟨q - 1,by omega⟩
   obtain ⟨h1,v1,e1,U1,W1⟩:=map50_go (n:=n) (again:=lpk (b50_1 words n (call tabW n d)) q) (L:=0) hN U W (by omega) hl (w.to hN U) hw H
   obtain ⟨h2,v2,e2,U2,W2⟩:=ih (i:=i + 1) (q:=q) (by omega) (by omega) U1 W1
   exact ⟨h2,v2,by rw [lpk_succ,e1]; exact e2,U2,W2⟩
theorem map50 {d : Nat} {fv v4 : V} {hs : Heap} {rows : List (List Tr)} (hn : 1000000 < n) (hN : N ≤ hs.nx.val) (hl : rows.length ≤ 1000000) (w : CellR hs N (.sl 2 rows) v4) (hw : ∀ r ∈ rows,r.length = 2)
 (H : ∀ r ∈ rows,∀ h l,Up hs h→RowR h N r l→∃ h' l',callv (call tabW n d) fv [.agg 2 l] h = .ret (.agg 2 l') h'∧Up h h'∧RowA h' (fun x=>h.nx.val ≤ x∧x < h'.nx.val) r l') :
 ∃ h' v',call tabW n (d + 1) f50 [v4,fv] hs = .ret v' h'∧Up hs h'∧CellA h' (fun x=>hs.nx.val ≤ x∧x < h'.nx.val) (.sl 2 rows) v':=by
 obtain ⟨h',v',e,U,W⟩:=map50_loop (n:=n) hN hl w hw H rows.length (i:=0) (q:=n) (v:=.nils) (by omega) (by omega) (.refl _) (by rw [List.take_zero]; exact .nils)
 refine ⟨h',v',?_,U,W.cell⟩
 rw [call50,sh50]
 simp -implicitDefEqProofs only [↓w.lenk,↓evR]
 exact e
theorem map32_go {d : Nat} {fv v4 : V} {again : List V→Heap→Res} {h hs : Heap} {rows : List (List Tr)} {i L : Nat} {v : V} (hN : N ≤ hs.nx.val) (U : Up hs h) (W : OwnT h hs.nx.val 2 v (rows.take i)) (hi : i < rows.length) (hl : rows.length ≤ 1000000) (w : CellR h N (.sl 2 rows) v4) (hw : ∀ r ∈ rows,r.length = 2)
 (H : ∀ r ∈ rows,∀ h l,Up hs h→RowR h N r l→∃ h' l',callv (call tabW n d) fv [.agg 2 l] h = .ret (.agg 2 l') h'∧Up h h'∧RowA h' (fun x=>h.nx.val ≤ x∧x < h'.nx.val) r l') :
 ∃ h' v',b32_1 words n (call tabW n d) again [fv,v,v4,I (.ofNat rows.length),I (.ofNat i)] h = again [fv,v',v4,I (.ofNat rows.length),I (.ofNat (i + 1))] h'∧Up hs h'∧OwnT h' hs.nx.val 2 v' (rows.take (i + 1)):=by
 obtain ⟨b,o,c,l,hv4,hr,hl5,hr5,ld,_⟩:=w.row hi
 obtain ⟨h1,h2,e1,e2,row2,U2,lt2⟩:=new_store h (g:=2) (z:=[.str 0 0,.nils]) (l:=l) rfl hl5 (by omega)
 have Us2:=U.trans U2
 obtain ⟨h3,l',e3,U3,w3⟩:=H rows[i] (List.getElem_mem hi) h2 l Us2 (hr.to (Nat.le_trans hN U.nx) U2)
 have hl' : l'.length = 2:=by rw [w3.len,hr5]
 obtain ⟨h4,e4,row4,U4,lt4⟩:=new_row h3 (g:=2) (l:=l') hl' (by omega)
 have U24:=U2.trans (U3.trans U4)
 have W4:=W.up U24
 obtain ⟨h5,v5,e5,W5,U5,nx5,m,_⟩:=app_one (g:=2) (r:=rows[i]) W4 (by omega) row4 hl' hr5 (Nat.le_trans (Nat.le_trans Us2.nx U3.nx) U4.nx)
  (w3.mv (fun x hx=>⟨Nat.le_trans Us2.nx hx.1,Nat.lt_of_lt_of_le hx.2 U4.nx,W.low (.inr (Nat.le_trans U2.nx hx.1))⟩) fun b hb=>U4.get b hb.2) (by rw [List.length_take]; omega)
 have W5' : OwnT h5 hs.nx.val 2 v5 (rows.take (i + 1)):=by rw [List.take_succ_eq_append_getElem hi]; exact W5
 have d1 : ∀ q,words.new h (.arr 2 1 (repT [.str 0 0,.nils] 1 1) .false) q = q h.nx h1:=e1
 have d2 : ∀ q : Heap→Res,words.store h1 h.nx 0 2 l q = q h2:=e2
 have a1 : ∀ q : List V→Res,words.load h b (Nat.add o (Nat.mul i 2)) 2 q = q l:=ld
 have a2 : ∀ q : List V→Res,words.load h2 h.nx 0 2 q = q l:=fun q=>by
  have:=loadk_law row2 (o:=0) (n:=2) (by omega) q
  rw [List.drop_zero,List.take_of_length_le (by omega)] at this
  exact this
 have r1 : ∀ q,words.row 2 1 l' q = q (.lf l'):=fun q=>row_one hl' q
 have d4 : ∀ q,words.new h3 (.arr 2 1 (.lf l') .false) q = q h3.nx h4:=e4
 have ap : ∀ q : List V→Res,appk l' [] q = q l':=fun q=>by rw [appk_eq,List.append_nil]
 have n1:=ilt_true hi
 have n2 : Nat.blt i rows.length = true:=blt_of hi
 have n3:=ad_nat (a:=i) (b:=1) (by omega)
 refine ⟨h5,v5,?_,⟨by have:=Us2.nx; have:=U3.nx; have:=U4.nx; omega,fun x hx=>?_⟩,W5'⟩
 · subst hv4
   simp -implicitDefEqProofs only [b32_1,↓n1,↓n2,↓a1,↓d1,↓d2,↓a2,↓e3,↓ap,↓r1,↓d4,↓e5,↓n3,↓evR]
 · rw [U5.get x (by have:=Us2.nx; have:=U3.nx; have:=U4.nx; omega) (W4.low (.inl hx)),U24.get x (Nat.lt_of_lt_of_le hx U.nx),U.get x hx]
theorem map32_loop {d : Nat} {fv v4 : V} {hs : Heap} {rows : List (List Tr)} (hN : N ≤ hs.nx.val) (hl : rows.length ≤ 1000000) (w : CellR hs N (.sl 2 rows) v4) (hw : ∀ r ∈ rows,r.length = 2)
 (H : ∀ r ∈ rows,∀ h l,Up hs h→RowR h N r l→∃ h' l',callv (call tabW n d) fv [.agg 2 l] h = .ret (.agg 2 l') h'∧Up h h'∧RowA h' (fun x=>h.nx.val ≤ x∧x < h'.nx.val) r l') :
 ∀ (j : Nat) {i q : Nat} {h : Heap} {v : V},i + j = rows.length→j < q→Up hs h→OwnT h hs.nx.val 2 v (rows.take i) →
  ∃ h' v',lpk (b32_1 words n (call tabW n d)) q [fv,v,v4,I (.ofNat rows.length),I (.ofNat i)] h = .ret v' h'∧Up hs h'∧OwnT h' hs.nx.val 2 v' rows:=by
 intro j
 induction j with
 | zero=>
   intro i q h v hij hq U W
   obtain ⟨q,rfl⟩ : ∃ q',q = q' + 1:=⟨q - 1,by omega⟩
   have n1 : ilt (.ofNat i) (.ofNat rows.length) = false:=ilt_false (by omega)
   refine ⟨h,v,?_,U,by rwa [List.take_of_length_le (by omega)] at W⟩
   rw [lpk_succ]
   simp -implicitDefEqProofs only [b32_1,↓n1,↓evR]
 | succ j ih=>
   intro i q h v hij hq U W
   obtain ⟨q,rfl⟩ : ∃ q',q = q' + 1:=⟨q - 1,by omega⟩
   obtain ⟨h1,v1,e1,U1,W1⟩:=map32_go (n:=n) (again:=lpk (b32_1 words n (call tabW n d)) q) (L:=0) hN U W (by omega) hl (w.to hN U) hw H
   obtain ⟨h2,v2,e2,U2,W2⟩:=ih (i:=i + 1) (q:=q) (by omega) (by omega) U1 W1
   exact ⟨h2,v2,by rw [lpk_succ,e1]; exact e2,U2,W2⟩
theorem map32 {d : Nat} {fv v4 : V} {hs : Heap} {rows : List (List Tr)} (hn : 1000000 < n) (hN : N ≤ hs.nx.val) (hl : rows.length ≤ 1000000) (w : CellR hs N (.sl 2 rows) v4) (hw : ∀ r ∈ rows,r.length = 2)
 (H : ∀ r ∈ rows,∀ h l,Up hs h→RowR h N r l→∃ h' l',callv (call tabW n d) fv [.agg 2 l] h = .ret (.agg 2 l') h'∧Up h h'∧RowA h' (fun x=>h.nx.val ≤ x∧x < h'.nx.val) r l') :
 ∃ h' v',call tabW n (d + 1) f32 [v4,fv] hs = .ret v' h'∧Up hs h'∧CellA h' (fun x=>hs.nx.val ≤ x∧x < h'.nx.val) (.sl 2 rows) v':=by
 obtain ⟨h',v',e,U,W⟩:=map32_loop (n:=n) hN hl w hw H rows.length (i:=0) (q:=n) (v:=.nils) (by omega) (by omega) (.refl _) (by rw [List.take_zero]; exact .nils)
 refine ⟨h',v',?_,U,W.cell⟩
 rw [call32,sh32]
 simp -implicitDefEqProofs only [↓w.lenk,↓evR]
 exact e
theorem map34_go {d : Nat} {fv v4 : V} {again : List V→Heap→Res} {h hs : Heap} {rows : List (List Tr)} {i L : Nat} {v : V} (hN : N ≤ hs.nx.val) (U : Up hs h) (W : OwnT h hs.nx.val 5 v (rows.take i)) (hi : i < rows.length) (hl : rows.length ≤ 1000000) (w : CellR h N (.sl 5 rows) v4) (hw : ∀ r ∈ rows,r.length = 5)
 (H : ∀ r ∈ rows,∀ h l,Up hs h→RowR h N r l→∃ h' l',callv (call tabW n d) fv [.agg 5 l] h = .ret (.agg 5 l') h'∧Up h h'∧RowA h' (fun x=>h.nx.val ≤ x∧x < h'.nx.val) r l') :
 ∃ h' v',b34_1 words n (call tabW n d) again [fv,v,v4,I (.ofNat rows.length),I (.ofNat i)] h = again [fv,v',v4,I (.ofNat rows.length),I (.ofNat (i + 1))] h'∧Up hs h'∧OwnT h' hs.nx.val 5 v' (rows.take (i + 1)):=by
 obtain ⟨b,o,c,l,hv4,hr,hl5,hr5,ld,_⟩:=w.row hi
 obtain ⟨h1,h2,e1,e2,row2,U2,lt2⟩:=new_store h (g:=5) (z:=[uk 0,.str 0 0,ik 0,.nils,ik 0]) (l:=l) rfl hl5 (by omega)
 have Us2:=U.trans U2
 obtain ⟨h3,l',e3,U3,w3⟩:=H rows[i] (List.getElem_mem hi) h2 l Us2 (hr.to (Nat.le_trans hN U.nx) U2)
 have hl' : l'.length = 5:=by rw [w3.len,hr5]
 obtain ⟨h4,e4,row4,U4,lt4⟩:=new_row h3 (g:=5) (l:=l') hl' (by omega)
 have U24:=U2.trans (U3.trans U4)
 have W4:=W.up U24
 obtain ⟨h5,v5,e5,W5,U5,nx5,m,_⟩:=app_one (g:=5) (r:=rows[i]) W4 (by omega) row4 hl' hr5 (Nat.le_trans (Nat.le_trans Us2.nx U3.nx) U4.nx)
  (w3.mv (fun x hx=>⟨Nat.le_trans Us2.nx hx.1,Nat.lt_of_lt_of_le hx.2 U4.nx,W.low (.inr (Nat.le_trans U2.nx hx.1))⟩) fun b hb=>U4.get b hb.2) (by rw [List.length_take]; omega)
 have W5' : OwnT h5 hs.nx.val 5 v5 (rows.take (i + 1)):=by rw [List.take_succ_eq_append_getElem hi]; exact W5
 have d1 : ∀ q,words.new h (.arr 5 1 (repT [uk 0,.str 0 0,ik 0,.nils,ik 0] 1 1) .false) q = q h.nx h1:=e1
 have d2 : ∀ q : Heap→Res,words.store h1 h.nx 0 5 l q = q h2:=e2
 have a1 : ∀ q : List V→Res,words.load h b (Nat.add o (Nat.mul i 5)) 5 q = q l:=ld
 have a2 : ∀ q : List V→Res,words.load h2 h.nx 0 5 q = q l:=fun q=>by
  have:=loadk_law row2 (o:=0) (n:=5) (by omega) q
  rw [List.drop_zero,List.take_of_length_le (by omega)] at this
  exact this
 have r1 : ∀ q,words.row 5 1 l' q = q (.lf l'):=fun q=>row_one hl' q
 have d4 : ∀ q,words.new h3 (.arr 5 1 (.lf l') .false) q = q h3.nx h4:=e4
 have ap : ∀ q : List V→Res,appk l' [] q = q l':=fun q=>by rw [appk_eq,List.append_nil]
 have n1:=ilt_true hi
 have n2 : Nat.blt i rows.length = true:=blt_of hi
 have n3:=ad_nat (a:=i) (b:=1) (by omega)
 refine ⟨h5,v5,?_,⟨by have:=Us2.nx; have:=U3.nx; have:=U4.nx; omega,fun x hx=>?_⟩,W5'⟩
 · subst hv4
   simp -implicitDefEqProofs only [b34_1,↓n1,↓n2,↓a1,↓d1,↓d2,↓a2,↓e3,↓ap,↓r1,↓d4,↓e5,↓n3,↓evR]
 · rw [U5.get x (by have:=Us2.nx; have:=U3.nx; have:=U4.nx; omega) (W4.low (.inl hx)),U24.get x (Nat.lt_of_lt_of_le hx U.nx),U.get x hx]
theorem map34_loop {d : Nat} {fv v4 : V} {hs : Heap} {rows : List (List Tr)} (hN : N ≤ hs.nx.val) (hl : rows.length ≤ 1000000) (w : CellR hs N (.sl 5 rows) v4) (hw : ∀ r ∈ rows,r.length = 5)
 (H : ∀ r ∈ rows,∀ h l,Up hs h→RowR h N r l→∃ h' l',callv (call tabW n d) fv [.agg 5 l] h = .ret (.agg 5 l') h'∧Up h h'∧RowA h' (fun x=>h.nx.val ≤ x∧x < h'.nx.val) r l') :
 ∀ (j : Nat) {i q : Nat} {h : Heap} {v : V},i + j = rows.length→j < q→Up hs h→OwnT h hs.nx.val 5 v (rows.take i) →
  ∃ h' v',lpk (b34_1 words n (call tabW n d)) q [fv,v,v4,I (.ofNat rows.length),I (.ofNat i)] h = .ret v' h'∧Up hs h'∧OwnT h' hs.nx.val 5 v' rows:=by
 intro j
 induction j with
 | zero=>
   intro i q h v hij hq U W
   obtain ⟨q,rfl⟩ : ∃ q',q = q' + 1:=⟨q - 1,by omega⟩
   have n1 : ilt (.ofNat i) (.ofNat rows.length) = false:=ilt_false (by omega)
   refine ⟨h,v,?_,U,by rwa [List.take_of_length_le (by omega)] at W⟩
   rw [lpk_succ]
   simp -implicitDefEqProofs only [b34_1,↓n1,↓evR]
 | succ j ih=>
   intro i q h v hij hq U W
   obtain ⟨q,rfl⟩ : ∃ q',q = q' + 1:=⟨q - 1,by omega⟩
   obtain ⟨h1,v1,e1,U1,W1⟩:=map34_go (n:=n) (again:=lpk (b34_1 words n (call tabW n d)) q) (L:=0) hN U W (by omega) hl (w.to hN U) hw H
   obtain ⟨h2,v2,e2,U2,W2⟩:=ih (i:=i + 1) (q:=q) (by omega) (by omega) U1 W1
   exact ⟨h2,v2,by rw [lpk_succ,e1]; exact e2,U2,W2⟩
theorem map34 {d : Nat} {fv v4 : V} {hs : Heap} {rows : List (List Tr)} (hn : 1000000 < n) (hN : N ≤ hs.nx.val) (hl : rows.length ≤ 1000000) (w : CellR hs N (.sl 5 rows) v4) (hw : ∀ r ∈ rows,r.length = 5)
 (H : ∀ r ∈ rows,∀ h l,Up hs h→RowR h N r l→∃ h' l',callv (call tabW n d) fv [.agg 5 l] h = .ret (.agg 5 l') h'∧Up h h'∧RowA h' (fun x=>h.nx.val ≤ x∧x < h'.nx.val) r l') :
 ∃ h' v',call tabW n (d + 1) f34 [v4,fv] hs = .ret v' h'∧Up hs h'∧CellA h' (fun x=>hs.nx.val ≤ x∧x < h'.nx.val) (.sl 5 rows) v':=by
 obtain ⟨h',v',e,U,W⟩:=map34_loop (n:=n) hN hl w hw H rows.length (i:=0) (q:=n) (v:=.nils) (by omega) (by omega) (.refl _) (by rw [List.take_zero]; exact .nils)
 refine ⟨h',v',?_,U,W.cell⟩
 rw [call34,sh34]
 simp -implicitDefEqProofs only [↓w.lenk,↓evR]
 exact e
theorem map36_go {d : Nat} {fv v4 : V} {again : List V→Heap→Res} {h hs : Heap} {rows : List (List Tr)} {i L : Nat} {v : V} (hN : N ≤ hs.nx.val) (U : Up hs h) (W : OwnT h hs.nx.val 5 v (rows.take i)) (hi : i < rows.length) (hl : rows.length ≤ 1000000) (w : CellR h N (.sl 5 rows) v4) (hw : ∀ r ∈ rows,r.length = 5)
 (H : ∀ r ∈ rows,∀ h l,Up hs h→RowR h N r l→∃ h' l',callv (call tabW n d) fv [.agg 5 l] h = .ret (.agg 5 l') h'∧Up h h'∧RowA h' (fun x=>h.nx.val ≤ x∧x < h'.nx.val) r l') :
 ∃ h' v',b36_1 words n (call tabW n d) again [fv,v,v4,I (.ofNat rows.length),I (.ofNat i)] h = again [fv,v',v4,I (.ofNat rows.length),I (.ofNat (i + 1))] h'∧Up hs h'∧OwnT h' hs.nx.val 5 v' (rows.take (i + 1)):=by
 obtain ⟨b,o,c,l,hv4,hr,hl5,hr5,ld,_⟩:=w.row hi
 obtain ⟨h1,h2,e1,e2,row2,U2,lt2⟩:=new_store h (g:=5) (z:=[uk 0,.str 0 0,.nils,.nils,ik 0]) (l:=l) rfl hl5 (by omega)
 have Us2:=U.trans U2
 obtain ⟨h3,l',e3,U3,w3⟩:=H rows[i] (List.getElem_mem hi) h2 l Us2 (hr.to (Nat.le_trans hN U.nx) U2)
 have hl' : l'.length = 5:=by rw [w3.len,hr5]
 obtain ⟨h4,e4,row4,U4,lt4⟩:=new_row h3 (g:=5) (l:=l') hl' (by omega)
 have U24:=U2.trans (U3.trans U4)
 have W4:=W.up U24
 obtain ⟨h5,v5,e5,W5,U5,nx5,m,_⟩:=app_one (g:=5) (r:=rows[i]) W4 (by omega) row4 hl' hr5 (Nat.le_trans (Nat.le_trans Us2.nx U3.nx) U4.nx)
  (w3.mv (fun x hx=>⟨Nat.le_trans Us2.nx hx.1,Nat.lt_of_lt_of_le hx.2 U4.nx,W.low (.inr (Nat.le_trans U2.nx hx.1))⟩) fun b hb=>U4.get b hb.2) (by rw [List.length_take]; omega)
 have W5' : OwnT h5 hs.nx.val 5 v5 (rows.take (i + 1)):=by rw [List.take_succ_eq_append_getElem hi]; exact W5
 have d1 : ∀ q,words.new h (.arr 5 1 (repT [uk 0,.str 0 0,.nils,.nils,ik 0] 1 1) .false) q = q h.nx h1:=e1
 have d2 : ∀ q : Heap→Res,words.store h1 h.nx 0 5 l q = q h2:=e2
 have a1 : ∀ q : List V→Res,words.load h b (Nat.add o (Nat.mul i 5)) 5 q = q l:=ld
 have a2 : ∀ q : List V→Res,words.load h2 h.nx 0 5 q = q l:=fun q=>by
  have:=loadk_law row2 (o:=0) (n:=5) (by omega) q
  rw [List.drop_zero,List.take_of_length_le (by omega)] at this
  exact this
 have r1 : ∀ q,words.row 5 1 l' q = q (.lf l'):=fun q=>row_one hl' q
 have d4 : ∀ q,words.new h3 (.arr 5 1 (.lf l') .false) q = q h3.nx h4:=e4
 have ap : ∀ q : List V→Res,appk l' [] q = q l':=fun q=>by rw [appk_eq,List.append_nil]
 have n1:=ilt_true hi
 have n2 : Nat.blt i rows.length = true:=blt_of hi
 have n3:=ad_nat (a:=i) (b:=1) (by omega)
 refine ⟨h5,v5,?_,⟨by have:=Us2.nx; have:=U3.nx; have:=U4.nx; omega,fun x hx=>?_⟩,W5'⟩
 · subst hv4
   simp -implicitDefEqProofs only [b36_1,↓n1,↓n2,↓a1,↓d1,↓d2,↓a2,↓e3,↓ap,↓r1,↓d4,↓e5,↓n3,↓evR]
 · rw [U5.get x (by have:=Us2.nx; have:=U3.nx; have:=U4.nx; omega) (W4.low (.inl hx)),U24.get x (Nat.lt_of_lt_of_le hx U.nx),U.get x hx]
theorem map36_loop {d : Nat} {fv v4 : V} {hs : Heap} {rows : List (List Tr)} (hN : N ≤ hs.nx.val) (hl : rows.length ≤ 1000000) (w : CellR hs N (.sl 5 rows) v4) (hw : ∀ r ∈ rows,r.length = 5)
 (H : ∀ r ∈ rows,∀ h l,Up hs h→RowR h N r l→∃ h' l',callv (call tabW n d) fv [.agg 5 l] h = .ret (.agg 5 l') h'∧Up h h'∧RowA h' (fun x=>h.nx.val ≤ x∧x < h'.nx.val) r l') :
 ∀ (j : Nat) {i q : Nat} {h : Heap} {v : V},i + j = rows.length→j < q→Up hs h→OwnT h hs.nx.val 5 v (rows.take i) →
  ∃ h' v',lpk (b36_1 words n (call tabW n d)) q [fv,v,v4,I (.ofNat rows.length),I (.ofNat i)] h = .ret v' h'∧Up hs h'∧OwnT h' hs.nx.val 5 v' rows:=by
 intro j
 induction j with
 | zero=>
   intro i q h v hij hq U W
   obtain ⟨q,rfl⟩ : ∃ q',q = q' + 1:=⟨q - 1,by omega⟩
   have n1 : ilt (.ofNat i) (.ofNat rows.length) = false:=ilt_false (by omega)
   refine ⟨h,v,?_,U,by rwa [List.take_of_length_le (by omega)] at W⟩
   rw [lpk_succ]
   simp -implicitDefEqProofs only [b36_1,↓n1,↓evR]
 | succ j ih=>
   intro i q h v hij hq U W
   obtain ⟨q,rfl⟩ : ∃ q',q = q' + 1:=⟨q - 1,by omega⟩
   obtain ⟨h1,v1,e1,U1,W1⟩:=map36_go (n:=n) (again:=lpk (b36_1 words n (call tabW n d)) q) (L:=0) hN U W (by omega) hl (w.to hN U) hw H
   obtain ⟨h2,v2,e2,U2,W2⟩:=ih (i:=i + 1) (q:=q) (by omega) (by omega) U1 W1
   exact ⟨h2,v2,by rw [lpk_succ,e1]; exact e2,U2,W2⟩
theorem map36 {d : Nat} {fv v4 : V} {hs : Heap} {rows : List (List Tr)} (hn : 1000000 < n) (hN : N ≤ hs.nx.val) (hl : rows.length ≤ 1000000) (w : CellR hs N (.sl 5 rows) v4) (hw : ∀ r ∈ rows,r.length = 5)
 (H : ∀ r ∈ rows,∀ h l,Up hs h→RowR h N r l→∃ h' l',callv (call tabW n d) fv [.agg 5 l] h = .ret (.agg 5 l') h'∧Up h h'∧RowA h' (fun x=>h.nx.val ≤ x∧x < h'.nx.val) r l') :
 ∃ h' v',call tabW n (d + 1) f36 [v4,fv] hs = .ret v' h'∧Up hs h'∧CellA h' (fun x=>hs.nx.val ≤ x∧x < h'.nx.val) (.sl 5 rows) v':=by
 obtain ⟨h',v',e,U,W⟩:=map36_loop (n:=n) hN hl w hw H rows.length (i:=0) (q:=n) (v:=.nils) (by omega) (by omega) (.refl _) (by rw [List.take_zero]; exact .nils)
 refine ⟨h',v',?_,U,W.cell⟩
 rw [call36,sh36]
 simp -implicitDefEqProofs only [↓w.lenk,↓evR]
 exact e
end
end Go.Ev.WCP

/- CompsPlain: fields, branches, expressions, literals come out as they are. -/
namespace Go.Ev.WCP
open Go.Proofs
set_option maxRecDepth 100000
theorem cv51 (cf : CF) (caps : List V) (x : V) (h : Heap) : callv cf (.func 51 caps) [x] h = cf f51 (x :: caps) h:=rfl
theorem cv33 (cf : CF) (caps : List V) (x : V) (h : Heap) : callv cf (.func 33 caps) [x] h = cf f33 (x :: caps) h:=rfl
theorem cv35 (cf : CF) (r x : V) (h : Heap) : callv cf (.func 65571 [r]) [x] h = cf f35 [r,x] h:=rfl
theorem cv37 (cf : CF) (r x : V) (h : Heap) : callv cf (.func 65573 [r]) [x] h = cf f37 [r,x] h:=rfl
structure Fr (h : Heap) (pf s : Bid) : Prop where
 lf : pf.val < h.nx.val
 ls : s.val < h.nx.val
 rf : Row (h.t.get pf) 4 [.nils,.nils,.ptr s 0,.nilp]
 rs : ∃ vt vb vr lt lb lr,Row (h.t.get s) 6 [.str 0 0,vt,vb,vr,.nils,.nils]∧CellR h h.nx.val (.sl 1 (txs lt)) vt∧CellR h h.nx.val (.sl 1 (txs lb)) vb∧CellR h h.nx.val (.sl 1 (txs lr)) vr∧lt.length ≤ 1000000∧lb.length ≤ 1000000∧lr.length ≤ 1000000
theorem Fr.up {h h' : Heap} {pf s : Bid} (F : Fr h pf s) (U : Up h h') : Fr h' pf s:=by
 obtain ⟨vt,vb,vr,lt,lb,lr,r,wt,wb,wr,q1,q2,q3⟩:=F.rs
 exact ⟨Nat.lt_of_lt_of_le F.lf U.nx,Nat.lt_of_lt_of_le F.ls U.nx,F.rf.later F.lf U,vt,vb,vr,lt,lb,lr,r.later F.ls U,wt.up U.nx U.get,wb.up U.nx U.get,wr.up U.nx U.get,q1,q2,q3⟩
abbrev newIn (h h' : Heap) : Nat→Prop:=fun x=>h.nx.val ≤ x∧x < h'.nx.val
section
variable {n d N : Nat} {pf s : Bid}
theorem Fr.mean {h : Heap} (F : Fr h pf s) (hd : 6 < d) (hn : 1000000 < n) {k a a' : Nat} (hk : k < 3) (ha : a ≤ 1000000) : ∃ h',call tabW n d f30 [.ptr pf 0,I (.ofNat k),.str a a'] h = .ret (.str a a') h'∧Up h h':=by
 obtain ⟨vt,vb,vr,lt,lb,lr,r,wt,wb,wr,q1,q2,q3⟩:=F.rs
 match k,hk with
 | 0,_=>exact meaning_law hd hn F.rf F.lf r F.ls rfl rfl rfl wt (fun _ h=>h) (by omega) q1 ha
 | 1,_=>exact meaning_law hd hn F.rf F.lf r F.ls rfl rfl rfl wb (fun _ h=>h) (by omega) q2 ha
 | 2,_=>exact meaning_law hd hn F.rf F.lf r F.ls rfl rfl rfl wr (fun _ h=>h) (by omega) q3 ha
theorem field_law (hd : 7 < d) (hn : 1000000 < n) {h : Heap} {A : Nat→Prop} {q : Bid} {r : List Tr} {l : List V} (F : Fr h pf s) (hq : Row (h.t.get q) 1 [.ptr pf 0]) (hq' : q.val < h.nx.val) (hr : IsF r) (hw : wtRow r ≤ 1000000) (w : RowA h A r l) :
 ∃ h' l',call tabW n d f51 [.agg 2 l,.ptr q 0] h = .ret (.agg 2 l') h'∧Up h h'∧RowA h' (newIn h h') r l':=by
 obtain ⟨d,rfl⟩ : ∃ d',d = d' + 1:=⟨d - 1,by omega⟩
 cases hr with
 | mk a a' e e'=>
 cases w with | cons w0 w=>
 cases w with | cons w1 w=>
 cases w
 cases w0 with | s _ _ hna=>
 cases w1 with | s _ _ hne=>
 simp only [wtRow,Tr.wt] at hw
 obtain ⟨h0,e0,r0,U0,t0⟩:=new_row h (g:=2) (l:=[.str a a',.str e e']) rfl (by omega)
 obtain ⟨h1,e1,r1,U1,t1⟩:=new_row h0 (g:=2) (l:=[.str 0 0,.str 0 0]) rfl (by omega)
 have U01:=U0.trans U1
 have r01:=r0.later t0 U1
 obtain ⟨h2,em,U2⟩:=(F.up U01).mean (n:=n) (d:=d) (by omega) hn (k:=0) (a:=e) (a':=e') (by omega) (by omega)
 have t01:=Nat.lt_of_lt_of_le t0 U1.nx
 have r02:=r01.later t01 U2
 have r12:=r1.later t1 U2
 obtain ⟨h3,e3,r3,u3'⟩:=storek_law (o:=0) (n:=2) (vs:=[.str a a',.str e e']) r12 rfl (by simp)
 have r3' : Row (h3.t.get h0.nx) 2 [.str a a',.str e e']:=row_ext r3 rfl
 have U03 : Up h h3:=⟨by rw [u3'.nx]; exact (U01.trans U2).nx,fun b hb=>(u3'.get b (bid_ne (by have:=U0.nx; omega))).trans ((U01.trans U2).get b hb)⟩
 have z1 : repT [V.str 0 0,.str 0 0] 1 1 = .lf [.str 0 0,.str 0 0]:=by rw [repT_eq]; rfl
 have d0 : ∀ q,words.new h (.arr 2 1 (.lf [.str a a',.str e e']) .false) q = q h.nx h0:=e0
 have d1 : ∀ q,words.new h0 (.arr 2 1 (repT [.str 0 0,.str 0 0] 1 1) .false) q = q h0.nx h1:=fun q=>by rw [z1]; exact e1 q
 have c0 : ∀ q : V→Res,words.load1 h1 h.nx 0 q = q (.str a a'):=fun q=>load1k_law r01 rfl q
 have c1 : ∀ q : V→Res,words.load1 h1 h.nx 1 q = q (.str e e'):=fun q=>load1k_law r01 rfl q
 have c2 : ∀ q' : V→Res,words.load1 h1 q 0 q' = q' (.ptr pf 0):=fun q'=>load1k_law (hq.later hq' U01) rfl q'
 have c3 : ∀ q : V→Res,words.load1 h2 h.nx 0 q = q (.str a a'):=fun q=>load1k_law r02 rfl q
 have d3 : ∀ q : Heap→Res,words.store h2 h0.nx 0 2 [.str a a',.str e e'] q = q h3:=e3
 have c4 : ∀ q : List V→Res,loadk h3 h0.nx 0 2 q = q [.str a a',.str e e']:=fun q=>loadk_law r3' (by simp) q
 refine ⟨h3,[.str a a',.str e e'],?_,U03,.cons (.s _ _ hna) (.cons (.s _ _ hne) .nil)⟩
 rw [call51]
 simp -implicitDefEqProofs only [sh51,↓d0,↓d1,↓c0,↓c2,↓c1,↓em,↓c3,↓d3,↓c4,↓evR]
theorem fields_law (hd : 9 < d) (hn : 1000000 < n) {h : Heap} {rows : List (List Tr)} {v : V} (F : Fr h pf s) (hN : N ≤ h.nx.val) (hr : ∀ r ∈ rows,IsF r) (hw : wtRows rows ≤ 1000000) (w : CellR h N (.sl 2 rows) v) :
 ∃ h' v',call tabW n d f31 [.ptr pf 0,v] h = .ret v' h'∧Up h h'∧CellA h' (newIn h h') (.sl 2 rows) v':=by
 obtain ⟨d,rfl⟩ : ∃ d',d = d' + 1 + 1:=⟨d - 2,by omega⟩
 obtain ⟨h0,e0,r0,U0,t0⟩:=new_row h (g:=1) (l:=[.ptr pf 0]) rfl (by omega)
 have hlen:=wtRows_len rows
 obtain ⟨h1,v1,e1,U1,w1⟩:=map50 (n:=n) (d:=d) (fv:=.func 51 [.ptr h.nx 0]) hn (Nat.le_trans hN U0.nx) (by omega) (w.to hN U0) (fun r h=>by cases hr r h; rfl) (fun r hm h' l U' w'=>by
  have hmem:=wtRows_mem hm
  rw [cv51]
  exact field_law (n:=n) (d:=d) (by omega) hn ((F.up U0).up U') (r0.later t0 U') (Nat.lt_of_lt_of_le t0 U'.nx) (hr r hm) (by omega) w')
 have d0 : ∀ q,words.new h (.arr 1 1 (.lf [.ptr pf 0]) .false) q = q h.nx h0:=e0
 refine ⟨h1,v1,?_,U0.trans U1,w1.mv (fun x hx=>⟨Nat.le_trans U0.nx hx.1,hx.2⟩) fun _ _=>rfl⟩
 have pp : ∀ q : Nat→List V→Res,partsk (.ptr pf 0) q = q 1 [.ptr pf 0]:=fun _=>rfl
 rw [call31]
 simp -implicitDefEqProofs only [sh31,↓pp,↓d0,↓e1,↓evR]
theorem case_law (hd : 10 < d) (hn : 1000000 < n) {h : Heap} {q p : Bid} {r : List Tr} {l : List V} (F : Fr h pf s) (hN : N ≤ h.nx.val) (hq : Row (h.t.get q) 1 [.ptr pf 0]) (hq' : q.val < h.nx.val) (hp : Row (h.t.get p) 1 [.str 0 0]) (hp' : p.val < h.nx.val) (hr : IsC r) (hw : wtRow r ≤ 1000000) (w : RowR h N r l) :
 ∃ h' l',call tabW n d f33 [.agg 2 l,.ptr p 0,.ptr q 0] h = .ret (.agg 2 l') h'∧Up h h'∧RowA h' (newIn h h') r l':=by
 obtain ⟨d,rfl⟩ : ∃ d',d = d' + 1:=⟨d - 1,by omega⟩
 cases hr with
 | mk a a' fs hf=>
 cases w with | cons w0 w=>
 cases w with | cons w1 w=>
 cases w
 cases w0 with | s _ _ hna=>
 rename_i vf
 simp only [wtRow,Tr.wt] at hw
 obtain ⟨h0,e0,r0,U0,t0⟩:=new_row h (g:=2) (l:=[.str a a',vf]) rfl (by omega)
 obtain ⟨h1,e1,r1,U1,t1⟩:=new_row h0 (g:=2) (l:=[.str 0 0,.nils]) rfl (by omega)
 have U01:=U0.trans U1
 have r01:=r0.later t0 U1
 obtain ⟨h2,v2,em,U2,w2⟩:=fields_law (n:=n) (d:=d) (by omega) hn (F.up U01) (Nat.le_trans hN U01.nx) hf (by omega) (w1.to hN U01)
 have t01:=Nat.lt_of_lt_of_le t0 U1.nx
 have U02:=U01.trans U2
 have r02:=r01.later t01 U2
 have r12:=r1.later t1 U2
 obtain ⟨h3,e3,r3,u3'⟩:=storek_law (o:=0) (n:=2) (vs:=[.str a a',v2]) r12 rfl (by simp)
 have r3' : Row (h3.t.get h0.nx) 2 [.str a a',v2]:=row_ext r3 rfl
 have U03 : Up h h3:=⟨by rw [u3'.nx]; exact U02.nx,fun b hb=>(u3'.get b (bid_ne (by have:=U0.nx; omega))).trans (U02.get b hb)⟩
 have z1 : repT [V.str 0 0,.nils] 1 1 = .lf [.str 0 0,.nils]:=by rw [repT_eq]; rfl
 have d0 : ∀ q,words.new h (.arr 2 1 (.lf [.str a a',vf]) .false) q = q h.nx h0:=e0
 have d1 : ∀ q,words.new h0 (.arr 2 1 (repT [.str 0 0,.nils] 1 1) .false) q = q h0.nx h1:=fun q=>by rw [z1]; exact e1 q
 have c0 : ∀ q : V→Res,words.load1 h1 h.nx 0 q = q (.str a a'):=fun q=>load1k_law r01 rfl q
 have c1 : ∀ q : V→Res,words.load1 h1 h.nx 1 q = q vf:=fun q=>load1k_law r01 rfl q
 have c2 : ∀ q' : V→Res,words.load1 h1 q 0 q' = q' (.ptr pf 0):=fun q'=>load1k_law (hq.later hq' U01) rfl q'
 have c5 : ∀ q' : V→Res,words.load1 h1 p 0 q' = q' (.str 0 0):=fun q'=>load1k_law (hp.later hp' U01) rfl q'
 have c6 : ∀ q' : V→Res,words.load1 h2 p 0 q' = q' (.str 0 0):=fun q'=>load1k_law (hp.later hp' U02) rfl q'
 have c3 : ∀ q : V→Res,words.load1 h2 h.nx 0 q = q (.str a a'):=fun q=>load1k_law r02 rfl q
 have d3 : ∀ q : Heap→Res,words.store h2 h0.nx 0 2 [.str a a',v2] q = q h3:=e3
 have c4 : ∀ q : List V→Res,loadk h3 h0.nx 0 2 q = q [.str a a',v2]:=fun q=>loadk_law r3' (by simp) q
 have sh0 : ∀ x,short 0 x = x:=fun x=>short_le (by omega) x
 have sha : ∀ x,short a x = x:=fun x=>short_le (by omega) x
 have hcat:=cat_nil a a'
 refine ⟨h3,[.str a a',v2],?_,U03,.cons (.s _ _ hna) (.cons (w2.mv (fun x hx=>⟨Nat.le_trans U01.nx hx.1,by rw [u3'.nx]; exact hx.2⟩) fun b hb=>u3'.get b (bid_ne (by have:=hb.1; have:=U1.nx; omega))) .nil)⟩
 rw [call33]
 simp -implicitDefEqProofs only [sh33,↓d0,↓d1,↓c5,↓c0,↓sh0,↓sha,↓hcat,↓c2,↓c1,↓em,↓c6,↓c3,↓w2.parts,↓d3,↓c4,↓evR]
def MpE (n d W : Nat) (pf s : Bid) : Prop:=∀ (h : Heap) (N : Nat) (r : List Tr) (l : List V),Fr h pf s→N ≤ h.nx.val→IsE r→wtRow r ≤ W→RowR h N r l→∃ h' l',call tabW n d f35 [.ptr pf 0,.agg 5 l] h = .ret (.agg 5 l') h'∧Up h h'∧RowA h' (newIn h h') r l'
def MpEs (n d W : Nat) (pf s : Bid) : Prop:=∀ (h : Heap) (N : Nat) (rows : List (List Tr)) (v : V),Fr h pf s→N ≤ h.nx.val→(∀ r ∈ rows,IsE r)→wtRows rows ≤ W→CellR h N (.sl 5 rows) v→∃ h' v',call tabW n d f34 [v,.func 65571 [.ptr pf 0]] h = .ret v' h'∧Up h h'∧CellA h' (newIn h h') (.sl 5 rows) v'
theorem isE_wid {r : List Tr} (h : IsE r) : r.length = 5:=by cases h; rfl
theorem isL_wid {r : List Tr} (h : IsL r) : r.length = 5:=by cases h; rfl
theorem map_exprs_of {W : Nat} (H : ∀ r,IsE r→1 + wtRow r ≤ W→MpE n d (wtRow r) pf s) (hW : W ≤ 1000000) (hn : 1000000 < n) : MpEs n (d + 1) W pf s:=by
 intro h N rows v F hN hr hw w
 have hlen:=wtRows_len rows
 exact map34 (n:=n) (d:=d) hn hN (by omega) w (fun r h=>isE_wid (hr r h)) fun r hm h' l U' w'=>by
  have hmem:=wtRows_mem hm
  rw [cv35]
  exact H r (hr r hm) (by omega) h' N r l (F.up U') (Nat.le_trans hN U'.nx) (hr r hm) (Nat.le_refl _) w'
theorem map_expr_of {W : Nat} (H : MpEs n d W pf s) (hW : W ≤ 1000000) (hn : 1000000 < n) (hd : 6 < d) : MpE n (d + 1) W pf s:=by
 intro h N r l F hN hr hw w
 cases hr with
 | mk op tl tn z args p0 ha=>
 cases w with | cons w0 w=>
 cases w with | cons w1 w=>
 cases w with | cons w2 w=>
 cases w with | cons w3 w=>
 cases w with | cons w4 w=>
 cases w
 cases w0; cases w2; cases w4
 cases w1 with | s _ _ hnt=>
 rename_i va
 simp only [wtRow,Tr.wt] at hw
 obtain ⟨h0,e0,r0,U0,t0⟩:=new_row h (g:=5) (l:=[.int .u8 op,.str tl tn,.int .i64 z,va,.int .i64 p0]) rfl (by omega)
 obtain ⟨h1,e1,r1,U1,t1⟩:=new_row h0 (g:=5) (l:=[uk 0,.str 0 0,ik 0,.nils,ik 0]) rfl (by omega)
 have U01:=U0.trans U1
 have r01:=r0.later t0 U1
 have t01:=Nat.lt_of_lt_of_le t0 U1.nx
 have z1 : repT [uk 0,V.str 0 0,ik 0,.nils,ik 0] 1 1 = .lf [uk 0,.str 0 0,ik 0,.nils,ik 0]:=by rw [repT_eq]; rfl
 have d0 : ∀ q,words.new h (.arr 5 1 (.lf [.int .u8 op,.str tl tn,.int .i64 z,va,.int .i64 p0]) .false) q = q h.nx h0:=e0
 have d1 : ∀ q,words.new h0 (.arr 5 1 (repT [uk 0,.str 0 0,ik 0,.nils,ik 0] 1 1) .false) q = q h0.nx h1:=fun q=>by rw [z1]; exact e1 q
 have ne01 : h.nx ≠ h0.nx:=bid_ne (by omega)
 have fin : ∀ h3,Up h h3→Row (h3.t.get h.nx) 5 [.int .u8 op,.str tl tn,.int .i64 z,va,.int .i64 p0]→Row (h3.t.get h0.nx) 5 [uk 0,.str 0 0,ik 0,.nils,ik 0]→h1.nx.val ≤ h3.nx.val →
  ∃ h7 l',(z3 [.ptr pf 0,.ptr h.nx 0,.ptr h0.nx 0] fun v2 v3 v4=>pl words v3 3 h3 fun v5=>bp (call tabW n d f34 [v5,.func 65571 [v2]] h3) fun v6 h3=>ptrk v3 fun p2 n1=>onek v6 (words.store h3 p2 (Nat.add n1 3) 1 [v6] fun h4=>ptrk v3 fun p3 n2=>words.load h4 p3 n2 5 fun l2=>ptrk v4 fun p4 n3=>words.store h4 p4 n3 5 l2 fun h5=>ptrk v4 fun p5 n4=>loadk h5 p5 n4 5 fun l3=>.ret (.agg 5 l3) h5)) = .ret (.agg 5 l') h7 ∧
   Up h h7∧RowA h7 (newIn h h7) [.i .u8 op,.s tl tn,.i .i64 z,.sl 5 args,.i .i64 p0] l':=by
  intro h3 U3 q0 q1 hnx
  have t03 : h.nx.val < h3.nx.val:=by omega
  have t13 : h0.nx.val < h3.nx.val:=by omega
  obtain ⟨h4,v',em,U4,w4'⟩:=H h3 N args va (F.up U3) (Nat.le_trans hN U3.nx) ha (by omega) (w3.to hN U3)
  have q04 : Row (h4.t.get h.nx) 5 ([.int .u8 op,.str tl tn,.int .i64 z] ++ va :: [.int .i64 p0]):=q0.later t03 U4
  have q14:=q1.later t13 U4
  obtain ⟨h5,e5,q05,u5⟩:=set_one q04 v'
  have q15 : Row (h5.t.get h0.nx) 5 [uk 0,.str 0 0,ik 0,.nils,ik 0]:=by rw [u5.get _ (Ne.symm ne01)]; exact q14
  obtain ⟨h6,e6,q6,u6⟩:=storek_law (o:=0) (n:=5) (vs:=[.int .u8 op,.str tl tn,.int .i64 z,v',.int .i64 p0]) q15 rfl (by simp)
  have q6' : Row (h6.t.get h0.nx) 5 [.int .u8 op,.str tl tn,.int .i64 z,v',.int .i64 p0]:=row_ext q6 rfl
  have c3 : ∀ q : V→Res,words.load1 h3 h.nx (Nat.add 0 3) q = q va:=fun q=>load1k_law q0 rfl q
  have d5 : ∀ q : Heap→Res,words.store h4 h.nx (Nat.add 0 3) 1 [v'] q = q h5:=e5
  have c5 : ∀ q : List V→Res,words.load h5 h.nx 0 5 q = q [.int .u8 op,.str tl tn,.int .i64 z,v',.int .i64 p0]:=fun q=>loadk_law (o:=0) (n:=5) q05 (by simp) q
  have d6 : ∀ q : Heap→Res,words.store h5 h0.nx 0 5 [.int .u8 op,.str tl tn,.int .i64 z,v',.int .i64 p0] q = q h6:=e6
  have c6 : ∀ q : List V→Res,loadk h6 h0.nx 0 5 q = q [.int .u8 op,.str tl tn,.int .i64 z,v',.int .i64 p0]:=fun q=>loadk_law (o:=0) (n:=5) q6' (by simp) q
  refine ⟨h6,[.int .u8 op,.str tl tn,.int .i64 z,v',.int .i64 p0],?_,⟨by rw [u6.nx,u5.nx]; exact (U3.trans U4).nx,fun b hb=>?_⟩,.cons (.i _ _) (.cons (.s _ _ hnt) (.cons (.i _ _) (.cons ?_ (.cons (.i _ _) .nil))))⟩
  · simp -implicitDefEqProofs only [↓c3,↓em,↓w4'.onek,↓d5,↓c5,↓d6,↓c6,↓evR]
  · rw [u6.get b (bid_ne (by omega)),u5.get b (bid_ne (by omega))]
    exact (U3.trans U4).get b hb
  · exact w4'.mv (fun x hx=>⟨Nat.le_trans U3.nx hx.1,by rw [u6.nx,u5.nx]; exact hx.2⟩) fun b hb=>by
     rw [u6.get b (bid_ne (by have:=hb.1; omega)),u5.get b (bid_ne (by have:=hb.1; omega))]
 have c0 : ∀ q : V→Res,words.load1 h1 h.nx 0 q = q (.int .u8 op):=fun q=>load1k_law r01 rfl q
 by_cases hop : ieq op (.ofNat 7) = true
 · obtain ⟨h2,em,U2⟩:=(F.up U01).mean (n:=n) (d:=d) (by omega) hn (k:=1) (a:=tl) (a':=tn) (by omega) (by omega)
   have q02 : Row (h2.t.get h.nx) 5 ([.int .u8 op] ++ .str tl tn :: [.int .i64 z,va,.int .i64 p0]):=r01.later t01 U2
   obtain ⟨h3,e3,q03,u3'⟩:=set_one q02 (.str tl tn)
   have q13 : Row (h3.t.get h0.nx) 5 [uk 0,.str 0 0,ik 0,.nils,ik 0]:=by rw [u3'.get _ (Ne.symm ne01)]; exact r1.later t1 U2
   have c1 : ∀ q : V→Res,words.load1 h1 h.nx 1 q = q (.str tl tn):=fun q=>load1k_law r01 rfl q
   have d3 : ∀ q : Heap→Res,words.store h2 h.nx 1 1 [.str tl tn] q = q h3:=e3
   obtain ⟨h7,l',e7,U7,w7⟩:=fin h3 ⟨by rw [u3'.nx]; exact (U01.trans U2).nx,fun b hb=>(u3'.get b (bid_ne (by omega))).trans ((U01.trans U2).get b hb)⟩ q03 q13 (by rw [u3'.nx]; exact U2.nx)
   refine ⟨h7,l',?_,U7,w7⟩
   rw [call35,← e7]
   simp -implicitDefEqProofs only [sh35,↓d0,↓d1,↓c0,↓hop,↓c1,↓em,↓d3,↓evR]
 · have hop : ieq op (.ofNat 7) = false:=by simpa using hop
   obtain ⟨h7,l',e7,U7,w7⟩:=fin h1 U01 r01 r1 (Nat.le_refl _)
   refine ⟨h7,l',?_,U7,w7⟩
   rw [call35,← e7]
   simp -implicitDefEqProofs only [sh35,↓d0,↓d1,↓c0,↓hop,↓evR]
theorem map_expr : ∀ (W : Nat) {n d : Nat},W ≤ 1000000→1000000 < n→2 * W + 10 ≤ d→MpE n d W pf s:=by
 intro W
 induction W using Nat.strongRecOn with
 | _ W ih=>
   intro n d hW hn hd
   obtain ⟨d,rfl⟩ : ∃ d',d = d' + 1 + 1:=⟨d - 2,by omega⟩
   exact map_expr_of (map_exprs_of (fun r _ h=>ih (wtRow r) (by omega) (by omega) (by omega) (by omega)) hW hn) hW hn (by omega)
theorem map_exprs {W : Nat} (hW : W ≤ 1000000) (hn : 1000000 < n) (hd : 2 * W + 11 ≤ d) : MpEs n d W pf s:=by
 obtain ⟨d,rfl⟩ : ∃ d',d = d' + 1:=⟨d - 1,by omega⟩
 exact map_exprs_of (fun r _ h=>map_expr (wtRow r) (by omega) (by omega) (by omega)) hW hn
end
end Go.Ev.WCP

/- CompsPlain: literals come out as they are. -/
namespace Go.Ev.WCP
open Go.Proofs
set_option maxRecDepth 100000
def MpL (n d W : Nat) (pf s : Bid) : Prop:=∀ (h : Heap) (N : Nat) (r : List Tr) (l : List V),Fr h pf s→N ≤ h.nx.val→IsL r→wtRow r ≤ W→RowR h N r l→∃ h' l',call tabW n d f37 [.ptr pf 0,.agg 5 l] h = .ret (.agg 5 l') h'∧Up h h'∧RowA h' (newIn h h') r l'
def MpLs (n d W : Nat) (pf s : Bid) : Prop:=∀ (h : Heap) (N : Nat) (rows : List (List Tr)) (v : V),Fr h pf s→N ≤ h.nx.val→(∀ r ∈ rows,IsL r)→wtRows rows ≤ W→CellR h N (.sl 5 rows) v→∃ h' v',call tabW n d f36 [v,.func 65573 [.ptr pf 0]] h = .ret v' h'∧Up h h'∧CellA h' (newIn h h') (.sl 5 rows) v'
section
variable {n d N : Nat} {pf s : Bid}
theorem map_lits_of {W : Nat} (H : ∀ r,IsL r→1 + wtRow r ≤ W→MpL n d (wtRow r) pf s) (hW : W ≤ 1000000) (hn : 1000000 < n) : MpLs n (d + 1) W pf s:=by
 intro h N rows v F hN hr hw w
 have hlen:=wtRows_len rows
 exact map36 (n:=n) (d:=d) hn hN (by omega) w (fun r h=>isL_wid (hr r h)) fun r hm h' l U' w'=>by
  have hmem:=wtRows_mem hm
  rw [cv37]
  exact H r (hr r hm) (by omega) h' N r l (F.up U') (Nat.le_trans hN U'.nx) (hr r hm) (Nat.le_refl _) w'
theorem map_lit_of {W : Nat} (HE : MpEs n d W pf s) (H : MpLs n d W pf s) (hW : W ≤ 1000000) (hn : 1000000 < n) (hd : 6 < d) : MpL n (d + 1) W pf s:=by
 intro h N r l F hN hr hw w
 cases hr with
 | mk op tl tn args body p0 ha hb=>
 cases w with | cons w0 w=>
 cases w with | cons w1 w=>
 cases w with | cons w2 w=>
 cases w with | cons w3 w=>
 cases w with | cons w4 w=>
 cases w
 cases w0; cases w4
 cases w1 with | s _ _ hnt=>
 rename_i va vb
 simp only [wtRow,Tr.wt] at hw
 obtain ⟨h0,e0,r0,U0,t0⟩:=new_row h (g:=5) (l:=[.int .u8 op,.str tl tn,va,vb,.int .i64 p0]) rfl (by omega)
 obtain ⟨h1,e1,r1,U1,t1⟩:=new_row h0 (g:=5) (l:=[uk 0,.str 0 0,.nils,.nils,ik 0]) rfl (by omega)
 have U01:=U0.trans U1
 have r01:=r0.later t0 U1
 have t01:=Nat.lt_of_lt_of_le t0 U1.nx
 have z1 : repT [uk 0,V.str 0 0,.nils,.nils,ik 0] 1 1 = .lf [uk 0,.str 0 0,.nils,.nils,ik 0]:=by rw [repT_eq]; rfl
 have d0 : ∀ q,words.new h (.arr 5 1 (.lf [.int .u8 op,.str tl tn,va,vb,.int .i64 p0]) .false) q = q h.nx h0:=e0
 have d1 : ∀ q,words.new h0 (.arr 5 1 (repT [uk 0,.str 0 0,.nils,.nils,ik 0] 1 1) .false) q = q h0.nx h1:=fun q=>by rw [z1]; exact e1 q
 have ne01 : h.nx ≠ h0.nx:=bid_ne (by omega)
 have fin : ∀ h3,Up h h3→Row (h3.t.get h.nx) 5 [.int .u8 op,.str tl tn,va,vb,.int .i64 p0]→Row (h3.t.get h0.nx) 5 [uk 0,.str 0 0,.nils,.nils,ik 0]→h1.nx.val ≤ h3.nx.val →
  ∃ h7 l',(z3 [.ptr pf 0,.ptr h.nx 0,.ptr h0.nx 0] fun v2 v3 v4=>pl words v3 2 h3 fun v5=>bp (call tabW n d f34 [v5,.func 65571 [v2]] h3) fun v6 h3=>ptrk v3 fun p2 n1=>onek v6 (words.store h3 p2 (Nat.add n1 2) 1 [v6] fun h4=>pl words v3 3 h4 fun v7=>bp (call tabW n d f36 [v7,.func 65573 [v2]] h4) fun v8 h5=>ptrk v3 fun p3 n2=>onek v8 (words.store h5 p3 (Nat.add n2 3) 1 [v8] fun h6=>ptrk v3 fun p4 n3=>words.load h6 p4 n3 5 fun l2=>ptrk v4 fun p5 n4=>words.store h6 p5 n4 5 l2 fun h7=>ptrk v4 fun p6 n5=>loadk h7 p6 n5 5 fun l3=>.ret (.agg 5 l3) h7))) = .ret (.agg 5 l') h7 ∧
   Up h h7∧RowA h7 (newIn h h7) [.i .u8 op,.s tl tn,.sl 5 args,.sl 5 body,.i .i64 p0] l':=by
  intro h3 U3 q0 q1 hnx
  have t03 : h.nx.val < h3.nx.val:=by omega
  have t13 : h0.nx.val < h3.nx.val:=by omega
  obtain ⟨h4,v',em,U4,w4'⟩:=HE h3 N args va (F.up U3) (Nat.le_trans hN U3.nx) ha (by omega) (w2.to hN U3)
  have q04 : Row (h4.t.get h.nx) 5 ([.int .u8 op,.str tl tn] ++ va :: [vb,.int .i64 p0]):=q0.later t03 U4
  have q14:=q1.later t13 U4
  obtain ⟨h5,e5,q05,u5⟩:=set_one q04 v'
  have q15 : Row (h5.t.get h0.nx) 5 [uk 0,.str 0 0,.nils,.nils,ik 0]:=by rw [u5.get _ (Ne.symm ne01)]; exact q14
  have U34:=U3.trans U4
  have U35 : Up h h5:=⟨by rw [u5.nx]; exact U34.nx,fun b hb=>by rw [u5.get b (bid_ne (by omega))]; exact U34.get b hb⟩
  obtain ⟨h6,v'',em2,U6,w6'⟩:=H h5 N body vb (F.up U35) (Nat.le_trans hN U35.nx) hb (by omega) (w3.to hN U35)
  have t05 : h.nx.val < h5.nx.val:=by rw [u5.nx]; exact Nat.lt_of_lt_of_le t03 U4.nx
  have t15 : h0.nx.val < h5.nx.val:=by rw [u5.nx]; exact Nat.lt_of_lt_of_le t13 U4.nx
  have q06 : Row (h6.t.get h.nx) 5 ([.int .u8 op,.str tl tn,v'] ++ vb :: [.int .i64 p0]):=q05.later t05 U6
  have q16:=q15.later t15 U6
  obtain ⟨h7,e7,q07,u7⟩:=set_one q06 v''
  have q17 : Row (h7.t.get h0.nx) 5 [uk 0,.str 0 0,.nils,.nils,ik 0]:=by rw [u7.get _ (Ne.symm ne01)]; exact q16
  obtain ⟨h8,e8,q8,u8⟩:=storek_law (o:=0) (n:=5) (vs:=[.int .u8 op,.str tl tn,v',v'',.int .i64 p0]) q17 rfl (by simp)
  have q8' : Row (h8.t.get h0.nx) 5 [.int .u8 op,.str tl tn,v',v'',.int .i64 p0]:=row_ext q8 rfl
  have c3 : ∀ q : V→Res,words.load1 h3 h.nx (Nat.add 0 2) q = q va:=fun q=>load1k_law q0 rfl q
  have d5 : ∀ q : Heap→Res,words.store h4 h.nx (Nat.add 0 2) 1 [v'] q = q h5:=e5
  have c4 : ∀ q : V→Res,words.load1 h5 h.nx (Nat.add 0 3) q = q vb:=fun q=>load1k_law q05 rfl q
  have d7 : ∀ q : Heap→Res,words.store h6 h.nx (Nat.add 0 3) 1 [v''] q = q h7:=e7
  have c5 : ∀ q : List V→Res,words.load h7 h.nx 0 5 q = q [.int .u8 op,.str tl tn,v',v'',.int .i64 p0]:=fun q=>loadk_law (o:=0) (n:=5) q07 (by simp) q
  have d8 : ∀ q : Heap→Res,words.store h7 h0.nx 0 5 [.int .u8 op,.str tl tn,v',v'',.int .i64 p0] q = q h8:=e8
  have c6 : ∀ q : List V→Res,loadk h8 h0.nx 0 5 q = q [.int .u8 op,.str tl tn,v',v'',.int .i64 p0]:=fun q=>loadk_law (o:=0) (n:=5) q8' (by simp) q
  have U36:=U35.trans U6
  have e58 : ∀ b : Bid,b ≠ h.nx→b ≠ h0.nx→h8.t.get b = h6.t.get b:=fun b h1 h2=>by rw [u8.get b h2,u7.get b h1]
  have nx8 : h8.nx = h6.nx:=by rw [u8.nx,u7.nx]
  refine ⟨h8,[.int .u8 op,.str tl tn,v',v'',.int .i64 p0],?_,⟨by rw [nx8]; exact U36.nx,fun b hb=>?_⟩,.cons (.i _ _) (.cons (.s _ _ hnt) (.cons ?_ (.cons ?_ (.cons (.i _ _) .nil))))⟩
  · simp -implicitDefEqProofs only [↓c3,↓em,↓w4'.onek,↓d5,↓c4,↓em2,↓w6'.onek,↓d7,↓c5,↓d8,↓c6,↓evR]
  · rw [e58 b (bid_ne (by omega)) (bid_ne (by omega))]
    exact U36.get b hb
  · exact w4'.mv (fun x hx=>⟨Nat.le_trans U3.nx hx.1,by rw [nx8]; exact Nat.lt_of_lt_of_le hx.2 (by rw [← u5.nx]; exact U6.nx)⟩) fun b hb=>by
     rw [e58 b (bid_ne (by have:=hb.1; omega)) (bid_ne (by have:=hb.1; omega)),U6.get b (by rw [u5.nx]; exact hb.2),u5.get b (bid_ne (by have:=hb.1; omega))]
  · exact w6'.mv (fun x hx=>⟨Nat.le_trans U35.nx hx.1,by rw [nx8]; exact hx.2⟩) fun b hb=>e58 b (bid_ne (by have:=hb.1; omega)) (bid_ne (by have:=hb.1; omega))
 have c0 : ∀ q : V→Res,words.load1 h1 h.nx 0 q = q (.int .u8 op):=fun q=>load1k_law r01 rfl q
 have c1 : ∀ q : V→Res,words.load1 h1 h.nx 1 q = q (.str tl tn):=fun q=>load1k_law r01 rfl q
 obtain ⟨h2,em,U2⟩:=(F.up U01).mean (n:=n) (d:=d) (by omega) hn (k:=2) (a:=tl) (a':=tn) (by omega) (by omega)
 have q02 : Row (h2.t.get h.nx) 5 ([.int .u8 op] ++ .str tl tn :: [va,vb,.int .i64 p0]):=r01.later t01 U2
 obtain ⟨h3,e3,q03,u3'⟩:=set_one q02 (.str tl tn)
 have q13 : Row (h3.t.get h0.nx) 5 [uk 0,.str 0 0,.nils,.nils,ik 0]:=by rw [u3'.get _ (Ne.symm ne01)]; exact r1.later t1 U2
 have d3 : ∀ q : Heap→Res,words.store h2 h.nx 1 1 [.str tl tn] q = q h3:=e3
 have k4 : Nat.beq (kno .u8) 4 = true:=rfl
 by_cases hop : ieq op (.ofNat 1) = true
 · obtain ⟨h7,l',e7,U7,w7⟩:=fin h3 ⟨by rw [u3'.nx]; exact (U01.trans U2).nx,fun b hb=>(u3'.get b (bid_ne (by omega))).trans ((U01.trans U2).get b hb)⟩ q03 q13 (by rw [u3'.nx]; exact U2.nx)
   refine ⟨h7,l',?_,U7,w7⟩
   rw [call37,← e7]
   simp -implicitDefEqProofs only [sh37,↓d0,↓d1,↓c0,↓hop,↓c1,↓em,↓d3,↓evR]
 · have hop : ieq op (.ofNat 1) = false:=by simpa using hop
   by_cases hop2 : ieq op (.ofNat 2) = true
   · obtain ⟨h7,l',e7,U7,w7⟩:=fin h3 ⟨by rw [u3'.nx]; exact (U01.trans U2).nx,fun b hb=>(u3'.get b (bid_ne (by omega))).trans ((U01.trans U2).get b hb)⟩ q03 q13 (by rw [u3'.nx]; exact U2.nx)
     refine ⟨h7,l',?_,U7,w7⟩
     rw [call37,← e7]
     simp -implicitDefEqProofs only [sh37,↓d0,↓d1,↓c0,↓hop,↓hop2,↓k4,↓c1,↓em,↓d3,↓evR]
   · have hop2 : ieq op (.ofNat 2) = false:=by simpa using hop2
     obtain ⟨h7,l',e7,U7,w7⟩:=fin h1 U01 r01 r1 (Nat.le_refl _)
     refine ⟨h7,l',?_,U7,w7⟩
     rw [call37,← e7]
     simp -implicitDefEqProofs only [sh37,↓d0,↓d1,↓c0,↓hop,↓hop2,↓k4,↓evR]
theorem map_lit : ∀ (W : Nat) {n d : Nat},W ≤ 1000000→1000000 < n→2 * W + 12 ≤ d→MpL n d W pf s:=by
 intro W
 induction W using Nat.strongRecOn with
 | _ W ih=>
   intro n d hW hn hd
   obtain ⟨d,rfl⟩ : ∃ d',d = d' + 1 + 1:=⟨d - 2,by omega⟩
   exact map_lit_of (map_exprs hW hn (by omega)) (map_lits_of (fun r _ h=>ih (wtRow r) (by omega) (by omega) (by omega) (by omega)) hW hn) hW hn (by omega)
theorem map_lits {W : Nat} (hW : W ≤ 1000000) (hn : 1000000 < n) (hd : 2 * W + 13 ≤ d) : MpLs n d W pf s:=by
 obtain ⟨d,rfl⟩ : ∃ d',d = d' + 1:=⟨d - 1,by omega⟩
 exact map_lits_of (fun r _ h=>map_lit (wtRow r) (by omega) (by omega) (by omega)) hW hn
end
end Go.Ev.WCP
