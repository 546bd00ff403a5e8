/- CpE2: texts joined. -/
import Derived.Test.YtdiepeopeefgpaaEvRules
import Derived.Test.YtdiepeopeefgpaaCpC1
/- CompsPlain: trees that are the same: literals, rules, relations, types, programs. -/
namespace Go.Ev.WCP
open Go.Proofs
set_option maxRecDepth 100000
theorem isL_eq {r : List Tr} (h : IsL r) : ∃ op a a' args body p,r = [.i .u8 op,.s a a',.sl 5 args,.sl 5 body,.i .i64 p]∧(∀ x ∈ args,IsE x)∧(∀ x ∈ body,IsL x)∧wtRow r = a + (wtRows args + wtRows body):=by
 cases h with | mk op l n args body p ha hb=>exact ⟨op,l,n,args,body,p,rfl,ha,hb,by simp [wtRow,Tr.wt]⟩
theorem isRu_eq {r : List Tr} (h : IsRu r) : ∃ a a' args body p,r = [.s a a',.sl 5 args,.sl 5 body,.i .i64 p]∧(∀ x ∈ args,IsE x)∧(∀ x ∈ body,IsL x)∧wtRow r = a + (wtRows args + wtRows body):=by
 cases h with | mk l n args body p ha hb=>exact ⟨l,n,args,body,p,rfl,ha,hb,by simp [wtRow,Tr.wt]⟩
theorem isR_eq {r : List Tr} (h : IsR r) : ∃ a a' fs x y z p,r = [.s a a',.sl 2 fs,.b x,.b y,.b z,.i .i64 p]∧(∀ f ∈ fs,IsF f)∧wtRow r = a + wtRows fs:=by
 cases h with | mk l n fs x y z p hf=>exact ⟨l,n,fs,x,y,z,p,rfl,hf,by simp [wtRow,Tr.wt]⟩
theorem isT_eq {r : List Tr} (h : IsT r) : ∃ kd a a' e e' fs cs p,r = [.i .u8 kd,.s a a',.s e e',.sl 2 fs,.sl 2 cs,.i .i64 p]∧(∀ f ∈ fs,IsF f)∧(∀ c ∈ cs,IsC c)∧wtRow r = a + e + wtRows fs + wtRows cs:=by
 cases h with | mk kd l n l' n' fs cs p hf hc=>exact ⟨kd,l,n,l',n',fs,cs,p,rfl,hf,hc,by simp [wtRow,Tr.wt]; omega⟩
theorem isC_eq {r : List Tr} (h : IsC r) : ∃ a a' fs,r = [.s a a',.sl 2 fs]∧(∀ f ∈ fs,IsF f)∧wtRow r = a + wtRows fs:=by
 cases h with | mk l n fs hf=>exact ⟨l,n,fs,rfl,hf,by simp [wtRow,Tr.wt]⟩
theorem litIn {h : Heap} {A : Nat→Prop} {rows : List (List Tr)} {v : V} (w : CellA h A (.sl 5 rows) v) {i : Nat} (hi : i < rows.length) {op p : Int} {a a' : Nat} {args body : List (List Tr)} (hr : rows[i] = [.i .u8 op,.s a a',.sl 5 args,.sl 5 body,.i .i64 p]) :
 ∃ b o c va vb,v = .slice b o rows.length c 5∧CellA h A (.sl 5 args) va∧CellA h A (.sl 5 body) vb ∧
 (∀ k,load1k h b (o + i * 5) k = k (.int .u8 op))∧(∀ k,load1k h b (o + i * 5 + 1) k = k (.str a a'))∧(∀ k,load1k h b (o + i * 5 + 2) k = k va)∧(∀ k,load1k h b (o + i * 5 + 3) k = k vb)∧∀ k,load1k h b (o + i * 5 + 4) k = k (.int .i64 p):=by
 obtain ⟨b,o,c,l',rfl,hw,hl',_,ld,ld1⟩:=w.row hi
 rw [hr] at hw
 cases hw with | cons w0 hw=>
 cases hw with | cons w1 hw=>
 cases hw with | cons w2 hw=>
 cases hw with | cons w3 hw=>
 cases hw with | cons w4 hw=>
 cases hw
 cases w0; cases w1; cases w4
 exact ⟨b,o,c,_,_,rfl,w2,w3,fun k=>ld1 0 _ rfl k,fun k=>ld1 1 _ rfl k,fun k=>ld1 2 _ rfl k,fun k=>ld1 3 _ rfl k,fun k=>ld1 4 _ rfl k⟩
theorem ruleIn {h : Heap} {A : Nat→Prop} {rows : List (List Tr)} {v : V} (w : CellA h A (.sl 4 rows) v) {i : Nat} (hi : i < rows.length) {p : Int} {a a' : Nat} {args body : List (List Tr)} (hr : rows[i] = [.s a a',.sl 5 args,.sl 5 body,.i .i64 p]) :
 ∃ b o c va vb,v = .slice b o rows.length c 4∧CellA h A (.sl 5 args) va∧CellA h A (.sl 5 body) vb ∧
 (∀ k,load1k h b (o + i * 4) k = k (.str a a'))∧(∀ k,load1k h b (o + i * 4 + 1) k = k va)∧(∀ k,load1k h b (o + i * 4 + 2) k = k vb)∧(∀ k,load1k h b (o + i * 4 + 3) k = k (.int .i64 p))∧∀ k,loadk h b (o + i * 4) 4 k = k [.str a a',va,vb,.int .i64 p]:=by
 obtain ⟨b,o,c,l',rfl,hw,hl',_,ld,ld1⟩:=w.row hi
 rw [hr] at hw
 cases hw with | cons w0 hw=>
 cases hw with | cons w1 hw=>
 cases hw with | cons w2 hw=>
 cases hw with | cons w3 hw=>
 cases hw
 cases w0; cases w3
 exact ⟨b,o,c,_,_,rfl,w1,w2,fun k=>ld1 0 _ rfl k,fun k=>ld1 1 _ rfl k,fun k=>ld1 2 _ rfl k,fun k=>ld1 3 _ rfl k,ld⟩
theorem relIn {h : Heap} {A : Nat→Prop} {rows : List (List Tr)} {v : V} (w : CellA h A (.sl 6 rows) v) {i : Nat} (hi : i < rows.length) {p : Int} {a a' : Nat} {fs : List (List Tr)} {x y z : Bool} (hr : rows[i] = [.s a a',.sl 2 fs,.b x,.b y,.b z,.i .i64 p]) :
 ∃ b o c vf,v = .slice b o rows.length c 6∧CellA h A (.sl 2 fs) vf∧(∀ k,load1k h b (o + i * 6) k = k (.str a a'))∧∀ k,loadk h b (o + i * 6) 6 k = k [.str a a',vf,.bool x,.bool y,.bool z,.int .i64 p]:=by
 obtain ⟨b,o,c,l',rfl,hw,hl',_,ld,ld1⟩:=w.row hi
 rw [hr] at hw
 cases hw with | cons w0 hw=>
 cases hw with | cons w1 hw=>
 cases hw with | cons w2 hw=>
 cases hw with | cons w3 hw=>
 cases hw with | cons w4 hw=>
 cases hw with | cons w5 hw=>
 cases hw
 cases w0; cases w2; cases w3; cases w4; cases w5
 exact ⟨b,o,c,_,rfl,w1,fun k=>ld1 0 _ rfl k,ld⟩
theorem typeIn {h : Heap} {A : Nat→Prop} {rows : List (List Tr)} {v : V} (w : CellA h A (.sl 6 rows) v) {i : Nat} (hi : i < rows.length) {kd p : Int} {a a' e e' : Nat} {fs cs : List (List Tr)} (hr : rows[i] = [.i .u8 kd,.s a a',.s e e',.sl 2 fs,.sl 2 cs,.i .i64 p]) :
 ∃ b o c vf vc,v = .slice b o rows.length c 6∧CellA h A (.sl 2 fs) vf∧CellA h A (.sl 2 cs) vc∧(∀ k,load1k h b (o + i * 6 + 1) k = k (.str a a'))∧(∀ k,load1k h b (o + i * 6 + 4) k = k vc) ∧
 ∀ k,loadk h b (o + i * 6) 6 k = k [.int .u8 kd,.str a a',.str e e',vf,vc,.int .i64 p]:=by
 obtain ⟨b,o,c,l',rfl,hw,hl',_,ld,ld1⟩:=w.row hi
 rw [hr] at hw
 cases hw with | cons w0 hw=>
 cases hw with | cons w1 hw=>
 cases hw with | cons w2 hw=>
 cases hw with | cons w3 hw=>
 cases hw with | cons w4 hw=>
 cases hw with | cons w5 hw=>
 cases hw
 cases w0; cases w1; cases w2; cases w5
 exact ⟨b,o,c,_,_,rfl,w3,w4,fun k=>ld1 1 _ rfl k,fun k=>ld1 4 _ rfl k,ld⟩
theorem caseIn {h : Heap} {A : Nat→Prop} {rows : List (List Tr)} {v : V} (w : CellA h A (.sl 2 rows) v) {i : Nat} (hi : i < rows.length) {a a' : Nat} {fs : List (List Tr)} (hr : rows[i] = [.s a a',.sl 2 fs]) :
 ∃ b o c vf,v = .slice b o rows.length c 2∧CellA h A (.sl 2 fs) vf∧(∀ k,load1k h b (o + i * 2) k = k (.str a a'))∧(∀ k,load1k h b (o + i * 2 + 1) k = k vf)∧∀ k,loadk h b (o + i * 2) 2 k = k [.str a a',vf]:=by
 obtain ⟨b,o,c,l',rfl,hw,hl',_,ld,ld1⟩:=w.row hi
 rw [hr] at hw
 cases hw with | cons w0 hw=>
 cases hw with | cons w1 hw=>
 cases hw
 cases w0
 exact ⟨b,o,c,_,rfl,w1,fun k=>ld1 0 _ rfl k,fun k=>ld1 1 _ rfl k,ld⟩
def SmL (n d W : Nat) : Prop:=∀ (h : Heap) (N : Nat) (rows : List (List Tr)) (v v' : V),N ≤ h.nx.val→(∀ r ∈ rows,IsL r)→wtRows rows ≤ W→CellR h N (.sl 5 rows) v→CellR h N (.sl 5 rows) v'→∃ h',call tabW n d f24 [v,v',.bool true] h = .ret (.bool true) h'∧Up h h'
section
variable {n d W : Nat} {v v' : V} {N : Nat}
theorem loop24 (HE : SmEs n d W) (H : ∀ W',W' < W→SmL n d W') (hW : W ≤ 1000000) {rows : List (List Tr)} (hr : ∀ r ∈ rows,IsL r) (hw : wtRows rows ≤ W) :
 ∀ (j : Nat) {i q : Nat} {h : Heap},i + j = rows.length→j < q→N ≤ h.nx.val→CellR h N (.sl 5 rows) v→CellR h N (.sl 5 rows) v'→∃ h',lpk (b24_1 words n (call tabW n d)) q [v,v',.bool true,I (.ofNat i)] h = .ret (.bool true) h'∧Up h h':=by
 have hlen:=wtRows_len rows
 intro j
 induction j with
 | zero=>
   intro i q h hij hq hN w w'
   obtain ⟨q,rfl⟩ : ∃ q',q = q' + 1:=⟨q - 1,by omega⟩
   have n1 : ilt (.ofNat i) (.ofNat rows.length) = false:=ilt_false (by omega)
   refine ⟨h,?_,.refl _⟩
   rw [lpk_succ]
   simp -implicitDefEqProofs only [b24_1,↓w.lenk,↓n1,↓evR]
 | succ j ih=>
   intro i q h hij hq hN w w'
   obtain ⟨q,rfl⟩ : ∃ q',q = q' + 1:=⟨q - 1,by omega⟩
   have hi : i < rows.length:=by omega
   obtain ⟨op,a,a',args,body,p,hre,ha,hb,hwt⟩:=isL_eq (hr _ (List.getElem_mem hi))
   have hmem:=wtRows_mem (List.getElem_mem hi)
   obtain ⟨b,o,c,va,vb,hv,wa,wb,l0,l1,l2,l3,l4⟩:=litIn w hi hre
   obtain ⟨b',o',c',va',vb',hv',wa',wb',l0',l1',l2',l3',l4'⟩:=litIn w' hi hre
   obtain ⟨h1,e1,U1⟩:=HE h N args va va' hN ha (by omega) wa wa'
   obtain ⟨h2,e2,U2⟩:=H (wtRows body) (by omega) h1 N body vb vb' (Nat.le_trans hN U1.nx) hb (Nat.le_refl _) (wb.to hN U1) (wb'.to hN U1)
   obtain ⟨h3,e3,U3⟩:=ih (i:=i + 1) (q:=q) (h:=h2) (by omega) (by omega) (Nat.le_trans hN (U1.trans U2).nx) (w.to hN (U1.trans U2)) (w'.to hN (U1.trans U2))
   subst hv; subst hv'
   have hb1:=Nat.lt_of_lt_of_le w.bid hN
   have hb1':=Nat.lt_of_lt_of_le w'.bid hN
   have c0 : ∀ q : V→Res,words.load1 h b (Nat.add o (Nat.mul i 5)) q = q (.int .u8 op):=l0
   have c1 : ∀ q : V→Res,words.load1 h b (Nat.add (Nat.add o (Nat.mul i 5)) 1) q = q (.str a a'):=l1
   have c2 : ∀ q : V→Res,words.load1 h b (Nat.add (Nat.add o (Nat.mul i 5)) 2) q = q va:=l2
   have c3 : ∀ q : V→Res,words.load1 h1 b (Nat.add (Nat.add o (Nat.mul i 5)) 3) q = q vb:=fun q=>(U1.ld hb1 q).trans (l3 q)
   have c4 : ∀ q : V→Res,words.load1 h b (Nat.add (Nat.add o (Nat.mul i 5)) 4) q = q (.int .i64 p):=l4
   have f0 : ∀ q : V→Res,words.load1 h b' (Nat.add o' (Nat.mul i 5)) q = q (.int .u8 op):=l0'
   have f1' : ∀ q : V→Res,words.load1 h b' (Nat.add (Nat.add o' (Nat.mul i 5)) 1) q = q (.str a a'):=l1'
   have f2 : ∀ q : V→Res,words.load1 h b' (Nat.add (Nat.add o' (Nat.mul i 5)) 2) q = q va':=l2'
   have f3 : ∀ q : V→Res,words.load1 h1 b' (Nat.add (Nat.add o' (Nat.mul i 5)) 3) q = q vb':=fun q=>(U1.ld hb1' q).trans (l3' q)
   have f4 : ∀ q : V→Res,words.load1 h b' (Nat.add (Nat.add o' (Nat.mul i 5)) 4) q = q (.int .i64 p):=l4'
   have n1:=ilt_true hi
   have n2 : Nat.blt i rows.length = true:=blt_of hi
   have n3:=ad_nat (a:=i) (b:=1) (by omega)
   refine ⟨h3,?_,(U1.trans U2).trans U3⟩
   rw [lpk_succ]
   simp -implicitDefEqProofs only [b24_1,↓n1,↓n2,↓c0,↓f0,↓c1,↓f1',↓c4,↓f4,↓c2,↓f2,↓e1,↓c3,↓f3,↓e2,↓n3,↓evR]
   exact e3
theorem same_lits : ∀ (W : Nat) {n d : Nat},W ≤ 1000000→W < n→3 * W + 5 ≤ d→SmL n d W:=by
 intro W
 induction W using Nat.strongRecOn with
 | _ W ih=>
   intro n d hW hn hd h N rows v v' hN hr hw w w'
   obtain ⟨d,rfl⟩ : ∃ d',d = d' + 1:=⟨d - 1,by omega⟩
   have hlen:=wtRows_len rows
   obtain ⟨h',e,u⟩:=loop24 (n:=n) (d:=d) (N:=N) (same_exprs hW hn (by omega)) (fun W' h'=>ih W' h' (by omega) (by omega) (by omega)) hW hr hw rows.length (i:=0) (q:=n) (h:=h) (by omega) (by omega) hN w w'
   refine ⟨h',?_,u⟩
   rw [call24,sh24]
   simp -implicitDefEqProofs only [↓w.lenk,↓w'.lenk,↓evR]
   exact e
theorem loop16 (HE : SmEs n d W) (H : SmL n d W) (hW : W ≤ 1000000) {rows : List (List Tr)} (hr : ∀ r ∈ rows,IsRu r) (hw : wtRows rows ≤ W) :
 ∀ (j : Nat) {i q : Nat} {h : Heap},i + j = rows.length→j < q→N ≤ h.nx.val→CellR h N (.sl 4 rows) v→CellR h N (.sl 4 rows) v'→∃ h',lpk (b16_1 words n (call tabW n d)) q [v,v',.bool true,I (.ofNat i)] h = .ret (.bool true) h'∧Up h h':=by
 have hlen:=wtRows_len rows
 intro j
 induction j with
 | zero=>
   intro i q h hij hq hN w w'
   obtain ⟨q,rfl⟩ : ∃ q',q = q' + 1:=⟨q - 1,by omega⟩
   have n1 : ilt (.ofNat i) (.ofNat rows.length) = false:=ilt_false (by omega)
   refine ⟨h,?_,.refl _⟩
   rw [lpk_succ]
   simp -implicitDefEqProofs only [b16_1,↓w.lenk,↓n1,↓evR]
 | succ j ih=>
   intro i q h hij hq hN w w'
   obtain ⟨q,rfl⟩ : ∃ q',q = q' + 1:=⟨q - 1,by omega⟩
   have hi : i < rows.length:=by omega
   obtain ⟨a,a',args,body,p,hre,ha,hb,hwt⟩:=isRu_eq (hr _ (List.getElem_mem hi))
   have hmem:=wtRows_mem (List.getElem_mem hi)
   obtain ⟨b,o,c,va,vb,hv,wa,wb,l0,l1,l2,l3,_⟩:=ruleIn w hi hre
   obtain ⟨b',o',c',va',vb',hv',wa',wb',l0',l1',l2',l3',_⟩:=ruleIn w' hi hre
   obtain ⟨h1,e1,U1⟩:=HE h N args va va' hN ha (by omega) wa wa'
   obtain ⟨h2,e2,U2⟩:=H h1 N body vb vb' (Nat.le_trans hN U1.nx) hb (by omega) (wb.to hN U1) (wb'.to hN U1)
   obtain ⟨h3,e3,U3⟩:=ih (i:=i + 1) (q:=q) (h:=h2) (by omega) (by omega) (Nat.le_trans hN (U1.trans U2).nx) (w.to hN (U1.trans U2)) (w'.to hN (U1.trans U2))
   subst hv; subst hv'
   have hb1:=Nat.lt_of_lt_of_le w.bid hN
   have hb1':=Nat.lt_of_lt_of_le w'.bid hN
   have c0 : ∀ q : V→Res,words.load1 h b (Nat.add o (Nat.mul i 4)) q = q (.str a a'):=l0
   have c1 : ∀ q : V→Res,words.load1 h b (Nat.add (Nat.add o (Nat.mul i 4)) 1) q = q va:=l1
   have c2 : ∀ q : V→Res,words.load1 h1 b (Nat.add (Nat.add o (Nat.mul i 4)) 2) q = q vb:=fun q=>(U1.ld hb1 q).trans (l2 q)
   have c3 : ∀ q : V→Res,words.load1 h b (Nat.add (Nat.add o (Nat.mul i 4)) 3) q = q (.int .i64 p):=l3
   have f0 : ∀ q : V→Res,words.load1 h b' (Nat.add o' (Nat.mul i 4)) q = q (.str a a'):=l0'
   have f1' : ∀ q : V→Res,words.load1 h b' (Nat.add (Nat.add o' (Nat.mul i 4)) 1) q = q va':=l1'
   have f2 : ∀ q : V→Res,words.load1 h1 b' (Nat.add (Nat.add o' (Nat.mul i 4)) 2) q = q vb':=fun q=>(U1.ld hb1' q).trans (l2' q)
   have f3 : ∀ q : V→Res,words.load1 h b' (Nat.add (Nat.add o' (Nat.mul i 4)) 3) q = q (.int .i64 p):=l3'
   have n1:=ilt_true hi
   have n2 : Nat.blt i rows.length = true:=blt_of hi
   have n3:=ad_nat (a:=i) (b:=1) (by omega)
   refine ⟨h3,?_,(U1.trans U2).trans U3⟩
   rw [lpk_succ]
   simp -implicitDefEqProofs only [b16_1,↓n1,↓n2,↓c0,↓f0,↓c3,↓f3,↓c1,↓f1',↓e1,↓c2,↓f2,↓e2,↓n3,↓evR]
   exact e3
theorem same_rules (hW : W ≤ 1000000) (hn : W < n) (hd : 3 * W + 6 ≤ d) {h : Heap} {rows : List (List Tr)} (hN : N ≤ h.nx.val) (hr : ∀ r ∈ rows,IsRu r) (hw : wtRows rows ≤ W) (w : CellR h N (.sl 4 rows) v) (w' : CellR h N (.sl 4 rows) v') :
 ∃ h',call tabW n d f16 [v,v',.bool true] h = .ret (.bool true) h'∧Up h h':=by
 obtain ⟨d,rfl⟩ : ∃ d',d = d' + 1:=⟨d - 1,by omega⟩
 have hlen:=wtRows_len rows
 obtain ⟨h',e,u⟩:=loop16 (n:=n) (d:=d) (N:=N) (same_exprs hW hn (by omega)) (same_lits W hW hn (by omega)) hW hr hw rows.length (i:=0) (q:=n) (h:=h) (by omega) (by omega) hN w w'
 refine ⟨h',?_,u⟩
 rw [call16,sh16]
 simp -implicitDefEqProofs only [↓w.lenk,↓w'.lenk,↓evR]
 exact e
end
end Go.Ev.WCP

/- CompsPlain: trees that are the same: relations, types, programs. -/
namespace Go.Ev.WCP
open Go.Proofs
set_option maxRecDepth 100000
section
variable {n d W : Nat} {v v' : V} {N : Nat}
theorem b15_go (hd : 0 < d) {again : List V→Heap→Res} {h : Heap} {rows : List (List Tr)} (hr : ∀ r ∈ rows,IsR r) (hw : wtRows rows ≤ W) (hW : W ≤ 1000000) (hn : W < n) (hN : N ≤ h.nx.val) (w : CellR h N (.sl 6 rows) v) (w' : CellR h N (.sl 6 rows) v') {i : Nat} (hi : i < rows.length) :
 ∃ h',b15_1 words n (call tabW n d) again [v,v',.bool true,I (.ofNat i)] h = again [v,v',.bool true,I (.ofNat (i + 1))] h'∧Up h h':=by
 have hlen:=wtRows_len rows
 obtain ⟨a,a',fs,x,y,z,p,hre,hf,hwt⟩:=isR_eq (hr _ (List.getElem_mem hi))
 have hmem:=wtRows_mem (List.getElem_mem hi)
 have hfl:=wtRows_len fs
 obtain ⟨b,o,c,vf,rfl,wf,l1,ld⟩:=relIn w hi hre
 obtain ⟨b',o',c',vf',rfl,wf',l1',ld'⟩:=relIn w' hi hre
 obtain ⟨h1,h2,h3,h4,e1,e2,e3,e4,row0,row1,U2,U3,U4,lt0,lt1⟩:=two_stores h (g:=6) (z:=[.str 0 0,.nils,.bool .false,.bool .false,.bool .false,ik 0]) (l:=[.str a a',vf,.bool x,.bool y,.bool z,.int .i64 p]) (m:=[.str a a',vf',.bool x,.bool y,.bool z,.int .i64 p]) rfl rfl rfl (by omega)
 have hb:=Nat.lt_of_lt_of_le w.bid hN
 have hb':=Nat.lt_of_lt_of_le w'.bid hN
 have d1 : ∀ q,words.new h (.arr 6 1 (repT [.str 0 0,.nils,.bool .false,.bool .false,.bool .false,ik 0] 1 1) .false) q = q h.nx h1:=e1
 have d2 : ∀ q,words.new h1 (.arr 6 1 (repT [.str 0 0,.nils,.bool .false,.bool .false,.bool .false,ik 0] 1 1) .false) q = q h1.nx h2:=e2
 have d3 : ∀ q : Heap→Res,words.store h2 h.nx 0 6 [.str a a',vf,.bool x,.bool y,.bool z,.int .i64 p] q = q h3:=e3
 have d4 : ∀ q : Heap→Res,words.store h3 h1.nx 0 6 [.str a a',vf',.bool x,.bool y,.bool z,.int .i64 p] q = q h4:=e4
 have a1 : ∀ q : List V→Res,words.load h2 b (Nat.add o (Nat.mul i 6)) 6 q = q [.str a a',vf,.bool x,.bool y,.bool z,.int .i64 p]:=fun q=>(U2.lds hb q).trans (ld q)
 have a2 : ∀ q : List V→Res,words.load h2 b' (Nat.add o' (Nat.mul i 6)) 6 q = q [.str a a',vf',.bool x,.bool y,.bool z,.int .i64 p]:=fun q=>(U2.lds hb' q).trans (ld' q)
 have a3 : ∀ q : List V→Res,words.load h3 b' (Nat.add o' (Nat.mul i 6)) 6 q = q [.str a a',vf',.bool x,.bool y,.bool z,.int .i64 p]:=fun q=>(U3.lds hb' q).trans (ld' q)
 have c0 : ∀ q : V→Res,words.load1 h4 h.nx 0 q = q (.str a a'):=fun q=>load1k_law row0 rfl q
 have c1 : ∀ q : V→Res,words.load1 h4 h.nx 1 q = q vf:=fun q=>load1k_law row0 rfl q
 have c2 : ∀ q : V→Res,words.load1 h4 h.nx 2 q = q (.bool x):=fun q=>load1k_law row0 rfl q
 have c3 : ∀ q : V→Res,words.load1 h4 h.nx 3 q = q (.bool y):=fun q=>load1k_law row0 rfl q
 have c4 : ∀ q : V→Res,words.load1 h4 h.nx 4 q = q (.bool z):=fun q=>load1k_law row0 rfl q
 have c5 : ∀ q : V→Res,words.load1 h4 h.nx 5 q = q (.int .i64 p):=fun q=>load1k_law row0 rfl q
 have g0 : ∀ q : V→Res,words.load1 h4 h1.nx 0 q = q (.str a a'):=fun q=>load1k_law row1 rfl q
 have g1 : ∀ q : V→Res,words.load1 h4 h1.nx 1 q = q vf':=fun q=>load1k_law row1 rfl q
 have g2 : ∀ q : V→Res,words.load1 h4 h1.nx 2 q = q (.bool x):=fun q=>load1k_law row1 rfl q
 have g3 : ∀ q : V→Res,words.load1 h4 h1.nx 3 q = q (.bool y):=fun q=>load1k_law row1 rfl q
 have g4 : ∀ q : V→Res,words.load1 h4 h1.nx 4 q = q (.bool z):=fun q=>load1k_law row1 rfl q
 have g5 : ∀ q : V→Res,words.load1 h4 h1.nx 5 q = q (.int .i64 p):=fun q=>load1k_law row1 rfl q
 have hs:=same_fields (n:=n) (d:=d) hd hf (by omega) (by omega) (wf.to hN U4) (wf'.to hN U4)
 have n1:=ilt_true hi
 have n2 : Nat.blt i rows.length = true:=blt_of hi
 have n3:=ad_nat (a:=i) (b:=1) (by omega)
 refine ⟨h4,?_,U4⟩
 simp -implicitDefEqProofs only [b15_1,↓n1,↓n2,↓d1,↓d2,↓a1,↓a2,↓d3,↓a3,↓d4,↓c0,↓g0,↓c2,↓g2,↓c3,↓g3,↓c4,↓g4,↓c5,↓g5,↓c1,↓g1,↓hs,↓n3,↓evR]
theorem loop15 (hd : 0 < d) (hW : W ≤ 1000000) (hn : W < n) {rows : List (List Tr)} (hr : ∀ r ∈ rows,IsR r) (hw : wtRows rows ≤ W) :
 ∀ (j : Nat) {i q : Nat} {h : Heap},i + j = rows.length→j < q→N ≤ h.nx.val→CellR h N (.sl 6 rows) v→CellR h N (.sl 6 rows) v'→∃ h',lpk (b15_1 words n (call tabW n d)) q [v,v',.bool true,I (.ofNat i)] h = .ret (.bool true) h'∧Up h h':=by
 intro j
 induction j with
 | zero=>
   intro i q h hij hq hN w w'
   obtain ⟨q,rfl⟩ : ∃ q',q = q' + 1:=⟨q - 1,by omega⟩
   have n1 : ilt (.ofNat i) (.ofNat rows.length) = false:=ilt_false (by omega)
   refine ⟨h,?_,.refl _⟩
   rw [lpk_succ]
   simp -implicitDefEqProofs only [b15_1,↓w.lenk,↓n1,↓evR]
 | succ j ih=>
   intro i q h hij hq hN w w'
   obtain ⟨q,rfl⟩ : ∃ q',q = q' + 1:=⟨q - 1,by omega⟩
   obtain ⟨h1,e1,U1⟩:=b15_go (again:=lpk (b15_1 words n (call tabW n d)) q) (n:=n) (d:=d) hd hr hw hW hn hN w w' (i:=i) (by omega)
   obtain ⟨h2,e2,U2⟩:=ih (i:=i + 1) (q:=q) (h:=h1) (by omega) (by omega) (Nat.le_trans hN U1.nx) (w.to hN U1) (w'.to hN U1)
   exact ⟨h2,by rw [lpk_succ,e1]; exact e2,U1.trans U2⟩
theorem same_rels (hW : W ≤ 1000000) (hn : W < n) (hd : 1 < d) {h : Heap} {rows : List (List Tr)} (hN : N ≤ h.nx.val) (hr : ∀ r ∈ rows,IsR r) (hw : wtRows rows ≤ W) (w : CellR h N (.sl 6 rows) v) (w' : CellR h N (.sl 6 rows) v') :
 ∃ h',call tabW n d f15 [v,v',.bool true] h = .ret (.bool true) h'∧Up h h':=by
 obtain ⟨d,rfl⟩ : ∃ d',d = d' + 1:=⟨d - 1,by omega⟩
 have hlen:=wtRows_len rows
 obtain ⟨h',e,U⟩:=loop15 (n:=n) (d:=d) (N:=N) (by omega) hW hn hr hw rows.length (i:=0) (q:=n) (h:=h) (by omega) (by omega) hN w w'
 refine ⟨h',?_,U⟩
 rw [call15,sh15]
 simp -implicitDefEqProofs only [↓w.lenk,↓w'.lenk,↓evR]
 exact e
theorem loop14_1 (hd : 0 < d) (hW : W ≤ 1000000) (hn : W < n) {rows : List (List Tr)} (hr : ∀ r ∈ rows,IsC r) (hw : wtRows rows ≤ W) {h : Heap} {p0 p1 : Bid} {l l' : List V} (row : Row (h.t.get p0) 6 l) (row' : Row (h.t.get p1) 6 l') {vc vc' : V} (hv : l[4]? = some vc) (hv' : l'[4]? = some vc')
 {A A' : Nat→Prop} (w : CellA h A (.sl 2 rows) vc) (w' : CellA h A' (.sl 2 rows) vc') {y : Int} :
 ∀ (j : Nat) {i q : Nat},i + j = rows.length→j < q→lpk (b14_1 words n (call tabW n d)) q [v,v',.bool true,I y,.ptr p0 0,.ptr p1 0,I (.ofNat i)] h = .done .normal [v,v',.bool true,I y] h:=by
 have hlen:=wtRows_len rows
 have c4 : ∀ q : V→Res,words.load1 h p0 (Nat.add 0 4) q = q vc:=fun q=>load1k_law row hv q
 have g4 : ∀ q : V→Res,words.load1 h p1 (Nat.add 0 4) q = q vc':=fun q=>load1k_law row' hv' q
 intro j
 induction j with
 | zero=>
   intro i q hij hq
   obtain ⟨q,rfl⟩ : ∃ q',q = q' + 1:=⟨q - 1,by omega⟩
   have n1 : ilt (.ofNat i) (.ofNat rows.length) = false:=ilt_false (by omega)
   rw [lpk_succ]
   simp -implicitDefEqProofs only [b14_1,↓c4,↓w.lenk,↓n1,↓evR]
 | succ j ih=>
   intro i q hij hq
   obtain ⟨q,rfl⟩ : ∃ q',q = q' + 1:=⟨q - 1,by omega⟩
   have hi : i < rows.length:=by omega
   obtain ⟨a,a',fs,hre,hf,hwt⟩:=isC_eq (hr _ (List.getElem_mem hi))
   have hmem:=wtRows_mem (List.getElem_mem hi)
   have hfl:=wtRows_len fs
   obtain ⟨b,o,c,vf,hvc,wf,l1,l2,_⟩:=caseIn w hi hre
   obtain ⟨b',o',c',vf',hvc',wf',l1',l2',_⟩:=caseIn w' hi hre
   have hs:=same_fields (n:=n) (d:=d) hd hf (by omega) (by omega) wf wf'
   have:=ih (i:=i + 1) (q:=q) (by omega) (by omega)
   subst hvc; subst hvc'
   have a1 : ∀ q : V→Res,words.load1 h b (Nat.add o (Nat.mul i 2)) q = q (.str a a'):=l1
   have a2 : ∀ q : V→Res,words.load1 h b' (Nat.add o' (Nat.mul i 2)) q = q (.str a a'):=l1'
   have a3 : ∀ q : V→Res,words.load1 h b (Nat.add (Nat.add o (Nat.mul i 2)) 1) q = q vf:=l2
   have a4 : ∀ q : V→Res,words.load1 h b' (Nat.add (Nat.add o' (Nat.mul i 2)) 1) q = q vf':=l2'
   have n1:=ilt_true hi
   have n2 : Nat.blt i rows.length = true:=blt_of hi
   have n3:=ad_nat (a:=i) (b:=1) (by omega)
   rw [lpk_succ]
   simp -implicitDefEqProofs only [b14_1,↓c4,↓g4,↓n1,↓n2,↓a1,↓a2,↓a3,↓a4,↓hs,↓n3,↓evR]
   exact this
theorem b14_go (hd : 0 < d) {again : List V→Heap→Res} {h : Heap} {rows : List (List Tr)} (hr : ∀ r ∈ rows,IsT r) (hw : wtRows rows ≤ W) (hW : W ≤ 1000000) (hn : W < n) (hN : N ≤ h.nx.val) (w : CellR h N (.sl 6 rows) v) (w' : CellR h N (.sl 6 rows) v') {i : Nat} (hi : i < rows.length) :
 ∃ h',b14_2 words n (call tabW n d) again [v,v',.bool true,I (.ofNat i)] h = again [v,v',.bool true,I (.ofNat (i + 1))] h'∧Up h h':=by
 have hlen:=wtRows_len rows
 obtain ⟨kd,a,a',e,e',fs,cs,p,hre,hf,hc,hwt⟩:=isT_eq (hr _ (List.getElem_mem hi))
 have hmem:=wtRows_mem (List.getElem_mem hi)
 have hfl:=wtRows_len fs
 have hcl:=wtRows_len cs
 obtain ⟨b,o,c,vf,vc,rfl,wf,wc,_,_,ld⟩:=typeIn w hi hre
 obtain ⟨b',o',c',vf',vc',rfl,wf',wc',_,_,ld'⟩:=typeIn w' hi hre
 obtain ⟨h1,h2,h3,h4,e1,e2,e3,e4,row0,row1,U2,U3,U4,lt0,lt1⟩:=two_stores h (g:=6) (z:=[uk 0,.str 0 0,.str 0 0,.nils,.nils,ik 0]) (l:=[.int .u8 kd,.str a a',.str e e',vf,vc,.int .i64 p]) (m:=[.int .u8 kd,.str a a',.str e e',vf',vc',.int .i64 p]) rfl rfl rfl (by omega)
 have hb:=Nat.lt_of_lt_of_le w.bid hN
 have hb':=Nat.lt_of_lt_of_le w'.bid hN
 have d1 : ∀ q,words.new h (.arr 6 1 (repT [uk 0,.str 0 0,.str 0 0,.nils,.nils,ik 0] 1 1) .false) q = q h.nx h1:=e1
 have d2 : ∀ q,words.new h1 (.arr 6 1 (repT [uk 0,.str 0 0,.str 0 0,.nils,.nils,ik 0] 1 1) .false) q = q h1.nx h2:=e2
 have d3 : ∀ q : Heap→Res,words.store h2 h.nx 0 6 [.int .u8 kd,.str a a',.str e e',vf,vc,.int .i64 p] q = q h3:=e3
 have d4 : ∀ q : Heap→Res,words.store h3 h1.nx 0 6 [.int .u8 kd,.str a a',.str e e',vf',vc',.int .i64 p] q = q h4:=e4
 have a1 : ∀ q : List V→Res,words.load h2 b (Nat.add o (Nat.mul i 6)) 6 q = q [.int .u8 kd,.str a a',.str e e',vf,vc,.int .i64 p]:=fun q=>(U2.lds hb q).trans (ld q)
 have a2 : ∀ q : List V→Res,words.load h2 b' (Nat.add o' (Nat.mul i 6)) 6 q = q [.int .u8 kd,.str a a',.str e e',vf',vc',.int .i64 p]:=fun q=>(U2.lds hb' q).trans (ld' q)
 have a3 : ∀ q : List V→Res,words.load h3 b' (Nat.add o' (Nat.mul i 6)) 6 q = q [.int .u8 kd,.str a a',.str e e',vf',vc',.int .i64 p]:=fun q=>(U3.lds hb' q).trans (ld' q)
 have c0 : ∀ q : V→Res,words.load1 h4 h.nx 0 q = q (.int .u8 kd):=fun q=>load1k_law row0 rfl q
 have c1 : ∀ q : V→Res,words.load1 h4 h.nx 1 q = q (.str a a'):=fun q=>load1k_law row0 rfl q
 have c2 : ∀ q : V→Res,words.load1 h4 h.nx 2 q = q (.str e e'):=fun q=>load1k_law row0 rfl q
 have c3 : ∀ q : V→Res,words.load1 h4 h.nx 3 q = q vf:=fun q=>load1k_law row0 rfl q
 have c4 : ∀ q : V→Res,words.load1 h4 h.nx 4 q = q vc:=fun q=>load1k_law row0 rfl q
 have c5 : ∀ q : V→Res,words.load1 h4 h.nx 5 q = q (.int .i64 p):=fun q=>load1k_law row0 rfl q
 have g0 : ∀ q : V→Res,words.load1 h4 h1.nx 0 q = q (.int .u8 kd):=fun q=>load1k_law row1 rfl q
 have g1 : ∀ q : V→Res,words.load1 h4 h1.nx 1 q = q (.str a a'):=fun q=>load1k_law row1 rfl q
 have g2 : ∀ q : V→Res,words.load1 h4 h1.nx 2 q = q (.str e e'):=fun q=>load1k_law row1 rfl q
 have g3 : ∀ q : V→Res,words.load1 h4 h1.nx 3 q = q vf':=fun q=>load1k_law row1 rfl q
 have g4 : ∀ q : V→Res,words.load1 h4 h1.nx 4 q = q vc':=fun q=>load1k_law row1 rfl q
 have g5 : ∀ q : V→Res,words.load1 h4 h1.nx 5 q = q (.int .i64 p):=fun q=>load1k_law row1 rfl q
 have hs:=same_fields (n:=n) (d:=d) hd hf (by omega) (by omega) (wf.to hN U4) (wf'.to hN U4)
 have hl:=loop14_1 (n:=n) (d:=d) (W:=W) (v:=.slice b o rows.length c 6) (v':=.slice b' o' rows.length c' 6) (y:=.ofNat i) hd hW hn hc (by omega) row0 row1 rfl rfl (wc.to hN U4) (wc'.to hN U4) cs.length (i:=0) (q:=n) (by omega) (by omega)
 have q1:=(wc.to hN U4).lenk
 have q2:=(wc'.to hN U4).lenk
 have n1:=ilt_true hi
 have n2 : Nat.blt i rows.length = true:=blt_of hi
 have n3:=ad_nat (a:=i) (b:=1) (by omega)
 refine ⟨h4,?_,U4⟩
 simp -implicitDefEqProofs only [b14_2,↓n1,↓n2,↓d1,↓d2,↓a1,↓a2,↓d3,↓a3,↓d4,↓c0,↓g0,↓c1,↓g1,↓c2,↓g2,↓c5,↓g5,↓c3,↓g3,↓hs,↓c4,↓g4,↓q1,↓q2,↓hl,↓n3,↓evR]
theorem loop14 (hd : 0 < d) (hW : W ≤ 1000000) (hn : W < n) {rows : List (List Tr)} (hr : ∀ r ∈ rows,IsT r) (hw : wtRows rows ≤ W) :
 ∀ (j : Nat) {i q : Nat} {h : Heap},i + j = rows.length→j < q→N ≤ h.nx.val→CellR h N (.sl 6 rows) v→CellR h N (.sl 6 rows) v'→∃ h',lpk (b14_2 words n (call tabW n d)) q [v,v',.bool true,I (.ofNat i)] h = .ret (.bool true) h'∧Up h h':=by
 intro j
 induction j with
 | zero=>
   intro i q h hij hq hN w w'
   obtain ⟨q,rfl⟩ : ∃ q',q = q' + 1:=⟨q - 1,by omega⟩
   have n1 : ilt (.ofNat i) (.ofNat rows.length) = false:=ilt_false (by omega)
   refine ⟨h,?_,.refl _⟩
   rw [lpk_succ]
   simp -implicitDefEqProofs only [b14_2,↓w.lenk,↓n1,↓evR]
 | succ j ih=>
   intro i q h hij hq hN w w'
   obtain ⟨q,rfl⟩ : ∃ q',q = q' + 1:=⟨q - 1,by omega⟩
   obtain ⟨h1,e1,U1⟩:=b14_go (again:=lpk (b14_2 words n (call tabW n d)) q) (n:=n) (d:=d) hd hr hw hW hn hN w w' (i:=i) (by omega)
   obtain ⟨h2,e2,U2⟩:=ih (i:=i + 1) (q:=q) (h:=h1) (by omega) (by omega) (Nat.le_trans hN U1.nx) (w.to hN U1) (w'.to hN U1)
   exact ⟨h2,by rw [lpk_succ,e1]; exact e2,U1.trans U2⟩
theorem same_types (hW : W ≤ 1000000) (hn : W < n) (hd : 1 < d) {h : Heap} {rows : List (List Tr)} (hN : N ≤ h.nx.val) (hr : ∀ r ∈ rows,IsT r) (hw : wtRows rows ≤ W) (w : CellR h N (.sl 6 rows) v) (w' : CellR h N (.sl 6 rows) v') :
 ∃ h',call tabW n d f14 [v,v',.bool true] h = .ret (.bool true) h'∧Up h h':=by
 obtain ⟨d,rfl⟩ : ∃ d',d = d' + 1:=⟨d - 1,by omega⟩
 have hlen:=wtRows_len rows
 obtain ⟨h',e,U⟩:=loop14 (n:=n) (d:=d) (N:=N) (by omega) hW hn hr hw rows.length (i:=0) (q:=n) (h:=h) (by omega) (by omega) hN w w'
 refine ⟨h',?_,U⟩
 rw [call14,sh14]
 simp -implicitDefEqProofs only [↓w.lenk,↓w'.lenk,↓evR]
 exact e
theorem same_prog (hW : W ≤ 1000000) (hn : W < n) (hd : 3 * W + 7 ≤ d) {h : Heap} {ts rs us : List (List Tr)} {v0 v1 v2 v0' v1' v2' : V} (hN : N ≤ h.nx.val) (ht : ∀ r ∈ ts,IsT r) (hr : ∀ r ∈ rs,IsR r) (hu : ∀ r ∈ us,IsRu r) (hw : wtRows ts + wtRows rs + wtRows us ≤ W)
 (w0 : CellR h N (.sl 6 ts) v0) (w1 : CellR h N (.sl 6 rs) v1) (w2 : CellR h N (.sl 4 us) v2) (w0' : CellR h N (.sl 6 ts) v0') (w1' : CellR h N (.sl 6 rs) v1') (w2' : CellR h N (.sl 4 us) v2') :
 ∃ h',call tabW n d f9 [.agg 3 [v0,v1,v2],.agg 3 [v0',v1',v2'],.bool true] h = .ret (.bool true) h'∧Up h h':=by
 obtain ⟨d,rfl⟩ : ∃ d',d = d' + 1:=⟨d - 1,by omega⟩
 obtain ⟨h0,e0,row,U0,lt0⟩:=new_row h (g:=3) (l:=[v0,v1,v2]) rfl (by omega)
 obtain ⟨h1,e1,row1,U1,lt1⟩:=new_row h0 (g:=3) (l:=[v0',v1',v2']) rfl (by omega)
 have row0:=row.later lt0 U1
 have lt0':=Nat.lt_of_lt_of_le lt0 U1.nx
 have U01:=U0.trans U1
 have b0 : ∀ q,words.new h (.arr 3 1 (.lf [v0,v1,v2]) .false) q = q h.nx h0:=e0
 have b1 : ∀ q,words.new h0 (.arr 3 1 (.lf [v0',v1',v2']) .false) q = q h0.nx h1:=e1
 obtain ⟨h2,s1,U2⟩:=same_types (n:=n) (d:=d) hW hn (by omega) (Nat.le_trans hN U01.nx) ht (by omega) (w0.to hN U01) (w0'.to hN U01)
 have U02:=U01.trans U2
 obtain ⟨h3,s2,U3⟩:=same_rels (n:=n) (d:=d) hW hn (by omega) (Nat.le_trans hN U02.nx) hr (by omega) (w1.to hN U02) (w1'.to hN U02)
 have U03:=U02.trans U3
 obtain ⟨h4,s3,U4⟩:=same_rules (n:=n) (d:=d) hW hn (by omega) (Nat.le_trans hN U03.nx) hu (by omega) (w2.to hN U03) (w2'.to hN U03)
 have ra:=row0.later lt0' U2
 have rb:=row1.later lt1 U2
 have la:=Nat.lt_of_lt_of_le lt0' U2.nx
 have lb':=Nat.lt_of_lt_of_le lt1 U2.nx
 have rc:=ra.later la U3
 have rd:=rb.later lb' U3
 have c0 : ∀ q : V→Res,words.load1 h1 h.nx 0 q = q v0:=fun q=>load1k_law row0 rfl q
 have g0 : ∀ q : V→Res,words.load1 h1 h0.nx 0 q = q v0':=fun q=>load1k_law row1 rfl q
 have c1 : ∀ q : V→Res,words.load1 h2 h.nx 1 q = q v1:=fun q=>load1k_law ra rfl q
 have g1 : ∀ q : V→Res,words.load1 h2 h0.nx 1 q = q v1':=fun q=>load1k_law rb rfl q
 have c2 : ∀ q : V→Res,words.load1 h3 h.nx 2 q = q v2:=fun q=>load1k_law rc rfl q
 have g2 : ∀ q : V→Res,words.load1 h3 h0.nx 2 q = q v2':=fun q=>load1k_law rd rfl q
 refine ⟨h4,?_,U03.trans U4⟩
 rw [call9]
 simp -implicitDefEqProofs only [sh9,↓b0,↓b1,↓c0,↓g0,↓s1,↓c1,↓g1,↓s2,↓c2,↓g2,↓s3,↓evR]
end
end Go.Ev.WCP

/- CompsPlain: dots in names, texts in lists. -/
namespace Go.Ev.WCP
open Go.Proofs
set_option maxRecDepth 100000
def dotIn : Nat→Nat→Bool
 | 0,_=>false
 | f + 1,n=>Nat.beq (n % 256) 46 || dotIn f (n / 256)
theorem idxb_dot : ∀ (f i n : Nat) (k : Int→Res),(dotIn f n = false∧idxb f i n 46 k = k (.negSucc 0)) ∨ (dotIn f n = true∧∃ j,i ≤ j∧j < i + f∧idxb f i n 46 k = k (.ofNat j))
 | 0,i,n,k=>.inl ⟨rfl,rfl⟩
 | f + 1,i,n,k=>by
   have e : idxb (f + 1) i n 46 k = ifk (Nat.beq (n % 256) 46) (k (.ofNat i)) (idxb f (i + 1) (n / 256) 46 k):=rfl
   cases hb : Nat.beq (n % 256) 46 with
   | true=>exact .inr ⟨by simp [dotIn,hb],i,Nat.le_refl _,by omega,by rw [e,hb]; rfl⟩
   | false=>
     rcases idxb_dot f (i + 1) (n / 256) k with ⟨h1,h2⟩ | ⟨h1,j,h2,h3,h4⟩
     · exact .inl ⟨by simp [dotIn,hb,h1],by rw [e,hb,ifk_false,h2]⟩
     · exact .inr ⟨by simp [dotIn,hb,h1],j,by omega,by omega,by rw [e,hb,ifk_false,h4]⟩
theorem idxS_at {l n m : Nat} (hm : m < l) (h : Heap) (k : V→Heap→Res) : words.idxS (.str l n) (I (.ofNat m)) h k = k (.int .u8 (.ofNat (n / 256 ^ m % 256))) h:=by
 show ifk (Nat.blt m l) (k (.int .u8 (.ofNat (Nat.mod (Nat.div n (Nat.pow 2 (Nat.mul 8 m))) 256))) h) .fail = _
 rw [blt_of hm,ifk_true]
 have : Nat.pow 2 (Nat.mul 8 m) = 256 ^ m:=by
  show 2 ^ (8 * m) = 256 ^ m
  rw [Nat.pow_mul]
 rw [this]
 rfl
section
variable {n d : Nat} {v v' : V} {N : Nat}
theorem loop7 {cf : CF} {h : Heap} {l s : Nat} (hl : l ≤ 1000000000) : ∀ (j : Nat) {i q : Nat},i + j = l→j < q→lpk (b7_1 words n cf) q [.str l s,I (.ofNat i)] h = .ret (.bool (dotIn j (s / 256 ^ i))) h:=by
 intro j
 induction j with
 | zero=>
   intro i q hij hq
   obtain ⟨q,rfl⟩ : ∃ q',q = q' + 1:=⟨q - 1,by omega⟩
   have n1 : ilt (.ofNat i) (.ofNat l) = false:=ilt_false (by omega)
   rw [lpk_succ]
   simp -implicitDefEqProofs only [b7_1,↓n1,↓dotIn,↓evR]
 | succ j ih=>
   intro i q hij hq
   obtain ⟨q,rfl⟩ : ∃ q',q = q' + 1:=⟨q - 1,by omega⟩
   have hi : i < l:=by omega
   have n1:=ilt_true hi
   have a1 : ∀ k : V→Heap→Res,words.idxS (.str l s) (I (.ofNat i)) h k = k (.int .u8 (.ofNat (s / 256 ^ i % 256))) h:=idxS_at hi h
   have n3:=ad_nat (a:=i) (b:=1) (by omega)
   have:=ih (i:=i + 1) (q:=q) (by omega) (by omega)
   have e1 : s / 256 ^ (i + 1) = s / 256 ^ i / 256:=by rw [Nat.pow_succ,Nat.div_div_eq_div_mul]
   rw [e1] at this
   rw [lpk_succ]
   by_cases hb : s / 256 ^ i % 256 = 46
   · have n2 : ieq (.ofNat (s / 256 ^ i % 256)) (.ofNat 46) = true:=by rw [ieq_nat]; simpa using hb
     have e2 : dotIn (j + 1) (s / 256 ^ i) = true:=by simp [dotIn,beq_of hb]
     rw [e2]
     simp -implicitDefEqProofs only [b7_1,↓n1,↓a1,↓n2,↓evR]
   · have n2 : ieq (.ofNat (s / 256 ^ i % 256)) (.ofNat 46) = false:=by rw [ieq_nat]; simpa using hb
     have e2 : dotIn (j + 1) (s / 256 ^ i) = dotIn j (s / 256 ^ i / 256):=by simp [dotIn,beq_not hb]
     rw [e2]
     simp -implicitDefEqProofs only [b7_1,↓n1,↓a1,↓n2,↓n3,↓evR]
     exact this
theorem dotted_law (hd : 0 < d) {h : Heap} {l s : Nat} (hl : l ≤ 1000000000) (hn : l < n) : call tabW n d f7 [.str l s] h = .ret (.bool (dotIn l s)) h:=by
 obtain ⟨d,rfl⟩ : ∃ d',d = d' + 1:=⟨d - 1,by omega⟩
 have:=loop7 (n:=n) (cf:=call tabW n d) (h:=h) (s:=s) hl l (i:=0) (q:=n) (by omega) hn
 rw [Nat.pow_zero,Nat.div_one] at this
 rw [call7,sh7]
 simp -implicitDefEqProofs only [↓evR]
 exact this
abbrev txs (l : List (Nat × Nat)) : List (List Tr):=l.map fun x=>[.s x.1 x.2]
theorem txAt {h : Heap} {A : Nat→Prop} {l : List (Nat × Nat)} (w : CellA h A (.sl 1 (txs l)) v) {i : Nat} (hi : i < l.length) : ∃ b o c,v = .slice b o l.length c 1∧∀ k,load1k h b (o + i) k = k (.str l[i].1 l[i].2):=by
 have hi' : i < (txs l).length:=by simpa using hi
 have hre : (txs l)[i] = [.s l[i].1 l[i].2]:=by simp [txs]
 obtain ⟨b,o,c,a,a',rfl,e,_,l1⟩:=textAt w hi' (by rw [hre]; exact .mk _ _)
 rw [hre] at e
 injection e with e e2
 injection e with e e3
 refine ⟨b,o,c,by simp [txs],fun k=>?_⟩
 rw [l1,e,e3]
theorem loop8 {cf : CF} {h : Heap} {A : Nat→Prop} {l : List (Nat × Nat)} (w : CellA h A (.sl 1 (txs l)) v) {a a' : Nat} (hl : l.length ≤ 1000000000) : ∀ (j : Nat) {i q : Nat},i + j = l.length→j < q →
 lpk (b8_1 words n cf) q [v,.str a a',I (.ofNat i)] h = .ret (.bool ((l.drop i).contains (a,a'))) h:=by
 have hlen : ∀ k : Nat→Res,lenk v k = k l.length:=fun k=>by rw [w.lenk]; simp [txs]
 intro j
 induction j with
 | zero=>
   intro i q hij hq
   obtain ⟨q,rfl⟩ : ∃ q',q = q' + 1:=⟨q - 1,by omega⟩
   have n1 : ilt (.ofNat i) (.ofNat l.length) = false:=ilt_false (by omega)
   have e : (l.drop i).contains (a,a') = false:=by rw [List.drop_eq_nil_of_le (by omega)]; rfl
   rw [lpk_succ,e]
   simp -implicitDefEqProofs only [b8_1,↓hlen,↓n1,↓evR]
 | succ j ih=>
   intro i q hij hq
   obtain ⟨q,rfl⟩ : ∃ q',q = q' + 1:=⟨q - 1,by omega⟩
   have hi : i < l.length:=by omega
   obtain ⟨b,o,c,rfl,l1⟩:=txAt w hi
   have n1:=ilt_true hi
   have n2 : Nat.blt i l.length = true:=blt_of hi
   have a1 : ∀ k : V→Res,words.load1 h b (Nat.add o i) k = k (.str l[i].1 l[i].2):=l1
   have n3:=ad_nat (a:=i) (b:=1) (by omega)
   have:=ih (i:=i + 1) (q:=q) (by omega) (by omega)
   rw [lpk_succ]
   by_cases hb : l[i].1 = a∧l[i].2 = a'
   · have n4 : seq l[i].1 l[i].2 a a' = true:=by rw [seq_law]; simpa using hb
     have e : (l.drop i).contains (a,a') = true:=by
      rw [List.drop_eq_getElem_cons hi,List.contains_cons,Bool.or_eq_true]
      exact .inl (beq_iff_eq.2 (Prod.ext hb.1.symm hb.2.symm))
     rw [e]
     simp -implicitDefEqProofs only [b8_1,↓n1,↓n2,↓a1,↓n4,↓evR]
   · have n4 : seq l[i].1 l[i].2 a a' = false:=by rw [seq_law]; simpa using hb
     have e : (l.drop i).contains (a,a') = (l.drop (i + 1)).contains (a,a'):=by
      rw [List.drop_eq_getElem_cons hi,List.contains_cons]
      have : ((a,a') == l[i]) = false:=by
       rw [beq_eq_false_iff_ne]
       intro e; exact hb ⟨congrArg Prod.fst e.symm,congrArg Prod.snd e.symm⟩
      rw [this,Bool.false_or]
     rw [e]
     simp -implicitDefEqProofs only [b8_1,↓n1,↓n2,↓a1,↓n4,↓n3,↓evR]
     exact this
theorem hasText_law (hd : 0 < d) {h : Heap} {A : Nat→Prop} {l : List (Nat × Nat)} (w : CellA h A (.sl 1 (txs l)) v) {a a' : Nat} (hl : l.length ≤ 1000000000) (hn : l.length < n) : call tabW n d f8 [v,.str a a'] h = .ret (.bool (l.contains (a,a'))) h:=by
 obtain ⟨d,rfl⟩ : ∃ d',d = d' + 1:=⟨d - 1,by omega⟩
 have:=loop8 (n:=n) (cf:=call tabW n d) w (a:=a) (a':=a') hl l.length (i:=0) (q:=n) (by omega) hn
 rw [call8,sh8]
 simp -implicitDefEqProofs only [↓evR]
 exact this
theorem loop46 {cf : CF} {h : Heap} {A : Nat→Prop} {l : List (Nat × Nat)} (w : CellA h A (.sl 1 (txs l)) v) {a a' : Nat} (hl : l.length ≤ 1000000000) : ∀ (j : Nat) {i q : Nat},i + j = l.length→j < q →
 ∃ r,lpk (b46_1 words n cf) q [v,.str a a',I (.ofNat l.length),I (.ofNat i)] h = .ret (I r) h∧(((l.drop i).contains (a,a') = false∧r = .negSucc 0) ∨ ((l.drop i).contains (a,a') = true∧∃ m,r = .ofNat m∧m < l.length)):=by
 intro j
 induction j with
 | zero=>
   intro i q hij hq
   obtain ⟨q,rfl⟩ : ∃ q',q = q' + 1:=⟨q - 1,by omega⟩
   have n1 : ilt (.ofNat i) (.ofNat l.length) = false:=ilt_false (by omega)
   have e : (l.drop i).contains (a,a') = false:=by rw [List.drop_eq_nil_of_le (by omega)]; rfl
   refine ⟨.negSucc 0,?_,.inl ⟨e,rfl⟩⟩
   rw [lpk_succ]
   simp -implicitDefEqProofs only [b46_1,↓n1,↓evR]
 | succ j ih=>
   intro i q hij hq
   obtain ⟨q,rfl⟩ : ∃ q',q = q' + 1:=⟨q - 1,by omega⟩
   have hi : i < l.length:=by omega
   obtain ⟨b,o,c,rfl,l1⟩:=txAt w hi
   have n1:=ilt_true hi
   have n2 : Nat.blt i l.length = true:=blt_of hi
   have a1 : ∀ k : V→Res,words.load1 h b (Nat.add o i) k = k (.str l[i].1 l[i].2):=l1
   have n3:=ad_nat (a:=i) (b:=1) (by omega)
   obtain ⟨r,e1,e2⟩:=ih (i:=i + 1) (q:=q) (by omega) (by omega)
   by_cases hb : a = l[i].1∧a' = l[i].2
   · have n4 : seq a a' l[i].1 l[i].2 = true:=by rw [seq_law]; simpa using hb
     have e : (l.drop i).contains (a,a') = true:=by
      rw [List.drop_eq_getElem_cons hi,List.contains_cons,Bool.or_eq_true]
      exact .inl (beq_iff_eq.2 (Prod.ext hb.1 hb.2))
     refine ⟨.ofNat i,?_,.inr ⟨e,i,rfl,hi⟩⟩
     rw [lpk_succ]
     simp -implicitDefEqProofs only [b46_1,↓n1,↓n2,↓a1,↓n4,↓evR]
   · have n4 : seq a a' l[i].1 l[i].2 = false:=by rw [seq_law]; simpa using hb
     have e : (l.drop i).contains (a,a') = (l.drop (i + 1)).contains (a,a'):=by
      rw [List.drop_eq_getElem_cons hi,List.contains_cons]
      have : ((a,a') == l[i]) = false:=by
       rw [beq_eq_false_iff_ne]
       intro e; exact hb ⟨congrArg Prod.fst e,congrArg Prod.snd e⟩
      rw [this,Bool.false_or]
     refine ⟨r,?_,by rw [e]; exact e2⟩
     rw [lpk_succ]
     simp -implicitDefEqProofs only [b46_1,↓n1,↓n2,↓a1,↓n4,↓n3,↓evR]
     exact e1
theorem index_law (hd : 0 < d) {h : Heap} {A : Nat→Prop} {l : List (Nat × Nat)} (w : CellA h A (.sl 1 (txs l)) v) {a a' : Nat} (hl : l.length ≤ 1000000000) (hn : l.length < n) :
 ∃ r,call tabW n d f46 [v,.str a a'] h = .ret (I r) h∧((l.contains (a,a') = false∧r = .negSucc 0) ∨ (l.contains (a,a') = true∧∃ m,r = .ofNat m∧m < l.length)):=by
 obtain ⟨d,rfl⟩ : ∃ d',d = d' + 1:=⟨d - 1,by omega⟩
 have hlen : ∀ k : Nat→Res,lenk v k = k l.length:=fun k=>by rw [w.lenk]; simp [txs]
 obtain ⟨r,e1,e2⟩:=loop46 (n:=n) (cf:=call tabW n d) w (a:=a) (a':=a') hl l.length (i:=0) (q:=n) (by omega) hn
 refine ⟨r,?_,e2⟩
 rw [call46,sh46]
 simp -implicitDefEqProofs only [↓hlen,↓evR]
 exact e1
theorem contains_law (hd : 1 < d) {h : Heap} {A : Nat→Prop} {l : List (Nat × Nat)} (w : CellA h A (.sl 1 (txs l)) v) {a a' : Nat} (hl : l.length ≤ 1000000000) (hn : l.length < n) : call tabW n d f29 [v,.str a a'] h = .ret (.bool (l.contains (a,a'))) h:=by
 obtain ⟨d,rfl⟩ : ∃ d',d = d' + 1:=⟨d - 1,by omega⟩
 obtain ⟨r,e1,⟨e2,rfl⟩ | ⟨e2,m,rfl,_⟩⟩:=index_law (n:=n) (d:=d) (by omega) w (a:=a) (a':=a') hl hn
 · have n1 : ilt (.negSucc 0) (.ofNat 0) = true:=rfl
   rw [call29,e2]
   simp -implicitDefEqProofs only [sh29,↓e1,↓n1,↓evR]
 · have n1 : ilt (.ofNat m) (.ofNat 0) = false:=ilt_false (by omega)
   rw [call29,e2]
   simp -implicitDefEqProofs only [sh29,↓e1,↓n1,↓evR]
theorem idxb_law (h : Heap) (l s : Nat) (k : V→Heap→Res) : (dotIn l s = false∧words.ex .idxb [.str l s,.int .u8 (.ofNat 46)] h k = k (.int .i64 (.negSucc 0)) h) ∨ (dotIn l s = true∧∃ j,j < l∧words.ex .idxb [.str l s,.int .u8 (.ofNat 46)] h k = k (.int .i64 (.ofNat j)) h):=by
 rcases idxb_dot l 0 s (fun i=>k (.int .i64 i) h) with ⟨h1,h2⟩ | ⟨h1,j,_,h3,h4⟩
 · exact .inl ⟨h1,h2⟩
 · exact .inr ⟨h1,j,by omega,h4⟩
theorem dot_at (hd : 1 < d) (h : Heap) (l s : Nat) : ∃ r,call tabW n d f60 [.str l s,.str 1 46] h = .ret (I r) h∧((dotIn l s = false∧r = .negSucc 0) ∨ (dotIn l s = true∧∃ m,r = .ofNat m∧m < l)):=by
 obtain ⟨d,rfl⟩ : ∃ d',d = d' + 1 + 1:=⟨d - 2,by omega⟩
 have z0 : ieq (.ofNat 1) (.ofNat 0) = false:=by rw [ieq_nat]; rfl
 have z1 : words.idxS (.str 1 46) (ik 0) h = fun k=>k (.int .u8 (.ofNat 46)) h:=by funext k; exact idxS_at (by omega) h k
 by_cases hs : 1 = l∧46 = s
 · obtain ⟨rfl,rfl⟩:=hs
   refine ⟨.ofNat 0,?_,.inr ⟨by decide,0,rfl,by omega⟩⟩
   rw [call60]
   simp -implicitDefEqProofs only [sh60,↓z0,↓evR]
 · have n1 : seq 1 46 l s = false:=by rw [seq_law]; simpa using hs
   rcases idxb_law h l s (fun v0 h0=>castI .i64 v0 fun i1=>.ret (I i1) h0) with ⟨h1,h2⟩ | ⟨h1,j,h3,h4⟩
   · refine ⟨.negSucc 0,?_,.inl ⟨h1,rfl⟩⟩
     have c1 : call tabW n (d + 1) f63 [.str l s,.int .u8 (.ofNat 46)] h = .ret (I (.negSucc 0)) h:=by
      rw [call63]
      simp -implicitDefEqProofs only [sh63,↓evR]
      exact h2
     rw [call60]
     simp -implicitDefEqProofs only [sh60,↓z0,↓n1,↓z1,↓c1,↓evR]
   · refine ⟨.ofNat j,?_,.inr ⟨h1,j,rfl,h3⟩⟩
     have c1 : call tabW n (d + 1) f63 [.str l s,.int .u8 (.ofNat 46)] h = .ret (I (.ofNat j)) h:=by
      rw [call63]
      simp -implicitDefEqProofs only [sh63,↓evR]
      exact h4
     rw [call60]
     simp -implicitDefEqProofs only [sh60,↓z0,↓n1,↓z1,↓c1,↓evR]
theorem dot_law (hd : 3 < d) (h : Heap) (l s : Nat) : call tabW n d f28 [.str l s,.str 1 46] h = .ret (.bool (dotIn l s)) h:=by
 obtain ⟨d,rfl⟩ : ∃ d',d = d' + 1 + 1:=⟨d - 2,by omega⟩
 obtain ⟨r,e1,e⟩:=dot_at (n:=n) (d:=d) (by omega) h l s
 have e2 : call tabW n (d + 1) f45 [.str l s,.str 1 46] h = .ret (I r) h:=by
  rw [call45]
  simp -implicitDefEqProofs only [sh45,↓e1,↓evR]
 rcases e with ⟨h1,rfl⟩ | ⟨h1,m,rfl,_⟩
 · have n1 : ilt (.negSucc 0) (.ofNat 0) = true:=rfl
   rw [call28,h1]
   simp -implicitDefEqProofs only [sh28,↓e2,↓n1,↓evR]
 · have n1 : ilt (.ofNat m) (.ofNat 0) = false:=ilt_false (by omega)
   rw [call28,h1]
   simp -implicitDefEqProofs only [sh28,↓e2,↓n1,↓evR]
theorem cut_law (hd : 3 < d) (h : Heap) (l s : Nat) (hl : l ≤ 1000000000) : ∃ a a' b b' t,call tabW n d f47 [.str l s,.str 1 46] h = .ret (.tup [.str a a',.str b b',.bool t]) h:=by
 obtain ⟨d,rfl⟩ : ∃ d',d = d' + 1 + 1:=⟨d - 2,by omega⟩
 obtain ⟨r,e1,e⟩:=dot_at (n:=n) (d:=d) (by omega) h l s
 rcases e with ⟨h1,rfl⟩ | ⟨h1,m,rfl,hm⟩
 · have n1 : ilt (.negSucc 0) (.ofNat 0) = true:=rfl
   have e2 : call tabW n (d + 1) f61 [.str l s,.str 1 46] h = .ret (.tup [.str l s,.str 0 0,.bool false]) h:=by
    rw [call61]
    simp -implicitDefEqProofs only [sh61,↓e1,↓n1,↓evR]
   refine ⟨l,s,0,0,false,?_⟩
   rw [call47]
   simp -implicitDefEqProofs only [sh47,↓e2,↓evR]
 · have n1 : ilt (.ofNat m) (.ofNat 0) = false:=ilt_false (by omega)
   have n2:=ad_nat (a:=m) (b:=1) (by omega)
   have s1 : ∃ x x',∀ k : V→Heap→Res,words.sliceS (.str l s) .none (.some (I (.ofNat m))) h k = k (.str x x') h:=⟨_,_,fun k=>by
    show ifk (Nat.ble 0 m) (ifk (Nat.ble m l) _ .fail) .fail = _
    rw [ble_of (Nat.zero_le _),ble_of (by omega)]
    rfl⟩
   have s2 : ∃ x x',∀ k : V→Heap→Res,words.sliceS (.str l s) (.some (I (.ofNat (m + 1)))) .none h k = k (.str x x') h:=⟨_,_,fun k=>by
    show ifk (Nat.ble (m + 1) l) (ifk (Nat.ble l l) _ .fail) .fail = _
    rw [ble_of (by omega),ble_of (Nat.le_refl _)]
    rfl⟩
   obtain ⟨x,x',s1⟩:=s1
   obtain ⟨y,y',s2⟩:=s2
   have e2 : call tabW n (d + 1) f61 [.str l s,.str 1 46] h = .ret (.tup [.str x x',.str y y',.bool true]) h:=by
    rw [call61]
    simp -implicitDefEqProofs only [sh61,↓e1,↓n1,↓s1,↓n2,↓s2,↓evR]
   refine ⟨x,x',y,y',true,?_⟩
   rw [call47]
   simp -implicitDefEqProofs only [sh47,↓e2,↓evR]
end
end Go.Ev.WCP

/- CompsPlain: declare. -/
namespace Go.Ev.WCP
open Go.Proofs
set_option maxRecDepth 100000
abbrev fault (at_ : Int) (e : Nat) : V:=.iface 65 (.agg 2 [I at_,ik e])
def badTx (l : List (Nat × Nat)) (a a' : Nat) : Bool:=dotIn a a' || l.contains (a,a')
section
variable {n d : Nat} {v v' : V} {lo : Nat}
theorem declare_law (hd : 5 < d) {h : Heap} {l : List (Nat × Nat)} {a a' : Nat} {at_ : Int} (w : OwnT h lo 1 v (txs l)) (hlo : lo ≤ h.nx.val) (hl : l.length ≤ 1000000) (hn : l.length < n) (ha : a' < 256 ^ a) :
 (badTx l a a' = true∧∃ e,(e = 150 ∨ e = 170)∧call tabW n d f27 [v,.str a a',I at_] h = .pan (fault at_ e) h) ∨
 (badTx l a a' = false∧∃ h' b m,call tabW n d f27 [v,.str a a',I at_] h = .ret (.slice b 0 m none 1) h'∧OwnT h' lo 1 (.slice b 0 m none 1) (txs (l ++ [(a,a')]))∧UpBut v h h'∧h.nx.val ≤ b.val):=by
 obtain ⟨d,rfl⟩ : ∃ d',d = d' + 1:=⟨d - 1,by omega⟩
 have e1:=dot_law (n:=n) (d:=d) (by omega) h a a'
 by_cases hx : dotIn a a' = true
 · rw [hx] at e1
   refine .inl ⟨by simp [badTx,hx],150,.inl rfl,?_⟩
   rw [call27]
   simp -implicitDefEqProofs only [sh27,↓e1,↓evR]
 · have hx : dotIn a a' = false:=by simpa using hx
   have e2:=contains_law (n:=n) (d:=d) (by omega) w.cell (a:=a) (a':=a') (by omega) hn
   rw [hx] at e1
   by_cases hy : l.contains (a,a') = true
   · rw [hy] at e2
     refine .inl ⟨by simp only [badTx,hy,Bool.or_true],170,.inr rfl,?_⟩
     rw [call27]
     simp -implicitDefEqProofs only [sh27,↓e1,↓e2,↓evR]
   · have hy : l.contains (a,a') = false:=by simpa using hy
     rw [hy] at e2
     obtain ⟨h1,f1,row,U1,lt1⟩:=new_row h (g:=1) (l:=[.str a a']) rfl (by omega)
     have f1' : ∀ q,words.new h (.arr 1 1 (.lf [.str a a']) .false) q = q h.nx h1:=f1
     have r1 : ∀ q,words.row 1 1 [.str a a'] q = q (.lf [.str a a']):=fun q=>row_one (g:=1) (l:=[.str a a']) rfl q
     obtain ⟨h2,v2,f2,w2,U2,nx2,m,rfl⟩:=app_one (g:=1) (r:=[.s a a']) (w.up U1) (by omega) row rfl rfl (Nat.le_trans hlo U1.nx) (.cons (.s _ _ ha) .nil) (by simp; omega)
     refine .inr ⟨by simp only [badTx,hx,hy,Bool.or_false],h2,h1.nx,m,?_,by simpa [txs] using w2,⟨Nat.le_trans U1.nx U2.nx,fun b hb ho=>(U2.get b (Nat.lt_of_lt_of_le hb U1.nx) ho).trans (U1.get b hb)⟩,U1.nx⟩
     rw [call27]
     simp -implicitDefEqProofs only [sh27,↓e1,↓e2,↓r1,↓f1',↓f2,↓evR]
end
end Go.Ev.WCP

/- CompsPlain: the scope's lists of names; printed by mkE2.py. -/
namespace Go.Ev.WCP
open Go.Proofs
set_option maxRecDepth 100000
structure Sc (h : Heap) (lo : Nat) (s : Bid) (vt vb vr : V) (lt lb lr : List (Nat × Nat)) : Prop where
 row : Row (h.t.get s) 6 [.str 0 0,vt,vb,vr,.nils,.nils]
 t : OwnT h lo 1 vt (txs lt)
 b : OwnT h lo 1 vb (txs lb)
 r : OwnT h lo 1 vr (txs lr)
 tb : Apart vt vb
 tr : Apart vt vr
 br : Apart vb vr
 low : s.val < lo
 nx : lo ≤ h.nx.val
theorem Sc.up {h h' : Heap} {lo : Nat} {s : Bid} {vt vb vr : V} {lt lb lr : List (Nat × Nat)} (S : Sc h lo s vt vb vr lt lb lr) (u : Up h h') : Sc h' lo s vt vb vr lt lb lr:=
 ⟨S.row.later (Nat.lt_of_lt_of_le S.low S.nx) u,S.t.up u,S.b.up u,S.r.up u,S.tb,S.tr,S.br,S.low,Nat.le_trans S.nx u.nx⟩
theorem txs_s (l : List (Nat × Nat)) : ∀ r ∈ txs l,∀ t ∈ r,∃ a a',t = .s a a':=by
 intro r hr t ht
 obtain ⟨x,_,rfl⟩:=List.mem_map.1 hr
 simp at ht
 exact ⟨_,_,ht⟩
theorem sc_t {n d : Nat} (hd : 5 < d) {h : Heap} {lo : Nat} {s : Bid} {vt vb vr : V} {lt lb lr : List (Nat × Nat)} (S : Sc h lo s vt vb vr lt lb lr) {a a' : Nat} {at_ : Int} (hl : lt.length ≤ 1000000) (hn : lt.length < n) (ha : a' < 256 ^ a) :
 (badTx lt a a' = true∧∃ e,(e = 150 ∨ e = 170)∧call tabW n d f27 [vt,.str a a',I at_] h = .pan (fault at_ e) h) ∨
 (badTx lt a a' = false∧∃ h1 b m h2,call tabW n d f27 [vt,.str a a',I at_] h = .ret (.slice b 0 m none 1) h1∧(∀ q : Heap→Res,storek h1 s 1 1 [.slice b 0 m none 1] q = q h2)∧Sc h2 lo s (.slice b 0 m none 1) vb vr (lt ++ [(a,a')]) lb lr ∧
   Old lo s h h2∧(∀ x : Bid,x.val < h.nx.val→x ≠ s→Off vt x.val→h2.t.get x = h.t.get x)∧h.nx.val ≤ b.val):=by
 rcases declare_law (n:=n) (d:=d) hd S.t S.nx hl hn ha (at_:=at_) with h0 | ⟨h0,h1,b,m,e1,w1,U1,hb⟩
 · exact .inl h0
 · have row1 : Row (h1.t.get s) 6 ([.str 0 0] ++ vt :: [vb,vr,.nils,.nils]):=by
    rw [U1.get s (Nat.lt_of_lt_of_le S.low S.nx) (S.t.low (.inl S.low))]; exact S.row
   obtain ⟨h2,e2,row2,u2⟩:=set_one row1 (.slice b 0 m none 1)
   have fr : ∀ x : Bid,x.val < h.nx.val→x ≠ s→Off vt x.val→h2.t.get x = h.t.get x:=fun x hx hs ho=>(u2.get x hs).trans (U1.get x hx ho)
   refine .inr ⟨h0,h1,b,m,h2,e1,e2,⟨row2,w1.keep (by rw [u2.nx]; exact Nat.le_refl _) fun x hx _=>u2.get x (bid_ne (by have:=S.low; omega)),(S.b.but U1 S.tb (txs_s _)).keep (by rw [u2.nx]; exact Nat.le_refl _) fun x hx _=>u2.get x (bid_ne (by have:=S.low; omega)),(S.r.but U1 S.tr (txs_s _)).keep (by rw [u2.nx]; exact Nat.le_refl _) fun x hx _=>u2.get x (bid_ne (by have:=S.low; omega)),(S.b.fresh hb),(S.r.fresh hb),S.br,S.low,?_⟩,⟨?_,fun x hx hs=>?_⟩,fr,hb⟩
   · rw [u2.nx]; exact Nat.le_trans S.nx U1.nx
   · rw [u2.nx]; exact U1.nx
   · exact fr x (Nat.lt_of_lt_of_le hx S.nx) hs (S.t.low (.inl hx))
theorem sc_b {n d : Nat} (hd : 5 < d) {h : Heap} {lo : Nat} {s : Bid} {vt vb vr : V} {lt lb lr : List (Nat × Nat)} (S : Sc h lo s vt vb vr lt lb lr) {a a' : Nat} {at_ : Int} (hl : lb.length ≤ 1000000) (hn : lb.length < n) (ha : a' < 256 ^ a) :
 (badTx lb a a' = true∧∃ e,(e = 150 ∨ e = 170)∧call tabW n d f27 [vb,.str a a',I at_] h = .pan (fault at_ e) h) ∨
 (badTx lb a a' = false∧∃ h1 b m h2,call tabW n d f27 [vb,.str a a',I at_] h = .ret (.slice b 0 m none 1) h1∧(∀ q : Heap→Res,storek h1 s 2 1 [.slice b 0 m none 1] q = q h2)∧Sc h2 lo s vt (.slice b 0 m none 1) vr lt (lb ++ [(a,a')]) lr ∧
   Old lo s h h2∧(∀ x : Bid,x.val < h.nx.val→x ≠ s→Off vb x.val→h2.t.get x = h.t.get x)∧h.nx.val ≤ b.val):=by
 rcases declare_law (n:=n) (d:=d) hd S.b S.nx hl hn ha (at_:=at_) with h0 | ⟨h0,h1,b,m,e1,w1,U1,hb⟩
 · exact .inl h0
 · have row1 : Row (h1.t.get s) 6 ([.str 0 0,vt] ++ vb :: [vr,.nils,.nils]):=by
    rw [U1.get s (Nat.lt_of_lt_of_le S.low S.nx) (S.b.low (.inl S.low))]; exact S.row
   obtain ⟨h2,e2,row2,u2⟩:=set_one row1 (.slice b 0 m none 1)
   have fr : ∀ x : Bid,x.val < h.nx.val→x ≠ s→Off vb x.val→h2.t.get x = h.t.get x:=fun x hx hs ho=>(u2.get x hs).trans (U1.get x hx ho)
   refine .inr ⟨h0,h1,b,m,h2,e1,e2,⟨row2,(S.t.but U1 S.tb.symm (txs_s _)).keep (by rw [u2.nx]; exact Nat.le_refl _) fun x hx _=>u2.get x (bid_ne (by have:=S.low; omega)),w1.keep (by rw [u2.nx]; exact Nat.le_refl _) fun x hx _=>u2.get x (bid_ne (by have:=S.low; omega)),(S.r.but U1 S.br (txs_s _)).keep (by rw [u2.nx]; exact Nat.le_refl _) fun x hx _=>u2.get x (bid_ne (by have:=S.low; omega)),(S.t.fresh hb).symm,S.tr,(S.r.fresh hb),S.low,?_⟩,⟨?_,fun x hx hs=>?_⟩,fr,hb⟩
   · rw [u2.nx]; exact Nat.le_trans S.nx U1.nx
   · rw [u2.nx]; exact U1.nx
   · exact fr x (Nat.lt_of_lt_of_le hx S.nx) hs (S.b.low (.inl hx))
theorem sc_r {n d : Nat} (hd : 5 < d) {h : Heap} {lo : Nat} {s : Bid} {vt vb vr : V} {lt lb lr : List (Nat × Nat)} (S : Sc h lo s vt vb vr lt lb lr) {a a' : Nat} {at_ : Int} (hl : lr.length ≤ 1000000) (hn : lr.length < n) (ha : a' < 256 ^ a) :
 (badTx lr a a' = true∧∃ e,(e = 150 ∨ e = 170)∧call tabW n d f27 [vr,.str a a',I at_] h = .pan (fault at_ e) h) ∨
 (badTx lr a a' = false∧∃ h1 b m h2,call tabW n d f27 [vr,.str a a',I at_] h = .ret (.slice b 0 m none 1) h1∧(∀ q : Heap→Res,storek h1 s 3 1 [.slice b 0 m none 1] q = q h2)∧Sc h2 lo s vt vb (.slice b 0 m none 1) lt lb (lr ++ [(a,a')]) ∧
   Old lo s h h2∧(∀ x : Bid,x.val < h.nx.val→x ≠ s→Off vr x.val→h2.t.get x = h.t.get x)∧h.nx.val ≤ b.val):=by
 rcases declare_law (n:=n) (d:=d) hd S.r S.nx hl hn ha (at_:=at_) with h0 | ⟨h0,h1,b,m,e1,w1,U1,hb⟩
 · exact .inl h0
 · have row1 : Row (h1.t.get s) 6 ([.str 0 0,vt,vb] ++ vr :: [.nils,.nils]):=by
    rw [U1.get s (Nat.lt_of_lt_of_le S.low S.nx) (S.r.low (.inl S.low))]; exact S.row
   obtain ⟨h2,e2,row2,u2⟩:=set_one row1 (.slice b 0 m none 1)
   have fr : ∀ x : Bid,x.val < h.nx.val→x ≠ s→Off vr x.val→h2.t.get x = h.t.get x:=fun x hx hs ho=>(u2.get x hs).trans (U1.get x hx ho)
   refine .inr ⟨h0,h1,b,m,h2,e1,e2,⟨row2,(S.t.but U1 S.tr.symm (txs_s _)).keep (by rw [u2.nx]; exact Nat.le_refl _) fun x hx _=>u2.get x (bid_ne (by have:=S.low; omega)),(S.b.but U1 S.br.symm (txs_s _)).keep (by rw [u2.nx]; exact Nat.le_refl _) fun x hx _=>u2.get x (bid_ne (by have:=S.low; omega)),w1.keep (by rw [u2.nx]; exact Nat.le_refl _) fun x hx _=>u2.get x (bid_ne (by have:=S.low; omega)),S.tb,(S.t.fresh hb).symm,(S.b.fresh hb).symm,S.low,?_⟩,⟨?_,fun x hx hs=>?_⟩,fr,hb⟩
   · rw [u2.nx]; exact Nat.le_trans S.nx U1.nx
   · rw [u2.nx]; exact U1.nx
   · exact fr x (Nat.lt_of_lt_of_le hx S.nx) hs (S.r.low (.inl hx))
end Go.Ev.WCP
