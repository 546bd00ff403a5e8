/- IlC0: texts joined. -/
import Derived.Test.YtobbabhldblljaaGreatDoorEvCutR
/- EVALUATOR: a closed run cut at a call: answers that hold slices of the arguments. -/
namespace Go.Ev
open Go.RowKit
variable {P : Program}
inductive Da where
 | lit (a : Lt)
 | nil
 | cons (a b : Da)
 | agg (n : Nat) (d : Da)
 | sl (g n l : Nat) (c : Option Nat) (s : Nat) (d : Da)
 | ref (i : Nat)
def Da.repF (w : World) (N : Nat) (es : List Value) : Da→List Value→Prop
 | .lit a,xs=>∃ x,xs = [x]∧∀ ρ,VR ρ a.v x
 | .nil,xs=>xs = []
 | .cons a b,xs=>∃ p q,xs = p ++ q∧a.repF w N es p∧b.repF w N es q
 | .agg n d,xs=>∃ cs,xs = [.agg cs]∧d.repF w N es cs.toList∧(∀ x ∈ cs.toList,x.oneCell' = true)∧cs.toList.length = n
 | .sl g n l c s d,xs=>∃ b z S cap ys,N ≤ b∧xs = [.slice (some ⟨b,z,none⟩) l cap]∧(∀ m,c = some m→cap = m)∧(c = none→z + cap * s = S)∧l ≤ cap∧Lies w b z S (n * g) ys∧d.repF w N es ys
 | .ref i,xs=>∃ x,xs = [x]∧es[i]? = some x
theorem VR.sl_fun {ρ : Rho} {b : Bid} {o l s : Nat} {cp : Option Nat} (hs : 0 < s) {x y : Value} (h : VR ρ (.slice b o l cp s) x) (h' : VR ρ (.slice b o l cp s) y) : x = y:=by
 cases h with | slice h1 h2 h3 h4=>
 cases h' with | slice g1 g2 g3 g4=>
 rw [h1] at g1
 cases g1
 cases cp with
 | some n=>rw [h2 n rfl,g2 n rfl]
 | none=>
   have a:=h3 rfl
   have b:=g3 rfl
   have:=Nat.eq_of_mul_eq_mul_right hs (Nat.add_left_cancel (a.trans b.symm))
   rw [this]
noncomputable def Da.mtf (ev : List V) (d : Da) : List V→Heap→(List V→Res)→Res:=
 Da.rec (motive:=fun _=>List V→Heap→(List V→Res)→Res) (fun a l _ k=>unc l fun u l=>a.mk u (k l) .fail) (fun l _ k=>k l)
  (fun _ _ ia ib l h k=>ia l h fun l=>ib l h k)
  (fun m _ ih l h k=>unc l fun u l=>aggk u fun m' us=>ifk (Nat.beq m' m) (ih us h fun r=>nilk' r (k l)) .fail)
  (fun g m len c s _ ih l h k=>unc l fun u l=>slk u (fun b o len' c' s'=>h.getk b fun x=>ifk x.wr (ifk (Nat.beq len' len) (ifk (oeq c' c) (ifk (Nat.beq s' s) (ifk (Nat.blt 0 (Nat.mul m g)) (loadk h b o (Nat.mul m g) fun cells=>ih cells h fun r=>nilk' r (k l)) .fail) .fail) .fail) .fail) .fail) .fail .fail)
  (fun i l _ k=>unc l fun u l=>nthk ev i fun x=>veqk x u (slk u (fun _ _ _ _ s=>ifk (Nat.blt 0 s) (k l) .fail) .fail .fail)) d
theorem Da.mtf_ok {h : Heap} {ρ : Rho} {w : World} {N : Nat} {ev : List V} {es : List Value} (rh : RH P ρ h w) (hN : ∀ c,Wr ρ h c→N ≤ c) (he : VRs ρ ev es) (d : Da) : ∀ {l : List V} {xs : List Value} {k : List V→Res} {r : Res},d.mtf ev l h k = r→r ≠ .fail→VRs ρ l xs →
 ∃ l' p q,xs = p ++ q∧d.repF w N es p∧k l' = r∧VRs ρ l' q:=by
 induction d with
 | lit a=>
   intro l xs k r hh hr hv
   obtain ⟨u,l',rfl,h1⟩:=unc_ok (show unc l _ = r from hh) hr
   cases hv with | cons hx hv=>
   rcases Lt.mk_ok h1 hr hx with ⟨h2,h3⟩ | h2
   · exact ⟨l',[_],_,rfl,⟨_,rfl,h2⟩,h3,hv⟩
   · exact absurd h2.symm hr
 | nil=>
   intro l xs k r hh hr hv
   exact ⟨l,[],xs,rfl,rfl,hh,hv⟩
 | cons a b ia ib=>
   intro l xs k r hh hr hv
   obtain ⟨l',p,q,rfl,h1,h2,h3⟩:=ia (show a.mtf ev l h _ = r from hh) hr hv
   obtain ⟨l'',p',q',rfl,h4,h5,h6⟩:=ib h2 hr h3
   exact ⟨l'',p ++ p',q',by simp,⟨p,p',rfl,h1,h4⟩,h5,h6⟩
 | agg m d ih=>
   intro l xs k r hh hr hv
   obtain ⟨u,l',rfl,h1⟩:=unc_ok (show unc l _ = r from hh) hr
   obtain ⟨m',us,rfl,h2⟩:=aggk_ok h1 hr
   obtain ⟨hm,h3⟩:=ifk_fail h2 hr
   obtain rfl:=Nat.eq_of_beq_eq_true hm
   cases hv with | cons hx hv=>
   cases hx with | agg hc ho hn=>
   obtain ⟨l'',p,q,h4,h5,h6,h7⟩:=ih h3 hr hc
   obtain ⟨rfl,h8⟩:=nilk'_ok h6 hr
   cases h7
   rw [List.append_nil] at h4
   exact ⟨l',[_],_,rfl,⟨_,rfl,h4 ▸ h5,ho,by rw [← hc.len]; exact hn⟩,h8,hv⟩
 | sl g m len c s d ih=>
   intro l xs k r hh hr hv
   obtain ⟨u,l',rfl,h1⟩:=unc_ok (show unc l _ = r from hh) hr
   rcases slk_ok h1 hr with ⟨b,o,len',c',s',rfl,h2⟩ | ⟨_,h2⟩ | ⟨_,h2⟩
   · rw [Heap.getk_eq] at h2
     obtain ⟨e0,h2⟩:=ifk_fail h2 hr
     obtain ⟨e1,h2a⟩:=ifk_fail h2 hr
     obtain ⟨e2,h2b⟩:=ifk_fail h2a hr
     obtain ⟨e3,h2c⟩:=ifk_fail h2b hr
     obtain ⟨e4,h2d⟩:=ifk_fail h2c hr
     obtain rfl:=Nat.eq_of_beq_eq_true e1
     obtain rfl:=oeq_eq e2
     obtain rfl:=Nat.eq_of_beq_eq_true e3
     have e4 : 0 < m * g:=by simpa [Nat.blt_eq] using e4
     cases hv with | cons hx hv=>
     cases hx with | slice hb hc ht hl=>
     obtain ⟨_,cells,cs,el,fz,h5,h6,h7,h8,h9⟩:=loadk_cells h2d hr rh hb
     obtain ⟨ys,g1,g2,g3⟩:=lies_of h9
     obtain ⟨l'',p,q,h10,h11,h12,h13⟩:=ih h5 hr g1
     obtain ⟨rfl,h14⟩:=nilk'_ok h12 hr
     cases h13
     rw [List.append_nil] at h10
     exact ⟨l',[_],_,rfl,⟨_,_,_,_,ys,hN _ ⟨b,_,_,hb,e0⟩,rfl,hc,ht,hl,⟨⟨cs,el,fz,h7,h8,g3⟩,by rw [g2]; exact h6,e4⟩,h10 ▸ h11⟩,h14,hv⟩
   · exact absurd h2.symm hr
   · exact absurd h2.symm hr
 | ref i=>
   intro l xs k r hh hr hv
   obtain ⟨u,l',rfl,h1⟩:=unc_ok (show unc l _ = r from hh) hr
   obtain ⟨x,hx,h2⟩:=nthk_ok h1 hr
   obtain ⟨rfl,h3⟩:=veqk_ok _ h2 hr
   cases hv with | cons hu hv=>
   obtain ⟨y,hy,hxy⟩:=he.at_ i _ hx
   rcases slk_ok h3 hr with ⟨b,o,len',c',s',rfl,h4⟩ | ⟨_,h4⟩ | ⟨_,h4⟩
   · obtain ⟨e1,h5⟩:=ifk_fail h4 hr
     have e1 : 0 < s':=by simpa [Nat.blt_eq] using e1
     obtain rfl:=VR.sl_fun e1 hu hxy
     exact ⟨l',[_],_,rfl,⟨_,rfl,hy⟩,h5,hv⟩
   · exact absurd h4.symm hr
   · exact absurd h4.symm hr
noncomputable def Da.layk (ev : List V) (d : Da) : Heap→(List V→Heap→Res)→Res:=
 Da.rec (motive:=fun _=>Heap→(List V→Heap→Res)→Res) (fun a h k=>k [a.v] h) (fun h k=>k [] h)
  (fun _ _ ia ib h k=>ia h fun l h=>ib h fun m h=>k (l ++ m) h) (fun n _ ih h k=>ih h fun l h=>k [.agg n l] h)
  (fun g n l c s _ ih h k=>ih h fun cells h=>chopk g n 0 cells .e fun t=>h.newk (.arr g n t true) fun b h=>k [.slice b 0 l c s] h)
  (fun i h k=>nthk ev i fun v=>k [v] h) d
theorem Da.layF_ok {w : World} {N : Nat} {ev : List V} {es : List Value} (d : Da) : ∀ {xs : List Value} {h : Heap} {k : List V→Heap→Res} {r : Res} {ρ : Rho},d.layk ev h k = r→r ≠ .fail→d.repF w N es xs→RH P ρ h w→(∀ c,N ≤ c→¬ Wr ρ h c)→VRs ρ ev es →
 ∃ ρ' l h',k l h' = r∧Laid P w N ρ h ρ' h'∧VRs ρ' l xs:=by
 induction d with
 | lit a=>
   intro xs h k r ρ hh hr rp rh nw _
   obtain ⟨x,rfl,hx⟩:=rp
   exact ⟨ρ,_,_,hh,⟨.refl _,rh,Nat.le_refl _,fun _ _=>⟨rfl,rfl⟩,fun _ h=>h⟩,.cons (hx _) .nil⟩
 | nil=>
   intro xs h k r ρ hh hr rp rh nw _
   obtain rfl : xs = []:=rp
   exact ⟨ρ,_,_,hh,⟨.refl _,rh,Nat.le_refl _,fun _ _=>⟨rfl,rfl⟩,fun _ h=>h⟩,.nil⟩
 | cons a b ia ib=>
   intro xs h k r ρ hh hr rp rh nw he
   obtain ⟨p,q,rfl,hp,hq⟩:=rp
   obtain ⟨ρ1,l1,h1,e1,L1,v1⟩:=ia (show a.layk ev h _ = r from hh) hr hp rh nw he
   obtain ⟨ρ2,l2,h2,e2,L2,v2⟩:=ib e1 hr hq L1.rh (fun c hc hw=>nw c hc (L1.wr c hw)) (he.mono L1.le)
   exact ⟨ρ2,_,_,e2,L1.trans L2,(v1.mono L2.le).app v2⟩
 | agg n d ih=>
   intro xs h k r ρ hh hr rp rh nw he
   obtain ⟨cs,rfl,hp,hc,hn⟩:=rp
   obtain ⟨ρ1,l1,h1,e1,L1,v1⟩:=ih (show d.layk ev h _ = r from hh) hr hp rh nw he
   exact ⟨ρ1,_,_,e1,L1,.cons (.agg v1 hc (v1.len.trans hn)) .nil⟩
 | sl g n l c s d ih=>
   intro xs h k r ρ hh hr rp rh nw he
   obtain ⟨b,z,S,cap,ys,hb,rfl,hc,hs,hlc,L,hp⟩:=rp
   obtain ⟨ρ1,l1,h1,e1,L1,v1⟩:=ih (show d.layk ev h _ = r from hh) hr hp rh nw he
   obtain ⟨t,e2,hl,ht⟩:=chopk_ok e1 hr
   rw [Heap.newk_eq] at e2
   have hg : 0 < g:=by have:=L.pos; exact Nat.pos_of_mul_pos_left this
   have L2:=L1.rh.viewN (fun c hc hw=>nw c hc (L1.wr c hw)) hg hl ht hb L v1
   refine ⟨_,_,_,e2,L1.trans L2,.cons ?_ .nil⟩
   have:=VR.slice (ρ:=ρ1.put h1.nx (b,z,S)) (o:=0) (cp:=c) (s:=s) (cap:=cap) (l:=l) (Rho.put_same _ _ _) hc (by simpa using hs) hlc
   simpa using this
 | ref i=>
   intro xs h k r ρ hh hr rp rh nw he
   obtain ⟨x,rfl,hx⟩:=rp
   obtain ⟨v,hv,h2⟩:=nthk_ok (show nthk ev i _ = r from hh) hr
   obtain ⟨y,hy,hvy⟩:=he.at_ i _ hv
   rw [hx] at hy
   cases hy
   exact ⟨ρ,_,_,h2,⟨.refl _,rh,Nat.le_refl _,fun _ _=>⟨rfl,rfl⟩,fun _ h=>h⟩,.cons hvy .nil⟩
def AnsR (P : Program) (G : Gr) (nx : Bid) (f : Nat) (d : Dt) (tp : Bool) (a : Da) : Prop:=∀ (W : World) (args es : List Value),Grd P G nx W→d.repE W args es →
 Calls P f args.toArray W fun e w'=>∃ y xs,e = .returned y∧Below W.heap.size W w'∧a.repF w' W.heap.size es xs∧Outs tp y xs
noncomputable def cutRR (tab : FT) (n m : Nat) (f : Fid) (G : Gr) (nx : Bid) (d : Dt) (tp : Bool) (a : Da) : Res:=
 d.layE ⟨Gr.ht G,nx⟩ fun l ev h=>back1k (call tab n m f l h) (fun v h'=>outk tp v fun l=>a.mtf ev l h' fun l=>nilk' l (.ret (.bool .true) ⟨[],nx⟩)) fun _ _=>.fail
theorem ansR {tab : FT} {G : Gr} {nx : Bid} {f : Fid} {n m : Nat} {d : Dt} {a : Da} {tp : Bool} (ok : TabOk P nx.val tab) (hy : yes (cutRR tab n m f G nx d tp a) = true) (h32 : f.val < 32768:=by decide) : AnsR P G nx f.val d tp a:=by
 intro W args es hW rp
 obtain ⟨ρ0,rh0,hg0⟩:=hW
 have hr:=(yes_fine hy).ne
 obtain ⟨ρ,l,ev,h1,e1,le,rh,nw,vs,ve⟩:=Dt.layE_ok W d rfl hr rp rh0 Gr.no_wr
 rcases back1k_ok e1 hr with ⟨v,h2,e2,e3⟩ | ⟨_,_,_,e3⟩
 · obtain ⟨_,c⟩:=(call_ok ok (n:=n) m f).1 h32 _ _ _ e2 (fine_ret _ _)
   refine (c _ W args vs rh (fun g h=>(hg0 g h).imp fun S hS=>le _ _ hS)).mono fun e w' hc=>?_
   obtain ⟨ρ',y,rfl,hv,rh',hx⟩:=hc
   have hN : ∀ c,Wr ρ' h2 c→W.heap.size ≤ c:=fun c hw=>Nat.le_of_not_lt fun h=>(hx.keep c h (nw c)).2 hw
   have bel : Below W.heap.size W w':=⟨hx.os,hx.tape,hx.output,hx.size,fun k hk=>(hx.keep k hk (nw k)).1⟩
   cases tp with
   | false=>
     obtain ⟨l',p,q,q1,q2,q3,q4⟩:=a.mtf_ok rh' hN (ve.mono hx.le) (show a.mtf ev [v] h2 _ = _ from e3) hr (.cons hv .nil)
     obtain ⟨rfl,_⟩:=nilk'_ok q3 hr
     cases q4
     rw [List.append_nil] at q1
     exact ⟨y,p,rfl,bel,q2,q1.symm⟩
   | true=>
     obtain ⟨l0,rfl,e4⟩:=tupk_ok (show tupk v _ = _ from e3) hr
     cases hv with | tup hv=>
     obtain ⟨l',p,q,q1,q2,q3,q4⟩:=a.mtf_ok rh' hN (ve.mono hx.le) e4 hr hv
     obtain ⟨rfl,_⟩:=nilk'_ok q3 hr
     cases q4
     rw [List.append_nil] at q1
     exact ⟨_,p,rfl,bel,q2,_,rfl,q1⟩
 · exact absurd e3.symm hr
noncomputable def cutRk (G : Gr) (L : List (Dt × Bool × Da)) (l : List V) (h : Heap) (n : Res) : Res:=
 List.rec (motive:=fun _=>Res) n (fun x _ ih=>x.1.mtE l h (fun r ev=>nilk' r (gchk h (x.2.2.layk ev h fun l' h'=>finK x.2.1 l' h') G)) ih) L
theorem cutRk_ok {G : Gr} {L : List (Dt × Bool × Da)} {l : List V} {h : Heap} {n r : Res} (hh : cutRk G L l h n = r) (hr : r ≠ .fail) {ρ : Rho} {w : World} (rh : RH P ρ h w) {xs : List Value} (hv : VRs ρ l xs) :
 (∃ x ∈ L,∃ ev es,x.1.repE w xs es∧VRs ρ ev es∧gchk h (x.2.2.layk ev h fun l' h'=>finK x.2.1 l' h') G = r) ∨ n = r:=by
 induction L with
 | nil=>exact .inr hh
 | cons x L ih=>
   rcases x.1.mtE_ok rh (show x.1.mtE l h _ _ = r from hh) hr hv with h1 | ⟨l',ev,p,q,es,h1,h2,h3,h4,h4e⟩
   · rcases ih h1 with ⟨d',h2,h3⟩ | h2
     · exact .inl ⟨d',by simp [h2],h3⟩
     · exact .inr h2
   · obtain ⟨rfl,h5⟩:=nilk'_ok h3 hr
     cases h4
     rw [List.append_nil] at h1
     exact .inl ⟨x,by simp,ev,es,h1 ▸ h2,h4e,h5⟩
theorem pook_CR {G : Gr} {nx : Bid} {f : Nat} {g : Nat→CF→List V→Heap→Res} {L : List (Dt × Bool × Da)} (hG : G.ok nx = true) (hgid : ∀ g,g < nx.val→(gid g).val = g) (hg : POok P nx.val f (.sh g)) (hf : Enters P f) (y : ∀ x ∈ L,AnsR P G nx f x.1 x.2.1 x.2.2) (h32 : f < 32768:=by decide) : POok P nx.val f (.sh fun m cf l h=>cutRk G L l h (g m cf l h)):=by
 intro m cf hc
 refine .fn ?_ h32
 intro l h r hh hr
 refine ⟨hf,fun ρ w args hl rh hglob=>?_⟩
 rcases cutRk_ok hh hr.ne rh hl with ⟨x,h1,ev,es,h2,he,h3⟩ | h1
 · obtain ⟨h4,h3⟩:=gchk_ok h3 hr.ne
   refine (y x h1 w args es (Grd.of_rh hG hgid rh hglob h4) h2).mono fun e w' hc=>?_
   obtain ⟨yv,xs,rfl,b,rf,ho⟩:=hc
   have rh':=rh.below b
   have nw : ∀ c,w.heap.size ≤ c→¬ Wr ρ h c:=fun c hc hw=>by
    obtain ⟨b',z,S,hb,_⟩:=hw
    have:=rh.lt _ _ _ _ hb
    omega
   obtain ⟨ρ',l',h',e1,La,vs⟩:=Da.layF_ok (N:=w.heap.size) x.2.2 h3 hr.ne rf rh' nw he
   have ext : Ext ρ h w ρ' h' w':=⟨La.le,La.nx,b.os,b.tape,b.output,b.size,fun c hc hn=>⟨b.block c hc,fun hw=>hn (La.wr c hw)⟩,fun b' hb hn=>⟨(La.old b' hb).1.trans hn,(La.old b' hb).2⟩⟩
   unfold Outs at ho
   cases htp : x.2.1 with
   | false=>
     rw [htp] at ho e1
     obtain ⟨v,m',rfl,e2⟩:=unc_ok (show unc l' _ = r from e1) hr.ne
     obtain ⟨rfl,rfl⟩:=nilk'_ok e2 hr.ne
     obtain rfl : xs = [yv]:=by simpa using ho
     cases vs with | cons hv _=>
     exact ⟨ρ',yv,rfl,hv,La.rh,ext⟩
   | true=>
     rw [htp] at ho e1
     obtain ⟨cs,rfl,rfl⟩ : ∃ cs,yv = .tuple cs∧cs.toList = xs:=by simpa using ho
     obtain rfl : Res.ret (.tup l') h' = r:=e1
     exact ⟨ρ',_,rfl,.tup vs,La.rh,ext⟩
 · exact ((hg m cf hc).1 h32 l h r h1 hr).2 ρ w args hl rh hglob
end Go.Ev

/- InlineKnown: data of calls: arguments and answers. -/
namespace Go.Ev.W24
open Go.Proofs
set_option maxRecDepth 1000000
def u6 : Dt:=.sl 2 2 2 .none 2 (.cons (.lit (.str 1 97)) (.cons (.lit (.str 6 125779768604014)) (.cons (.lit (.str 1 98)) (.cons (.lit (.str 6 125779768604014)) (.nil)))))
def u5 : Dt:=.lit (.int .u8 (.ofNat 1))
def u4 : Dt:=.sl 1 1 2 .none 5 (.cons (.lit .any) .nil)
def u8 : Dt:=.cons u5 (.cons (.lit (.str 1 116)) (.cons u4 (.cons (.lit .nils) (.cons (.lit (.int .i64 (.ofNat 217))) (.cons u5 (.cons (.lit (.str 1 116)) (.cons u4 (.cons (.lit .nils) (.cons (.lit (.int .i64 (.ofNat 226))) .nil)))))))))
def u11 : Dt:=.lit (.int .i64 (.ofNat 0))
def u0 : Dt:=.agg 3 (.cons (.lit .nils) (.cons (.sl 6 3 3 .none 6 (.cons (.lit (.str 1 101)) (.cons u6 (.cons (.lit (.bool .true)) (.cons (.lit (.bool .false)) (.cons (.lit (.bool .false)) (.cons (.lit (.int .i64 (.ofNat 5))) (.cons (.lit (.str 1 116)) (.cons u6 (.cons (.lit (.bool .false)) (.cons (.lit (.bool .false)) (.cons (.lit (.bool .true)) (.cons (.lit (.int .i64 (.ofNat 40))) (.cons (.lit (.str 1 111)) (.cons u6 (.cons (.lit (.bool .false)) (.cons (.lit (.bool .true)) (.cons (.lit (.bool .false)) (.cons (.lit (.int .i64 (.ofNat 76))) (.nil)))))))))))))))))))) (.cons (.sl 4 3 3 .none 4 (.cons (.lit (.str 1 116)) (.cons (.sl 5 2 2 .none 5 (.cons (.lit (.int .u8 (.ofNat 3))) (.cons (.lit (.str 0 0)) (.cons (.lit (.int .i64 (.ofNat 1))) (.cons (.lit .nils) (.cons (.lit (.int .i64 (.ofNat 109))) (.cons (.lit (.int .u8 (.ofNat 3))) (.cons (.lit (.str 0 0)) (.cons (.lit (.int .i64 (.ofNat 1))) (.cons (.lit .nils) (.cons (.lit (.int .i64 (.ofNat 112))) (.nil)))))))))))) (.cons (.lit .nils) (.cons (.lit (.int .i64 (.ofNat 107))) (.cons (.lit (.str 1 116)) (.cons (.sl 5 2 2 .none 5 (.cons (.lit (.int .u8 (.ofNat 3))) (.cons (.lit (.str 0 0)) (.cons (.lit (.int .i64 (.ofNat 2))) (.cons (.lit .nils) (.cons (.lit (.int .i64 (.ofNat 118))) (.cons (.lit (.int .u8 (.ofNat 3))) (.cons (.lit (.str 0 0)) (.cons (.lit (.int .i64 (.ofNat 2))) (.cons (.lit .nils) (.cons (.lit (.int .i64 (.ofNat 121))) (.nil)))))))))))) (.cons (.lit .nils) (.cons (.lit (.int .i64 (.ofNat 116))) (.cons (.lit (.str 1 111)) (.cons (.sl 5 2 2 .none 5 (.cons (.lit (.int .u8 (.ofNat 3))) (.cons (.lit (.str 0 0)) (.cons (.lit (.int .i64 (.ofNat 1))) (.cons (.lit .nils) (.cons (.lit (.int .i64 (.ofNat 127))) (.cons (.lit (.int .u8 (.ofNat 3))) (.cons (.lit (.str 0 0)) (.cons (.lit (.int .i64 (.ofNat 1))) (.cons (.lit .nils) (.cons (.lit (.int .i64 (.ofNat 130))) (.nil)))))))))))) (.cons (.sl 5 11 11 .none 5 (.cons u5 (.cons (.lit (.str 1 116)) (.cons (.sl 5 2 2 .none 5 (.cons (.lit (.int .u8 (.ofNat 2))) (.cons (.lit (.str 0 0)) (.cons u11 (.cons (.lit .nils) (.cons (.lit (.int .i64 (.ofNat 138))) (.cons (.lit (.int .u8 (.ofNat 2))) (.cons (.lit (.str 0 0)) (.cons u11 (.cons (.lit .nils) (.cons (.lit (.int .i64 (.ofNat 141))) (.nil)))))))))))) (.cons (.lit .nils) (.cons (.lit (.int .i64 (.ofNat 136))) (.cons u5 (.cons (.lit (.str 1 116)) (.cons (.sl 5 2 2 .none 5 (.cons (.lit (.int .u8 (.ofNat 2))) (.cons (.lit (.str 0 0)) (.cons u11 (.cons (.lit .nils) (.cons (.lit (.int .i64 (.ofNat 147))) (.cons (.lit (.int .u8 (.ofNat 2))) (.cons (.lit (.str 0 0)) (.cons u11 (.cons (.lit .nils) (.cons (.lit (.int .i64 (.ofNat 150))) (.nil)))))))))))) (.cons (.lit .nils) (.cons (.lit (.int .i64 (.ofNat 145))) (.cons u5 (.cons (.lit (.str 1 116)) (.cons (.sl 5 2 2 .none 5 (.cons (.lit (.int .u8 (.ofNat 2))) (.cons (.lit (.str 0 0)) (.cons u11 (.cons (.lit .nils) (.cons (.lit (.int .i64 (.ofNat 156))) (.cons (.lit (.int .u8 (.ofNat 2))) (.cons (.lit (.str 0 0)) (.cons u11 (.cons (.lit .nils) (.cons (.lit (.int .i64 (.ofNat 159))) (.nil)))))))))))) (.cons (.lit .nils) (.cons (.lit (.int .i64 (.ofNat 154))) (.cons u5 (.cons (.lit (.str 1 116)) (.cons (.sl 5 2 2 .none 5 (.cons (.lit (.int .u8 (.ofNat 2))) (.cons (.lit (.str 0 0)) (.cons u11 (.cons (.lit .nils) (.cons (.lit (.int .i64 (.ofNat 165))) (.cons (.lit (.int .u8 (.ofNat 2))) (.cons (.lit (.str 0 0)) (.cons u11 (.cons (.lit .nils) (.cons (.lit (.int .i64 (.ofNat 168))) (.nil)))))))))))) (.cons (.lit .nils) (.cons (.lit (.int .i64 (.ofNat 163))) (.cons u5 (.cons (.lit (.str 1 116)) (.cons (.sl 5 2 2 .none 5 (.cons (.lit (.int .u8 (.ofNat 2))) (.cons (.lit (.str 0 0)) (.cons u11 (.cons (.lit .nils) (.cons (.lit (.int .i64 (.ofNat 174))) (.cons (.lit (.int .u8 (.ofNat 2))) (.cons (.lit (.str 0 0)) (.cons u11 (.cons (.lit .nils) (.cons (.lit (.int .i64 (.ofNat 177))) (.nil)))))))))))) (.cons (.lit .nils) (.cons (.lit (.int .i64 (.ofNat 172))) (.cons u5 (.cons (.lit (.str 1 116)) (.cons (.sl 5 2 2 .none 5 (.cons (.lit (.int .u8 (.ofNat 2))) (.cons (.lit (.str 0 0)) (.cons u11 (.cons (.lit .nils) (.cons (.lit (.int .i64 (.ofNat 183))) (.cons (.lit (.int .u8 (.ofNat 2))) (.cons (.lit (.str 0 0)) (.cons u11 (.cons (.lit .nils) (.cons (.lit (.int .i64 (.ofNat 186))) (.nil)))))))))))) (.cons (.lit .nils) (.cons (.lit (.int .i64 (.ofNat 181))) (.cons u5 (.cons (.lit (.str 1 116)) (.cons (.sl 5 2 2 .none 5 (.cons (.lit (.int .u8 (.ofNat 2))) (.cons (.lit (.str 0 0)) (.cons u11 (.cons (.lit .nils) (.cons (.lit (.int .i64 (.ofNat 192))) (.cons (.lit (.int .u8 (.ofNat 2))) (.cons (.lit (.str 0 0)) (.cons u11 (.cons (.lit .nils) (.cons (.lit (.int .i64 (.ofNat 195))) (.nil)))))))))))) (.cons (.lit .nils) (.cons (.lit (.int .i64 (.ofNat 190))) (.cons u5 (.cons (.lit (.str 1 116)) (.cons (.sl 5 2 2 .none 5 (.cons (.lit (.int .u8 (.ofNat 2))) (.cons (.lit (.str 0 0)) (.cons u11 (.cons (.lit .nils) (.cons (.lit (.int .i64 (.ofNat 201))) (.cons (.lit (.int .u8 (.ofNat 2))) (.cons (.lit (.str 0 0)) (.cons u11 (.cons (.lit .nils) (.cons (.lit (.int .i64 (.ofNat 204))) (.nil)))))))))))) (.cons (.lit .nils) (.cons (.lit (.int .i64 (.ofNat 199))) (.cons u5 (.cons (.lit (.str 1 116)) (.cons (.sl 5 2 2 .none 5 (.cons (.lit (.int .u8 (.ofNat 2))) (.cons (.lit (.str 0 0)) (.cons u11 (.cons (.lit .nils) (.cons (.lit (.int .i64 (.ofNat 210))) (.cons (.lit (.int .u8 (.ofNat 2))) (.cons (.lit (.str 0 0)) (.cons u11 (.cons (.lit .nils) (.cons (.lit (.int .i64 (.ofNat 213))) (.nil)))))))))))) (.cons (.lit .nils) (.cons (.lit (.int .i64 (.ofNat 208))) (.cons u5 (.cons (.lit (.str 1 116)) (.cons (.sl 5 2 2 .none 5 (.cons (.lit (.int .u8 (.ofNat 2))) (.cons (.lit (.str 0 0)) (.cons u11 (.cons (.lit .nils) (.cons (.lit (.int .i64 (.ofNat 219))) (.cons (.lit (.int .u8 (.ofNat 2))) (.cons (.lit (.str 0 0)) (.cons u11 (.cons (.lit .nils) (.cons (.lit (.int .i64 (.ofNat 222))) (.nil)))))))))))) (.cons (.lit .nils) (.cons (.lit (.int .i64 (.ofNat 217))) (.cons u5 (.cons (.lit (.str 1 116)) (.cons (.sl 5 2 2 .none 5 (.cons (.lit (.int .u8 (.ofNat 2))) (.cons (.lit (.str 0 0)) (.cons u11 (.cons (.lit .nils) (.cons (.lit (.int .i64 (.ofNat 228))) (.cons (.lit (.int .u8 (.ofNat 2))) (.cons (.lit (.str 0 0)) (.cons u11 (.cons (.lit .nils) (.cons (.lit (.int .i64 (.ofNat 231))) (.nil)))))))))))) (.cons (.lit .nils) (.cons (.lit (.int .i64 (.ofNat 226))) (.nil))))))))))))))))))))))))))))))))))))))))))))))))))))))))) (.cons (.lit (.int .i64 (.ofNat 125))) (.nil)))))))))))))) (.nil))))
def u12 : Dt:=.cons u5 (.cons (.lit (.str 1 116)) (.cons u4 (.cons (.lit .nils) (.cons (.lit (.int .i64 (.ofNat 208))) u8))))
def u1 : Dt:=.cons u5 (.cons (.lit (.str 1 116)) (.cons u4 (.cons (.lit .nils) (.cons (.lit (.int .i64 (.ofNat 190))) (.cons u5 (.cons (.lit (.str 1 116)) (.cons u4 (.cons (.lit .nils) (.cons (.lit (.int .i64 (.ofNat 199))) u12)))))))))
def u2 : Dt:=.cons u11 (.cons (.agg 4 (.cons (.lit .any) (.cons (.sl 5 2 2 .none 5 (.cons (.lit (.int .u8 (.ofNat 3))) (.cons (.lit .any) (.cons (.lit .any) (.cons (.lit .nils) (.cons (.lit .any) (.cons (.lit (.int .u8 (.ofNat 3))) (.cons (.lit .any) (.cons (.lit .any) (.cons (.lit .nils) (.cons (.lit .any) .nil))))))))))) (.cons (.lit .nils) (.cons (.lit .any) .nil))))) .nil)
def u3 : Dt:=.sl 5 2 2 .none 5 (.cons (.lit (.int .u8 (.ofNat 2))) (.cons (.lit .any) (.cons (.lit .any) (.cons (.lit .any) (.cons (.lit .any) (.cons (.lit (.int .u8 (.ofNat 2))) (.cons (.lit .any) (.cons (.lit .any) (.cons (.lit .any) (.cons (.lit .any) .nil))))))))))
def u13 : Dt:=.cons u5 (.cons (.lit (.str 1 116)) (.cons u4 (.cons (.lit .nils) (.cons (.lit (.int .i64 (.ofNat 181))) u1))))
def u7 : Dt:=.cons u5 (.cons (.lit (.str 1 116)) (.cons u4 (.cons (.lit .nils) (.cons (.lit (.int .i64 (.ofNat 163))) (.cons u5 (.cons (.lit (.str 1 116)) (.cons u4 (.cons (.lit .nils) (.cons (.lit (.int .i64 (.ofNat 172))) u13)))))))))
def u9 : Dt:=.cons (.lit (.int .i64 (.ofNat 125))) .nil
def u10 : Dt:=.ptr 1 1 (.cons (.lit .any) .nil)
def u14 : Dt:=.cons u5 (.cons (.lit (.str 1 116)) (.cons u4 (.cons (.lit .nils) (.cons (.lit (.int .i64 (.ofNat 154))) u7))))
def v3 : Da:=.sl 2 2 2 .none 2 (.cons (.lit (.str 1 97)) (.cons (.lit (.str 6 125779768604014)) (.cons (.lit (.str 1 98)) (.cons (.lit (.str 6 125779768604014)) (.nil)))))
def v1 : Da:=.lit (.int .u8 (.ofNat 1))
def v10 : Da:=.lit (.int .i64 (.ofNat 0))
def v13 : Da:=.lit (.int .i64 (.ofNat 181))
def v11 : Da:=.lit (.int .i64 (.ofNat 190))
def v12 : Da:=.lit (.int .i64 (.ofNat 199))
def v8 : Da:=.lit (.int .i64 (.ofNat 208))
def v7 : Da:=.lit (.int .i64 (.ofNat 217))
def v5 : Da:=.cons (.lit .nils) (.cons (.lit (.int .i64 (.ofNat 226))) (.nil))
def v6 : Da:=.cons (.lit (.int .i64 (.ofNat 125))) (.nil)
def v0 : Da:=.agg 3 (.cons (.lit .nils) (.cons (.sl 6 3 3 .none 6 (.cons (.lit (.str 1 101)) (.cons v3 (.cons (.lit (.bool .true)) (.cons (.lit (.bool .false)) (.cons (.lit (.bool .false)) (.cons (.lit (.int .i64 (.ofNat 5))) (.cons (.lit (.str 1 116)) (.cons v3 (.cons (.lit (.bool .false)) (.cons (.lit (.bool .false)) (.cons (.lit (.bool .true)) (.cons (.lit (.int .i64 (.ofNat 40))) (.cons (.lit (.str 1 111)) (.cons v3 (.cons (.lit (.bool .false)) (.cons (.lit (.bool .true)) (.cons (.lit (.bool .false)) (.cons (.lit (.int .i64 (.ofNat 76))) (.nil)))))))))))))))))))) (.cons (.sl 4 3 3 .none 4 (.cons (.lit (.str 1 116)) (.cons (.sl 5 2 2 .none 5 (.cons (.lit (.int .u8 (.ofNat 3))) (.cons (.lit (.str 0 0)) (.cons (.lit (.int .i64 (.ofNat 1))) (.cons (.lit .nils) (.cons (.lit (.int .i64 (.ofNat 109))) (.cons (.lit (.int .u8 (.ofNat 3))) (.cons (.lit (.str 0 0)) (.cons (.lit (.int .i64 (.ofNat 1))) (.cons (.lit .nils) (.cons (.lit (.int .i64 (.ofNat 112))) (.nil)))))))))))) (.cons (.lit .nils) (.cons (.lit (.int .i64 (.ofNat 107))) (.cons (.lit (.str 1 116)) (.cons (.sl 5 2 2 .none 5 (.cons (.lit (.int .u8 (.ofNat 3))) (.cons (.lit (.str 0 0)) (.cons (.lit (.int .i64 (.ofNat 2))) (.cons (.lit .nils) (.cons (.lit (.int .i64 (.ofNat 118))) (.cons (.lit (.int .u8 (.ofNat 3))) (.cons (.lit (.str 0 0)) (.cons (.lit (.int .i64 (.ofNat 2))) (.cons (.lit .nils) (.cons (.lit (.int .i64 (.ofNat 121))) (.nil)))))))))))) (.cons (.lit .nils) (.cons (.lit (.int .i64 (.ofNat 116))) (.cons (.lit (.str 1 111)) (.cons (.sl 5 2 2 .none 5 (.cons (.lit (.int .u8 (.ofNat 3))) (.cons (.lit (.str 0 0)) (.cons (.lit (.int .i64 (.ofNat 1))) (.cons (.lit .nils) (.cons (.lit (.int .i64 (.ofNat 127))) (.cons (.lit (.int .u8 (.ofNat 3))) (.cons (.lit (.str 0 0)) (.cons (.lit (.int .i64 (.ofNat 1))) (.cons (.lit .nils) (.cons (.lit (.int .i64 (.ofNat 130))) (.nil)))))))))))) (.cons (.sl 5 11 11 .none 5 (.cons v1 (.cons (.lit (.str 1 116)) (.cons (.sl 5 2 2 .none 5 (.cons (.lit (.int .u8 (.ofNat 2))) (.cons (.lit (.str 0 0)) (.cons v10 (.cons (.lit .nils) (.cons (.lit (.int .i64 (.ofNat 138))) (.cons (.lit (.int .u8 (.ofNat 2))) (.cons (.lit (.str 0 0)) (.cons v10 (.cons (.lit .nils) (.cons (.lit (.int .i64 (.ofNat 141))) (.nil)))))))))))) (.cons (.lit .nils) (.cons (.lit (.int .i64 (.ofNat 136))) (.cons v1 (.cons (.lit (.str 1 116)) (.cons (.sl 5 2 2 .none 5 (.cons (.lit (.int .u8 (.ofNat 2))) (.cons (.lit (.str 0 0)) (.cons v10 (.cons (.lit .nils) (.cons (.lit (.int .i64 (.ofNat 147))) (.cons (.lit (.int .u8 (.ofNat 2))) (.cons (.lit (.str 0 0)) (.cons v10 (.cons (.lit .nils) (.cons (.lit (.int .i64 (.ofNat 150))) (.nil)))))))))))) (.cons (.lit .nils) (.cons (.lit (.int .i64 (.ofNat 145))) (.cons v1 (.cons (.lit (.str 1 116)) (.cons (.sl 5 2 2 .none 5 (.cons (.lit (.int .u8 (.ofNat 2))) (.cons (.lit (.str 0 0)) (.cons v10 (.cons (.lit .nils) (.cons (.lit (.int .i64 (.ofNat 156))) (.cons (.lit (.int .u8 (.ofNat 2))) (.cons (.lit (.str 0 0)) (.cons v10 (.cons (.lit .nils) (.cons (.lit (.int .i64 (.ofNat 159))) (.nil)))))))))))) (.cons (.lit .nils) (.cons (.lit (.int .i64 (.ofNat 154))) (.cons v1 (.cons (.lit (.str 1 116)) (.cons (.sl 5 2 2 .none 5 (.cons (.lit (.int .u8 (.ofNat 2))) (.cons (.lit (.str 0 0)) (.cons v10 (.cons (.lit .nils) (.cons (.lit (.int .i64 (.ofNat 165))) (.cons (.lit (.int .u8 (.ofNat 2))) (.cons (.lit (.str 0 0)) (.cons v10 (.cons (.lit .nils) (.cons (.lit (.int .i64 (.ofNat 168))) (.nil)))))))))))) (.cons (.lit .nils) (.cons (.lit (.int .i64 (.ofNat 163))) (.cons v1 (.cons (.lit (.str 1 116)) (.cons (.sl 5 2 2 .none 5 (.cons (.lit (.int .u8 (.ofNat 2))) (.cons (.lit (.str 0 0)) (.cons v10 (.cons (.lit .nils) (.cons (.lit (.int .i64 (.ofNat 174))) (.cons (.lit (.int .u8 (.ofNat 2))) (.cons (.lit (.str 0 0)) (.cons v10 (.cons (.lit .nils) (.cons (.lit (.int .i64 (.ofNat 177))) (.nil)))))))))))) (.cons (.lit .nils) (.cons (.lit (.int .i64 (.ofNat 172))) (.cons v1 (.cons (.lit (.str 1 116)) (.cons (.sl 5 2 2 .none 5 (.cons (.lit (.int .u8 (.ofNat 2))) (.cons (.lit (.str 0 0)) (.cons v10 (.cons (.lit .nils) (.cons (.lit (.int .i64 (.ofNat 183))) (.cons (.lit (.int .u8 (.ofNat 2))) (.cons (.lit (.str 0 0)) (.cons v10 (.cons (.lit .nils) (.cons (.lit (.int .i64 (.ofNat 186))) (.nil)))))))))))) (.cons (.lit .nils) (.cons v13 (.cons v1 (.cons (.lit (.str 1 116)) (.cons (.sl 5 2 2 .none 5 (.cons (.lit (.int .u8 (.ofNat 2))) (.cons (.lit (.str 0 0)) (.cons v10 (.cons (.lit .nils) (.cons (.lit (.int .i64 (.ofNat 192))) (.cons (.lit (.int .u8 (.ofNat 2))) (.cons (.lit (.str 0 0)) (.cons v10 (.cons (.lit .nils) (.cons (.lit (.int .i64 (.ofNat 195))) (.nil)))))))))))) (.cons (.lit .nils) (.cons v11 (.cons v1 (.cons (.lit (.str 1 116)) (.cons (.sl 5 2 2 .none 5 (.cons (.lit (.int .u8 (.ofNat 2))) (.cons (.lit (.str 0 0)) (.cons v10 (.cons (.lit .nils) (.cons (.lit (.int .i64 (.ofNat 201))) (.cons (.lit (.int .u8 (.ofNat 2))) (.cons (.lit (.str 0 0)) (.cons v10 (.cons (.lit .nils) (.cons (.lit (.int .i64 (.ofNat 204))) (.nil)))))))))))) (.cons (.lit .nils) (.cons v12 (.cons v1 (.cons (.lit (.str 1 116)) (.cons (.sl 5 2 2 .none 5 (.cons (.lit (.int .u8 (.ofNat 2))) (.cons (.lit (.str 0 0)) (.cons v10 (.cons (.lit .nils) (.cons (.lit (.int .i64 (.ofNat 210))) (.cons (.lit (.int .u8 (.ofNat 2))) (.cons (.lit (.str 0 0)) (.cons v10 (.cons (.lit .nils) (.cons (.lit (.int .i64 (.ofNat 213))) (.nil)))))))))))) (.cons (.lit .nils) (.cons v8 (.cons v1 (.cons (.lit (.str 1 116)) (.cons (.sl 5 2 2 .none 5 (.cons (.lit (.int .u8 (.ofNat 2))) (.cons (.lit (.str 0 0)) (.cons v10 (.cons (.lit .nils) (.cons (.lit (.int .i64 (.ofNat 219))) (.cons (.lit (.int .u8 (.ofNat 2))) (.cons (.lit (.str 0 0)) (.cons v10 (.cons (.lit .nils) (.cons (.lit (.int .i64 (.ofNat 222))) (.nil)))))))))))) (.cons (.lit .nils) (.cons v7 (.cons v1 (.cons (.lit (.str 1 116)) (.cons (.sl 5 2 2 .none 5 (.cons (.lit (.int .u8 (.ofNat 2))) (.cons (.lit (.str 0 0)) (.cons v10 (.cons (.lit .nils) (.cons (.lit (.int .i64 (.ofNat 228))) (.cons (.lit (.int .u8 (.ofNat 2))) (.cons (.lit (.str 0 0)) (.cons v10 (.cons (.lit .nils) (.cons (.lit (.int .i64 (.ofNat 231))) (.nil)))))))))))) v5)))))))))))))))))))))))))))))))))))))))))))))))))))))) v6)))))))))))) (.nil))))
def v2 : Da:=.cons (.sl 4 2 2 .none 4 (.cons (.lit (.str 1 107)) (.cons (.sl 5 1 1 .none 5 (.cons (.lit (.int .u8 (.ofNat 3))) (.cons (.lit (.str 0 0)) (.cons (.lit (.int .i64 (.ofNat 1))) (.cons (.lit .nils) (.cons v11 (.nil))))))) (.cons (.lit .nils) (.cons (.lit (.int .i64 (.ofNat 188))) (.cons (.lit (.str 1 109)) (.cons (.sl 5 1 1 .none 5 (.cons v1 (.cons (.lit (.str 1 120)) (.cons v10 (.cons (.lit .nils) (.cons (.lit (.int .i64 (.ofNat 196))) (.nil))))))) (.cons (.sl 5 2 2 .none 5 (.cons v1 (.cons (.lit (.str 1 107)) (.cons (.sl 5 1 1 .none 5 (.cons v1 (.cons (.lit (.str 1 120)) (.cons v10 (.cons (.lit .nils) (.cons (.lit (.int .i64 (.ofNat 204))) (.nil))))))) (.cons (.lit .nils) (.cons (.lit (.int .i64 (.ofNat 202))) (.cons v1 (.cons (.lit (.str 1 110)) (.cons (.sl 5 1 1 .none 5 (.cons v1 (.cons (.lit (.str 1 120)) (.cons v10 (.cons (.lit .nils) (.cons (.lit (.int .i64 (.ofNat 210))) (.nil))))))) (.cons (.lit .nils) (.cons v8 (.nil)))))))))))) (.cons (.lit (.int .i64 (.ofNat 194))) (.nil)))))))))) (.nil)
def v4 : Da:=.cons (.lit (.str 1 111)) (.cons v3 (.cons (.lit (.bool .false)) (.cons (.lit (.bool .true)) (.cons (.lit (.bool .false)) (.cons (.lit (.int .i64 (.ofNat 76))) (.cons (.lit (.str 1 110)) (.cons (.sl 2 1 1 .none 2 (.cons (.lit (.str 1 97)) (.cons (.lit (.str 6 125779768604014)) (.nil)))) (.cons (.lit (.bool .true)) (.cons (.lit (.bool .false)) (.cons (.lit (.bool .false)) (.cons (.lit (.int .i64 (.ofNat 129))) (.cons (.lit (.str 1 107)) (.cons (.sl 2 1 1 .none 2 (.cons (.lit (.str 1 97)) (.cons (.lit (.str 1 78)) (.nil)))) (.cons (.lit (.bool .false)) (.cons (.lit (.bool .false)) (.cons (.lit (.bool .true)) (.cons (.lit (.int .i64 (.ofNat 153))) (.cons (.lit (.str 1 109)) (.cons (.sl 2 1 1 .none 2 (.cons (.lit (.str 1 97)) (.cons (.lit (.str 1 78)) (.nil)))) (.cons (.lit (.bool .false)) (.cons (.lit (.bool .true)) (.cons (.lit (.bool .false)) (.cons (.lit (.int .i64 (.ofNat 173))) (.nil))))))))))))))))))))))))
def v9 : Da:=.sl 6 1 1 .none 6 (.cons v1 (.cons (.lit (.str 1 78)) (.cons (.lit (.str 6 125779768604014)) (.cons (.lit .nils) (.cons (.lit .nils) (.cons (.lit (.int .i64 (.ofNat 112))) (.nil)))))))
def dQA : Dt:=.cons (.agg 3 (.cons (.sl 6 1 1 .none 6 (.cons u5 (.cons (.lit (.str 1 78)) (.cons (.lit (.str 6 125779768604014)) (.cons (.lit .nils) (.cons (.lit .nils) (.cons (.lit (.int .i64 (.ofNat 112))) (.nil)))))))) (.cons (.sl 6 6 6 .none 6 (.cons (.lit (.str 1 101)) (.cons u6 (.cons (.lit (.bool .true)) (.cons (.lit (.bool .false)) (.cons (.lit (.bool .false)) (.cons (.lit (.int .i64 (.ofNat 5))) (.cons (.lit (.str 1 116)) (.cons u6 (.cons (.lit (.bool .false)) (.cons (.lit (.bool .false)) (.cons (.lit (.bool .true)) (.cons (.lit (.int .i64 (.ofNat 40))) (.cons (.lit (.str 1 111)) (.cons u6 (.cons (.lit (.bool .false)) (.cons (.lit (.bool .true)) (.cons (.lit (.bool .false)) (.cons (.lit (.int .i64 (.ofNat 76))) (.cons (.lit (.str 1 110)) (.cons (.sl 2 1 1 .none 2 (.cons (.lit (.str 1 97)) (.cons (.lit (.str 6 125779768604014)) (.nil)))) (.cons (.lit (.bool .true)) (.cons (.lit (.bool .false)) (.cons (.lit (.bool .false)) (.cons (.lit (.int .i64 (.ofNat 129))) (.cons (.lit (.str 1 107)) (.cons (.sl 2 1 1 .none 2 (.cons (.lit (.str 1 97)) (.cons (.lit (.str 1 78)) (.nil)))) (.cons (.lit (.bool .false)) (.cons (.lit (.bool .false)) (.cons (.lit (.bool .true)) (.cons (.lit (.int .i64 (.ofNat 153))) (.cons (.lit (.str 1 109)) (.cons (.sl 2 1 1 .none 2 (.cons (.lit (.str 1 97)) (.cons (.lit (.str 1 78)) (.nil)))) (.cons (.lit (.bool .false)) (.cons (.lit (.bool .true)) (.cons (.lit (.bool .false)) (.cons (.lit (.int .i64 (.ofNat 173))) (.nil)))))))))))))))))))))))))))))))))))))) (.cons (.sl 4 2 2 .none 4 (.cons (.lit (.str 1 107)) (.cons (.sl 5 1 1 .none 5 (.cons (.lit (.int .u8 (.ofNat 3))) (.cons (.lit (.str 0 0)) (.cons (.lit (.int .i64 (.ofNat 1))) (.cons (.lit .nils) (.cons (.lit (.int .i64 (.ofNat 190))) (.nil))))))) (.cons (.lit .nils) (.cons (.lit (.int .i64 (.ofNat 188))) (.cons (.lit (.str 1 109)) (.cons (.sl 5 1 1 .none 5 (.cons u5 (.cons (.lit (.str 1 120)) (.cons u11 (.cons (.lit .nils) (.cons (.lit (.int .i64 (.ofNat 196))) (.nil))))))) (.cons (.sl 5 2 2 .none 5 (.cons u5 (.cons (.lit (.str 1 107)) (.cons (.sl 5 1 1 .none 5 (.cons u5 (.cons (.lit (.str 1 120)) (.cons u11 (.cons (.lit .nils) (.cons (.lit (.int .i64 (.ofNat 204))) (.nil))))))) (.cons (.lit .nils) (.cons (.lit (.int .i64 (.ofNat 202))) (.cons u5 (.cons (.lit (.str 1 110)) (.cons (.sl 5 1 1 .none 5 (.cons u5 (.cons (.lit (.str 1 120)) (.cons u11 (.cons (.lit .nils) (.cons (.lit (.int .i64 (.ofNat 210))) (.nil))))))) (.cons (.lit .nils) (.cons (.lit (.int .i64 (.ofNat 208))) (.nil)))))))))))) (.cons (.lit (.int .i64 (.ofNat 194))) (.nil)))))))))) (.nil))))) .nil
def aQA : Da:=.cons (.agg 3 (.cons v9 (.cons (.sl 6 5 5 .none 6 (.cons (.lit (.str 1 101)) (.cons v3 (.cons (.lit (.bool .true)) (.cons (.lit (.bool .false)) (.cons (.lit (.bool .false)) (.cons (.lit (.int .i64 (.ofNat 5))) v4))))))) v2))) (.cons v10 (.nil))
def dQB : Dt:=.cons u0 .nil
def aQB : Da:=.cons v0 (.cons v10 (.nil))
def dQC : Dt:=.cons (.agg 3 (.cons (.lit .nils) (.cons (.sl 6 3 3 .none 6 (.cons (.lit (.str 1 101)) (.cons u6 (.cons (.lit (.bool .true)) (.cons (.lit (.bool .false)) (.cons (.lit (.bool .false)) (.cons (.lit (.int .i64 (.ofNat 5))) (.cons (.lit (.str 1 116)) (.cons u6 (.cons (.lit (.bool .false)) (.cons (.lit (.bool .false)) (.cons (.lit (.bool .true)) (.cons (.lit (.int .i64 (.ofNat 40))) (.cons (.lit (.str 1 111)) (.cons u6 (.cons (.lit (.bool .false)) (.cons (.lit (.bool .true)) (.cons (.lit (.bool .false)) (.cons (.lit (.int .i64 (.ofNat 76))) (.nil)))))))))))))))))))) (.cons (.sl 4 1 1 .none 4 (.cons (.lit (.str 1 111)) (.cons (.sl 5 2 2 .none 5 (.cons u5 (.cons (.lit (.str 1 120)) (.cons u11 (.cons (.lit .nils) (.cons (.lit (.int .i64 (.ofNat 109))) (.cons u5 (.cons (.lit (.str 1 121)) (.cons u11 (.cons (.lit .nils) (.cons (.lit (.int .i64 (.ofNat 112))) (.nil)))))))))))) (.cons (.sl 5 1 1 .none 5 (.cons (.lit (.int .u8 (.ofNat 2))) (.cons (.lit (.str 1 101)) (.cons (.sl 5 2 2 .none 5 (.cons u5 (.cons (.lit (.str 1 120)) (.cons u11 (.cons (.lit .nils) (.cons (.lit (.int .i64 (.ofNat 121))) (.cons u5 (.cons (.lit (.str 1 121)) (.cons u11 (.cons (.lit .nils) (.cons (.lit (.int .i64 (.ofNat 124))) (.nil)))))))))))) (.cons (.lit .nils) (.cons (.lit (.int .i64 (.ofNat 118))) (.nil))))))) (.cons (.lit (.int .i64 (.ofNat 107))) (.nil)))))) (.nil))))) .nil
def aQC : Da:=.cons (.agg 3 (.cons (.lit .nils) (.cons (.lit .nils) (.cons (.lit .nils) (.nil))))) (.cons v11 (.nil))
def dPA : Dt:=.cons (.lit (.str 106 338439369758615969795310991976160247512001964719051088205349400103299303619034003721784846545723893749682438008843720345465007944429904167849306487273482330579835131788601124229844716187194474133479686768791335464453226931203472651990652072776727138433396)) .nil
def aPA : Da:=.cons (.agg 3 (.cons v9 (.cons (.sl 6 6 6 .none 6 (.cons (.lit (.str 1 101)) (.cons v3 (.cons (.lit (.bool .true)) (.cons (.lit (.bool .false)) (.cons (.lit (.bool .false)) (.cons (.lit (.int .i64 (.ofNat 5))) (.cons (.lit (.str 1 116)) (.cons v3 (.cons (.lit (.bool .false)) (.cons (.lit (.bool .false)) (.cons (.lit (.bool .true)) (.cons (.lit (.int .i64 (.ofNat 40))) v4))))))))))))) v2))) .nil
def dPB : Dt:=.cons (.lit (.str 127 126624153672987642460253699586015274970965130343694598806411104973104516684175190064791049050882286812826020509949058640992966948094282439603562511151721578270560153540916750729416968297836049355669132377851137007076210563700074090533696220876937032311369627524798894636735706414807873065176442677928994932)) .nil
def aPB : Da:=.cons v0 .nil
def dPC : Dt:=.cons (.lit (.str 20 263538457545779784869643597407471614707751200879)) .nil
def aPC : Da:=.cons (.agg 3 (.cons (.lit .nils) (.cons (.sl 6 3 3 .none 6 (.cons (.lit (.str 1 101)) (.cons v3 (.cons (.lit (.bool .true)) (.cons (.lit (.bool .false)) (.cons (.lit (.bool .false)) (.cons (.lit (.int .i64 (.ofNat 5))) (.cons (.lit (.str 1 116)) (.cons v3 (.cons (.lit (.bool .false)) (.cons (.lit (.bool .false)) (.cons (.lit (.bool .true)) (.cons (.lit (.int .i64 (.ofNat 40))) (.cons (.lit (.str 1 111)) (.cons v3 (.cons (.lit (.bool .false)) (.cons (.lit (.bool .true)) (.cons (.lit (.bool .false)) (.cons (.lit (.int .i64 (.ofNat 76))) (.nil)))))))))))))))))))) (.cons (.sl 4 1 1 .none 4 (.cons (.lit (.str 1 111)) (.cons (.sl 5 2 2 .none 5 (.cons v1 (.cons (.lit (.str 1 120)) (.cons v10 (.cons (.lit .nils) (.cons (.lit (.int .i64 (.ofNat 109))) (.cons v1 (.cons (.lit (.str 1 121)) (.cons v10 (.cons (.lit .nils) (.cons (.lit (.int .i64 (.ofNat 112))) (.nil)))))))))))) (.cons (.sl 5 1 1 .none 5 (.cons (.lit (.int .u8 (.ofNat 2))) (.cons (.lit (.str 1 101)) (.cons (.sl 5 2 2 .none 5 (.cons v1 (.cons (.lit (.str 1 120)) (.cons v10 (.cons (.lit .nils) (.cons (.lit (.int .i64 (.ofNat 121))) (.cons v1 (.cons (.lit (.str 1 121)) (.cons v10 (.cons (.lit .nils) (.cons (.lit (.int .i64 (.ofNat 124))) (.nil)))))))))))) (.cons (.lit .nils) (.cons (.lit (.int .i64 (.ofNat 118))) (.nil))))))) (.cons (.lit (.int .i64 (.ofNat 107))) (.nil)))))) (.nil))))) .nil
def dB9_0 : Dt:=.cons u0 (.nil)
def aB9_0 : Da:=.cons (.sl 1 3 3 .none 1 (.cons (.sl 1 1 1 .none 1 (.cons (.lit (.str 1 101)) (.nil))) (.cons (.sl 1 1 1 .none 1 (.cons (.lit (.str 1 116)) (.nil))) (.cons (.sl 1 1 1 .none 1 (.cons (.lit (.str 1 111)) (.nil))) (.nil))))) (.cons v10 (.cons v10 (.nil)))
def dB44_10 : Dt:=.cons u10 (.cons (.agg 4 (.cons (.lit (.str 1 111)) (.cons u4 (.cons (.sl 5 1 1 .none 5 (.cons u5 (.cons (.lit (.str 1 116)) (.cons u3 (.cons (.lit .nils) (.cons (.lit .any) .nil)))))) u9)))) u2)
def aB44_10 : Da:=.cons (.agg 4 (.cons (.lit (.str 1 111)) (.cons (.ref 0) (.cons (.lit .nils) v6)))) .nil
def dB44_9 : Dt:=.cons u10 (.cons (.agg 4 (.cons (.lit (.str 1 111)) (.cons u4 (.cons (.sl 5 2 2 .none 5 (.cons u5 (.cons (.lit (.str 1 116)) (.cons u3 (.cons (.lit .nils) (.cons (.lit .any) (.cons u5 (.cons (.lit (.str 1 116)) (.cons u4 (.cons (.lit .nils) (.cons (.lit (.int .i64 (.ofNat 226))) .nil))))))))))) u9)))) u2)
def aB44_9 : Da:=.cons (.agg 4 (.cons (.lit (.str 1 111)) (.cons (.ref 0) (.cons (.sl 5 1 1 .none 5 (.cons v1 (.cons (.lit (.str 1 116)) (.cons (.ref 3) v5)))) v6)))) .nil
def dB44_8 : Dt:=.cons u10 (.cons (.agg 4 (.cons (.lit (.str 1 111)) (.cons u4 (.cons (.sl 5 3 3 .none 5 (.cons u5 (.cons (.lit (.str 1 116)) (.cons u3 (.cons (.lit .nils) (.cons (.lit .any) u8)))))) u9)))) u2)
def aB44_8 : Da:=.cons (.agg 4 (.cons (.lit (.str 1 111)) (.cons (.ref 0) (.cons (.sl 5 2 2 .none 5 (.cons v1 (.cons (.lit (.str 1 116)) (.cons (.ref 3) (.cons (.lit .nils) (.cons v7 (.cons v1 (.cons (.lit (.str 1 116)) (.cons (.ref 4) v5))))))))) v6)))) .nil
def dB44_7 : Dt:=.cons u10 (.cons (.agg 4 (.cons (.lit (.str 1 111)) (.cons u4 (.cons (.sl 5 4 4 .none 5 (.cons u5 (.cons (.lit (.str 1 116)) (.cons u3 (.cons (.lit .nils) (.cons (.lit .any) u12)))))) u9)))) u2)
def aB44_7 : Da:=.cons (.agg 4 (.cons (.lit (.str 1 111)) (.cons (.ref 0) (.cons (.sl 5 3 3 .none 5 (.cons v1 (.cons (.lit (.str 1 116)) (.cons (.ref 3) (.cons (.lit .nils) (.cons v8 (.cons v1 (.cons (.lit (.str 1 116)) (.cons (.ref 4) (.cons (.lit .nils) (.cons v7 (.cons v1 (.cons (.lit (.str 1 116)) (.cons (.ref 5) v5)))))))))))))) v6)))) .nil
def dB44_6 : Dt:=.cons u10 (.cons (.agg 4 (.cons (.lit (.str 1 111)) (.cons u4 (.cons (.sl 5 5 5 .none 5 (.cons u5 (.cons (.lit (.str 1 116)) (.cons u3 (.cons (.lit .nils) (.cons (.lit .any) (.cons u5 (.cons (.lit (.str 1 116)) (.cons u4 (.cons (.lit .nils) (.cons (.lit (.int .i64 (.ofNat 199))) u12))))))))))) u9)))) u2)
def aB44_6 : Da:=.cons (.agg 4 (.cons (.lit (.str 1 111)) (.cons (.ref 0) (.cons (.sl 5 4 4 .none 5 (.cons v1 (.cons (.lit (.str 1 116)) (.cons (.ref 3) (.cons (.lit .nils) (.cons v12 (.cons v1 (.cons (.lit (.str 1 116)) (.cons (.ref 4) (.cons (.lit .nils) (.cons v8 (.cons v1 (.cons (.lit (.str 1 116)) (.cons (.ref 5) (.cons (.lit .nils) (.cons v7 (.cons v1 (.cons (.lit (.str 1 116)) (.cons (.ref 6) v5))))))))))))))))))) v6)))) .nil
def dB44_5 : Dt:=.cons u10 (.cons (.agg 4 (.cons (.lit (.str 1 111)) (.cons u4 (.cons (.sl 5 6 6 .none 5 (.cons u5 (.cons (.lit (.str 1 116)) (.cons u3 (.cons (.lit .nils) (.cons (.lit .any) u1)))))) u9)))) u2)
def aB44_5 : Da:=.cons (.agg 4 (.cons (.lit (.str 1 111)) (.cons (.ref 0) (.cons (.sl 5 5 5 .none 5 (.cons v1 (.cons (.lit (.str 1 116)) (.cons (.ref 3) (.cons (.lit .nils) (.cons v11 (.cons v1 (.cons (.lit (.str 1 116)) (.cons (.ref 4) (.cons (.lit .nils) (.cons v12 (.cons v1 (.cons (.lit (.str 1 116)) (.cons (.ref 5) (.cons (.lit .nils) (.cons v8 (.cons v1 (.cons (.lit (.str 1 116)) (.cons (.ref 6) (.cons (.lit .nils) (.cons v7 (.cons v1 (.cons (.lit (.str 1 116)) (.cons (.ref 7) v5)))))))))))))))))))))))) v6)))) .nil
def dB44_4 : Dt:=.cons u10 (.cons (.agg 4 (.cons (.lit (.str 1 111)) (.cons u4 (.cons (.sl 5 7 7 .none 5 (.cons u5 (.cons (.lit (.str 1 116)) (.cons u3 (.cons (.lit .nils) (.cons (.lit .any) u13)))))) u9)))) u2)
def aB44_4 : Da:=.cons (.agg 4 (.cons (.lit (.str 1 111)) (.cons (.ref 0) (.cons (.sl 5 6 6 .none 5 (.cons v1 (.cons (.lit (.str 1 116)) (.cons (.ref 3) (.cons (.lit .nils) (.cons v13 (.cons v1 (.cons (.lit (.str 1 116)) (.cons (.ref 4) (.cons (.lit .nils) (.cons v11 (.cons v1 (.cons (.lit (.str 1 116)) (.cons (.ref 5) (.cons (.lit .nils) (.cons v12 (.cons v1 (.cons (.lit (.str 1 116)) (.cons (.ref 6) (.cons (.lit .nils) (.cons v8 (.cons v1 (.cons (.lit (.str 1 116)) (.cons (.ref 7) (.cons (.lit .nils) (.cons v7 (.cons v1 (.cons (.lit (.str 1 116)) (.cons (.ref 8) v5))))))))))))))))))))))))))))) v6)))) .nil
def dB44_3 : Dt:=.cons u10 (.cons (.agg 4 (.cons (.lit (.str 1 111)) (.cons u4 (.cons (.sl 5 8 8 .none 5 (.cons u5 (.cons (.lit (.str 1 116)) (.cons u3 (.cons (.lit .nils) (.cons (.lit .any) (.cons u5 (.cons (.lit (.str 1 116)) (.cons u4 (.cons (.lit .nils) (.cons (.lit (.int .i64 (.ofNat 172))) u13))))))))))) u9)))) u2)
def aB44_3 : Da:=.cons (.agg 4 (.cons (.lit (.str 1 111)) (.cons (.ref 0) (.cons (.sl 5 7 7 .none 5 (.cons v1 (.cons (.lit (.str 1 116)) (.cons (.ref 3) (.cons (.lit .nils) (.cons (.lit (.int .i64 (.ofNat 172))) (.cons v1 (.cons (.lit (.str 1 116)) (.cons (.ref 4) (.cons (.lit .nils) (.cons v13 (.cons v1 (.cons (.lit (.str 1 116)) (.cons (.ref 5) (.cons (.lit .nils) (.cons v11 (.cons v1 (.cons (.lit (.str 1 116)) (.cons (.ref 6) (.cons (.lit .nils) (.cons v12 (.cons v1 (.cons (.lit (.str 1 116)) (.cons (.ref 7) (.cons (.lit .nils) (.cons v8 (.cons v1 (.cons (.lit (.str 1 116)) (.cons (.ref 8) (.cons (.lit .nils) (.cons v7 (.cons v1 (.cons (.lit (.str 1 116)) (.cons (.ref 9) v5)))))))))))))))))))))))))))))))))) v6)))) .nil
def dB44_2 : Dt:=.cons u10 (.cons (.agg 4 (.cons (.lit (.str 1 111)) (.cons u4 (.cons (.sl 5 9 9 .none 5 (.cons u5 (.cons (.lit (.str 1 116)) (.cons u3 (.cons (.lit .nils) (.cons (.lit .any) u7)))))) u9)))) u2)
def aB44_2 : Da:=.cons (.agg 4 (.cons (.lit (.str 1 111)) (.cons (.ref 0) (.cons (.sl 5 8 8 .none 5 (.cons v1 (.cons (.lit (.str 1 116)) (.cons (.ref 3) (.cons (.lit .nils) (.cons (.lit (.int .i64 (.ofNat 163))) (.cons v1 (.cons (.lit (.str 1 116)) (.cons (.ref 4) (.cons (.lit .nils) (.cons (.lit (.int .i64 (.ofNat 172))) (.cons v1 (.cons (.lit (.str 1 116)) (.cons (.ref 5) (.cons (.lit .nils) (.cons v13 (.cons v1 (.cons (.lit (.str 1 116)) (.cons (.ref 6) (.cons (.lit .nils) (.cons v11 (.cons v1 (.cons (.lit (.str 1 116)) (.cons (.ref 7) (.cons (.lit .nils) (.cons v12 (.cons v1 (.cons (.lit (.str 1 116)) (.cons (.ref 8) (.cons (.lit .nils) (.cons v8 (.cons v1 (.cons (.lit (.str 1 116)) (.cons (.ref 9) (.cons (.lit .nils) (.cons v7 (.cons v1 (.cons (.lit (.str 1 116)) (.cons (.ref 10) v5))))))))))))))))))))))))))))))))))))))) v6)))) .nil
def dB44_1 : Dt:=.cons u10 (.cons (.agg 4 (.cons (.lit (.str 1 111)) (.cons u4 (.cons (.sl 5 10 10 .none 5 (.cons u5 (.cons (.lit (.str 1 116)) (.cons u3 (.cons (.lit .nils) (.cons (.lit .any) u14)))))) u9)))) u2)
def aB44_1 : Da:=.cons (.agg 4 (.cons (.lit (.str 1 111)) (.cons (.ref 0) (.cons (.sl 5 9 9 .none 5 (.cons v1 (.cons (.lit (.str 1 116)) (.cons (.ref 3) (.cons (.lit .nils) (.cons (.lit (.int .i64 (.ofNat 154))) (.cons v1 (.cons (.lit (.str 1 116)) (.cons (.ref 4) (.cons (.lit .nils) (.cons (.lit (.int .i64 (.ofNat 163))) (.cons v1 (.cons (.lit (.str 1 116)) (.cons (.ref 5) (.cons (.lit .nils) (.cons (.lit (.int .i64 (.ofNat 172))) (.cons v1 (.cons (.lit (.str 1 116)) (.cons (.ref 6) (.cons (.lit .nils) (.cons v13 (.cons v1 (.cons (.lit (.str 1 116)) (.cons (.ref 7) (.cons (.lit .nils) (.cons v11 (.cons v1 (.cons (.lit (.str 1 116)) (.cons (.ref 8) (.cons (.lit .nils) (.cons v12 (.cons v1 (.cons (.lit (.str 1 116)) (.cons (.ref 9) (.cons (.lit .nils) (.cons v8 (.cons v1 (.cons (.lit (.str 1 116)) (.cons (.ref 10) (.cons (.lit .nils) (.cons v7 (.cons v1 (.cons (.lit (.str 1 116)) (.cons (.ref 11) v5)))))))))))))))))))))))))))))))))))))))))))) v6)))) .nil
def dB44_0 : Dt:=.cons u10 (.cons (.agg 4 (.cons (.lit (.str 1 111)) (.cons u4 (.cons (.sl 5 11 11 .none 5 (.cons u5 (.cons (.lit (.str 1 116)) (.cons u3 (.cons (.lit .nils) (.cons (.lit .any) (.cons u5 (.cons (.lit (.str 1 116)) (.cons u4 (.cons (.lit .nils) (.cons (.lit (.int .i64 (.ofNat 145))) u14))))))))))) u9)))) u2)
def aB44_0 : Da:=.cons (.agg 4 (.cons (.lit (.str 1 111)) (.cons (.ref 0) (.cons (.sl 5 10 10 .none 5 (.cons v1 (.cons (.lit (.str 1 116)) (.cons (.ref 3) (.cons (.lit .nils) (.cons (.lit (.int .i64 (.ofNat 145))) (.cons v1 (.cons (.lit (.str 1 116)) (.cons (.ref 4) (.cons (.lit .nils) (.cons (.lit (.int .i64 (.ofNat 154))) (.cons v1 (.cons (.lit (.str 1 116)) (.cons (.ref 5) (.cons (.lit .nils) (.cons (.lit (.int .i64 (.ofNat 163))) (.cons v1 (.cons (.lit (.str 1 116)) (.cons (.ref 6) (.cons (.lit .nils) (.cons (.lit (.int .i64 (.ofNat 172))) (.cons v1 (.cons (.lit (.str 1 116)) (.cons (.ref 7) (.cons (.lit .nils) (.cons v13 (.cons v1 (.cons (.lit (.str 1 116)) (.cons (.ref 8) (.cons (.lit .nils) (.cons v11 (.cons v1 (.cons (.lit (.str 1 116)) (.cons (.ref 9) (.cons (.lit .nils) (.cons v12 (.cons v1 (.cons (.lit (.str 1 116)) (.cons (.ref 10) (.cons (.lit .nils) (.cons v8 (.cons v1 (.cons (.lit (.str 1 116)) (.cons (.ref 11) (.cons (.lit .nils) (.cons v7 (.cons v1 (.cons (.lit (.str 1 116)) (.cons (.ref 12) v5))))))))))))))))))))))))))))))))))))))))))))))))) v6)))) .nil
def L5 : List (Dt × Bool × Da):=[(dQA,true,aQA),(dQB,true,aQB),(dQC,true,aQC)]
def L6 : List (Dt × Bool × Da):=[(dPA,false,aPA),(dPB,false,aPB),(dPC,false,aPC)]
def L9 : List (Dt × Bool × Da):=[(dB9_0,true,aB9_0)]
def L44 : List (Dt × Bool × Da):=[(dB44_10,false,aB44_10),(dB44_9,false,aB44_9),(dB44_8,false,aB44_8),(dB44_7,false,aB44_7),(dB44_6,false,aB44_6),(dB44_5,false,aB44_5),(dB44_4,false,aB44_4),(dB44_3,false,aB44_3),(dB44_2,false,aB44_2),(dB44_1,false,aB44_1),(dB44_0,false,aB44_0)]
end Go.Ev.W24
