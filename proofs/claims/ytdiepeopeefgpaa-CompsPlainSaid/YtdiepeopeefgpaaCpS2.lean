/- CpS2: texts joined. -/
import Derived.Test.YtdiepeopeefgpaaEvWCPSh1
import Derived.Test.YtdiepeopeefgpaaEvAnn
import Derived.Below
import Derived.Test.YtdiepeopeefgpaaEvRules
/- CompsPlain: the table of functions. -/
namespace Go.Ev.WCP
open Go.Proofs
set_option maxRecDepth 100000
noncomputable section
abbrev e3tabA : PO:=.sh (sh3 words)
abbrev e4tabA : PO:=.sh (sh4 words)
abbrev e5tabA : PO:=.sh (sh5 words)
abbrev e6tabA : PO:=.sh (sh6 words)
abbrev e7tabA : PO:=.sh (sh7 words)
abbrev e8tabA : PO:=.sh (sh8 words)
abbrev e9tabA : PO:=.sh (sh9 words)
abbrev e10tabA : PO:=.sh (sh10 words)
abbrev e11tabA : PO:=.sh (sh11 words)
abbrev e12tabA : PO:=.sh (sh12 words)
abbrev e13tabA : PO:=.sh (sh13 words)
abbrev e14tabA : PO:=.sh (sh14 words)
abbrev e15tabA : PO:=.sh (sh15 words)
abbrev e16tabA : PO:=.sh (sh16 words)
abbrev e17tabA : PO:=.sh (sh17 words)
abbrev e18tabA : PO:=.sh (sh18 words)
abbrev e19tabA : PO:=.sh (sh19 words)
abbrev e20tabA : PO:=.sh (sh20 words)
abbrev e21tabA : PO:=.sh (sh21 words)
abbrev e22tabA : PO:=.sh (sh22 words)
abbrev e23tabA : PO:=.sh (sh23 words)
abbrev e24tabA : PO:=.sh (sh24 words)
abbrev e25tabA : PO:=.sh (sh25 words)
abbrev e26tabA : PO:=.sh (sh26 words)
abbrev e27tabA : PO:=.sh (sh27 words)
abbrev e28tabA : PO:=.sh (sh28 words)
abbrev e29tabA : PO:=.sh (sh29 words)
abbrev e30tabA : PO:=.sh (sh30 words)
abbrev e31tabA : PO:=.sh (sh31 words)
abbrev e32tabA : PO:=.sh (sh32 words)
abbrev e33tabA : PO:=.sh (sh33 words)
abbrev e34tabA : PO:=.sh (sh34 words)
abbrev e35tabA : PO:=.sh (sh35 words)
abbrev e36tabA : PO:=.sh (sh36 words)
abbrev e37tabA : PO:=.sh (sh37 words)
abbrev e38tabA : PO:=.sh (sh38 words)
abbrev e39tabA : PO:=.sh (sh39 words)
abbrev e40tabA : PO:=.sh (sh40 words)
abbrev e41tabA : PO:=.sh (sh41 words)
abbrev e42tabA : PO:=.sh (sh42 words)
abbrev e43tabA : PO:=.sh (sh43 words)
abbrev e44tabA : PO:=.sh (sh44 words)
abbrev e45tabA : PO:=.sh (sh45 words)
abbrev e46tabA : PO:=.sh (sh46 words)
abbrev e47tabA : PO:=.sh (sh47 words)
abbrev e48tabA : PO:=.sh (sh48 words)
abbrev e49tabA : PO:=.sh (sh49 words)
abbrev e50tabA : PO:=.sh (sh50 words)
abbrev e51tabA : PO:=.sh (sh51 words)
abbrev e52tabA : PO:=.sh (sh52 words)
abbrev e53tabA : PO:=.sh (sh53 words)
abbrev e54tabA : PO:=.sh (sh54 words)
abbrev e55tabA : PO:=.sh (sh55 words)
abbrev e56tabA : PO:=.sh (sh56 words)
abbrev e57tabA : PO:=.sh (sh57 words)
abbrev e59tabA : PO:=.sh (sh59 words)
abbrev e60tabA : PO:=.sh (sh60 words)
abbrev e61tabA : PO:=.sh (sh61 words)
abbrev e62tabA : PO:=.sh (sh62 words)
abbrev e63tabA : PO:=.sh (sh63 words)
abbrev e65tabA : PO:=.sh (sh65 words)
def tabAz1 : Go.Ev.N PO:=⟨.no,.no,.no,.no,.no,.no,.no,.no,.no,.no,.no,.no,.no,.no,.no,.no⟩
def tabAz2 : Go.Ev.N (Go.Ev.N PO):=⟨tabAz1,tabAz1,tabAz1,tabAz1,tabAz1,tabAz1,tabAz1,tabAz1,tabAz1,tabAz1,tabAz1,tabAz1,tabAz1,tabAz1,tabAz1,tabAz1⟩
def tabAz3 : Go.Ev.N (Go.Ev.N (Go.Ev.N PO)):=⟨tabAz2,tabAz2,tabAz2,tabAz2,tabAz2,tabAz2,tabAz2,tabAz2,tabAz2,tabAz2,tabAz2,tabAz2,tabAz2,tabAz2,tabAz2,tabAz2⟩
def tabA1_000 : Go.Ev.N PO:=⟨.no,.no,.no,e3tabA,e4tabA,e5tabA,e6tabA,e7tabA,e8tabA,e9tabA,e10tabA,e11tabA,e12tabA,e13tabA,e14tabA,e15tabA⟩
def tabA1_001 : Go.Ev.N PO:=⟨e16tabA,e17tabA,e18tabA,e19tabA,e20tabA,e21tabA,e22tabA,e23tabA,e24tabA,e25tabA,e26tabA,e27tabA,e28tabA,e29tabA,e30tabA,e31tabA⟩
def tabA1_002 : Go.Ev.N PO:=⟨e32tabA,e33tabA,e34tabA,e35tabA,e36tabA,e37tabA,e38tabA,e39tabA,e40tabA,e41tabA,e42tabA,e43tabA,e44tabA,e45tabA,e46tabA,e47tabA⟩
def tabA1_003 : Go.Ev.N PO:=⟨e48tabA,e49tabA,e50tabA,e51tabA,e52tabA,e53tabA,e54tabA,e55tabA,e56tabA,e57tabA,.no,e59tabA,e60tabA,e61tabA,e62tabA,e63tabA⟩
def tabA1_004 : Go.Ev.N PO:=⟨.no,e65tabA,.no,.no,.no,.no,.no,.no,.no,.no,.no,.no,.no,.no,.no,.no⟩
def tabA2_00 : Go.Ev.N (Go.Ev.N PO):=⟨tabA1_000,tabA1_001,tabA1_002,tabA1_003,tabA1_004,tabAz1,tabAz1,tabAz1,tabAz1,tabAz1,tabAz1,tabAz1,tabAz1,tabAz1,tabAz1,tabAz1⟩
def tabA3_0 : Go.Ev.N (Go.Ev.N (Go.Ev.N PO)):=⟨tabA2_00,tabAz2,tabAz2,tabAz2,tabAz2,tabAz2,tabAz2,tabAz2,tabAz2,tabAz2,tabAz2,tabAz2,tabAz2,tabAz2,tabAz2,tabAz2⟩
def tabA : FT:=⟨tabA3_0,tabAz3,tabAz3,tabAz3,tabAz3,tabAz3,tabAz3,tabAz3,tabAz3,tabAz3,tabAz3,tabAz3,tabAz3,tabAz3,tabAz3,tabAz3⟩
theorem tabAOk : TabOk Try.prog 0 tabA:=TabOk.of2 (l:=[(f3,e3tabA),(f4,e4tabA),(f5,e5tabA),(f6,e6tabA),(f7,e7tabA),(f8,e8tabA),(f9,e9tabA),(f10,e10tabA),(f11,e11tabA),(f12,e12tabA),(f13,e13tabA),(f14,e14tabA),(f15,e15tabA),(f16,e16tabA),(f17,e17tabA),(f18,e18tabA),(f19,e19tabA),(f20,e20tabA),(f21,e21tabA),(f22,e22tabA),(f23,e23tabA),(f24,e24tabA),(f25,e25tabA),(f26,e26tabA),(f27,e27tabA),(f28,e28tabA),(f29,e29tabA),(f30,e30tabA),(f31,e31tabA),(f32,e32tabA),(f33,e33tabA),(f34,e34tabA),(f35,e35tabA),(f36,e36tabA),(f37,e37tabA),(f38,e38tabA),(f39,e39tabA),(f40,e40tabA),(f41,e41tabA),(f42,e42tabA),(f43,e43tabA),(f44,e44tabA),(f45,e45tabA),(f46,e46tabA),(f47,e47tabA),(f48,e48tabA),(f49,e49tabA),(f50,e50tabA),(f51,e51tabA),(f52,e52tabA),(f53,e53tabA),(f54,e54tabA),(f55,e55tabA),(f56,e56tabA),(f57,e57tabA),(f59,e59tabA),(f60,e60tabA),(f61,e61tabA),(f62,e62tabA),(f63,e63tabA),(f65,e65tabA)]) (by kernel_rfl) (OkL.cons (po3) (OkL.cons (po4) (OkL.cons (po5) (OkL.cons (po6) (OkL.cons (po7) (OkL.cons (po8) (OkL.cons (po9) (OkL.cons (po10) (OkL.cons (po11) (OkL.cons (po12) (OkL.cons (po13) (OkL.cons (po14) (OkL.cons (po15) (OkL.cons (po16) (OkL.cons (po17) (OkL.cons (po18) (OkL.cons (po19) (OkL.cons (po20) (OkL.cons (po21) (OkL.cons (po22) (OkL.cons (po23) (OkL.cons (po24) (OkL.cons (po25) (OkL.cons (po26) (OkL.cons (po27) (OkL.cons (po28) (OkL.cons (po29) (OkL.cons (po30) (OkL.cons (po31) (OkL.cons (po32) (OkL.cons (po33) (OkL.cons (po34) (OkL.cons (po35) (OkL.cons (po36) (OkL.cons (po37) (OkL.cons (po38) (OkL.cons (po39) (OkL.cons (po40) (OkL.cons (po41) (OkL.cons (po42) (OkL.cons (po43) (OkL.cons (po44) (OkL.cons (po45) (OkL.cons (po46) (OkL.cons (po47) (OkL.cons (po48) (OkL.cons (po49) (OkL.cons (po50) (OkL.cons (po51) (OkL.cons (po52) (OkL.cons (po53) (OkL.cons (po54) (OkL.cons (po55) (OkL.cons (po56) (OkL.cons (po57) (OkL.cons (po59) (OkL.cons (po60) (OkL.cons (po61) (OkL.cons (po62) (OkL.cons (po63) (OkL.cons (po65) (.nil))))))))))))))))))))))))))))))))))))))))))))))))))))))))))))))
end
end Go.Ev.WCP

/- EVALUATOR: a call out of a memory of which nothing is known. -/
namespace Go.Ev
open Go.RowKit
variable {P : Program}
theorem RH.below {ρ : Rho} {h : Heap} {w w' : World} (r : RH P ρ h w) (b : Below w.heap.size w w') : RH P ρ h w' where
 lt b' c z S hb:=Nat.lt_of_lt_of_le (r.lt b' c z S hb) b.size
 fresh:=r.fresh
 inj:=r.inj
 arr b' c z S g n t ro hb ht:=by
  obtain ⟨cs,ha⟩:=r.arr b' c z S g n t ro hb ht
  obtain ⟨el,fz,h1,h2⟩:=ha.at_
  exact ⟨cs,ha.pos,⟨el,fz,by rw [b.block c (r.lt _ _ _ _ hb)]; exact h1,h2⟩,ha.size,ha.fits,ha.cells⟩
 ob b' c z S x hb ht:=by
  obtain ⟨o,h1,h2,h3⟩:=r.ob b' c z S x hb ht
  exact ⟨o,by rw [b.block c (r.lt _ _ _ _ hb)]; exact h1,h2,h3⟩
 itr p c z S m s q l hb ht:=(r.itr p c z S m s q l hb ht).stay fun k hk=>b.block k hk
theorem came_of {ρ : Rho} {h : Heap} {w w' : World} (r : RH P ρ h w) {v : V} {y : Value} (hv : VR ρ v y) {e : Ending} (he : e = .returned y∧Below w.heap.size w w') : Came P ρ h w (.ret v h) e w':=by
 obtain ⟨rfl,b⟩:=he
 exact ⟨ρ,y,rfl,hv,r.below b,.refl _,Nat.le_refl _,b.os,b.tape,b.output,b.size,fun c hc hn=>⟨b.block c hc,hn⟩,fun _ _ hb=>⟨hb,rfl⟩⟩
open Classical in
noncomputable def voidRho (ng : Nat) : Rho:=fun b=>if b.val < ng then some (b.val,0,0) else none
theorem HT.get_nil (b : Bid) : HT.get [] b = .none:=HT.get_empty b
theorem void_rh {w : World} {nx : Bid} (hn : nx.val ≤ w.heap.size) : RH P (voidRho nx.val) ⟨[],nx⟩ w:=by
 refine ⟨fun b c z S h=>?_,fun b hb=>⟨?_,HT.get_nil b⟩,fun b b' c z S z' S' hb=>(by rw [show (Heap.mk [] nx).t.get b = .none from HT.get_nil b] at hb; cases hb),fun b c z S g n t ro _ h=>?_,fun b c z S x _ h=>?_,fun p c z S m s q l _ h=>absurd ((HT.get_nil p).symm.trans h) (by intro e; cases e)⟩
 · unfold voidRho at h
   split at h
   · cases h; omega
   · cases h
 · unfold voidRho
   rw [if_neg]
   simpa using hb
 · exact absurd ((HT.get_nil b).symm.trans h) (by intro e; cases e)
 · exact absurd ((HT.get_nil b).symm.trans h) (by intro e; cases e)
theorem void_glob {ng : Nat} (hg : ∀ g,g < ng→(gid g).val = g) : GlobR (voidRho ng) ng:=by
 intro g h
 exact ⟨0,by unfold voidRho; rw [hg g h,if_pos h]⟩
theorem void_wr {nx : Bid} (c : Nat) : ¬ Wr (voidRho nx.val) ⟨[],nx⟩ c:=by
 rintro ⟨b,z,S,_,h⟩
 rw [show (Heap.mk [] nx).t.get b = .none from HT.get_nil b] at h
 cases h
def Yes0 (P : Program) (ng f : Nat) (args : List Value) : Prop:=∀ W : World,ng ≤ W.heap.size→Calls P f args.toArray W fun e w'=>e = .returned (.bool true)∧Below W.heap.size W w'
theorem yes0 {tab : FT} {nx : Bid} {f : Fid} {n d : Nat} {l : List V} {args : List Value} (ok : TabOk P nx.val tab) (hy : yes (call tab n d f l ⟨[],nx⟩) = true) (hg : ∀ g,g < nx.val→(gid g).val = g) (hl : ∀ ρ,VRs ρ l args) (h32 : f.val < 32768:=by decide) : Yes0 P nx.val f.val args:=by
 intro W hW
 obtain ⟨_,c⟩:=(call_ok ok (n:=n) d f).1 h32 _ _ _ rfl (yes_fine hy)
 refine (c _ W args (hl _) (void_rh hW) (void_glob hg)).mono fun e w' hc=>?_
 obtain ⟨_,ρ',y,rfl,hy,_,hx⟩:=yes_came hy hc
 cases hy
 exact ⟨rfl,hx.os,hx.tape,hx.output,hx.size,fun k hk=>(hx.keep k hk (void_wr k)).1⟩
theorem glob_size {ρ : Rho} {h : Heap} {w : World} {ng : Nat} (rh : RH P ρ h w) (hg : GlobR ρ ng) : ng ≤ w.heap.size:=by
 cases ng with
 | zero=>exact Nat.zero_le _
 | succ g=>
   obtain ⟨S,h1⟩:=hg g (by omega)
   exact rh.lt _ _ _ _ h1
noncomputable def orcY (l : List V) (h : Heap) : Res:=nilk' l (.ret (.bool .true) h)
theorem fnok_Y {ng f : Nat} (hf : Enters P f) (y : Yes0 P ng f []) (h32 : f < 32768:=by decide) : CallOk P ng f orcY:=by
 refine .fn ?_ h32
 intro l h r hh hr
 refine ⟨hf,fun ρ w args hl rh hg=>?_⟩
 obtain ⟨rfl,h3⟩:=nilk'_ok hh hr.ne
 cases hl
 subst h3
 exact (y w (glob_size rh hg)).mono fun e w' hc=>came_of rh (.bool true) hc
theorem enters_of {f : Nat} {fn : Func} (hf : P.funcs[f]? = some fn) (hb : fn.body.isSome = true) (hn : (fn.name == "runtime.NumGoroutine") = false) : Enters P f:=by
 obtain ⟨c,hc⟩:=Option.isSome_iff_exists.1 hb
 exact ⟨fn,c,hf,hc,hn⟩
inductive Pa where
 | str (l n : Nat)
 | int (k : IntKind) (n : Int)
def Pa.v : Pa→V
 | .str l n=>.str l n
 | .int k n=>.int k n
noncomputable def Pa.at (p : Pa) (v : V) (y n : Res) : Res:=
 Pa.rec (motive:=fun _=>Res) (fun a b=>strk v fun a' b'=>ifk (Nat.beq a' a) (ifk (Nat.beq b' b) y n) n) (fun k z=>intk v fun k' z'=>ifk (Nat.beq (kno k') (kno k)) (ifk (ieq z' z) y n) n) p
theorem Pa.vr (p : Pa) {ρ ρ' : Rho} {x : Value} (h : VR ρ p.v x) : VR ρ' p.v x:=by
 cases p with
 | str a b=>cases h with | str h1 h2=>exact .str h1 h2
 | int k z=>cases h; exact .int k z
end Go.Ev

/- EVALUATOR: calls with known data as arguments, reached through slices and pointers. -/
namespace Go.Ev
open Go.RowKit
variable {P : Program}
inductive Lt where
 | int (k : IntKind) (n : Int)
 | str (l n : Nat)
 | bool (b : Bool)
 | nils
 | nilp
def Lt.v : Lt→V
 | .int k n=>.int k n
 | .str l n=>.str l n
 | .bool b=>.bool b
 | .nils=>.nils
 | .nilp=>.nilp
noncomputable def Lt.mk (a : Lt) (v : V) (y n : Res) : Res:=
 Lt.rec (motive:=fun _=>Res) (fun k z=>intk v fun k' z'=>ifk (Nat.beq (kno k') (kno k)) (ifk (ieq z' z) y n) n) (fun a b=>strk v fun a' b'=>ifk (Nat.beq a' a) (ifk (Nat.beq b' b) y n) n)
  (fun b=>boolk v fun b'=>ifk b' (ifk b y n) (ifk b n y)) (slk v (fun _ _ _ _ _=>n) y n) (pnk v fun b=>ifk b y n) a
inductive Dt where
 | lit (a : Lt)
 | nil
 | cons (a b : Dt)
 | agg (n : Nat) (d : Dt)
 | sl (g n l : Nat) (c : Option Nat) (s : Nat) (d : Dt)
 | ptr (g n : Nat) (d : Dt)
structure Lies (w : World) (c z S m : Nat) (ys : List Value) : Prop where
 at_ : ∃ cs el fz,w.heap[c]? = some (.cells cs el fz)∧cs.size = S∧∀ i y,ys[i]? = some y→cs[z + i]? = some y∧y.oneCell' = true
 len : ys.length = m
 pos : 0 < m
def Dt.rep (w : World) : Dt→List Value→Prop
 | .lit a,xs=>∃ x,xs = [x]∧∀ ρ,VR ρ a.v x
 | .nil,xs=>xs = []
 | .cons a b,xs=>∃ p q,xs = p ++ q∧a.rep w p∧b.rep w q
 | .agg n d,xs=>∃ cs,xs = [.agg cs]∧d.rep w cs.toList∧(∀ x ∈ cs.toList,x.oneCell' = true)∧cs.toList.length = n
 | .sl g n l c s d,xs=>∃ b z S cap ys,xs = [.slice (some ⟨b,z,none⟩) l cap]∧(∀ m,c = some m→cap = m)∧(c = none→z + cap * s = S)∧l ≤ cap∧Lies w b z S (n * g) ys∧d.rep w ys
 | .ptr g n d,xs=>∃ b z S ys,xs = [.pointer (some ⟨b,z,none⟩)]∧Lies w b z S (n * g) ys∧d.rep w ys
theorem VRs.len {ρ : Rho} : ∀ {l : List V} {xs : List Value},VRs ρ l xs→l.length = xs.length
 | [],_,h=>by cases h; rfl
 | _ :: _,_,h=>by cases h with | cons h1 h2=>simp [VRs.len h2]
theorem VRs.app {ρ : Rho} : ∀ {l m : List V} {xs ys : List Value},VRs ρ l xs→VRs ρ m ys→VRs ρ (l ++ m) (xs ++ ys)
 | [],_,_,_,h,h'=>by cases h; exact h'
 | _ :: _,_,_,_,h,h'=>by cases h with | cons h1 h2=>exact .cons h1 (VRs.app h2 h')
theorem VRs.at_ {ρ : Rho} : ∀ {l : List V} {xs : List Value},VRs ρ l xs→∀ (i : Nat) v,l[i]? = some v→∃ x,xs[i]? = some x∧VR ρ v x
 | [],_,_,i,v,h=>by simp at h
 | _ :: _,_,h,0,v,h'=>by cases h with | cons h1 h2=>simp at h'; subst h'; exact ⟨_,by simp,h1⟩
 | _ :: _,_,h,i + 1,v,h'=>by cases h with | cons h1 h2=>simpa using VRs.at_ h2 i v (by simpa using h')
theorem RH.view {ρ : Rho} {h : Heap} {w : World} (r : RH P ρ h w) (nw : ∀ c,¬ Wr ρ h c) {g n : Nat} (hg : 0 < g) {cells : List V} {t : T} (hl : cells.length = n * g)
 (ht : ∀ j,t.get j = if 0 ≤ j∧j < 0 + n then some ((cells.drop ((j - 0) * g)).take g) else T.e.get j) {c z S : Nat} {ys : List Value} (L : Lies w c z S (n * g) ys) (v : VRs ρ cells ys) :
 ρ.le (ρ.put h.nx (c,z,S))∧RH P (ρ.put h.nx (c,z,S)) (h.new (.arr g n t true) h.nx.nxt) w∧∀ c',¬ Wr (ρ.put h.nx (c,z,S)) (h.new (.arr g n t true) h.nx.nxt) c':=by
 have hv:=h.nx.nxt_val
 have hf:=r.fresh h.nx (Nat.le_refl _)
 have hle:=Rho.le_put (ρ:=ρ) hf.1 (c,z,S)
 have get_nx : (h.new (.arr g n t true) h.nx.nxt).t.get h.nx = .arr g n t true:=by simp only [Heap.new]; rw [HT.get_set]
 have get_old : ∀ b,b ≠ h.nx→(h.new (.arr g n t true) h.nx.nxt).t.get b = h.t.get b:=fun b hb=>by simp only [Heap.new]; rw [HT.get_set_ne _ hb]
 obtain ⟨cs,el,fz,h1,h2,h3⟩:=L.at_
 have hnw : ∀ c',¬ Wr (ρ.put h.nx (c,z,S)) (h.new (.arr g n t true) h.nx.nxt) c':=by
  rintro c' ⟨b,z',S',hb,hwr⟩
  by_cases e : b = h.nx
  · subst e; rw [get_nx] at hwr; cases hwr
  · rw [Rho.put_ne e] at hb; rw [get_old b e] at hwr; exact nw c' ⟨b,z',S',hb,hwr⟩
 refine ⟨hle,⟨?_,?_,?_,?_,?_,?_⟩,hnw⟩
 · intro b c' z' S' hb
   by_cases e : b = h.nx
   · subst e; rw [Rho.put_same] at hb; cases hb; exact (Array.getElem?_eq_some_iff.1 h1).1
   · rw [Rho.put_ne e] at hb; exact r.lt _ _ _ _ hb
 · intro b hb
   have hb' : h.nx.nxt.val ≤ b.val:=hb
   have e : b ≠ h.nx:=by rintro rfl; omega
   rw [Rho.put_ne e,get_old b e]
   exact r.fresh b (by omega)
 · intro b b' c' z1 S1 z2 S2 hw _ hb _
   exact absurd ⟨b,z1,S1,hb,hw⟩ (hnw c')
 · intro b c' z' S' g' n' t' ro' hb hx
   by_cases e : b = h.nx
   · subst e
     rw [get_nx] at hx; cases hx
     rw [Rho.put_same] at hb; cases hb
     have hlen:=v.len
     refine ⟨cs,hg,⟨el,fz,h1,fun h=>by cases h⟩,h2,?_,fun j ch hj=>?_⟩
     · have hp:=L.pos
       have : (n * g - 1) < ys.length:=by rw [L.len]; omega
       obtain ⟨h4,_⟩:=h3 (n * g - 1) ys[n * g - 1] (by simp [this])
       have:=(Array.getElem?_eq_some_iff.1 h4).1
       omega
     · rw [ht] at hj
       split at hj
       · rename_i hjn
         cases hj
         have hj' : j < n:=by omega
         have hm : (j + 1) * g ≤ n * g:=Nat.mul_le_mul_right g hj'
         rw [Nat.succ_mul] at hm
         refine ⟨hj',by simp only [Nat.sub_zero,List.length_take,List.length_drop]; omega,fun i u hi=>?_⟩
         rw [List.getElem?_take] at hi
         split at hi
         · rw [List.getElem?_drop] at hi
           obtain ⟨x,h5,h6⟩:=v.at_ _ _ hi
           obtain ⟨h7,h8⟩:=h3 _ _ h5
           refine ⟨x,?_,h6.mono hle,h8⟩
           rw [← h7]; congr 1; simp only [Nat.sub_zero]; omega
         · cases hi
       · simp [T.get] at hj
   · rw [Rho.put_ne e] at hb
     rw [get_old b e] at hx
     obtain ⟨cs',ha⟩:=r.arr _ _ _ _ _ _ _ _ hb hx
     exact ⟨cs',ha.mono hle rfl⟩
 · intro b c' z' S' x hb hx
   by_cases e : b = h.nx
   · subst e; rw [get_nx] at hx; cases hx
   · rw [Rho.put_ne e] at hb
     rw [get_old b e] at hx
     obtain ⟨o,h4,h5,h6⟩:=r.ob _ _ _ _ _ hb hx
     exact ⟨o,h4,h5.mono hle,h6⟩
 · intro p c' z' S' m s q l hb hx
   by_cases e : p = h.nx
   · subst e; rw [get_nx] at hx; cases hx
   · rw [Rho.put_ne e] at hb
     rw [get_old p e] at hx
     exact (r.itr _ _ _ _ _ _ _ _ hb hx).mono hle
end Go.Ev

/- CompsPlain: works(), run by the kernel, as a table entry; the calls of the other functions. -/
namespace Go.Ev.WCP
open Go.Proofs
set_option maxRecDepth 1000000
abbrev nx0 : Bid:=⟨0,.d0,.d0,.d0,.d0⟩
theorem nx0g : ∀ g,g < nx0.val→(gid g).val = g:=by decide
theorem worksR : yes (call tabA 1000000 300 f5 [] ⟨[],nx0⟩) = true:=by kernel_rfl
theorem worksY : Yes0 Try.prog 0 5 []:=yes0 tabAOk worksR nx0g fun _=>.nil
theorem enters5 : Enters Try.prog 5:=enters_of Try.func5 (by kernel_rfl) (by decide +kernel)
noncomputable def tabW : FT:=tabA.put f5 (.orc orcY)
theorem tabWOk : TabOk Try.prog 0 tabW:=tabAOk.put (fnok_Y enters5 worksY)
theorem call3 (n d : Nat) (l : List V) (h : Heap) : call tabW n (d + 1) f3 l h = sh3 words n (call tabW n d) l h:=by kernel_rfl
theorem call6 (n d : Nat) (l : List V) (h : Heap) : call tabW n (d + 1) f6 l h = sh6 words n (call tabW n d) l h:=by kernel_rfl
theorem call4 (n d : Nat) (l : List V) (h : Heap) : call tabW n (d + 1) f4 l h = sh4 words n (call tabW n d) l h:=by kernel_rfl
theorem call7 (n d : Nat) (l : List V) (h : Heap) : call tabW n (d + 1) f7 l h = sh7 words n (call tabW n d) l h:=by kernel_rfl
theorem call8 (n d : Nat) (l : List V) (h : Heap) : call tabW n (d + 1) f8 l h = sh8 words n (call tabW n d) l h:=by kernel_rfl
theorem call9 (n d : Nat) (l : List V) (h : Heap) : call tabW n (d + 1) f9 l h = sh9 words n (call tabW n d) l h:=by kernel_rfl
theorem call10 (n d : Nat) (l : List V) (h : Heap) : call tabW n (d + 1) f10 l h = sh10 words n (call tabW n d) l h:=by kernel_rfl
theorem call13 (n d : Nat) (l : List V) (h : Heap) : call tabW n (d + 1) f13 l h = sh13 words n (call tabW n d) l h:=by kernel_rfl
theorem call14 (n d : Nat) (l : List V) (h : Heap) : call tabW n (d + 1) f14 l h = sh14 words n (call tabW n d) l h:=by kernel_rfl
theorem call15 (n d : Nat) (l : List V) (h : Heap) : call tabW n (d + 1) f15 l h = sh15 words n (call tabW n d) l h:=by kernel_rfl
theorem call16 (n d : Nat) (l : List V) (h : Heap) : call tabW n (d + 1) f16 l h = sh16 words n (call tabW n d) l h:=by kernel_rfl
theorem call17 (n d : Nat) (l : List V) (h : Heap) : call tabW n (d + 1) f17 l h = sh17 words n (call tabW n d) l h:=by kernel_rfl
theorem call18 (n d : Nat) (l : List V) (h : Heap) : call tabW n (d + 1) f18 l h = sh18 words n (call tabW n d) l h:=by kernel_rfl
theorem call19 (n d : Nat) (l : List V) (h : Heap) : call tabW n (d + 1) f19 l h = sh19 words n (call tabW n d) l h:=by kernel_rfl
theorem call20 (n d : Nat) (l : List V) (h : Heap) : call tabW n (d + 1) f20 l h = sh20 words n (call tabW n d) l h:=by kernel_rfl
theorem call22 (n d : Nat) (l : List V) (h : Heap) : call tabW n (d + 1) f22 l h = sh22 words n (call tabW n d) l h:=by kernel_rfl
theorem call23 (n d : Nat) (l : List V) (h : Heap) : call tabW n (d + 1) f23 l h = sh23 words n (call tabW n d) l h:=by kernel_rfl
theorem call24 (n d : Nat) (l : List V) (h : Heap) : call tabW n (d + 1) f24 l h = sh24 words n (call tabW n d) l h:=by kernel_rfl
theorem call25 (n d : Nat) (l : List V) (h : Heap) : call tabW n (d + 1) f25 l h = sh25 words n (call tabW n d) l h:=by kernel_rfl
theorem call26 (n d : Nat) (l : List V) (h : Heap) : call tabW n (d + 1) f26 l h = sh26 words n (call tabW n d) l h:=by kernel_rfl
theorem call27 (n d : Nat) (l : List V) (h : Heap) : call tabW n (d + 1) f27 l h = sh27 words n (call tabW n d) l h:=by kernel_rfl
theorem call28 (n d : Nat) (l : List V) (h : Heap) : call tabW n (d + 1) f28 l h = sh28 words n (call tabW n d) l h:=by kernel_rfl
theorem call29 (n d : Nat) (l : List V) (h : Heap) : call tabW n (d + 1) f29 l h = sh29 words n (call tabW n d) l h:=by kernel_rfl
theorem call30 (n d : Nat) (l : List V) (h : Heap) : call tabW n (d + 1) f30 l h = sh30 words n (call tabW n d) l h:=by kernel_rfl
theorem call31 (n d : Nat) (l : List V) (h : Heap) : call tabW n (d + 1) f31 l h = sh31 words n (call tabW n d) l h:=by kernel_rfl
theorem call32 (n d : Nat) (l : List V) (h : Heap) : call tabW n (d + 1) f32 l h = sh32 words n (call tabW n d) l h:=by kernel_rfl
theorem call33 (n d : Nat) (l : List V) (h : Heap) : call tabW n (d + 1) f33 l h = sh33 words n (call tabW n d) l h:=by kernel_rfl
theorem call34 (n d : Nat) (l : List V) (h : Heap) : call tabW n (d + 1) f34 l h = sh34 words n (call tabW n d) l h:=by kernel_rfl
theorem call35 (n d : Nat) (l : List V) (h : Heap) : call tabW n (d + 1) f35 l h = sh35 words n (call tabW n d) l h:=by kernel_rfl
theorem call36 (n d : Nat) (l : List V) (h : Heap) : call tabW n (d + 1) f36 l h = sh36 words n (call tabW n d) l h:=by kernel_rfl
theorem call37 (n d : Nat) (l : List V) (h : Heap) : call tabW n (d + 1) f37 l h = sh37 words n (call tabW n d) l h:=by kernel_rfl
theorem call44 (n d : Nat) (l : List V) (h : Heap) : call tabW n (d + 1) f44 l h = sh44 words n (call tabW n d) l h:=by kernel_rfl
theorem call45 (n d : Nat) (l : List V) (h : Heap) : call tabW n (d + 1) f45 l h = sh45 words n (call tabW n d) l h:=by kernel_rfl
theorem call46 (n d : Nat) (l : List V) (h : Heap) : call tabW n (d + 1) f46 l h = sh46 words n (call tabW n d) l h:=by kernel_rfl
theorem call47 (n d : Nat) (l : List V) (h : Heap) : call tabW n (d + 1) f47 l h = sh47 words n (call tabW n d) l h:=by kernel_rfl
theorem call48 (n d : Nat) (l : List V) (h : Heap) : call tabW n (d + 1) f48 l h = sh48 words n (call tabW n d) l h:=by kernel_rfl
theorem call49 (n d : Nat) (l : List V) (h : Heap) : call tabW n (d + 1) f49 l h = sh49 words n (call tabW n d) l h:=by kernel_rfl
theorem call50 (n d : Nat) (l : List V) (h : Heap) : call tabW n (d + 1) f50 l h = sh50 words n (call tabW n d) l h:=by kernel_rfl
theorem call51 (n d : Nat) (l : List V) (h : Heap) : call tabW n (d + 1) f51 l h = sh51 words n (call tabW n d) l h:=by kernel_rfl
theorem call60 (n d : Nat) (l : List V) (h : Heap) : call tabW n (d + 1) f60 l h = sh60 words n (call tabW n d) l h:=by kernel_rfl
theorem call61 (n d : Nat) (l : List V) (h : Heap) : call tabW n (d + 1) f61 l h = sh61 words n (call tabW n d) l h:=by kernel_rfl
theorem call63 (n d : Nat) (l : List V) (h : Heap) : call tabW n (d + 1) f63 l h = sh63 words n (call tabW n d) l h:=by kernel_rfl
end Go.Ev.WCP

/- The loops of printed functions, as definitions; printed by a program (ext.py). -/
namespace Go.Ev.WCP
set_option maxRecDepth 100000
noncomputable section
set_option linter.unusedVariables false
end
end Go.Ev.WCP

/- CompsPlain: how big an expression is. -/
namespace Go.Ev.WCP
open Go.Proofs
set_option maxRecDepth 100000
def SzE (n d m : Nat) : Prop:=∀ (h : Heap) (N : Nat) (r : List Tr) (l : List V),N ≤ h.nx.val→IsE r→RowR h N r l →
 ∃ k h',call tabW n d f25 [.agg 5 l,I (.ofNat m)] h = .ret (I (.ofNat k)) h'∧Up h h'∧1 ≤ k∧k ≤ m + 1∧(k ≤ m→1 + wtRow r ≤ k)
section
variable {n d m : Nat} {args : List (List Tr)} {h0 : Heap} {p : Bid} {l : List V} {v : V} {N : Nat}
theorem b25_go {again : List V→Heap→Res} {h h1 : Heap} {cur i k : Nat} (row : Row (h.t.get p) 5 l) (hv : l[3]? = some v) (w : CellR h N (.sl 5 args) v) (hi : i < args.length) (hc : cur ≤ m) (hm : m ≤ 1000000) (hii : i ≤ 1000000)
 {lr : List V} (e : ∀ b o c l',v = .slice b o args.length c 5→(∀ k,loadk h b (o + i * 5) 5 k = k l')→RowR h N args[i] l'→call tabW n d f25 [.agg 5 l',I (.ofNat (m - cur))] h = .ret (I (.ofNat k)) h1) (hk : k ≤ 10000000) :
 b25_1 words n (call tabW n d) again [I (.ofNat m),.ptr p 0,I (.ofNat cur),I (.ofNat i)] h = again [I (.ofNat m),.ptr p 0,I (.ofNat (cur + k)),I (.ofNat (i + 1))] h1:=by
 obtain ⟨b,o,c,l',rfl,hr,hl',_,ld,_⟩:=w.row hi
 have e1:=e b o c l' rfl ld hr
 have a3 : ∀ q : V→Res,words.load1 h p (Nat.add 0 3) q = q (.slice b o args.length c 5):=fun q=>load1k_law row hv q
 have ld' : ∀ q : List V→Res,words.load h b (Nat.add o (Nat.mul i 5)) 5 q = q l':=ld
 have n1:=ilt_true hi
 have n2 : ilt (.ofNat m) (.ofNat cur) = false:=ilt_false (by omega)
 have n3 : Nat.blt i args.length = true:=blt_of hi
 have n4:=si_nat (a:=m) (b:=cur) hc (by omega)
 have n5:=ai_nat (a:=cur) (b:=k) (by omega)
 have n6:=ad_nat (a:=i) (b:=1) (by omega)
 simp -implicitDefEqProofs only [b25_1,↓a3,↓n1,↓n2,↓n3,↓ld',↓n4,↓e1,↓n5,↓n6,↓evR]
theorem b25_end {again : List V→Heap→Res} {h : Heap} {cur i : Nat} (row : Row (h.t.get p) 5 l) (hv : l[3]? = some v) (w : CellR h N (.sl 5 args) v) (hi : ¬ i < args.length ∨ m < cur) :
 b25_1 words n (call tabW n d) again [I (.ofNat m),.ptr p 0,I (.ofNat cur),I (.ofNat i)] h = .ret (I (.ofNat cur)) h:=by
 have a3 : ∀ q : V→Res,words.load1 h p (Nat.add 0 3) q = q v:=fun q=>load1k_law row hv q
 by_cases hi' : i < args.length
 · have hc : m < cur:=hi.resolve_left (fun h=>h hi')
   have n1:=ilt_true hi'
   have n2 : ilt (.ofNat m) (.ofNat cur) = true:=ilt_true hc
   simp -implicitDefEqProofs only [b25_1,↓uF,↓u2,↓zF,↓I,↓unc_cons,↓castF_int,↓nilk'_nil,↓pl,↓ptrk_ptr,↓a3,↓w.lenk,↓lb_eq,↓n1,↓gd_true,↓intk_int,↓kno_refl,↓ak_true,↓n2,↓Bool.not_true,↓an_true,↓ifk_false]
 · have n1:=ilt_false hi'
   simp -implicitDefEqProofs only [b25_1,↓uF,↓u2,↓zF,↓I,↓unc_cons,↓castF_int,↓nilk'_nil,↓pl,↓ptrk_ptr,↓a3,↓w.lenk,↓lb_eq,↓n1,↓gd_false,↓an_false,↓ifk_false]
theorem loop25 (hm : m ≤ 1000000) (H : ∀ m',m' < m→SzE n d m') (ha : ∀ a ∈ args,IsE a) (hv : l[3]? = some v) :
 ∀ (j : Nat) {i cur q : Nat} {h : Heap},i + j = args.length→i ≤ cur→1 ≤ cur→cur ≤ m + 1→m + 1 - cur < q→N ≤ h.nx.val→Row (h.t.get p) 5 l→p.val < h.nx.val→CellR h N (.sl 5 args) v →
  ∃ k h',lpk (b25_1 words n (call tabW n d)) q [I (.ofNat m),.ptr p 0,I (.ofNat cur),I (.ofNat i)] h = .ret (I (.ofNat k)) h'∧Up h h'∧cur ≤ k∧k ≤ m + 1∧(k ≤ m→cur + wtRows (args.drop i) ≤ k):=by
 intro j
 induction j with
 | zero=>
   intro i cur q h hij hic h1 hcm hq hN row hp w
   obtain ⟨q,rfl⟩ : ∃ q',q = q' + 1:=⟨q - 1,by omega⟩
   refine ⟨cur,h,?_,.refl _,Nat.le_refl _,hcm,fun _=>?_⟩
   · rw [lpk_succ]; exact b25_end row hv w (.inl (by omega))
   · rw [List.drop_eq_nil_of_le (by omega)]; simp [wtRows]
 | succ j ih=>
   intro i cur q h hij hic h1 hcm hq hN row hp w
   obtain ⟨q,rfl⟩ : ∃ q',q = q' + 1:=⟨q - 1,by omega⟩
   have hi : i < args.length:=by omega
   by_cases hc : cur ≤ m
   · obtain ⟨b,o,c,l',hve,hr,hl',hw',ld,_⟩:=w.row hi
     obtain ⟨k,h1',e1,u1,k1,k2,k3⟩:=H (m - cur) (by omega) h N args[i] l' hN (ha _ (List.getElem_mem hi)) hr
     have hgo:=b25_go (again:=lpk (b25_1 words n (call tabW n d)) q) (n:=n) (d:=d) (k:=k) (h1:=h1') (lr:=l') row hv w hi hc hm (by omega) (fun b2 o2 c2 l2 h2 h3 h4=>by
      rw [hve] at h2
      cases h2
      have h5:=h3 (fun x=>.done .normal x h)
      rw [ld] at h5
      cases h5
      exact e1) (by omega)
     obtain ⟨k',h2,e2,u2,k4,k5,k6⟩:=ih (i:=i + 1) (cur:=cur + k) (q:=q) (h:=h1') (by omega) (by omega) (by omega) (by omega) (by omega) (Nat.le_trans hN u1.nx) (row.later hp u1) (Nat.lt_of_lt_of_le hp u1.nx) (w.to hN u1)
     refine ⟨k',h2,?_,u1.trans u2,by omega,k5,fun hk=>?_⟩
     · rw [lpk_succ,hgo]; exact e2
     · have g1:=k6 hk
       have g2:=k3 (by omega)
       rw [List.drop_eq_getElem_cons hi,wtRows]; omega
   · refine ⟨cur,h,?_,.refl _,Nat.le_refl _,hcm,fun hk=>absurd hk hc⟩
     rw [lpk_succ]; exact b25_end row hv w (.inr (by omega))
end
theorem size_expr : ∀ (m : Nat) {n d : Nat},m ≤ 1000000→m + 2 < n→m < d→SzE n d m:=by
 intro m
 induction m using Nat.strongRecOn with
 | _ m ih=>
   intro n d hm hn hd h N r l hN hr w
   obtain ⟨d,rfl⟩ : ∃ d',d = d' + 1:=⟨d - 1,by omega⟩
   cases hr with
   | mk op tl tn z args p0 ha=>
   cases w with | cons w0 w=>
   cases w with | cons w1 w=>
   cases w with | cons w2 w=>
   cases w with | cons w3 w=>
   cases w with | cons w4 w=>
   cases w
   cases w0; cases w1; cases w2; cases w4
   rename_i v3 hn1
   obtain ⟨h0,e0,row,u0,lt0⟩:=new_row h (g:=5) (l:=[.int .u8 op,.str tl tn,.int .i64 z,v3,.int .i64 p0]) rfl (by omega)
   have hnew : ∀ q,words.new h (.arr 5 1 (.lf [.int .u8 op,.str tl tn,.int .i64 z,v3,.int .i64 p0]) .false) q = q h.nx h0:=e0
   have a1 : ∀ q : V→Res,words.load1 h0 h.nx 1 q = q (.str tl tn):=fun q=>load1k_law row rfl q
   have hmin : min tl m ≤ m:=Nat.min_le_right _ _
   have n1:=ai_nat (a:=1) (b:=min tl m) (by omega)
   obtain ⟨k,h',e1,u1,k1,k2,k3⟩:=loop25 (n:=n) (d:=d) (m:=m) (args:=args) (p:=h.nx) (v:=v3) (N:=N) hm (fun m' hm'=>ih m' hm' (by omega) (by omega) (by omega)) ha rfl args.length (i:=0) (cur:=1 + min tl m) (q:=n) (h:=h0) (by omega) (by omega) (by omega) (by omega) (by omega)
    (Nat.le_trans hN u0.nx) row lt0 (w3.to hN u0)
   refine ⟨k,h',?_,u0.trans u1,by omega,k2,fun hk=>?_⟩
   · rw [call25,sh25]
     simp -implicitDefEqProofs only [↓u2,↓unc_cons,↓I,↓castI_int,↓nilk'_nil,↓(show ∀ l (q : Nat→List V→Res),partsk (.agg 5 l) q = q 5 l from fun _ _=>rfl),↓(show ∀ x y,zk 5 x y = y from fun _ _=>rfl),↓hnew,↓lS,↓a1,↓castS_str,↓ik,↓sMM_min,↓n1]
     exact e1
   · have g1:=k3 hk
     have : min tl m = tl:=by omega
     simp only [wtRow,Tr.wt]
     rw [List.drop_zero] at g1
     omega
end Go.Ev.WCP

/- CompsPlain: how big bodies and rules are; printed by a program (mk2.py). -/
namespace Go.Ev.WCP
open Go.Proofs
set_option maxRecDepth 100000
def SzL (n d m : Nat) : Prop:=∀ (h : Heap) (N : Nat) (rows : List (List Tr)) (v : V),N ≤ h.nx.val→(∀ r ∈ rows,IsL r)→CellR h N (.sl 5 rows) v →
 ∃ k h',call tabW n d f26 [v,I (.ofNat m)] h = .ret (I (.ofNat k)) h'∧Up h h'∧k ≤ 2 * m + 1∧(k ≤ m→wtRows rows ≤ k)
section
variable {n d m : Nat} {h0 : Heap} {v : V} {N : Nat}
theorem parts26 {h : Heap} {rows : List (List Tr)} (w : CellR h N (.sl 5 rows) v) {i : Nat} (hi : i < rows.length) (hr : IsL rows[i]) : ∃ b o c rl rn args body va vb,v = .slice b o rows.length c 5 ∧
 (∀ a ∈ args,IsE a)∧(∀ a ∈ body,IsL a)∧CellR h N (.sl 5 args) va∧CellR h N (.sl 5 body) vb∧wtRow rows[i] = rl + (wtRows args + wtRows body) ∧
 (∀ k,load1k h b (o + i * 5 + 1) k = k (.str rl rn))∧(∀ k,load1k h b (o + i * 5 + 2) k = k va)∧∀ k,load1k h b (o + i * 5 + 3) k = k vb:=by
 obtain ⟨b,o,c,l',rfl,hw,hl',_,_,ld1⟩:=w.row hi
 generalize rows[i] = r at hr hw
 cases hr with
 | mk op tl tn args body p0 ha hb=>
   cases hw with | cons w0 hw=>
   cases hw with | cons w1 hw=>
   cases hw with | cons w2 hw=>
   cases hw with | cons w3 hw=>
   cases hw with | cons w4 hw=>
   cases hw
   cases w1
   refine ⟨b,o,c,tl,tn,args,body,_,_,rfl,ha,hb,w2,w3,by simp [wtRow,Tr.wt],fun k=>?_,fun k=>ld1 2 _ rfl k,fun k=>ld1 3 _ rfl k⟩
   exact ld1 1 _ rfl k
theorem arg26_go {again : List V→Heap→Res} {h h1 : Heap} {b : Bid} {o L : Nat} {cc : Option Nat} {i a cur k la : Nat} {va : V} {p3 : Bid} {o3 : Nat} {c3 : Option Nat} {lr : List V} (hi : i < L) (hla : a < la) (hva : va = .slice p3 o3 la c3 5)
 (l1 : ∀ k,load1k h b (o + i * 5 + 2) k = k va) (ld : ∀ k,loadk h p3 (o3 + a * 5) 5 k = k lr) (e : call tabW n d f25 [.agg 5 lr,I (.ofNat (m - cur))] h = .ret (I (.ofNat k)) h1) (hc : cur ≤ m) (hm : m ≤ 1000000) (ha : a ≤ 1000000) (hk : k ≤ 10000000) :
 b26_1 words n (call tabW n d) again [.slice b o L cc 5,I (.ofNat m),I (.ofNat cur),I (.ofNat i),I (.ofNat a)] h = again [.slice b o L cc 5,I (.ofNat m),I (.ofNat (cur + k)),I (.ofNat i),I (.ofNat (a + 1))] h1:=by
 subst hva
 have a1 : ∀ q : V→Res,words.load1 h b (Nat.add (Nat.add o (Nat.mul i 5)) 2) q = q (.slice p3 o3 la c3 5):=l1
 have a2 : ∀ q : List V→Res,words.load h p3 (Nat.add o3 (Nat.mul a 5)) 5 q = q lr:=ld
 have n0 : Nat.blt i L = true:=blt_of hi
 have n1:=ilt_true hla
 have n2 : ilt (.ofNat m) (.ofNat cur) = false:=ilt_false (by omega)
 have n3 : Nat.blt a la = true:=blt_of hla
 have n4:=si_nat (a:=m) (b:=cur) hc (by omega)
 have n5:=ai_nat (a:=cur) (b:=k) (by omega)
 have n6:=ad_nat (a:=a) (b:=1) (by omega)
 simp -implicitDefEqProofs only [b26_1,↓n0,↓a1,↓n1,↓n2,↓n3,↓a2,↓n4,↓e,↓n5,↓n6,↓evR]
theorem arg26_end {again : List V→Heap→Res} {h : Heap} {b : Bid} {o L : Nat} {cc : Option Nat} {i a cur la : Nat} {va : V} (hi : i < L) (hl : ∀ k : Nat→Res,lenk va k = k la) (l1 : ∀ k,load1k h b (o + i * 5 + 2) k = k va) (hx : ¬ a < la ∨ m < cur) :
 b26_1 words n (call tabW n d) again [.slice b o L cc 5,I (.ofNat m),I (.ofNat cur),I (.ofNat i),I (.ofNat a)] h = .done .normal [.slice b o L cc 5,I (.ofNat m),I (.ofNat cur),I (.ofNat i)] h:=by
 have a1 : ∀ q : V→Res,words.load1 h b (Nat.add (Nat.add o (Nat.mul i 5)) 2) q = q va:=l1
 have n0 : Nat.blt i L = true:=blt_of hi
 by_cases hla : a < la
 · have hc : m < cur:=hx.resolve_left (fun h=>h hla)
   have n1:=ilt_true hla
   have n2 : ilt (.ofNat m) (.ofNat cur) = true:=ilt_true hc
   simp -implicitDefEqProofs only [b26_1,↓uF,↓u2,↓zF,↓I,↓unc_cons,↓castF_int,↓nilk'_nil,↓slk_slice,↓natk_ofNat,↓n0,↓a1,↓hl,↓lb_eq,↓n1,↓gd_true,↓intk_int,↓kno_refl,↓ak_true,↓n2,↓Bool.not_true,↓an_true,↓ifk_false]
 · have n1:=ilt_false hla
   simp -implicitDefEqProofs only [b26_1,↓uF,↓u2,↓zF,↓I,↓unc_cons,↓castF_int,↓nilk'_nil,↓slk_slice,↓natk_ofNat,↓n0,↓a1,↓hl,↓lb_eq,↓n1,↓gd_false,↓ak_true,↓an_false,↓ifk_false]
theorem args26 (hm : m ≤ 1000000) (H : ∀ m',m' ≤ m→SzE n d m') {b : Bid} {o L i : Nat} {cc : Option Nat} (hi : i < L) {args : List (List Tr)} (ha : ∀ a ∈ args,IsE a) {va : V} (hN0 : N ≤ h0.nx.val) (w0 : CellR h0 N (.sl 5 args) va)
 (l1 : ∀ h,Up h0 h→∀ k,load1k h b (o + i * 5 + 2) k = k va) :
 ∀ (j : Nat) {a cur q : Nat} {h : Heap},a + j = args.length→a ≤ cur→m + 1 - cur < q→Up h0 h →
  ∃ k h',lpk (b26_1 words n (call tabW n d)) q [.slice b o L cc 5,I (.ofNat m),I (.ofNat cur),I (.ofNat i),I (.ofNat a)] h = .done .normal [.slice b o L cc 5,I (.ofNat m),I (.ofNat k),I (.ofNat i)] h' ∧
   Up h h'∧cur ≤ k∧k ≤ max cur (m + 1)∧(k ≤ m→cur + wtRows (args.drop a) ≤ k):=by
 intro j
 induction j with
 | zero=>
   intro a cur q h haj hac hq u
   obtain ⟨q,rfl⟩ : ∃ q',q = q' + 1:=⟨q - 1,by omega⟩
   refine ⟨cur,h,?_,.refl _,Nat.le_refl _,by omega,fun _=>?_⟩
   · rw [lpk_succ]; exact arg26_end hi (w0.lenk) (l1 h u) (.inl (by omega))
   · rw [List.drop_eq_nil_of_le (by omega)]; simp [wtRows]
 | succ j ih=>
   intro a cur q h haj hac hq u
   obtain ⟨q,rfl⟩ : ∃ q',q = q' + 1:=⟨q - 1,by omega⟩
   have hia : a < args.length:=by omega
   by_cases hc : cur ≤ m
   · have w:=w0.to hN0 u
     have hN : N ≤ h.nx.val:=Nat.le_trans hN0 u.nx
     obtain ⟨p3,o3,c3,lr,hve,hr,_,_,ld,_⟩:=w.row hia
     obtain ⟨k,h1',e1,u1,k1,k2,k3⟩:=H (m - cur) (by omega) h N args[a] lr hN (ha _ (List.getElem_mem hia)) hr
     have hgo:=arg26_go (again:=lpk (b26_1 words n (call tabW n d)) q) (n:=n) (d:=d) (b:=b) (o:=o) (L:=L) (cc:=cc) hi hia hve (l1 h u) ld e1 hc hm (by omega) (by omega)
     obtain ⟨k',h2,e2,u2,k4,k5,k6⟩:=ih (a:=a + 1) (cur:=cur + k) (q:=q) (h:=h1') (by omega) (by omega) (by omega) (u.trans u1)
     refine ⟨k',h2,?_,u1.trans u2,by omega,by omega,fun hk=>?_⟩
     · rw [lpk_succ,hgo]; exact e2
     · have g1:=k6 hk
       have g2:=k3 (by omega)
       rw [List.drop_eq_getElem_cons hia,wtRows]; omega
   · refine ⟨cur,h,?_,.refl _,Nat.le_refl _,by omega,fun hk=>absurd hk hc⟩
     rw [lpk_succ]; exact arg26_end hi (w0.lenk) (l1 h u) (.inr (by omega))
theorem b26_2_end {again : List V→Heap→Res} {h : Heap} {cur i L : Nat} (hl : ∀ k : Nat→Res,lenk v k = k L) (hx : ¬ i < L ∨ m < cur) :
 b26_2 words n (call tabW n d) again [v,I (.ofNat m),I (.ofNat cur),I (.ofNat i)] h = .ret (I (.ofNat cur)) h:=by
 by_cases hi' : i < L
 · have hc : m < cur:=hx.resolve_left (fun h=>h hi')
   have n1:=ilt_true hi'
   have n2 : ilt (.ofNat m) (.ofNat cur) = true:=ilt_true hc
   simp -implicitDefEqProofs only [b26_2,↓uF,↓u2,↓zF,↓I,↓unc_cons,↓castF_int,↓nilk'_nil,↓hl,↓lb_eq,↓n1,↓gd_true,↓intk_int,↓kno_refl,↓ak_true,↓n2,↓Bool.not_true,↓an_true,↓ifk_false]
 · have n1:=ilt_false hi'
   simp -implicitDefEqProofs only [b26_2,↓uF,↓u2,↓zF,↓I,↓unc_cons,↓castF_int,↓nilk'_nil,↓hl,↓lb_eq,↓n1,↓gd_false,↓an_false,↓ifk_false]
theorem b26_2_go {again : List V→Heap→Res} {h h1 h2 : Heap} {b : Bid} {o L : Nat} {cc : Option Nat} {i cur k1 k2 rl rn : Nat} {vb : V} (hi : i < L) (hc : cur ≤ m) (hm : m ≤ 1000000) (hii : i ≤ 1000000)
 (l1 : ∀ k,load1k h b (o + i * 5 + 1) k = k (.str rl rn)) (e1 : lpk (b26_1 words n (call tabW n d)) n [.slice b o L cc 5,I (.ofNat m),I (.ofNat (cur + 1 + min rl m)),I (.ofNat i),I (.ofNat 0)] h = .done .normal [.slice b o L cc 5,I (.ofNat m),I (.ofNat k1),I (.ofNat i)] h1)
 (l2 : ∀ k,load1k h1 b (o + i * 5 + 3) k = k vb) (e2 : k1 ≤ m→call tabW n d f26 [vb,I (.ofNat (m - k1))] h1 = .ret (I (.ofNat k2)) h2) (e3 : ¬ k1 ≤ m→k2 = 0∧h2 = h1) (hk : k1 + k2 ≤ 100000000) :
 b26_2 words n (call tabW n d) again [.slice b o L cc 5,I (.ofNat m),I (.ofNat cur),I (.ofNat i)] h = again [.slice b o L cc 5,I (.ofNat m),I (.ofNat (k1 + k2)),I (.ofNat (i + 1))] h2:=by
 have a1 : ∀ q : V→Res,words.load1 h b (Nat.add (Nat.add o (Nat.mul i 5)) 1) q = q (.str rl rn):=l1
 have a2 : ∀ q : V→Res,words.load1 h1 b (Nat.add (Nat.add o (Nat.mul i 5)) 3) q = q vb:=l2
 have n0 : Nat.blt i L = true:=blt_of hi
 have n1:=ilt_true hi
 have n2 : ilt (.ofNat m) (.ofNat cur) = false:=ilt_false (by omega)
 have hmin : min rl m ≤ m:=Nat.min_le_right _ _
 have n4:=ad_nat (a:=cur) (b:=1) (by omega)
 have n5:=ai_nat (a:=cur + 1) (b:=min rl m) (by omega)
 have n6:=ad_nat (a:=i) (b:=1) (by omega)
 by_cases hk1 : k1 ≤ m
 · have e2:=e2 hk1
   have n7 : ilt (.ofNat m) (.ofNat k1) = false:=ilt_false (by omega)
   have n8:=si_nat (a:=m) (b:=k1) hk1 (by omega)
   have n9:=ai_nat (a:=k1) (b:=k2) (by omega)
   simp -implicitDefEqProofs only [b26_2,↓n1,↓n2,↓n0,↓a1,↓n4,↓n5,↓e1,↓n7,↓a2,↓n8,↓e2,↓n9,↓n6,↓evR]
 · obtain ⟨rfl,rfl⟩:=e3 hk1
   have n7 : ilt (.ofNat m) (.ofNat k1) = true:=ilt_true (by omega)
   simp -implicitDefEqProofs only [b26_2,↓n1,↓n2,↓n0,↓a1,↓n4,↓n5,↓e1,↓n7,↓n6,↓Nat.add_zero,↓evR]
theorem loop26 (hm : m ≤ 1000000) (hn : m + 2 < n) (H : ∀ m',m' ≤ m→SzE n d m') (HL : ∀ m',m' < m→SzL n d m') {rows : List (List Tr)} (hr : ∀ r ∈ rows,IsL r) :
 ∀ (j : Nat) {i cur q : Nat} {h : Heap},i + j = rows.length→i ≤ cur→cur ≤ 2 * m + 1→m + 1 - cur < q→N ≤ h.nx.val→CellR h N (.sl 5 rows) v →
  ∃ k h',lpk (b26_2 words n (call tabW n d)) q [v,I (.ofNat m),I (.ofNat cur),I (.ofNat i)] h = .ret (I (.ofNat k)) h'∧Up h h'∧cur ≤ k∧k ≤ 2 * m + 1∧(k ≤ m→cur + wtRows (rows.drop i) ≤ k):=by
 intro j
 induction j with
 | zero=>
   intro i cur q h hij hic hcm hq hN w
   obtain ⟨q,rfl⟩ : ∃ q',q = q' + 1:=⟨q - 1,by omega⟩
   refine ⟨cur,h,?_,.refl _,Nat.le_refl _,hcm,fun _=>?_⟩
   · rw [lpk_succ]; exact b26_2_end w.lenk (.inl (by omega))
   · rw [List.drop_eq_nil_of_le (by omega)]; simp [wtRows]
 | succ j ih=>
   intro i cur q h hij hic hcm hq hN w
   obtain ⟨q,rfl⟩ : ∃ q',q = q' + 1:=⟨q - 1,by omega⟩
   have hi : i < rows.length:=by omega
   by_cases hc : cur ≤ m
   · obtain ⟨b,o,c,rl,rn,args,body,va,vb,rfl,ha,hb,wa,wb,hw,l1,l2,l3⟩:=parts26 w hi (hr _ (List.getElem_mem hi))
     have hmin : min rl m ≤ m:=Nat.min_le_right _ _
     have hblk : ∀ h',Up h h'→∀ (x : Nat) (u : V),(∀ k,load1k h b (o + i * 5 + x) k = k u)→∀ k,load1k h' b (o + i * 5 + x) k = k u:=fun h' u' x y hx k=>by
      have hbN : b.val < N:=by cases w with | sl _ _ _ _ _ _ _ hb=>exact hb
      have e:=hx k
      unfold load1k at e ⊢
      rw [Heap.getk_eq] at e ⊢
      rw [u'.get b (by omega)]; exact e
     obtain ⟨k1,h1,e1,u1,g1,g2,g3⟩:=args26 (n:=n) (d:=d) (N:=N) (h0:=h) (cc:=c) (L:=rows.length) hm H hi ha hN wa (fun h' u'=>hblk h' u' 2 va l2) args.length (a:=0) (cur:=cur + 1 + min rl m) (q:=n) (h:=h) (by omega) (by omega) (by omega) (.refl _)
     obtain ⟨k2,h2,e2,e3,u2,g4,g5⟩ : ∃ k2 h2,(k1 ≤ m→call tabW n d f26 [vb,I (.ofNat (m - k1))] h1 = .ret (I (.ofNat k2)) h2)∧(¬ k1 ≤ m→k2 = 0∧h2 = h1)∧Up h1 h2∧k1 + k2 ≤ 2 * m + 1∧(k1 + k2 ≤ m→wtRows body ≤ k2):=by
      by_cases hk : k1 ≤ m
      · obtain ⟨k2,h2,e,u,g6,g7⟩:=HL (m - k1) (by omega) h1 N body vb (Nat.le_trans hN u1.nx) hb (wb.to hN u1)
        exact ⟨k2,h2,fun _=>e,fun h=>absurd hk h,u,by omega,fun hx=>g7 (by omega)⟩
      · exact ⟨0,h1,fun h=>absurd h hk,fun _=>⟨rfl,rfl⟩,.refl _,by omega,fun hx=>absurd hx (by omega)⟩
     have hgo:=b26_2_go (again:=lpk (b26_2 words n (call tabW n d)) q) (n:=n) (d:=d) hi hc hm (by omega) l1 e1 (hblk h1 u1 3 vb l3) e2 e3 (by omega)
     obtain ⟨k',h3,e4,u3,k4,k5,k6⟩:=ih (i:=i + 1) (cur:=k1 + k2) (q:=q) (h:=h2) (by omega) (by omega) (by omega) (by omega) (Nat.le_trans hN (u1.trans u2).nx) (w.to hN (u1.trans u2))
     refine ⟨k',h3,?_,(u1.trans u2).trans u3,by omega,k5,fun hk=>?_⟩
     · rw [lpk_succ,hgo]; exact e4
     · have q1:=k6 hk
       have q2:=g5 (by omega)
       have q3:=g3 (by omega)
       rw [List.drop_zero] at q3
       have q4 : min rl m = rl:=by omega
       rw [List.drop_eq_getElem_cons hi,wtRows,hw]; omega
   · refine ⟨cur,h,?_,.refl _,Nat.le_refl _,hcm,fun hk=>absurd hk hc⟩
     rw [lpk_succ]; exact b26_2_end w.lenk (.inr (by omega))
end
theorem size_lits : ∀ (m : Nat) {n d : Nat},m ≤ 1000000→m + 2 < n→m + 1 < d→SzL n d m:=by
 intro m
 induction m using Nat.strongRecOn with
 | _ m ih=>
   intro n d hm hn hd h N rows v hN hr w
   obtain ⟨d,rfl⟩ : ∃ d',d = d' + 1:=⟨d - 1,by omega⟩
   obtain ⟨k,h',e1,u1,_,k2,k3⟩:=loop26 (n:=n) (d:=d) (m:=m) (v:=v) (N:=N) hm hn (fun m' hm'=>size_expr m' (by omega) (by omega) (by omega)) (fun m' hm'=>ih m' hm' (by omega) (by omega) (by omega)) hr rows.length (i:=0) (cur:=0) (q:=n) (h:=h) (by omega) (by omega) (by omega) (by omega) hN w
   refine ⟨k,h',?_,u1,k2,fun hk=>?_⟩
   · rw [call26,sh26]
     simp -implicitDefEqProofs only [↓u2,↓unc_cons,↓I,↓ik,↓castI_int,↓nilk'_nil]
     exact e1
   · have:=k3 hk
     rw [List.drop_zero] at this; omega
section
variable {n d m : Nat} {h0 : Heap} {v : V} {N : Nat}
theorem parts18 {h : Heap} {rows : List (List Tr)} (w : CellR h N (.sl 4 rows) v) {i : Nat} (hi : i < rows.length) (hr : IsRu rows[i]) : ∃ b o c rl rn args body va vb,v = .slice b o rows.length c 4 ∧
 (∀ a ∈ args,IsE a)∧(∀ a ∈ body,IsL a)∧CellR h N (.sl 5 args) va∧CellR h N (.sl 5 body) vb∧wtRow rows[i] = rl + (wtRows args + wtRows body) ∧
 (∀ k,load1k h b (o + i * 4) k = k (.str rl rn))∧(∀ k,load1k h b (o + i * 4 + 1) k = k va)∧∀ k,load1k h b (o + i * 4 + 2) k = k vb:=by
 obtain ⟨b,o,c,l',rfl,hw,hl',_,_,ld1⟩:=w.row hi
 generalize rows[i] = r at hr hw
 cases hr with
 | mk tl tn args body p0 ha hb=>
   cases hw with | cons w0 hw=>
   cases hw with | cons w1 hw=>
   cases hw with | cons w2 hw=>
   cases hw with | cons w3 hw=>
   cases hw
   cases w0
   refine ⟨b,o,c,tl,tn,args,body,_,_,rfl,ha,hb,w1,w2,by simp [wtRow,Tr.wt],fun k=>?_,fun k=>ld1 1 _ rfl k,fun k=>ld1 2 _ rfl k⟩
   exact ld1 0 _ rfl k
theorem arg18_go {again : List V→Heap→Res} {h h1 : Heap} {b : Bid} {o L : Nat} {cc : Option Nat} {i a cur k la : Nat} {va : V} {p3 : Bid} {o3 : Nat} {c3 : Option Nat} {lr : List V} (hi : i < L) (hla : a < la) (hva : va = .slice p3 o3 la c3 5)
 (l1 : ∀ k,load1k h b (o + i * 4 + 1) k = k va) (ld : ∀ k,loadk h p3 (o3 + a * 5) 5 k = k lr) (e : call tabW n d f25 [.agg 5 lr,I (.ofNat (m - cur))] h = .ret (I (.ofNat k)) h1) (hc : cur ≤ m) (hm : m ≤ 1000000) (ha : a ≤ 1000000) (hk : k ≤ 10000000) :
 b18_1 words n (call tabW n d) again [.slice b o L cc 4,I (.ofNat m),I (.ofNat cur),I (.ofNat i),I (.ofNat a)] h = again [.slice b o L cc 4,I (.ofNat m),I (.ofNat (cur + k)),I (.ofNat i),I (.ofNat (a + 1))] h1:=by
 subst hva
 have a1 : ∀ q : V→Res,words.load1 h b (Nat.add (Nat.add o (Nat.mul i 4)) 1) q = q (.slice p3 o3 la c3 5):=l1
 have a2 : ∀ q : List V→Res,words.load h p3 (Nat.add o3 (Nat.mul a 5)) 5 q = q lr:=ld
 have n0 : Nat.blt i L = true:=blt_of hi
 have n1:=ilt_true hla
 have n2 : ilt (.ofNat m) (.ofNat cur) = false:=ilt_false (by omega)
 have n3 : Nat.blt a la = true:=blt_of hla
 have n4:=si_nat (a:=m) (b:=cur) hc (by omega)
 have n5:=ai_nat (a:=cur) (b:=k) (by omega)
 have n6:=ad_nat (a:=a) (b:=1) (by omega)
 simp -implicitDefEqProofs only [b18_1,↓n0,↓a1,↓n1,↓n2,↓n3,↓a2,↓n4,↓e,↓n5,↓n6,↓evR]
theorem arg18_end {again : List V→Heap→Res} {h : Heap} {b : Bid} {o L : Nat} {cc : Option Nat} {i a cur la : Nat} {va : V} (hi : i < L) (hl : ∀ k : Nat→Res,lenk va k = k la) (l1 : ∀ k,load1k h b (o + i * 4 + 1) k = k va) (hx : ¬ a < la ∨ m < cur) :
 b18_1 words n (call tabW n d) again [.slice b o L cc 4,I (.ofNat m),I (.ofNat cur),I (.ofNat i),I (.ofNat a)] h = .done .normal [.slice b o L cc 4,I (.ofNat m),I (.ofNat cur),I (.ofNat i)] h:=by
 have a1 : ∀ q : V→Res,words.load1 h b (Nat.add (Nat.add o (Nat.mul i 4)) 1) q = q va:=l1
 have n0 : Nat.blt i L = true:=blt_of hi
 by_cases hla : a < la
 · have hc : m < cur:=hx.resolve_left (fun h=>h hla)
   have n1:=ilt_true hla
   have n2 : ilt (.ofNat m) (.ofNat cur) = true:=ilt_true hc
   simp -implicitDefEqProofs only [b18_1,↓uF,↓u2,↓zF,↓I,↓unc_cons,↓castF_int,↓nilk'_nil,↓slk_slice,↓natk_ofNat,↓n0,↓a1,↓hl,↓lb_eq,↓n1,↓gd_true,↓intk_int,↓kno_refl,↓ak_true,↓n2,↓Bool.not_true,↓an_true,↓ifk_false]
 · have n1:=ilt_false hla
   simp -implicitDefEqProofs only [b18_1,↓uF,↓u2,↓zF,↓I,↓unc_cons,↓castF_int,↓nilk'_nil,↓slk_slice,↓natk_ofNat,↓n0,↓a1,↓hl,↓lb_eq,↓n1,↓gd_false,↓ak_true,↓an_false,↓ifk_false]
theorem args18 (hm : m ≤ 1000000) (H : ∀ m',m' ≤ m→SzE n d m') {b : Bid} {o L i : Nat} {cc : Option Nat} (hi : i < L) {args : List (List Tr)} (ha : ∀ a ∈ args,IsE a) {va : V} (hN0 : N ≤ h0.nx.val) (w0 : CellR h0 N (.sl 5 args) va)
 (l1 : ∀ h,Up h0 h→∀ k,load1k h b (o + i * 4 + 1) k = k va) :
 ∀ (j : Nat) {a cur q : Nat} {h : Heap},a + j = args.length→a ≤ cur→m + 1 - cur < q→Up h0 h →
  ∃ k h',lpk (b18_1 words n (call tabW n d)) q [.slice b o L cc 4,I (.ofNat m),I (.ofNat cur),I (.ofNat i),I (.ofNat a)] h = .done .normal [.slice b o L cc 4,I (.ofNat m),I (.ofNat k),I (.ofNat i)] h' ∧
   Up h h'∧cur ≤ k∧k ≤ max cur (m + 1)∧(k ≤ m→cur + wtRows (args.drop a) ≤ k):=by
 intro j
 induction j with
 | zero=>
   intro a cur q h haj hac hq u
   obtain ⟨q,rfl⟩ : ∃ q',q = q' + 1:=⟨q - 1,by omega⟩
   refine ⟨cur,h,?_,.refl _,Nat.le_refl _,by omega,fun _=>?_⟩
   · rw [lpk_succ]; exact arg18_end hi (w0.lenk) (l1 h u) (.inl (by omega))
   · rw [List.drop_eq_nil_of_le (by omega)]; simp [wtRows]
 | succ j ih=>
   intro a cur q h haj hac hq u
   obtain ⟨q,rfl⟩ : ∃ q',q = q' + 1:=⟨q - 1,by omega⟩
   have hia : a < args.length:=by omega
   by_cases hc : cur ≤ m
   · have w:=w0.to hN0 u
     have hN : N ≤ h.nx.val:=Nat.le_trans hN0 u.nx
     obtain ⟨p3,o3,c3,lr,hve,hr,_,_,ld,_⟩:=w.row hia
     obtain ⟨k,h1',e1,u1,k1,k2,k3⟩:=H (m - cur) (by omega) h N args[a] lr hN (ha _ (List.getElem_mem hia)) hr
     have hgo:=arg18_go (again:=lpk (b18_1 words n (call tabW n d)) q) (n:=n) (d:=d) (b:=b) (o:=o) (L:=L) (cc:=cc) hi hia hve (l1 h u) ld e1 hc hm (by omega) (by omega)
     obtain ⟨k',h2,e2,u2,k4,k5,k6⟩:=ih (a:=a + 1) (cur:=cur + k) (q:=q) (h:=h1') (by omega) (by omega) (by omega) (u.trans u1)
     refine ⟨k',h2,?_,u1.trans u2,by omega,by omega,fun hk=>?_⟩
     · rw [lpk_succ,hgo]; exact e2
     · have g1:=k6 hk
       have g2:=k3 (by omega)
       rw [List.drop_eq_getElem_cons hia,wtRows]; omega
   · refine ⟨cur,h,?_,.refl _,Nat.le_refl _,by omega,fun hk=>absurd hk hc⟩
     rw [lpk_succ]; exact arg18_end hi (w0.lenk) (l1 h u) (.inr (by omega))
theorem b18_2_end {again : List V→Heap→Res} {h : Heap} {cur i L : Nat} (hl : ∀ k : Nat→Res,lenk v k = k L) (hx : ¬ i < L ∨ m < cur) :
 b18_2 words n (call tabW n d) again [v,I (.ofNat m),I (.ofNat cur),I (.ofNat i)] h = .ret (I (.ofNat cur)) h:=by
 by_cases hi' : i < L
 · have hc : m < cur:=hx.resolve_left (fun h=>h hi')
   have n1:=ilt_true hi'
   have n2 : ilt (.ofNat m) (.ofNat cur) = true:=ilt_true hc
   simp -implicitDefEqProofs only [b18_2,↓uF,↓u2,↓zF,↓I,↓unc_cons,↓castF_int,↓nilk'_nil,↓hl,↓lb_eq,↓n1,↓gd_true,↓intk_int,↓kno_refl,↓ak_true,↓n2,↓Bool.not_true,↓an_true,↓ifk_false]
 · have n1:=ilt_false hi'
   simp -implicitDefEqProofs only [b18_2,↓uF,↓u2,↓zF,↓I,↓unc_cons,↓castF_int,↓nilk'_nil,↓hl,↓lb_eq,↓n1,↓gd_false,↓an_false,↓ifk_false]
theorem b18_2_go {again : List V→Heap→Res} {h h1 h2 : Heap} {b : Bid} {o L : Nat} {cc : Option Nat} {i cur k1 k2 rl rn : Nat} {vb : V} (hi : i < L) (hc : cur ≤ m) (hm : m ≤ 1000000) (hii : i ≤ 1000000)
 (l1 : ∀ k,load1k h b (o + i * 4) k = k (.str rl rn)) (e1 : lpk (b18_1 words n (call tabW n d)) n [.slice b o L cc 4,I (.ofNat m),I (.ofNat (cur + 1 + min rl m)),I (.ofNat i),I (.ofNat 0)] h = .done .normal [.slice b o L cc 4,I (.ofNat m),I (.ofNat k1),I (.ofNat i)] h1)
 (l2 : ∀ k,load1k h1 b (o + i * 4 + 2) k = k vb) (e2 : k1 ≤ m→call tabW n d f26 [vb,I (.ofNat (m - k1))] h1 = .ret (I (.ofNat k2)) h2) (e3 : ¬ k1 ≤ m→k2 = 0∧h2 = h1) (hk : k1 + k2 ≤ 100000000) :
 b18_2 words n (call tabW n d) again [.slice b o L cc 4,I (.ofNat m),I (.ofNat cur),I (.ofNat i)] h = again [.slice b o L cc 4,I (.ofNat m),I (.ofNat (k1 + k2)),I (.ofNat (i + 1))] h2:=by
 have a1 : ∀ q : V→Res,words.load1 h b (Nat.add o (Nat.mul i 4)) q = q (.str rl rn):=l1
 have a2 : ∀ q : V→Res,words.load1 h1 b (Nat.add (Nat.add o (Nat.mul i 4)) 2) q = q vb:=l2
 have n0 : Nat.blt i L = true:=blt_of hi
 have n1:=ilt_true hi
 have n2 : ilt (.ofNat m) (.ofNat cur) = false:=ilt_false (by omega)
 have hmin : min rl m ≤ m:=Nat.min_le_right _ _
 have n4:=ad_nat (a:=cur) (b:=1) (by omega)
 have n5:=ai_nat (a:=cur + 1) (b:=min rl m) (by omega)
 have n6:=ad_nat (a:=i) (b:=1) (by omega)
 by_cases hk1 : k1 ≤ m
 · have e2:=e2 hk1
   have n7 : ilt (.ofNat m) (.ofNat k1) = false:=ilt_false (by omega)
   have n8:=si_nat (a:=m) (b:=k1) hk1 (by omega)
   have n9:=ai_nat (a:=k1) (b:=k2) (by omega)
   simp -implicitDefEqProofs only [b18_2,↓n1,↓n2,↓n0,↓a1,↓n4,↓n5,↓e1,↓n7,↓a2,↓n8,↓e2,↓n9,↓n6,↓evR]
 · obtain ⟨rfl,rfl⟩:=e3 hk1
   have n7 : ilt (.ofNat m) (.ofNat k1) = true:=ilt_true (by omega)
   simp -implicitDefEqProofs only [b18_2,↓n1,↓n2,↓n0,↓a1,↓n4,↓n5,↓e1,↓n7,↓n6,↓Nat.add_zero,↓evR]
theorem loop18 (hm : m ≤ 1000000) (hn : m + 2 < n) (H : ∀ m',m' ≤ m→SzE n d m') (HL : ∀ m',m' < m→SzL n d m') {rows : List (List Tr)} (hr : ∀ r ∈ rows,IsRu r) :
 ∀ (j : Nat) {i cur q : Nat} {h : Heap},i + j = rows.length→i ≤ cur→cur ≤ 2 * m + 1→m + 1 - cur < q→N ≤ h.nx.val→CellR h N (.sl 4 rows) v →
  ∃ k h',lpk (b18_2 words n (call tabW n d)) q [v,I (.ofNat m),I (.ofNat cur),I (.ofNat i)] h = .ret (I (.ofNat k)) h'∧Up h h'∧cur ≤ k∧k ≤ 2 * m + 1∧(k ≤ m→cur + wtRows (rows.drop i) ≤ k):=by
 intro j
 induction j with
 | zero=>
   intro i cur q h hij hic hcm hq hN w
   obtain ⟨q,rfl⟩ : ∃ q',q = q' + 1:=⟨q - 1,by omega⟩
   refine ⟨cur,h,?_,.refl _,Nat.le_refl _,hcm,fun _=>?_⟩
   · rw [lpk_succ]; exact b18_2_end w.lenk (.inl (by omega))
   · rw [List.drop_eq_nil_of_le (by omega)]; simp [wtRows]
 | succ j ih=>
   intro i cur q h hij hic hcm hq hN w
   obtain ⟨q,rfl⟩ : ∃ q',q = q' + 1:=⟨q - 1,by omega⟩
   have hi : i < rows.length:=by omega
   by_cases hc : cur ≤ m
   · obtain ⟨b,o,c,rl,rn,args,body,va,vb,rfl,ha,hb,wa,wb,hw,l1,l2,l3⟩:=parts18 w hi (hr _ (List.getElem_mem hi))
     have hmin : min rl m ≤ m:=Nat.min_le_right _ _
     have hblk : ∀ h',Up h h'→∀ (x : Nat) (u : V),(∀ k,load1k h b (o + i * 4 + x) k = k u)→∀ k,load1k h' b (o + i * 4 + x) k = k u:=fun h' u' x y hx k=>by
      have hbN : b.val < N:=by cases w with | sl _ _ _ _ _ _ _ hb=>exact hb
      have e:=hx k
      unfold load1k at e ⊢
      rw [Heap.getk_eq] at e ⊢
      rw [u'.get b (by omega)]; exact e
     obtain ⟨k1,h1,e1,u1,g1,g2,g3⟩:=args18 (n:=n) (d:=d) (N:=N) (h0:=h) (cc:=c) (L:=rows.length) hm H hi ha hN wa (fun h' u'=>hblk h' u' 1 va l2) args.length (a:=0) (cur:=cur + 1 + min rl m) (q:=n) (h:=h) (by omega) (by omega) (by omega) (.refl _)
     obtain ⟨k2,h2,e2,e3,u2,g4,g5⟩ : ∃ k2 h2,(k1 ≤ m→call tabW n d f26 [vb,I (.ofNat (m - k1))] h1 = .ret (I (.ofNat k2)) h2)∧(¬ k1 ≤ m→k2 = 0∧h2 = h1)∧Up h1 h2∧k1 + k2 ≤ 2 * m + 1∧(k1 + k2 ≤ m→wtRows body ≤ k2):=by
      by_cases hk : k1 ≤ m
      · obtain ⟨k2,h2,e,u,g6,g7⟩:=HL (m - k1) (by omega) h1 N body vb (Nat.le_trans hN u1.nx) hb (wb.to hN u1)
        exact ⟨k2,h2,fun _=>e,fun h=>absurd hk h,u,by omega,fun hx=>g7 (by omega)⟩
      · exact ⟨0,h1,fun h=>absurd h hk,fun _=>⟨rfl,rfl⟩,.refl _,by omega,fun hx=>absurd hx (by omega)⟩
     have hgo:=b18_2_go (again:=lpk (b18_2 words n (call tabW n d)) q) (n:=n) (d:=d) hi hc hm (by omega) l1 e1 (hblk h1 u1 2 vb l3) e2 e3 (by omega)
     obtain ⟨k',h3,e4,u3,k4,k5,k6⟩:=ih (i:=i + 1) (cur:=k1 + k2) (q:=q) (h:=h2) (by omega) (by omega) (by omega) (by omega) (Nat.le_trans hN (u1.trans u2).nx) (w.to hN (u1.trans u2))
     refine ⟨k',h3,?_,(u1.trans u2).trans u3,by omega,k5,fun hk=>?_⟩
     · rw [lpk_succ,hgo]; exact e4
     · have q1:=k6 hk
       have q2:=g5 (by omega)
       have q3:=g3 (by omega)
       rw [List.drop_zero] at q3
       have q4 : min rl m = rl:=by omega
       rw [List.drop_eq_getElem_cons hi,wtRows,hw]; omega
   · refine ⟨cur,h,?_,.refl _,Nat.le_refl _,hcm,fun hk=>absurd hk hc⟩
     rw [lpk_succ]; exact b18_2_end w.lenk (.inr (by omega))
end
theorem size_rules {m n d : Nat} (hm : m ≤ 1000000) (hn : m + 2 < n) (hd : m + 2 < d) {h : Heap} {N : Nat} {rows : List (List Tr)} {v : V} (hN : N ≤ h.nx.val) (hr : ∀ r ∈ rows,IsRu r) (w : CellR h N (.sl 4 rows) v) :
 ∃ k h',call tabW n d f18 [v,I (.ofNat m)] h = .ret (I (.ofNat k)) h'∧Up h h'∧k ≤ 2 * m + 1∧(k ≤ m→wtRows rows ≤ k):=by
 obtain ⟨d,rfl⟩ : ∃ d',d = d' + 1:=⟨d - 1,by omega⟩
 obtain ⟨k,h',e1,u1,_,k2,k3⟩:=loop18 (n:=n) (d:=d) (m:=m) (v:=v) (N:=N) hm hn (fun m' hm'=>size_expr m' (by omega) (by omega) (by omega)) (fun m' hm'=>size_lits m' (by omega) (by omega) (by omega)) hr rows.length (i:=0) (cur:=0) (q:=n) (h:=h) (by omega) (by omega) (by omega) (by omega) hN w
 refine ⟨k,h',?_,u1,k2,fun hk=>?_⟩
 · rw [call18,sh18]
   simp -implicitDefEqProofs only [↓u2,↓unc_cons,↓I,↓ik,↓castI_int,↓nilk'_nil]
   exact e1
 · have:=k3 hk
   rw [List.drop_zero] at this; omega
end Go.Ev.WCP
