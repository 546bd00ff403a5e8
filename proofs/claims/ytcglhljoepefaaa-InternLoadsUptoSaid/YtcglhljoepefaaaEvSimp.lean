/- EvSimp: texts joined. -/
import Derived.Test.YtcglhljoepefaaaEvAbb
import Derived.Test.YtcglhljoepefaaaEvWIBSh1
import Derived.Below
import Derived.Test.YtcglhljoepefaaaEvEx0
/- EVALUATOR, 29: the table of functions; a call out of a memory that is nearly empty. -/
namespace Go.Ev
variable {P : Program}
def FT.put (t : FT) (f : Fid) (p : PO) : FT:=N.set t f.a (N.set (N.get t f.a) f.b (N.set (N.get (N.get t f.a) f.b) f.c (N.set (N.get (N.get (N.get t f.a) f.b) f.c) f.d p)))
def FT.none : FT:=N.all (N.all (N.all (N.all .no)))
def FT.of : List (Fid × PO)→FT
 | []=>FT.none
 | (f,p) :: l=>(FT.of l).put f p
theorem N.all_get {α : Type} (v : α) (d : D) : (N.all v).get d = v:=by cases d <;> rfl
theorem FT.get_put (t : FT) (f g : Fid) (p : PO) : (g = f∧(t.put f p).get g = p) ∨ (t.put f p).get g = t.get g:=by
 obtain ⟨a,b,c,d⟩:=f
 obtain ⟨a',b',c',d'⟩:=g
 simp only [FT.put,FT.get]
 by_cases h1 : a' = a
 · subst h1
   rw [N.get_set]
   by_cases h2 : b' = b
   · subst h2
     rw [N.get_set]
     by_cases h3 : c' = c
     · subst h3
       rw [N.get_set]
       by_cases h4 : d' = d
       · subst h4; rw [N.get_set]; exact .inl ⟨rfl,rfl⟩
       · rw [N.get_set_ne _ h4]; exact .inr rfl
     · rw [N.get_set_ne _ h3]; exact .inr rfl
   · rw [N.get_set_ne _ h2]; exact .inr rfl
 · rw [N.get_set_ne _ h1]; exact .inr rfl
theorem FT.of_ok {ng : Nat} {f : Fid} : ∀ {l : List (Fid × PO)},(∀ x ∈ l,POok P ng x.1.val x.2)→POok P ng f.val ((FT.of l).get f)
 | [],_=>by
   simp only [FT.of,FT.none,FT.get,N.all_get]
   exact trivial
 | (g,q) :: l,h=>by
   simp only [FT.of]
   rcases FT.get_put (FT.of l) g f q with ⟨rfl,h1⟩ | h1
   · rw [h1]; exact h (f,q) (by simp)
   · rw [h1]; exact FT.of_ok fun x hx=>h x (List.mem_cons_of_mem _ hx)
theorem TabOk.of {ng : Nat} {tab : FT} {l : List (Fid × PO)} (ht : tab = FT.of l) (h : ∀ x ∈ l,POok P ng x.1.val x.2) : TabOk P ng tab:=by
 intro f
 rw [ht]
 exact FT.of_ok h
inductive OkL (P : Program) (ng : Nat) : List (Fid × PO)→Prop where
 | nil : OkL P ng []
 | cons {f : Fid} {p : PO} {l : List (Fid × PO)} (h : POok P ng f.val p) (hs : OkL P ng l) : OkL P ng ((f,p) :: l)
theorem OkL.all {ng : Nat} {l : List (Fid × PO)} (h : OkL P ng l) : ∀ x ∈ l,POok P ng x.1.val x.2:=by
 induction h with
 | nil=>intro x hx; cases hx
 | cons h _ ih=>
   intro x hx
   rcases List.mem_cons.1 hx with rfl | hx
   · exact h
   · exact ih x hx
theorem TabOk.of2 {ng : Nat} {tab : FT} {l : List (Fid × PO)} (ht : tab = FT.of l) (h : OkL P ng l) : TabOk P ng tab:=.of ht h.all
theorem TabOk.put {ng : Nat} {tab : FT} {f : Fid} {p : PO} (ok : TabOk P ng tab) (h : POok P ng f.val p) : TabOk P ng (tab.put f p):=by
 intro g
 rcases FT.get_put tab f g p with ⟨rfl,h1⟩ | h1
 · rw [h1]; exact h
 · rw [h1]; exact ok g
def yesV : V→Bool
 | .bool b=>b
 | _=>false
noncomputable def yes (r : Res) : Bool:=Res.rec (motive:=fun _=>Bool) false (fun _ _ _=>false) (fun v _=>yesV v) (fun _ _=>false) (fun _ _ a b=>Bool.rec (motive:=fun _=>Bool) false b a) r
theorem yes_alt {a b : Res} (h : yes (.alt a b) = true) : yes a = true∧yes b = true:=by
 have h : Bool.rec (motive:=fun _=>Bool) false (yes b) (yes a) = true:=h
 cases ha : yes a with
 | true=>rw [ha] at h; exact ⟨rfl,h⟩
 | false=>rw [ha] at h; cases h
theorem yes_fine : ∀ {r : Res},yes r = true→Fine r
 | .alt a b,h=>fun e=>e.elim (yes_fine (yes_alt h).1) (yes_fine (yes_alt h).2)
 | .fail,h=>by cases h
 | .done _ _ _,h=>by cases h
 | .ret _ _,h=>fun e=>by cases e
 | .pan _ _,h=>by cases h
theorem yes_leaf {x : Res} : ∀ {r : Res},yes r = true→Leaf x r→yes x = true
 | .alt a b,h,e=>e.elim (yes_leaf (yes_alt h).1) (yes_leaf (yes_alt h).2)
 | .fail,h,e=>by cases h
 | .done _ _ _,h,e=>by cases h
 | .ret _ _,h,e=>by cases e; exact h
 | .pan _ _,h,e=>by cases h
theorem yes_came {ρ : Rho} {h : Heap} {w : World} {e : Ending} {w' : World} {r : Res} (hy : yes r = true) (c : Came P ρ h w r e w') : ∃ h',Came P ρ h w (.ret (.bool true) h') e w':=by
 obtain ⟨x,h1,h2,h3⟩:=c.leaf
 have h4:=yes_leaf hy h1
 cases x with
 | ret v h'=>
   have h4 : yesV v = true:=h4
   cases v with
   | bool b=>
     have : b = true:=h4
     subst this
     exact ⟨h',h3⟩
   | _=>cases h4
 | alt a b=>exact h2.elim
 | _=>cases h4
def row1 : List V→T→Nat→Option T
 | [],t,_=>some t
 | v :: l,t,i=>(t.set i [v]).bind fun t'=>row1 l t' (i + 1)
end Go.Ev

/- InternBack, InternLoads: the table of functions. -/
namespace Go.Ev.WIB
open Go.Proofs
set_option maxRecDepth 100000
noncomputable section
abbrev e3tabA : PO:=.sh (sh3 words)
abbrev e4tabA : PO:=.sh (sh4 words)
abbrev e5tabA : PO:=.sh (sh5 words)
abbrev e6tabA : PO:=.sh (sh6 words)
abbrev e7tabA : PO:=.sh (sh7 words)
abbrev e8tabA : PO:=.sh (sh8 words)
abbrev e9tabA : PO:=.sh (sh9 words)
abbrev e10tabA : PO:=.sh (sh10 words)
abbrev e11tabA : PO:=.sh (sh11 words)
abbrev e12tabA : PO:=.sh (sh12 words)
abbrev e13tabA : PO:=.sh (sh13 words)
abbrev e14tabA : PO:=.sh (sh14 words)
abbrev e15tabA : PO:=.sh (sh15 words)
abbrev e16tabA : PO:=.sh (sh16 words)
abbrev e17tabA : PO:=.sh (sh17 words)
abbrev e18tabA : PO:=.sh (sh18 words)
abbrev e19tabA : PO:=.sh (sh19 words)
abbrev e20tabA : PO:=.sh (sh20 words)
abbrev e21tabA : PO:=.sh (sh21 words)
abbrev e22tabA : PO:=.sh (sh22 words)
abbrev e23tabA : PO:=.sh (sh23 words)
abbrev e24tabA : PO:=.sh (sh24 words)
abbrev e25tabA : PO:=.sh (sh25 words)
abbrev e26tabA : PO:=.sh (sh26 words)
abbrev e27tabA : PO:=.sh (sh27 words)
abbrev e28tabA : PO:=.sh (sh28 words)
abbrev e29tabA : PO:=.sh (sh29 words)
abbrev e30tabA : PO:=.sh (sh30 words)
abbrev e31tabA : PO:=.sh (sh31 words)
abbrev e32tabA : PO:=.sh (sh32 words)
abbrev e33tabA : PO:=.sh (sh33 words)
abbrev e34tabA : PO:=.sh (sh34 words)
abbrev e35tabA : PO:=.sh (sh35 words)
abbrev e36tabA : PO:=.sh (sh36 words)
abbrev e37tabA : PO:=.sh (sh37 words)
abbrev e38tabA : PO:=.sh (sh38 words)
abbrev e39tabA : PO:=.sh (sh39 words)
abbrev e40tabA : PO:=.sh (sh40 words)
abbrev e41tabA : PO:=.sh (sh41 words)
abbrev e42tabA : PO:=.sh (sh42 words)
abbrev e43tabA : PO:=.sh (sh43 words)
abbrev e44tabA : PO:=.sh (sh44 words)
abbrev e45tabA : PO:=.sh (sh45 words)
abbrev e46tabA : PO:=.sh (sh46 words)
abbrev e47tabA : PO:=.sh (sh47 words)
abbrev e48tabA : PO:=.sh (sh48 words)
abbrev e49tabA : PO:=.sh (sh49 words)
abbrev e50tabA : PO:=.sh (sh50 words)
abbrev e51tabA : PO:=.sh (sh51 words)
abbrev e52tabA : PO:=.sh (sh52 words)
abbrev e53tabA : PO:=.sh (sh53 words)
abbrev e54tabA : PO:=.sh (sh54 words)
abbrev e58tabA : PO:=.sh (sh58 words)
abbrev e59tabA : PO:=.sh (sh59 words)
abbrev e60tabA : PO:=.sh (sh60 words)
abbrev e61tabA : PO:=.sh (sh61 words)
abbrev e62tabA : PO:=.sh (sh62 words)
abbrev e63tabA : PO:=.sh (sh63 words)
abbrev e67tabA : PO:=.sh (sh67 words)
def tabAz1 : Go.Ev.N PO:=⟨.no,.no,.no,.no,.no,.no,.no,.no,.no,.no,.no,.no,.no,.no,.no,.no⟩
def tabAz2 : Go.Ev.N (Go.Ev.N PO):=⟨tabAz1,tabAz1,tabAz1,tabAz1,tabAz1,tabAz1,tabAz1,tabAz1,tabAz1,tabAz1,tabAz1,tabAz1,tabAz1,tabAz1,tabAz1,tabAz1⟩
def tabAz3 : Go.Ev.N (Go.Ev.N (Go.Ev.N PO)):=⟨tabAz2,tabAz2,tabAz2,tabAz2,tabAz2,tabAz2,tabAz2,tabAz2,tabAz2,tabAz2,tabAz2,tabAz2,tabAz2,tabAz2,tabAz2,tabAz2⟩
def tabA1_000 : Go.Ev.N PO:=⟨.no,.no,.no,e3tabA,e4tabA,e5tabA,e6tabA,e7tabA,e8tabA,e9tabA,e10tabA,e11tabA,e12tabA,e13tabA,e14tabA,e15tabA⟩
def tabA1_001 : Go.Ev.N PO:=⟨e16tabA,e17tabA,e18tabA,e19tabA,e20tabA,e21tabA,e22tabA,e23tabA,e24tabA,e25tabA,e26tabA,e27tabA,e28tabA,e29tabA,e30tabA,e31tabA⟩
def tabA1_002 : Go.Ev.N PO:=⟨e32tabA,e33tabA,e34tabA,e35tabA,e36tabA,e37tabA,e38tabA,e39tabA,e40tabA,e41tabA,e42tabA,e43tabA,e44tabA,e45tabA,e46tabA,e47tabA⟩
def tabA1_003 : Go.Ev.N PO:=⟨e48tabA,e49tabA,e50tabA,e51tabA,e52tabA,e53tabA,e54tabA,.no,.no,.no,e58tabA,e59tabA,e60tabA,e61tabA,e62tabA,e63tabA⟩
def tabA1_004 : Go.Ev.N PO:=⟨.no,.no,.no,e67tabA,.no,.no,.no,.no,.no,.no,.no,.no,.no,.no,.no,.no⟩
def tabA2_00 : Go.Ev.N (Go.Ev.N PO):=⟨tabA1_000,tabA1_001,tabA1_002,tabA1_003,tabA1_004,tabAz1,tabAz1,tabAz1,tabAz1,tabAz1,tabAz1,tabAz1,tabAz1,tabAz1,tabAz1,tabAz1⟩
def tabA3_0 : Go.Ev.N (Go.Ev.N (Go.Ev.N PO)):=⟨tabA2_00,tabAz2,tabAz2,tabAz2,tabAz2,tabAz2,tabAz2,tabAz2,tabAz2,tabAz2,tabAz2,tabAz2,tabAz2,tabAz2,tabAz2,tabAz2⟩
def tabA : FT:=⟨tabA3_0,tabAz3,tabAz3,tabAz3,tabAz3,tabAz3,tabAz3,tabAz3,tabAz3,tabAz3,tabAz3,tabAz3,tabAz3,tabAz3,tabAz3,tabAz3⟩
theorem tabAOk : TabOk Try.prog 0 tabA:=TabOk.of2 (l:=[(f3,e3tabA),(f4,e4tabA),(f5,e5tabA),(f6,e6tabA),(f7,e7tabA),(f8,e8tabA),(f9,e9tabA),(f10,e10tabA),(f11,e11tabA),(f12,e12tabA),(f13,e13tabA),(f14,e14tabA),(f15,e15tabA),(f16,e16tabA),(f17,e17tabA),(f18,e18tabA),(f19,e19tabA),(f20,e20tabA),(f21,e21tabA),(f22,e22tabA),(f23,e23tabA),(f24,e24tabA),(f25,e25tabA),(f26,e26tabA),(f27,e27tabA),(f28,e28tabA),(f29,e29tabA),(f30,e30tabA),(f31,e31tabA),(f32,e32tabA),(f33,e33tabA),(f34,e34tabA),(f35,e35tabA),(f36,e36tabA),(f37,e37tabA),(f38,e38tabA),(f39,e39tabA),(f40,e40tabA),(f41,e41tabA),(f42,e42tabA),(f43,e43tabA),(f44,e44tabA),(f45,e45tabA),(f46,e46tabA),(f47,e47tabA),(f48,e48tabA),(f49,e49tabA),(f50,e50tabA),(f51,e51tabA),(f52,e52tabA),(f53,e53tabA),(f54,e54tabA),(f58,e58tabA),(f59,e59tabA),(f60,e60tabA),(f61,e61tabA),(f62,e62tabA),(f63,e63tabA),(f67,e67tabA)]) (by kernel_rfl) (OkL.cons (po3) (OkL.cons (po4) (OkL.cons (po5) (OkL.cons (po6) (OkL.cons (po7) (OkL.cons (po8) (OkL.cons (po9) (OkL.cons (po10) (OkL.cons (po11) (OkL.cons (po12) (OkL.cons (po13) (OkL.cons (po14) (OkL.cons (po15) (OkL.cons (po16) (OkL.cons (po17) (OkL.cons (po18) (OkL.cons (po19) (OkL.cons (po20) (OkL.cons (po21) (OkL.cons (po22) (OkL.cons (po23) (OkL.cons (po24) (OkL.cons (po25) (OkL.cons (po26) (OkL.cons (po27) (OkL.cons (po28) (OkL.cons (po29) (OkL.cons (po30) (OkL.cons (po31) (OkL.cons (po32) (OkL.cons (po33) (OkL.cons (po34) (OkL.cons (po35) (OkL.cons (po36) (OkL.cons (po37) (OkL.cons (po38) (OkL.cons (po39) (OkL.cons (po40) (OkL.cons (po41) (OkL.cons (po42) (OkL.cons (po43) (OkL.cons (po44) (OkL.cons (po45) (OkL.cons (po46) (OkL.cons (po47) (OkL.cons (po48) (OkL.cons (po49) (OkL.cons (po50) (OkL.cons (po51) (OkL.cons (po52) (OkL.cons (po53) (OkL.cons (po54) (OkL.cons (po58) (OkL.cons (po59) (OkL.cons (po60) (OkL.cons (po61) (OkL.cons (po62) (OkL.cons (po63) (OkL.cons (po67) (.nil))))))))))))))))))))))))))))))))))))))))))))))))))))))))))))
end
end Go.Ev.WIB

/- EVALUATOR: a call out of a memory of which nothing is known. -/
namespace Go.Ev
open Go.RowKit
variable {P : Program}
theorem RH.below {ρ : Rho} {h : Heap} {w w' : World} (r : RH P ρ h w) (b : Below w.heap.size w w') : RH P ρ h w' where
 lt b' c z S hb:=Nat.lt_of_lt_of_le (r.lt b' c z S hb) b.size
 fresh:=r.fresh
 inj:=r.inj
 arr b' c z S g n t ro hb ht:=by
  obtain ⟨cs,ha⟩:=r.arr b' c z S g n t ro hb ht
  obtain ⟨el,fz,h1,h2⟩:=ha.at_
  exact ⟨cs,ha.pos,⟨el,fz,by rw [b.block c (r.lt _ _ _ _ hb)]; exact h1,h2⟩,ha.size,ha.fits,ha.cells⟩
 ob b' c z S x hb ht:=by
  obtain ⟨o,h1,h2,h3⟩:=r.ob b' c z S x hb ht
  exact ⟨o,by rw [b.block c (r.lt _ _ _ _ hb)]; exact h1,h2,h3⟩
 itr p c z S m s q l hb ht:=(r.itr p c z S m s q l hb ht).stay fun k hk=>b.block k hk
theorem came_of {ρ : Rho} {h : Heap} {w w' : World} (r : RH P ρ h w) {v : V} {y : Value} (hv : VR ρ v y) {e : Ending} (he : e = .returned y∧Below w.heap.size w w') : Came P ρ h w (.ret v h) e w':=by
 obtain ⟨rfl,b⟩:=he
 exact ⟨ρ,y,rfl,hv,r.below b,.refl _,Nat.le_refl _,b.os,b.tape,b.output,b.size,fun c hc hn=>⟨b.block c hc,hn⟩,fun _ _ hb=>⟨hb,rfl⟩⟩
open Classical in
noncomputable def voidRho (ng : Nat) : Rho:=fun b=>if b.val < ng then some (b.val,0,0) else none
theorem HT.get_nil (b : Bid) : HT.get [] b = .none:=HT.get_empty b
theorem void_rh {w : World} {nx : Bid} (hn : nx.val ≤ w.heap.size) : RH P (voidRho nx.val) ⟨[],nx⟩ w:=by
 refine ⟨fun b c z S h=>?_,fun b hb=>⟨?_,HT.get_nil b⟩,fun b b' c z S z' S' hb=>(by rw [show (Heap.mk [] nx).t.get b = .none from HT.get_nil b] at hb; cases hb),fun b c z S g n t ro _ h=>?_,fun b c z S x _ h=>?_,fun p c z S m s q l _ h=>absurd ((HT.get_nil p).symm.trans h) (by intro e; cases e)⟩
 · unfold voidRho at h
   split at h
   · cases h; omega
   · cases h
 · unfold voidRho
   rw [if_neg]
   simpa using hb
 · exact absurd ((HT.get_nil b).symm.trans h) (by intro e; cases e)
 · exact absurd ((HT.get_nil b).symm.trans h) (by intro e; cases e)
theorem void_glob {ng : Nat} (hg : ∀ g,g < ng→(gid g).val = g) : GlobR (voidRho ng) ng:=by
 intro g h
 exact ⟨0,by unfold voidRho; rw [hg g h,if_pos h]⟩
theorem void_wr {nx : Bid} (c : Nat) : ¬ Wr (voidRho nx.val) ⟨[],nx⟩ c:=by
 rintro ⟨b,z,S,_,h⟩
 rw [show (Heap.mk [] nx).t.get b = .none from HT.get_nil b] at h
 cases h
def Yes0 (P : Program) (ng f : Nat) (args : List Value) : Prop:=∀ W : World,ng ≤ W.heap.size→Calls P f args.toArray W fun e w'=>e = .returned (.bool true)∧Below W.heap.size W w'
theorem yes0 {tab : FT} {nx : Bid} {f : Fid} {n d : Nat} {l : List V} {args : List Value} (ok : TabOk P nx.val tab) (hy : yes (call tab n d f l ⟨[],nx⟩) = true) (hg : ∀ g,g < nx.val→(gid g).val = g) (hl : ∀ ρ,VRs ρ l args) (h32 : f.val < 32768:=by decide) : Yes0 P nx.val f.val args:=by
 intro W hW
 obtain ⟨_,c⟩:=(call_ok ok (n:=n) d f).1 h32 _ _ _ rfl (yes_fine hy)
 refine (c _ W args (hl _) (void_rh hW) (void_glob hg)).mono fun e w' hc=>?_
 obtain ⟨_,ρ',y,rfl,hy,_,hx⟩:=yes_came hy hc
 cases hy
 exact ⟨rfl,hx.os,hx.tape,hx.output,hx.size,fun k hk=>(hx.keep k hk (void_wr k)).1⟩
theorem glob_size {ρ : Rho} {h : Heap} {w : World} {ng : Nat} (rh : RH P ρ h w) (hg : GlobR ρ ng) : ng ≤ w.heap.size:=by
 cases ng with
 | zero=>exact Nat.zero_le _
 | succ g=>
   obtain ⟨S,h1⟩:=hg g (by omega)
   exact rh.lt _ _ _ _ h1
noncomputable def orcY (l : List V) (h : Heap) : Res:=nilk' l (.ret (.bool .true) h)
theorem fnok_Y {ng f : Nat} (hf : Enters P f) (y : Yes0 P ng f []) (h32 : f < 32768:=by decide) : CallOk P ng f orcY:=by
 refine .fn ?_ h32
 intro l h r hh hr
 refine ⟨hf,fun ρ w args hl rh hg=>?_⟩
 obtain ⟨rfl,h3⟩:=nilk'_ok hh hr.ne
 cases hl
 subst h3
 exact (y w (glob_size rh hg)).mono fun e w' hc=>came_of rh (.bool true) hc
theorem enters_of {f : Nat} {fn : Func} (hf : P.funcs[f]? = some fn) (hb : fn.body.isSome = true) (hn : (fn.name == "runtime.NumGoroutine") = false) : Enters P f:=by
 obtain ⟨c,hc⟩:=Option.isSome_iff_exists.1 hb
 exact ⟨fn,c,hf,hc,hn⟩
inductive Pa where
 | str (l n : Nat)
 | int (k : IntKind) (n : Int)
def Pa.v : Pa→V
 | .str l n=>.str l n
 | .int k n=>.int k n
noncomputable def Pa.at (p : Pa) (v : V) (y n : Res) : Res:=
 Pa.rec (motive:=fun _=>Res) (fun a b=>strk v fun a' b'=>ifk (Nat.beq a' a) (ifk (Nat.beq b' b) y n) n) (fun k z=>intk v fun k' z'=>ifk (Nat.beq (kno k') (kno k)) (ifk (ieq z' z) y n) n) p
theorem Pa.vr (p : Pa) {ρ ρ' : Rho} {x : Value} (h : VR ρ p.v x) : VR ρ' p.v x:=by
 cases p with
 | str a b=>cases h with | str h1 h2=>exact .str h1 h2
 | int k z=>cases h; exact .int k z
end Go.Ev

/- EVALUATOR: calls with known data as arguments, reached through slices and pointers. -/
namespace Go.Ev
open Go.RowKit
variable {P : Program}
inductive Lt where
 | int (k : IntKind) (n : Int)
 | str (l n : Nat)
 | bool (b : Bool)
 | nils
 | nilp
def Lt.v : Lt→V
 | .int k n=>.int k n
 | .str l n=>.str l n
 | .bool b=>.bool b
 | .nils=>.nils
 | .nilp=>.nilp
noncomputable def Lt.mk (a : Lt) (v : V) (y n : Res) : Res:=
 Lt.rec (motive:=fun _=>Res) (fun k z=>intk v fun k' z'=>ifk (Nat.beq (kno k') (kno k)) (ifk (ieq z' z) y n) n) (fun a b=>strk v fun a' b'=>ifk (Nat.beq a' a) (ifk (Nat.beq b' b) y n) n)
  (fun b=>boolk v fun b'=>ifk b' (ifk b y n) (ifk b n y)) (slk v (fun _ _ _ _ _=>n) y n) (pnk v fun b=>ifk b y n) a
inductive Dt where
 | lit (a : Lt)
 | nil
 | cons (a b : Dt)
 | agg (n : Nat) (d : Dt)
 | sl (g n l : Nat) (c : Option Nat) (s : Nat) (d : Dt)
 | ptr (g n : Nat) (d : Dt)
structure Lies (w : World) (c z S m : Nat) (ys : List Value) : Prop where
 at_ : ∃ cs el fz,w.heap[c]? = some (.cells cs el fz)∧cs.size = S∧∀ i y,ys[i]? = some y→cs[z + i]? = some y∧y.oneCell' = true
 len : ys.length = m
 pos : 0 < m
def Dt.rep (w : World) : Dt→List Value→Prop
 | .lit a,xs=>∃ x,xs = [x]∧∀ ρ,VR ρ a.v x
 | .nil,xs=>xs = []
 | .cons a b,xs=>∃ p q,xs = p ++ q∧a.rep w p∧b.rep w q
 | .agg n d,xs=>∃ cs,xs = [.agg cs]∧d.rep w cs.toList∧(∀ x ∈ cs.toList,x.oneCell' = true)∧cs.toList.length = n
 | .sl g n l c s d,xs=>∃ b z S cap ys,xs = [.slice (some ⟨b,z,none⟩) l cap]∧(∀ m,c = some m→cap = m)∧(c = none→z + cap * s = S)∧l ≤ cap∧Lies w b z S (n * g) ys∧d.rep w ys
 | .ptr g n d,xs=>∃ b z S ys,xs = [.pointer (some ⟨b,z,none⟩)]∧Lies w b z S (n * g) ys∧d.rep w ys
theorem VRs.len {ρ : Rho} : ∀ {l : List V} {xs : List Value},VRs ρ l xs→l.length = xs.length
 | [],_,h=>by cases h; rfl
 | _ :: _,_,h=>by cases h with | cons h1 h2=>simp [VRs.len h2]
theorem VRs.app {ρ : Rho} : ∀ {l m : List V} {xs ys : List Value},VRs ρ l xs→VRs ρ m ys→VRs ρ (l ++ m) (xs ++ ys)
 | [],_,_,_,h,h'=>by cases h; exact h'
 | _ :: _,_,_,_,h,h'=>by cases h with | cons h1 h2=>exact .cons h1 (VRs.app h2 h')
theorem VRs.at_ {ρ : Rho} : ∀ {l : List V} {xs : List Value},VRs ρ l xs→∀ (i : Nat) v,l[i]? = some v→∃ x,xs[i]? = some x∧VR ρ v x
 | [],_,_,i,v,h=>by simp at h
 | _ :: _,_,h,0,v,h'=>by cases h with | cons h1 h2=>simp at h'; subst h'; exact ⟨_,by simp,h1⟩
 | _ :: _,_,h,i + 1,v,h'=>by cases h with | cons h1 h2=>simpa using VRs.at_ h2 i v (by simpa using h')
theorem RH.view {ρ : Rho} {h : Heap} {w : World} (r : RH P ρ h w) (nw : ∀ c,¬ Wr ρ h c) {g n : Nat} (hg : 0 < g) {cells : List V} {t : T} (hl : cells.length = n * g)
 (ht : ∀ j,t.get j = if 0 ≤ j∧j < 0 + n then some ((cells.drop ((j - 0) * g)).take g) else T.e.get j) {c z S : Nat} {ys : List Value} (L : Lies w c z S (n * g) ys) (v : VRs ρ cells ys) :
 ρ.le (ρ.put h.nx (c,z,S))∧RH P (ρ.put h.nx (c,z,S)) (h.new (.arr g n t true) h.nx.nxt) w∧∀ c',¬ Wr (ρ.put h.nx (c,z,S)) (h.new (.arr g n t true) h.nx.nxt) c':=by
 have hv:=h.nx.nxt_val
 have hf:=r.fresh h.nx (Nat.le_refl _)
 have hle:=Rho.le_put (ρ:=ρ) hf.1 (c,z,S)
 have get_nx : (h.new (.arr g n t true) h.nx.nxt).t.get h.nx = .arr g n t true:=by simp only [Heap.new]; rw [HT.get_set]
 have get_old : ∀ b,b ≠ h.nx→(h.new (.arr g n t true) h.nx.nxt).t.get b = h.t.get b:=fun b hb=>by simp only [Heap.new]; rw [HT.get_set_ne _ hb]
 obtain ⟨cs,el,fz,h1,h2,h3⟩:=L.at_
 have hnw : ∀ c',¬ Wr (ρ.put h.nx (c,z,S)) (h.new (.arr g n t true) h.nx.nxt) c':=by
  rintro c' ⟨b,z',S',hb,hwr⟩
  by_cases e : b = h.nx
  · subst e; rw [get_nx] at hwr; cases hwr
  · rw [Rho.put_ne e] at hb; rw [get_old b e] at hwr; exact nw c' ⟨b,z',S',hb,hwr⟩
 refine ⟨hle,⟨?_,?_,?_,?_,?_,?_⟩,hnw⟩
 · intro b c' z' S' hb
   by_cases e : b = h.nx
   · subst e; rw [Rho.put_same] at hb; cases hb; exact (Array.getElem?_eq_some_iff.1 h1).1
   · rw [Rho.put_ne e] at hb; exact r.lt _ _ _ _ hb
 · intro b hb
   have hb' : h.nx.nxt.val ≤ b.val:=hb
   have e : b ≠ h.nx:=by rintro rfl; omega
   rw [Rho.put_ne e,get_old b e]
   exact r.fresh b (by omega)
 · intro b b' c' z1 S1 z2 S2 hw _ hb _
   exact absurd ⟨b,z1,S1,hb,hw⟩ (hnw c')
 · intro b c' z' S' g' n' t' ro' hb hx
   by_cases e : b = h.nx
   · subst e
     rw [get_nx] at hx; cases hx
     rw [Rho.put_same] at hb; cases hb
     have hlen:=v.len
     refine ⟨cs,hg,⟨el,fz,h1,fun h=>by cases h⟩,h2,?_,fun j ch hj=>?_⟩
     · have hp:=L.pos
       have : (n * g - 1) < ys.length:=by rw [L.len]; omega
       obtain ⟨h4,_⟩:=h3 (n * g - 1) ys[n * g - 1] (by simp [this])
       have:=(Array.getElem?_eq_some_iff.1 h4).1
       omega
     · rw [ht] at hj
       split at hj
       · rename_i hjn
         cases hj
         have hj' : j < n:=by omega
         have hm : (j + 1) * g ≤ n * g:=Nat.mul_le_mul_right g hj'
         rw [Nat.succ_mul] at hm
         refine ⟨hj',by simp only [Nat.sub_zero,List.length_take,List.length_drop]; omega,fun i u hi=>?_⟩
         rw [List.getElem?_take] at hi
         split at hi
         · rw [List.getElem?_drop] at hi
           obtain ⟨x,h5,h6⟩:=v.at_ _ _ hi
           obtain ⟨h7,h8⟩:=h3 _ _ h5
           refine ⟨x,?_,h6.mono hle,h8⟩
           rw [← h7]; congr 1; simp only [Nat.sub_zero]; omega
         · cases hi
       · simp [T.get] at hj
   · rw [Rho.put_ne e] at hb
     rw [get_old b e] at hx
     obtain ⟨cs',ha⟩:=r.arr _ _ _ _ _ _ _ _ hb hx
     exact ⟨cs',ha.mono hle rfl⟩
 · intro b c' z' S' x hb hx
   by_cases e : b = h.nx
   · subst e; rw [get_nx] at hx; cases hx
   · rw [Rho.put_ne e] at hb
     rw [get_old b e] at hx
     obtain ⟨o,h4,h5,h6⟩:=r.ob _ _ _ _ _ hb hx
     exact ⟨o,h4,h5.mono hle,h6⟩
 · intro p c' z' S' m s q l hb hx
   by_cases e : p = h.nx
   · subst e; rw [get_nx] at hx; cases hx
   · rw [Rho.put_ne e] at hb
     rw [get_old p e] at hx
     exact (r.itr _ _ _ _ _ _ _ _ hb hx).mono hle
end Go.Ev

/- EVALUATOR: what the words come to on a memory that is known: laws for proofs over all inputs. -/
namespace Go.Ev
inductive Shape : T→Nat→Prop where
 | e : Shape .e 0
 | lf (c : List V) : Shape (.lf c) 1
 | nd {a b : T} {n : Nat} (h : 2 ≤ n) (ha : Shape a ((n + 1) / 2)) (hb : Shape b (n / 2)) : Shape (.nd a b) n
theorem Shape.get {t : T} {n : Nat} (h : Shape t n) : ∀ {i : Nat},i < n→∃ c,t.get i = some c:=by
 induction h with
 | e=>intro i hi; omega
 | lf c=>intro i hi; exact ⟨c,by simp [T.get]; omega⟩
 | nd h _ _ iha ihb=>
   intro i hi
   simp only [T.get]
   split
   · exact iha (by omega)
   · exact ihb (by omega)
theorem Shape.get_lt {t : T} {n : Nat} (h : Shape t n) : ∀ {i : Nat} {c : List V},t.get i = some c→i < n:=by
 induction h with
 | e=>intro i c hi; simp [T.get] at hi
 | lf c=>intro i c' hi; simp only [T.get] at hi; split at hi <;> first | omega | cases hi
 | nd h _ _ iha ihb=>
   intro i c hi
   simp only [T.get] at hi
   split at hi
   · have:=iha hi; omega
   · have:=ihb hi; omega
theorem Shape.set {t : T} {n : Nat} (h : Shape t n) (c : List V) : ∀ {i : Nat},i ≤ n→∃ t',t.set i c = some t'∧Shape t' (max n (i + 1)):=by
 induction h with
 | e=>
   intro i hi
   obtain rfl : i = 0:=by omega
   exact ⟨_,rfl,.lf c⟩
 | lf c0=>
   intro i hi
   rcases (by omega : i = 0 ∨ i = 1) with rfl | rfl
   · exact ⟨_,rfl,.lf c⟩
   · exact ⟨_,rfl,.nd (by decide) (.lf c0) (.lf c)⟩
 | @nd a b n h ha hb iha ihb=>
   intro i hi
   simp only [T.set]
   by_cases h0 : i % 2 = 0
   · rw [if_pos h0]
     obtain ⟨a',h1,h2⟩:=iha (i:=i / 2) (by omega)
     refine ⟨_,by rw [h1]; rfl,.nd (by omega) ?_ ?_⟩
     · have e : (max n (i + 1) + 1) / 2 = max ((n + 1) / 2) (i / 2 + 1):=by omega
       rw [e]; exact h2
     · have e : max n (i + 1) / 2 = n / 2:=by omega
       rw [e]; exact hb
   · rw [if_neg h0]
     obtain ⟨b',h1,h2⟩:=ihb (i:=i / 2) (by omega)
     refine ⟨_,by rw [h1]; rfl,.nd (by omega) ?_ ?_⟩
     · have e : (max n (i + 1) + 1) / 2 = (n + 1) / 2:=by omega
       rw [e]; exact ha
     · have e : max n (i + 1) / 2 = max (n / 2) (i / 2 + 1):=by omega
       rw [e]; exact h2
theorem Shape.rep (c : List V) : ∀ {f n : Nat},n ≤ f→Shape (T.rep c f n) n
 | 0,n,h=>by obtain rfl : n = 0:=by omega
             exact .e
 | f + 1,n,h=>by
   simp only [T.rep]
   split
   · rename_i h0; subst h0; exact .e
   · split
     · rename_i h1; subst h1; exact .lf c
     · exact .nd (by omega) (Shape.rep c (by omega)) (Shape.rep c (by omega))
structure Wf (t : T) (g n : Nat) : Prop where
 pos : 0 < g
 shape : Shape t n
 len : ∀ j ch,t.get j = some ch→ch.length = g
theorem Wf.cell {t : T} {g n : Nat} (h : Wf t g n) {i : Nat} (hi : i < n * g) : ∃ v,t.cell g i = some v:=by
 obtain ⟨c,h1⟩:=h.shape.get (i:=i / g) (Nat.div_lt_of_lt_mul (by rw [Nat.mul_comm]; exact hi))
 have h2:=h.len _ _ h1
 have h3:=Nat.mod_lt i h.pos
 exact ⟨c[i % g],by simp [T.cell,h1,List.getElem?_eq_getElem (show i % g < c.length by omega)]⟩
theorem Wf.cell_lt {t : T} {g n : Nat} (h : Wf t g n) {i : Nat} {v : V} (hi : t.cell g i = some v) : i < n * g:=by
 obtain ⟨c,h1,_⟩:=Option.bind_eq_some_iff.1 hi
 have h2:=h.shape.get_lt h1
 have h3 : (i / g + 1) * g ≤ n * g:=Nat.mul_le_mul_right g h2
 have h4:=Nat.div_add_mod i g
 have h5:=Nat.mod_lt i h.pos
 rw [Nat.succ_mul,Nat.mul_comm (i / g) g] at h3
 omega
theorem div_range {g i q : Nat} (h1 : g * q ≤ i) (h2 : i < g * q + g) : i / g = q:=
 Nat.div_eq_of_lt_le (by rw [Nat.mul_comm]; exact h1) (by rw [Nat.succ_mul,Nat.mul_comm q g]; exact h2)
theorem takek_eq {n : Nat} {l : List V} (h : n ≤ l.length) (k : List V→List V→Res) : takek n l k = k (l.take n) (l.drop n):=by
 induction n generalizing l k with
 | zero=>simp only [List.take_zero,List.drop_zero]; rfl
 | succ n ih=>
   cases l with
   | nil=>simp at h
   | cons v l=>exact (ih (by simpa using h) fun a b=>k (v :: a) b).trans (by simp)
theorem nthk_eq {l : List V} {i : Nat} {v : V} (h : l[i]? = some v) (k : V→Res) : nthk l i k = k v:=by
 induction l generalizing i with
 | nil=>simp at h
 | cons u l ih=>
   cases i with
   | zero=>simp at h; subst h; rfl
   | succ i=>exact ih (by simpa using h)
structure RowO (op : Bool) (x : Blk) (g : Nat) (cs : List V) : Prop where
 is : ∃ n t,x = .arr g n t op∧Wf t g n∧cs.length = n * g∧∀ i,t.cell g i = cs[i]?
abbrev Row:=RowO false
theorem gatherk_law {t : T} {g m : Nat} (w : Wf t g m) {cs : List V} (hc : ∀ i,t.cell g i = cs[i]?) (hl : cs.length = m * g) : ∀ {f o n : Nat} (k : List V→Res),0 < n→n ≤ f→o + n ≤ cs.length →
 gatherk t g f o n k = k ((cs.drop o).take n)
 | 0,o,n,k,h1,h2,_=>by omega
 | f + 1,o,n,k,h1,h2,h3=>by
   show (t.getk (o / g) fun ch=>takek (o % g) ch fun _ rest=>ifk (Nat.ble n (g - o % g)) (takek n rest fun p _=>k p)
    (gatherk t g f (o + (g - o % g)) (n - (g - o % g)) fun q=>appk rest q k)) = _
   have hpos:=w.pos
   have hmod:=Nat.mod_lt o hpos
   have hdm:=Nat.div_add_mod o g
   obtain ⟨ch,h4⟩:=w.shape.get (i:=o / g) (Nat.div_lt_of_lt_mul (by rw [Nat.mul_comm]; omega))
   have hlen:=w.len _ _ h4
   have hch : ∀ i,o % g + i < g→ch[o % g + i]? = cs[o + i]?:=by
    intro i hi
    have e1 : (o + i) / g = o / g:=by
     rw [show o + i = g * (o / g) + (o % g + i) by omega,Nat.mul_add_div hpos,Nat.div_eq_of_lt hi]; omega
    have e2 : (o + i) % g = o % g + i:=by
     rw [show o + i = g * (o / g) + (o % g + i) by omega,Nat.mul_add_mod,Nat.mod_eq_of_lt hi]
    rw [← hc,T.cell,e1,h4,e2]; rfl
   rw [T.getk_eq,h4]
   simp only
   rw [takek_eq (by omega),ifk_eq]
   split
   · rename_i hb
     have hb:=Nat.le_of_ble_eq_true hb
     rw [takek_eq (by simp; omega)]
     congr 1
     apply List.ext_getElem?
     intro i
     by_cases hi : i < n
     · rw [List.getElem?_take_of_lt hi,List.getElem?_take_of_lt hi,List.getElem?_drop,List.getElem?_drop,hch i (by omega)]
     · rw [List.getElem?_eq_none (by simp; omega),List.getElem?_eq_none (by simp; omega)]
   · rename_i hb
     have hb : ¬ n ≤ g - o % g:=fun h=>hb (Nat.ble_eq_true_of_le h)
     rw [gatherk_law w hc hl _ (by omega) (by omega) (by omega),appk_eq]
     congr 1
     apply List.ext_getElem?
     intro i
     by_cases hi : i < g - o % g
     · rw [List.getElem?_append_left (by simp; omega),List.getElem?_drop,List.getElem?_take_of_lt (by omega),List.getElem?_drop,hch i (by omega)]
     · rw [List.getElem?_append_right (by simp; omega)]
       simp only [List.length_drop,hlen]
       by_cases hn : i < n
       · rw [List.getElem?_take_of_lt (by omega),List.getElem?_take_of_lt hn,List.getElem?_drop,List.getElem?_drop]
         congr 1; omega
       · rw [List.getElem?_eq_none (by simp; omega),List.getElem?_eq_none (by simp; omega)]
theorem cellsk_law {t : T} {g m : Nat} (w : Wf t g m) {cs : List V} (hc : ∀ i,t.cell g i = cs[i]?) (hl : cs.length = m * g) {o n : Nat} (k : List V→Res) (h : o + n ≤ cs.length) :
 cellsk t g o n k = k ((cs.drop o).take n):=by
 unfold cellsk
 rw [zk_eq]
 split
 · rename_i h0; subst h0; simp
 · rename_i h0
   have hg : gatherk t g n o n k = k ((cs.drop o).take n):=gatherk_law w hc hl k (by omega) (Nat.le_refl _) h
   rw [ifk_eq]
   split
   · rename_i hb
     obtain rfl:=Nat.eq_of_beq_eq_true hb
     rw [zk_eq]
     split
     · rename_i hm
       have hm : o % n = 0:=hm
       have hdm:=Nat.div_add_mod o n
       obtain ⟨ch,h4⟩:=w.shape.get (i:=o / n) (Nat.div_lt_of_lt_mul (by rw [Nat.mul_comm]; omega))
       have hlen:=w.len _ _ h4
       show T.getk t (o / n) k = _
       rw [T.getk_eq,h4]
       simp only
       congr 1
       apply List.ext_getElem?
       intro i
       by_cases hi : i < n
       · rw [List.getElem?_take_of_lt hi,List.getElem?_drop,← hc,T.cell]
         have e1 : (o + i) / n = o / n:=by
          rw [show o + i = n * (o / n) + i by omega,Nat.mul_add_div w.pos,Nat.div_eq_of_lt hi]; omega
         have e2 : (o + i) % n = i:=by
          rw [show o + i = n * (o / n) + i by omega,Nat.mul_add_mod,Nat.mod_eq_of_lt hi]
         rw [e1,e2,h4]; rfl
       · rw [List.getElem?_eq_none (by omega),List.getElem?_eq_none (by simp; omega)]
     · exact hg
   · exact hg
theorem Wf.set {t : T} {g m : Nat} (w : Wf t g m) {j : Nat} {ch : List V} (hj : j < m) (hl : ch.length = g) : ∃ t',t.set j ch = some t'∧Wf t' g m:=by
 obtain ⟨t',h1,h2⟩:=w.shape.set ch (i:=j) (by omega)
 refine ⟨t',h1,w.pos,by rwa [show max m (j + 1) = m by omega] at h2,fun i c hc=>?_⟩
 rw [T.get_set h1] at hc
 split at hc
 · cases hc; exact hl
 · exact w.len _ _ hc
theorem scatk_law {g m : Nat} : ∀ {f : Nat} {t : T} (_ : Wf t g m) {o n : Nat} {vs : List V},vs.length = n→0 < n→n ≤ f→o + n ≤ m * g →
 ∃ t',(∀ k,scatk g f t o n vs k = k t')∧Wf t' g m∧∀ i,t'.cell g i = if o ≤ i∧i < o + n then vs[i - o]? else t.cell g i
 | 0,t,w,o,n,vs,h0,h1,h2,_=>by omega
 | f + 1,t,w,o,n,vs,h0,h1,h2,h3=>by
   have hpos:=w.pos
   have hmod:=Nat.mod_lt o hpos
   have hdm:=Nat.div_add_mod o g
   have hlt : o / g < m:=Nat.div_lt_of_lt_mul (by rw [Nat.mul_comm]; omega)
   obtain ⟨ch,h4⟩:=w.shape.get hlt
   have hlen:=w.len _ _ h4
   have hdiv : ∀ i,i / g = o / g ↔ g * (o / g) ≤ i∧i < g * (o / g) + g:=by
    intro i
    have hi:=Nat.div_add_mod i g
    have him:=Nat.mod_lt i hpos
    constructor
    · intro e; rw [e] at hi; omega
    · intro ⟨ha,hb⟩
      exact div_range ha hb
   have hmd : ∀ i,i / g = o / g→i % g = i - g * (o / g):=by
    intro i e
    have hi:=Nat.div_add_mod i g
    rw [e] at hi; omega
   have unf : ∀ k,scatk g (f + 1) t o n vs k = if Nat.ble n (g - o % g) then (takek n (ch.drop (o % g)) fun _ b=>appk vs b fun c=>appk (ch.take (o % g)) c fun ch'=>t.setk (o / g) ch' k)
    else (takek (g - o % g) vs fun p q=>appk (ch.take (o % g)) p fun ch'=>t.setk (o / g) ch' fun t'=>scatk g f t' (o + (g - o % g)) (n - (g - o % g)) q k):=by
    intro k
    show (t.getk (o / g) fun ch=>takek (o % g) ch fun a rest=>ifk (Nat.ble n (g - o % g)) (takek n rest fun _ b=>appk vs b fun c=>appk a c fun ch'=>t.setk (o / g) ch' k)
     (takek (g - o % g) vs fun p q=>appk a p fun ch'=>t.setk (o / g) ch' fun t'=>scatk g f t' (o + (g - o % g)) (n - (g - o % g)) q k)) = _
    rw [T.getk_eq,h4]
    simp only
    rw [takek_eq (by omega),ifk_eq]
   by_cases hb : n ≤ g - o % g
   · obtain ⟨t',h5,h6⟩:=w.set (j:=o / g) (ch:=ch.take (o % g) ++ (vs ++ (ch.drop (o % g)).drop n)) hlt (by simp; omega)
     refine ⟨t',fun k=>?_,h6,fun i=>?_⟩
     · rw [unf,if_pos (Nat.ble_eq_true_of_le hb),takek_eq (by simp; omega),appk_eq,appk_eq,T.setk_eq,h5]
     rw [cell_set h5]
     split
     · rename_i hi
       have hi2:=(hdiv i).1 hi
       rw [hmd i hi]
       by_cases h7 : o ≤ i∧i < o + n
       · rw [if_pos h7,List.getElem?_append_right (by simp; omega),List.getElem?_append_left (by simp; omega)]
         congr 1; simp; omega
       · rw [if_neg h7,T.cell,hi,h4,hmd i hi]
         simp only [Option.bind_some]
         by_cases h8 : i < o
         · rw [List.getElem?_append_left (by simp; omega),List.getElem?_take_of_lt (by omega)]
         · rw [List.getElem?_append_right (by simp; omega),List.getElem?_append_right (by simp; omega),List.drop_drop,List.getElem?_drop]
           congr 1; simp; omega
     · rename_i hi
       rw [if_neg]
       intro ⟨h7,h8⟩
       exact hi ((hdiv i).2 (by omega))
   · obtain ⟨t1,h5,h6⟩:=w.set (j:=o / g) (ch:=ch.take (o % g) ++ vs.take (g - o % g)) hlt (by simp; omega)
     obtain ⟨t',h7,h8,h9⟩:=scatk_law (f:=f) h6 (o:=o + (g - o % g)) (n:=n - (g - o % g)) (vs:=vs.drop (g - o % g)) (by simp; omega) (by omega) (by omega) (by omega)
     refine ⟨t',fun k=>?_,h8,fun i=>?_⟩
     · rw [unf,if_neg (fun h=>hb (Nat.le_of_ble_eq_true h)),takek_eq (by omega),appk_eq,T.setk_eq,h5]
       exact h7 k
     rw [h9]
     by_cases hA : o + (g - o % g) ≤ i∧i < o + (g - o % g) + (n - (g - o % g))
     · rw [if_pos hA,if_pos (by omega),List.getElem?_drop]
       congr 1; omega
     · rw [if_neg hA,cell_set h5]
       split
       · rename_i hi
         have hi2:=(hdiv i).1 hi
         rw [hmd i hi]
         by_cases h10 : o ≤ i
         · rw [if_pos (by omega),List.getElem?_append_right (by simp; omega),List.getElem?_take_of_lt (by simp; omega)]
           congr 1; simp; omega
         · rw [if_neg (by omega),List.getElem?_append_left (by simp; omega),List.getElem?_take_of_lt (by omega),T.cell,hi,h4,hmd i hi]
           rfl
       · rename_i hi
         rw [if_neg]
         intro ⟨h10,h11⟩
         have:=(hdiv i).2
         exact hi (this (by omega))
theorem putk_law {t : T} {g m : Nat} (w : Wf t g m) {o n : Nat} {vs : List V} (hv : vs.length = n) (h : o + n ≤ m * g) :
 ∃ t',(∀ k,putk t g m o n vs k = k t')∧Wf t' g m∧∀ i,t'.cell g i = if o ≤ i∧i < o + n then vs[i - o]? else t.cell g i:=by
 by_cases h0 : n = 0
 · subst h0
   exact ⟨t,fun k=>rfl,w,fun i=>by rw [if_neg (by omega)]⟩
 · have unf : ∀ k,putk t g m o n vs k = ifk (Nat.beq n g) (zk (o % g) (t.setk (o / g) vs k) (scatk g n t o n vs k)) (scatk g n t o n vs k):=by
    intro k
    show zk n (k t) (ifk (Nat.ble (o + n) (m * g)) _ .fail) = _
    rw [zk_eq,if_neg h0,Nat.ble_eq_true_of_le h]; rfl
   obtain ⟨ts,hs1,hs2,hs3⟩:=scatk_law (f:=n) w (o:=o) hv (by omega) (Nat.le_refl _) h
   by_cases hb : n = g
   · subst hb
     by_cases hm : o % n = 0
     · have hdm:=Nat.div_add_mod o n
       have hlt : o / n < m:=Nat.div_lt_of_lt_mul (by rw [Nat.mul_comm]; omega)
       obtain ⟨t',h5,h6⟩:=w.set (j:=o / n) hlt hv
       refine ⟨t',fun k=>?_,h6,fun i=>?_⟩
       · rw [unf,Nat.beq_refl,hm]
         show T.setk t (o / n) vs k = _
         rw [T.setk_eq,h5]
       · rw [cell_set h5]
         have hi:=Nat.div_add_mod i n
         have him:=Nat.mod_lt i w.pos
         by_cases e : i / n = o / n
         · rw [if_pos e]
           rw [e] at hi
           rw [if_pos (by omega)]
           congr 1; omega
         · rw [if_neg e,if_neg]
           intro ⟨h7,h8⟩
           exact e (div_range (by omega) (by omega))
     · refine ⟨ts,fun k=>?_,hs2,hs3⟩
       rw [unf,Nat.beq_refl,ifk_eq,zk_eq,if_neg hm]
       exact hs1 k
   · refine ⟨ts,fun k=>?_,hs2,hs3⟩
     rw [unf,ifk_eq,if_neg (fun h=>hb (Nat.eq_of_beq_eq_true h))]
     exact hs1 k
theorem chopk_law {g : Nat} (hg : 0 < g) : ∀ {m i : Nat} {l : List V} {t : T} (_ : Wf t g i),l.length = m * g →
 ∃ t',(∀ k,chopk g m i l t k = k t')∧Wf t' g (i + m)∧∀ j,t'.cell g j = if i * g ≤ j then l[j - i * g]? else t.cell g j
 | 0,i,l,t,w,h=>by
   have : l = []:=List.length_eq_zero_iff.1 (by omega)
   subst this
   refine ⟨t,fun k=>rfl,w,fun j=>?_⟩
   split
   · rename_i hj
     cases hc : t.cell g j with
     | none=>simp
     | some v=>have:=w.cell_lt hc; omega
   · rfl
 | m + 1,i,l,t,w,h=>by
   have hl : g ≤ l.length:=by rw [h,Nat.succ_mul]; omega
   obtain ⟨t1,h1,h2⟩:=w.shape.set (l.take g) (Nat.le_refl i)
   have w1 : Wf t1 g (i + 1):=⟨hg,by rwa [show max i (i + 1) = i + 1 by omega] at h2,fun j c hc=>by
    rw [T.get_set h1] at hc
    split at hc
    · cases hc; simp; omega
    · exact w.len _ _ hc⟩
   obtain ⟨t',h3,h4,h5⟩:=chopk_law hg w1 (l:=l.drop g) (m:=m) (by rw [List.length_drop,h,Nat.succ_mul]; omega)
   refine ⟨t',fun k=>by
    show (takek g l fun c rest=>t.setk i c fun t'=>chopk g m (i + 1) rest t' k) = k t'
    rw [takek_eq hl,T.setk_eq,h1]
    exact h3 k,by rwa [show i + 1 + m = i + (m + 1) by omega] at h4,fun j=>?_⟩
   rw [h5,cell_set h1]
   have hi:=Nat.div_add_mod j g
   have him:=Nat.mod_lt j hg
   by_cases hA : (i + 1) * g ≤ j
   · rw [if_pos hA,if_pos (by rw [Nat.succ_mul] at hA; omega),List.getElem?_drop]
     congr 1
     rw [Nat.succ_mul] at hA ⊢
     omega
   · rw [if_neg hA]
     rw [Nat.succ_mul] at hA
     by_cases e : j / g = i
     · rw [if_pos e]
       rw [e,Nat.mul_comm] at hi
       rw [if_pos (by omega),List.getElem?_take_of_lt him]
       congr 1; omega
     · rw [if_neg e,if_neg]
       intro hB
       exact e (div_range (by rw [Nat.mul_comm]; exact hB) (by rw [Nat.mul_comm g i]; omega))
theorem wf_e {g : Nat} (hg : 0 < g) : Wf .e g 0:=⟨hg,.e,fun j ch h=>by simp [T.get] at h⟩
theorem rowk_law {g n : Nat} (hg : 0 < g) {l : List V} (hl : l.length = n * g) : ∃ t,(∀ k,rowk g n l k = k t)∧Row (.arr g n t false) g l:=by
 by_cases hb : n = 1
 · subst hb
   have hl' : l.length = g:=by omega
   refine ⟨.lf l,fun k=>?_,1,_,rfl,⟨hg,.lf l,fun j ch h=>?_⟩,hl,fun i=>?_⟩
   · show takek g l (fun _ rest=>List.rec (motive:=fun _=>Res) (k (.lf l)) (fun _ _ _=>.fail) rest) = _
     rw [takek_eq (by omega)]
     have : l.drop g = []:=List.drop_of_length_le (by omega)
     rw [this]
   · simp only [T.get] at h
     split at h <;> first | (cases h; exact hl') | cases h
   · simp only [T.cell,T.get]
     have hi:=Nat.div_add_mod i g
     have him:=Nat.mod_lt i hg
     split
     · rename_i h0
       rw [h0] at hi
       simp only [Option.bind_some]
       congr 1; omega
     · rename_i h0
       rw [List.getElem?_eq_none]
       · rfl
       · have:=(Nat.le_div_iff_mul_le hg).1 (Nat.one_le_iff_ne_zero.2 h0)
         omega
 · obtain ⟨t',h1,h2,h3⟩:=chopk_law hg (wf_e hg) hl
   refine ⟨t',fun k=>?_,n,t',rfl,by simpa using h2,hl,fun i=>?_⟩
   · unfold rowk
     rw [ifk_eq,if_neg (fun h=>hb (Nat.eq_of_beq_eq_true h))]
     exact h1 k
   · rw [h3]; simp
theorem Row.rep (c : List V) (hg : 0 < c.length) (n : Nat) : Row (.arr c.length n (repT c n n) false) c.length (List.replicate n c).flatten:=by
 refine ⟨n,_,rfl,⟨hg,by rw [repT_eq]; exact Shape.rep c (Nat.le_refl _),fun j ch h=>?_⟩,by simp,fun i=>?_⟩
 · rw [repT_eq,T.get_rep _ _ _ (Nat.le_refl _)] at h
   split at h <;> first | (cases h; rfl) | cases h
 · rw [flat_get rfl,T.cell,repT_eq,T.get_rep _ _ _ (Nat.le_refl _)]
   have hi:=Nat.div_add_mod i c.length
   have him:=Nat.mod_lt i hg
   by_cases h : i < n * c.length
   · rw [if_pos h,if_pos (Nat.div_lt_of_lt_mul (by rw [Nat.mul_comm]; exact h))]; rfl
   · rw [if_neg h,if_neg]
     · rfl
     · intro h2
       have : (i / c.length + 1) * c.length ≤ n * c.length:=Nat.mul_le_mul_right _ h2
       rw [Nat.succ_mul,Nat.mul_comm (i / c.length)] at this
       omega
theorem load1k_law {op : Bool} {h : Heap} {b : Bid} {g o : Nat} {cs : List V} {v : V} (a : RowO op (h.t.get b) g cs) (hv : cs[o]? = some v) (k : V→Res) : load1k h b o k = k v:=by
 obtain ⟨n,t,h1,h2,h3,h4⟩:=a.is
 unfold load1k
 rw [Heap.getk_eq,h1]
 show cellk t g o k = k v
 unfold cellk
 rw [T.getk_eq]
 have:=h4 o
 rw [hv] at this
 obtain ⟨ch,h5,h6⟩:=Option.bind_eq_some_iff.1 this
 rw [show t.get (Nat.div o g) = some ch from h5]
 exact nthk_eq h6 k
theorem loadk_law {op : Bool} {h : Heap} {b : Bid} {g o n : Nat} {cs : List V} (a : RowO op (h.t.get b) g cs) (hl : o + n ≤ cs.length) (k : List V→Res) : loadk h b o n k = k ((cs.drop o).take n):=by
 obtain ⟨m,t,h1,h2,h3,h4⟩:=a.is
 unfold loadk
 rw [Heap.getk_eq,h1]
 exact cellsk_law h2 h4 h3 k hl
def splice (cs : List V) (o : Nat) (vs : List V) : List V:=cs.take o ++ vs ++ cs.drop (o + vs.length)
theorem splice_length {cs vs : List V} {o : Nat} (h : o + vs.length ≤ cs.length) : (splice cs o vs).length = cs.length:=by simp [splice]; omega
theorem splice_get {cs vs : List V} {o : Nat} (h : o + vs.length ≤ cs.length) (i : Nat) : (splice cs o vs)[i]? = if o ≤ i∧i < o + vs.length then vs[i - o]? else cs[i]?:=by
 unfold splice
 by_cases h1 : i < o
 · rw [if_neg (by omega),List.append_assoc,List.getElem?_append_left (by simp; omega),List.getElem?_take_of_lt h1]
 · by_cases h2 : i < o + vs.length
   · rw [if_pos (by omega),List.getElem?_append_left (by simp; omega),List.getElem?_append_right (by simp; omega)]
     congr 1; simp; omega
   · rw [if_neg (by omega),List.getElem?_append_right (by simp; omega),List.getElem?_drop]
     congr 1; simp; omega
structure But (h : Heap) (b : Bid) (h' : Heap) : Prop where
 nx : h'.nx = h.nx
 get : ∀ b',b' ≠ b→h'.t.get b' = h.t.get b'
theorem storek_law {h : Heap} {b : Bid} {g o n : Nat} {cs vs : List V} (a : Row (h.t.get b) g cs) (hv : vs.length = n) (hl : o + n ≤ cs.length) :
 ∃ h',(∀ k,storek h b o n vs k = k h')∧Row (h'.t.get b) g (splice cs o vs)∧But h b h':=by
 obtain ⟨m,t,h1,h2,h3,h4⟩:=a.is
 subst hv
 obtain ⟨t',h5,h6,h7⟩:=putk_law h2 (o:=o) (vs:=vs) rfl (by omega)
 refine ⟨h.turn b (.arr g m t' false),fun k=>?_,⟨m,t',?_,h6,by rw [splice_length hl]; exact h3,fun i=>?_⟩,rfl,fun b' hb'=>?_⟩
 · unfold storek
   rw [Heap.getk_eq,h1]
   show putk t g m o vs.length vs (fun t'=>h.turnk b (.arr g m t' false) k) = _
   rw [h5,Heap.turnk_eq]
 · simp only [Heap.turn]; exact HT.get_set _ _ _
 · rw [h7,splice_get hl,h4]
 · simp only [Heap.turn]; exact HT.get_set_ne _ hb' _
structure New (h : Heap) (h' : Heap) : Prop where
 nx : h'.nx = h.nx.nxt
 get : ∀ b',b' ≠ h.nx→h'.t.get b' = h.t.get b'
theorem newk_law (h : Heap) (x : Blk) : ∃ h',(∀ k,h.newk x k = k h.nx h')∧h'.t.get h.nx = x∧New h h':=
 ⟨_,fun k=>Heap.newk_eq h x k,HT.get_set _ _ _,rfl,fun _ hb=>HT.get_set_ne _ hb _⟩
end Go.Ev

/- EVALUATOR: the words on values that are known: rules for simp. -/
namespace Go.Ev
@[simp] theorem intk_int (k : IntKind) (n : Int) (f : IntKind→Int→Res) : intk (.int k n) f = f k n:=rfl
@[simp] theorem boolk_bool (b : Bool) (f : Bool→Res) : boolk (.bool b) f = f b:=rfl
@[simp] theorem strk_str (l n : Nat) (f : Nat→Nat→Res) : strk (.str l n) f = f l n:=rfl
@[simp] theorem ptrk_ptr (b : Bid) (o : Nat) (f : Bid→Nat→Res) : ptrk (.ptr b o) f = f b o:=rfl
@[simp] theorem slk_slice (b : Bid) (o l : Nat) (c : Option Nat) (s : Nat) (f : Bid→Nat→Nat→Option Nat→Nat→Res) (z m : Res) : slk (.slice b o l c s) f z m = f b o l c s:=rfl
@[simp] theorem slk_nils (f : Bid→Nat→Nat→Option Nat→Nat→Res) (z m : Res) : slk .nils f z m = z:=rfl
@[simp] theorem slk_emp (f : Bid→Nat→Nat→Option Nat→Nat→Res) (z m : Res) : slk .emp f z m = m:=rfl
@[simp] theorem aggk_agg (n : Nat) (l : List V) (f : Nat→List V→Res) : aggk (.agg n l) f = f n l:=rfl
@[simp] theorem tupk_tup (l : List V) (f : List V→Res) : tupk (.tup l) f = f l:=rfl
@[simp] theorem fnk_func (n : Nat) (l : List V) (f : Nat→List V→Res) : fnk (.func n l) f = f n l:=rfl
@[simp] theorem lenk_slice (b : Bid) (o l : Nat) (c : Option Nat) (s : Nat) (f : Nat→Res) : lenk (.slice b o l c s) f = f l:=rfl
@[simp] theorem lenk_nils (f : Nat→Res) : lenk .nils f = f 0:=rfl
@[simp] theorem lenk_emp (f : Nat→Res) : lenk .emp f = f 0:=rfl
@[simp] theorem castB_bool (b : Bool) (f : Bool→Res) : castB (.bool b) f = f b:=rfl
@[simp] theorem castI_int (k : IntKind) (n : Int) (f : Int→Res) : castI k (.int k n) f = f n:=by
 show ksel k k (f n) = f n
 rw [ksel_self]
@[simp] theorem castF_int (k : IntKind) (n : Int) (f : Int→Res) : castF k (.int k n) f = f n:=by
 show ksel k k (forceI n f) = f n
 rw [ksel_self,forceI_eq]
@[simp] theorem castS_str (l n : Nat) (f : Nat→Nat→Res) : castS (.str l n) f = f l n:=rfl
@[simp] theorem unc_cons (v : V) (l : List V) (f : V→List V→Res) : unc (v :: l) f = f v l:=rfl
@[simp] theorem nilk'_nil (r : Res) : nilk' [] r = r:=rfl
@[simp] theorem natk_ofNat (n : Nat) (f : Nat→Res) : natk (.ofNat n) f = f n:=rfl
@[simp] theorem natk_cast (n : Nat) (f : Nat→Res) : natk (n : Int) f = f n:=rfl
@[simp] theorem forceI_law (n : Int) (f : Int→Res) : forceI n f = f n:=forceI_eq n f
@[simp] theorem ifk_true (x y : Res) : ifk true x y = x:=rfl
@[simp] theorem ifk_false (x y : Res) : ifk false x y = y:=rfl
@[simp] theorem backk_ret (v : V) (h : Heap) (k kp : V→Heap→Res) : backk (.ret v h) k kp = k v h:=rfl
@[simp] theorem backk_pan (v : V) (h : Heap) (k kp : V→Heap→Res) : backk (.pan v h) k kp = kp v h:=rfl
@[simp] theorem contk_done (x : Ex) (vs : List V) (h : Heap) (k : Ex→List V→Heap→Res) : contk (.done x vs h) k = k x vs h:=rfl
@[simp] theorem nork_normal (a b : Res) : nork .normal a b = a:=rfl
@[simp] theorem nork_ret (a b : Res) : nork .ret a b = b:=rfl
@[simp] theorem nork_exit (i : Nat) (a b : Res) : nork (.exit i) a b = b:=rfl
@[simp] theorem endk_normal (a : Res) (p : V→Res) : endk .normal a p = a:=rfl
@[simp] theorem endk_ret (a : Res) (p : V→Res) : endk .ret a p = a:=rfl
@[simp] theorem grdk_bool (b : Bool) (k : Bool→Res) (z : Res) : grdk (.bool b) k z = k b:=rfl
@[simp] theorem grdk_skip (k : Bool→Res) (z : Res) : grdk .skip k z = z:=rfl
@[simp] theorem pickv_true (a b : V) : pickv true a b = a:=rfl
@[simp] theorem pickv_false (a b : V) : pickv false a b = b:=rfl
@[simp] theorem wantb_true (t : Bool) : wantb true t = t:=rfl
@[simp] theorem wantb_false (t : Bool) : wantb false t = !t:=rfl
@[simp] theorem optk_some (n : Nat) (k : Nat→Res) (z : Res) : optk (some n) k z = k n:=rfl
@[simp] theorem optk_none (k : Nat→Res) (z : Res) : optk none k z = z:=rfl
@[simp] theorem zk_zero (x y : Res) : zk 0 x y = x:=rfl
@[simp] theorem bndk_none (z : Nat) (k : Nat→Res) : bndk none z k = k z:=rfl
@[simp] theorem bndk_int (kd : IntKind) (n z : Nat) (k : Nat→Res) : bndk (some (.int kd (.ofNat n))) z k = k n:=rfl
@[simp] theorem bndk_cast (kd : IntKind) (n z : Nat) (k : Nat→Res) : bndk (some (.int kd (n : Int))) z k = k n:=rfl
@[simp] theorem appk_law (l m : List V) (k : List V→Res) : appk l m k = k (l ++ m):=appk_eq l m k
theorem lpk_succ (body : (List V→Heap→Res)→List V→Heap→Res) (n : Nat) (vs : List V) (h : Heap) : lpk body (n + 1) vs h = body (lpk body n) vs h:=rfl
theorem ilt_nat (a b : Nat) : ilt (.ofNat a) (.ofNat b) = decide (a < b):=by rw [ilt_eq]; simp
theorem ieq_nat (a b : Nat) : ieq (.ofNat a) (.ofNat b) = decide (a = b):=by rw [ieq_eq,Bool.eq_iff_iff]; simp; omega
theorem wrapv_small (k : IntKind) (m : Nat) (h : m ≤ kmax k) : wrapv k (.ofNat m) = .ofNat m:=by
 rw [wrapv_eq]; exact wrap_small k _ (by simp only [Int.ofNat_eq_natCast]; omega) (by simp only [Int.ofNat_eq_natCast]; omega)
theorem bitv_small {f : Nat→Nat→Nat} {g : (n : Nat)→BitVec n→BitVec n→BitVec n} (k : IntKind) (a b : Nat) (ha : a ≤ kmax k) (hb : b ≤ kmax k) : bitv f g k (.ofNat a) (.ofNat b) = .ofNat (f a b):=by
 show Bool.rec (motive:=fun _=>Int) _ (Bool.rec (motive:=fun _=>Int) _ (.ofNat (f a b)) (Nat.ble b (kmax k))) (Nat.ble a (kmax k)) = _
 rw [Nat.ble_eq_true_of_le ha,Nat.ble_eq_true_of_le hb]
theorem band_small (k : IntKind) (a b : Nat) (ha : a ≤ kmax k) (hb : b ≤ kmax k) : band k (.ofNat a) (.ofNat b) = .ofNat (a &&& b):=bitv_small k a b ha hb
theorem bor_small (k : IntKind) (a b : Nat) (ha : a ≤ kmax k) (hb : b ≤ kmax k) : bor k (.ofNat a) (.ofNat b) = .ofNat (a ||| b):=bitv_small k a b ha hb
theorem shrv_nat (a d : Nat) : shrv (.ofNat a) d = .ofNat (a / d):=rfl
end Go.Ev
