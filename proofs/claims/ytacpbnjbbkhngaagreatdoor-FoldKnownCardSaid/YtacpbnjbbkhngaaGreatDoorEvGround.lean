/- EVALUATOR: a call out of a memory of which package-level tables of numbers are known. -/
import Derived.Test.YtacpbnjbbkhngaaGreatDoorEvDoor0
import Derived.Test.YtacpbnjbbkhngaaGreatDoorEvIter
import Derived.Test.YtacpbnjbbkhngaaGreatDoorEvForget
namespace Go.Ev
open Go.RowKit
variable {P : Program}

/-- block c holds the values l from place z on -/
structure HoldsG (w : World) (c z S : Nat) (l : List V) : Prop where
  at_ : ∃ cs el fz, w.heap[c]? = some (.cells cs el fz) ∧ cs.size = S ∧ z + l.length ≤ S ∧ ∀ i v, l[i]? = some v → ∃ x, cs[z + i]? = some x ∧ (∀ ρ, VR ρ v x) ∧ x.oneCell' = true
theorem HoldsG.lt {w : World} {c z S : Nat} {l : List V} (h : HoldsG w c z S l) : c < w.heap.size := by
  obtain ⟨cs, el, fz, h1, _⟩ := h.at_
  exact (Array.getElem?_eq_some_iff.1 h1).1

/-- the ground: tables, by their numbers -/
abbrev Gr := List (Nat × List V)
def Gr.blk (l : List V) : Blk := .arr l.length (Nat.succ Nat.zero) (.lf l) true
def Gr.ht : Gr → HT
  | [] => []
  | (g, l) :: r => (Gr.ht r).set (gid g) (Gr.blk l)
theorem Gr.ht_get : ∀ (G : Gr) (b : Bid), (Gr.ht G).get b = .none ∨ ∃ g l, (g, l) ∈ G ∧ b = gid g ∧ (Gr.ht G).get b = Gr.blk l
  | [], b => .inl (HT.get_nil b)
  | (g, l) :: r, b => by
    by_cases e : b = gid g
    · subst e
      exact .inr ⟨g, l, by simp, rfl, by simp only [Gr.ht]; rw [HT.get_set]⟩
    · rcases Gr.ht_get r b with h | ⟨g', l', h1, h2, h3⟩
      · exact .inl (by simp only [Gr.ht]; rw [HT.get_set_ne _ e]; exact h)
      · exact .inr ⟨g', l', List.mem_cons_of_mem _ h1, h2, by simp only [Gr.ht]; rw [HT.get_set_ne _ e]; exact h3⟩
def V.isInt : V → Bool
  | .int _ _ => true
  | _ => false
theorem VR.int_any {ρ ρ' : Rho} {v : V} {x : Value} (hv : v.isInt = true) (h : VR ρ v x) : VR ρ' v x := by
  cases v with
  | int k n => cases h; exact .int k n
  | _ => cases hv
/-- tables of whole numbers, not empty, of the first variables -/
def Gr.ok (G : Gr) (nx : Bid) : Bool := G.all fun x => decide (x.1 < nx.val) && decide ((gid x.1).val = x.1) && !x.2.isEmpty && x.2.all V.isInt
theorem Gr.ok_at {G : Gr} {nx : Bid} (h : G.ok nx = true) {g : Nat} {l : List V} (hm : (g, l) ∈ G) : g < nx.val ∧ (gid g).val = g ∧ 0 < l.length ∧ ∀ v ∈ l, v.isInt = true := by
  have := List.all_eq_true.1 h _ hm
  simp only [Bool.and_eq_true, decide_eq_true_eq, Bool.not_eq_true', List.all_eq_true] at this
  obtain ⟨⟨⟨h1, h2⟩, h3⟩, h4⟩ := this
  refine ⟨h1, h2, ?_, h4⟩
  cases l with
  | nil => cases h3
  | cons _ _ => simp

/-- a world that holds the ground -/
def Grd (P : Program) (G : Gr) (nx : Bid) (w : World) : Prop := ∃ ρ, RH P ρ ⟨Gr.ht G, nx⟩ w ∧ GlobR ρ nx.val

theorem Gr.no_wr {G : Gr} {nx : Bid} {ρ : Rho} (c : Nat) : ¬ Wr ρ ⟨Gr.ht G, nx⟩ c := by
  rintro ⟨b, z, S, _, h⟩
  rcases Gr.ht_get G b with h1 | ⟨_, _, _, _, h1⟩
  · rw [show (Heap.mk (Gr.ht G) nx).t.get b = .none from h1] at h; cases h
  · rw [show (Heap.mk (Gr.ht G) nx).t.get b = _ from h1] at h; cases h

def cellsSz : Option Obj → Nat
  | some (.cells cs _ _) => cs.size
  | _ => 0
/-- from what the world holds -/
theorem Grd.of {G : Gr} {nx : Bid} {w : World} (ok : G.ok nx = true) (hg : ∀ g, g < nx.val → (gid g).val = g) (hn : nx.val ≤ w.heap.size) (hh : ∀ g l, (g, l) ∈ G → ∃ S, HoldsG w g 0 S l) : Grd P G nx w := by
  refine ⟨fun b => if b.val < nx.val then some (b.val, 0, cellsSz w.heap[b.val]?) else none, ⟨?_, ?_, ?_, ?_, ?_⟩, ?_⟩
  · intro b c z S h
    split at h
    · cases h; omega
    · cases h
  · intro b hb
    have hb' : nx.val ≤ b.val := hb
    refine ⟨by rw [if_neg (by omega)], ?_⟩
    rcases Gr.ht_get G b with h1 | ⟨g, l, h1, h2, _⟩
    · exact h1
    · obtain ⟨h4, h5, _⟩ := Gr.ok_at ok h1
      subst h2; omega
  · intro b b' c z S z' S' hb
    rcases Gr.ht_get G b with h1 | ⟨_, _, _, _, h1⟩
    · rw [show (Heap.mk (Gr.ht G) nx).t.get b = .none from h1] at hb; cases hb
    · rw [show (Heap.mk (Gr.ht G) nx).t.get b = _ from h1] at hb; cases hb
  · intro b c z S g n t ro hb hx
    rcases Gr.ht_get G b with h1 | ⟨g', l, hm, h2, h1⟩
    · exact absurd (h1.symm.trans hx) (by intro e; cases e)
    · have e := h1.symm.trans hx
      simp only [Gr.blk, Blk.arr.injEq] at e
      obtain ⟨rfl, rfl, rfl, rfl⟩ := e
      obtain ⟨h4, h5, h6, _⟩ := Gr.ok_at ok hm
      subst h2
      obtain ⟨S', ⟨cs, el, fz, a1, a2, a3, a4⟩⟩ := hh g' l hm
      simp only [h5] at hb
      rw [if_pos h4] at hb
      simp only [Option.some.injEq, Prod.mk.injEq] at hb
      obtain ⟨rfl, rfl, hs⟩ := hb
      rw [a1] at hs
      have hs' : cs.size = S := hs
      have h8 : 0 + Nat.zero.succ * l.length ≤ S := by rw [show Nat.zero.succ = 1 from rfl]; omega
      refine ⟨cs, h6, ⟨el, fz, a1, fun h => by cases h⟩, hs', h8, fun j ch hj => ?_⟩
      cases j with
      | succ j => simp [T.get] at hj
      | zero =>
        simp [T.get] at hj
        subst hj
        refine ⟨by omega, rfl, fun i v hi => ?_⟩
        obtain ⟨x, b1, b2, b3⟩ := a4 i v hi
        exact ⟨x, by rw [← b1]; congr 1; omega, b2 _, b3⟩
  · intro b c z S x hb hx
    rcases Gr.ht_get G b with h1 | ⟨_, _, _, _, h1⟩
    · exact absurd (h1.symm.trans hx) (by intro e; cases e)
    · exact absurd (h1.symm.trans hx) (by intro e; cases e)
  · intro g h
    exact ⟨cellsSz w.heap[g]?, by simp only [hg g h]; rw [if_pos h]⟩

/-- the ground is as it was -/
noncomputable def gchk (h : Heap) (k : Res) (G : Gr) : Res := List.rec (motive := fun _ => Res) k (fun x _ ih => h.getk (gid x.1) fun y => blkq y (Gr.blk x.2) ih) G
theorem gchk_ok {h : Heap} {k r : Res} : ∀ {G : Gr}, gchk h k G = r → r ≠ .fail → (∀ g l, (g, l) ∈ G → h.t.get (gid g) = Gr.blk l) ∧ k = r
  | [], hh, _ => ⟨fun _ _ h => (by cases h), hh⟩
  | (g, l) :: G, hh, hr => by
    have hh' : (h.getk (gid g) fun y => blkq y (Gr.blk l) (gchk h k G)) = r := hh
    rw [Heap.getk_eq] at hh'
    obtain ⟨e, h1⟩ := blkq_ok hh' hr
    obtain ⟨h2, h3⟩ := gchk_ok h1 hr
    refine ⟨fun g' l' hm => ?_, h3⟩
    rcases List.mem_cons.1 hm with e' | hm
    · cases e'; exact e
    · exact h2 _ _ hm
theorem Grd.of_rh {G : Gr} {nx : Bid} {ρ : Rho} {h : Heap} {w : World} (ok : G.ok nx = true) (hgid : ∀ g, g < nx.val → (gid g).val = g) (rh : RH P ρ h w) (hg : GlobR ρ nx.val) (hG : ∀ g l, (g, l) ∈ G → h.t.get (gid g) = Gr.blk l) : Grd P G nx w := by
  refine ⟨ρ.upTo nx.val, ⟨?_, ?_, ?_, ?_, ?_⟩, ?_⟩
  · intro b c z S hb
    unfold Rho.upTo at hb
    split at hb
    · exact rh.lt _ _ _ _ hb
    · cases hb
  · intro b hb
    have hb' : nx.val ≤ b.val := hb
    refine ⟨by unfold Rho.upTo; rw [if_neg (by omega)], ?_⟩
    rcases Gr.ht_get G b with h1 | ⟨g, l, h1, h2, _⟩
    · exact h1
    · obtain ⟨h4, h5, _⟩ := Gr.ok_at ok h1
      subst h2; omega
  · intro b b' c z S z' S' hb
    rcases Gr.ht_get G b with h1 | ⟨_, _, _, _, h1⟩
    · rw [show (Heap.mk (Gr.ht G) nx).t.get b = .none from h1] at hb; cases hb
    · rw [show (Heap.mk (Gr.ht G) nx).t.get b = _ from h1] at hb; cases hb
  · intro b c z S g n t ro hb hx
    rcases Gr.ht_get G b with h1 | ⟨g', l, hm, h2, h1⟩
    · exact absurd (h1.symm.trans hx) (by intro e; cases e)
    · have e := h1.symm.trans hx
      subst h2
      unfold Rho.upTo at hb
      split at hb
      · obtain ⟨cs, ha⟩ := rh.arr _ c z S g n t ro hb ((hG _ _ hm).trans e)
        obtain ⟨_, _, _, h7⟩ := Gr.ok_at ok hm
        refine ⟨cs, ha.pos, ha.at_, ha.size, ha.fits, fun j ch hj => ?_⟩
        obtain ⟨k1, k2, k3⟩ := ha.cells j ch hj
        refine ⟨k1, k2, fun i v hi => ?_⟩
        obtain ⟨x, m1, m2, m3⟩ := k3 i v hi
        simp only [Gr.blk, Blk.arr.injEq] at e
        obtain ⟨_, _, rfl, _⟩ := e
        have hv : v ∈ l := by
          cases j with
          | succ j => simp [T.get] at hj
          | zero => simp [T.get] at hj; subst hj; exact List.mem_of_getElem? hi
        exact ⟨x, m1, m2.int_any (h7 v hv), m3⟩
      · cases hb
  · intro b c z S x hb hx
    rcases Gr.ht_get G b with h1 | ⟨_, _, _, _, h1⟩
    · exact absurd (h1.symm.trans hx) (by intro e; cases e)
    · exact absurd (h1.symm.trans hx) (by intro e; cases e)
  · intro g h
    obtain ⟨S, h1⟩ := hg g h
    refine ⟨S, ?_⟩
    unfold Rho.upTo
    rw [if_pos (by rw [hgid g h]; exact h)]; exact h1

/-- a function's calls with these arguments answer yes, and leave alone what was there -/
def YesG (P : Program) (G : Gr) (nx : Bid) (f : Nat) (args : List Value) : Prop := ∀ W : World, Grd P G nx W → Calls P f args.toArray W fun e w' => e = .returned (.bool true) ∧ Below W.heap.size W w'
theorem yesG {tab : FT} {G : Gr} {nx : Bid} {f : Fid} {n d : Nat} {l : List V} {args : List Value} (ok : TabOk P nx.val tab) (hy : yes (call tab n d f l ⟨Gr.ht G, nx⟩) = true) (hl : ∀ ρ, VRs ρ l args) (h32 : f.val < 32768 := by decide) : YesG P G nx f.val args := by
  intro W ⟨ρ, rh, hg⟩
  obtain ⟨h', e⟩ := yes_ok hy
  obtain ⟨_, c⟩ := (call_ok ok (n := n) d f).1 h32 _ _ _ e (by simp)
  refine (c _ W args (hl _) rh hg).mono fun e w' hc => ?_
  obtain ⟨ρ', y, rfl, hy, _, hx⟩ := hc
  cases hy
  exact ⟨rfl, hx.os, hx.tape, hx.output, hx.size, fun k hk => (hx.keep k hk (Gr.no_wr k)).1⟩
/-- calls with arguments of the list answer yes -/
noncomputable def patG (G : Gr) (L : List (List Pa)) (l : List V) (h : Heap) (n : Res) : Res :=
  List.rec (motive := fun _ => Res) n (fun ps _ ih => pak ps l (gchk h (.ret (.bool .true) h) G) ih) L
theorem patG_ok {G : Gr} {L : List (List Pa)} {l : List V} {h : Heap} {n r : Res} (hh : patG G L l h n = r) (hr : r ≠ .fail) : (∃ ps ∈ L, l = ps.map Pa.v ∧ gchk h (.ret (.bool .true) h) G = r) ∨ n = r := by
  induction L with
  | nil => exact .inr hh
  | cons ps L ih =>
    rcases pak_ok (show pak ps l _ _ = r from hh) hr with ⟨h1, h2⟩ | h1
    · exact .inl ⟨ps, by simp, h1, h2⟩
    · rcases ih h1 with ⟨ps', h2, h3⟩ | h2
      · exact .inl ⟨ps', by simp [h2], h3⟩
      · exact .inr h2
def YesPG (P : Program) (G : Gr) (nx : Bid) (f : Nat) (ps : List Pa) : Prop := ∀ ρ args, VRs ρ (ps.map Pa.v) args → YesG P G nx f args
theorem yesPG {tab : FT} {G : Gr} {nx : Bid} {f : Fid} {n d : Nat} {ps : List Pa} (ok : TabOk P nx.val tab) (hy : yes (call tab n d f (ps.map Pa.v) ⟨Gr.ht G, nx⟩) = true) (h32 : f.val < 32768 := by decide) : YesPG P G nx f.val ps :=
  fun _ _ h => yesG ok hy (fun _ => Pa.vrs ps h) h32
/-- a function, of some of whose calls the answer is known -/
theorem pook_PG {G : Gr} {nx : Bid} {f : Nat} {g : Nat → CF → List V → Heap → Res} {L : List (List Pa)} (hG : G.ok nx = true) (hgid : ∀ g, g < nx.val → (gid g).val = g) (hg : POok P nx.val f (.sh g)) (hf : Enters P f) (y : ∀ ps ∈ L, YesPG P G nx f ps) (h32 : f < 32768 := by decide) : POok P nx.val f (.sh fun m cf l h => patG G L l h (g m cf l h)) := by
  intro m cf hc
  refine .fn ?_ h32
  intro l h r hh hr
  refine ⟨hf, fun ρ w args hl rh hglob => ?_⟩
  rcases patG_ok hh hr with ⟨ps, h1, rfl, h2⟩ | h1
  · obtain ⟨h3, rfl⟩ := gchk_ok h2 hr
    exact (y ps h1 _ _ hl w (Grd.of_rh hG hgid rh hglob h3)).mono fun e w' hc => came_of rh (.bool true) hc
  · exact ((hg m cf hc).1 h32 l h r h1 hr).2 ρ w args hl rh hglob
end Go.Ev
