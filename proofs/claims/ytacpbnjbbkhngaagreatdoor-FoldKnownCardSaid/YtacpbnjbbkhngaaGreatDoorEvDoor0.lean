/- EVALUATOR: a call out of a memory of which nothing is known. -/
import Derived.Test.YtacpbnjbbkhngaaGreatDoorEvTop
import Derived.Below
namespace Go.Ev
open Go.RowKit
variable {P : Program}

theorem RH.below {ρ : Rho} {h : Heap} {w w' : World} (r : RH P ρ h w) (b : Below w.heap.size w w') : RH P ρ h w' where
  lt b' c z S hb := Nat.lt_of_lt_of_le (r.lt b' c z S hb) b.size
  fresh := r.fresh
  inj := r.inj
  arr b' c z S g n t ro hb ht := by
    obtain ⟨cs, ha⟩ := r.arr b' c z S g n t ro hb ht
    obtain ⟨el, fz, h1, h2⟩ := ha.at_
    exact ⟨cs, ha.pos, ⟨el, fz, by rw [b.block c (r.lt _ _ _ _ hb)]; exact h1, h2⟩, ha.size, ha.fits, ha.cells⟩
  ob b' c z S x hb ht := by
    obtain ⟨o, h1, h2, h3⟩ := r.ob b' c z S x hb ht
    exact ⟨o, by rw [b.block c (r.lt _ _ _ _ hb)]; exact h1, h2, h3⟩
/-- the answer, the memory as it was -/
theorem came_of {ρ : Rho} {h : Heap} {w w' : World} (r : RH P ρ h w) {v : V} {y : Value} (hv : VR ρ v y) {e : Ending} (he : e = .returned y ∧ Below w.heap.size w w') : Came P ρ h w (.ret v h) e w' := by
  obtain ⟨rfl, b⟩ := he
  exact ⟨ρ, y, rfl, hv, r.below b, .refl _, Nat.le_refl _, b.os, b.tape, b.output, b.size, fun c hc hn => ⟨b.block c hc, hn⟩, fun _ _ hb => ⟨hb, rfl⟩⟩

/-- cells that are read: what the world holds there -/
theorem loadk_cells {h : Heap} {b : Bid} {o n : Nat} {k : List V → Res} {r : Res} (hh : loadk h b o n k = r) (hr : r ≠ .fail) {ρ : Rho} {w : World} (rh : RH P ρ h w) {c z S : Nat} (hb : ρ b = some (c, z, S)) :
    h.t.get b ≠ .none ∧ ∃ l cs el fz, k l = r ∧ l.length = n ∧ w.heap[c]? = some (.cells cs el fz) ∧ cs.size = S ∧ ∀ i v, l[i]? = some v → ∃ x, cs[z + o + i]? = some x ∧ VR ρ v x ∧ x.oneCell' = true := by
  unfold loadk at hh
  rw [Heap.getk_eq] at hh
  obtain ⟨g, m, t, ro, h1, hh⟩ := arlk_ok hh hr
  obtain ⟨m, ro, cs, ha⟩ := rh.cells' hb h1
  obtain ⟨l, hk, hl, hc⟩ := cellsk_ok ha.pos ha.wf hh hr
  obtain ⟨el, fz, h6, _⟩ := ha.at_
  refine ⟨(by rcases h1 with h1 | ⟨_, h1⟩ <;> (rw [h1]; intro e; cases e)), l, cs, el, fz, hk, hl, h6, ha.size, fun i v hi => ?_⟩
  obtain ⟨_, x, h3, h4, h5⟩ := ha.cell (hc i v hi)
  exact ⟨x, by rw [← h3]; congr 1; omega, h4, h5⟩

open Classical in
noncomputable def voidRho (ng : Nat) : Rho := fun b => if b.val < ng then some (b.val, 0, 0) else none
theorem HT.get_nil (b : Bid) : HT.get [] b = .none := HT.get_empty b
theorem void_rh {w : World} {nx : Bid} (hn : nx.val ≤ w.heap.size) : RH P (voidRho nx.val) ⟨[], nx⟩ w := by
  refine ⟨fun b c z S h => ?_, fun b hb => ⟨?_, HT.get_nil b⟩, fun b b' c z S z' S' hb => (by rw [show (Heap.mk [] nx).t.get b = .none from HT.get_nil b] at hb; cases hb), fun b c z S g n t ro _ h => ?_, fun b c z S x _ h => ?_⟩
  · unfold voidRho at h
    split at h
    · cases h; omega
    · cases h
  · unfold voidRho
    rw [if_neg]
    simpa using hb
  · exact absurd ((HT.get_nil b).symm.trans h) (by intro e; cases e)
  · exact absurd ((HT.get_nil b).symm.trans h) (by intro e; cases e)
theorem void_glob {ng : Nat} (hg : ∀ g, g < ng → (gid g).val = g) : GlobR (voidRho ng) ng := by
  intro g h
  exact ⟨0, by unfold voidRho; rw [hg g h, if_pos h]⟩
theorem void_wr {nx : Bid} (c : Nat) : ¬ Wr (voidRho nx.val) ⟨[], nx⟩ c := by
  rintro ⟨b, z, S, _, h⟩
  rw [show (Heap.mk [] nx).t.get b = .none from HT.get_nil b] at h
  cases h

/-- a function's calls with these arguments answer yes, and leave alone what was there -/
def Yes0 (P : Program) (ng f : Nat) (args : List Value) : Prop := ∀ W : World, ng ≤ W.heap.size → Calls P f args.toArray W fun e w' => e = .returned (.bool true) ∧ Below W.heap.size W w'
theorem yes0 {tab : FT} {nx : Bid} {f : Fid} {n d : Nat} {l : List V} {args : List Value} (ok : TabOk P nx.val tab) (hy : yes (call tab n d f l ⟨[], nx⟩) = true) (hg : ∀ g, g < nx.val → (gid g).val = g) (hl : ∀ ρ, VRs ρ l args) (h32 : f.val < 32768 := by decide) : Yes0 P nx.val f.val args := by
  intro W hW
  obtain ⟨h', e⟩ := yes_ok hy
  obtain ⟨_, c⟩ := (call_ok ok (n := n) d f).1 h32 _ _ _ e (by simp)
  refine (c _ W args (hl _) (void_rh hW) (void_glob hg)).mono fun e w' hc => ?_
  obtain ⟨ρ', y, rfl, hy, _, hx⟩ := hc
  cases hy
  exact ⟨rfl, hx.os, hx.tape, hx.output, hx.size, fun k hk => (hx.keep k hk (void_wr k)).1⟩
theorem glob_size {ρ : Rho} {h : Heap} {w : World} {ng : Nat} (rh : RH P ρ h w) (hg : GlobR ρ ng) : ng ≤ w.heap.size := by
  cases ng with
  | zero => exact Nat.zero_le _
  | succ g =>
    obtain ⟨S, h1⟩ := hg g (by omega)
    exact rh.lt _ _ _ _ h1
/-- a closed law -/
noncomputable def orcY (l : List V) (h : Heap) : Res := nilk' l (.ret (.bool .true) h)
theorem fnok_Y {ng f : Nat} (hf : Enters P f) (y : Yes0 P ng f []) (h32 : f < 32768 := by decide) : CallOk P ng f orcY := by
  refine .fn ?_ h32
  intro l h r hh hr
  refine ⟨hf, fun ρ w args hl rh hg => ?_⟩
  obtain ⟨rfl, h3⟩ := nilk'_ok hh hr
  cases hl
  subst h3
  exact (y w (glob_size rh hg)).mono fun e w' hc => came_of rh (.bool true) hc
theorem enters_of {f : Nat} {fn : Func} (hf : P.funcs[f]? = some fn) (hb : fn.body.isSome = true) (hn : (fn.name == "runtime.NumGoroutine") = false) : Enters P f := by
  obtain ⟨c, hc⟩ := Option.isSome_iff_exists.1 hb
  exact ⟨fn, c, hf, hc, hn⟩

/-- closed arguments: strings, numbers -/
inductive Pa where
  | str (l n : Nat)
  | int (k : IntKind) (n : Int)
def Pa.v : Pa → V
  | .str l n => .str l n
  | .int k n => .int k n
noncomputable def Pa.at (p : Pa) (v : V) (y n : Res) : Res :=
  Pa.rec (motive := fun _ => Res) (fun a b => strk v fun a' b' => ifk (Nat.beq a' a) (ifk (Nat.beq b' b) y n) n) (fun k z => intk v fun k' z' => ifk (Nat.beq (kno k') (kno k)) (ifk (ieq z' z) y n) n) p
noncomputable def pak (ps : List Pa) : List V → Res → Res → Res :=
  List.rec (motive := fun _ => List V → Res → Res → Res) (fun l y _ => nilk' l y) (fun p _ ih l y n => unc l fun v l => p.at v (ih l y n) n) ps
/-- calls with arguments of the list answer yes -/
noncomputable def patsk (L : List (List Pa)) (l : List V) (h : Heap) (n : Res) : Res :=
  List.rec (motive := fun _ => Res) n (fun ps _ ih => pak ps l (.ret (.bool .true) h) ih) L
theorem Pa.at_ok {p : Pa} {v : V} {y n r : Res} (h : p.at v y n = r) (hr : r ≠ .fail) : (v = p.v ∧ y = r) ∨ n = r := by
  cases p with
  | str a b =>
    obtain ⟨a', b', rfl, h1⟩ := strk_ok (show strk v _ = r from h) hr
    cases ha : Nat.beq a' a with
    | false => rw [ha] at h1; exact .inr h1
    | true =>
      rw [ha] at h1
      cases hb : Nat.beq b' b with
      | false => rw [hb] at h1; exact .inr h1
      | true =>
        rw [hb] at h1
        obtain rfl := Nat.eq_of_beq_eq_true ha
        obtain rfl := Nat.eq_of_beq_eq_true hb
        exact .inl ⟨rfl, h1⟩
  | int k z =>
    obtain ⟨k', z', rfl, h1⟩ := intk_ok (show intk v _ = r from h) hr
    cases ha : Nat.beq (kno k') (kno k) with
    | false => rw [ha] at h1; exact .inr h1
    | true =>
      rw [ha] at h1
      cases hb : ieq z' z with
      | false => rw [hb] at h1; exact .inr h1
      | true =>
        rw [hb] at h1
        obtain rfl := kno_inj ha
        rw [ieq_eq] at hb
        obtain rfl : z' = z := by simpa using hb
        exact .inl ⟨rfl, h1⟩
theorem pak_ok {ps : List Pa} {l : List V} {y n r : Res} (h : pak ps l y n = r) (hr : r ≠ .fail) : (l = ps.map Pa.v ∧ y = r) ∨ n = r := by
  induction ps generalizing l with
  | nil =>
    obtain ⟨rfl, h1⟩ := nilk'_ok (show nilk' l y = r from h) hr
    exact .inl ⟨rfl, h1⟩
  | cons p ps ih =>
    obtain ⟨v, l', rfl, h1⟩ := unc_ok (show unc l _ = r from h) hr
    rcases Pa.at_ok h1 hr with ⟨rfl, h2⟩ | h2
    · rcases ih h2 with ⟨rfl, h3⟩ | h3
      · exact .inl ⟨rfl, h3⟩
      · exact .inr h3
    · exact .inr h2
theorem patsk_ok {L : List (List Pa)} {l : List V} {h : Heap} {n r : Res} (hh : patsk L l h n = r) (hr : r ≠ .fail) : (∃ ps ∈ L, l = ps.map Pa.v ∧ Res.ret (.bool .true) h = r) ∨ n = r := by
  induction L with
  | nil => exact .inr hh
  | cons ps L ih =>
    rcases pak_ok (show pak ps l _ _ = r from hh) hr with ⟨h1, h2⟩ | h1
    · exact .inl ⟨ps, by simp, h1, h2⟩
    · rcases ih h1 with ⟨ps', h2, h3⟩ | h2
      · exact .inl ⟨ps', by simp [h2], h3⟩
      · exact .inr h2
theorem Pa.vr (p : Pa) {ρ ρ' : Rho} {x : Value} (h : VR ρ p.v x) : VR ρ' p.v x := by
  cases p with
  | str a b => cases h with | str h1 h2 => exact .str h1 h2
  | int k z => cases h; exact .int k z
theorem Pa.vrs (ps : List Pa) {ρ ρ' : Rho} {args : List Value} (h : VRs ρ (ps.map Pa.v) args) : VRs ρ' (ps.map Pa.v) args := by
  induction ps generalizing args with
  | nil => cases h; exact .nil
  | cons p ps ih => cases h with | cons h1 h2 => exact .cons (p.vr h1) (ih h2)
/-- the same, of arguments that read so -/
def YesP (P : Program) (ng f : Nat) (ps : List Pa) : Prop := ∀ ρ args, VRs ρ (ps.map Pa.v) args → Yes0 P ng f args
theorem yesP {tab : FT} {nx : Bid} {f : Fid} {n d : Nat} {ps : List Pa} (ok : TabOk P nx.val tab) (hy : yes (call tab n d f (ps.map Pa.v) ⟨[], nx⟩) = true) (hg : ∀ g, g < nx.val → (gid g).val = g) (h32 : f.val < 32768 := by decide) : YesP P nx.val f.val ps :=
  fun _ _ h => yes0 ok hy hg (fun _ => Pa.vrs ps h) h32
/-- a function, of some of whose calls the answer is known -/
theorem pook_P {ng f : Nat} {g : Nat → CF → List V → Heap → Res} {L : List (List Pa)} (hg : POok P ng f (.sh g)) (hf : Enters P f) (y : ∀ ps ∈ L, YesP P ng f ps) (h32 : f < 32768 := by decide) : POok P ng f (.sh fun m cf l h => patsk L l h (g m cf l h)) := by
  intro m cf hc
  refine .fn ?_ h32
  intro l h r hh hr
  refine ⟨hf, fun ρ w args hl rh hglob => ?_⟩
  rcases patsk_ok hh hr with ⟨ps, h1, rfl, rfl⟩ | h1
  · exact (y ps h1 _ _ hl w (glob_size rh hglob)).mono fun e w' hc => came_of rh (.bool true) hc
  · exact ((hg m cf hc).1 h32 l h r h1 hr).2 ρ w args hl rh hglob
end Go.Ev
