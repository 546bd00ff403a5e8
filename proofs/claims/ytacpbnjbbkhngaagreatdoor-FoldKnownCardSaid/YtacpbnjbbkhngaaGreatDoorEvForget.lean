/- EVALUATOR: a call that leaves alone all that was there may be taken to have made nothing. -/
import Derived.Test.YtacpbnjbbkhngaaGreatDoorEvPO
namespace Go.Ev
variable {P : Program}

mutual
theorem VR.cut {ρ ρ' ρ'' : Rho} (hl : ρ.le ρ') (hl2 : ρ.le ρ'') {v : V} {x : Value} : VR ρ' v x → ∀ {x0 : Value}, VR ρ v x0 → VR ρ'' v x
  | .und x, _, _ => .und x
  | .skip, _, _ => .skip
  | .bool b, _, _ => .bool b
  | .int k n, _, _ => .int k n
  | .str h hn, _, _ => .str h hn
  | .nilp, _, _ => .nilp
  | .ptr hb, _, h0 => by
    cases h0 with
    | ptr h =>
      have := hl _ _ h
      rw [hb] at this; cases this
      exact .ptr (hl2 _ _ h)
  | .nils, _, _ => .nils
  | .slice hb hc ht hl', _, h0 => by
    cases h0 with
    | slice h _ _ _ =>
      have := hl _ _ h
      rw [hb] at this; cases this
      exact .slice (hl2 _ _ h) hc ht hl'
  | .emp a cap, _, _ => .emp a cap
  | .nilm, _, _ => .nilm
  | .map hb, _, h0 => by
    cases h0 with
    | map h =>
      have := hl _ _ h
      rw [hb] at this; cases this
      exact .map (hl2 _ _ h)
  | .nilf, _, _ => .nilf
  | .yld hb, _, h0 => by
    cases h0 with
    | yld h =>
      have := hl _ _ h
      rw [hb] at this; cases this
      exact .yld (hl2 _ _ h)
    | func hf hk hk2 hF h => exact absurd hF (by omega)
  | .func hf hk hk2 hF hs, _, h0 => by
    cases h0 with
    | yld h => exact absurd hF (by omega)
    | func _ _ _ _ h => exact .func hf hk hk2 hF (VRs.cut hl hl2 hs h)
  | .nili, _, _ => .nili
  | .iface hv, _, h0 => by
    cases h0 with
    | iface h => exact .iface (VR.cut hl hl2 hv h)
  | .agg hs hc hn, _, h0 => by
    cases h0 with
    | agg h _ _ => exact .agg (VRs.cut hl hl2 hs h) hc hn
  | .tup hs, _, h0 => by
    cases h0 with
    | tup h => exact .tup (VRs.cut hl hl2 hs h)
theorem VRs.cut {ρ ρ' ρ'' : Rho} (hl : ρ.le ρ') (hl2 : ρ.le ρ'') {l : List V} {xs : List Value} : VRs ρ' l xs → ∀ {ys : List Value}, VRs ρ l ys → VRs ρ'' l xs
  | .nil, _, _ => .nil
  | .cons hv hs, _, h0 => by
    cases h0 with
    | cons h1 h2 => exact .cons (VR.cut hl hl2 hv h1) (VRs.cut hl hl2 hs h2)
end
theorem MapR.cut {ρ ρ' ρ'' : Rho} (hl : ρ.le ρ') (hl2 : ρ.le ρ'') : ∀ {l : List ME} {es fs : List MapEntry}, MapR ρ' l es → MapR ρ l fs → MapR ρ'' l es
  | [], [], [], _, _ => trivial
  | m :: l, e :: es, f :: fs, ⟨h1, h2, h3, h4⟩, ⟨g1, g2, _, g4⟩ => ⟨h1.cut hl hl2 g1, h2.cut hl hl2 g2, h3, MapR.cut hl hl2 h4 g4⟩
  | [], _ :: _, _, h, _ => h.elim
  | _ :: _, [], _, h, _ => h.elim
  | [], [], _ :: _, _, h => h.elim
  | _ :: _, _ :: _, [], _, h => h.elim
theorem ItR.cut {ρ ρ' ρ'' : Rho} (hl : ρ.le ρ') (hl2 : ρ.le ρ'') : ∀ {m : Option Bid} {c c0 : Option Nat}, ItR ρ' m c → ItR ρ m c0 → ItR ρ'' m c
  | none, none, _, _, _ => trivial
  | some b, some c, some c0, ⟨S, hS⟩, ⟨S0, hS0⟩ => by
    have := hl _ _ hS0
    rw [hS] at this; cases this
    exact ⟨_, hl2 _ _ hS0⟩
  | some _, some _, none, _, g => g.elim
  | none, some _, _, h, _ => h.elim
  | some _, none, _, h, _ => h.elim
theorem StcR.cut {ρ ρ' ρ'' : Rho} (hl : ρ.le ρ') (hl2 : ρ.le ρ'') {g : Nat} {t : T} {cs cs0 : Array Value} (h : StcR ρ' g t cs) (h0 : StcR ρ g t cs0) : StcR ρ'' g t cs := fun j ch hj => by
  obtain ⟨h1, h2, h3⟩ := h j ch hj
  obtain ⟨_, _, g3⟩ := h0 j ch hj
  refine ⟨h1, h2, fun i v hi => ?_⟩
  obtain ⟨x, h4, h5, h6⟩ := h3 i v hi
  obtain ⟨x0, _, g5, _⟩ := g3 i v hi
  exact ⟨x, h4, h5.cut hl hl2 g5, h6⟩
theorem OthR.cut {ρ ρ' ρ'' : Rho} (hl : ρ.le ρ') (hl2 : ρ.le ρ'') {x : Oth} {o o0 : Obj} (h : OthR P ρ' x o) (g : OthR P ρ x o0) : OthR P ρ'' x o := by
  cases x with
  | mp es c =>
    cases o <;> first | exact h.elim | skip
    cases o0 <;> first | exact g.elim | skip
    exact ⟨h.1.cut hl hl2 g.1, h.2⟩
  | it l n p =>
    cases o <;> first | exact h.elim | exact h
  | lp id mask vs st pd =>
    cases o <;> first | exact h.elim | skip
    cases o0 <;> first | exact g.elim | skip
    obtain ⟨fn, h1, h2, h3, h4, h5, h6⟩ := h
    obtain ⟨_, _, _, _, g4, _, _⟩ := g
    exact ⟨fn, h1, h2, h3, h4.cut hl hl2 g4, h5, h6⟩
  | mi m s sn la =>
    cases o <;> first | exact h.elim | skip
    cases o0 <;> first | exact g.elim | skip
    obtain ⟨h1, h2⟩ := h
    obtain ⟨g1, _⟩ := g
    refine ⟨?_, h2⟩
    exact h1.cut hl hl2 g1
  | st el g t =>
    cases o <;> first | exact h.elim | skip
    cases o0 <;> first | exact g.elim | skip
    exact ⟨h.1, h.2.1, h.2.2.1, h.2.2.2.1, h.2.2.2.2.1, h.2.2.2.2.2.cut hl hl2 g.2.2.2.2.2⟩
  | bs el l n =>
    cases o <;> first | exact h.elim | exact h

/-- what was there, and no more -/
def Rho.upTo (ρ : Rho) (n : Nat) : Rho := fun b => if b.val < n then ρ b else none
/-- a call whose answer was there before, and that leaves alone what was there: as if it had made nothing -/
theorem Came.forget {ρ : Rho} {h hs : Heap} {w w' : World} {v : V} {e : Ending} (rh : RH P ρ h w) (hv : ∃ x, VR ρ v x) (hu : ∀ b : Bid, b.val < h.nx.val → hs.t.get b = h.t.get b)
    (c : Came P ρ h w (.ret v hs) e w') : Came P ρ h w (.ret v h) e w' := by
  obtain ⟨ρ', y, rfl, hy, rh', x⟩ := c
  obtain ⟨x0, hx0⟩ := hv
  have lt_of : ∀ {b : Bid} {y}, ρ b = some y → b.val < h.nx.val := fun {b y} hb => by
    rcases Nat.lt_or_ge b.val h.nx.val with h1 | h1
    · exact h1
    · rw [(rh.fresh b h1).1] at hb; cases hb
  have hl2 : ρ.le (ρ'.upTo h.nx.val) := fun b y hb => by
    unfold Rho.upTo
    rw [if_pos (lt_of hb)]
    exact x.le _ _ hb
  have inv : ∀ {b : Bid} {y}, ρ'.upTo h.nx.val b = some y → b.val < h.nx.val ∧ ρ' b = some y ∧ ρ b = some y := fun {b y} hb => by
    unfold Rho.upTo at hb
    split at hb
    · rename_i hlt
      refine ⟨hlt, hb, ?_⟩
      cases hρ : ρ b with
      | none =>
        have := (x.virt b hlt hρ).1
        rw [this] at hb; cases hb
      | some y0 =>
        have := x.le _ _ hρ
        rw [hb] at this; exact this.symm
    · cases hb
  refine ⟨ρ'.upTo h.nx.val, y, rfl, hy.cut x.le hl2 hx0, ⟨fun b c z S hb => rh'.lt b c z S (inv hb).2.1, fun b hb => ⟨?_, (rh.fresh b hb).2⟩, fun b b' c z S z' S' h1 h2 h3 h4 => ?_, fun b c z S g n t ro hb ht => ?_, fun b c z S o hb ht => ?_⟩,
    ⟨hl2, Nat.le_refl _, x.os, x.tape, x.output, x.size, fun c hc hn => ⟨(x.keep c hc hn).1, ?_⟩, fun b hb hn => ⟨?_, rfl⟩⟩⟩
  · unfold Rho.upTo; rw [if_neg (by omega)]
  · obtain ⟨a1, a2, _⟩ := inv h3
    obtain ⟨b1, b2, _⟩ := inv h4
    exact rh'.inj b b' c z S z' S' (by rw [hu b a1]; exact h1) (by rw [hu b' b1]; exact h2) a2 b2
  · obtain ⟨a1, a2, a3⟩ := inv hb
    obtain ⟨cs, ha⟩ := rh'.arr b c z S g n t ro a2 (by rw [hu b a1]; exact ht)
    obtain ⟨cs0, ha0⟩ := rh.arr b c z S g n t ro a3 ht
    refine ⟨cs, ha.pos, ha.at_, ha.size, ha.fits, fun j ch hj => ?_⟩
    obtain ⟨k1, k2, k3⟩ := ha.cells j ch hj
    obtain ⟨_, _, k3'⟩ := ha0.cells j ch hj
    refine ⟨k1, k2, fun i u hi => ?_⟩
    obtain ⟨y1, m1, m2, m3⟩ := k3 i u hi
    obtain ⟨y0, _, n2, _⟩ := k3' i u hi
    exact ⟨y1, m1, m2.cut x.le hl2 n2, m3⟩
  · obtain ⟨a1, a2, a3⟩ := inv hb
    obtain ⟨ob, m1, m2, m3⟩ := rh'.ob b c z S o a2 (by rw [hu b a1]; exact ht)
    obtain ⟨ob0, _, n2, _⟩ := rh.ob b c z S o a3 ht
    exact ⟨ob, m1, m2.cut x.le hl2 n2, m3⟩
  · rintro ⟨b, z, S, hb, hw⟩
    obtain ⟨a1, a2, _⟩ := inv hb
    exact (x.keep c hc hn).2 ⟨b, z, S, a2, by rw [hu b a1]; exact hw⟩
  · unfold Rho.upTo
    rw [if_pos hb]
    exact (x.virt b hb hn).1
/-- a function whose calls answer this; what is known of the plain function's run -/
theorem FnOk.forget {ng n : Nat} {F F' : List V → Heap → Res} (hF : FnOk P ng n F) (hF' : FnOk P ng n F') {G : List V → Heap → Res}
    (hG : ∀ l h r, G l h = r → r ≠ .fail → F l h = r ∨ ∃ v hs, r = .ret v h ∧ F' l h = .ret v hs ∧ (∀ b : Bid, b.val < h.nx.val → hs.t.get b = h.t.get b) ∧ ∀ ρ (w : World) args, VRs ρ l args → RH P ρ h w → ∃ x, VR ρ v x) : FnOk P ng n G := by
  intro l h r hg hr
  rcases hG l h r hg hr with h1 | ⟨v, hs, rfl, h1, h2, h3⟩
  · exact hF l h r h1 hr
  · obtain ⟨he, hc⟩ := hF' l h _ h1 (by simp)
    exact ⟨he, fun ρ w args hl rh hgl => (hc ρ w args hl rh hgl).mono fun e w' hc => hc.forget rh (h3 ρ w args hl rh) h2⟩
end Go.Ev
