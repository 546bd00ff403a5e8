/- INTERN: calls with known shapes and bytes. -/
import Derived.Test.YtjppnjhchojldaaInB
namespace Go.Ev.W05
open Go.Proofs
set_option maxRecDepth 1000000
abbrev di (k : IntKind) (n : Nat) : Dt := .lit (.int k (.ofNat n))
abbrev dl : List Dt → Dt
  | [] => .nil
  | d :: l => .cons d (dl l)
abbrev ds (n : Nat) (l : List Dt) : Dt := .sl 1 n n (some n) 1 (dl l)
abbrev nl : Dt := .lit .nils
/-- number, symbol, a list of numbers, a tree -/
def shapesD : Dt := .sl 3 4 4 (some 4) 3 (dl [di .u8 1, nl, nl, di .u8 2, nl, nl, di .u8 3, ds 2 [di .i64 0, di .i64 2], nl, di .u8 4, nl, ds 3 [nl, ds 2 [di .i64 3, di .i64 3], ds 1 [di .i64 1]]])
def bsD (l : List Nat) : Dt := .sl 1 l.length l.length none 1 (dl (l.map (di .u8)))

/-- are the cells these bytes? -/
noncomputable def eqbk (bs : List Nat) : List V → Res → Res → Res :=
  List.rec (motive := fun _ => List V → Res → Res → Res) (fun cs y n => List.rec (motive := fun _ => Res) y (fun _ _ _ => n) cs)
    (fun b _ ih cs y n => List.rec (motive := fun _ => Res) n (fun v cs _ => intk v fun k z => ksel .u8 k (ifk (ieq z (.ofNat b)) (ih cs y n) n)) cs) bs
theorem eqbk_ok {bs : List Nat} {cs : List V} {y n r : Res} (h : eqbk bs cs y n = r) (hr : r ≠ .fail) : (cs = bs.map (fun b => V.int .u8 (.ofNat b)) ∧ y = r) ∨ n = r := by
  induction bs generalizing cs with
  | nil =>
    cases cs with
    | nil => exact .inl ⟨rfl, h⟩
    | cons v cs => exact .inr h
  | cons b bs ih =>
    cases cs with
    | nil => exact .inr h
    | cons v cs =>
      obtain ⟨k, z, rfl, h1⟩ := intk_ok (show intk v (fun k z => ksel .u8 k (ifk (ieq z (.ofNat b)) (eqbk bs cs y n) n)) = r from h) hr
      obtain ⟨rfl, h2⟩ := ksel_ok h1 hr
      rcases ifk_ne h2 with ⟨e, h3⟩ | ⟨_, h3⟩
      · rcases ih h3 with ⟨rfl, h4⟩ | h4
        · rw [ieq_eq] at e
          obtain rfl : z = .ofNat b := by simpa using e
          exact .inl ⟨rfl, h4⟩
        · exact .inr h4
      · exact .inr h3
noncomputable def anyk (L : List (List Nat)) (cs : List V) (y n : Res) : Res := List.rec (motive := fun _ => Res) n (fun bs _ ih => eqbk bs cs y ih) L
theorem anyk_ok {L : List (List Nat)} {cs : List V} {y n r : Res} (h : anyk L cs y n = r) (hr : r ≠ .fail) : (∃ bs ∈ L, cs = bs.map (fun b => V.int .u8 (.ofNat b)) ∧ y = r) ∨ n = r := by
  induction L with
  | nil => exact .inr h
  | cons bs L ih =>
    rcases eqbk_ok (show eqbk bs cs y (anyk L cs y n) = r from h) hr with ⟨h1, h2⟩ | h1
    · exact .inl ⟨bs, by simp, h1, h2⟩
    · rcases ih h1 with ⟨b, h2, h3⟩ | h2
      · exact .inl ⟨b, by simp [h2], h3⟩
      · exact .inr h2
/-- shapes, and one of these rows of bytes -/
noncomputable def loadsk (L : List (List Nat)) (l : List V) (h : Heap) (n : Res) : Res :=
  unc l fun a l => unc l fun b l => nilk' l (shapesD.mtk [a] h (fun q => nilk' q
    (slk b (fun p o len c s => ifk (oeq c none) (ifk (Nat.beq s 1) (ifk (Nat.blt 0 len) (loadk h p o len fun cells => anyk L cells (.ret (.bool .true) h) n) n) n) n) n n)) n)
theorem rep_bytes (w : World) : ∀ (bs : List Nat) {ys : List Value} {ρ : Rho}, VRs ρ (bs.map fun b => V.int .u8 (.ofNat b)) ys → (dl (bs.map (di .u8))).rep w ys
  | [], ys, ρ, h => by cases h; rfl
  | b :: bs, ys, ρ, h => by
    cases h with | cons h1 h2 =>
    cases h1
    exact ⟨[_], _, rfl, ⟨_, rfl, fun _ => .int _ _⟩, rep_bytes w bs h2⟩
theorem loadsk_ok {L : List (List Nat)} {l : List V} {h : Heap} {n r : Res} (hh : loadsk L l h n = r) (hr : r ≠ .fail) {ρ : Rho} {w : World} {P : Program} (rh : RH P ρ h w) {xs : List Value} (hv : VRs ρ l xs) :
    (∃ bs ∈ L, (Dt.cons shapesD (.cons (bsD bs) .nil)).rep w xs ∧ Res.ret (.bool .true) h = r) ∨ n = r := by
  obtain ⟨a, l1, rfl, h1⟩ := unc_ok hh hr
  obtain ⟨b, l2, rfl, h2⟩ := unc_ok h1 hr
  obtain ⟨rfl, h3⟩ := nilk'_ok h2 hr
  cases hv with | cons hx hv =>
  cases hv with | cons hy hv =>
  cases hv
  rename_i xa xb
  rcases Dt.mtk_ok rh shapesD h3 hr (.cons hx .nil) with h4 | ⟨l', p, q, h4, h5, h6, h7⟩
  · exact .inr h4
  · obtain ⟨rfl, h8⟩ := nilk'_ok h6 hr
    cases h7
    rw [List.append_nil] at h4
    subst h4
    rcases slk_ok h8 hr with ⟨p, o, len, c, s, rfl, k2⟩ | ⟨_, k2⟩ | ⟨_, k2⟩
    · rcases ifk_ne k2 with ⟨e1, k3⟩ | ⟨_, k3⟩
      · rcases ifk_ne k3 with ⟨e2, k4⟩ | ⟨_, k4⟩
        · rcases ifk_ne k4 with ⟨e3, k5⟩ | ⟨_, k5⟩
          · obtain rfl := oeq_eq e1
            obtain rfl := Nat.eq_of_beq_eq_true e2
            have e3 : 0 < len := by simpa [Nat.blt_eq] using e3
            cases hy with | slice hb hc ht hl =>
            obtain ⟨_, cells, cs, el, fz, k6, k7, k8, k9, k10⟩ := loadk_cells k5 hr rh hb
            rcases anyk_ok k6 hr with ⟨bs, m1, rfl, m3⟩ | m1
            · obtain ⟨ys, g1, g2, g3⟩ := lies_of k10
              have hlen : bs.length = len := by simpa using k7
              refine .inl ⟨bs, m1, ⟨[_], [_], rfl, h5, [_], [], rfl, ?_, rfl⟩, m3⟩
              exact ⟨_, _, _, _, ys, by rw [hlen], fun m hm => (by cases hm), ht, by rw [hlen]; exact hl, ⟨⟨cs, el, fz, k8, k9, g3⟩, by rw [g2]; simp, by omega⟩, rep_bytes w bs g1⟩
            · exact .inr m1
          · exact .inr k5
        · exact .inr k4
      · exact .inr k3
    · exact .inr k2
    · exact .inr k2
theorem pook_loads {ng f : Nat} {P : Program} {g : Nat → CF → List V → Heap → Res} {L : List (List Nat)} (hg : POok P ng f (.sh g)) (hf : Enters P f) (y : ∀ bs ∈ L, YesD P ng f (.cons shapesD (.cons (bsD bs) .nil))) (h32 : f < 32768 := by decide) :
    POok P ng f (.sh fun m cf l h => loadsk L l h (g m cf l h)) := by
  intro m cf hc
  refine .fn ?_ h32
  intro l h r hh hr
  refine ⟨hf, fun ρ w args hl rh hglob => ?_⟩
  rcases loadsk_ok hh hr rh hl with ⟨d, h1, h2, rfl⟩ | h1
  · exact (y d h1 w args (glob_size rh hglob) h2).mono fun e w' hc => came_of rh (.bool true) hc
  · exact ((hg m cf hc).1 h32 l h r h1 hr).2 ρ w args hl rh hglob
end Go.Ev.W05
