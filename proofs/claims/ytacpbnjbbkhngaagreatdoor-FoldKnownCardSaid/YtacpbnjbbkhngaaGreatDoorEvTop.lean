/- EVALUATOR, 29: the table of functions; a call out of a memory that is nearly empty. -/
import Derived.Test.YtacpbnjbbkhngaaGreatDoorEvPO
namespace Go.Ev
variable {P : Program}

def FT.put (t : FT) (f : Fid) (p : PO) : FT := N.set t f.a (N.set (N.get t f.a) f.b (N.set (N.get (N.get t f.a) f.b) f.c (N.set (N.get (N.get (N.get t f.a) f.b) f.c) f.d p)))
def FT.none : FT := N.all (N.all (N.all (N.all .no)))
def FT.of : List (Fid × PO) → FT
  | [] => FT.none
  | (f, p) :: l => (FT.of l).put f p
theorem N.all_get {α : Type} (v : α) (d : D) : (N.all v).get d = v := by cases d <;> rfl
theorem FT.get_put (t : FT) (f g : Fid) (p : PO) : (g = f ∧ (t.put f p).get g = p) ∨ (t.put f p).get g = t.get g := by
  obtain ⟨a, b, c, d⟩ := f
  obtain ⟨a', b', c', d'⟩ := g
  simp only [FT.put, FT.get]
  by_cases h1 : a' = a
  · subst h1
    rw [N.get_set]
    by_cases h2 : b' = b
    · subst h2
      rw [N.get_set]
      by_cases h3 : c' = c
      · subst h3
        rw [N.get_set]
        by_cases h4 : d' = d
        · subst h4; rw [N.get_set]; exact .inl ⟨rfl, rfl⟩
        · rw [N.get_set_ne _ h4]; exact .inr rfl
      · rw [N.get_set_ne _ h3]; exact .inr rfl
    · rw [N.get_set_ne _ h2]; exact .inr rfl
  · rw [N.get_set_ne _ h1]; exact .inr rfl
theorem FT.of_ok {ng : Nat} {f : Fid} : ∀ {l : List (Fid × PO)}, (∀ x ∈ l, POok P ng x.1.val x.2) → POok P ng f.val ((FT.of l).get f)
  | [], _ => by
    simp only [FT.of, FT.none, FT.get, N.all_get]
    exact trivial
  | (g, q) :: l, h => by
    simp only [FT.of]
    rcases FT.get_put (FT.of l) g f q with ⟨rfl, h1⟩ | h1
    · rw [h1]; exact h (f, q) (by simp)
    · rw [h1]; exact FT.of_ok fun x hx => h x (List.mem_cons_of_mem _ hx)
theorem TabOk.of {ng : Nat} {tab : FT} {l : List (Fid × PO)} (ht : tab = FT.of l) (h : ∀ x ∈ l, POok P ng x.1.val x.2) : TabOk P ng tab := by
  intro f
  rw [ht]
  exact FT.of_ok h

/-- entries that are right -/
inductive OkL (P : Program) (ng : Nat) : List (Fid × PO) → Prop where
  | nil : OkL P ng []
  | cons {f : Fid} {p : PO} {l : List (Fid × PO)} (h : POok P ng f.val p) (hs : OkL P ng l) : OkL P ng ((f, p) :: l)
theorem OkL.all {ng : Nat} {l : List (Fid × PO)} (h : OkL P ng l) : ∀ x ∈ l, POok P ng x.1.val x.2 := by
  induction h with
  | nil => intro x hx; cases hx
  | cons h _ ih =>
    intro x hx
    rcases List.mem_cons.1 hx with rfl | hx
    · exact h
    · exact ih x hx
theorem TabOk.of2 {ng : Nat} {tab : FT} {l : List (Fid × PO)} (ht : tab = FT.of l) (h : OkL P ng l) : TabOk P ng tab := .of ht h.all

/-- the answer is yes -/
def yes : Res → Bool
  | .ret (.bool b) _ => b
  | _ => false
theorem yes_ok {r : Res} (h : yes r = true) : ∃ h', r = .ret (.bool true) h' := by
  unfold yes at h
  split at h
  · subst h; exact ⟨_, rfl⟩
  · cases h

/-- a package-level table of numbers, one cell each: its chunks -/
def row1 : List V → T → Nat → Option T
  | [], t, _ => some t
  | v :: l, t, i => (t.set i [v]).bind fun t' => row1 l t' (i + 1)
end Go.Ev
