/- INTERN: a table that is not there, asked with any step. -/
import Derived.Test.YtjppnjhchojldaaInB
import Derived.Test.YtjppnjhchojldaaEvLaw
namespace Go.Ev.W05
open Go.Proofs
set_option maxRecDepth 1000000
section
variable (n d : Nat) (h : Heap)
theorem nSymbol (a b : Nat) : call tabW n (d + 1) f15 [.nilp, .str a b] h = .ret (.tup [.int .u64 (.ofNat 0), ik 1]) h := by kernel_rfl
theorem nText (a : Int) : call tabW n (d + 1) f16 [.nilp, .int .u64 a] h = .ret (.tup [.str 0 0, ik 1]) h := by kernel_rfl
theorem nMake (a b : Int) (w : V) : call tabW n (d + 1) f18 [.nilp, .int .i64 a, .int .i64 b, w] h = .ret (.tup [.int .u64 (.ofNat 0), ik 1]) h := by kernel_rfl
theorem nParts (a b : Int) : call tabW n (d + 1) f19 [.nilp, .int .i64 a, .int .u64 b] h = .ret (.tup [ik 0, .nils, ik 1]) h := by kernel_rfl
theorem nCmp (a b c : Int) : call tabW n (d + 1) f20 [.nilp, .int .i64 a, .int .u64 b, .int .u64 c] h = .ret (.tup [ik 0, ik 1]) h := by kernel_rfl
theorem nSize : call tabW n (d + 1) f11 [.nilp] h = .ret (ik 0) h := by kernel_rfl
theorem nSave : call tabW n (d + 1) f21 [.nilp] h = .ret .nils h := by kernel_rfl
theorem nWorks : call tabW n (d + 1) f9 [] h = .ret (.bool true) h := by kernel_rfl
end
theorem call17 (n d : Nat) (l : List V) (h : Heap) : call tabW n (d + 1) f17 l h = sh17 words n (call tabW n d) l h := by kernel_rfl
theorem call12 (n d : Nat) (l : List V) (h : Heap) : call tabW n (d + 1) f12 l h = sh12 words n (call tabW n d) l h := by kernel_rfl
theorem call13 (n d : Nat) (l : List V) (h : Heap) : call tabW n (d + 1) f13 l h = sh13 words n (call tabW n d) l h := by kernel_rfl
theorem call14 (n d : Nat) (l : List V) (h : Heap) : call tabW n (d + 1) f14 l h = sh14 words n (call tabW n d) l h := by kernel_rfl
theorem call4 (n d : Nat) (l : List V) (h : Heap) : call tabW n (d + 1) f4 l h = sh4 words n (call tabW n d) l h := by kernel_rfl
/-- what was there is there -/
structure Up (h h' : Heap) : Prop where
  nx : h.nx.val ≤ h'.nx.val
  get : ∀ b : Bid, b.val < h.nx.val → h'.t.get b = h.t.get b
theorem Up.trans {a b c : Heap} (x : Up a b) (y : Up b c) : Up a c := ⟨Nat.le_trans x.nx y.nx, fun q hq => (y.get q (Nat.lt_of_lt_of_le hq x.nx)).trans (x.get q hq)⟩
theorem Up.of_new {h h' : Heap} (w : New h h') : Up h h' := ⟨by rw [w.nx, Bid.nxt_val]; omega, fun b hb => w.get b (by rintro rfl; omega)⟩
/-- a block of one struct -/
theorem new1 (h : Heap) (l : List V) : ∃ h', (∀ k, h.newk (.arr l.length 1 (.lf l) false) k = k h.nx h') ∧ h'.t.get h.nx = .arr l.length 1 (.lf l) false ∧ Up h h' ∧ h.nx.val < h'.nx.val := by
  obtain ⟨h', e, g, w⟩ := newk_law h (.arr l.length 1 (.lf l) false)
  exact ⟨h', e, g, .of_new w, by rw [w.nx, Bid.nxt_val]; omega⟩
theorem row1 {h : Heap} {p : Bid} {g : Nat} {l : List V} (hl : l.length = g) (hg : 0 < g) (e : h.t.get p = .arr g 1 (.lf l) false) : Row (h.t.get p) g l := by
  refine ⟨1, .lf l, e, ⟨hg, .lf _, fun j ch hj => ?_⟩, by omega, fun i => ?_⟩
  · simp only [T.get] at hj
    split at hj
    · cases hj; exact hl
    · cases hj
  · simp only [T.cell, T.get]
    by_cases hi : i < g
    · rw [if_pos (Nat.div_eq_of_lt hi), Option.bind_some, Nat.mod_eq_of_lt hi]
    · rw [if_neg (by intro h0; rw [Nat.div_eq_zero_iff] at h0; omega), List.getElem?_eq_none (by omega)]; rfl
theorem veqk_int (k : IntKind) (i : Int) (r : Res) : veqk (.int k i) (.int k i) r = r := by
  show ifk (Nat.beq (kno k) (kno k)) (ifk (ieq i i) r .fail) .fail = r
  rw [Nat.beq_refl, ieq_eq]; simp
/-- words that can be read at the first two places -/
def Words2 (h : Heap) (w : V) : Prop := w = .nils ∨ w = .emp ∨ ∃ b l c cs, w = .slice b 0 l c 1 ∧ b.val < h.nx.val ∧ RowO true (h.t.get b) 1 cs ∧ (∀ i, i < 2 → i < l → ∃ x, cs[i]? = some (.int .u64 x))
theorem Words2.up {h h' : Heap} {w : V} (a : Words2 h w) (u : Up h h') : Words2 h' w := by
  rcases a with a | a | ⟨b, l, c, cs, a1, a2, a3, a4⟩
  · exact .inl a
  · exact .inr (.inl a)
  · exact .inr (.inr ⟨b, l, c, cs, a1, Nat.lt_of_lt_of_le a2 u.nx, by rw [u.get b a2]; exact a3, a4⟩)
abbrev stepL (k s b : Int) (l n : Nat) (w : V) (x : List V) : List V := .int .i64 k :: .int .i64 s :: .int .i64 b :: .str l n :: w :: x
theorem at_law {n d i : Nat} (hi : i < 2) {h : Heap} {k s b : Int} {l m : Nat} {w : V} {x : List V} (hx : x.length = 4) (a : Words2 h w) :
    ∃ h' y, call tabW n (d + 1) f17 [.agg 9 (stepL k s b l m w x), .int .i64 (.ofNat i)] h = .ret (.int .u64 y) h' ∧ Up h h' := by
  obtain ⟨h', e, g, u, _⟩ := new1 h (stepL k s b l m w x)
  have hl : (stepL k s b l m w x).length = 9 := by simp [stepL, hx]
  rw [hl] at e g
  have r := row1 hl (by omega) g
  have ld : ∀ q : V → Res, words.load1 h' h.nx 4 q = q w := fun q => load1k_law r rfl q
  have hn : ∀ q, words.new h (.arr 9 1 (.lf (stepL k s b l m w x)) false) q = q h.nx h' := e
  rcases a with rfl | rfl | ⟨p, c, cp, cs, rfl, h1, h2, h3⟩
  · refine ⟨h', .ofNat 0, ?_, u⟩
    rw [call17]
    simp only [sh17, u2, unc_cons, castI_int, nilk'_nil, show ∀ l (q : Nat → List V → Res), partsk (.agg 9 l) q = q 9 l from fun _ _ => rfl, show ∀ x y, zk 9 x y = y from fun _ _ => rfl, hn, ld, lenk_nils, ilt_nat, Nat.not_lt_zero, decide_false, ifk_false]
  · refine ⟨h', .ofNat 0, ?_, u⟩
    rw [call17]
    simp only [sh17, u2, unc_cons, castI_int, nilk'_nil, show ∀ l (q : Nat → List V → Res), partsk (.agg 9 l) q = q 9 l from fun _ _ => rfl, show ∀ x y, zk 9 x y = y from fun _ _ => rfl, hn, ld, lenk_emp, ilt_nat, Nat.not_lt_zero, decide_false, ifk_false]
  · by_cases hc : i < c
    · obtain ⟨y, hy⟩ := h3 i hi hc
      refine ⟨h', y, ?_, u⟩
      have h2' : RowO true (h'.t.get p) 1 cs := by rw [u.get p h1]; exact h2
      have ly : ∀ q : V → Res, words.load1 h' p i q = q (.int .u64 y) := fun q => load1k_law h2' hy q
      rw [call17]
      simp only [sh17, u2, unc_cons, castI_int, nilk'_nil, show ∀ l (q : Nat → List V → Res), partsk (.agg 9 l) q = q 9 l from fun _ _ => rfl, show ∀ x y, zk 9 x y = y from fun _ _ => rfl, hn, ld, lenk_slice, ilt_nat, hc, decide_true, ifk_true, slk_slice, natk_ofNat, ak,
        show Nat.blt i c = true from by simpa [Nat.blt_eq] using hc, lK, show Nat.add 0 i = i from Nat.zero_add i, ly]
    · refine ⟨h', .ofNat 0, ?_, u⟩
      rw [call17]
      simp only [sh17, u2, unc_cons, castI_int, nilk'_nil, show ∀ l (q : Nat → List V → Res), partsk (.agg 9 l) q = q 9 l from fun _ _ => rfl, show ∀ x y, zk 9 x y = y from fun _ _ => rfl, hn, ld, lenk_slice, ilt_nat, hc, decide_false, ifk_false]
/-- Word of a table that is not there -/
theorem word_law {n d : Nat} {h : Heap} {i : Int} {a : V} {l : List V} (hl : (a :: l).length = 4) : ∃ h', call tabW n (d + 1) f12 [.nilp, .int .i64 i, .agg 4 (a :: l)] h = .ret (.tup [.int .u64 (.ofNat 0), ik 1]) h' ∧ Up h h' := by
  obtain ⟨h', e, g, u, _⟩ := new1 h (a :: l)
  rw [hl] at e g
  have hn : ∀ q, words.new h (.arr 4 1 (.lf (a :: l)) false) q = q h.nx h' := e
  refine ⟨h', ?_, u⟩
  rw [call12]
  simp only [sh12, u2, zV, unc_cons, castI_int, nilk'_nil, show ∀ l (q : Nat → List V → Res), partsk (.agg 4 l) q = q 4 l from fun _ _ => rfl, show ∀ x y, zk 4 x y = y from fun _ _ => rfl, hn, show ∀ q, pnk .nilp q = q true from fun _ => rfl, ifk_true]
abbrev zeroL : List V := [uk 0, ik 0, .str 0 0, .nils]
theorem value_law {n d : Nat} {h : Heap} {i j : Int} : ∃ h', call tabW n (d + 1) f13 [.nilp, .int .i64 i, .int .u64 j] h = .ret (.tup [.agg 4 zeroL, ik 1]) h' ∧ Up h h' := by
  obtain ⟨h1, e, g, u, lt⟩ := new1 h zeroL
  have r := row1 (l := zeroL) (g := 4) rfl (by omega) g
  obtain ⟨h2, e2, r2, b2⟩ := storek_law (o := 0) (n := 4) (vs := zeroL) r rfl (by simp)
  have hn : ∀ q, words.new h (.arr 4 1 (repT zeroL 1 1) false) q = q h.nx h1 := e
  have hs : ∀ q, words.store h1 h.nx 0 4 zeroL q = q h2 := e2
  have hl : ∀ q, loadk h2 h.nx 0 4 q = q zeroL := fun q => (loadk_law r2 (by simp [splice]) q).trans (by simp [splice])
  refine ⟨h2, ?_, Nat.le_trans u.nx (Nat.le_of_eq (by rw [b2.nx])), fun b hb => (b2.get b (by rintro rfl; omega)).trans (u.get b hb)⟩
  rw [call13]
  simp only [sh13, u2, zK, unc_cons, castI_int, nilk'_nil, hn, show ∀ q, pnk .nilp q = q true from fun _ => rfl, ifk_true, hs, hl]
theorem gd_true (h : Heap) (x : Res) (k : V → Heap → Res) : gd true h x k = backk x k fun _ _ => .fail := rfl
theorem gd_false (h : Heap) (x : Res) (k : V → Heap → Res) : gd false h x k = k .skip h := rfl
theorem an_true (b : Bool) (k : Bool → Res) : an true (.bool b) k = k b := rfl
theorem or_false (b : Bool) (k : Bool → Res) : or' false (.bool b) k = k b := rfl
theorem same_law {n d : Nat} {h : Heap} : ∃ h', call tabW (n + 1) (d + 1) f14 [.agg 4 zeroL, .agg 4 zeroL] h = .ret (.bool true) h' ∧ Up h h' := by
  obtain ⟨h1, e, g, u, lt⟩ := new1 h zeroL
  obtain ⟨h2, e', g', u', lt'⟩ := new1 h1 zeroL
  have r := row1 (l := zeroL) (g := 4) rfl (by omega) (by rw [u'.get _ lt]; exact g)
  have r' := row1 (l := zeroL) (g := 4) rfl (by omega) g'
  have hn : ∀ q, words.new h (.arr 4 1 (.lf zeroL) false) q = q h.nx h1 := e
  have hn' : ∀ q, words.new h1 (.arr 4 1 (.lf zeroL) false) q = q h1.nx h2 := e'
  have a0 : ∀ q : V → Res, words.load1 h2 h.nx 0 q = q (uk 0) := fun q => load1k_law r rfl q
  have a1 : ∀ q : V → Res, words.load1 h2 h.nx 1 q = q (ik 0) := fun q => load1k_law r rfl q
  have a2 : ∀ q : V → Res, words.load1 h2 h.nx 2 q = q (.str 0 0) := fun q => load1k_law r rfl q
  have a3 : ∀ q : V → Res, words.load1 h2 h.nx 3 q = q .nils := fun q => load1k_law r rfl q
  have b0 : ∀ q : V → Res, words.load1 h2 h1.nx 0 q = q (uk 0) := fun q => load1k_law r' rfl q
  have b1 : ∀ q : V → Res, words.load1 h2 h1.nx 1 q = q (ik 0) := fun q => load1k_law r' rfl q
  have b2 : ∀ q : V → Res, words.load1 h2 h1.nx 2 q = q (.str 0 0) := fun q => load1k_law r' rfl q
  have b3 : ∀ q : V → Res, words.load1 h2 h1.nx 3 q = q .nils := fun q => load1k_law r' rfl q
  refine ⟨h2, ?_, u.trans u'⟩
  rw [call14]
  simp only [sh14, z2, unc_cons, nilk'_nil, show ∀ l (q : Nat → List V → Res), partsk (.agg 4 l) q = q 4 l from fun _ _ => rfl, show ∀ x y, zk 4 x y = y from fun _ _ => rfl, hn, hn', lK, a0, b0, uk, ik, I, castI_int, lb, show ieq (.ofNat 0) (.ofNat 0) = true from rfl, Bool.not_true, Bool.not_false,
    gd_true, gd_false, backk_ret, plI0, plS0, pl0, ptrk_ptr, a1, b1, a2, b2, a3, b3, intk_int, ak, show Nat.beq (kno .i64) (kno .i64) = true from rfl, ifk_true, ifk_false, or_false, castS_str, strk_str, show Go.Ev.seq 0 0 0 0 = true from rfl, lenk_nils, lpk_succ, u3, castF_int, pl, Nat.zero_add, show Nat.add 0 3 = 3 from rfl,
    show ilt (.ofNat 0) (.ofNat 0) = false from rfl]
/- the same value again -/
theorem veqsk_cons (v : V) (l : List V) (r : Res) : veqsk (v :: l) (v :: l) r = veqk v v (veqsk l l r) := rfl
theorem veqk_str (l n : Nat) (r : Res) : veqk (.str l n) (.str l n) r = r := by
  show ifk (Nat.beq l l) (ifk (Nat.beq n n) r .fail) .fail = r
  rw [Nat.beq_refl, Nat.beq_refl]; rfl
theorem oeq_self (c : Option Nat) : oeq c c = true := by
  cases c with
  | none => rfl
  | some n => exact Nat.beq_refl n
theorem veqk_slice (b : Bid) (o l : Nat) (c : Option Nat) (s : Nat) (r : Res) : veqk (.slice b o l c s) (.slice b o l c s) r = r := by
  show ifk (Nat.beq b.val b.val) (ifk (Nat.beq o o) (ifk (Nat.beq l l) (ifk (oeq c c) (ifk (Nat.beq s s) r .fail) .fail) .fail) .fail) .fail = r
  simp only [Nat.beq_refl, oeq_self, ifk_true]
theorem Words2.self {h : Heap} {w : V} (a : Words2 h w) (r : Res) : veqk w w r = r := by
  rcases a with rfl | rfl | ⟨b, l, c, cs, rfl, _⟩
  · rfl
  · rfl
  · exact veqk_slice _ _ _ _ _ _
abbrev undL : List V := [.und, .und, .und, .und]
theorem veqk_step {h : Heap} {k s b : Int} {l m : Nat} {w : V} (a : Words2 h w) (r : Res) : veqk (.agg 9 (stepL k s b l m w undL)) (.agg 9 (stepL k s b l m w undL)) r = r := by
  have e : veqk (.agg 9 (stepL k s b l m w undL)) (.agg 9 (stepL k s b l m w undL)) r = ifk (Nat.beq 9 9) (veqsk (stepL k s b l m w undL) (stepL k s b l m w undL) r) .fail := by
    rw [← veqsk_eq]; rfl
  rw [e, show Nat.beq 9 9 = true from rfl, ifk_true]
  simp only [stepL, undL, veqsk_cons, veqk_int, veqk_str, a.self]
  rfl
theorem none_law {n d : Nat} {h : Heap} {k s b : Int} {l m : Nat} {w : V} (a : Words2 h w) : ∃ h', call tabW (n + 1) (d + 2) f4 [.agg 9 (stepL k s b l m w undL)] h = .ret (.bool true) h' := by
  obtain ⟨h0, e0, g0, u0, lt0⟩ := new1 h (stepL k s b l m w undL)
  rw [show (stepL k s b l m w undL).length = 9 from rfl] at e0 g0
  have rowAt : ∀ {h' : Heap}, Up h0 h' → Row (h'.t.get h.nx) 9 (stepL k s b l m w undL) := fun {h'} u => row1 (g := 9) rfl (by omega) (by rw [u.get _ lt0]; exact g0)
  have up0 : Up h0 h0 := ⟨Nat.le_refl _, fun _ _ => rfl⟩
  obtain ⟨h1, y1, e1, u1⟩ := at_law (n := n + 1) (d := d) (i := 0) (h := h0) (k := k) (s := s) (b := b) (l := l) (m := m) (w := w) (x := undL) (by omega) rfl (a.up u0)
  have v1 := up0.trans u1
  obtain ⟨h2, y2, e2, u2⟩ := at_law (n := n + 1) (d := d) (i := 0) (h := h1) (k := k) (s := s) (b := b) (l := l) (m := m) (w := w) (x := undL) (by omega) rfl (a.up (u0.trans v1))
  have v2 := v1.trans u2
  obtain ⟨h3, e3, u3⟩ := word_law (n := n + 1) (d := d) (h := h2) (i := s) (a := .und) (l := [.und, .und, .und]) rfl
  have v3 := v2.trans u3
  obtain ⟨h4, e4, g4, u4, lt4⟩ := new1 h3 zeroL
  rw [show zeroL.length = 4 from rfl] at e4 g4
  have v4 := v3.trans u4
  obtain ⟨h5, y5, e5, u5⟩ := at_law (n := n + 1) (d := d) (i := 0) (h := h4) (k := k) (s := s) (b := b) (l := l) (m := m) (w := w) (x := undL) (by omega) rfl (a.up (u0.trans v4))
  have v5 := v4.trans u5
  obtain ⟨h6, e6, u6⟩ := value_law (n := n + 1) (d := d) (h := h5) (i := s) (j := y5)
  have v6 := v5.trans u6
  have q6 : Row (h6.t.get h3.nx) 4 zeroL := row1 (g := 4) rfl (by omega) (by rw [(u5.trans u6).get _ lt4]; exact g4)
  obtain ⟨h7, e7, r7, b7⟩ := storek_law (o := 0) (n := 4) (vs := zeroL) q6 rfl (by simp)
  have hne : h.nx.val < h3.nx.val := Nat.lt_of_lt_of_le lt0 v3.nx
  have hlt6 : h.nx.val < h6.nx.val := Nat.lt_of_lt_of_le lt0 v6.nx
  have s7 : Row (h7.t.get h.nx) 9 (stepL k s b l m w undL) := by rw [b7.get _ (by intro e; rw [e] at hne; omega)]; exact rowAt v6
  have a7 : Words2 h7 w := by
    have a6 := a.up (u0.trans v6)
    rcases a with a | a | ⟨p, l', c', cs, a1, a2, a3, a4⟩
    · exact .inl a
    · exact .inr (.inl a)
    · have hp : p.val < h3.nx.val := Nat.lt_of_lt_of_le a2 (Nat.le_trans u0.nx v3.nx)
      refine .inr (.inr ⟨p, l', c', cs, a1, by rw [b7.nx]; exact Nat.lt_of_lt_of_le a2 (Nat.le_trans u0.nx v6.nx), ?_, a4⟩)
      rw [b7.get _ (by rintro rfl; omega), (u0.trans v6).get _ a2]; exact a3
  obtain ⟨h8, y8, e8, u8⟩ := at_law (n := n + 1) (d := d) (i := 0) (h := h7) (k := k) (s := s) (b := b) (l := l) (m := m) (w := w) (x := undL) (by omega) rfl a7
  have lt7 : h.nx.val < h7.nx.val := by rw [b7.nx]; exact hlt6
  have s8 : Row (h8.t.get h.nx) 9 (stepL k s b l m w undL) := by rw [u8.get _ lt7]; exact s7
  obtain ⟨h9, y9, e9, u9⟩ := at_law (n := n + 1) (d := d) (i := 1) (h := h8) (k := k) (s := s) (b := b) (l := l) (m := m) (w := w) (x := undL) (by omega) rfl (a7.up u8)
  have s9 : Row (h9.t.get h.nx) 9 (stepL k s b l m w undL) := by rw [(u8.trans u9).get _ lt7]; exact s7
  have z9 : Row (h9.t.get h3.nx) 4 zeroL := by
    rw [(u8.trans u9).get _ (by rw [b7.nx]; exact Nat.lt_of_lt_of_le lt4 (u5.trans u6).nx)]
    have := r7
    simpa [splice] using this
  obtain ⟨h10, e10, u10⟩ := same_law (n := n) (d := d) (h := h9)
  refine ⟨h10, ?_⟩
  have ld : ∀ {h' : Heap}, Row (h'.t.get h.nx) 9 (stepL k s b l m w undL) → ∀ i v, (stepL k s b l m w undL)[i]? = some v → ∀ q : V → Res, words.load1 h' h.nx i q = q v := fun r i v hv q => load1k_law r hv q
  have la : ∀ {h' : Heap}, Row (h'.t.get h.nx) 9 (stepL k s b l m w undL) → ∀ q : List V → Res, words.load h' h.nx 0 9 q = q (stepL k s b l m w undL) := fun r q => loadk_law r (by simp [stepL]) q
  have lv : ∀ {h' : Heap}, Row (h'.t.get h.nx) 9 (stepL k s b l m w undL) → ∀ q : List V → Res, words.load h' h.nx 5 4 q = q undL := fun r q => loadk_law r (by simp [stepL]) q
  have n0 : ∀ q, words.new h (.arr 9 1 (.lf (stepL k s b l m w undL)) false) q = q h.nx h0 := e0
  have n4 : ∀ q, words.new h3 (.arr 4 1 (repT [.int .u8 (.ofNat 0), .int .i64 (.ofNat 0), .str 0 0, .nils] 1 1) false) q = q h3.nx h4 := e4
  have st7 : ∀ q, words.store h6 h3.nx 0 4 [.int .u8 (.ofNat 0), .int .i64 (.ofNat 0), .str 0 0, .nils] q = q h7 := e7
  have ld9 : ∀ q : List V → Res, words.load h9 h3.nx 0 4 q = q [.int .u8 (.ofNat 0), .int .i64 (.ofNat 0), .str 0 0, .nils] := fun q => loadk_law z9 (by simp) q
  simp only [ik, uk] at e1 e2 e5 e6 e8 e9 e10
  rw [call4]
  unfold sh4
  simp -implicitDefEqProofs only [↓zV, ↓unc_cons, ↓nilk'_nil, ↓(show ∀ l (q : Nat → List V → Res), partsk (.agg 9 l) q = q 9 l from fun _ _ => rfl), ↓(show ∀ x y, zk 9 x y = y from fun _ _ => rfl), ↓n0, ↓lS, ↓ld (rowAt up0) 3 _ rfl, ↓castS_str, ↓cl2, ↓nSymbol, ↓backk_ret, ↓tupk_tup, ↓castI_int, ↓la (rowAt up0), ↓clK, ↓ik, ↓e1, ↓nText, ↓lK, ↓ld (rowAt v1) 1 _ rfl, ↓ld (rowAt v1) 2 _ rfl, ↓ld (rowAt v1) 4 _ rfl, ↓I, ↓nMake, ↓la (rowAt v1), ↓e2, ↓ld (rowAt v2) 1 _ rfl, ↓veqk_int, ↓cl3, ↓nParts, ↓lv (rowAt v2), ↓e3, ↓uk, ↓n4, ↓ld (rowAt v4) 1 _ rfl, ↓la (rowAt v4), ↓e5, ↓ld (rowAt v5) 1 _ rfl, ↓e6, ↓aggk_agg, ↓ak, ↓(show Nat.beq 4 4 = true from rfl), ↓ifk_true, ↓st7, ↓ld s7 1 _ rfl, ↓la s7, ↓e8, ↓ld s8 1 _ rfl, ↓la s8, ↓veqk_step a7, ↓e9, ↓ld s9 1 _ rfl, ↓nCmp, ↓lb, ↓iq, ↓(show ieq (.ofNat 0) (.ofNat 0) = true from rfl), ↓(show ieq (.ofNat 1) (.ofNat 1) = true from rfl), ↓gd_true, ↓strk_str, ↓(show Go.Ev.seq 0 0 0 0 = true from rfl), ↓an_true, ↓intk_int, ↓(show Nat.beq (kno .u64) 7 = true from rfl), ↓(show Nat.beq (kno .i64) 3 = true from rfl), ↓(show Nat.beq (kno .i64) (kno .i64) = true from rfl), ↓lenk_nils, ↓ld9, ↓e10, ↓castB_bool, ↓nSize, ↓nSave, ↓nWorks]
end Go.Ev.W05
