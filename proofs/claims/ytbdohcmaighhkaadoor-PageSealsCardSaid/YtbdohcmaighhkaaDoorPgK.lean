/- PAGE: the table of functions; what each call comes to. -/
import Derived.Test.YtbdohcmaighhkaaDoorPgJ
namespace Go.Ev.W02
open Go.Proofs
set_option maxRecDepth 100000
noncomputable def tz1 : N PO := ⟨.no, .no, .no, .no, .no, .no, .no, .no, .no, .no, .no, .no, .no, .no, .no, .no⟩
noncomputable def tz2 : N (N PO) := ⟨tz1, tz1, tz1, tz1, tz1, tz1, tz1, tz1, tz1, tz1, tz1, tz1, tz1, tz1, tz1, tz1⟩
noncomputable def tz3 : N (N (N PO)) := ⟨tz2, tz2, tz2, tz2, tz2, tz2, tz2, tz2, tz2, tz2, tz2, tz2, tz2, tz2, tz2, tz2⟩
noncomputable def t1_000 : N PO := ⟨.no, .no, .no, .sh (sh3 words), .sh (sh4 words), .sh (sh5 words), .sh (sh6 words), .no, .sh (sh8 words), .sh (sh9 words), .sh (sh10 words), .sh (sh11 words), .sh (sh12 words), .sh (sh13 words), .sh (sh14 words), .sh (sh15 words)⟩
noncomputable def t1_001 : N PO := ⟨.sh (sh16 words), .sh (sh17 words), .sh (sh18 words), .sh (sh19 words), .no, .no, .no, .no, .no, .no, .no, .no, .no, .no, .no, .no⟩
noncomputable def t2_00 : N (N PO) := ⟨t1_000, t1_001, tz1, tz1, tz1, tz1, tz1, tz1, tz1, tz1, tz1, tz1, tz1, tz1, tz1, tz1⟩
noncomputable def t3_0 : N (N (N PO)) := ⟨t2_00, tz2, tz2, tz2, tz2, tz2, tz2, tz2, tz2, tz2, tz2, tz2, tz2, tz2, tz2, tz2⟩
noncomputable def tab : FT := ⟨t3_0, tz3, tz3, tz3, tz3, tz3, tz3, tz3, tz3, tz3, tz3, tz3, tz3, tz3, tz3, tz3⟩
noncomputable def tabL : List (Fid × PO) := [(⟨.d0, .d0, .d0, .da⟩, .sh (sh10 words)), (⟨.d0, .d0, .d0, .dd⟩, .sh (sh13 words)), (⟨.d0, .d0, .d0, .db⟩, .sh (sh11 words)), (⟨.d0, .d0, .d1, .d0⟩, .sh (sh16 words)), (⟨.d0, .d0, .d1, .d2⟩, .sh (sh18 words)), (⟨.d0, .d0, .d1, .d1⟩, .sh (sh17 words)), (⟨.d0, .d0, .d1, .d3⟩, .sh (sh19 words)), (⟨.d0, .d0, .d0, .d8⟩, .sh (sh8 words)), (⟨.d0, .d0, .d0, .d9⟩, .sh (sh9 words)), (⟨.d0, .d0, .d0, .d4⟩, .sh (sh4 words)), (⟨.d0, .d0, .d0, .de⟩, .sh (sh14 words)), (⟨.d0, .d0, .d0, .dc⟩, .sh (sh12 words)), (⟨.d0, .d0, .d0, .d6⟩, .sh (sh6 words)), (⟨.d0, .d0, .d0, .df⟩, .sh (sh15 words)), (⟨.d0, .d0, .d0, .d5⟩, .sh (sh5 words)), (⟨.d0, .d0, .d0, .d3⟩, .sh (sh3 words))]
theorem tab_eq : tab = FT.of tabL := by kernel_rfl

theorem _root_.Go.Ev.POok.of {P : Program} {ng f : Nat} {fi : FI} {p : PF} {sh : Words → Nat → CF → List V → Heap → Res} (h1 : prep P ng fi f = some p.strip)
    (h2 : ∀ S n cf ar h, runFg (semOXg S) n cf p ar h = sh S n cf ar h) : POok P ng f (.sh (sh words)) :=
  ⟨fi, p, h1, fun m cf args h => by rw [← h2, semOXg_words]⟩
theorem po10 : POok Tryd.prog 1 10 (.sh (sh10 words)) := .of pf10_ok sh10_eq
theorem po13 : POok Tryd.prog 1 13 (.sh (sh13 words)) := .of pf13_ok sh13_eq
theorem po11 : POok Tryd.prog 1 11 (.sh (sh11 words)) := .of pf11_ok sh11_eq
theorem po16 : POok Tryd.prog 1 16 (.sh (sh16 words)) := .of pf16_ok sh16_eq
theorem po18 : POok Tryd.prog 1 18 (.sh (sh18 words)) := .of pf18_ok sh18_eq
theorem po17 : POok Tryd.prog 1 17 (.sh (sh17 words)) := .of pf17_ok sh17_eq
theorem po19 : POok Tryd.prog 1 19 (.sh (sh19 words)) := .of pf19_ok sh19_eq
theorem po8 : POok Tryd.prog 1 8 (.sh (sh8 words)) := .of pf8_ok sh8_eq
theorem po9 : POok Tryd.prog 1 9 (.sh (sh9 words)) := .of pf9_ok sh9_eq
theorem po4 : POok Tryd.prog 1 4 (.sh (sh4 words)) := .of pf4_ok sh4_eq
theorem po14 : POok Tryd.prog 1 14 (.sh (sh14 words)) := .of pf14_ok sh14_eq
theorem po12 : POok Tryd.prog 1 12 (.sh (sh12 words)) := .of pf12_ok sh12_eq
theorem po6 : POok Tryd.prog 1 6 (.sh (sh6 words)) := .of pf6_ok sh6_eq
theorem po15 : POok Tryd.prog 1 15 (.sh (sh15 words)) := .of pf15_ok sh15_eq
theorem po5 : POok Tryd.prog 1 5 (.sh (sh5 words)) := .of pf5_ok sh5_eq
theorem po3 : POok Tryd.prog 1 3 (.sh (sh3 words)) := .of pf3_ok sh3_eq
theorem tabOk : TabOk Tryd.prog 1 tab := by
  refine TabOk.of tab_eq fun x hx => ?_
  simp only [tabL, List.mem_cons, List.not_mem_nil, or_false] at hx
  rcases hx with rfl | rfl | rfl | rfl | rfl | rfl | rfl | rfl | rfl | rfl | rfl | rfl | rfl | rfl | rfl | rfl
  · exact po10
  · exact po13
  · exact po11
  · exact po16
  · exact po18
  · exact po17
  · exact po19
  · exact po8
  · exact po9
  · exact po4
  · exact po14
  · exact po12
  · exact po6
  · exact po15
  · exact po5
  · exact po3
/-- how long loops may run -/
abbrev N : Nat := 100000
theorem call10 (d : Nat) (l : List V) (h : Heap) : call tab N (d + 1) ⟨.d0, .d0, .d0, .da⟩ l h = sh10 words N (call tab N d) l h := by kernel_rfl
theorem call13 (d : Nat) (l : List V) (h : Heap) : call tab N (d + 1) ⟨.d0, .d0, .d0, .dd⟩ l h = sh13 words N (call tab N d) l h := by kernel_rfl
theorem call11 (d : Nat) (l : List V) (h : Heap) : call tab N (d + 1) ⟨.d0, .d0, .d0, .db⟩ l h = sh11 words N (call tab N d) l h := by kernel_rfl
theorem call16 (d : Nat) (l : List V) (h : Heap) : call tab N (d + 1) ⟨.d0, .d0, .d1, .d0⟩ l h = sh16 words N (call tab N d) l h := by kernel_rfl
theorem call18 (d : Nat) (l : List V) (h : Heap) : call tab N (d + 1) ⟨.d0, .d0, .d1, .d2⟩ l h = sh18 words N (call tab N d) l h := by kernel_rfl
theorem call17 (d : Nat) (l : List V) (h : Heap) : call tab N (d + 1) ⟨.d0, .d0, .d1, .d1⟩ l h = sh17 words N (call tab N d) l h := by kernel_rfl
theorem call19 (d : Nat) (l : List V) (h : Heap) : call tab N (d + 1) ⟨.d0, .d0, .d1, .d3⟩ l h = sh19 words N (call tab N d) l h := by kernel_rfl
theorem call8 (d : Nat) (l : List V) (h : Heap) : call tab N (d + 1) ⟨.d0, .d0, .d0, .d8⟩ l h = sh8 words N (call tab N d) l h := by kernel_rfl
theorem call9 (d : Nat) (l : List V) (h : Heap) : call tab N (d + 1) ⟨.d0, .d0, .d0, .d9⟩ l h = sh9 words N (call tab N d) l h := by kernel_rfl
theorem call4 (d : Nat) (l : List V) (h : Heap) : call tab N (d + 1) ⟨.d0, .d0, .d0, .d4⟩ l h = sh4 words N (call tab N d) l h := by kernel_rfl
theorem call14 (d : Nat) (l : List V) (h : Heap) : call tab N (d + 1) ⟨.d0, .d0, .d0, .de⟩ l h = sh14 words N (call tab N d) l h := by kernel_rfl
theorem call12 (d : Nat) (l : List V) (h : Heap) : call tab N (d + 1) ⟨.d0, .d0, .d0, .dc⟩ l h = sh12 words N (call tab N d) l h := by kernel_rfl
theorem call6 (d : Nat) (l : List V) (h : Heap) : call tab N (d + 1) ⟨.d0, .d0, .d0, .d6⟩ l h = sh6 words N (call tab N d) l h := by kernel_rfl
theorem call15 (d : Nat) (l : List V) (h : Heap) : call tab N (d + 1) ⟨.d0, .d0, .d0, .df⟩ l h = sh15 words N (call tab N d) l h := by kernel_rfl
theorem call5 (d : Nat) (l : List V) (h : Heap) : call tab N (d + 1) ⟨.d0, .d0, .d0, .d5⟩ l h = sh5 words N (call tab N d) l h := by kernel_rfl
theorem call3 (d : Nat) (l : List V) (h : Heap) : call tab N (d + 1) ⟨.d0, .d0, .d0, .d3⟩ l h = sh3 words N (call tab N d) l h := by kernel_rfl

theorem sum_c (d : Nat) (v : V) (h : Heap) (bs : List Nat) (t : Tab h) (w : IsS h v (bs.map bV)) (hb : ∀ x ∈ bs, x < 256) (hl : bs.length ≤ 4096) : call tab N (d + 1) ⟨.d0, .d0, .d0, .dd⟩ [v] h = .ret (.int .u32 (.ofNat (crc bs))) h := by
  rw [call13]; exact sum_law t w hb (by omega) (show bs.length < 100000 by omega)
theorem refsum_c (d : Nat) (v : V) (h : Heap) (bs : List Nat) (w : IsS h v (bs.map bV)) (hb : ∀ x ∈ bs, x < 256) (hl : bs.length ≤ 4096) : call tab N (d + 1) ⟨.d0, .d0, .d0, .de⟩ [v] h = .ret (.int .u32 (.ofNat (crc bs))) h := by
  rw [call14, refsum_law w hb (by omega) (show bs.length < 100000 by omega) (by decide), crc_ref hb]
theorem clone_c (d : Nat) (v : V) (h : Heap) (l : List V) (w : IsS h v l) (lo : Low v h.nx.val) (hl : l.length ≤ 4096) : ∃ h' v', call tab N (d + 1) ⟨.d0, .d0, .d1, .d0⟩ [v] h = .ret v' h' ∧ Own h' h.nx.val v' l ∧ Up h h' := by
  rw [call16]; exact clone_law w lo (by omega)
theorem isnt_c (d x : Nat) (h : Heap) : call tab N (d + 1) ⟨.d0, .d0, .d1, .d2⟩ [bV x] h = .ret (.bool (decide (x ≠ 0))) h := by
  rw [call18]; exact isnt_law
theorem has_c (d : Nat) (v : V) (h : Heap) (bs : List Nat) (w : IsS h v (bs.map bV)) (hb : ∀ x ∈ bs, x < 256) (hl : bs.length ≤ 4096) :
    call tab N (d + 3) ⟨.d0, .d0, .d1, .d1⟩ [v, .func 18 []] h = .ret (.bool (bs.any fun x => decide (x ≠ 0))) h := by
  rw [call17]
  refine contains_law ?_
  rw [call19]
  exact index_law w hb (by omega) (show bs.length < 100000 by omega) fun x h _ => isnt_c d x h
theorem callees (d : Nat) : Callees (call tab N (d + 1)) := ⟨fun v h bs t w hb hl => sum_c d v h bs t w hb hl, fun v h bs w hb hl => refsum_c d v h bs w hb hl, fun v h l w lo hl => clone_c d v h l w lo hl⟩
theorem callees2 (d : Nat) : Callees2 (call tab N (d + 3)) := ⟨callees (d + 2), fun v h bs w hb hl => has_c d v h bs w hb hl⟩
theorem callees3 (d : Nat) : Callees3 (call tab N (d + 2)) := ⟨fun h v k bs w lo hk hb hl => by
  rw [call9]; exact (refseal_law (callees d) w lo hk hb (by decide)).2 hl⟩
theorem callP (d : Nat) : CallP (call tab N (d + 4)) where
  sum v h bs t w hb hl := sum_c (d + 3) v h bs t w hb hl
  refsum v h bs w hb hl := refsum_c (d + 3) v h bs w hb hl
  big v h k bs t h0 w lo hk hb hl := by rw [call8]; exact (seal_law (callees (d + 2)) t h0 w lo hk hb (by decide)).1 hl
  shut v h k bs t h0 w lo hk hb hl := by rw [call8]; exact (seal_law (callees (d + 2)) t h0 w lo hk hb (by decide)).2 hl
  refbig v h k bs w lo hk hb hl := by rw [call9]; exact (refseal_law (callees (d + 2)) w lo hk hb (by decide)).1 hl
  refshut v h k bs w lo hk hb hl := by rw [call9]; exact (refseal_law (callees (d + 2)) w lo hk hb (by decide)).2 hl
  openN v h bs t w lo hb hl := by rw [call11]; exact (open_law (callees2 d) t w lo hb (by decide)).1 hl
  openF v h bs t w lo hb hl hw := by rw [call11]; exact (open_law (callees2 d) t w lo hb (by decide)).2.1 hl hw
  openT v h bs t w lo hb hl hw := by rw [call11]; exact (open_law (callees2 d) t w lo hb (by decide)).2.2 hl hw
  refopenN v h bs w lo hb hl := by rw [call12]; exact (refopen_law (callees3 (d + 1)) w lo hb).1 hl
  refopenF v h bs w lo hb hl hw := by rw [call12]; exact (refopen_law (callees3 (d + 1)) w lo hb).2.1 hl hw
  refopenT v h bs w lo hb hl hw := by rw [call12]; exact (refopen_law (callees3 (d + 1)) w lo hb).2.2 hl hw
theorem callQ (d : Nat) : CallQ (call tab N (d + 5)) where
  toCallP := callP (d + 1)
  works h t h0 := by rw [call10]; exact works_law (callP d) t h0
end Go.Ev.W02
