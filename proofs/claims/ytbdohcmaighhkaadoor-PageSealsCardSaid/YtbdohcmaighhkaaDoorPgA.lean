/- PAGE: the sum. -/
import Derived.Test.YtbdohcmaighhkaaDoorEvByte2
import Derived.Test.YtbdohcmaighhkaaDoorEvW02Sh
namespace Go.Ev.W02
open Go.Proofs

def tab16 : List Nat := [0, 498536548, 997073096, 651767980, 1994146192, 1802195444, 1303535960, 1342533948, 3988292384, 4027552580, 3604390888, 3412177804, 2607071920, 2262029012, 2685067896, 3183342108]
def steps : List V := tab16.map fun n => .int .u32 (.ofNat n)
/-- the table of the program lies where it lies -/
def Tab (h : Heap) : Prop := RowO true (h.t.get (gid 0)) 1 steps
def nib (r : Nat) : Nat := (r / 16) ^^^ (tab16.getD (r &&& 15) 0)
def crcByte (r c : Nat) : Nat := nib (nib (r ^^^ c))
def crcR (bs : List Nat) : Nat := bs.foldl crcByte 4294967295
def crc (bs : List Nat) : Nat := 4294967295 - crcR bs

theorem Tab.at_ {h : Heap} (t : Tab h) {i : Nat} (hi : i < 16) (k : V → Res) : load1k h ⟨0, .d0, .d0, .d0, .d0⟩ i k = k (.int .u32 (.ofNat (tab16.getD i 0))) := by
  refine load1k_law (b := gid 0) t ?_ k
  have hl : tab16.length = 16 := rfl
  rw [steps, List.getElem?_map, List.getElem?_eq_getElem (by omega), List.getD_eq_getElem?_getD, List.getElem?_eq_getElem (by omega)]; rfl

theorem tab16_lt (i : Nat) : tab16.getD i 0 < 2 ^ 32 := by
  by_cases h : i < 16
  · have : ∀ j : Fin 16, tab16.getD j.val 0 < 2 ^ 32 := by decide
    exact this ⟨i, h⟩
  · rw [List.getD_eq_getElem?_getD, List.getElem?_eq_none (by simp [tab16]; omega)]; decide
theorem nib_lt {r : Nat} (h : r < 2 ^ 32) : nib r < 2 ^ 32 := Nat.xor_lt_two_pow (by omega) (tab16_lt _)
theorem crcByte_lt {r c : Nat} (h : r < 2 ^ 32) (hc : c < 256) : crcByte r c < 2 ^ 32 := nib_lt (nib_lt (Nat.xor_lt_two_pow h (by omega)))
theorem foldl_lt {bs : List Nat} (hb : ∀ x ∈ bs, x < 256) : ∀ {r : Nat}, r < 2 ^ 32 → bs.foldl crcByte r < 2 ^ 32 := by
  induction bs with
  | nil => intro r h; exact h
  | cons c bs ih => intro r h; exact ih (fun x hx => hb x (List.mem_cons_of_mem _ hx)) (crcByte_lt h (hb c (by simp)))
theorem crcR_lt {bs : List Nat} (hb : ∀ x ∈ bs, x < 256) : crcR bs < 2 ^ 32 := foldl_lt hb (by decide)
theorem crcR_succ {bs : List Nat} {i : Nat} (hi : i < bs.length) : crcR (bs.take (i + 1)) = crcByte (crcR (bs.take i)) bs[i] := by
  rw [crcR, crcR, List.take_succ_eq_append_getElem hi, List.foldl_append]; rfl

theorem sum_law {n : Nat} {cf : CF} {h : Heap} {v : V} {bs : List Nat} (ht : Tab h) (w : IsS h v (bs.map bV)) (hb : ∀ x ∈ bs, x < 256) (hl : bs.length < 2 ^ 62) (hn : bs.length < n) : sh13 words n cf [v] h = .ret (.int .u32 (.ofNat (crc bs))) h := by
  unfold sh13
  simp only [unc_cons, nilk'_nil, w.len, List.length_map, words]
  refine lpk_inv (I := fun vs h' m => ∃ i, i ≤ bs.length ∧ m = bs.length - i ∧ h' = h ∧ vs = [.int .u32 (.ofNat (crcR (bs.take i))), v, .int .i64 (.ofNat bs.length), .int .i64 (.ofNat i)]) (Q := (· = _)) ?_ n _ _ bs.length hn ⟨0, by omega, by omega, rfl, rfl⟩
  rintro again vs h' m ⟨i, h1, rfl, rfl, rfl⟩ ih
  have hr := crcR_lt (bs := bs.take i) fun x hx => hb x (List.mem_of_mem_take hx)
  simp only [unc_cons, castF_int, nilk'_nil, ilt_nat]
  by_cases hi : i < bs.length
  · rw [decide_eq_true hi, ifk_true]
    obtain ⟨b, o, l, c, s, rfl, hil, hld⟩ := w.at_ (i := i) (by simpa using hi)
    have hb := hb bs[i] (List.getElem_mem hi)
    have hx : crcR (bs.take i) ^^^ bs[i] < 2 ^ 32 := Nat.xor_lt_two_pow hr (by omega)
    have hq := nib_lt hx
    simp only [slk_slice, natk_ofNat, blt_of hil, ifk_true, hld, List.getElem_map, bV, castI_int, wrapv_small .u32 bs[i] (by show _ ≤ 4294967295; omega), bxor_small .u32 _ _ (show crcR (bs.take i) ≤ 4294967295 by omega) (show bs[i] ≤ 4294967295 by omega)]
    rw [band_small .u32 _ _ (show _ ≤ 4294967295 by omega) (by decide), natk_ofNat, blt_of (Nat.lt_of_le_of_lt Nat.and_le_right (by decide)), ifk_true]
    rw [show Nat.add 0 ((crcR (bs.take i) ^^^ bs[i]) &&& 15) = (crcR (bs.take i) ^^^ bs[i]) &&& 15 from Nat.zero_add _, ht.at_ (Nat.lt_of_le_of_lt Nat.and_le_right (by decide)), castI_int, shrv_nat,
      bxor_small .u32 _ _ (show _ ≤ 4294967295 by omega) (show _ ≤ 4294967295 from Nat.le_of_lt_succ (tab16_lt _))]
    have e1 : ((crcR (bs.take i) ^^^ bs[i]) / 16 ^^^ tab16.getD ((crcR (bs.take i) ^^^ bs[i]) &&& 15) 0) = nib (crcR (bs.take i) ^^^ bs[i]) := rfl
    rw [e1, band_small .u32 _ _ (show _ ≤ 4294967295 by omega) (by decide), natk_ofNat, blt_of (Nat.lt_of_le_of_lt Nat.and_le_right (by decide)), ifk_true,
      show Nat.add 0 (nib (crcR (bs.take i) ^^^ bs[i]) &&& 15) = nib (crcR (bs.take i) ^^^ bs[i]) &&& 15 from Nat.zero_add _, ht.at_ (Nat.lt_of_le_of_lt Nat.and_le_right (by decide)), castI_int, shrv_nat,
      bxor_small .u32 _ _ (show _ ≤ 4294967295 by omega) (show _ ≤ 4294967295 from Nat.le_of_lt_succ (tab16_lt _)), add_nat, wrapv_small .i64 _ (show i + 1 ≤ 9223372036854775807 by omega)]
    refine ih _ _ (bs.length - (i + 1)) (by omega) ⟨i + 1, hi, rfl, rfl, ?_⟩
    rw [crcR_succ hi]
    rfl
  · have : i = bs.length := by omega
    subst this
    rw [decide_eq_false hi, ifk_false, List.take_length] 
    rw [List.take_length] at hr
    rw [comv_u32 _ (by omega)]
    rfl
end Go.Ev.W02
