/- EVALUATOR: strings as lists of bytes: what the words of strings come to. -/
import Derived.Test.YtjppnjhchojldaaEvByte2
namespace Go.Ev

/-- a string of these bytes -/
def sV (bs : List Nat) : V := .str bs.length (packN bs)
theorem sV_def (bs : List Nat) : V.str bs.length (packN bs) = sV bs := rfl
def Bytes (bs : List Nat) : Prop := ∀ x ∈ bs, x < 256
theorem Bytes.nil : Bytes [] := by intro x hx; cases hx
theorem Bytes.cons {b : Nat} {bs : List Nat} (h : b < 256) (hs : Bytes bs) : Bytes (b :: bs) := by
  intro x hx
  rcases List.mem_cons.1 hx with rfl | hx
  · exact h
  · exact hs x hx
theorem Bytes.append {a b : List Nat} (ha : Bytes a) (hb : Bytes b) : Bytes (a ++ b) := by
  intro x hx
  rcases List.mem_append.1 hx with hx | hx
  · exact ha x hx
  · exact hb x hx
theorem Bytes.take {a : List Nat} (ha : Bytes a) (n : Nat) : Bytes (a.take n) := fun x hx => ha x (List.mem_of_mem_take hx)
theorem Bytes.drop {a : List Nat} (ha : Bytes a) (n : Nat) : Bytes (a.drop n) := fun x hx => ha x (List.mem_of_mem_drop hx)
theorem Bytes.tail {b : Nat} {bs : List Nat} (h : Bytes (b :: bs)) : Bytes bs := fun x hx => h x (List.mem_cons_of_mem _ hx)
theorem Bytes.head {b : Nat} {bs : List Nat} (h : Bytes (b :: bs)) : b < 256 := h b (by simp)

theorem pack256 (i : Nat) : Nat.pow 2 (Nat.mul 8 i) = 256 ^ i := (pow256 i).symm
theorem packN_append (a b : List Nat) : packN (a ++ b) = packN a + packN b * 256 ^ a.length := by
  induction a with
  | nil => simp [packN]
  | cons x a ih =>
    simp only [List.cons_append, packN, ih, List.length_cons, Nat.pow_succ]
    have e : 256 * (packN b * 256 ^ a.length) = packN b * (256 ^ a.length * 256) := by rw [Nat.mul_comm, Nat.mul_assoc]
    omega
theorem packN_drop {bs : List Nat} (h : Bytes bs) (i : Nat) : packN bs / 256 ^ i = packN (bs.drop i) := by
  induction i generalizing bs with
  | zero => simp
  | succ i ih =>
    cases bs with
    | nil => simp [packN]
    | cons b bs =>
      have := h.head
      rw [List.drop_succ_cons, ← ih h.tail, Nat.pow_succ, Nat.mul_comm, ← Nat.div_div_eq_div_mul]
      congr 1
      simp only [packN]; omega
theorem packN_take {bs : List Nat} (h : Bytes bs) (i : Nat) (hi : i ≤ bs.length) : packN bs % 256 ^ i = packN (bs.take i) := by
  have e : packN bs = packN (bs.take i) + packN (bs.drop i) * 256 ^ i := by
    have := packN_append (bs.take i) (bs.drop i)
    rw [List.take_append_drop, List.length_take, Nat.min_eq_left hi] at this
    exact this
  have hlt := packN_lt (h.take i)
  rw [List.length_take, Nat.min_eq_left hi] at hlt
  rw [e, Nat.add_mul_mod_self_right, Nat.mod_eq_of_lt hlt]
theorem packN_get {bs : List Nat} (h : Bytes bs) {i : Nat} (hi : i < bs.length) : packN bs / 256 ^ i % 256 = bs[i] := by
  rw [packN_drop h, List.drop_eq_getElem_cons hi]
  have := h bs[i] (List.getElem_mem hi)
  simp only [packN]; omega
theorem str_ex {l n : Nat} (h : n < 256 ^ l) : ∃ bs, Bytes bs ∧ bs.length = l ∧ packN bs = n := by
  induction l generalizing n with
  | zero => exact ⟨[], .nil, rfl, by simp at h; simp [packN, h]⟩
  | succ l ih =>
    rw [Nat.pow_succ] at h
    obtain ⟨bs, h1, h2, h3⟩ := ih (n := n / 256) (by omega)
    exact ⟨n % 256 :: bs, h1.cons (Nat.mod_lt _ (by decide)), by simp [h2], by simp only [packN, h3]; omega⟩
theorem idxS_law {bs : List Nat} (hb : Bytes bs) {i : Nat} (hi : i < bs.length) (kd : IntKind) (h : Heap) (k : V → Heap → Res) :
    words.idxS (.str bs.length (packN bs)) (.int kd (.ofNat i)) h k = k (bV bs[i]) h := by
  show ifk (Nat.blt i bs.length) (k (.int .u8 (.ofNat (packN bs / Nat.pow 2 (Nat.mul 8 i) % 256))) h) .fail = _
  rw [blt_of hi, ifk_true, pack256, packN_get hb hi]; rfl
theorem sliceS_law {bs : List Nat} (hb : Bytes bs) {i j : Nat} (hij : i ≤ j) (hj : j ≤ bs.length) {lo hi : Option V} (hlo : ∀ k, bndk lo 0 k = k i) (hhi : ∀ k, bndk hi bs.length k = k j) (h : Heap) (k : V → Heap → Res) :
    words.sliceS (.str bs.length (packN bs)) lo hi h k = k (sV ((bs.take j).drop i)) h := by
  show bndk lo 0 (fun a => bndk hi bs.length fun b => ifk (Nat.ble a b) (ifk (Nat.ble b bs.length) (k (.str (Nat.sub b a) (Nat.mod (Nat.div (packN bs) (Nat.pow 2 (Nat.mul 8 a))) (Nat.pow 2 (Nat.mul 8 (Nat.sub b a))))) h) .fail) .fail) = _
  rw [hlo, hhi, ble_of hij, ble_of hj, ifk_true, ifk_true, pack256, pack256]
  show k (.str (j - i) (packN bs / 256 ^ i % 256 ^ (j - i))) h = _
  have hl : j - i ≤ (bs.drop i).length := by rw [List.length_drop]; omega
  rw [packN_drop hb, packN_take (hb.drop i) _ hl, sV, List.drop_take]
  simp only [List.length_take, List.length_drop]
  rw [Nat.min_eq_left (by omega)]
theorem cat_law (a b : List Nat) : V.str (Nat.add a.length b.length) (Nat.add (packN a) (Nat.mul (packN b) (Nat.pow 2 (Nat.mul 8 a.length)))) = sV (a ++ b) := by
  rw [pack256, sV, packN_append, List.length_append]; rfl
theorem short_law {l : Nat} (h : l ≤ 2305843009213693952) (x : Res) : Go.Ev.short l x = x := by
  show ifk (Nat.ble l 2305843009213693952) x .fail = x
  rw [ble_of h, ifk_true]
theorem castS_sV (bs : List Nat) (f : Nat → Nat → Res) : castS (sV bs) f = f bs.length (packN bs) := rfl
theorem strk_sV (bs : List Nat) (f : Nat → Nat → Res) : strk (sV bs) f = f bs.length (packN bs) := rfl
/-- a string that came in -/
theorem bytes_in {ρ : Rho} (s : ByteArray) : ∃ bs, Bytes bs ∧ bs.length = s.size ∧ VR ρ (sV bs) (.string s) := by
  refine ⟨s.data.toList.map UInt8.toNat, ?_, by rw [List.length_map]; rfl, ?_⟩
  · intro x hx
    obtain ⟨b, _, rfl⟩ := List.mem_map.1 hx
    exact b.toNat_lt
  · have e : packN (s.data.toList.map UInt8.toNat) = pack s.data.toList := by
      induction s.data.toList with
      | nil => rfl
      | cons b l ih => simp only [List.map_cons, packN, pack, ih]
    rw [sV, e, List.length_map]
    exact .str (dig_pack s.data.toList).symm (pack_lt s.data.toList)
end Go.Ev
