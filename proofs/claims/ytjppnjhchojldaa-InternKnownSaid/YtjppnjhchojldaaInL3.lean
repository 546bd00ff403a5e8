/- INTERN: a quick way for 'key'. -/
import Derived.Test.YtjppnjhchojldaaInL1
import Derived.Test.YtjppnjhchojldaaEvByte
namespace Go.Ev.W05
open Go.Proofs
set_option maxRecDepth 1000000
/-- the loop of 'key' -/
noncomputable def body40 (S : Words) (c : CF) : (List V → Heap → Res) → List V → Heap → Res := fun l1 l2 h3 => u3 l2 fun v4 v5 v6 l3 => uF l3 fun i2 l4 => zF l4 fun i3 => ifk (ilt i3 i2) (slk v6 (fun p1 n2 n3 _ _ => natk i3 fun n4 => ak (Nat.blt n4 n3) (lK S .u64 h3 p1 (Nat.add n2 n4) fun i4 => cl c f50 [v5, .int .u64 i4] h3 fun v7 h4 => l1 [v4, v7, v6, I i2, I (ad i3 1)] h4)) .fail .fail) (.done .normal [v4, v5] h3)
theorem sh40_eq : sh40 = fun S n c l h => zV l fun v0 => partsk v0 fun n0 l0 => zk n0 .fail (S.new h (.arr n0 1 (.lf l0) .false) fun p0 h0 => lK S .i64 h0 p0 0 fun i0 => cl c f50 [.nils, .int .u64 (wrapv .u64 i0)] h0 fun v1 h1 => lK S .i64 h1 p0 1 fun i1 => cl c f50 [v1, .int .u64 (wrapv .u64 i1)] h1 fun v2 h2 => contk (S.load1 h2 p0 3 fun v3 => lenk v3 fun n1 => lpk (body40 S c) n [.ptr p0 0, v2, v3, ik n1, ik 0] h2) fun x0 l1 h3 => nork x0 (z2 l1 fun v3 v4 => plS S v3 2 h3 fun n1 n2 => S.appS v4 (.str n1 n2) h3 fun v5 h4 => S.bytesS v5 h4 fun v6 h5 => castS v6 fun n3 n4 => .ret (.str n3 n4) h5) .fail) := rfl

/- BYTES -/
def digN : Nat → Nat → List Nat
  | 0, _ => []
  | l + 1, n => n % 256 :: digN l (n / 256)
theorem digN_length (l n : Nat) : (digN l n).length = l := by
  induction l generalizing n with
  | zero => rfl
  | succ l ih => simp [digN, ih]
theorem digN_lt (l n : Nat) : ∀ x ∈ digN l n, x < 256 := by
  induction l generalizing n with
  | zero => simp [digN]
  | succ l ih =>
    intro x hx
    simp only [digN, List.mem_cons] at hx
    rcases hx with rfl | hx
    · exact Nat.mod_lt _ (by decide)
    · exact ih _ x hx
theorem bytesk_law (l n : Nat) (k : List V → Res) : bytesk l n k = k ((digN l n).map bV) := by
  induction l generalizing n k with
  | zero => rfl
  | succ l ih =>
    show bytesk l (Nat.div n 256) (fun m => k (.int .u8 (.ofNat (Nat.mod n 256)) :: m)) = _
    rw [ih]
    rfl
theorem packN_digN (l n : Nat) (h : n < 256 ^ l) : packN (digN l n) = n := by
  induction l generalizing n with
  | zero => simp at h; subst h; rfl
  | succ l ih =>
    have h1 : n / 256 < 256 ^ l := Nat.div_lt_of_lt_mul (by rw [Nat.pow_succ] at h; omega)
    show n % 256 + 256 * packN (digN l (n / 256)) = n
    rw [ih _ h1]
    omega
noncomputable def packF (l : List Nat) (n : Nat) : Nat := List.rec (motive := fun _ => Nat) n (fun b _ ih => Nat.add b (Nat.mul 256 ih)) l
theorem packF_eq (xs l : List Nat) : packN (xs ++ l) = packF xs (packN l) := by
  induction xs with
  | nil => rfl
  | cons b xs ih =>
    show b + 256 * packN (xs ++ l) = b + 256 * packF xs (packN l)
    rw [ih]

/- SHORT -/
theorem call50 (n d : Nat) (l : List V) (h : Heap) : call tabW n (d + 1) f50 l h = sh50 words n (call tabW n d) l h := by kernel_rfl
theorem short_law {n d s lo : Nat} {h : Heap} {v : V} {l : List V} (w : Own h lo v l) (hlo : lo ≤ h.nx.val) (hl : l.length + 1 ≤ 16777216) (hs : s < 128) :
    ∃ h' v', call tabW (n + 1) (d + 1) f50 [v, .int .u64 (.ofNat s)] h = .ret v' h' ∧ Own h' lo v' (l ++ [bV s]) ∧ UpTo lo h h' := by
  obtain ⟨t, t1, t2⟩ := rowk_law (g := 1) (n := 1) (l := [bV s]) (by omega) rfl
  obtain ⟨h1, e1, e2, e3⟩ := newk_law h (.arr 1 1 t false)
  have x : IsS h1 (.slice h.nx 0 1 (some 1) 1) [bV s] := IsS.sl h.nx 0 (some 1) false [bV s] [bV s] (by rw [e2]; exact t2) (by simp) rfl fun n hn => by cases hn; exact ⟨by simp, by simp⟩
  obtain ⟨h2, v', a1, a2, a3⟩ := app_own (w.up e3.up) x (Nat.le_trans hlo e3.up.nx) (by simpa using hl)
  have n1 : ilt (.ofNat s) (.ofNat 128) = true := by rw [ilt_nat]; simpa using hs
  have n2 : wrapv .u8 (.ofNat s) = .ofNat s := wrapv_small .u8 s (Nat.le_trans (Nat.le_of_lt hs) (by decide))
  have r1 : ∀ q : T → Res, words.row 1 1 [.int .u8 (.ofNat s)] q = q t := t1
  have r2 : ∀ q, words.new h (.arr 1 1 t false) q = q h.nx h1 := e1
  refine ⟨h2, v', ?_, a2, (e3.up.to hlo).trans a3⟩
  rw [call50]
  simp -implicitDefEqProofs only [sh50, ↓u2, ↓unc_cons, ↓castI_int, ↓nilk'_nil, ↓lpk_succ, ↓castF_int, ↓n1, ↓Bool.not_true, ↓ifk_false, ↓contk_done, ↓nork_normal, ↓n2, ↓r1, ↓r2, ↓a1]

/- THE LOOP -/
section loop
variable {n d m lo : Nat} {p0 : Bid} {v3 : V} {ws : List Nat}
theorem keyloop_end {again : List V → Heap → Res} {v5 : V} {h : Heap} {i : Nat} (hi : ¬ i < m) : body40 words (call tabW n d) again [.ptr p0 0, v5, v3, ik m, ik i] h = .done .normal [.ptr p0 0, v5] h := by
  have n1 : ilt (.ofNat i) (.ofNat m) = false := by rw [ilt_nat]; simpa using hi
  simp -implicitDefEqProofs only [body40, ↓u3, ↓unc_cons, ↓uF, ↓zF, ↓ik, ↓castF_int, ↓nilk'_nil, ↓n1, ↓ifk_false]
theorem keyloop_step {again : List V → Heap → Res} {v5 v7 : V} {h h4 : Heap} {i w : Nat} {p : Bid} {o sa : Nat} {ca : Option Nat} (hi : i < m) (hm : m < 1000000)
    (e2 : ∀ q : V → Res, words.load1 h p (Nat.add o i) q = q (.int .u64 (.ofNat w))) (e3 : call tabW n d f50 [v5, .int .u64 (.ofNat w)] h = .ret v7 h4) :
    body40 words (call tabW n d) again [.ptr p0 0, v5, .slice p o m ca sa, ik m, ik i] h = again [.ptr p0 0, v7, .slice p o m ca sa, ik m, ik (i + 1)] h4 := by
  have n1 : ilt (.ofNat i) (.ofNat m) = true := by rw [ilt_nat]; simpa using hi
  have n2 : Nat.blt i m = true := by simpa [Nat.blt_eq] using hi
  have n3 := ad_small (i := i) (by omega)
  simp -implicitDefEqProofs only [body40, ↓u3, ↓unc_cons, ↓uF, ↓zF, ↓ik, ↓castF_int, ↓castI_int, ↓nilk'_nil, ↓n1, ↓ifk_true, ↓slk_slice, ↓natk_ofNat, ↓ak, ↓n2, ↓lK, ↓e2, ↓cl, ↓e3, ↓backk_ret, ↓I, ↓n3]
theorem keyloop {h0 : Heap} {p : Bid} {o sa : Nat} {ca : Option Nat} (hm : m < 1000000) (hws : ws.length = m) (hw : ∀ x ∈ ws, x < 128) (hlo : lo = h0.nx.val) (hp : p.val < lo)
    (e2 : ∀ (i w : Nat), ws[i]? = some w → ∀ q : V → Res, load1k h0 p (Nat.add o i) q = q (.int .u64 (.ofNat w))) :
    ∀ (k i f : Nat) (h : Heap) (v5 : V) (l : List V), i + k = m → k < f → UpTo lo h0 h → Own h lo v5 l → l.length + k ≤ 16777216 →
      ∃ h' v', lpk (body40 words (call tabW (n + 1) (d + 1))) f [.ptr p0 0, v5, .slice p o m ca sa, ik m, ik i] h = .done .normal [.ptr p0 0, v'] h' ∧ Own h' lo v' (l ++ (ws.drop i).map bV) ∧ UpTo lo h h'
  | 0, i, f, h, v5, l, hk, hf, hu, ho, hl => by
    obtain ⟨f, rfl⟩ : ∃ n', f = n' + 1 := ⟨f - 1, by omega⟩
    refine ⟨h, v5, by rw [lpk_succ]; exact keyloop_end (by omega), ?_, .refl _ _⟩
    rw [List.drop_eq_nil_of_le (by omega)]
    simpa using ho
  | k + 1, i, f, h, v5, l, hk, hf, hu, ho, hl => by
    obtain ⟨f, rfl⟩ : ∃ n', f = n' + 1 := ⟨f - 1, by omega⟩
    have hi : i < ws.length := by omega
    have ew : ws[i]? = some ws[i] := List.getElem?_eq_getElem hi
    have hnx : lo ≤ h.nx.val := by rw [hlo]; exact hu.nx
    obtain ⟨h1, v7, s1, s2, s3⟩ := short_law (n := n) (d := d) ho hnx (by omega) (hw ws[i] (List.getElem_mem hi))
    have ld : ∀ q : V → Res, words.load1 h p (Nat.add o i) q = q (.int .u64 (.ofNat ws[i])) := fun q => by
      refine Eq.trans ?_ (e2 i _ ew q)
      show load1k h p _ q = load1k h0 p _ q
      unfold load1k
      rw [Heap.getk_eq, Heap.getk_eq, hu.get p hp]
    obtain ⟨h2, v', r1, r2, r3⟩ := keyloop hm hws hw hlo hp e2 k (i + 1) f h1 v7 (l ++ [bV ws[i]]) (by omega) (by omega) (hu.trans s3) s2 (by simp; omega)
    refine ⟨h2, v', ?_, ?_, s3.trans r3⟩
    · rw [lpk_succ, keyloop_step (by omega) hm ld s1]
      exact r1
    · have e : (l ++ [bV ws[i]]) ++ (ws.drop (i + 1)).map bV = l ++ (ws.drop i).map bV := by rw [List.drop_eq_getElem_cons hi, List.map_cons, List.append_assoc]; rfl
      rw [← e]; exact r2
end loop

/- THE KEY -/
noncomputable def partsF (h : Heap) (p : Bid) (o : Nat) (z : Res) (n : Nat) : Nat → (List Nat → Res) → Res :=
  Nat.rec (motive := fun _ => Nat → (List Nat → Res) → Res) (fun _ k => k []) (fun _ ih i k => load1k h p (Nat.add o i) fun v => castI .u64 v fun q => Int.rec (motive := fun _ => Res) (fun w => ifk (Nat.blt w 128) (ih (Nat.succ i) fun l => k (w :: l)) z) (fun _ => z) q) n
theorem partsF_ok {h : Heap} {p : Bid} {o : Nat} {z r : Res} (hr : r ≠ .fail) : ∀ (n i : Nat) {k : List Nat → Res}, partsF h p o z n i k = r →
    z = r ∨ ∃ l, k l = r ∧ l.length = n ∧ (∀ x ∈ l, x < 128) ∧ ∀ (j w : Nat), l[j]? = some w → ∀ q : V → Res, load1k h p (Nat.add o (i + j)) q = q (.int .u64 (.ofNat w))
  | 0, i, k, hh => .inr ⟨[], hh, rfl, by simp, by simp⟩
  | n + 1, i, k, hh => by
    obtain ⟨v, h1, e1⟩ := load1k_det (show load1k h p (Nat.add o i) _ = r from hh) hr
    obtain ⟨q, rfl, h2⟩ := castI_det h1 hr
    cases q with
    | negSucc _ => exact .inl h2
    | ofNat w =>
      rcases ifk_ne (show ifk (Nat.blt w 128) (partsF h p o z n (i + 1) fun l => k (w :: l)) z = r from h2) with ⟨h3, h4⟩ | ⟨_, h4⟩
      · rcases partsF_ok hr n (i + 1) h4 with h5 | ⟨l, h5, h6, h7, h8⟩
        · exact .inl h5
        · refine .inr ⟨w :: l, h5, by simp [h6], fun x hx => ?_, fun j u hj => ?_⟩
          · rcases List.mem_cons.1 hx with rfl | hx
            · simpa [Nat.blt_eq] using h3
            · exact h7 x hx
          · cases j with
            | zero => cases hj; exact e1
            | succ j =>
              have := h8 j u (by simpa using hj)
              rwa [show i + 1 + j = i + (j + 1) by omega] at this
      · exact .inl h4
noncomputable def keyG (sa sb tl tn m : Nat) (h : Heap) (z : Res) (ws : List Nat) : Res :=
  ifk (and (Nat.blt sa 128) (and (Nat.blt sb 128) (and (Nat.ble (Nat.add tl m) 1000000) (Nat.blt tn (Nat.pow 256 tl))))) (forceN (packF (sa :: sb :: ws) tn) fun n => .ret (.str (Nat.add 2 (Nat.add m tl)) n) h) z
noncomputable def keyF (l : List V) (h : Heap) (z : Res) : Res :=
  unc l fun v l => nilk' l (aggk v fun n0 cs => ifk (Nat.beq n0 5) (unc cs fun a cs => unc cs fun b cs => unc cs fun t cs => unc cs fun p cs => unc cs fun _ cs => nilk' cs (castI .i64 a fun ia => castI .i64 b fun ib => strk t fun tl tn =>
    Int.rec (motive := fun _ => Res) (fun sa => Int.rec (motive := fun _ => Res) (fun sb => slk p (fun pb po m _ _ => ifk (and (Nat.blt pb.val h.nx.val) (Nat.blt m 100)) (partsF h pb po z m 0 (keyG sa sb tl tn m h z)) z) (keyG sa sb tl tn 0 h z []) z) (fun _ => z) ib) (fun _ => z) ia)) z)
theorem key_slow {n d : Nat} {h h1 h2 h3 h4 h5 : Heap} {sa sb tl tn m : Nat} {p dp v1 v2 v4 v5 : V} {f0 : Heap} {bl bn : Nat} (hn : ∀ q, words.new h (.arr 5 1 (.lf [.int .i64 (.ofNat sa), .int .i64 (.ofNat sb), .str tl tn, p, dp]) false) q = q h.nx f0)
    (ha : sa < 128) (hb : sb < 128) (r0 : ∀ q : V → Res, words.load1 f0 h.nx 0 q = q (.int .i64 (.ofNat sa))) (c1 : call tabW n d f50 [.nils, .int .u64 (.ofNat sa)] f0 = .ret v1 h1)
    (r1 : ∀ q : V → Res, words.load1 h1 h.nx 1 q = q (.int .i64 (.ofNat sb))) (c2 : call tabW n d f50 [v1, .int .u64 (.ofNat sb)] h1 = .ret v2 h2)
    (r3 : ∀ q : V → Res, words.load1 h2 h.nx 3 q = q p) (rl : ∀ q : Nat → Res, lenk p q = q m) (c3 : lpk (body40 words (call tabW n d)) n [.ptr h.nx 0, v2, p, ik m, ik 0] h2 = .done .normal [.ptr h.nx 0, v4] h3)
    (r2 : ∀ q : V → Res, words.load1 h3 h.nx 2 q = q (.str tl tn)) (c4 : ∀ q, words.appS v4 (.str tl tn) h3 q = q v5 h4) (c5 : ∀ q, words.bytesS v5 h4 q = q (.str bl bn) h5) :
    sh40 words n (call tabW n d) [.agg 5 [.int .i64 (.ofNat sa), .int .i64 (.ofNat sb), .str tl tn, p, dp]] h = .ret (.str bl bn) h5 := by
  have w1 : wrapv .u64 (.ofNat sa) = .ofNat sa := wrapv_small .u64 sa (Nat.le_trans (Nat.le_of_lt ha) (by decide))
  have w2 : wrapv .u64 (.ofNat sb) = .ofNat sb := wrapv_small .u64 sb (Nat.le_trans (Nat.le_of_lt hb) (by decide))
  rw [sh40_eq]
  simp -implicitDefEqProofs only [↓zV, ↓unc_cons, ↓nilk'_nil, ↓(show ∀ l (q : Nat → List V → Res), partsk (.agg 5 l) q = q 5 l from fun _ _ => rfl), ↓(show ∀ x y, zk 5 x y = y from fun _ _ => rfl), ↓hn, ↓lK, ↓r0, ↓castI_int, ↓w1, ↓cl, ↓c1, ↓backk_ret, ↓r1, ↓w2, ↓c2, ↓r3, ↓rl, ↓c3, ↓contk_done, ↓nork_normal, ↓z2,
    ↓plS, ↓ptrk_ptr, ↓(show Nat.add 0 2 = 2 from rfl), ↓r2, ↓castS_str, ↓c4, ↓c5]
theorem key_law {sa sb tl tn m : Nat} {h : Heap} {p dp : V} {ws : List Nat} (ha : sa < 128) (hb : sb < 128) (hl : tl + m ≤ 1000000) (ht : tn < 256 ^ tl) (hws : ws.length = m) (hw : ∀ x ∈ ws, x < 128) (hm : m < 100)
    (hp : (p = .nils ∧ m = 0) ∨ ∃ pb po pc ps, p = .slice pb po m pc ps ∧ pb.val < h.nx.val ∧ ∀ (j w : Nat), ws[j]? = some w → ∀ q : V → Res, load1k h pb (Nat.add po j) q = q (.int .u64 (.ofNat w))) :
    ∃ hs, sh40 words 1000000 (call tabW 1000000 1) [.agg 5 [.int .i64 (.ofNat sa), .int .i64 (.ofNat sb), .str tl tn, p, dp]] h = .ret (.str (2 + (m + tl)) (packF (sa :: sb :: ws) tn)) hs ∧ ∀ b : Bid, b.val < h.nx.val → hs.t.get b = h.t.get b := by
  obtain ⟨N, hN⟩ : ∃ N, 1000000 = N + 1 := ⟨999999, rfl⟩
  obtain ⟨f0, n1, n2, n3, n4⟩ := new1 h [.int .i64 (.ofNat sa), .int .i64 (.ofNat sb), .str tl tn, p, dp]
  rw [show ([.int .i64 (.ofNat sa), .int .i64 (.ofNat sb), .str tl tn, p, dp] : List V).length = 5 from rfl] at n1 n2
  have rowAt : ∀ {h' : Heap}, UpTo f0.nx.val f0 h' → Row (h'.t.get h.nx) 5 [.int .i64 (.ofNat sa), .int .i64 (.ofNat sb), .str tl tn, p, dp] := fun {h'} u => row1 (g := 5) rfl (by omega) (by rw [u.get _ n4]; exact n2)
  obtain ⟨h1, v1, c1, o1, u1⟩ := short_law (n := N) (d := 0) (s := sa) (h := f0) (lo := f0.nx.val) .nils (Nat.le_refl _) (by simp) ha
  obtain ⟨h2, v2, c2, o2, u2⟩ := short_law (n := N) (d := 0) (s := sb) o1 u1.nx (by simp) hb
  have hloop : ∃ h3 v4, lpk (body40 words (call tabW (N + 1) (0 + 1))) (N + 1) [.ptr h.nx 0, v2, p, ik m, ik 0] h2 = .done .normal [.ptr h.nx 0, v4] h3 ∧ Own h3 f0.nx.val v4 ((([] ++ [bV sa]) ++ [bV sb]) ++ ws.map bV) ∧ UpTo f0.nx.val h2 h3 := by
    rcases hp with ⟨rfl, rfl⟩ | ⟨pb, po, pc, ps, rfl, hpb, e⟩
    · obtain rfl := List.length_eq_zero_iff.1 hws
      refine ⟨h2, v2, by rw [lpk_succ]; exact keyloop_end (by omega), by simpa using o2, .refl _ _⟩
    · have := keyloop (n := N) (d := 0) (p0 := h.nx) (h0 := f0) (sa := ps) (ca := pc) (by omega) hws hw rfl (Nat.lt_of_lt_of_le hpb n3.nx) (fun i w hi q => by
        refine Eq.trans ?_ (e i w hi q)
        unfold load1k
        rw [Heap.getk_eq, Heap.getk_eq, n3.get _ hpb]) m 0 (N + 1) h2 v2 _ (by omega) (by omega) (u1.trans u2) o2 (by simp; omega)
      simpa using this
  obtain ⟨h3, v4, c3, o3, u3⟩ := hloop
  have v13 := (u1.trans u2).trans u3
  obtain ⟨h4, v5, c4, o4, u4⟩ := appendk_own (new := (digN tl tn).map bV) o3 v13.nx (by simp [digN_length]; omega)
  have hbs : ([] ++ [bV sa]) ++ [bV sb] ++ ws.map bV ++ (digN tl tn).map bV = ((sa :: sb :: ws) ++ digN tl tn).map bV := by simp
  rw [hbs] at o4
  have hlt : ∀ x ∈ (sa :: sb :: ws) ++ digN tl tn, x < 256 := fun x hx => by
    simp only [List.cons_append, List.mem_cons, List.mem_append] at hx
    rcases hx with rfl | rfl | hx | hx
    · omega
    · omega
    · have := hw x hx; omega
    · exact digN_lt _ _ x hx
  have c5 := bytesS_law o4.isS hlt
  have c4' : ∀ q, words.appS v4 (.str tl tn) h3 q = q v5 h4 := fun q => by
    show bytesk tl tn (fun cs => appendk 1 v4 tl cs h3 q) = _
    rw [bytesk_law]
    have := c4 q
    rwa [List.length_map, digN_length] at this
  have slow := key_slow (n := N + 1) (d := 0 + 1) n1 ha hb (fun q => load1k_law (rowAt (.refl _ _)) rfl q) c1 (fun q => load1k_law (rowAt u1) rfl q) c2 (fun q => load1k_law (rowAt (u1.trans u2)) rfl q)
    (m := m) (fun q => by rcases hp with ⟨rfl, rfl⟩ | ⟨_, _, _, _, rfl, _⟩ <;> rfl) c3 (fun q => load1k_law (rowAt v13) rfl q) c4' c5
  refine ⟨h4, ?_, fun b hb => ((v13.trans u4).get b (Nat.lt_of_lt_of_le hb n3.nx)).trans (n3.get b hb)⟩
  rw [← hN] at slow
  rw [packF_eq, packN_digN _ _ ht] at slow
  have hlen : ((sa :: sb :: ws) ++ digN tl tn).length = 2 + (m + tl) := by simp [digN_length, hws]; omega
  rw [hlen] at slow
  exact slow
theorem keyF_ok {l : List V} {h : Heap} {z r : Res} (hh : keyF l h z = r) (hr : r ≠ .fail) :
    z = r ∨ ∃ v hs, r = .ret v h ∧ sh40 words 1000000 (call tabW 1000000 1) l h = .ret v hs ∧ (∀ b : Bid, b.val < h.nx.val → hs.t.get b = h.t.get b) ∧ ∀ (ρ : Rho) (w : World) args, VRs ρ l args → RH Try.prog ρ h w → ∃ x, VR ρ v x := by
  obtain ⟨v, l1, rfl, h1⟩ := unc_ok hh hr
  obtain ⟨rfl, h2⟩ := nilk'_ok h1 hr
  obtain ⟨n0, cs, rfl, h3⟩ := aggk_ok h2 hr
  rcases ifk_ne h3 with ⟨e0, h4⟩ | ⟨_, h4⟩
  case inr => exact .inl h4
  obtain rfl := Nat.eq_of_beq_eq_true e0
  obtain ⟨a, c1, rfl, k1⟩ := unc_ok h4 hr
  obtain ⟨b, c2, rfl, k2⟩ := unc_ok k1 hr
  obtain ⟨t, c3, rfl, k3⟩ := unc_ok k2 hr
  obtain ⟨p, c4, rfl, k4⟩ := unc_ok k3 hr
  obtain ⟨dp, c5, rfl, k4'⟩ := unc_ok k4 hr
  obtain ⟨rfl, k5⟩ := nilk'_ok k4' hr
  obtain ⟨ia, rfl, k6⟩ := castI_det k5 hr
  obtain ⟨ib, rfl, k7⟩ := castI_det k6 hr
  obtain ⟨tl, tn, rfl, k8⟩ := strk_ok k7 hr
  cases ia with
  | negSucc _ => exact .inl k8
  | ofNat sa =>
  cases ib with
  | negSucc _ => exact .inl k8
  | ofNat sb =>
  have fin : ∀ {m : Nat} {ws : List Nat}, m < 100 → keyG sa sb tl tn m h z ws = r → ws.length = m → (∀ x ∈ ws, x < 128) →
      ((p = .nils ∧ m = 0) ∨ ∃ pb po pc ps, p = .slice pb po m pc ps ∧ pb.val < h.nx.val ∧ ∀ (j w : Nat), ws[j]? = some w → ∀ q : V → Res, load1k h pb (Nat.add po j) q = q (.int .u64 (.ofNat w))) →
      z = r ∨ ∃ v hs, r = .ret v h ∧ sh40 words 1000000 (call tabW 1000000 1) [.agg 5 [.int .i64 (.ofNat sa), .int .i64 (.ofNat sb), .str tl tn, p, dp]] h = .ret v hs ∧ (∀ b : Bid, b.val < h.nx.val → hs.t.get b = h.t.get b) ∧
        ∀ (ρ : Rho) (w : World) args, VRs ρ [.agg 5 [.int .i64 (.ofNat sa), .int .i64 (.ofNat sb), .str tl tn, p, dp]] args → RH Try.prog ρ h w → ∃ x, VR ρ v x := fun {m ws} hm hk hws hw hp => by
    rcases ifk_ne hk with ⟨g, g0⟩ | ⟨_, g0⟩
    case inr => exact .inl g0
    simp only [Bool.and_eq_true] at g
    obtain ⟨g1, g2, g3, g4⟩ := g
    rw [forceN_eq] at g0
    have g3 : tl + m ≤ 1000000 := Nat.le_of_ble_eq_true g3
    have g4 : tn < 256 ^ tl := by simpa [Nat.blt_eq] using g4
    obtain ⟨hs, x1, x2⟩ := key_law (p := p) (dp := dp) (ws := ws) (by simpa [Nat.blt_eq] using g1) (by simpa [Nat.blt_eq] using g2) g3 g4 hws hw hm hp
    refine .inr ⟨_, hs, g0.symm, x1, x2, fun ρ _ _ _ _ => ?_⟩
    have hlt : ∀ x ∈ (sa :: sb :: ws) ++ digN tl tn, x < 256 := fun x hx => by
      simp only [List.cons_append, List.mem_cons, List.mem_append] at hx
      have g1 : sa < 128 := by simpa [Nat.blt_eq] using g1
      have g2 : sb < 128 := by simpa [Nat.blt_eq] using g2
      rcases hx with rfl | rfl | hx | hx
      · omega
      · omega
      · have := hw x hx; omega
      · exact digN_lt _ _ x hx
    have hb := packN_lt hlt
    rw [packF_eq, packN_digN _ _ g4, show ((sa :: sb :: ws) ++ digN tl tn).length = Nat.add 2 (Nat.add m tl) by simp [digN_length, hws]; omega] at hb
    exact ⟨.string ⟨(dig (Nat.add 2 (Nat.add m tl)) (packF (sa :: sb :: ws) tn)).toArray⟩, .str rfl hb⟩
  rcases slk_ok k8 hr with ⟨pb, po, m, pc, ps, rfl, q1⟩ | ⟨rfl, q1⟩ | ⟨_, q1⟩
  · rcases ifk_ne q1 with ⟨g, q2⟩ | ⟨_, q2⟩
    case inr => exact .inl q2
    simp only [Bool.and_eq_true] at g
    rcases partsF_ok hr m 0 q2 with q3 | ⟨ws, q3, q4, q5, q6⟩
    · exact .inl q3
    · exact fin (by simpa [Nat.blt_eq] using g.2) q3 q4 q5 (.inr ⟨pb, po, pc, ps, rfl, by simpa [Nat.blt_eq] using g.1, fun j w hj q => by have := q6 j w hj q; rwa [Nat.zero_add] at this⟩)
  · exact fin (by decide) q1 rfl (by simp) (.inl ⟨rfl, rfl⟩)
  · exact .inl q1
theorem po40F : POok Try.prog 0 40 (.sh fun m cf l h => keyF l h (sh40 words m cf l h)) := by
  intro m cf hc
  refine .fn (FnOk.forget ((po40 m cf hc).1 (by decide)) ((po40 1000000 (call tabW 1000000 1) (cfW _ _)).1 (by decide)) fun l h r hg hr => ?_) (by decide)
  exact keyF_ok hg hr
end Go.Ev.W05

