/- EVALUATOR: maps with keys that are strings or integers; type assertions. -/
import Derived.Test.YtacpbnjbbkhngaaGreatDoorEvEx0
namespace Go.Ev
variable {P : Program}

theorem baeq (s s' : ByteArray) : (s == s') = (s.data.toList == s'.data.toList) := by
  show (s.data == s'.data) = _
  rw [Bool.eq_iff_iff, beq_iff_eq, beq_iff_eq]
  exact Array.toList_inj.symm
/- ARE TWO KEYS ONE? -/
noncomputable def eqS (l n : Nat) (y : V) (k : Bool → Res) : Res := strk y fun l' n' => k (seq l n l' n')
noncomputable def eqI (kd : IntKind) (n : Int) (y : V) (k : Bool → Res) : Res := intk y fun kd' n' => ifk (Nat.beq (kno kd) (kno kd')) (k (ieq n n')) .fail
/-- what such a comparison is worth -/
def EqOk (ρ : Rho) (d : TypeDesc) (a : Value) (E : V → (Bool → Res) → Res) : Prop := ∀ {y : V} {b : Value} {k : Bool → Res} {r : Res}, E y k = r → r ≠ .fail → VR ρ y b →
    ∃ t, k t = r ∧ Instr.sameNow d a b = some t ∧ (t = true → ∀ n, Instr.sameBits (n + 1) b a = true)
theorem eqS_ok {ρ : Rho} {l n : Nat} {a : Value} (ha : VR ρ (.str l n) a) : EqOk ρ .string a (eqS l n) := by
  intro y b k r h hr hb
  obtain ⟨l', n', rfl, h1⟩ := strk_ok (show strk y (fun l' n' => k (seq l n l' n')) = r from h) hr
  obtain ⟨s, rfl, e1, e2⟩ := ha.str_inv
  obtain ⟨s', rfl, e3, e4⟩ := hb.str_inv
  have e : (s == s') = seq l n l' n' := by rw [seq_eq e2 e4, ← e1, ← e3, baeq]
  refine ⟨_, h1, by simp [Instr.sameNow, e], fun ht n => ?_⟩
  simp only [Instr.sameBits]
  rw [← e, baeq] at ht
  rw [baeq, beq_iff_eq]
  rw [beq_iff_eq] at ht
  exact ht.symm
theorem eqI_ok {ρ : Rho} {kd k0 : IntKind} {n : Int} {a : Value} (ha : VR ρ (.int kd n) a) : EqOk ρ (.int k0) a (eqI kd n) := by
  intro y b k r h hr hb
  obtain ⟨k1, n', rfl, h1⟩ := intk_ok (show intk y (fun kd' n' => ifk (Nat.beq (kno kd) (kno kd')) (k (ieq n n')) .fail) = r from h) hr
  obtain ⟨h2, h3⟩ := ifk_fail h1 hr
  obtain rfl := kno_inj h2
  rw [ha.int_inv, hb.int_inv]
  rw [ieq_eq] at h3
  refine ⟨_, h3, by simp [Instr.sameNow], fun ht m => ?_⟩
  have : n = n' := by simpa using ht
  subst this
  simp [Instr.sameBits]
/-- a key, and its comparison; 's': keys are strings -/
noncomputable def keyk (s : Bool) (x : V) (k : (V → (Bool → Res) → Res) → Res) : Res := Bool.rec (motive := fun _ => Res) (intk x fun kd n => k (eqI kd n)) (strk x fun l n => k (eqS l n)) s
def keyD : Bool → TypeDesc → Bool
  | true, .string => true
  | false, .int _ => true
  | _, _ => false
theorem keyk_ok {s : Bool} {x : V} {k : (V → (Bool → Res) → Res) → Res} {r : Res} (h : keyk s x k = r) (hr : r ≠ .fail) {ρ : Rho} {a : Value} (ha : VR ρ x a) {d : TypeDesc} (hd : keyD s d = true) :
    ∃ E, k E = r ∧ EqOk ρ d a E := by
  cases s with
  | true =>
    obtain ⟨l, n, rfl, h1⟩ := strk_ok (show strk x (fun l n => k (eqS l n)) = r from h) hr
    obtain rfl : d = .string := by cases d <;> first | rfl | cases hd
    exact ⟨_, h1, eqS_ok ha⟩
  | false =>
    obtain ⟨kd, n, rfl, h1⟩ := intk_ok (show intk x (fun kd n => k (eqI kd n)) = r from h) hr
    obtain ⟨k0, rfl⟩ : ∃ k0, d = .int k0 := by cases d <;> first | exact ⟨_, rfl⟩ | cases hd
    exact ⟨_, h1, eqI_ok ha⟩
theorem checkKey_succ {w : World} {b s : Bool} {t : TypeId} {d : TypeDesc} (ht : P.underlying t = some d) (hd : keyD s d = true) (v : Value) (n : Nat) : (Instr.checkKey b (n + 1) t v).run P w = .ok () w := by
  simp only [Instr.checkKey, Sem.run_bind, run_und ht, Result.andThen_ok]
  cases s <;> cases d <;> first | (cases hd; done) | (cases v <;> rfl)
theorem run_checkKey {w : World} {b s : Bool} {t : TypeId} {d : TypeDesc} (ht : P.underlying t = some d) (hd : keyD s d = true) (v : Value) : (Instr.checkKey b 10000 t v).run P w = .ok () w := checkKey_succ ht hd v 9999

/- THE ENTRIES -/
/-- the value under a key -/
noncomputable def lookm (E : V → (Bool → Res) → Res) (kf : V → Res) (kn : Res) (es : List ME) : Res :=
  List.rec (motive := fun _ => Res) kn (fun m _ ih => ME.rec (motive := fun _ => Res) (fun key v _ => E key fun t => ifk t (kf v) ih) m) es
theorem lookm_ok {E : V → (Bool → Res) → Res} {kf : V → Res} {kn : Res} {ρ : Rho} {d : TypeDesc} {a : Value} (hE : EqOk ρ d a E) {r : Res} (hr : r ≠ .fail) : ∀ {es : List ME} {ces : List MapEntry} (i : Nat), lookm E kf kn es = r → MapR ρ es ces →
    (kn = r ∧ Instr.findNow d a ces i = some none) ∨ ∃ v x j, kf v = r ∧ VR ρ v x ∧ Instr.findNow d a ces i = some (some (j, x))
  | [], [], i, h, _ => .inl ⟨h, rfl⟩
  | ⟨key, v, b⟩ :: es, e :: ces, i, h, ⟨h1, h2, h3, h4⟩ => by
    obtain ⟨t, h5, h6, _⟩ := hE (show E key (fun t => ifk t (kf v) (lookm E kf kn es)) = r from h) hr h1
    rcases ifk_ne h5 with ⟨rfl, h7⟩ | ⟨rfl, h7⟩
    · exact .inr ⟨v, _, i, h7, h2, by simp [Instr.findNow, h6]⟩
    · rcases lookm_ok hE hr (i + 1) h7 h4 with ⟨h8, h9⟩ | ⟨v', x, j, h8, h9, h10⟩
      · exact .inl ⟨h8, by simp [Instr.findNow, h6, h9]⟩
      · exact .inr ⟨v', x, j, h8, h9, by simp [Instr.findNow, h6, h10]⟩
  | [], _ :: _, _, _, h => h.elim
  | _ :: _, [], _, _, h => h.elim
/-- put under a key -/
noncomputable def putm (E : V → (Bool → Res) → Res) (key v : V) (c : Nat) (es : List ME) : (List ME → Nat → Res) → Res :=
  List.rec (motive := fun _ => (List ME → Nat → Res) → Res) (fun k => k [⟨key, v, c⟩] (Nat.succ c))
    (fun m l ih k => ME.rec (motive := fun _ => Res) (fun key0 _ b => E key0 fun t => ifk t (k (⟨key, v, b⟩ :: l) c) (ih fun l' c' => k (m :: l') c')) m) es
theorem putm_ok {E : V → (Bool → Res) → Res} {ρ : Rho} {d : TypeDesc} {a x : Value} (hE : EqOk ρ d a E) {key v : V} (hk : VR ρ key a) (hv : VR ρ v x) {c : Nat} {r : Res} (hr : r ≠ .fail) :
    ∀ {es : List ME} {ces : List MapEntry} {k : List ME → Nat → Res} (i : Nat), putm E key v c es k = r → MapR ρ es ces →
    (∃ es', k es' (c + 1) = r ∧ Instr.findNow d a ces i = some none ∧ MapR ρ es' (ces ++ [{ key := a, val := x, born := c }])) ∨
    ∃ es' j o, k es' c = r ∧ Instr.findNow d a ces i = some (some (i + j, o)) ∧ (∃ e, ces[j]? = some e ∧ ∀ n, Instr.sameBits (n + 1) e.key a = true) ∧ MapR ρ es' (ces.modify j fun e => { e with key := a, val := x })
  | [], [], k, i, h, _ => .inl ⟨_, h, rfl, ⟨hk, hv, rfl, trivial⟩⟩
  | ⟨key0, v0, b⟩ :: es, e :: ces, k, i, h, ⟨h1, h2, h3, h4⟩ => by
    obtain ⟨t, h5, h6, h6'⟩ := hE (show E key0 (fun t => ifk t (k (⟨key, v, b⟩ :: es) c) (putm E key v c es fun l' c' => k (⟨key0, v0, b⟩ :: l') c')) = r from h) hr h1
    rcases ifk_ne h5 with ⟨rfl, h7⟩ | ⟨rfl, h7⟩
    · exact .inr ⟨_, 0, e.val, h7, by simp [Instr.findNow, h6], ⟨e, rfl, h6' rfl⟩, by simpa using ⟨hk, hv, h3, h4⟩⟩
    · rcases putm_ok hE hk hv hr (k := fun l' c' => k (⟨key0, v0, b⟩ :: l') c') (i + 1) h7 h4 with ⟨es', h8, h9, h10⟩ | ⟨es', j, o, h8, h9, ⟨e', h10, h11⟩, h12⟩
      · exact .inl ⟨_, h8, by simp [Instr.findNow, h6, h9], ⟨h1, h2, h3, h10⟩⟩
      · exact .inr ⟨_, j + 1, o, h8, by simp [Instr.findNow, h6, h9]; omega, ⟨e', by simpa using h10, h11⟩, by simpa using ⟨h1, h2, h3, h12⟩⟩
  | [], _ :: _, _, _, _, h => h.elim
  | _ :: _, [], _, _, _, h => h.elim
/-- take away what stands under a key -/
noncomputable def cutm (E : V → (Bool → Res) → Res) (es : List ME) : (List ME → Res) → Res :=
  List.rec (motive := fun _ => (List ME → Res) → Res) (fun k => k []) (fun m l ih k => ME.rec (motive := fun _ => Res) (fun key0 _ _ => E key0 fun t => ifk t (k l) (ih fun l' => k (m :: l'))) m) es
theorem cutm_ok {E : V → (Bool → Res) → Res} {ρ : Rho} {d : TypeDesc} {a : Value} (hE : EqOk ρ d a E) {r : Res} (hr : r ≠ .fail) :
    ∀ {es : List ME} {ces : List MapEntry} {k : List ME → Res} (i : Nat), cutm E es k = r → MapR ρ es ces →
    (∃ es', k es' = r ∧ Instr.findNow d a ces i = some none ∧ MapR ρ es' ces) ∨ ∃ es' j o, k es' = r ∧ Instr.findNow d a ces i = some (some (i + j, o)) ∧ MapR ρ es' (ces.eraseIdx j)
  | [], [], k, i, h, _ => .inl ⟨_, h, rfl, trivial⟩
  | ⟨key0, v0, b⟩ :: es, e :: ces, k, i, h, ⟨h1, h2, h3, h4⟩ => by
    obtain ⟨t, h5, h6, h6'⟩ := hE (show E key0 (fun t => ifk t (k es) (cutm E es fun l' => k (⟨key0, v0, b⟩ :: l'))) = r from h) hr h1
    rcases ifk_ne h5 with ⟨rfl, h7⟩ | ⟨rfl, h7⟩
    · exact .inr ⟨_, 0, e.val, h7, by simp [Instr.findNow, h6], by simpa using h4⟩
    · rcases cutm_ok hE hr (k := fun l' => k (⟨key0, v0, b⟩ :: l')) (i + 1) h7 h4 with ⟨es', h8, h9, h10⟩ | ⟨es', j, o, h8, h9, h12⟩
      · exact .inl ⟨_, h8, by simp [Instr.findNow, h6, h9], ⟨h1, h2, h3, h10⟩⟩
      · exact .inr ⟨_, j + 1, o, h8, by simp [Instr.findNow, h6, h9]; omega, by simpa using ⟨h1, h2, h3, h12⟩⟩
  | [], _ :: _, _, _, _, h => h.elim
  | _ :: _, [], _, _, _, h => h.elim
theorem MapR.length {ρ : Rho} : ∀ {es : List ME} {ces : List MapEntry}, MapR ρ es ces → es.length = ces.length
  | [], [], _ => rfl
  | _ :: _, _ :: _, h => by simp [MapR.length h.2.2.2]
  | [], _ :: _, h => h.elim
  | _ :: _, [], h => h.elim

/- THE OPERATIONS -/
/-- the map that a value leads to -/
noncomputable def mapb (x : V) (h : Heap) (k : Bid → List ME → Nat → Res) (z : Res) : Res := mapk x (fun b => h.getk b fun y => obk y fun y => mpk y fun es c => k b es c) z
theorem mapb_ok {x : V} {h : Heap} {k : Bid → List ME → Nat → Res} {z r : Res} (hh : mapb x h k z = r) (hr : r ≠ .fail) {ρ : Rho} {w : World} (rh : RH P ρ h w) {v : Value} (hv : VR ρ x v) :
    (v = .map none ∧ z = r) ∨ ∃ b es c i S ces, x = .map b ∧ ρ b = some (i, 0, S) ∧ h.t.get b = .ob (.mp es c) ∧ k b es c = r ∧ v = .map (some i) ∧ w.heap[i]? = some (.map ces c) ∧ MapR ρ es ces.toList := by
  rcases mapk_ok hh hr with ⟨b, rfl, h1⟩ | ⟨rfl, h1⟩
  · rw [Heap.getk_eq] at h1
    obtain ⟨y, hy, h1⟩ := obk_ok h1 hr
    obtain ⟨es, c, rfl, h1⟩ := mpk_ok h1 hr
    cases hv with
    | map hb =>
      rename_i i z0 S
      obtain ⟨ob, g1, g2, rfl, _⟩ := rh.ob b i z0 S _ hb hy
      have : ∃ ces, ob = .map ces c ∧ MapR ρ es ces.toList := by cases ob <;> first | exact absurd g2 id | exact ⟨_, by rw [g2.2], g2.1⟩
      obtain ⟨ces, rfl, g3⟩ := this
      exact .inr ⟨b, es, c, i, S, ces, rfl, hb, hy, h1, rfl, g1, g3⟩
  · cases hv; exact .inl ⟨rfl, h1⟩
theorem run_getObj {w : World} {i : Nat} {es : Array MapEntry} {c : Nat} (h : w.heap[i]? = some (.map es c)) : (getObj i).run P w = .ok (.map es c) w := by
  show Sem.run P (.getObj i .pure) w = _
  simp only [Sem.run, h]
theorem run_setObj {w : World} {i : Nat} {es : Array MapEntry} {c : Nat} {o' : Obj} (h : w.heap[i]? = some (.map es c)) : (setObj i o').run P w = .ok () { w with heap := w.heap.setIfInBounds i o' } := by
  show Sem.run P (.setObj i o' (.pure ())) w = _
  simp only [Sem.run, h]

/-- 'make' of a map -/
noncomputable def sMkM (l : List V) (h : Heap) (k : V → Heap → Res) : Res :=
  List.rec (motive := fun _ => Res) (h.newk (.ob (.mp [] 0)) fun b h' => k (.map b) h') (fun v m _ => intk v fun _ _ => nilk' m (h.newk (.ob (.mp [] 0)) fun b h' => k (.map b) h')) l
theorem sMkM_new {h : Heap} {k : V → Heap → Res} {r : Res} (hh : (h.newk (.ob (.mp [] 0)) fun b h' => k (.map b) h') = r) (hr : r ≠ .fail) {ρ : Rho} {w : World} (rh : RH P ρ h w) :
    ∃ u h' ρ', k u h' = r ∧ VR ρ' u (.map (some w.heap.size)) ∧ RH P ρ' h' { w with heap := w.heap.push (.map #[] 0) } ∧ Ext ρ h w ρ' h' { w with heap := w.heap.push (.map #[] 0) } := by
  obtain ⟨nx, h2, h3⟩ := Heap.newk_ok hh hr
  obtain ⟨h4, h5⟩ := alloc rh h2 (x := .ob (.mp [] 0)) (o := .map #[] 0) (S := 0) (fun g n t ro e => by cases e) (fun x' e => by cases e; exact ⟨trivial, rfl⟩)
  exact ⟨_, _, _, h3, .map (Rho.put_same ρ h.nx _), h4, h5⟩
theorem sMkM_ok {l : List V} {h : Heap} {k : V → Heap → Res} {r : Res} (hh : sMkM l h k = r) (hr : r ≠ .fail) {ρ : Rho} {w : World} (rh : RH P ρ h w) {x : Option Value} (hv : VRs ρ l x.toList)
    {t a b : TypeId} (ht : P.underlying t = some (.map a b)) : Ok P ρ h w (Instr.makeMap t x) k r := by
  cases x with
  | none =>
    cases hv
    obtain ⟨u, h', ρ', h1, h2, h3, h4⟩ := sMkM_new hh hr rh
    exact ⟨u, h', ρ', _, _, h1, by simp [Instr.makeMap], h2, h3, h4⟩
  | some x =>
    cases hv with
    | cons hv hs =>
      cases hs
      obtain ⟨kd, n, rfl, h1⟩ := intk_ok (show intk _ (fun _ _ => nilk' [] (h.newk (.ob (.mp [] 0)) fun b h' => k (.map b) h')) = r from hh) hr
      obtain ⟨_, h1⟩ := nilk'_ok h1 hr
      obtain ⟨u, h', ρ', h1, h2, h3, h4⟩ := sMkM_new h1 hr rh
      rw [hv.int_inv]
      exact ⟨u, h', ρ', _, _, h1, by simp [Instr.makeMap, run_und ht, asInt, asIntOf], h2, h3, h4⟩

/-- with 'ok', or without -/
noncomputable def okv (ok : Bool) (v : V) (t : Bool) : V := Bool.rec (motive := fun _ => V) v (.tup [v, .bool t]) ok
theorem okv_ok {ρ : Rho} {ok t : Bool} {v : V} {x : Value} (h : VR ρ v x) : VR ρ (okv ok v t) (if ok then .tuple #[x, .bool t] else x) := by
  cases ok with
  | true => exact .tup (.cons h (.cons (.bool _) .nil))
  | false => exact h
/-- a zero value, as one value -/
def ZeroV (P : Program) (t : TypeId) (z : V) : Prop := ∃ zv, (P.info? t).bind (·.zero) = some zv ∧ ∀ ρ, VR ρ z zv
noncomputable def sLook (s ok : Bool) (z x key : V) (h : Heap) (k : V → Heap → Res) : Res :=
  keyk s key fun E => mapb x h (fun _ es _ => lookm E (fun v => k (okv ok v true) h) (k (okv ok z false) h) es) (k (okv ok z false) h)
theorem sLook_ok {s ok : Bool} {z x key : V} {h : Heap} {k : V → Heap → Res} {r : Res} (hh : sLook s ok z x key h k = r) (hr : r ≠ .fail) {ρ : Rho} {w : World} (rh : RH P ρ h w) {v a : Value} (hv : VR ρ x v) (ha : VR ρ key a)
    {t kt et : TypeId} {d : TypeDesc} (ht : P.underlying t = some (.map kt et)) (hk : P.underlying kt = some d) (hd : keyD s d = true) (hz : ZeroV P et z) : OkP P ρ h w (Instr.lookup t v a ok) k r := by
  obtain ⟨zv, hz1, hz2⟩ := hz
  obtain ⟨E, h1, hE⟩ := keyk_ok hh hr ha hd
  rcases mapb_ok h1 hr rh hv with ⟨rfl, h2⟩ | ⟨b, es, c, i, S, ces, rfl, hb, hy, h2, rfl, h3, h4⟩
  · refine ⟨_, _, h2, ?_, okv_ok (hz2 ρ)⟩
    simp only [Instr.lookup, Sem.run_bind, run_und ht, Result.andThen_ok, Sem.run_pure, run_checkKey hk hd, Instr.findKey, run_und hk, Instr.findNow, run_zero hz1]
  · rcases lookm_ok hE hr 0 h2 h4 with ⟨h5, h6⟩ | ⟨v', x', j, h5, h7, h6⟩
    · refine ⟨_, _, h5, ?_, okv_ok (hz2 ρ)⟩
      simp only [Instr.lookup, Sem.run_bind, run_und ht, Result.andThen_ok, Sem.run_pure, run_getObj h3, run_checkKey hk hd, Instr.findKey, run_und hk, h6, run_zero hz1]
    · refine ⟨_, _, h5, ?_, okv_ok h7⟩
      simp only [Instr.lookup, Sem.run_bind, run_und ht, Result.andThen_ok, Sem.run_pure, run_getObj h3, run_checkKey hk hd, Instr.findKey, run_und hk, h6]

/-- a map's block turns -/
theorem turn_map {ρ : Rho} {h : Heap} {w : World} (rh : RH P ρ h w) {b : Bid} {i S : Nat} (hb : ρ b = some (i, 0, S)) {y : Oth} (hy : h.t.get b = .ob y) {ces ces' : Array MapEntry} {c c' : Nat} (hw : w.heap[i]? = some (.map ces c)) {es' : List ME}
    (hm : MapR ρ es' ces'.toList) : RH P ρ (h.turn b (.ob (.mp es' c'))) { w with heap := w.heap.setIfInBounds i (.map ces' c') } ∧ Ext ρ h w ρ (h.turn b (.ob (.mp es' c'))) { w with heap := w.heap.setIfInBounds i (.map ces' c') } := by
  have hlt := rh.lt _ _ _ _ hb
  exact turn (w' := { w with heap := w.heap.setIfInBounds i (.map ces' c') }) rh hb (by rw [hy]; rfl) (x := .ob (.mp es' c')) (o := .map ces' c') rfl rfl rfl (by simp) (by simp [hlt]) (fun k hk => by simp [Array.getElem?_setIfInBounds, Ne.symm hk])
    (fun g n t ro e => by cases e) (fun x' e => by cases e; exact ⟨⟨hm, rfl⟩, rfl⟩)
noncomputable def sUpd (s : Bool) (x key v : V) (h : Heap) (k : V → Heap → Res) : Res :=
  keyk s key fun E => mapb x h (fun b es c => putm E key v c es fun es' c' => h.turnk b (.ob (.mp es' c')) fun h' => k .skip h') .fail
theorem sUpd_ok {s : Bool} {x key u : V} {h : Heap} {k : V → Heap → Res} {r : Res} (hh : sUpd s x key u h k = r) (hr : r ≠ .fail) {ρ : Rho} {w : World} (rh : RH P ρ h w) {v a y : Value} (hv : VR ρ x v) (ha : VR ρ key a) (hu : VR ρ u y)
    {t kt et : TypeId} {d : TypeDesc} (ht : P.underlying t = some (.map kt et)) (hk : P.underlying kt = some d) (hd : keyD s d = true) : OkU P ρ h w (Instr.mapUpdate t v a y) k r := by
  obtain ⟨E, h1, hE⟩ := keyk_ok hh hr ha hd
  rcases mapb_ok h1 hr rh hv with ⟨rfl, h2⟩ | ⟨b, es, c, i, S, ces, rfl, hb, hy, h2, rfl, h3, h4⟩
  · exact absurd h2.symm hr
  · rcases putm_ok hE ha hu hr 0 h2 h4 with ⟨es', h5, h6, h7⟩ | ⟨es', j, o, h5, h6, ⟨e, h8, h9⟩, h7⟩
    · rw [Heap.turnk_eq] at h5
      obtain ⟨h10, h11⟩ := turn_map rh hb hy h3 (c' := c + 1) (ces' := ces.push { key := a, val := y, born := c }) (by simpa using h7)
      refine ⟨_, _, _, h5, ?_, h10, h11⟩
      simp only [Instr.mapUpdate, Sem.run_bind, run_und ht, Result.andThen_ok, run_getObj h3, run_checkKey hk hd, Instr.findKey, run_und hk, h6, Sem.run_pure, run_setObj h3]
    · rw [Heap.turnk_eq] at h5
      obtain ⟨h10, h11⟩ := turn_map rh hb hy h3 (c' := c) (ces' := ces.modify j fun e => { e with key := a, val := y }) (by simpa using h7)
      refine ⟨_, _, _, h5, ?_, h10, h11⟩
      have hj : ces[j]? = some e := by simpa using h8
      simp only [Instr.mapUpdate, Sem.run_bind, run_und ht, Result.andThen_ok, run_getObj h3, run_checkKey hk hd, Instr.findKey, run_und hk, h6, Sem.run_pure, hj, Option.map_some, Option.getD_some, Instr.keyThatStays, h9 9999, if_true, run_setObj h3, Nat.zero_add]
noncomputable def sDel (s : Bool) (x key : V) (h : Heap) (k : V → Heap → Res) : Res :=
  keyk s key fun E => mapb x h (fun b es c => cutm E es fun es' => h.turnk b (.ob (.mp es' c)) fun h' => k (.tup []) h') (k (.tup []) h)
theorem sDel_ok {s : Bool} {x key : V} {h : Heap} {k : V → Heap → Res} {r : Res} (hh : sDel s x key h k = r) (hr : r ≠ .fail) {ρ : Rho} {w : World} (rh : RH P ρ h w) {v a : Value} (hv : VR ρ x v) (ha : VR ρ key a)
    {ts : Array TypeId} {t kt et tt : TypeId} {d : TypeDesc} (hts : ts[0]? = some t) (ht : P.underlying t = some (.map kt et)) (hk : P.underlying kt = some d) (hd : keyD s d = true) : Ok P ρ h w (Builtin.delete_ ts tt #[v, a]) k r := by
  obtain ⟨E, h1, hE⟩ := keyk_ok hh hr ha hd
  rcases mapb_ok h1 hr rh hv with ⟨rfl, h2⟩ | ⟨b, es, c, i, S, ces, rfl, hb, hy, h2, rfl, h3, h4⟩
  · refine .pure rh ⟨_, .tuple #[], h2, ?_, .tup .nil⟩
    simp [Builtin.delete_, hts, run_und ht, run_checkKey hk hd]
  · rcases cutm_ok hE hr 0 h2 h4 with ⟨es', h5, h6, h7⟩ | ⟨es', j, o, h5, h6, h7⟩
    · rw [Heap.turnk_eq] at h5
      obtain ⟨h10, h11⟩ := turn_map rh hb hy h3 (c' := c) (ces' := ces) h7
      refine ⟨_, _, _, .tuple #[], _, h5, ?_, .tup .nil, h10, h11⟩
      simp only [Builtin.delete_, hts, Sem.run_bind, run_und ht, Result.andThen_ok, run_getObj h3, run_checkKey hk hd, Instr.findKey, run_und hk, h6, Sem.run_pure, run_setObj h3, List.getElem?_toArray, List.getElem?_cons_zero, List.getElem?_cons_succ]
    · rw [Heap.turnk_eq] at h5
      obtain ⟨h10, h11⟩ := turn_map rh hb hy h3 (c' := c) (ces' := ces.eraseIdxIfInBounds j) (by simpa using h7)
      refine ⟨_, _, _, .tuple #[], _, h5, ?_, .tup .nil, h10, h11⟩
      simp only [Builtin.delete_, hts, Sem.run_bind, run_und ht, Result.andThen_ok, run_getObj h3, run_checkKey hk hd, Instr.findKey, run_und hk, h6, Sem.run_pure, run_setObj h3, List.getElem?_toArray, List.getElem?_cons_zero, List.getElem?_cons_succ, Nat.zero_add]
/-- how many entries -/
noncomputable def lenl (es : List ME) : Nat := List.rec (motive := fun _ => Nat) 0 (fun _ _ n => Nat.succ n) es
theorem lenl_eq (es : List ME) : lenl es = es.length := by
  induction es with
  | nil => rfl
  | cons m es ih => show Nat.succ (lenl es) = _; rw [ih]; rfl
noncomputable def sLenM (x : V) (h : Heap) (k : V → Heap → Res) : Res := mapb x h (fun _ es _ => k (.int .i64 (.ofNat (lenl es))) h) (k (.int .i64 (.ofNat 0)) h)
theorem sLenM_ok {x : V} {h : Heap} {k : V → Heap → Res} {r : Res} (hh : sLenM x h k = r) (hr : r ≠ .fail) {ρ : Rho} {w : World} (rh : RH P ρ h w) {v : Value} (hv : VR ρ x v)
    {ts : Array TypeId} {t kt et tt : TypeId} (hts : ts[0]? = some t) (ht : P.underlying t = some (.map kt et)) : OkP P ρ h w (Builtin.len_ ts tt #[v]) k r := by
  rcases mapb_ok hh hr rh hv with ⟨rfl, h2⟩ | ⟨b, es, c, i, S, ces, rfl, hb, hy, h2, rfl, h3, h4⟩
  · refine ⟨_, _, h2, ?_, .int _ _⟩
    simp [Builtin.len_, hts, run_und ht, goInt]
  · rw [lenl_eq, h4.length] at h2
    refine ⟨_, _, h2, ?_, .int _ _⟩
    simp [Builtin.len_, hts, run_und ht, run_getObj h3, goInt]

/- ARE TWO POINTERS ONE? -/
noncomputable def sEqP (o : BinOp) (x y : V) (h : Heap) (k : V → Heap → Res) : Res :=
  pnk x fun a => pnk y fun b => ifk a (notIf o b fun u => k u h) (ifk b (notIf o false fun u => k u h)
    (ptrk x fun b1 o1 => ptrk y fun b2 o2 => ifk (Nat.beq b1.val b2.val) (notIf o (Nat.beq o1 o2) fun u => k u h)
      (h.getk b1 fun y1 => arrk y1 fun g1 _ _ ro1 => h.getk b2 fun y2 => arrk y2 fun g2 _ _ ro2 => ifk (or (or ro1 ro2) (or (Nat.beq g1 1) (Nat.beq g2 1))) .fail (notIf o false fun u => k u h))))
theorem run_sameAddr {w : World} {c c' o o' : Nat} {cs cs' : Array Value} {el el' : TypeId} {fz fz' : Nat × Nat} (h : w.heap[c]? = some (.cells cs el fz)) (h' : w.heap[c']? = some (.cells cs' el' fz')) (hf : fz.1 = fz.2) (hf' : fz'.1 = fz'.2)
    (hne : c ≠ c') : (sameAddr ⟨c, o, none⟩ ⟨c', o', none⟩).run P w = .ok false w := by
  have e1 : w.shape? c = some (el, cs.size) := by simp [World.shape?, h]
  have e2 : w.shape? c' = some (el', cs'.size) := by simp [World.shape?, h']
  have f1 : ∀ o, w.frozen? ⟨c, o, none⟩ = false := fun o => by
    obtain ⟨lo, hi⟩ := fz
    simp only at hf
    simp only [World.frozen?, h]
    simp; omega
  have f2 : ∀ o, w.frozen? ⟨c', o, none⟩ = false := fun o => by
    obtain ⟨lo, hi⟩ := fz'
    simp only at hf'
    simp only [World.frozen?, h']
    simp; omega
  have r1 : ∀ o, (frozen ⟨c, o, none⟩).run P w = .ok false w := fun o => by
    show Sem.run P (.frozen _ .pure) w = _
    simp only [Sem.run, f1]
  have r2 : ∀ o, (frozen ⟨c', o, none⟩).run P w = .ok false w := fun o => by
    show Sem.run P (.frozen _ .pure) w = _
    simp only [Sem.run, f2]
  have s1 : (shape c).run P w = .ok (some (el, cs.size)) w := by
    show Sem.run P (.shape c .pure) w = _
    simp only [Sem.run, e1]
  have s2 : (shape c').run P w = .ok (some (el', cs'.size)) w := by
    show Sem.run P (.shape c' .pure) w = _
    simp only [Sem.run, e2]
  have hb : (c == c') = false := by simpa using hne
  simp only [sameAddr, hb, Bool.false_eq_true, if_false, Sem.run_bind, r1, r2, Result.andThen_ok, Bool.false_and, noView, viewAt, s1, s2, Option.isSome_some, if_true, Sem.run_pure, Option.isSome_none, mayBeOne, stringish, Bool.or_false]
theorem sEqP_ok {o : BinOp} {x y : V} {h : Heap} {k : V → Heap → Res} {r : Res} (hh : sEqP o x y h k = r) (hr : r ≠ .fail) {ρ : Rho} {w : World} (rh : RH P ρ h w) {a b : Value} (ha : VR ρ x a) (hb : VR ρ y b) {t e : TypeId}
    (ht : P.underlying t = some (.pointer e)) {n : Nat} (hs : sz P e = some n) (hn : n ≠ 0) (X Y : Operand) :
    ∃ u z, k u h = r ∧ (do eqGuard o t X Y a b; binOp o t a b : Sem Value).run P w = .ok z w ∧ VR ρ u z ∧ z.oneCell' = true := by
  have done : ∀ {q : Bool}, notIf o q (fun u => k u h) = r → (Op.equal t a b).run P w = .ok q w → (∃ p, a = .pointer p) →
      ∃ u z, k u h = r ∧ (do eqGuard o t X Y a b; binOp o t a b : Sem Value).run P w = .ok z w ∧ VR ρ u z ∧ z.oneCell' = true := fun {q} h1 h2 h3 => by
    obtain ⟨p, rfl⟩ := h3
    exact eqop_ok (k := fun u => k u h) h1 hr (by unfold eqGuard; cases o <;> rfl) h2 (eql_shape (by cases b <;> trivial)).1 (eql_shape (by cases b <;> trivial)).2
  rcases pnk_ok hh hr ha with ⟨rfl, h1⟩ | ⟨p, rfl, h1⟩ <;> rcases pnk_ok h1 hr hb with ⟨rfl, h2⟩ | ⟨q, rfl, h2⟩
  · exact done (q := true) h2 (run_equal_of fun d => by simp [Op.equalIn, run_und ht]) ⟨_, rfl⟩
  · exact done (q := false) h2 (run_equal_of fun d => by simp [Op.equalIn, run_und ht]) ⟨_, rfl⟩
  · exact done (q := false) h2 (run_equal_of fun d => by simp [Op.equalIn, run_und ht]) ⟨_, rfl⟩
  · obtain ⟨b1, o1, rfl, h3⟩ := ptrk_ok (show ptrk x _ = r from h2) hr
    obtain ⟨b2, o2, rfl, h4⟩ := ptrk_ok h3 hr
    obtain ⟨c1, z1, S1, r1, e1⟩ := ha.ptr_inv
    obtain ⟨c2, z2, S2, r2, e2⟩ := hb.ptr_inv
    cases e1; cases e2
    have run : ∀ {q : Bool}, (sameAddr ⟨c1, z1 + o1, none⟩ ⟨c2, z2 + o2, none⟩).run P w = .ok q w → (Op.equal t (.pointer (some ⟨c1, z1 + o1, none⟩)) (.pointer (some ⟨c2, z2 + o2, none⟩))).run P w = .ok q w := fun {q} h => by
      refine run_equal_of fun d => ?_
      simp only [Op.equalIn, Sem.run_bind, run_und ht, Result.andThen_ok, run_size hs]
      rw [if_pos hn]
      exact h
    rcases ifk_ne h4 with ⟨h5, h6⟩ | ⟨h5, h6⟩
    · obtain rfl := Bid.val_inj (Nat.eq_of_beq_eq_true h5)
      rw [r1] at r2
      cases r2
      refine done h6 (run ?_) ⟨_, rfl⟩
      simp only [sameAddr, beq_self_eq_true, if_true, Sem.run_pure]
      congr 1
      rw [Bool.eq_iff_iff, Nat.beq_eq, beq_iff_eq]
      constructor
      · intro h
        have := congrArg Addr.off h
        simp only at this; omega
      · rintro rfl; rfl
    · rw [Heap.getk_eq] at h6
      obtain ⟨g1, m1, t1, ro1, k1, h7⟩ := arrk_ok h6 hr
      rw [Heap.getk_eq] at h7
      obtain ⟨g2, m2, t2, ro2, k2, h8⟩ := arrk_ok h7 hr
      rcases ifk_ne h8 with ⟨_, h9⟩ | ⟨h9, h10⟩
      · exact absurd h9.symm hr
      · simp only [Bool.or_eq_false_iff] at h9
        obtain ⟨⟨rfl, rfl⟩, h11, h12⟩ := h9
        obtain ⟨cs1, a1⟩ := rh.arr _ _ _ _ _ _ _ _ r1 k1
        obtain ⟨cs2, a2⟩ := rh.arr _ _ _ _ _ _ _ _ r2 k2
        obtain ⟨el1, fz1, w1, f1⟩ := a1.at_
        obtain ⟨el2, fz2, w2, f2⟩ := a2.at_
        have g1 : fz1.1 = fz1.2 := (f1 rfl).elim id fun h => by rw [h.2] at h11; cases h11
        have g2 : fz2.1 = fz2.2 := (f2 rfl).elim id fun h => by rw [h.2] at h12; cases h12
        refine done h10 (run (run_sameAddr w1 w2 g1 g2 ?_)) ⟨_, rfl⟩
        rintro rfl
        have := rh.inj _ _ _ _ _ _ _ (by rw [k1]; rfl) (by rw [k2]; simp) r1 r2
        subst this
        rw [Nat.beq_refl] at h5; cases h5

/- TYPE ASSERTIONS: to a type that is no interface -/
noncomputable def sTas (t : Nat) (ok : Bool) (z x : V) (h : Heap) (k : V → Heap → Res) : Res :=
  ifk2 x (fun t' v => ifk (Nat.beq t' t) (k (okv ok v true) h) (ifk ok (k (okv ok z false) h) .fail)) (ifk ok (k (okv ok z false) h) .fail)
def notIface : TypeDesc → Bool
  | .interface _ => false
  | _ => true
theorem sTas_ok {t : Nat} {ok : Bool} {z x : V} {h : Heap} {k : V → Heap → Res} {r : Res} (hh : sTas t ok z x h k = r) (hr : r ≠ .fail) {ρ : Rho} {w : World} {v : Value} (hv : VR ρ x v) {xt : TypeId}
    {d : TypeDesc} (ht : P.underlying t = some d) (hd : notIface d = true) (hz : ok = true → ZeroV P t z) : OkP P ρ h w (Instr.typeAssert v xt t ok) k r := by
  have dm : ∀ {α : Type} (f : Array (String × TypeId) → α) (g : α), (match d with | .interface ms => f ms | _ => g) = g := fun f g => by cases d <;> first | rfl | cases hd
  rcases ifk2_ok hh hr with ⟨t', v', rfl, h1⟩ | ⟨rfl, h1⟩
  · cases hv with
    | iface hv' =>
      rename_i x'
      rcases ifk_ne h1 with ⟨e, h2⟩ | ⟨e, h2⟩
      · obtain rfl := Nat.eq_of_beq_eq_true e
        refine ⟨_, _, h2, ?_, okv_ok hv'⟩
        simp only [Instr.typeAssert, Sem.run_bind, run_und ht, Result.andThen_ok]
        cases d <;> first | (cases hd; done) | (simp only [if_true, Sem.run_pure])
      · obtain ⟨rfl, h3⟩ := ifk_fail h2 hr
        obtain ⟨zv, hz1, hz2⟩ := hz rfl
        refine ⟨_, _, h3, ?_, okv_ok (hz2 ρ)⟩
        have hne : ¬ t' = t := by rintro rfl; rw [Nat.beq_refl] at e; cases e
        simp only [Instr.typeAssert, Sem.run_bind, run_und ht, Result.andThen_ok]
        cases d <;> first | (cases hd; done) | (simp only [if_neg hne, if_true, Sem.run_bind, run_zero hz1, Result.andThen_ok, Sem.run_pure])
  · cases hv
    obtain ⟨rfl, h3⟩ := ifk_fail h1 hr
    obtain ⟨zv, hz1, hz2⟩ := hz rfl
    refine ⟨_, _, h3, ?_, okv_ok (hz2 ρ)⟩
    simp only [Instr.typeAssert, Sem.run_bind, run_und ht, Result.andThen_ok]
    cases d <;> first | (cases hd; done) | (simp only [if_true, Sem.run_bind, run_zero hz1, Result.andThen_ok, Sem.run_pure])
end Go.Ev
