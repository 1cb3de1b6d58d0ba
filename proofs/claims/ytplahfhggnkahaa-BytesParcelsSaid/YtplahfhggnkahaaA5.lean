/- Typed values and cells. -/
import Derived.Test.YtplahfhggnkahaaA4
set_option linter.all false
namespace Go.Ab

section
variable {z : Z}
theorem VRep.scal {w : World} {M : Nat → Prop} {t : Ty} {x : t.den} {v : Value} (h : VRep w M t x v) (ht : t.isAgg = false) (hc : t.cells = 1) : Cl w M t x [v] := by
  obtain ⟨vs, h1, h2⟩ := h
  have hl := h1.len
  rw [ht] at h2
  simp only [cond_false] at h2
  match vs, hl with
  | [u], _ => simp at h2; subst h2; exact h1
  | [], hl => simp at hl; omega
  | _ :: _ :: _, hl => simp at hl; omega
theorem VRep.int {w : World} {M : Nat → Prop} {k : IntKind} {n : Int} {v : Value} (h : VRep w M (.int k) n v) : v = .int k n := by
  have := h.scal rfl rfl
  simp only [Cl, List.cons.injEq, and_true] at this
  exact this
theorem VRep.bool {w : World} {M : Nat → Prop} {b : Bool} {v : Value} (h : VRep w M .bool b v) : v = .bool b := by
  have := h.scal rfl rfl
  simp only [Cl, List.cons.injEq, and_true] at this
  exact this
theorem VRep.str {w : World} {M : Nat → Prop} {l : List UInt8} {v : Value} (h : VRep w M .str l v) : v = .string ⟨⟨l⟩⟩ := by
  have := h.scal rfl rfl
  simp only [Cl, List.cons.injEq, and_true] at this
  exact this
theorem VRep.opq {w : World} {M : Nat → Prop} {x v : Value} (h : VRep w M .opq x v) : v = x ∧ x.oneCell' = true := by
  have := h.scal rfl rfl
  simp only [Cl, List.cons.injEq, and_true] at this
  exact this
theorem VRep.sl {w : World} {M : Nat → Prop} {t : Ty} {l : List t.den} {v : Value} (h : VRep w M (.sl t) l v) :
    ∃ A c, v = .slice A l.length c ∧ l.length ≤ c ∧ c ≤ maxLen ∧ (A = none → c = 0) ∧ (l.length ≠ 0 → ∃ b off, A = some ⟨b, off, none⟩ ∧ ¬ M b ∧ b < w.heap.size ∧ RowAt w M b off t l) := by
  have := h.scal rfl rfl
  obtain ⟨A, c, h1, h2⟩ := this
  simp only [List.cons.injEq, and_true] at h1
  exact ⟨A, c, h1, h2⟩
theorem VRep.mkSc {w : World} {M : Nat → Prop} {t : Ty} {x : t.den} {v : Value} (h : Cl w M t x [v]) (ht : t.isAgg = false) : VRep w M t x v := ⟨[v], h, by rw [ht]; rfl⟩
theorem VRep.mkI {w : World} {M : Nat → Prop} (k : IntKind) (n : Int) : VRep w M (.int k) n (.int k n) := .mkSc rfl rfl
theorem VRep.mkB {w : World} {M : Nat → Prop} (b : Bool) : VRep w M .bool b (.bool b) := .mkSc rfl rfl
theorem VRep.mkS {w : World} {M : Nat → Prop} (l : List UInt8) : VRep w M .str l (.string ⟨⟨l⟩⟩) := .mkSc rfl rfl
theorem ARep.mkI (k : IntKind) (n : Int) : ARep z (.i k n) (.int k n) := .p _ _ _ (.mkI k n)
theorem ARep.mkB (b : Bool) : ARep z (.b b) (.bool b) := .p _ _ _ (.mkB b)
theorem ARep.mkS (l : List UInt8) : ARep z (.s l) (.string ⟨⟨l⟩⟩) := .p _ _ _ (.mkS l)
theorem ARep.v {t : Ty} {x : t.den} {v : Value} (h : ARep z (.p t x) v) : VRep z.w z.M t x v := by cases h with | p _ _ _ h => exact h

/-! Eliminators -/
theorem nilSl_ok {t u : Ty} {x : t.den} {y : u.den} {v : Value} (h : nilSl t x u = some y) (hv : VRep z.w z.M t x v) : VRep z.w z.M u y v := by
  unfold nilSl at h
  split at h
  · simp at h
    subst h
    obtain ⟨rfl, _⟩ := hv.opq
    exact .mkSc ⟨none, 0, rfl, Nat.le_refl _, by unfold maxLen; omega, fun _ => rfl, fun h => absurd rfl h⟩ rfl
  · cases h
theorem get?_ok {u : Ty} {a : AV} {x : u.den} {v : Value} (h : a.get? u = some x) (ha : ARep z a v) : VRep z.w z.M u x v := by
  unfold AV.get? at h
  split at h
  · rename_i t y
    have hv := ha.v
    split at h
    · rename_i ht
      subst ht
      simp at h
      subst h
      exact hv
    · unfold nilSl at h
      split at h
      · simp at h
        subst h
        obtain ⟨rfl, _⟩ := hv.opq
        exact .mkSc ⟨none, 0, rfl, Nat.le_refl _, by unfold maxLen; omega, fun _ => rfl, fun h => absurd rfl h⟩ rfl
      · cases h
  · rename_i f
    unfold fnOpq at h
    split at h
    · simp at h
      subst h
      cases ha with | fn _ _ _ va vc h1 h2 =>
      obtain rfl : va = #[] := Array.eq_empty_of_size_eq_zero (by simpa using h1)
      obtain rfl : vc = #[] := Array.eq_empty_of_size_eq_zero (by simpa using h2)
      exact .mkSc ⟨rfl, rfl⟩ rfl
    · cases h
  · cases h
theorem int?_ok {k : IntKind} {a : AV} {n : Int} {v : Value} (h : a.int? k = some n) (ha : ARep z a v) : v = .int k n := (get?_ok (u := .int k) h ha).int
theorem bool?_ok {a : AV} {b : Bool} {v : Value} (h : a.bool? = some b) (ha : ARep z a v) : v = .bool b := (get?_ok (u := .bool) h ha).bool
theorem str?_ok {a : AV} {l : List UInt8} {v : Value} (h : a.str? = some l) (ha : ARep z a v) : v = .string ⟨⟨l⟩⟩ := (get?_ok (u := .str) h ha).str
theorem any?_ok {a : AV} {n : Int} {v : Value} (h : a.any? = some n) (ha : ARep z a v) : ∃ k, v = .int k n := by
  unfold AV.any? at h
  split at h
  · rename_i t x
    unfold anyI at h
    split at h
    · rename_i k m
      simp at h
      subst h
      exact ⟨k, ha.v.int⟩
    · cases h
  · cases h
theorem byte?_ok {n : Int} {c : UInt8} (h : byte? n = some c) : n = (c.toNat : Int) := by
  unfold byte? at h
  split at h
  · injection h with h
    subst h
    rename_i hb
    simp only [UInt8.toNat_ofNat']
    omega
  · cases h
theorem tup?_ok {a : AV} {l : List AV} {v : Value} (h : a.tup? = some l) (ha : ARep z a v) : ∃ vs, v = .tuple vs ∧ vs.size = l.length ∧ ∀ (i : Nat) x u, l[i]? = some x → vs[i]? = some u → ARep z x u := by
  unfold AV.tup? at h
  split at h
  · simp at h; subst h
    cases ha with | tup _ vs h1 h2 => exact ⟨vs, rfl, h1, h2⟩
  · cases h

/-! Cells -/
/-- Values for a list of abstract ones. -/
def AReps (z : Z) (l : List AV) (vs : List Value) : Prop := l.length = vs.length ∧ ∀ (i : Nat) a v, l[i]? = some a → vs[i]? = some v → ARep z a v
theorem AReps.nil : AReps z [] [] := ⟨rfl, fun i a v h => by simp at h⟩
theorem AReps.cons {a : AV} {v : Value} {l : List AV} {vs : List Value} (h : ARep z a v) (hs : AReps z l vs) : AReps z (a :: l) (v :: vs) := by
  refine ⟨by simp [hs.1], fun i x u h1 h2 => ?_⟩
  match i with
  | 0 => simp at h1 h2; subst h1; subst h2; exact h
  | i + 1 => exact hs.2 i x u (by simpa using h1) (by simpa using h2)
theorem AReps.head {a : AV} {v : Value} {l : List AV} {vs : List Value} (h : AReps z (a :: l) (v :: vs)) : ARep z a v := h.2 0 a v rfl rfl
theorem AReps.tail {a : AV} {v : Value} {l : List AV} {vs : List Value} (h : AReps z (a :: l) (v :: vs)) : AReps z l vs :=
  ⟨by simpa using h.1, fun i x u h1 h2 => h.2 (i + 1) x u (by simpa using h1) (by simpa using h2)⟩
theorem AReps.append {l l' : List AV} {vs vs' : List Value} (h : AReps z l vs) (h' : AReps z l' vs') : AReps z (l ++ l') (vs ++ vs') := by
  refine ⟨by simp [h.1, h'.1], fun i a v h1 h2 => ?_⟩
  by_cases hi : i < l.length
  · rw [List.getElem?_append_left hi] at h1
    rw [List.getElem?_append_left (by rw [← h.1]; exact hi)] at h2
    exact h.2 i a v h1 h2
  · rw [List.getElem?_append_right (by omega)] at h1
    rw [List.getElem?_append_right (by rw [← h.1]; omega), ← h.1] at h2
    exact h'.2 _ a v h1 h2
theorem AReps.take {l : List AV} {vs : List Value} (h : AReps z l vs) (n : Nat) : AReps z (l.take n) (vs.take n) := by
  refine ⟨by simp [h.1], fun i a v h1 h2 => ?_⟩
  have hi : i < n := by
    have := (List.getElem?_eq_some_iff.1 h1).1
    simp at this; omega
  rw [List.getElem?_take_of_lt hi] at h1 h2
  exact h.2 i a v h1 h2
theorem AReps.drop {l : List AV} {vs : List Value} (h : AReps z l vs) (n : Nat) : AReps z (l.drop n) (vs.drop n) := by
  refine ⟨by simp [h.1], fun i a v h1 h2 => ?_⟩
  rw [List.getElem?_drop] at h1 h2
  exact h.2 _ a v h1 h2
theorem AReps.kp {z' : Z} {l : List AV} {vs : List Value} (k : Kp z z') (h : AReps z l vs) : AReps z' l vs := ⟨h.1, fun i a v h1 h2 => (h.2 i a v h1 h2).kp k⟩
theorem AReps.get {l : List AV} {vs : List Value} (h : AReps z l vs) {i : Nat} {a : AV} (ha : l[i]? = some a) : ∃ v, vs[i]? = some v ∧ ARep z a v := by
  have hlt : i < vs.length := by
    have := (List.getElem?_eq_some_iff.1 ha).1
    rw [← h.1]; exact this
  exact ⟨_, List.getElem?_eq_getElem hlt, h.2 i a _ ha (List.getElem?_eq_getElem hlt)⟩
theorem AReps.headD {l : List AV} {vs : List Value} (h : AReps z l vs) : ARep z (l.headD .junk) (vs.headD undef) := by
  match l, vs, h with
  | [], [], _ => exact .junk _
  | a :: l, v :: vs, h => exact h.head
  | [], _ :: _, h => have := h.1; simp at this
  | _ :: _, [], h => have := h.1; simp at this
theorem ARep.reps {l : List AV} {cs : Array Value} (h : ARep z (.agg l) (.agg cs)) : AReps z l cs.toList := by
  cases h with | agg _ _ hs h1 h => exact ⟨by simp [hs], fun i a v h2 h3 => h i a v h2 (by simpa using h3)⟩

theorem ofTy_ok {t : Ty} {x : t.den} {v : Value} (h : VRep z.w z.M t x v) : ARep z (.ofTy t x) v := by
  unfold AV.ofTy
  split
  · have := h.scal rfl rfl
    simp only [Cl, List.cons.injEq, and_true] at this
    subst this
    exact .mkI _ _
  · exact .p _ _ _ h
theorem split_le : (t : Ty) → (x : t.den) → (split t x).length ≤ t.cells
  | .one t, x => split_le t x
  | .pair a b, x => by
    have h1 := split_le a x.1
    have h2 := split_le b x.2
    simp only [split, List.length_append, Ty.cells]; omega
  | .arr _ _, _ => Nat.zero_le _
  | .int _, _ | .byte, _ | .bool, _ | .str, _ | .opq, _ | .nat, _ | .sl _, _ => Nat.le_refl _
theorem split_ok : {t : Ty} → {x : t.den} → {vs : List Value} → Cl z.w z.M t x vs → (split t x).length = t.cells → AReps z (split t x) vs
  | .one t, x, vs, h, hl => split_ok (t := t) h hl
  | .pair a b, x, vs, h, hl => by
    obtain ⟨u, v, rfl, h1, h2⟩ := h
    have q1 := split_le a x.1
    have q2 := split_le b x.2
    simp only [split, List.length_append, Ty.cells] at hl
    exact (split_ok h1 (by omega)).append (split_ok h2 (by omega))
  | .arr n t, x, vs, h, hl => by
    have := h.len
    rw [← hl] at this
    match vs, this with
    | [], _ => exact .nil
  | .int _, _, vs, h, _ | .bool, _, vs, h, _ | .str, _, vs, h, _ => by
    have hl := h.len
    match vs, hl with
    | [v], _ => exact .cons (.p _ _ _ (.mkSc h rfl)) .nil
  | .opq, _, vs, h, _ => by
    have hl := h.len
    match vs, hl with
    | [v], _ => exact .cons (.p _ _ _ (.mkSc h rfl)) .nil
  | .sl _, _, vs, h, _ => by
    have hl := h.len
    match vs, hl with
    | [v], _ => exact .cons (.p _ _ _ (.mkSc h rfl)) .nil
  | .byte, _, vs, h, _ => by
    simp only [Cl] at h
    subst h
    exact .cons (.mkI _ _) .nil
  | .nat, _, _, h, _ => h.elim
/-- A value's cells. -/
theorem cellsA_ok {a : AV} {l : List AV} {v : Value} (h : cellsA a = some l) (ha : ARep z a v) : AReps z l v.cells.toList ∧ (∀ u ∈ v.cells, u.oneCell' = true) ∧
    v = (bif aggA a then .agg v.cells else v.cells.toList.headD undef) := by
  have one : ∀ (b : AV) (v : Value), ARep z b v → v.oneCell' = true → AReps z [b] v.cells.toList ∧ (∀ u ∈ v.cells, u.oneCell' = true) ∧ v = v.cells.toList.headD undef := fun b v hb h1 => by
    have hc : v.cells = #[v] := by cases v <;> first | rfl | (simp [Value.oneCell'] at h1; done)
    rw [hc]
    exact ⟨.cons hb .nil, fun u hu => by simp at hu; subst hu; exact h1, rfl⟩
  cases ha with
  | p t x v h1 =>
    simp only [cellsA] at h
    cases hl : Nat.beq (split t x).length t.cells <;> rw [hl] at h <;> simp at h
    subst h
    rw [beq_nat] at hl
    obtain ⟨vs, h2, h3⟩ := h1
    cases hagg : t.isAgg <;> rw [hagg] at h3 <;> simp only [cond_false, cond_true] at h3
    · have hn := h2.len
      have hc : t.cells = 1 := by cases t <;> first | rfl | (simp [Ty.isAgg] at hagg; done)
      match vs, hn with
      | [u], _ =>
        simp at h3
        subst h3
        obtain ⟨q1, q2, q3⟩ := one (.p t x) v (.p _ _ _ (.mkSc h2 hagg)) (h2.one v (by simp))
        have e : v.cells = #[v] := by
          have := h2.one v (by simp)
          cases v <;> first | rfl | (simp [Value.oneCell'] at this; done)
        refine ⟨by rw [e]; exact split_ok h2 hl, q2, by simp only [aggA, hagg, cond_false]; exact q3⟩
      | [], hn => simp at hn; omega
      | _ :: _ :: _, hn => simp at hn; omega
    · subst h3
      exact ⟨split_ok h2 hl, fun u hu => h2.one u (by simpa [Value.cells] using hu), by simp only [aggA, hagg, cond_true]; rfl⟩
  | pt t l i j b off hM hlt h1 => simp [cellsA] at h; subst h; exact one _ _ (.pt _ _ _ _ _ _ hM hlt h1) rfl
  | own es id i j g sz n h1 => simp [cellsA] at h; subst h; exact one _ _ (.own _ _ _ _ _ _ _ h1) rfl
  | slV es id off A h1 => simp [cellsA] at h; subst h; exact one _ _ (.slV _ _ _ _ h1) rfl
  | slE es id off g sz m o h1 => simp [cellsA] at h; subst h; exact one _ _ (.slE _ _ _ _ _ _ _ h1) rfl
  | sl es id off n g sz m c h1 hn hs hm => simp [cellsA] at h; subst h; exact one _ _ (.sl _ _ _ _ _ _ _ _ h1 hn hs hm) rfl
  | slfV es id A h1 => simp [cellsA] at h; subst h; exact one _ _ (.slfV _ _ _ h1) rfl
  | slf es id g sz n c h1 hn hs hm => simp [cellsA] at h; subst h; exact one _ _ (.slf _ _ _ _ _ _ h1 hn hs hm) rfl
  | mp id g sz n h1 => simp [cellsA] at h; subst h; exact one _ _ (.mp _ _ _ _ h1) rfl
  | fn f a c va vc ha hc h1 h2 => simp [cellsA] at h; subst h; exact one _ _ (.fn _ _ _ _ _ ha hc h1 h2) rfl
  | agg l' cs hs h1 h2 =>
    simp [cellsA] at h
    subst h
    exact ⟨⟨by simp [Value.cells, hs], fun i a v q1 q2 => h2 i a v q1 (by simpa [Value.cells] using q2)⟩, h1, rfl⟩
  | tup l' vs hs h2 => simp [cellsA] at h
  | junk v => simp [cellsA] at h

section
variable {β : Type}
theorem asmN_ok {t : Ty} {c : Nat} (f : List AV → (t.den → Option β) → Option β)
    (hf : ∀ {cs : List AV} {vs : List Value} {K : t.den → Option β} {r : β}, f cs K = some r → AReps z cs vs → cs.length = c → (∀ v ∈ vs, v.oneCell' = true) → ∃ y, Cl z.w z.M t y vs ∧ K y = some r) :
    ∀ (n : Nat) {cs : List AV} {vs : List Value} {K : List t.den → Option β} {r : β}, asmN f c n cs K = some r → AReps z cs vs → cs.length = n * c → (∀ v ∈ vs, v.oneCell' = true) →
      ∃ (l : List t.den) (css : List (List Value)), l.length = n ∧ css.length = n ∧ vs = css.flatten ∧ (∀ (i : Nat) e u, l[i]? = some e → css[i]? = some u → Cl z.w z.M t e u) ∧ K l = some r
  | 0, cs, vs, K, r, h, hr, hl, _ => by
    have : vs = [] := List.eq_nil_of_length_eq_zero (by rw [← hr.1, hl, Nat.zero_mul])
    exact ⟨[], [], rfl, rfl, by simp [this], fun i e u h1 => by simp at h1, h⟩
  | n + 1, cs, vs, K, r, h, hr, hl, h1 => by
    simp only [asmN] at h
    have hlen : (n + 1) * c = n * c + c := Nat.succ_mul n c
    obtain ⟨y, q1, q2⟩ := hf h (hr.take c) (by rw [List.length_take]; omega) (fun v hv => h1 v (List.mem_of_mem_take hv))
    obtain ⟨l, css, p1, p2, p3, p4, p5⟩ := asmN_ok f hf n q2 (hr.drop c) (by rw [List.length_drop]; omega) (fun v hv => h1 v (List.mem_of_mem_drop hv))
    refine ⟨y :: l, vs.take c :: css, by simp [p1], by simp [p2], by rw [List.flatten_cons, ← p3, List.take_append_drop], fun i e u q3 q4 => ?_, p5⟩
    match i with
    | 0 => simp at q3 q4; subst q3; subst q4; exact q1
    | i + 1 => exact p4 i e u (by simpa using q3) (by simpa using q4)
theorem asm_ok : {u : Ty} → {cs : List AV} → {vs : List Value} → {K : u.den → Option β} → {r : β} → asm u cs K = some r → AReps z cs vs → cs.length = u.cells → (∀ v ∈ vs, v.oneCell' = true) →
    ∃ y, Cl z.w z.M u y vs ∧ K y = some r
  | .byte, cs, vs, K, r, h, hr, hl, h1 => by
    simp only [asm] at h
    obtain ⟨n, h2, h3⟩ := ob_iff.1 h
    obtain ⟨c, h4, h5⟩ := Option.bind_eq_some_iff.1 h3
    have hv := int?_ok h2 hr.headD
    have hlv : vs.length = 1 := by rw [← hr.1, hl]; rfl
    match vs, hlv with
    | [v], _ =>
      simp at hv
      subst hv
      rw [byte?_ok h4]
      exact ⟨c, rfl, h5⟩
  | .one t, cs, vs, K, r, h, hr, hl, h1 => asm_ok (u := t) h hr hl h1
  | .pair a b, cs, vs, K, r, h, hr, hl, h1 => by
    simp only [asm] at h
    simp only [Ty.cells] at hl
    obtain ⟨x, q1, q2⟩ := asm_ok h (hr.take a.cells) (by rw [List.length_take]; omega) (fun v hv => h1 v (List.mem_of_mem_take hv))
    obtain ⟨y, q3, q4⟩ := asm_ok q2 (hr.drop a.cells) (by rw [List.length_drop]; omega) (fun v hv => h1 v (List.mem_of_mem_drop hv))
    exact ⟨(x, y), ⟨_, _, (List.take_append_drop _ _).symm, q1, q3⟩, q4⟩
  | .arr n t, cs, vs, K, r, h, hr, hl, h1 => by
    simp only [asm] at h
    obtain ⟨l, css, p1, p2, p3, p4, p5⟩ := asmN_ok (asm t) (fun h hr hl h1 => asm_ok h hr hl h1) n h hr hl h1
    exact ⟨l, ⟨p1, css, p2, p3, p4⟩, p5⟩
  | .int k, cs, vs, K, r, h, hr, hl, h1 | .bool, cs, vs, K, r, h, hr, hl, h1 | .str, cs, vs, K, r, h, hr, hl, h1 | .opq, cs, vs, K, r, h, hr, hl, h1 | .nat, cs, vs, K, r, h, hr, hl, h1 | .sl _, cs, vs, K, r, h, hr, hl, h1 => by
    simp only [asm] at h
    obtain ⟨n, h2, h3⟩ := ob_iff.1 h
    have hv := (get?_ok h2 hr.headD).scal rfl rfl
    have hlv : vs.length = 1 := by rw [← hr.1, hl]; rfl
    match vs, hlv with
    | [v], _ => exact ⟨n, hv, h3⟩
theorem asC_ok {u : Ty} {a : AV} {K : u.den → Option β} {r : β} {v : Value} (h : asC u a K = some r) (ha : ARep z a v) : ∃ y, VRep z.w z.M u y v ∧ K y = some r := by
  unfold asC at h
  obtain ⟨cs, h1, h2⟩ := ob_iff.1 h
  obtain ⟨h3, h4⟩ := need_iff.1 h2
  simp only [Bool.and_eq_true, beq_nat, beq_iff_eq] at h3
  obtain ⟨q1, q2, q3⟩ := cellsA_ok h1 ha
  obtain ⟨y, q4, q5⟩ := asm_ok h4 q1 h3.1 (fun v hv => q2 v (by simpa using hv))
  refine ⟨y, ⟨_, q4, ?_⟩, q5⟩
  rw [← h3.2]
  rw [Array.toArray_toList]
  exact q3
theorem asA_ok {u : Ty} {a : AV} {K : u.den → Option β} {r : β} {v : Value} (h : asA u a K = some r) (ha : ARep z a v) : ∃ y, VRep z.w z.M u y v ∧ K y = some r := by
  unfold asA at h
  split at h
  · rename_i t x
    rcases dq_iff h with ⟨ht, h⟩ | h
    · subst ht
      exact ⟨x, ha.v, h⟩
    · exact asC_ok h ha
  · exact asC_ok h ha

/-! Parts of typed values -/
theorem sub_self {t : Ty} {x : t.den} {vs : List Value} {o : Nat} {u : Ty} {K : u.den → Option β} {r : β} {w : World} {M : Nat → Prop} (h : t = u) (hc : Cl w M t x vs)
    (hk : bq (Nat.beq o 0) (K (Ty.to h x)) none = some r) : ∃ y, Cl w M u y ((vs.drop o).take u.cells) ∧ o + u.cells ≤ t.cells ∧ K y = some r := by
  subst h
  cases ho : Nat.beq o 0 <;> rw [ho] at hk <;> simp only [bq_true, bq_false] at hk
  · cases hk
  · rw [beq_nat] at ho
    subst ho
    refine ⟨x, ?_, by omega, hk⟩
    rw [List.drop_zero, List.take_of_length_le (by rw [hc.len]; exact Nat.le_refl _)]
    exact hc
theorem sub_ok {w : World} {M : Nat → Prop} : {t : Ty} → {x : t.den} → {o : Nat} → {u : Ty} → {K : u.den → Option β} → {r : β} → {vs : List Value} → sub t x o u K = some r → Cl w M t x vs →
    ∃ y, Cl w M u y ((vs.drop o).take u.cells) ∧ o + u.cells ≤ t.cells ∧ K y = some r
  | .one t, x, o, u, K, r, vs, h, hc => by
    simp only [sub] at h
    rcases dq_iff h with ⟨ht, h⟩ | h
    · exact sub_self ht hc h
    · exact sub_ok (t := t) h hc
  | .pair a b, x, o, u, K, r, vs, h, hc => by
    simp only [sub] at h
    rcases dq_iff h with ⟨ht, h⟩ | h
    · exact sub_self ht hc h
    · obtain ⟨v1, v2, rfl, h1, h2⟩ := hc
      cases ho : Nat.blt o a.cells <;> rw [ho] at h <;> simp only [bq_true, bq_false] at h
      · have ho' : a.cells ≤ o := by
          rcases Nat.lt_or_ge o a.cells with h' | h'
          · rw [show Nat.blt o a.cells = true from Nat.ble_eq_true_of_le h'] at ho; cases ho
          · exact h'
        obtain ⟨y, q1, q2, q3⟩ := sub_ok h h2
        refine ⟨y, ?_, by simp only [Ty.cells]; omega, q3⟩
        rw [List.drop_append, List.drop_of_length_le (by rw [h1.len]; exact ho'), List.nil_append, h1.len]
        exact q1
      · have ho' : o < a.cells := Nat.le_of_ble_eq_true ho
        obtain ⟨y, q1, q2, q3⟩ := sub_ok h h1
        refine ⟨y, ?_, by simp only [Ty.cells]; omega, q3⟩
        rw [List.drop_append_of_le_length (by rw [h1.len]; omega), List.take_append_of_le_length (by rw [List.length_drop, h1.len]; omega)]
        exact q1
  | .int _, x, o, u, K, r, vs, h, hc | .byte, x, o, u, K, r, vs, h, hc | .bool, x, o, u, K, r, vs, h, hc | .str, x, o, u, K, r, vs, h, hc | .opq, x, o, u, K, r, vs, h, hc | .nat, x, o, u, K, r, vs, h, hc
  | .sl _, x, o, u, K, r, vs, h, hc | .arr _ _, x, o, u, K, r, vs, h, hc => by
    simp only [sub] at h
    rcases dq_iff h with ⟨ht, h⟩ | h
    · exact sub_self ht hc h
    · cases h
theorem upd_self {t : Ty} {vs us : List Value} {o : Nat} {u : Ty} {y : u.den} {K : t.den → Option β} {r : β} {w : World} {M : Nat → Prop} (h : u = t) (hv : vs.length = t.cells) (hc : Cl w M u y us)
    (hk : bq (Nat.beq o 0) (K (Ty.to h y)) none = some r) : ∃ x', Cl w M t x' (vs.take o ++ us ++ vs.drop (o + u.cells)) ∧ o + u.cells ≤ t.cells ∧ K x' = some r := by
  subst h
  cases ho : Nat.beq o 0 <;> rw [ho] at hk <;> simp only [bq_true, bq_false] at hk
  · cases hk
  · rw [beq_nat] at ho
    subst ho
    refine ⟨y, ?_, by omega, hk⟩
    rw [List.take_zero, List.nil_append, List.drop_of_length_le (by omega), List.append_nil]
    exact hc
theorem upd_ok {w : World} {M : Nat → Prop} : {t : Ty} → {x : t.den} → {o : Nat} → {u : Ty} → {y : u.den} → {K : t.den → Option β} → {r : β} → {vs us : List Value} → upd t x o u y K = some r → Cl w M t x vs → Cl w M u y us →
    ∃ x', Cl w M t x' (vs.take o ++ us ++ vs.drop (o + u.cells)) ∧ o + u.cells ≤ t.cells ∧ K x' = some r
  | .one t, x, o, u, y, K, r, vs, us, h, hc, hu => by
    simp only [upd] at h
    rcases dq_iff h with ⟨ht, h⟩ | h
    · exact upd_self ht hc.len hu h
    · exact upd_ok (t := t) h hc hu
  | .pair a b, x, o, u, y, K, r, vs, us, h, hc, hu => by
    simp only [upd] at h
    rcases dq_iff h with ⟨ht, h⟩ | h
    · exact upd_self ht hc.len hu h
    · obtain ⟨v1, v2, rfl, h1, h2⟩ := hc
      have l1 := h1.len
      have l2 := h2.len
      have lu := hu.len
      cases ho : Nat.blt o a.cells <;> rw [ho] at h <;> simp only [bq_true, bq_false] at h
      · have ho' : a.cells ≤ o := by
          rcases Nat.lt_or_ge o a.cells with h' | h'
          · rw [show Nat.blt o a.cells = true from Nat.ble_eq_true_of_le h'] at ho; cases ho
          · exact h'
        obtain ⟨z, q1, q2, q3⟩ := upd_ok h h2 hu
        refine ⟨(x.1, z), ⟨v1, _, ?_, h1, q1⟩, by simp only [Ty.cells]; omega, q3⟩
        rw [List.take_append, List.take_of_length_le (by omega), List.drop_append, List.drop_of_length_le (by omega), List.nil_append, l1]
        simp only [List.append_assoc]
        congr 4
        omega
      · have ho' : o < a.cells := Nat.le_of_ble_eq_true ho
        obtain ⟨z, q1, q2, q3⟩ := upd_ok h h1 hu
        refine ⟨(z, x.2), ⟨_, v2, ?_, q1, h2⟩, by simp only [Ty.cells]; omega, q3⟩
        rw [List.take_append_of_le_length (by omega), List.drop_append_of_le_length (by omega)]
        simp only [List.append_assoc]
  | .int _, x, o, u, y, K, r, vs, us, h, hc, hu | .byte, x, o, u, y, K, r, vs, us, h, hc, hu | .bool, x, o, u, y, K, r, vs, us, h, hc, hu | .str, x, o, u, y, K, r, vs, us, h, hc, hu | .opq, x, o, u, y, K, r, vs, us, h, hc, hu | .nat, x, o, u, y, K, r, vs, us, h, hc, hu
  | .sl _, x, o, u, y, K, r, vs, us, h, hc, hu | .arr _ _, x, o, u, y, K, r, vs, us, h, hc, hu => by
    simp only [upd] at h
    rcases dq_iff h with ⟨ht, h⟩ | h
    · exact upd_self ht hc.len hu h
    · cases h
end
end
end Go.Ab
