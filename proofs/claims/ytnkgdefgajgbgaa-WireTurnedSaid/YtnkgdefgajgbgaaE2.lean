/- An evaluator of the model's code over plain values, and its soundness; of no program. -/
import Derived.Test.YtnkgdefgajgbgaaE1
import Derived.MapKept
import Derived.WideKeyRuns
import Derived.Deep.AppendSrc
import Derived.Laws.MakeOwn
import Derived.Great.BuildSlice
import Derived.Deep.Upon
set_option linter.all false
/- Maps: keys that are looked for; lookups. -/
namespace Go.Ab

section
variable {P : Program} {β : Type} {z : Z} {H : Hp}

/-- A part of a value of several cells, in its form. -/
theorem run_part_form {w : World} {M : Nat → Prop} {u : Ty} {a : u.den} {t : TypeId} {xs : Array Value} {o : Nat} (hf : 0 < u.cells ∧ (u.isAgg = true → isAggT P t = true) ∧ (u.isAgg = false → isScal P t = true)) (hc' : P.cellsOf t = u.cells)
    (hc : Cl w M u a ((xs.toList.drop o).take u.cells)) (w' : World) : ∃ v, (part t xs o).run P w' = .ok v w' ∧ VRep w M u a v := by
  obtain ⟨g1, g2, g3⟩ := hf
  have hl := hc.len
  cases hg : u.isAgg
  · have hcells : u.cells = 1 := by cases u <;> first | rfl | (simp [Ty.isAgg] at hg; done)
    match hvs : (xs.toList.drop o).take u.cells, hl with
    | [], hl => rw [hcells] at hl; simp at hl
    | _ :: _ :: _, hl => rw [hcells] at hl; simp at hl
    | [v], _ =>
      rw [hvs] at hc
      have hv : xs[o]? = some v := by
        have : ((xs.toList.drop o).take u.cells)[0]? = some v := by rw [hvs]; rfl
        rw [hcells] at this
        simpa using this
      exact ⟨v, run_part_scal w' (g3 hg) hv, .mkSc hc hg⟩
  · refine ⟨_, run_part_agg w' (g2 hg) hc' (by omega), ⟨_, hc, ?_⟩⟩
    rw [hg]
    simp only [cond_true]
    congr 1
    apply Array.ext'
    rw [Array.toList_extract, List.extract_eq_take_drop, Nat.add_sub_cancel_left]
theorem cut_pair {s t : Ty} {o : Nat} {l v1 v2 : List Value} (e : (l.drop o).take (Ty.pair s t).cells = v1 ++ v2) (l1 : v1.length = s.cells) (l2 : v2.length = t.cells) :
    (l.drop o).take s.cells = v1 ∧ (l.drop (o + s.cells)).take t.cells = v2 := by
  simp only [Ty.cells] at e
  constructor
  · rw [show (l.drop o).take s.cells = ((l.drop o).take (s.cells + t.cells)).take s.cells from by rw [List.take_take, Nat.min_eq_left (by omega)], e, List.take_append_of_le_length (by omega), List.take_of_length_le (by omega)]
  · rw [show (l.drop (o + s.cells)).take t.cells = ((l.drop o).take (s.cells + t.cells)).drop s.cells from by rw [List.drop_take, List.drop_drop, Nat.add_sub_cancel_left], e, List.drop_append_of_le_length (by omega), List.drop_of_length_le (by omega), List.nil_append]
theorem ckFs_ok {f : TypeId → Ty → Bool} {d : Nat} {em : Bool} (w : World) {M : Nat → Prop}
    (hf : ∀ t u, f t u = true → ∀ (x : u.den) (vx : Value), VRep w M u x vx → (Instr.checkKey em d t vx).run P w = .ok () w)
    (hagg : ∀ t u, f t u = true → 0 < u.cells ∧ (u.isAgg = true → isAggT P t = true) ∧ (u.isAgg = false → isScal P t = true)) :
    ∀ (fs : List Field) (o : Nat) (u : Ty), eqFs P f fs o u = true → ∀ (x : u.den) (xs : Array Value), Cl w M u x ((xs.toList.drop o).take u.cells) →
      (forIn (m := Sem) fs PUnit.unit fun f _ => do
        if f.name ≠ "_" then do
          Instr.checkKey em d f.type (← part f.type xs f.offset)
          pure (ForInStep.yield PUnit.unit)
        else pure (ForInStep.yield PUnit.unit)).run P w = .ok PUnit.unit w := by
  have one : ∀ (x : Field) (o : Nat) (u : Ty), (x.name != "_" && Nat.beq x.offset o && Nat.beq (P.cellsOf x.type) u.cells && f x.type u) = true → ∀ (a : u.den) (xs : Array Value), Cl w M u a ((xs.toList.drop o).take u.cells) →
      x.name ≠ "_" ∧ ∃ v, (part x.type xs x.offset).run P w = .ok v w ∧ (Instr.checkKey em d x.type v).run P w = .ok () w := by
    intro x o u h a xs hc
    simp only [Bool.and_eq_true, bne_iff_ne, ne_eq, beq_nat] at h
    obtain ⟨⟨⟨h1, rfl⟩, h3⟩, h4⟩ := h
    obtain ⟨v, q1, q2⟩ := run_part_form (hagg _ _ h4) h3 hc w
    exact ⟨h1, v, q1, hf _ _ h4 a v q2⟩
  intro fs
  induction fs with
  | nil => intro o u h; simp [eqFs] at h
  | cons x fs ih =>
    intro o u h a xs ha
    match fs, u, h with
    | [], u, h =>
      have h' : (x.name != "_" && Nat.beq x.offset o && Nat.beq (P.cellsOf x.type) u.cells && f x.type u) = true := by
        cases u <;> simpa only [eqFs] using h
      obtain ⟨h1, v1, q1, q2⟩ := one x o u h' a xs ha
      simp [List.forIn_cons, Sem.run_bind, h1, q1, q2]
    | y :: fs, .pair s t, h =>
      simp only [eqFs] at h
      have h' : (x.name != "_" && Nat.beq x.offset o && Nat.beq (P.cellsOf x.type) s.cells && f x.type s) = true ∧ eqFs P f (y :: fs) (o + s.cells) t = true := by
        simp only [Bool.and_eq_true] at h ⊢; exact h
      obtain ⟨h', h''⟩ := h'
      obtain ⟨u1, u2, e1, c1, c2⟩ := ha
      obtain ⟨ea1, ea2⟩ := cut_pair e1 c1.len c2.len
      obtain ⟨h1, v1, q1, q2⟩ := one x o s h' a.1 xs (by rw [ea1]; exact c1)
      have hr := ih (o + s.cells) t h'' a.2 xs (by rw [ea2]; exact c2)
      rw [List.forIn_cons]
      simp only [h1, ne_eq, not_false_eq_true, if_true, Sem.run_bind, q1, q2, Result.andThen_ok, Sem.run_pure]
      exact hr
    | _ :: _, .one _, h | _ :: _, .int _, h | _ :: _, .byte, h | _ :: _, .bool, h | _ :: _, .str, h | _ :: _, .opq, h | _ :: _, .nat, h | _ :: _, .sl _, h | _ :: _, .arr _ _, h => simp [eqFs] at h
theorem checkKey_ok (w : World) {M : Nat → Prop} {em : Bool} : ∀ (n : Nat) (t : TypeId) (u : Ty), eqT P n t u = true → ∀ (d : Nat), n ≤ d → ∀ (x : u.den) (vx : Value), VRep w M u x vx →
    (Instr.checkKey em d t vx).run P w = .ok () w
  | 0, _, _, h, _, _, _, _, _ => by simp [eqT] at h
  | n + 1, t, u, h, d, hd, x, vx, hx => by
    obtain ⟨d, rfl⟩ : ∃ d', d = d' + 1 := ⟨d - 1, by omega⟩
    have hd' : n ≤ d := by omega
    have struct : ∀ (fs : Array Field) (v : Ty) (x : v.den) (cx : List Value), P.underlying t = some (.struct fs) → (!P.stoodInHeld t && eqFs P (fun t u => formOk P t u && eqT P n t u) fs.toList 0 v) = true → Cl w M v x cx →
        (Instr.checkKey em (d + 1) t (.agg cx.toArray)).run P w = .ok () w := by
      intro fs v x cx hu hc h1
      simp only [Bool.and_eq_true, Bool.not_eq_true'] at hc
      rw [Instr.checkKey]
      simp only [Sem.run_bind, run_underlying hu, Result.andThen_ok]
      rw [← Array.forIn_toList]
      have := ckFs_ok (em := em) (d := d) w (M := M) (f := fun t u => formOk P t u && eqT P n t u) (fun t u hf x vx hx => by
        simp only [Bool.and_eq_true] at hf
        exact checkKey_ok w n t u hf.2 d hd' x vx hx) (fun t u hf => by
        simp only [Bool.and_eq_true] at hf
        exact formOk_ok hf.1) fs.toList 0 v hc.2 x cx.toArray (take_cells h1)
      simp at this ⊢
      rw [this]
      rfl
    simp only [eqT] at h
    split at h
    · rename_i k k' hu
      obtain rfl := hx.int
      simp [Instr.checkKey, Sem.run_bind, run_underlying hu]
    · rename_i k hu
      simp [Instr.checkKey, Sem.run_bind, run_underlying hu]
    · rename_i hu
      simp [Instr.checkKey, Sem.run_bind, run_underlying hu]
    · rename_i hu
      simp [Instr.checkKey, Sem.run_bind, run_underlying hu]
    · rename_i fs v hu
      obtain ⟨cx, h1, rfl⟩ := hx
      exact struct fs v x cx hu h h1
    · rename_i fs a b hu
      obtain ⟨cx, h1, rfl⟩ := hx
      exact struct fs (.pair a b) x cx hu h h1
    · rename_i m e m' v hu
      simp only [Bool.and_eq_true, beq_nat] at h
      obtain ⟨⟨⟨rfl, hc⟩, hf⟩, he⟩ := h
      obtain ⟨cx, h1, rfl⟩ := hx
      have hfo := formOk_ok hf
      have hs := fun w => run_sizeOf_cells (P := P) (t := e) w hc (by omega)
      rw [show (bif (Ty.arr m v).isAgg then Value.agg cx.toArray else cx.headD undef) = .agg cx.toArray from rfl, Instr.checkKey]
      simp only [Sem.run_bind, run_underlying hu, Result.andThen_ok]
      simp only [Std.Legacy.Range.forIn_eq_forIn_range', Std.Legacy.Range.size, Nat.sub_zero, Nat.add_one_sub_one, Nat.div_one]
      have hlx : List.length (α := v.den) x = m := h1.1
      have key : ∀ (k i : Nat), i + k = m → ∀ (f : Nat → PUnit → Sem (ForInStep PUnit)), (∀ j, j < m → (f j PUnit.unit).run P w = .ok (.yield PUnit.unit) w) → (forIn (m := Sem) (List.range' i k) PUnit.unit f).run P w = .ok PUnit.unit w := by
        intro k
        induction k with
        | zero => intro i _ f _; simp
        | succ k ih =>
          intro i hi f hfj
          rw [List.range'_succ, List.forIn_cons]
          simp only [Sem.run_bind, hfj i (by omega), Result.andThen_ok]
          exact ih (i + 1) (by omega) f hfj
      refine (congrArg (fun r => Result.andThen r _) (key m 0 (by omega) _ fun j hj => ?_)).trans (by simp)
      have hxi : (show List v.den from x)[j]? = some ((show List v.den from x)[j]'(by rw [hlx]; omega)) := List.getElem?_eq_getElem _
      have hc' := Cl.nth (l := (show List v.den from x)) h1 hxi
      obtain ⟨va, q1, q2⟩ := run_part_form (xs := cx.toArray) hfo hc hc' w
      have := checkKey_ok (em := em) w n e v he d hd' _ va q2
      simp [Sem.run_bind, hs, q1, this]
    · cases h

/-! Finding -/
theorem mfind_none {k v : Ty} : ∀ {l : List ((k.den × v.den) × Nat)} {x : k.den}, mfind l x = none → ∀ (i : Nat) e, l[i]? = some e → k.eqb x e.1.1 = false
  | ((a, b), n) :: l, x, h, i, e, he => by
    simp only [mfind] at h
    cases hq : k.eqb x a <;> rw [hq] at h <;> simp only [cond_true, cond_false] at h
    · match i with
      | 0 => simp at he; subst he; exact hq
      | i + 1 => exact mfind_none h i e (by simpa using he)
    · cases h
theorem mfind_some {k v : Ty} : ∀ {l : List ((k.den × v.den) × Nat)} {x : k.den} {y : v.den × Nat}, mfind l x = some y →
    ∃ (i : Nat) (a : k.den), l[i]? = some ((a, y.1), y.2) ∧ k.eqb x a = true ∧ ∀ j e, j < i → l[j]? = some e → k.eqb x e.1.1 = false
  | ((a, b), n) :: l, x, y, h => by
    simp only [mfind] at h
    cases hq : k.eqb x a <;> rw [hq] at h <;> simp only [cond_true, cond_false] at h
    · obtain ⟨i, a', h1, h2, h3⟩ := mfind_some h
      refine ⟨i + 1, a', by simpa using h1, h2, fun j e hj he => ?_⟩
      match j with
      | 0 => simp at he; subst he; exact hq
      | j + 1 => exact h3 j e (by omega) (by simpa using he)
    · simp only [Option.some.injEq] at h
      subst h
      exact ⟨0, a, rfl, hq, fun j e hj => by omega⟩
/-- What 'findKey' answers: the place of the first entry of that key. -/
def Found (es : List MapEntry) (eq : Nat → Bool) : Nat → Option (Nat × Value) → Prop
  | i, none => ∀ j, j < es.length → eq (i + j) = false
  | i, some (p, v) => ∃ j e, p = i + j ∧ es[j]? = some e ∧ e.val = v ∧ eq (i + j) = true ∧ ∀ j', j' < j → eq (i + j') = false
theorem findNow_ok {d : TypeDesc} {x : Value} {eq : Nat → Bool} : ∀ (es : List MapEntry) (i : Nat), (∀ (j : Nat) e, es[j]? = some e → Instr.sameNow d x e.key = some (eq (i + j))) → ∃ r, Instr.findNow d x es i = some r ∧ Found es eq i r
  | [], i, _ => ⟨none, rfl, fun j hj => by simp at hj⟩
  | e :: es, i, h => by
    have h0 := h 0 e rfl
    simp only [Nat.add_zero] at h0
    cases hq : eq i
    · obtain ⟨r, h1, h2⟩ := findNow_ok es (i + 1) (fun j e' he' => by have := h (j + 1) e' (by simpa using he'); rwa [show i + (j + 1) = i + 1 + j from by omega] at this)
      refine ⟨r, by simp [Instr.findNow, h0, hq, h1], ?_⟩
      match r, h2 with
      | none, h2 =>
        intro j hj
        match j with
        | 0 => exact hq
        | j + 1 => rw [show i + (j + 1) = i + 1 + j from by omega]; exact h2 j (by simpa using hj)
      | some (p, v), ⟨j, e', e1, e2, e3, e4, e5⟩ =>
        refine ⟨j + 1, e', by omega, by simpa using e2, e3, by rw [show i + (j + 1) = i + 1 + j from by omega]; exact e4, fun j' hj' => ?_⟩
        match j' with
        | 0 => exact hq
        | j' + 1 => rw [show i + (j' + 1) = i + 1 + j' from by omega]; exact e5 j' (by omega)
    · exact ⟨some (i, e.val), by simp [Instr.findNow, h0, hq], 0, e, rfl, rfl, rfl, hq, fun j' hj' => by omega⟩
theorem findAsking_ok {kt : TypeId} {x : Value} {eq : Nat → Bool} (w : World) : ∀ (es : List MapEntry) (i : Nat), (∀ (j : Nat) e, es[j]? = some e → (Op.equal kt x e.key).run P w = .ok (eq (i + j)) w) →
    ∃ r, (Instr.findAsking kt x es i).run P w = .ok r w ∧ Found es eq i r
  | [], i, _ => ⟨none, by simp [Instr.findAsking], fun j hj => by simp at hj⟩
  | e :: es, i, h => by
    have h0 := h 0 e rfl
    simp only [Nat.add_zero] at h0
    cases hq : eq i
    · obtain ⟨r, h1, h2⟩ := findAsking_ok w es (i + 1) (fun j e' he' => by have := h (j + 1) e' (by simpa using he'); rwa [show i + (j + 1) = i + 1 + j from by omega] at this)
      refine ⟨r, by simp [Instr.findAsking, Sem.run_bind, h0, hq, h1], ?_⟩
      match r, h2 with
      | none, h2 =>
        intro j hj
        match j with
        | 0 => exact hq
        | j + 1 => rw [show i + (j + 1) = i + 1 + j from by omega]; exact h2 j (by simpa using hj)
      | some (p, v), ⟨j, e', e1, e2, e3, e4, e5⟩ =>
        refine ⟨j + 1, e', by omega, by simpa using e2, e3, by rw [show i + (j + 1) = i + 1 + j from by omega]; exact e4, fun j' hj' => ?_⟩
        match j' with
        | 0 => exact hq
        | j' + 1 => rw [show i + (j' + 1) = i + 1 + j' from by omega]; exact e5 j' (by omega)
    · exact ⟨some (i, e.val), by simp [Instr.findAsking, Sem.run_bind, h0, hq], 0, e, rfl, rfl, rfl, hq, fun j' hj' => by omega⟩
theorem keyOk_ok {kt : TypeId} {k : Ty} (h : keyOk P kt k = true) : ty P kt = some k ∧ eqT P typesFuel kt k = true := by
  unfold keyOk at h
  simp only [Bool.and_eq_true, decide_eq_true_eq] at h
  exact h.1
/-- A key is looked for among entries whose keys are held as here. -/
theorem findKey_ok {kt : TypeId} {k : Ty} (hk : keyOk P kt k = true) (w : World) {M : Nat → Prop} {x : k.den} {vx : Value} (hx : VRep w M k x vx) (es : List MapEntry) (ks : List k.den) (hl : ks.length = es.length)
    (hks : ∀ (j : Nat) a e, ks[j]? = some a → es[j]? = some e → VRep w M k a e.key) :
    ∃ r, (Instr.findKey kt vx es).run P w = .ok r w ∧ Found es (fun j => match ks[j]? with | some a => k.eqb x a | none => false) 0 r := by
  have he := (keyOk_ok hk).2
  have hget : ∀ (j : Nat) e, es[j]? = some e → ∃ a, ks[j]? = some a ∧ VRep w M k a e.key := fun j e hj => by
    obtain ⟨a, ha⟩ := get_of_len (l := ks) hl.symm hj
    exact ⟨a, ha, hks j a e ha hj⟩
  cases hu : P.underlying kt with
  | none => simp only [typesFuel, eqT, hu] at he; cases he
  | some d =>
    have ask : (∀ j e, es[j]? = some e → (Op.equal kt vx e.key).run P w = .ok (match ks[0 + j]? with | some a => k.eqb x a | none => false) w) := fun j e hj => by
      obtain ⟨a, ha, hv⟩ := hget j e hj
      rw [Nat.zero_add, ha]
      exact eqT_ok w typesFuel kt k he 10000 (by unfold typesFuel; omega) x a vx e.key hx hv
    by_cases hwide : (match P.underlying kt with | some (.array _ _) | some (.struct _) => true | _ => false) = true
    · rw [run_findKey_eq w hwide]
      exact findAsking_ok w es 0 ask
    · have now : ∃ r, Instr.findNow d vx es 0 = some r ∧ Found es (fun j => match ks[j]? with | some a => k.eqb x a | none => false) 0 r := by
        refine findNow_ok es 0 fun j e hj => ?_
        obtain ⟨a, ha, hv⟩ := hget j e hj
        simp only [Nat.zero_add, ha]
        unfold typesFuel at he
        simp only [eqT] at he
        split at he
        · rename_i q q' hu'
          rw [hu] at hu'
          injection hu' with hu'
          subst hu'
          rw [hx.int, hv.int]
          simp [Instr.sameNow]
          rfl
        · rename_i q hu'
          rw [hu] at hu'
          injection hu' with hu'
          subst hu'
          have e1 := hx.scal rfl rfl
          have e2 := hv.scal rfl rfl
          simp only [Cl, List.cons.injEq, and_true] at e1 e2
          rw [e1, e2]
          simp only [Instr.sameNow, if_true, Option.some.injEq]
          show (((x : UInt8).toNat : Int) == ((a : UInt8).toNat : Int)) = ((x : UInt8) == a)
          rw [Bool.eq_iff_iff]
          simp only [beq_iff_eq]
          constructor
          · intro h; exact UInt8.toNat_inj.1 (by omega)
          · intro h; rw [h]
        · rename_i hu'
          rw [hu] at hu'
          injection hu' with hu'
          subst hu'
          rw [hx.bool, hv.bool]
          rfl
        · rename_i hu'
          rw [hu] at hu'
          injection hu' with hu'
          subst hu'
          rw [hx.str, hv.str]
          simp only [Instr.sameNow, Option.some.injEq, beq_toListBytes, bytes_toList]
          rfl
        · rename_i hu'; rw [hu'] at hwide; exact absurd rfl hwide
        · rename_i hu'; rw [hu'] at hwide; exact absurd rfl hwide
        · rename_i hu'; rw [hu'] at hwide; exact absurd rfl hwide
        · cases he
      obtain ⟨r, h1, h2⟩ := now
      exact ⟨r, by simp [Instr.findKey, Sem.run_bind, run_underlying hu, h1], h2⟩

/-! Zeros -/
theorem zlistOk_eq : ∀ {l r : List Value}, zlistOk l r = true → l.length = r.length ∧ ∀ (i : Nat) a b, l[i]? = some a → r[i]? = some b → zcellOk a b = true
  | [], [], _ => ⟨rfl, fun i a b h => by simp at h⟩
  | x :: l, y :: r, h => by
    simp only [zlistOk, Bool.and_eq_true] at h
    obtain ⟨h1, h2⟩ := zlistOk_eq h.2
    refine ⟨by simp [h1], fun i a b ha hb => ?_⟩
    match i with
    | 0 => simp at ha hb; subst ha; subst hb; exact h.1
    | i + 1 => exact h2 i a b (by simpa using ha) (by simpa using hb)
  | [], _ :: _, h | _ :: _, [], h => by simp [zlistOk] at h
theorem zcellOk_eq {a b : Value} (h : zcellOk a b = true) : a = b := by
  unfold zcellOk at h
  split at h
  · simp only [Bool.and_eq_true, beq_iff_eq] at h; rw [h.1, h.2]
  · simp only [beq_iff_eq] at h; rw [h]
  · rename_i x y
    simp only [Bool.and_eq_true, beq_iff_eq] at h
    obtain ⟨⟨lx⟩⟩ := x
    obtain ⟨⟨ly⟩⟩ := y
    simp at h
    obtain ⟨h1, h2⟩ := h
    rw [h2] at h1
    simp at h1
    obtain rfl := List.eq_nil_of_length_eq_zero h1.symm
    subst h2
    rfl
  · rfl
  · cases h
theorem zlist_eq {l r : List Value} (h : zlistOk l r = true) : l = r := by
  obtain ⟨h1, h2⟩ := zlistOk_eq h
  apply List.ext_getElem? fun i => ?_
  by_cases hi : i < l.length
  · have e1 : l[i]? = some l[i] := List.getElem?_eq_getElem hi
    have e2 : r[i]? = some r[i] := List.getElem?_eq_getElem (by omega)
    rw [e1, e2, zcellOk_eq (h2 i _ _ e1 e2)]
  · rw [List.getElem?_eq_none (by omega), List.getElem?_eq_none (by omega)]
theorem Cl.zero {w : World} {M : Nat → Prop} : {u : Ty} → u.plain = true → Cl w M u u.zero u.zeros
  | .int _, _ | .bool, _ => rfl
  | .byte, _ => rfl
  | .str, _ => rfl
  | .sl t, _ => ⟨none, 0, rfl, Nat.le_refl _, by unfold maxLen; omega, fun _ => rfl, fun h => absurd rfl h⟩
  | .one t, h => Cl.zero (u := t) h
  | .pair a b, h => by
    simp only [Ty.plain, Bool.and_eq_true] at h
    exact ⟨_, _, rfl, Cl.zero h.1, Cl.zero h.2⟩
  | .arr n t, h => by
    refine ⟨by simp [Ty.zero], List.replicate n t.zeros, by simp, rfl, fun i e u h1 h2 => ?_⟩
    have hi : i < n := by
      have := (List.getElem?_eq_some_iff.1 h2).1
      simpa using this
    have h1' : (List.replicate n t.zero)[i]? = some e := h1
    simp [hi] at h1' h2
    subst h1'; subst h2
    exact Cl.zero (u := t) h
theorem zeroOk_ok {t : TypeId} {u : Ty} (h : zeroOk P t u = true) : ∃ i v, P.info? t = some i ∧ i.zero = some v ∧ ∀ w M, VRep w M u u.zero v := by
  unfold zeroOk at h
  simp only [Bool.and_eq_true] at h
  obtain ⟨hp, h⟩ := h
  split at h
  · rename_i i hi
    split at h
    · rename_i v hv
      simp only [Bool.and_eq_true] at h
      have hz := zlist_eq h.1
      refine ⟨i, v, hi, hv, fun w M => ⟨u.zeros, Cl.zero hp, ?_⟩⟩
      have h2 := h.2
      split at h2
      · rename_i cs
        rw [h2]
        simp only [cond_true]
        have hz' : cs.toList = u.zeros := hz
        rw [← hz']
      · rename_i hne
        simp only [Bool.not_eq_true'] at h2
        rw [h2]
        simp only [cond_false]
        rw [← hz]
        cases v <;> first | rfl | exact absurd rfl (hne _)
    · cases h
  · cases h

/-! Lookups -/
theorem tupIf_ok {c : Bool} {a : AV} {v : Value} {q : Bool} (h : ARep z a v) : ARep z (tupIf c a q) (if c then .tuple #[v, .bool q] else v) := by
  unfold tupIf
  cases c
  · exact h
  · refine .tup _ _ rfl fun i x u h1 h2 => ?_
    match i with
    | 0 => simp at h1 h2; subst h1; subst h2; exact h
    | 1 => simp at h1 h2; subst h1; subst h2; exact .mkB q
    | i + 2 => simp at h1
theorem run_lookup {t kt et : TypeId} {g : Nat} {es : Array MapEntry} {clock : Nat} {vk : Value} {c : Bool} {r : Option (Nat × Value)} {i : TypeInfo} {zv : Value} (hu : P.underlying t = some (.map kt et))
    (hg : z.w.heap[g]? = some (.map es clock)) (hck : (Instr.checkKey es.isEmpty 10000 kt vk).run P z.w = .ok () z.w) (hf : (Instr.findKey kt vk es.toList).run P z.w = .ok r z.w) (hi : r = none → P.info? et = some i ∧ i.zero = some zv) :
    (Instr.lookup t (.map (some g)) vk c).run P z.w = .ok (let x := (match r with | some (_, v) => v | none => zv); if c then .tuple #[x, .bool r.isSome] else x) z.w := by
  have ho : (getObj g).run P z.w = .ok (.map es clock) z.w := by simp [getObj, Sem.run, hg]
  cases r with
  | none =>
    obtain ⟨h1, h2⟩ := hi rfl
    cases c <;> simp [Instr.lookup, Sem.run_bind, run_underlying hu, ho, hck, hf, run_zero h1 h2]
  | some p => cases c <;> simp [Instr.lookup, Sem.run_bind, run_underlying hu, ho, hck, hf]
theorem fchain_ok {k : Ty} {x : k.den} {K : Option AV → Option β} {r : β} : ∀ {l : List (k.den × AV)}, fchain l x K = some r →
    ((∀ (i : Nat) (e : k.den × AV), l[i]? = some e → k.eqb x e.1 = false) ∧ K none = some r) ∨ ∃ (i : Nat) (e : k.den × AV), l[i]? = some e ∧ k.eqb x e.1 = true ∧ (∀ (j : Nat) (e' : k.den × AV), j < i → l[j]? = some e' → k.eqb x e'.1 = false) ∧ K (some e.2) = some r
  | [], h => .inl ⟨fun i e h => by simp at h, h⟩
  | (a, b) :: l, h => by
    simp only [fchain] at h
    cases hq : k.eqb x a <;> rw [hq] at h <;> simp only [bq_true, bq_false] at h
    · rcases fchain_ok h with ⟨h1, h2⟩ | ⟨i, e, h1, h2, h3, h4⟩
      · refine .inl ⟨fun i e he => ?_, h2⟩
        match i with
        | 0 => simp at he; subst he; exact hq
        | i + 1 => exact h1 i e (by simpa using he)
      · refine .inr ⟨i + 1, e, by simpa using h1, h2, fun j e' hj he' => ?_, h4⟩
        match j with
        | 0 => simp at he'; subst he'; exact hq
        | j + 1 => exact h3 j e' (by omega) (by simpa using he')
    · exact .inr ⟨0, (a, b), rfl, hq, fun j e' hj => by omega, h⟩
/-- Found, held against the keys. -/
theorem Found.split {es : List MapEntry} {k : Ty} {ks : List k.den} {x : k.den} {r : Option (Nat × Value)} (hl : ks.length = es.length) (h : Found es (fun j => match ks[j]? with | some a => k.eqb x a | none => false) 0 r) :
    (r = none ∧ ∀ (i : Nat) (a : k.den), ks[i]? = some a → k.eqb x a = false) ∨ ∃ (i : Nat) (a : k.den) (e : MapEntry), r = some (i, e.val) ∧ ks[i]? = some a ∧ es[i]? = some e ∧ k.eqb x a = true ∧ ∀ (j : Nat) (a' : k.den), j < i → ks[j]? = some a' → k.eqb x a' = false := by
  match r, h with
  | none, h =>
    refine .inl ⟨rfl, fun i a ha => ?_⟩
    have hi : i < es.length := by
      have := (List.getElem?_eq_some_iff.1 ha).1
      omega
    have := h i hi
    simp only [Nat.zero_add, ha] at this
    exact this
  | some (p, v), ⟨j, e, h1, h2, h3, h4, h5⟩ =>
    simp only [Nat.zero_add] at h1 h4
    obtain ⟨a, ha⟩ := get_of_len (l := ks) hl.symm h2
    rw [ha] at h4
    refine .inr ⟨j, a, e, by rw [h1, h3], ha, h2, h4, fun j' a' hj' ha' => ?_⟩
    have := h5 j' hj'
    simp only [Nat.zero_add, ha'] at this
    exact this
theorem evLookup_ok {t : TypeId} {m ix : AV} {c : Bool} {K : AV → Option β} {r : β} {vm vk : Value} (h : evLookup P t m ix c H K = some r) (hH : HRep z H) (hm : ARep z m vm) (hk : ARep z ix vk) :
    OkP P (Instr.lookup t vm vk c) z K r := by
  unfold evLookup at h
  split at h
  · rename_i id
    cases hm with | mp _ g sz n hρ =>
    split at h
    · rename_i fz k v M hg
      obtain ⟨h1, h2⟩ := need_iff.1 h
      obtain ⟨x, h3, h4⟩ := asA_ok h2 hk
      unfold mapOk at h1
      split at h1
      · rename_i kt et hu
        simp only [Bool.and_eq_true, decide_eq_true_eq] at h1
        obtain ⟨⟨h5, h6⟩, h7⟩ := h1
        obtain ⟨i, zv, z1, z2, z3⟩ := zeroOk_ok h7
        obtain ⟨_, _, _, es, a1, a2, a3, _⟩ := hH.real hg hρ
        have hck := checkKey_ok (em := es.isEmpty) z.w typesFuel kt k (keyOk_ok h5).2 10000 (by unfold typesFuel; omega) x vk h3
        obtain ⟨q, f1, f2⟩ := findKey_ok h5 z.w h3 es.toList (M.1.map (·.1.1)) (by simp [a2]) (fun j a e e1 e2 => by
          rw [List.getElem?_map] at e1
          obtain ⟨y, e3, rfl⟩ := Option.map_eq_some_iff.1 e1
          exact (a3 j y e e3 (by simpa using e2)).1)
        have hrun := run_lookup (c := c) hu a1 hck f1 (fun _ => ⟨z1, z2⟩)
        unfold lookRes at h4
        rcases f2.split (by simp [a2]) with ⟨rfl, f3⟩ | ⟨j, a, e, rfl, f3, f4, f5, f6⟩
        · have hm : mget M x = none := by
            unfold mget
            cases hq : mfind M.1 x with
            | none => rfl
            | some y =>
              obtain ⟨j, a, q1, q2, _⟩ := mfind_some hq
              have := f3 j a (by simp [q1])
              rw [q2] at this; cases this
          rw [hm] at h4
          exact .mk' hrun (tupIf_ok (ofTy_ok (z3 _ _))) h4
        · rw [List.getElem?_map] at f3
          obtain ⟨y, f7, rfl⟩ := Option.map_eq_some_iff.1 f3
          have hm : mget M x = some y.1.2 := by
            unfold mget
            cases hq : mfind M.1 x with
            | none =>
              have := mfind_none hq j y f7
              rw [f5] at this; cases this
            | some y' =>
              obtain ⟨j', a', q1, q2, q3⟩ := mfind_some hq
              have hjj : j' = j := by
                rcases Nat.lt_trichotomy j' j with hlt | heq | hgt
                · have := f6 j' a' hlt (by simp [q1])
                  rw [q2] at this; cases this
                · exact heq
                · have := q3 j y hgt f7
                  rw [f5] at this; cases this
              subst hjj
              rw [q1] at f7
              injection f7 with f7
              rw [← f7]
              rfl
          rw [hm] at h4
          refine .mk' hrun (tupIf_ok (ofTy_ok ?_)) h4
          exact (a3 j y e f7 (by simpa using f4)).2.1
      · cases h1
    · rename_i fz k l hg
      obtain ⟨h1, h2⟩ := need_iff.1 h
      obtain ⟨x, h3, h4⟩ := asA_ok h2 hk
      unfold fmapOk at h1
      split at h1
      · rename_i kt et hu
        simp only [Bool.and_eq_true] at h1
        obtain ⟨⟨h5, h6⟩, h7⟩ := h1
        obtain ⟨_, _, _, es, clock, a1, a2, a3⟩ := hH.real hg hρ
        have hz : ∃ i, P.info? et = some i ∧ i.zero = some .nilFunc := by
          split at h7
          · rename_i i hi
            split at h7
            · rename_i hz; exact ⟨i, hi, hz⟩
            · cases h7
          · cases h7
        obtain ⟨i, z1, z2⟩ := hz
        have hck := checkKey_ok (em := es.isEmpty) z.w typesFuel kt k (keyOk_ok h5).2 10000 (by unfold typesFuel; omega) x vk h3
        obtain ⟨q, f1, f2⟩ := findKey_ok h5 z.w h3 es.toList (l.map (·.1)) (by simp [a2]) (fun j a e e1 e2 => by
          rw [List.getElem?_map] at e1
          obtain ⟨y, e3, rfl⟩ := Option.map_eq_some_iff.1 e1
          exact (a3 j y e e3 (by simpa using e2)).1)
        have hrun := run_lookup (c := c) hu a1 hck f1 (fun _ => ⟨z1, z2⟩)
        rcases fchain_ok h4 with ⟨g1, g2⟩ | ⟨j', e', g1, g2, g3, g4⟩
        · rcases f2.split (by simp [a2]) with ⟨rfl, f3⟩ | ⟨j, a, e, rfl, f3, f4, f5, f6⟩
          · exact .mk' hrun (tupIf_ok (.p _ _ _ (VRep.mkSc (t := .opq) (x := Value.nilFunc) ⟨rfl, rfl⟩ rfl))) g2
          · rw [List.getElem?_map] at f3
            obtain ⟨y, f7, rfl⟩ := Option.map_eq_some_iff.1 f3
            have := g1 j y f7
            rw [f5] at this; cases this
        · rcases f2.split (by simp [a2]) with ⟨rfl, f3⟩ | ⟨j, a, e, rfl, f3, f4, f5, f6⟩
          · have := f3 j' e'.1 (by simp [g1])
            rw [g2] at this; cases this
          · rw [List.getElem?_map] at f3
            obtain ⟨y, f7, rfl⟩ := Option.map_eq_some_iff.1 f3
            have hjj : j' = j := by
              rcases Nat.lt_trichotomy j' j with hlt | heq | hgt
              · have := f6 j' e'.1 hlt (by simp [g1])
                rw [g2] at this; cases this
              · exact heq
              · have := g3 j y hgt f7
                rw [f5] at this; cases this
            subst hjj
            rw [g1] at f7
            injection f7 with f7
            subst f7
            exact .mk' hrun (tupIf_ok (a3 j' e' e g1 (by simpa using f4)).2) g4
      · cases h1
    · cases h
  · split at h
    · rename_i kt et hu
      obtain ⟨k, h1, h2⟩ := ob_iff.1 h
      obtain ⟨v, h3, h4⟩ := ob_iff.1 h2
      obtain ⟨h5, h6⟩ := need_iff.1 h4
      obtain ⟨x, h7, h8⟩ := asA_ok h6 hk
      unfold mapOk at h5
      rw [hu] at h5
      simp only [Bool.and_eq_true, decide_eq_true_eq] at h5
      obtain ⟨⟨h9, h10⟩, h11⟩ := h5
      obtain ⟨i, zv, z1, z2, z3⟩ := zeroOk_ok h11
      obtain ⟨rfl, _⟩ := hm.v.opq
      have hck := checkKey_ok (em := true) z.w typesFuel kt k (keyOk_ok h9).2 10000 (by unfold typesFuel; omega) x vk h7
      obtain ⟨q, f1, f2⟩ := findKey_ok h9 z.w h7 [] [] rfl (fun j a e e1 => by simp at e1)
      have hq : q = none := by
        rcases Found.split (k := k) (ks := []) (x := x) rfl f2 with ⟨h, _⟩ | ⟨j, a, e, _, e1, _⟩
        · exact h
        · simp at e1
      subst hq
      unfold lookRes at h8
      refine .mk' ?_ (tupIf_ok (c := c) (q := false) (ofTy_ok (z3 _ _))) h8
      cases c <;> simp [Instr.lookup, Sem.run_bind, run_underlying hu, hck, f1, run_zero z1 z2]
    · cases h
  · cases h
end
end Go.Ab

/- The operations that only read, as the regions carry them out. -/
namespace Go.Ab

section
variable {P : Program} {β : Type} {z : Z} {H : Hp}
theorem exec_v {ρ : Operand → Value} {o : Oper} {s : Sem Value} {K : AV → Option β} {res : β} (he : execOp ρ o = (do pure (.value (← s)))) (h : OkP P s z K res) :
    ∃ x v, (execOp ρ o).run P z.w = .ok (.value v) z.w ∧ ARep z x v ∧ K x = some res := by
  obtain ⟨x, v, h1, h2, h3⟩ := h
  exact ⟨x, v, by rw [he, Sem.run_bind, h1]; rfl, h2, h3⟩
theorem exec_call {ρ : Operand → Value} {o : Oper} {c : Call} {b : Builtin} {s : Sem Value} {K : AV → Option β} {res : β} (ho : o.op = .call c) (hc : c.callee = .builtin b)
    (hb : ∀ consts, builtin b c.argTypes o.type consts (c.args.map ρ) = (do pure (.value (← s)))) (h : OkP P s z K res) :
    ∃ x v, (execOp ρ o).run P z.w = .ok (.value v) z.w ∧ ARep z x v ∧ K x = some res := by
  obtain ⟨x, v, h1, h2, h3⟩ := h
  refine ⟨x, v, ?_, h2, h3⟩
  unfold execOp
  simp only [ho, resolve, hc, Sem.run_bind, Sem.run_pure, Result.andThen_ok, invoke, hb, h1]
theorem AReps.map {l : List Operand} {r : Operand → AV} {ρ : Operand → Value} (hr : ∀ x, ARep z (r x) (ρ x)) : AReps z (l.map r) (l.map ρ) := by
  refine ⟨by simp, fun i a v h1 h2 => ?_⟩
  rw [List.getElem?_map] at h1 h2
  obtain ⟨x, h3, rfl⟩ := Option.map_eq_some_iff.1 h1
  rw [h3] at h2
  simp at h2
  subst h2
  exact hr x
theorem ORep.map {a : Option Operand} {r : Operand → AV} {ρ : Operand → Value} (hr : ∀ x, ARep z (r x) (ρ x)) : ORep z (a.map r) (a.map ρ) := by
  cases a with
  | none => exact .inl ⟨rfl, rfl⟩
  | some x => exact .inr ⟨_, _, rfl, rfl, hr x⟩
theorem evR_ok {o : Oper} {r : Operand → AV} {ρ : Operand → Value} {K : AV → Option β} {res : β} (h : evR P o r H K = some res) (hH : HRep z H) (hr : ∀ x, ARep z (r x) (ρ x)) :
    ∃ x v, (execOp ρ o).run P z.w = .ok (.value v) z.w ∧ ARep z x v ∧ K x = some res := by
  unfold evR at h
  split at h
  · rename_i x ho; exact ⟨_, ρ x, by simp [execOp, ho], hr x, h⟩
  · rename_i x ho; exact ⟨_, ρ x, by simp [execOp, ho], hr x, h⟩
  · rename_i c a b ho
    obtain ⟨x, v, h1, h2, h3⟩ := evPick_ok h (hr c) (hr a) (hr b)
    refine ⟨x, v, ?_, h2, h3⟩
    simp only [Sem.run_bind] at h1
    simp only [execOp, ho, Sem.run_bind]
    generalize (asBool (ρ c)).run P z.w = q at h1 ⊢
    cases q <;> simp [Result.andThen] at h1 ⊢
    obtain ⟨h4, h5⟩ := h1
    exact ⟨h4, h5⟩
  · rename_i t ps ho
    refine exec_v (s := Instr.build t (ps.map fun (i, x) => (i, ρ x))) (by simp [execOp, ho]) (evBuild_ok h ⟨by simp, fun i x y h1 h2 => ?_⟩)
    simp only [Array.toList_map] at h2
    rw [List.getElem?_map] at h1 h2
    obtain ⟨q, h3, rfl⟩ := Option.map_eq_some_iff.1 h1
    rw [h3] at h2
    simp at h2
    subst h2
    exact ⟨rfl, hr _⟩
  · rename_i t a ho; exact exec_v (s := Instr.loadAt t (ρ a)) (by simp [execOp, ho]) (evLoad_ok h hH (hr a))
  · rename_i x ho
    have hx := hr x
    split at h
    · rename_i es id i j hq
      rw [hq] at hx
      cases hv : ρ x <;> rw [hv] at hx <;> first | (cases hx; done) | skip
      rename_i p
      cases hx with | own _ _ _ _ g sz n hρ => exact ⟨_, ρ x, by simp [execOp, ho, hv], by rw [hv]; exact .own _ _ _ _ _ _ _ hρ, h⟩
    · rename_i u l i j hq
      rw [hq] at hx
      cases hv : ρ x <;> rw [hv] at hx <;> first | (cases hx; done) | skip
      cases hx with | pt _ _ _ _ b off hM hlt hrr => exact ⟨_, ρ x, by simp [execOp, ho, hv], by rw [hv]; exact .pt _ _ _ _ _ _ hM hlt hrr, h⟩
    · rename_i f a c hq
      rw [hq] at hx
      cases hv : ρ x <;> rw [hv] at hx <;> first | (cases hx; done) | skip
      cases hx with | fn _ _ _ va vc h1 h2 h3 h4 => exact ⟨_, ρ x, by simp [execOp, ho, hv], by rw [hv]; exact .fn _ _ _ _ _ h1 h2 h3 h4, h⟩
    · cases h
  · rename_i op t x y u ho; exact exec_v (s := do eqGuard op t x y (ρ x) (ρ y); binOp op t (ρ x) (ρ y)) (by simp [execOp, ho]) (evBin_ok x y h hH (hr x) (hr y))
  · rename_i t x ix c ho; exact exec_v (s := Instr.lookup t (ρ x) (ρ ix) c) (by simp [execOp, ho]) (evLookup_ok h hH (hr x) (hr ix))
  · rename_i op t x ho; exact exec_v (s := Op.unary op (ρ x)) (by simp [execOp, ho]) (evUn_ok h (hr x))
  · rename_i s d x ho; exact exec_v (s := convert s d (ρ x)) (by simp [execOp, ho]) (evConvert_ok h hH (hr x))
  · rename_i f a c ho
    refine ⟨_, .func (.func f) (a.map ρ) (c.map ρ), by simp [execOp, ho, Instr.makeFunc], .fn _ _ _ _ _ (by simp) (by simp) (fun i x v h1 h2 => ?_) (fun i x v h1 h2 => ?_), h⟩
    · exact (AReps.map (l := a.toList) hr).2 i x v h1 (by simpa using h2)
    · exact (AReps.map (l := c.toList) hr).2 i x v h1 (by simpa using h2)
  · rename_i t x lo hi ho; exact exec_v (s := Instr.sliceAt t (ρ x) (lo.map ρ) (hi.map ρ) none) (by simp [execOp, ho]) (evSlice_ok h hH (hr x) (.map hr) (.map hr))
  · rename_i s x f ho; exact exec_v (s := Instr.fieldAt s (ρ x) f) (by simp [execOp, ho]) (evFieldAddr_ok h (hr x))
  · rename_i s x f ho; exact exec_v (s := Instr.field s (ρ x) f) (by simp [execOp, ho]) (evField_ok h (hr x))
  · rename_i t x ix ho; exact exec_v (s := Instr.indexAt t (ρ x) (ρ ix)) (by simp [execOp, ho]) (evIndexAddr_ok h hH (hr x) (hr ix))
  · rename_i t x ix ho; exact exec_v (s := Instr.index t (ρ x) (ρ ix)) (by simp [execOp, ho]) (evIndex_ok h (hr x) (hr ix))
  · rename_i x i ho
    obtain ⟨l, h1, h2⟩ := ob_iff.1 h
    obtain ⟨y, h3, h4⟩ := ob_iff.1 h2
    obtain ⟨vs, h5, h6, h7⟩ := tup?_ok h1 (hr x)
    have hlt : i < vs.size := by
      have := (List.getElem?_eq_some_iff.1 h3).1
      omega
    have hv : vs[i]? = some vs[i] := Array.getElem?_eq_getElem hlt
    exact exec_v (s := Instr.extract (ρ x) i) (by simp [execOp, ho]) ⟨y, vs[i], by simp [Instr.extract, h5, hv], h7 i y _ h3 hv, h4⟩
  · rename_i c ho
    split at h
    · rename_i hc
      split at h
      · rename_i a t ha ht
        obtain ⟨n, h1, h2⟩ := lenT_ok o.type h hH (hr a)
        refine exec_call (s := Builtin.len_ #[t] o.type #[ρ a]) ho hc (fun consts => ?_) ⟨_, _, h1, .mkI _ _, h2⟩
        have e1 : c.args = #[a] := by apply Array.ext'; rw [ha]
        have e2 : c.argTypes = #[t] := by apply Array.ext'; rw [ht]
        simp [builtin, e1, e2]
      · cases h
    · rename_i hc
      split at h
      · rename_i a t ha ht
        have e1 : c.args = #[a] := by apply Array.ext'; rw [ha]
        have e2 : c.argTypes = #[t] := by apply Array.ext'; rw [ht]
        split at h
        · rename_i e hu
          have run : ∀ A n m, ρ a = .slice A n m → (Builtin.cap_ #[t] o.type #[ρ a]).run P z.w = .ok (.int .i64 (m : Int)) z.w := fun A n m hv => by
            simp [Builtin.cap_, Sem.run_bind, hv, run_underlying hu, goInt]
          have key : ∀ m : Nat, (∃ A n, ρ a = .slice A n m) → K (.i .i64 (m : Int)) = some res → ∃ x v, (execOp ρ o).run P z.w = .ok (.value v) z.w ∧ ARep z x v ∧ K x = some res := fun m ⟨A, n, hv⟩ hk =>
            exec_call (s := Builtin.cap_ #[t] o.type #[ρ a]) ho hc (fun consts => by simp [builtin, e1, e2]) ⟨_, _, run A n m hv, .mkI _ _, hk⟩
          split at h
          · rename_i hq
            have hx := hr a
            rw [hq] at hx
            exact key 0 ⟨none, 0, hx.v.opq.1⟩ h
          · obtain ⟨A, n, m, hv, h1, h2, _, h3⟩ := lenS_ok h hH (hr a)
            exact key m ⟨A, n, hv⟩ (capQ_ok h3 m h1 h2)
        · cases h
      · cases h
    · rename_i hc
      split at h
      · rename_i k hu
        obtain ⟨l, h1, h2⟩ := ob_iff.1 h
        have hv := ints?_ok h1 (AReps.map (l := c.args.toList) hr)
        split at h2
        · rename_i x l
          refine exec_call (s := Builtin.min_ c.argTypes o.type (c.args.map ρ)) ho hc (fun consts => rfl) ⟨_, _, ?_, .mkI _ _, h2⟩
          unfold Builtin.min_
          rw [Array.toList_map, hv]
          exact run_minFold z.w l x
        · cases h2
      · cases h
    · rename_i hc
      split at h
      · rename_i k hu
        obtain ⟨l, h1, h2⟩ := ob_iff.1 h
        have hv := ints?_ok h1 (AReps.map (l := c.args.toList) hr)
        split at h2
        · rename_i x l
          refine exec_call (s := Builtin.max_ c.argTypes o.type (c.args.map ρ)) ho hc (fun consts => rfl) ⟨_, _, ?_, .mkI _ _, h2⟩
          unfold Builtin.max_
          rw [Array.toList_map, hv]
          exact run_maxFold z.w l x
        · cases h2
      · cases h
    · cases h
  · cases h
end
end Go.Ab

/- Operations that make memory. -/
namespace Go.Ab

section
variable {P : Program} {β : Type} {z : Z} {H : Hp}
/-- A list's elements lie in cells, from the first on. -/
def RowsIn (w : World) (M : Nat → Prop) (u : Ty) (l : List u.den) (cs : List Value) : Prop :=
  ∀ (i : Nat) x, l[i]? = some x → ∃ us, Cl w M u x us ∧ ∀ (j : Nat) v, us[j]? = some v → cs[i * u.cells + j]? = some v
theorem RowsIn.kp {z' : Z} (k : Kp z z') {u : Ty} {l : List u.den} {cs : List Value} (h : RowsIn z.w z.M u l cs) : RowsIn z'.w z'.M u l cs := fun i x hx => by
  obtain ⟨us, h1, h2⟩ := h i x hx
  exact ⟨us, h1.kp k, h2⟩
theorem flat_get {c : Nat} : ∀ {css : List (List Value)}, (∀ u ∈ css, u.length = c) → ∀ {k : Nat} {us : List Value}, css[k]? = some us → ∀ {q : Nat} {w : Value}, us[q]? = some w → css.flatten[k * c + q]? = some w
  | [], _, k, us, h, _, _, _ => by simp at h
  | u :: css, hl, 0, us, h, q, w, hq => by
    simp at h
    subst h
    rw [List.flatten_cons, Nat.zero_mul, Nat.zero_add, List.getElem?_append_left (List.getElem?_eq_some_iff.1 hq).1]
    exact hq
  | u :: css, hl, k + 1, us, h, q, w, hq => by
    have hc := hl u (by simp)
    rw [List.flatten_cons, List.getElem?_append_right (by rw [Nat.succ_mul]; omega)]
    have := flat_get (fun u hu => hl u (List.mem_cons_of_mem _ hu)) (by simpa using h) hq
    rw [← this]
    congr 1
    rw [Nat.succ_mul]; omega
theorem rows_len {w : World} {M : Nat → Prop} {u : Ty} {l : List u.den} {css : List (List Value)} (hl : css.length = l.length) (h : ∀ (i : Nat) e us, l[i]? = some e → css[i]? = some us → Cl w M u e us) : ∀ us ∈ css, us.length = u.cells := fun us hu => by
  obtain ⟨k, hk⟩ := List.getElem?_of_mem hu
  obtain ⟨e, he⟩ := get_of_len (l := l) hl hk
  exact (h k e us he hk).len
theorem RowsIn.css {w : World} {M : Nat → Prop} {u : Ty} {l : List u.den} {css : List (List Value)} (hl : css.length = l.length) (h : ∀ (i : Nat) e us, l[i]? = some e → css[i]? = some us → Cl w M u e us)
    (rest : List Value) : RowsIn w M u l (css.flatten ++ rest) := fun i x hx => by
  have hi : i < css.length := by rw [hl]; exact (List.getElem?_eq_some_iff.1 hx).1
  refine ⟨css[i], h i x _ hx (List.getElem?_eq_getElem hi), fun j v hj => ?_⟩
  have := flat_get (rows_len hl h) (List.getElem?_eq_getElem hi) hj
  rw [List.getElem?_append_left (List.getElem?_eq_some_iff.1 this).1]
  exact this
theorem RowsIn.arr {w : World} {M : Nat → Prop} {u : Ty} {n : Nat} {l : List u.den} {cs : List Value} (h : Cl w M (.arr n u) l cs) : RowsIn w M u l cs := by
  obtain ⟨hn, css, h1, rfl, h2⟩ := h
  have := RowsIn.css (l := l) (by rw [h1]; exact hn.symm) h2 []
  rwa [List.append_nil] at this
theorem Cl.arr {w : World} {M : Nat → Prop} {u : Ty} {l : List u.den} {css : List (List Value)} (hl : css.length = l.length) (h : ∀ (i : Nat) e us, l[i]? = some e → css[i]? = some us → Cl w M u e us) :
    Cl w M (.arr l.length u) l css.flatten := ⟨rfl, css, hl, rfl, h⟩

theorem newAt_iff {id : Nat} {b : Blk} {K : Hp → Option β} {r : β} : newAt H id b K = some r ↔ hkey H id = false ∧ K (hset H id (some ⟨false, b⟩)) = some r := by
  unfold newAt
  cases hkey H id <;> simp
/-- A new row. -/
theorem new_rows {id : Nat} {cs : Array Value} {e : TypeId} {fr : Nat × Nat} {w' : World} {u : Ty} {l : List u.den} (hH : HRep z H) (hk : hkey H id = false) (hd : ¬ z.D id) (hw : w'.heap[z.w.heap.size]? = some (.cells cs e fr)) (hf : okF cs fr)
    (hos : w'.os = z.w.os) (htape : w'.tape = z.w.tape) (hout : w'.output = z.w.output) (hold : ∀ k, k < z.w.heap.size → w'.heap[k]? = z.w.heap[k]?) (hl : l.length * u.cells ≤ cs.size) (h0 : 0 < u.cells) (hr : RowsIn z.w z.M u l cs.toList) :
    ∃ z', z'.w = w' ∧ HRep z' (hset H id (some ⟨false, .rows e u l⟩)) ∧ Nx z z' ∧ z'.ρ id = .real z.w.heap.size cs.size l.length := by
  have hlt : z.w.heap.size < w'.heap.size := (Array.getElem?_eq_some_iff.1 hw).1
  refine hH.new hk hd (Nat.le_refl _) hlt hos htape hout (Nat.le_of_lt hlt) hold fun z' hz k => ?_
  subst hz
  refine ⟨cs, fr, hw, hf, rfl, rfl, hl, h0, fun i x hx => ?_⟩
  obtain ⟨us, h1, h2⟩ := hr.kp k i x hx
  exact ⟨us, h1, fun j v hj => by simpa using h2 j v hj⟩
/-- A new variable. -/
theorem new_vars {id : Nat} {cs : Array Value} {e : TypeId} {fr : Nat × Nat} {w' : World} {c : List AV} (hH : HRep z H) (hk : hkey H id = false) (hd : ¬ z.D id) (hw : w'.heap[z.w.heap.size]? = some (.cells cs e fr)) (hf : okF cs fr)
    (hos : w'.os = z.w.os) (htape : w'.tape = z.w.tape) (hout : w'.output = z.w.output) (hold : ∀ k, k < z.w.heap.size → w'.heap[k]? = z.w.heap[k]?) (hr : AReps z c cs.toList) (h1 : ∀ u ∈ cs, u.oneCell' = true) :
    ∃ z', z'.w = w' ∧ HRep z' (hset H id (some ⟨false, .vars c⟩)) ∧ Nx z z' ∧ z'.ρ id = .real z.w.heap.size cs.size cs.size := by
  have hlt : z.w.heap.size < w'.heap.size := (Array.getElem?_eq_some_iff.1 hw).1
  refine hH.new hk hd (Nat.le_refl _) hlt hos htape hout (Nat.le_of_lt hlt) hold fun z' hz k => ?_
  subst hz
  refine ⟨cs, e, fr, hw, hf, rfl, by have := hr.1; simpa using this, fun i a v p q => (hr.2 i a v p (by simpa using q)).kp k, h1⟩
theorem okF0 (cs : Array Value) : okF cs (0, 0) := .inl rfl

theorem Ok.mk' {s : Sem Value} {K : AV → Hp → Option β} {r : β} {x : AV} {v : Value} {H' : Hp} {z' : Z} (h : s.run P z.w = .ok v z'.w) (hH : HRep z' H') (ha : ARep z' x v) (hn : Nx z z') (hK : K x H' = some r) : Ok P s z K r := ⟨x, v, H', z', h, hH, ha, hn, hK⟩

theorem run_box (w : World) (t : TypeId) (v : Value) : (Instr.box t v).run P w = .ok (.pointer (some ⟨w.heap.size, 0, none⟩)) (w.alloc (.cells v.cells t)) := rfl
theorem run_alloc_any {t : TypeId} {i : TypeInfo} {v : Value} (h1 : P.info? t = some i) (h3 : i.zero = some v) (w : World) : (Instr.alloc t true (.tuple #[])).run P w = .ok (.pointer (some ⟨w.heap.size, 0, none⟩)) (w.alloc (.cells v.cells t)) := by
  unfold Instr.alloc
  rw [Sem.run_bind, run_zero h1 h3]
  rfl
theorem evAlloc_ok {t : TypeId} {id : Nat} {K : AV → Hp → Option β} {r : β} (h : evAlloc P t id H K = some r) (hH : HRep z H) (hd : ¬ z.D id) : Ok P (Instr.alloc t true (.tuple #[])) z K r := by
  unfold evAlloc at h
  split at h
  · rename_i n e hu
    obtain ⟨u, h1, h2⟩ := ob_iff.1 h
    obtain ⟨h3, h4⟩ := need_iff.1 h2
    obtain ⟨h5, h6⟩ := newAt_iff.1 h4
    obtain ⟨t1, t2, _⟩ := ty_ok h1
    obtain ⟨i, v, q1, q2, q3⟩ := zeroOk_ok h3
    obtain ⟨c1, c2⟩ := (q3 z.w z.M).cells
    have hl : v.cells.size = n * u.cells := by simpa [Ty.cells] using c1.len
    obtain ⟨z', p1, p2, p3, p4⟩ := new_rows (z := z) (w' := z.w.alloc (.cells v.cells t)) (e := t) (l := List.replicate n u.zero) hH h5 hd (heap_alloc_new _ _) (okF0 _) rfl rfl rfl (fun k hk => heap_alloc_old _ _ _ hk)
      (by rw [List.length_replicate, hl]; exact Nat.le_refl _) t2 (.arr c1)
    refine .mk' (by rw [p1]; exact run_alloc_any q1 q2 z.w) p2 (x := .own u.cells id 0 0) ?_ p3 h6
    have := ARep.own (z := z') u.cells id 0 0 _ _ _ p4
    simpa using this
  · obtain ⟨l, h1, h2⟩ := ob_iff.1 h
    obtain ⟨h5, h6⟩ := newAt_iff.1 h2
    obtain ⟨i, v, q1, q2, q3, q4⟩ := zeroOf_ok (z := z) h1
    obtain ⟨z', p1, p2, p3, p4⟩ := new_vars (z := z) (w' := z.w.alloc (.cells v.cells t)) hH h5 hd (heap_alloc_new _ _) (okF0 _) rfl rfl rfl (fun k hk => heap_alloc_old _ _ _ hk) q3 q4
    refine .mk' (by rw [p1]; exact run_alloc_any q1 q2 z.w) p2 (x := .own 0 id 0 0) ?_ p3 h6
    have := ARep.own (z := z') 0 id 0 0 _ _ _ p4
    simpa using this
theorem evBox_ok {t : TypeId} {a : AV} {v : Value} {id : Nat} {K : AV → Hp → Option β} {r : β} (h : evBox P t a id H K = some r) (hH : HRep z H) (hd : ¬ z.D id) (ha : ARep z a v) : Ok P (Instr.box t v) z K r := by
  unfold evBox at h
  split at h
  · rename_i n e hu
    obtain ⟨u, h1, h2⟩ := ob_iff.1 h
    obtain ⟨⟨a', H1⟩, h3, h4⟩ := ob_iff.1 h2
    obtain ⟨z1, s1, s2, s3, s4, s5⟩ := pureA_ok hH h3 ha
    obtain ⟨l, h5, h6⟩ := asA_ok h4 s5
    obtain ⟨h7, h8⟩ := need_iff.1 h6
    obtain ⟨h9, h10⟩ := newAt_iff.1 h8
    rw [beq_nat] at h7
    obtain ⟨t1, t2, _⟩ := ty_ok h1
    obtain ⟨c1, c2⟩ := h5.cells
    have hl : v.cells.size = n * u.cells := by simpa [Ty.cells] using c1.len
    obtain ⟨z', p1, p2, p3, p4⟩ := new_rows (z := z1) (w' := z1.w.alloc (.cells v.cells t)) (e := t) (l := l) s2 h9 (by rw [s3.dom]; exact hd) (heap_alloc_new _ _) (okF0 _) rfl rfl rfl (fun k hk => heap_alloc_old _ _ _ hk)
      (by rw [h7, hl]; exact Nat.le_refl _) t2 (.arr c1)
    refine .mk' (by rw [p1, s1]; exact run_box z.w t v) p2 (x := .own u.cells id 0 0) ?_ (s3.trans p3) h10
    have := ARep.own (z := z') u.cells id 0 0 _ _ _ p4
    simpa [s1] using this
  · obtain ⟨l, h1, h2⟩ := ob_iff.1 h
    obtain ⟨h5, h6⟩ := newAt_iff.1 h2
    obtain ⟨q1, q2, _⟩ := cellsA_ok h1 ha
    obtain ⟨z', p1, p2, p3, p4⟩ := new_vars (z := z) (w' := z.w.alloc (.cells v.cells t)) hH h5 hd (heap_alloc_new _ _) (okF0 _) rfl rfl rfl (fun k hk => heap_alloc_old _ _ _ hk) q1 q2
    refine .mk' (by rw [p1]; exact run_box z.w t v) p2 (x := .own 0 id 0 0) ?_ p3 h6
    have := ARep.own (z := z') 0 id 0 0 _ _ _ p4
    simpa using this

/-! make -/
theorem made_get (zs : Array Value) (n k : Nat) (hk : k < n) (h : 0 < zs.size) : (madeCells zs n)[k]? = zs[k % zs.size]? := by
  have hm := Nat.mod_lt k h
  simp [madeCells, hk, hm]
theorem RowsIn.made {w : World} {M : Nat → Prop} {u : Ty} {zs : Array Value} (hc : Cl w M u u.zero zs.toList) (n m : Nat) (hnm : n ≤ m) (h0 : 0 < u.cells) : RowsIn w M u (List.replicate n u.zero) (madeCells zs (m * u.cells)).toList := fun i x hx => by
  have hi : i < n := by
    have := (List.getElem?_eq_some_iff.1 hx).1
    simpa using this
  obtain rfl : u.zero = x := by
    rw [List.getElem?_replicate] at hx
    simpa [hi] using hx
  refine ⟨_, hc, fun j v hj => ?_⟩
  have hl : zs.size = u.cells := by simpa using hc.len
  have hjl : j < u.cells := by
    have := (List.getElem?_eq_some_iff.1 hj).1
    simpa [hl] using this
  have hlt := mul_lt (es := u.cells) (show i < m by omega) hjl
  rw [Array.getElem?_toList, made_get _ _ _ hlt (by omega), hl, Nat.mul_comm i, Nat.mul_add_mod, Nat.mod_eq_of_lt hjl]
  simpa using hj
theorem evMake_ok {t : TypeId} {al ac : AV} {vl vc : Value} {id : Nat} {K : AV → Hp → Option β} {r : β} (h : evMake P t al ac id H K = some r) (hH : HRep z H) (hd : ¬ z.D id) (hl : ARep z al vl) (hc : ARep z ac vc) :
    Ok P (Instr.makeSlice t vl vc) z K r := by
  unfold evMake at h
  split at h
  · rename_i e hu
    obtain ⟨n, h1, h2⟩ := ob_iff.1 h
    obtain ⟨m, h3, h4⟩ := ob_iff.1 h2
    obtain ⟨m', h5, h6⟩ := Option.bind_eq_some_iff.1 h4
    obtain ⟨n', h7, h8⟩ := Option.bind_eq_some_iff.1 h6
    obtain ⟨u, h9, h10⟩ := ob_iff.1 h8
    obtain ⟨h11, h12⟩ := need_iff.1 h10
    obtain ⟨h13, h14⟩ := newAt_iff.1 h12
    simp only [Bool.and_eq_true, Nat.ble_eq] at h11
    obtain ⟨h15, h16⟩ := h11
    obtain ⟨kl, rfl⟩ := any?_ok h1 hl
    obtain ⟨kc, rfl⟩ := any?_ok h3 hc
    unfold upto? at h5 h7
    split at h5
    · rename_i hm
      split at h7
      · rename_i hn
        simp only [Option.some.injEq] at h5 h7
        obtain ⟨t1, t2, _⟩ := ty_ok h9
        obtain ⟨i, v, q1, q2, q3⟩ := zeroOk_ok h15
        obtain ⟨c1, c2⟩ := (q3 z.w z.M).cells
        have hb : P.bytesOf e = i.bytes := by simp [Program.bytesOf, q1]
        have hsz : i.size = u.cells := by
          rw [t1]; simp [Program.cellsOf, q1]
        have hroom : room = 140737488355328 := rfl
        have hbytes : (i.bytes : Int) * m ≤ 281474976710656 := by
          rw [hb, hroom] at h16
          have e1 : m = (m' : Int) := by omega
          have e2 : ((m' * i.bytes : Nat) : Int) ≤ 140737488355328 := by omega
          rw [e1, Int.mul_comm]
          rw [Int.natCast_mul] at e2
          omega
        have hrun := run_make (P := P) z.w t e i v hu q1 q2 kl kc n m hn.1 (by omega) hbytes (by rw [hroom] at hm; omega)
        rw [hsz] at hrun
        have hnm : n' ≤ m' := by omega
        obtain ⟨z', p1, p2, p3, p4⟩ := new_rows (z := z) (w' := z.w.alloc (.cells (madeCells v.cells (m.toNat * u.cells)) e)) (e := e) (l := List.replicate n' u.zero) hH h13 hd (heap_alloc_new _ _) (okF0 _) rfl rfl rfl (fun k hk => heap_alloc_old _ _ _ hk)
          (by rw [List.length_replicate, size_madeCells]; exact Nat.mul_le_mul_right _ (by omega)) t2 (RowsIn.made c1 n' m.toNat (by omega) t2)
        refine .mk' (by rw [p1]; exact hrun) p2 (x := .slf u.cells id) ?_ p3 h14
        rw [h7]
        refine .slf _ _ _ _ _ _ (by rw [p4, List.length_replicate]) (by omega) (by rw [size_madeCells]; exact Nat.le_refl _) ?_
        rw [hroom] at hm
        unfold maxLen
        omega
      · cases h7
    · cases h5
  · cases h
end
end Go.Ab

/- Operations that make memory: bytes of a string, slices written down, append. -/
namespace Go.Ab

section
variable {P : Program} {β : Type} {z : Z} {H : Hp}
theorem fillA_len {pl : Nat → Option (Nat × Nat)} : ∀ {parts : List (Nat × AV)} {c c' : List AV}, fillA pl c parts = some c' → c'.length = c.length
  | [], c, c', h => by simp [fillA] at h; rw [h]
  | (i, a) :: parts, c, c', h => by
    simp only [fillA] at h
    obtain ⟨⟨off, size⟩, h2, h3⟩ := ob_iff.1 h
    obtain ⟨l, h4, h5⟩ := ob_iff.1 h3
    cases hb : (Nat.beq l.length size && Nat.ble (off + l.length) c.length) <;> rw [hb] at h5 <;> simp only [bq_true, bq_false] at h5
    · cases h5
    · rw [fillA_len h5, setFrom_len]
theorem AReps.rep {l : List AV} {vs : List Value} (h : AReps z l vs) : ∀ n, AReps z (List.replicate n l).flatten (List.replicate n vs).flatten
  | 0 => .nil
  | n + 1 => by
    rw [List.replicate_succ, List.replicate_succ, List.flatten_cons, List.flatten_cons]
    exact h.append (AReps.rep h n)
theorem rep_len {α : Type} (l : List α) (n : Nat) : (List.replicate n l).flatten.length = n * l.length := by simp
theorem made_flat (zs : Array Value) (n : Nat) : (madeCells zs (n * zs.size)).toList = (List.replicate n zs.toList).flatten := by
  rcases Nat.eq_zero_or_pos zs.size with h0 | h0
  · have hz : zs.toList = [] := List.eq_nil_of_length_eq_zero (by simpa using h0)
    rw [h0, Nat.mul_zero, hz]
    simp [madeCells]
  · apply List.ext_getElem?
    intro k
    by_cases hk : k < n * zs.size
    · have hq : k / zs.size < n := Nat.div_lt_of_lt_mul (by rw [Nat.mul_comm]; exact hk)
      have hm : k % zs.size < zs.size := Nat.mod_lt _ h0
      rw [Array.getElem?_toList, made_get _ _ _ hk h0]
      have := flat_get (css := List.replicate n zs.toList) (c := zs.size) (fun u hu => by rw [List.eq_of_mem_replicate hu]; simp) (k := k / zs.size) (us := zs.toList) (by rw [List.getElem?_replicate]; simp [hq]) (q := k % zs.size) (w := zs[k % zs.size]) (by simp [hm])
      rw [Nat.mul_comm, Nat.div_add_mod] at this
      rw [this]
      simp [hm]
    · rw [List.getElem?_eq_none, List.getElem?_eq_none]
      · rw [rep_len]; simp; omega
      · rw [Array.length_toList, size_madeCells]; omega
theorem run_buildSlice_any (w : World) (t e : TypeId) (len : Nat) (parts : Array (Nat × Value)) (cells : Array Value) (ie : TypeInfo) (z : Value)
    (hu : P.underlying t = some (.slice e)) (hie : P.info? e = some ie) (hz : ie.zero = some z) (hsmall : ¬ len * ie.size > 2 ^ 24)
    (h : Instr.fill (fun i => some (i * ie.size, ie.size)) (madeCells z.cells (len * ie.size)) parts.toList = some cells) :
    (Instr.buildSlice t len parts).run P w = .ok (.slice (some ⟨w.heap.size, 0, none⟩) len len) (w.alloc (.cells cells e)) := by
  by_cases hpos : len * ie.size = 0
  · have hm : madeCells z.cells (len * ie.size) = #[] := by rw [hpos]; simp [madeCells, Array.range_zero']
    rw [hm] at h
    simp [Instr.buildSlice, run_underlying hu, sizeOf, typeInfo, hie, hpos, Array.range_zero', h, newRow]
  · exact run_buildSlice w t e len parts cells ie z hu hie hz hsmall hpos h

theorem evBuildSlice_ok {t : TypeId} {len : Nat} {parts : List (Nat × AV)} {vparts : Array (Nat × Value)} {id : Nat} {K : AV → Hp → Option β} {r : β} (h : evBuildSlice P t len parts id H K = some r) (hH : HRep z H) (hd : ¬ z.D id)
    (hp : PReps z parts vparts.toList) : Ok P (Instr.buildSlice t len vparts) z K r := by
  unfold evBuildSlice at h
  split at h
  · rename_i e hu
    obtain ⟨zl, h1, h2⟩ := ob_iff.1 h
    obtain ⟨u, h3, h4⟩ := ob_iff.1 h2
    obtain ⟨h5, h6⟩ := need_iff.1 h4
    obtain ⟨c, h7, h8⟩ := ob_iff.1 h6
    obtain ⟨⟨c', H1⟩, h9, h10⟩ := ob_iff.1 h8
    simp only [Bool.and_eq_true, beq_nat, Nat.ble_eq] at h5
    obtain ⟨h11, h12⟩ := h5
    have h12' : len * u.cells ≤ 16777216 := by rw [← h11]; exact h12
    obtain ⟨t1, t2, _⟩ := ty_ok h3
    obtain ⟨i, v0, q1, q2, q3, q4⟩ := zeroOf_ok (z := z) h1
    have hsz : i.size = u.cells := by rw [t1]; simp [Program.cellsOf, q1]
    have hv0 : v0.cells.size = u.cells := by have := q3.1; simp at this; omega
    have hcell : P.cellsOf e = i.size := by simp [Program.cellsOf, q1]
    have hzero : (madeCells v0.cells (len * i.size)).toList = (List.replicate len v0.cells.toList).flatten := by
      rw [hsz, ← hv0]; exact made_flat _ _
    rw [hcell] at h7
    obtain ⟨cs', p1, p2, p3⟩ := fillA_ok (cs := madeCells v0.cells (len * i.size)) h7 (by rw [hzero]; exact q3.rep len) (fun x hx => by
      have : x ∈ (List.replicate len v0.cells.toList).flatten := by rw [← hzero]; simpa using hx
      obtain ⟨y, hy, hxy⟩ := List.mem_flatten.1 this
      rw [List.eq_of_mem_replicate hy] at hxy
      exact q4 x (by simpa using hxy)) hp.1 hp.2
    obtain ⟨z1, s1, s2, s3, s4, s5⟩ := pureL_ok hH h9 p2
    have hcl : c.length = len * u.cells := by rw [fillA_len h7, rep_len, h11]
    have hc'l : c'.length = len * u.cells := by
      have e1 := s5.1
      have e2 := p2.1
      omega
    obtain ⟨l, css, a1, a2, a3, a4, a5⟩ := asmN_ok (z := z1) (t := u) (c := u.cells) (asm u) (fun h hr hl h1 => asm_ok h hr hl h1) len h10 s5 hc'l (fun v hv => p3 v (by simpa using hv))
    obtain ⟨b1, b2⟩ := newAt_iff.1 a5
    have hcs : cs'.size = len * u.cells := by have := p2.1; simp at this; omega
    obtain ⟨z', d1, d2, d3, d4⟩ := new_rows (z := z1) (w' := z1.w.alloc (.cells cs' e)) (e := e) (l := l) s2 b1 (by rw [s3.dom]; exact hd) (heap_alloc_new _ _) (okF0 _) rfl rfl rfl (fun k hk => heap_alloc_old _ _ _ hk)
      (by rw [a1, hcs]; exact Nat.le_refl _) t2 (by have := RowsIn.css (by rw [a1, a2]) a4 []; rw [List.append_nil, ← a3] at this; exact this)
    refine .mk' (by rw [d1, s1]; exact run_buildSlice_any z.w t e len vparts cs' i v0 hu q1 q2 (by rw [hsz]; omega) p1) d2 (x := .slf u.cells id) ?_ (s3.trans d3) b2
    rw [← s1]
    refine .slf _ _ _ _ _ _ (by rw [d4, a1]) (Nat.le_refl _) (by rw [hcs]; exact Nat.le_refl _) ?_
    have : len ≤ len * u.cells := Nat.le_mul_of_pos_right _ t2
    unfold maxLen
    omega
  · cases h

/-! Bytes of a string -/
theorem freeze_last (w : World) (C : Array Value) (e : TypeId) (k : Nat) : (w.alloc (.cells C e)).freeze ⟨w.heap.size, k, none⟩ 1 = w.alloc (.cells C e (k, k + 1)) := by
  have hm : ∀ (a : Array Obj) (x : Obj) (f : Obj → Obj), (a.push x).modify a.size f = a.push (f x) := by
    intro a x f
    apply Array.ext
    · simp
    · intro i h1 h2
      simp only [Array.getElem_modify, Array.getElem_push]
      by_cases h : a.size = i
      · subst h; simp
      · have hi : i < a.size := by simp at h1; omega
        simp [h, hi]
  unfold World.freeze
  rw [if_neg (by decide)]
  show ({ w.alloc (.cells C e) with heap := (w.heap.push (.cells C e)).modify w.heap.size _ } : World) = _
  rw [hm]
  rfl
theorem shape_last (w : World) (C : Array Value) (e : TypeId) : (w.alloc (.cells C e)).shape? w.heap.size = some (e, C.size) := by
  unfold World.shape?
  rw [heap_alloc_new]
def byteRow (l : List UInt8) (c : Nat) : Array Value := (l.map fun b => Value.int .u8 (b.toNat : Int)).toArray ++ Array.replicate (c - l.length) (.int .u8 0)
theorem run_stringToBytes (w : World) (l : List UInt8) (e : TypeId) : (Conv.stringToBytes e ⟨⟨l⟩⟩).run P w =
    .ok (.slice (some ⟨w.heap.size, 0, none⟩) l.length (grownCap w l.length 0 e)) (w.drew.alloc (.cells (byteRow l (grownCap w l.length 0 e)) e ((byteRow l (grownCap w l.length 0 e)).size, (byteRow l (grownCap w l.length 0 e)).size + 1))) := by
  have hs : (w.drew.alloc (.cells (byteRow l (grownCap w l.length 0 e)) e)).shape? w.heap.size = _ := shape_last w.drew (byteRow l (grownCap w l.length 0 e)) e
  have hf : (w.drew.alloc (.cells (byteRow l (grownCap w l.length 0 e)) e)).freeze ⟨w.heap.size, _, none⟩ 1 = _ := freeze_last w.drew (byteRow l (grownCap w l.length 0 e)) e (byteRow l (grownCap w l.length 0 e)).size
  have hq : (Question.appendCap (⟨⟨l⟩⟩ : ByteArray).size 0 e).cut (w.tape w.drawn (.appendCap (⟨⟨l⟩⟩ : ByteArray).size 0 e)) = grownCap w l.length 0 e := rfl
  have e1 : (List.map (fun b => Value.int IntKind.u8 (b.toNat : Int)) l).toArray ++ Array.replicate (grownCap w l.length 0 e - (⟨⟨l⟩⟩ : ByteArray).size) (Value.int IntKind.u8 0) = byteRow l (grownCap w l.length 0 e) := rfl
  simp [Conv.stringToBytes, newRow, markStringish, Question.forced, hq]
  rw [e1, hs]
  simp [hf]
  rfl
theorem byteRow_in {w : World} {M : Nat → Prop} (l : List UInt8) (c : Nat) : RowsIn w M .byte l (byteRow l c).toList := fun i x hx => by
  refine ⟨[.int .u8 (x.toNat : Int)], rfl, fun j v hj => ?_⟩
  match j with
  | 0 =>
    simp at hj
    have hi : i < l.length := (List.getElem?_eq_some_iff.1 hx).1
    simp only [byteRow, Array.toList_append]
    rw [List.getElem?_append_left (by simp [Ty.cells]; omega)]
    simp [Ty.cells, hx, hj]
  | j + 1 => simp at hj
theorem HRep.same {H' : Hp} (hH : HRep z H) (h1 : ∀ id, hget H' id = hget H id) (h2 : ∀ id, hkey H' id = hkey H id) : HRep z H' :=
  ⟨fun i e hi => hH.ent i e (by rw [← h1]; exact hi), fun i i' e e' a sa na a' sa' na' hii q1 q2 => hH.inj i i' e e' a sa na a' sa' na' hii (by rw [← h1]; exact q1) (by rw [← h1]; exact q2), fun i hi => hH.fresh i (by rw [← h2]; exact hi), hH.sub⟩
theorem HRep.unset {id : Nat} {e : Ent} (hg : hget H id = some e) (hH : HRep z (hset H id (some e))) : HRep z H := by
  refine hH.same (fun k => ?_) fun k => ?_
  · rw [hget_hset]
    by_cases h : k = id
    · subst h; rw [if_pos rfl, hg]
    · rw [if_neg h]
  · rw [hkey_hset]
    by_cases h : k = id
    · subst h; simp [hkey_of_hget hg]
    · simp [h]
/-- The world in which a row of bytes bears its mark. -/
theorem mark_ok {w : World} {g : Nat} {cs : Array Value} {e : TypeId} {fr : Nat × Nat} (h : w.heap[g]? = some (.cells cs e fr)) (hf : okF cs fr) :
    ∃ w' fr', (markStringish ⟨g, 0, none⟩).run P w = .ok () w' ∧ w'.heap[g]? = some (.cells cs e fr') ∧ okF cs fr' ∧ w'.os = w.os ∧ w'.tape = w.tape ∧ w'.output = w.output ∧ w'.heap.size = w.heap.size ∧ ∀ b, b ≠ g → w'.heap[b]? = w.heap[b]? := by
  have hs : w.shape? g = some (e, cs.size) := by unfold World.shape?; rw [h]
  refine ⟨w.freeze ⟨g, cs.size, none⟩ 1, (if fr.1 == fr.2 then (cs.size, cs.size + 1) else (min fr.1 cs.size, max fr.2 (cs.size + 1))), by simp [markStringish, hs], ?_, ?_, rfl, rfl, rfl, ?_, fun b hb => ?_⟩
  · simp [World.freeze, Array.getElem?_modify, h]
  · unfold okF
    rcases hf with hf | hf
    · simp [hf]
    · split
      · simp
      · right; simp only; omega
  · simp [World.freeze]
  · simp [World.freeze, Array.getElem?_modify, Ne.symm hb]
theorem evConvertW_ok {src dst : TypeId} {a : AV} {v : Value} {id : Nat} {K : AV → Hp → Option β} {r : β} (h : evConvertW P src dst a id H K = some r) (hH : HRep z H) (hD : P.underlying src = some .string → ¬ z.D id) (ha : ARep z a v) : Ok P (convert src dst v) z K r := by
  unfold evConvertW at h
  split at h
  · rename_i e hs hd
    cases hb : isB P e <;> rw [hb] at h <;> simp only [bq_true, bq_false] at h
    · cases h
    obtain ⟨l, h1, h2⟩ := ob_iff.1 h
    obtain ⟨h3, h4⟩ := need_iff.1 h2
    obtain ⟨h5, h6⟩ := newAt_iff.1 h4
    rw [Nat.ble_eq] at h3
    obtain rfl := str?_ok h1 ha
    have he := isB_u hb
    have hroom : room = 140737488355328 := rfl
    have hrun : (convert src dst (.string ⟨⟨l⟩⟩)).run P z.w = (Conv.stringToBytes e ⟨⟨l⟩⟩).run P z.w := by
      simp only [convert, Sem.run_bind, run_underlying hs, run_underlying hd, Result.andThen_ok, run_underlying he]
    have hge := grownCap_ge z.w l.length 0 e
    have hbs : (byteRow l (grownCap z.w l.length 0 e)).size = grownCap z.w l.length 0 e := by simp [byteRow]; omega
    obtain ⟨z', p1, p2, p3, p4⟩ := new_rows (z := z) (u := .byte) (w' := z.w.drew.alloc (.cells (byteRow l (grownCap z.w l.length 0 e)) e ((byteRow l (grownCap z.w l.length 0 e)).size, (byteRow l (grownCap z.w l.length 0 e)).size + 1))) (e := e) (l := l) hH h5 (hD hs)
      (heap_alloc_new z.w.drew _) (.inr (Nat.le_refl _)) rfl rfl rfl (fun k hk => heap_alloc_old z.w.drew _ _ hk)
      (by rw [hbs]; simp [Ty.cells]; exact hge) (by decide) (byteRow_in _ _)
    refine .mk' (by rw [p1]; exact hrun.trans (run_stringToBytes z.w l e)) p2 (x := .slf 1 id) ?_ p3 h6
    exact .slf _ _ _ _ _ _ p4 hge (by rw [hbs, Nat.mul_one]; exact Nat.le_refl _) (grownCap_le_maxLen _ _ _ _ (by unfold maxLen; omega))
  · rename_i e0 e hs hd
    split at h
    · rename_i es old
      split at h
      · rename_i e' l hg
        cases hb : (Nat.beq src dst && isB P e && Nat.beq es 1) <;> rw [hb] at h <;> simp only [bq_true, bq_false] at h
        · cases h
        simp only [Bool.and_eq_true, beq_nat] at hb
        obtain ⟨⟨rfl, hB⟩, rfl⟩ := hb
        obtain rfl : e0 = e := by rw [hs] at hd; simpa using hd
        obtain ⟨h1, h2⟩ := need_iff.1 h
        have h1' : 0 < List.length (α := UInt8) l := by simpa [Nat.blt_eq] using h1
        have he := isB_u hB
        cases ha with
        | slfV _ _ A hρ =>
          obtain ⟨rfl, _⟩ := hH.virt hg hρ
          exact absurd h1' (Nat.lt_irrefl _)
        | slf _ _ g sz n c hρ hn hs' hm =>
          obtain ⟨b1, b2, b3, b4⟩ := hH.real hg hρ
          obtain ⟨cs, fr, a1, a2, a3, a4, a5, a6, a7⟩ := b4
          obtain ⟨w', fr', m1, m2, m3, m4, m5, m6, m7, m8⟩ := mark_ok (P := P) a1 a2
          obtain ⟨p1, p2⟩ := hH.write (w' := w') (b := .rows e' .byte l) hg hρ m4 m5 m6 m7 m8 (fun k => by
            refine ⟨cs, fr', m2, m3, a3, a4, a5, a6, fun i x hx => ?_⟩
            obtain ⟨u, c1, c2⟩ := a7 i x hx
            exact ⟨u, c1.kp k, c2⟩)
          refine .mk' (z' := { z with w := w' }) ?_ (p1.unset hg) (x := .slf 1 old) (.slf _ _ _ _ _ _ hρ hn hs' hm) p2 h2
          simp only [convert, Sem.run_bind, run_underlying hs, run_underlying hd, Result.andThen_ok, run_underlying he, beq_self_eq_true, m1]
          rfl
      · cases h
    · cases h
  · cases h
end
end Go.Ab

/- append. -/
namespace Go.Ab

section
variable {P : Program} {β : Type} {z : Z} {H : Hp}
/-- A block goes on under another number, with another content. -/
theorem HRep.move {old id g sz n n' : Nat} {b0 b : Blk} {w' : World} (hH : HRep z H) (hg : hget H old = some ⟨false, b0⟩) (hρ : z.ρ old = .real g sz n) (hk : hkey (hset H old none) id = false) (hd : ¬ z.D id)
    (hos : w'.os = z.w.os) (htape : w'.tape = z.w.tape) (hout : w'.output = z.w.output) (hsz : w'.heap.size = z.w.heap.size) (hne : ∀ b, b ≠ g → w'.heap[b]? = z.w.heap[b]?)
    (hb : ∀ z', z'.w = w' → Kp z z' → BRep z' g sz n' b) :
    ∃ z', z'.w = w' ∧ HRep z' (hset (hset H old none) id (some ⟨false, b⟩)) ∧ Nx z z' ∧ z'.ρ id = .real g sz n' := by
  have hC := (hH.real hg hρ).2.1 rfl
  rw [hkey_hset] at hk
  simp only [Bool.or_eq_false_iff, decide_eq_false_iff_not] at hk
  have hno := (hH.fresh id hk.2).resolve_right hd
  let z' : Z := { z with w := w', ρ := fun i => if i = id then .real g sz n' else z.ρ i }
  have e1 : ∀ i, i ≠ id → z'.ρ i = z.ρ i := fun i hi => if_neg hi
  have e2 : z'.ρ id = .real g sz n' := if_pos rfl
  have hn : Nx z z' := ⟨hos, htape, hout, Nat.le_of_eq hsz.symm, fun b _ hb => hne b (fun h => hb (h ▸ hC)), fun _ h => .inl h, fun _ h => .inl h, fun _ _ h _ => h, fun i hi => e1 i (by rintro rfl; exact hi hno), rfl⟩
  have hkp := hn.kp hH.sub
  have hold : ∀ i e, i ≠ id → hget (hset (hset H old none) id (some ⟨false, b⟩)) i = some e → hget H i = some e ∧ i ≠ old := fun i e hi h => by
    rw [hget_hset, if_neg hi, hget_hset] at h
    by_cases ho : i = old
    · rw [if_pos ho] at h; cases h
    · rw [if_neg ho] at h; exact ⟨h, ho⟩
  refine ⟨z', rfl, ⟨fun i e hi => ?_, fun i i' e e' a sa na a' sa' na' hii h1 h2 m1 m2 h3 h4 => ?_, fun i hi => ?_, hH.sub⟩, hn, e2⟩
  · by_cases h : i = id
    · subst h
      rw [hget_hset, if_pos rfl] at hi
      injection hi with hi
      subst hi
      unfold ERep
      rw [e2]
      exact ⟨by show g < w'.heap.size; rw [hsz]; exact (hH.real hg hρ).1, fun _ => hC, (fun h => by cases h), hb z' rfl hkp⟩
    · obtain ⟨hi, ho⟩ := hold i e h hi
      refine (hH.ent _ _ hi).kp hkp fun a sa na ha => ⟨hne a (fun hag => ?_), fun h => h⟩
      subst hag
      exact hH.ne ho hi hg rfl ha hρ rfl
  · by_cases hi : i = id
    · have hi' : i' ≠ id := fun h => hii (hi.trans h.symm)
      obtain ⟨h2, ho⟩ := hold i' e' hi' h2
      rw [hi, e2] at h3
      rw [e1 _ hi'] at h4
      injection h3 with h3
      subst h3
      exact hH.inj old i' _ _ _ _ _ _ _ _ (Ne.symm ho) hg h2 rfl m2 hρ h4
    · obtain ⟨h1, ho⟩ := hold i e hi h1
      rw [e1 _ hi] at h3
      by_cases hi' : i' = id
      · rw [hi', e2] at h4
        injection h4 with h4
        subst h4
        exact hH.inj i old _ _ _ _ _ _ _ _ ho h1 hg m1 rfl h3 hρ
      · obtain ⟨h2, ho'⟩ := hold i' e' hi' h2
        rw [e1 _ hi'] at h4
        exact hH.inj i i' _ _ _ _ _ _ _ _ hii h1 h2 m1 m2 h3 h4
  · rw [hkey_hset, hkey_hset] at hi
    simp at hi
    rw [e1 _ hi.1]
    exact hH.fresh i hi.2.2

theorem RowsIn.append {w : World} {M : Nat → Prop} {u : Ty} {l m : List u.den} {cs cs' : List Value} {css : List (List Value)} (h : RowsIn w M u l cs) (hl : css.length = m.length)
    (hm : ∀ (i : Nat) e us, m[i]? = some e → css[i]? = some us → Cl w M u e us) (h1 : ∀ q, q < l.length * u.cells → cs'[q]? = cs[q]?) (h2 : ∀ q v, css.flatten[q]? = some v → cs'[l.length * u.cells + q]? = some v) :
    RowsIn w M u (l ++ m) cs' := fun i x hx => by
  by_cases hi : i < l.length
  · rw [List.getElem?_append_left hi] at hx
    obtain ⟨us, a1, a2⟩ := h i x hx
    refine ⟨us, a1, fun j v hj => ?_⟩
    have hjl : j < u.cells := by
      have := (List.getElem?_eq_some_iff.1 hj).1
      rw [a1.len] at this; exact this
    rw [h1 _ (mul_lt hi hjl)]
    exact a2 j v hj
  · rw [List.getElem?_append_right (by omega)] at hx
    obtain ⟨us, a1, a2⟩ := RowsIn.css hl hm [] _ x hx
    refine ⟨us, a1, fun j v hj => ?_⟩
    have := a2 j v hj
    rw [List.append_nil] at this
    have := h2 _ _ this
    rw [← this]
    congr 1
    obtain ⟨d, hd⟩ : ∃ d, i = l.length + d := ⟨i - l.length, by omega⟩
    subst hd
    rw [Nat.add_sub_cancel_left, Nat.add_mul]
    omega
theorem RowsIn.take {w : World} {M : Nat → Prop} {u : Ty} {l : List u.den} {cs : List Value} (h : RowsIn w M u l cs) (n : Nat) : RowsIn w M u (l.take n) cs := fun i x hx => by
  rw [List.getElem?_take] at hx
  split at hx
  · exact h i x hx
  · cases hx

theorem addr0 (b o j : Nat) : (⟨b, o, none⟩ : Addr).add j = ⟨b, o + j, none⟩ := by unfold Addr.add; split <;> simp_all
/-- What is appended. -/
theorem RowsRep.src {u : Ty} {m : List u.den} {v : Value} {tx : TypeId} (hk : (∃ e', P.underlying tx = some (.slice e')) ∨ P.underlying tx = some .string) (h : RowsRep z u m v) :
    ∃ css : List (List Value), Src P u.cells tx v m.length css.flatten z.w ∧ css.length = m.length ∧ ∀ (i : Nat) e us, m[i]? = some e → css[i]? = some us → Cl z.w z.M u e us := by
  rcases h with ⟨hu, rfl⟩ | ⟨A, c, rfl, hc, hm, hA⟩
  · subst hu
    refine ⟨m.map fun b => [Value.int .u8 (b.toNat : Int)], ?_, by simp, fun i e us h1 h2 => ?_⟩
    · have e1 : (List.map (fun b : UInt8 => [Value.int .u8 (b.toNat : Int)]) m).flatten = byteCells ⟨⟨m⟩⟩ := by
        show _ = List.map _ m
        generalize (m : List UInt8) = q
        induction q with
        | nil => rfl
        | cons b q ih => simp [ih]
      rw [e1]
      exact ⟨hk, fun _ => rfl, firstCells_string ⟨⟨m⟩⟩ z.w, firstCells_string ⟨⟨m⟩⟩ z.w.drew, by rw [byteCells_length]; simp [Ty.cells]; rfl, fun u hu => by
        obtain ⟨_, _, rfl⟩ := List.mem_map.1 hu
        rfl⟩
    · rw [List.getElem?_map] at h2
      obtain ⟨b, h3, rfl⟩ := Option.map_eq_some_iff.1 h2
      have : some e = some b := h1.symm.trans h3
      injection this with this
      subst this
      rfl
  · by_cases h0 : m.length = 0
    · obtain rfl : m = [] := List.eq_nil_of_length_eq_zero h0
      refine ⟨[], ⟨hk, fun _ => rfl, ?_, ?_, by simp, fun _ h => by cases h⟩, rfl, fun i e us h => by simp at h⟩
      · cases A with
        | none => exact run_firstCells_none z.w u.cells 0 0 c
        | some a => exact run_firstCells_some z.w u.cells 0 a 0 c [] (by simp) (fun j v h => by simp at h)
      · cases A with
        | none => exact run_firstCells_none z.w.drew u.cells 0 0 c
        | some a => exact run_firstCells_some z.w.drew u.cells 0 a 0 c [] (by simp) (fun j v h => by simp at h)
    · obtain ⟨b, off, rfl, _, hr⟩ := hA h0
      obtain ⟨css, q1, q2, q3⟩ := hr.cells
      have hl : css.flatten.length = m.length * u.cells := by rw [flatten_len (n := u.cells) (rows_len q1 q2), q1]
      have hcell : ∀ j v, css.flatten[j]? = some v → z.w.cell? ((⟨b, off, none⟩ : Addr).add j) = some v := fun j v hj => by rw [addr0]; exact q3 j v hj
      refine ⟨css, ⟨hk, fun _ => rfl, run_firstCells_some z.w u.cells _ _ _ _ _ hl hcell, run_firstCells_some z.w.drew u.cells _ _ _ _ _ hl hcell, hl, fun v hv => ?_⟩, q1, q2⟩
      obtain ⟨us, h1, h2⟩ := List.mem_flatten.1 hv
      obtain ⟨k, hk⟩ := List.getElem?_of_mem h1
      obtain ⟨e, he⟩ := get_of_len (l := m) q1 hk
      exact (q2 k e us he hk).one v h2
theorem zlen_ok {e : TypeId} {n : Nat} (h : zlen P e n = true) : ∃ i v, P.info? e = some i ∧ i.zero = some v ∧ v.cells.size = n := by
  unfold zlen at h
  split at h
  · rename_i i hi
    split at h
    · rename_i v hv
      rw [beq_nat] at h
      exact ⟨i, v, hi, hv, h⟩
    · cases h
  · cases h
theorem roomOk_ok {e : TypeId} {n : Nat} {i : TypeInfo} (h : roomOk P e n = true) (hi : P.info? e = some i) : n * i.bytes ≤ 140737488355328 ∧ n ≤ 140737488355328 := by
  unfold roomOk at h
  simp only [Bool.and_eq_true, Nat.ble_eq] at h
  have hb : P.bytesOf e = i.bytes := by simp [Program.bytesOf, hi]
  rw [hb] at h
  exact h

/-- Onto nothing. -/
theorem append_none {t tx ty e : TypeId} {A : Option Addr} {u : Ty} {m : List u.den} {x : Value} {id : Nat} {K : AV → Hp → Option β} {r : β} (hH : HRep z H) (hk : hkey H id = false) (hd : ¬ z.D id) (hu : P.underlying t = some (.slice e))
    (hc : u.cells = P.cellsOf e) (hc0 : 0 < u.cells) (hz : zlen P e u.cells = true) (hroom : roomOk P e m.length = true)
    (hkd : (∃ e', P.underlying tx = some (.slice e')) ∨ P.underlying tx = some .string) (hx : RowsRep z u m x) (h : K (.slf u.cells id) (hset H id (some ⟨false, .rows e u m⟩)) = some r) :
    Ok P (Builtin.append_ #[t, tx] ty #[.slice A 0 0, x]) z K r := by
  obtain ⟨i, v, q1, q2, q3⟩ := zlen_ok hz
  obtain ⟨r1, r2⟩ := roomOk_ok hroom q1
  have hsz : i.size = u.cells := by rw [hc]; simp [Program.cellsOf, q1]
  obtain ⟨css, s1, s2, s3⟩ := hx.src hkd
  rcases Nat.eq_zero_or_pos m.length with h0 | h0
  · obtain rfl : m = [] := List.eq_nil_of_length_eq_zero h0
    obtain rfl : css = [] := List.eq_nil_of_length_eq_zero s2
    obtain ⟨z', p1, p2, p3, p4⟩ := hH.newV (b := .rows e u []) hk hd ⟨rfl, hc0⟩
    exact .mk' (by rw [p1]; exact run_append_nothing z.w t tx ty e i hu q1 A 0 0 (Nat.le_refl _) x (by rw [hsz]; exact s1)) p2 (.slfV _ _ A p4) p3 h
  · have hge := grownCap_ge z.w m.length 0 e
    have hrun := run_append_grow_src (P := P) z.w t tx ty e i v hu q1 q2 A 0 0 [] (by cases A with
      | none => exact run_firstCells_none z.w.drew i.size 0 0 0
      | some a => exact run_firstCells_some z.w.drew i.size 0 a 0 0 [] (by simp) (fun j v h => by simp at h)) x m.length css.flatten (by rw [hsz]; exact s1) (by omega) (by omega) (growslice_fits (by omega) (by rw [Nat.zero_add]; exact r1))
    rw [Nat.zero_add, List.nil_append] at hrun
    have hcs : (css.flatten.toArray ++ Builtin.zeroCells v.cells (grownCap z.w m.length 0 e - m.length)).size = grownCap z.w m.length 0 e * u.cells := by
      rw [Array.size_append, size_zeroCells, q3, List.size_toArray, flatten_len (n := u.cells) (rows_len s2 s3), s2, ← Nat.add_mul]
      congr 1
      omega
    obtain ⟨z', p1, p2, p3, p4⟩ := new_rows (z := z) (w' := z.w.drew.alloc (.cells (css.flatten.toArray ++ Builtin.zeroCells v.cells (grownCap z.w m.length 0 e - m.length)) e)) (e := e) (l := m) hH hk hd
      (heap_alloc_new z.w.drew _) (okF0 _) rfl rfl rfl (fun k hk => heap_alloc_old z.w.drew _ _ hk) (by rw [hcs]; exact Nat.mul_le_mul_right _ hge) hc0 (by
        rw [Array.toList_append]
        exact RowsIn.css s2 s3 _)
    exact .mk' (by rw [p1]; exact hrun) p2 (.slf _ _ _ _ _ _ p4 hge (by rw [hcs]; exact Nat.le_refl _) (grownCap_le_maxLen _ _ _ _ (by unfold maxLen; omega))) p3 h
/-- Onto a row of the call's own. -/
theorem append_own {t tx ty e : TypeId} {u : Ty} {l m : List u.den} {L : List u.den} {x : Value} {id old g sz n c : Nat} {K : AV → Hp → Option β} {r : β} (hH : HRep z H) (hg : hget H old = some ⟨false, .rows e u L⟩) (hρ : z.ρ old = .real g sz n)
    (hk : hkey (hset H old none) id = false) (hd : ¬ z.D id) (hu : P.underlying t = some (.slice e)) (hl : ∃ k, l = L.take k) (hlc : l.length ≤ c) (hcs : c * u.cells ≤ sz) (hcm : c ≤ maxLen)
    (hc : u.cells = P.cellsOf e) (hc0 : 0 < u.cells) (hz : zlen P e u.cells = true) (hroom : roomOk P e (l.length + m.length) = true)
    (hkd : (∃ e', P.underlying tx = some (.slice e')) ∨ P.underlying tx = some .string) (hx : RowsRep z u m x) (h : K (.slf u.cells id) (hset (hset H old none) id (some ⟨false, .rows e u (l ++ m)⟩)) = some r) :
    Ok P (Builtin.append_ #[t, tx] ty #[.slice (some ⟨g, 0, none⟩) l.length c, x]) z K r := by
  obtain ⟨i, v, q1, q2, q3⟩ := zlen_ok hz
  obtain ⟨r1, r2⟩ := roomOk_ok hroom q1
  have hsz : i.size = u.cells := by rw [hc]; simp [Program.cellsOf, q1]
  obtain ⟨css, s1, s2, s3⟩ := hx.src hkd
  have hfl : css.flatten.length = m.length * u.cells := by rw [flatten_len (n := u.cells) (rows_len s2 s3), s2]
  obtain ⟨_, _, _, cs, fr, a1, a2, a3, a4, a5, a6, a7⟩ := hH.real hg hρ
  obtain ⟨k, hk'⟩ := hl
  have hin : RowsIn z.w z.M u l cs.toList := by
    rw [hk']
    refine RowsIn.take (fun i x hx => ?_) k
    obtain ⟨us, b1, b2⟩ := a7 i x hx
    exact ⟨us, b1, fun j v hj => by simpa using b2 j v hj⟩
  have hlsz : l.length * u.cells ≤ c * u.cells := Nat.mul_le_mul_right _ hlc
  rcases Nat.lt_or_ge c (l.length + m.length) with hlt | hge
  · have hgc := grownCap_ge z.w (l.length + m.length) c e
    have holds : ∀ j v, (cs.toList.take (l.length * u.cells))[j]? = some v → z.w.cell? ((⟨g, 0, none⟩ : Addr).add j) = some v := fun j v hj => by
      rw [addr0, cell_heap a1, Nat.zero_add]
      rw [List.getElem?_take] at hj
      split at hj
      · simpa using hj
      · cases hj
    have hol : (cs.toList.take (l.length * u.cells)).length = l.length * u.cells := by rw [List.length_take, Array.length_toList (xs := cs)]; omega
    have hrun := run_append_grow_src (P := P) z.w t tx ty e i v hu q1 q2 (some ⟨g, 0, none⟩) l.length c (cs.toList.take (l.length * u.cells)) (by
      rw [hsz]
      exact run_firstCells_some z.w.drew _ _ _ _ _ _ hol holds) x m.length css.flatten (by rw [hsz]; exact s1) hlt (by omega) (growslice_fits hlt r1)
    have hcs' : ((cs.toList.take (l.length * u.cells) ++ css.flatten).toArray ++ Builtin.zeroCells v.cells (grownCap z.w (l.length + m.length) c e - (l.length + m.length))).size = grownCap z.w (l.length + m.length) c e * u.cells := by
      rw [Array.size_append, size_zeroCells, q3, List.size_toArray, List.length_append, hol, hfl, ← Nat.add_mul, ← Nat.add_mul]
      congr 1
      omega
    obtain ⟨z', p1, p2, p3, p4⟩ := new_rows (z := z) (w' := z.w.drew.alloc (.cells ((cs.toList.take (l.length * u.cells) ++ css.flatten).toArray ++ Builtin.zeroCells v.cells (grownCap z.w (l.length + m.length) c e - (l.length + m.length))) e)) (e := e) (l := l ++ m) (hH.kill old) hk hd
      (heap_alloc_new z.w.drew _) (okF0 _) rfl rfl rfl (fun k hk => heap_alloc_old z.w.drew _ _ hk) (by rw [hcs', List.length_append]; exact Nat.mul_le_mul_right _ hgc) hc0 (by
        refine hin.append s2 s3 (fun q hq => ?_) fun q v hq => ?_
        · rw [Array.toList_append, List.getElem?_append_left (by show _ < (cs.toList.take (l.length * u.cells) ++ css.flatten).length; rw [List.length_append, hol, hfl]; omega)]
          rw [List.getElem?_append_left (by rw [hol]; exact hq), List.getElem?_take_of_lt hq]
        · have hq' := (List.getElem?_eq_some_iff.1 hq).1
          rw [Array.toList_append, List.getElem?_append_left (by show _ < (cs.toList.take (l.length * u.cells) ++ css.flatten).length; rw [List.length_append, hol, hfl]; omega)]
          rw [List.getElem?_append_right (by rw [hol]; omega), hol, Nat.add_sub_cancel_left]
          exact hq)
    refine .mk' (by rw [p1]; exact hrun) p2 (.slf _ _ _ _ _ _ (by rw [p4, List.length_append]) hgc (by rw [hcs']; exact Nat.le_refl _) (grownCap_le_maxLen _ _ _ _ (by unfold maxLen; omega))) p3 h
  · have hfit : l.length * u.cells + m.length * u.cells ≤ cs.size := by
      have : (l.length + m.length) * u.cells ≤ c * u.cells := Nat.mul_le_mul_right _ hge
      rw [Nat.add_mul] at this
      omega
    have hth := there_of (o := 0 + l.length * i.size) (n := css.flatten.length) a1 a2 (by rw [hsz, hfl]; omega)
    have hrun := run_append_room_src (P := P) z.w t tx ty e i hu q1 g 0 l.length c x m.length css.flatten (by rw [hsz]; exact s1) hge (fun j hj => (hth j hj).1) (fun j hj => (hth j hj).2)
    obtain ⟨w1, w2, w3, w4⟩ := setCells_same css.flatten z.w g (0 + l.length * i.size)
    obtain ⟨z', p1, p2, p3, p4⟩ := hH.move (n' := (l ++ m).length) (b := .rows e u (l ++ m)) hg hρ hk hd w2 w3 w4 w1 (fun b hb => heap_setCells_ne _ _ _ _ _ hb) (fun z' hz kk => by
      refine ⟨_, fr, (by rw [hz]; exact heap_setCells_at _ _ _ _ _ _ _ a1), okF_set a2 (setArr_size _ _ _), by rw [setArr_size]; exact a3, rfl, ?_, a6, ?_⟩
      · rw [List.length_append, Nat.add_mul]; omega
      · have := (hin.append (cs' := (setArr cs (0 + l.length * i.size) css.flatten).toList) s2 s3 (fun q hq => ?_) fun q v hq => ?_).kp kk
        · intro i x hx
          obtain ⟨us, b1, b2⟩ := this i x hx
          exact ⟨us, b1, fun j v hj => by simpa using b2 j v hj⟩
        · rw [hsz, Array.getElem?_toList, setArr_get _ _ _ _ (by omega), if_neg (by omega)]
          simp
        · have hq' := (List.getElem?_eq_some_iff.1 hq).1
          rw [hsz, Array.getElem?_toList, setArr_get _ _ _ _ (by omega), if_pos (by omega), ← hq]
          congr 1
          omega)
    have hv : ARep z' (.slf u.cells id) (.slice (some ⟨g, 0, none⟩) (l.length + m.length) c) := by
      have := ARep.slf (z := z') u.cells id g sz (l ++ m).length c p4 (by rw [List.length_append]; exact hge) hcs hcm
      rwa [List.length_append] at this
    exact .mk' (by rw [p1]; exact hrun) p2 hv p3 h
theorem evAppend_ok {t tx : TypeId} (ty : TypeId) {a ax : AV} {v vx : Value} {id : Nat} {K : AV → Hp → Option β} {r : β} (h : evAppend P t a ax id H K = some r) (hH : HRep z H) (hd : ¬ z.D id) (ha : ARep z a v) (hx : ARep z ax vx)
    (hkd : (∃ e', P.underlying tx = some (.slice e')) ∨ P.underlying tx = some .string) : Ok P (Builtin.append_ #[t, tx] ty #[v, vx]) z K r := by
  unfold evAppend at h
  split at h
  · rename_i e hu
    obtain ⟨u, h1, h2⟩ := ob_iff.1 h
    obtain ⟨t1, t2, _⟩ := ty_ok h1
    obtain ⟨m, hm, h3⟩ := rowsOf_ok h2 hH hx
    split at h3
    · obtain rfl := ha.v.opq.1
      obtain ⟨h4, h5⟩ := need_iff.1 h3
      obtain ⟨h6, h7⟩ := newAt_iff.1 h5
      rw [Bool.and_eq_true] at h4
      exact append_none hH h6 hd hu t1 t2 h4.1 h4.2 hkd hm h7
    · rename_i es old
      split at h3
      · rename_i e' t' l hg
        rcases dq_iff h3 with ⟨rfl, h4⟩ | h4
        · obtain ⟨h5, h6⟩ := need_iff.1 h4
          obtain ⟨h7, h8⟩ := newAt_iff.1 h6
          simp only [Bool.and_eq_true, beq_nat] at h5
          obtain ⟨⟨⟨h9, rfl⟩, rfl⟩, h10⟩ := h5
          cases ha with
          | slfV _ _ A hρ =>
            obtain ⟨rfl, _⟩ := hH.virt hg hρ
            exact append_none (hH.kill old) h7 hd hu t1 t2 h9 (by simpa using h10) hkd hm h8
          | slf _ _ g sz n c hρ hn hs hm' =>
            have hl : l.length = n := by obtain ⟨_, _, _, cs, fr, a1, a2, a3, a4, _⟩ := hH.real hg hρ; exact a4
            subst hl
            exact append_own hH hg hρ h7 hd hu ⟨l.length, (List.take_length).symm⟩ hn hs hm' t1 t2 h9 h10 hkd hm h8
        · cases h4
      · cases h3
    · rename_i es old n
      split at h3
      · rename_i e' t' l hg
        rcases dq_iff h3 with ⟨rfl, h4⟩ | h4
        · obtain ⟨h5, h6⟩ := need_iff.1 h4
          obtain ⟨h7, h8⟩ := newAt_iff.1 h6
          simp only [Bool.and_eq_true, beq_nat, Nat.ble_eq] at h5
          obtain ⟨⟨⟨⟨h9, rfl⟩, rfl⟩, h11⟩, h10⟩ := h5
          have hz : ∀ {q : List t'.den}, q = [] → (l.take 0 ++ q) = q := fun _ => by simp
          cases ha with
          | slV _ _ _ A hρ =>
            exact append_none (hH.kill old) h7 hd hu t1 t2 h9 (by simpa using h10) hkd hm (by simpa using h8)
          | slE _ _ _ g sz m' o hρ =>
            exact append_none (hH.kill old) h7 hd hu t1 t2 h9 (by simpa using h10) hkd hm (by simpa using h8)
          | sl _ _ _ _ g sz m' c hρ hn hs hm' =>
            have hl : (l.take n).length = n := by rw [List.length_take]; omega
            rw [Nat.zero_add] at hs
            rw [Nat.zero_mul]
            have := append_own (l := l.take n) (x := vx) (tx := tx) (ty := ty) (c := c) hH hg hρ h7 hd hu ⟨n, rfl⟩ (by rw [hl]; exact hn) hs hm' t1 t2 h9 (by rw [hl]; exact h10) hkd hm h8
            rwa [hl] at this
        · cases h4
      · cases h3
    · cases h3
  · cases h
end
end Go.Ab

/- append of zeros, copy. -/
namespace Go.Ab

section
variable {P : Program} {β : Type} {z : Z} {H : Hp}
theorem run_appendZ (w : World) (t tx ty e : TypeId) (i : TypeInfo) (zv : Value) (k kx : IntKind) (ht : P.underlying t = some (.slice e)) (hk : P.underlying tx = some (.int k)) (hi : P.info? e = some i) (hz : i.zero = some zv)
    (x : Int) (n : Nat) (hx : x = (n : Int)) (h0 : n ≠ 0) (hn : n ≤ 140737488355328) (hb : n * i.bytes ≤ 140737488355328) (hs : n * i.size ≠ 0) :
    (Builtin.append_ #[t, tx] ty #[.slice none 0 0, .int kx x]).run P w =
      .ok (.slice (some ⟨w.heap.size, 0, none⟩) n (grownCap w n 0 e)) (w.drew.alloc (.cells (Builtin.zeroCells zv.cells n ++ Builtin.zeroCells zv.cells (grownCap w n 0 e - n)) e)) := by
  subst hx
  have hw : IntKind.i64.wrap (n : Int) = (n : Int) := by rw [IntKind.wrap_i64]; omega
  have n1 : ¬ ((n : Int) < 0) := by omega
  have n2 : ¬ (281474976710656 < (n : Int) * (i.bytes : Int)) := by
    have : ((n * i.bytes : Nat) : Int) ≤ 140737488355328 := by omega
    rw [Int.natCast_mul] at this
    omega
  have n3 : ¬ (9223372036854775807 < (n : Int)) := by omega
  have n4 : ¬ (281474976710656 < Builtin.nextslicecap n 0 * i.bytes) := by rw [nextslicecap_zero (by omega)]; omega
  simp [Builtin.append_, run_underlying ht, run_underlying hk, sizeOf, typeInfo, zeroValue, hi, hz, asInt, asIntOf, hw, n1, n2, n3, n4, h0, Question.forced, run_firstCells_none, newRow, grownCap]
  exact fun h => absurd h hs
theorem run_appendZ0 (w : World) (t tx ty e : TypeId) (i : TypeInfo) (k kx : IntKind) (ht : P.underlying t = some (.slice e)) (hk : P.underlying tx = some (.int k)) (hi : P.info? e = some i) :
    (Builtin.append_ #[t, tx] ty #[.slice none 0 0, .int kx 0]).run P w = .ok (.slice none 0 0) w := by
  have hw : IntKind.i64.wrap 0 = 0 := by rw [IntKind.wrap_i64]; omega
  simp [Builtin.append_, run_underlying ht, run_underlying hk, sizeOf, typeInfo, hi, asInt, asIntOf, hw]
theorem zero_made (z : Array Value) (n : Nat) : Builtin.zeroCells z n = madeCells z (n * z.size) := rfl
theorem evAppendZ_ok {t tx : TypeId} (ty : TypeId) {a ax : AV} {v vx : Value} {id : Nat} {k : IntKind} {K : AV → Hp → Option β} {r : β} (h : evAppendZ P t a ax id H K = some r) (hH : HRep z H) (hd : ¬ z.D id) (ha : ARep z a v) (hx : ARep z ax vx)
    (hk : P.underlying tx = some (.int k)) : Ok P (Builtin.append_ #[t, tx] ty #[v, vx]) z K r := by
  unfold evAppendZ at h
  split at h
  · rename_i e hu
    obtain ⟨u, h1, h2⟩ := ob_iff.1 h
    obtain ⟨h3, h4⟩ := need_iff.1 h2
    obtain ⟨n, h5, h6⟩ := ob_iff.1 h4
    obtain ⟨m, h7, h8⟩ := Option.bind_eq_some_iff.1 h6
    obtain ⟨t1, t2, _⟩ := ty_ok h1
    split at h8
    · obtain ⟨h9, h10⟩ := need_iff.1 h8
      obtain ⟨h11, h12⟩ := newAt_iff.1 h10
      obtain rfl := ha.v.opq.1
      obtain ⟨i, zv, q1, q2, q3⟩ := zeroOk_ok h3
      obtain ⟨r1, r2⟩ := roomOk_ok h9 q1
      obtain ⟨c1, c2⟩ := (q3 z.w z.M).cells
      have hsz : i.size = u.cells := by rw [t1]; simp [Program.cellsOf, q1]
      have hzs : zv.cells.size = u.cells := by simpa using c1.len
      obtain ⟨kx, rfl⟩ := any?_ok h5 hx
      unfold upto? at h7
      split at h7
      · rename_i hm
        simp only [Option.some.injEq] at h7
        rcases Nat.eq_zero_or_pos m with h0 | h0
        · subst h0
          obtain rfl : n = 0 := by omega
          obtain ⟨z', p1, p2, p3, p4⟩ := hH.newV (b := .rows e u []) h11 hd ⟨rfl, t2⟩
          exact .mk' (by rw [p1]; exact run_appendZ0 z.w t tx ty e i k kx hu hk q1) p2 (.slfV _ _ none p4) p3 h12
        · have hge := grownCap_ge z.w m 0 e
          have hrun := run_appendZ (P := P) z.w t tx ty e i zv k kx hu hk q1 q2 n m (by omega) (by omega) r2 r1 (by rw [hsz]; exact Nat.mul_ne_zero (by omega) (by omega))
          obtain ⟨z', p1, p2, p3, p4⟩ := new_rows (z := z) (w' := z.w.drew.alloc (.cells (Builtin.zeroCells zv.cells m ++ Builtin.zeroCells zv.cells (grownCap z.w m 0 e - m)) e)) (e := e) (l := List.replicate m u.zero) hH h11 hd
            (heap_alloc_new z.w.drew _) (okF0 _) rfl rfl rfl (fun k hk => heap_alloc_old z.w.drew _ _ hk) (by
              rw [List.length_replicate, Array.size_append, size_zeroCells, hzs]
              exact Nat.le_add_right _ _) t2 (fun i x hx => by
              obtain ⟨us, b1, b2⟩ := RowsIn.made c1 m m (Nat.le_refl _) t2 i x hx
              refine ⟨us, b1, fun j v hj => ?_⟩
              have := b2 j v hj
              rw [Array.toList_append, List.getElem?_append_left (by
                have := (List.getElem?_eq_some_iff.1 this).1
                simp only [Array.length_toList, size_madeCells] at this
                rw [Array.length_toList, size_zeroCells, hzs]
                exact this), zero_made, hzs]
              exact this)
          refine .mk' (by rw [p1]; exact hrun) p2 (.slf _ _ _ _ _ _ (by rw [p4, List.length_replicate]) hge ?_ (grownCap_le_maxLen _ _ _ _ (by unfold maxLen; omega))) p3 h12
          rw [Array.size_append, size_zeroCells, size_zeroCells, hzs, ← Nat.add_mul]
          exact Nat.mul_le_mul_right _ (by omega)
      · cases h7
    · cases h8
  · cases h

/-! copy -/
theorem RowsRep.first {u : Ty} {m : List u.den} {v : Value} (h : RowsRep z u m v) (k : Nat) (hk : k ≤ m.length) :
    ∃ css : List (List Value), (Builtin.firstCells u.cells k v).run P z.w = .ok css.flatten.toArray z.w ∧ css.length = k ∧ ∀ (i : Nat) e us, (m.take k)[i]? = some e → css[i]? = some us → Cl z.w z.M u e us := by
  rcases h with ⟨hu, rfl⟩ | ⟨A, c, rfl, hc, hm, hA⟩
  · subst hu
    have hml : (m.take k).length = k := by rw [List.length_take]; omega
    refine ⟨(m.take k).map fun b => [Value.int .u8 (b.toNat : Int)], ?_, by rw [List.length_map, hml], fun i e us h1 h2 => ?_⟩
    · have e1 : (List.map (fun b : UInt8 => [Value.int .u8 (b.toNat : Int)]) (m.take k)).flatten = byteCells ⟨⟨m.take k⟩⟩ := by
        show _ = List.map _ (m.take k)
        generalize (m.take k : List UInt8) = q
        induction q with
        | nil => rfl
        | cons b q ih => simp [ih]
      rw [e1]
      simp only [Builtin.firstCells, Sem.run_pure]
      congr 1
      apply Array.ext'
      simp only [byteCells, Array.toList_map]
      congr 1
      simp [Ty.toL, ByteArray.extract, ByteArray.copySlice]
    · rw [List.getElem?_map] at h2
      obtain ⟨b, h3, rfl⟩ := Option.map_eq_some_iff.1 h2
      have : some e = some b := h1.symm.trans h3
      injection this with this
      subst this
      rfl
  · by_cases h0 : k = 0
    · subst h0
      refine ⟨[], ?_, rfl, fun i e us h => by simp at h⟩
      cases A with
      | none => exact run_firstCells_none z.w u.cells 0 _ c
      | some a => exact run_firstCells_some z.w u.cells 0 a _ c [] (by simp) (fun j v h => by simp at h)
    · obtain ⟨b, off, rfl, _, hr⟩ := hA (by omega)
      have hr' := hr.sub 0 k
      rw [Nat.zero_mul, Nat.add_zero, List.drop_zero] at hr'
      obtain ⟨css, q1, q2, q3⟩ := hr'.cells
      have hml : (m.take k).length = k := by rw [List.length_take]; omega
      have hl : css.flatten.length = k * u.cells := by rw [flatten_len (n := u.cells) (rows_len q1 q2), q1, hml]
      exact ⟨css, run_firstCells_some z.w u.cells _ _ _ _ _ hl (fun j v hj => by rw [addr0]; exact q3 j v hj), by rw [q1, hml], q2⟩
theorem splice_len {α : Type} {l m : List α} {at_ : Nat} (h : at_ + m.length ≤ l.length) : (splice l at_ m).length = l.length := by
  unfold splice
  simp
  omega
theorem splice_get {α : Type} {l m : List α} {at_ : Nat} (h : at_ + m.length ≤ l.length) (i : Nat) : (splice l at_ m)[i]? = if at_ ≤ i ∧ i < at_ + m.length then m[i - at_]? else l[i]? := by
  unfold splice
  have h1 : (l.take at_).length = at_ := by rw [List.length_take]; omega
  by_cases hi : i < at_
  · rw [List.append_assoc, List.getElem?_append_left (by omega), List.getElem?_take_of_lt hi, if_neg (by omega)]
  · rw [List.append_assoc, List.getElem?_append_right (by omega), h1]
    by_cases h2 : i < at_ + m.length
    · rw [List.getElem?_append_left (by omega), if_pos (by omega)]
    · rw [List.getElem?_append_right (by omega), List.getElem?_drop, if_neg (by omega)]
      congr 1
      omega
theorem HRep.reset {id : Nat} {e : Ent} (hg : hget H id = some e) (hH : HRep z H) : HRep z (hset H id (some e)) := by
  refine hH.same (fun k => ?_) fun k => ?_
  · rw [hget_hset]
    by_cases h : k = id
    · subst h; rw [if_pos rfl, hg]
    · rw [if_neg h]
  · rw [hkey_hset]
    by_cases h : k = id
    · subst h; simp [hkey_of_hget hg]
    · simp [h]
theorem lenOf_rows {u : Ty} {m : List u.den} {v : Value} (h : RowsRep z u m v) (w : World) : (Builtin.lenOf v).run P w = .ok m.length w := by
  rcases h with ⟨hu, rfl⟩ | ⟨A, c, rfl, _⟩
  · subst hu; rfl
  · rfl
/-- A slice's elements, some of them written. -/
theorem copy_own {t e ty sT : TypeId} {u : Ty} {l m : List u.den} {e' : TypeId} {x : Value} {id g sz n off dl c : Nat} {K : AV → Hp → Option β} {r : β} (hH : HRep z H) (hg : hget H id = some ⟨false, .rows e' u l⟩) (hρ : z.ρ id = .real g sz n)
    (hu : P.underlying t = some (.slice e)) (hc : u.cells = P.cellsOf e) (hx : RowsRep z u m x) (hdl : off + dl ≤ l.length)
    (h : K (.i .i64 ((min m.length dl : Nat) : Int)) (hset H id (some ⟨false, .rows e' u (splice l off (m.take dl))⟩)) = some r) :
    Ok P (Builtin.copy_ #[t, sT] ty #[.slice (some ⟨g, off * u.cells, none⟩) dl c, x]) z K r := by
  obtain ⟨_, _, _, cs, fr, a1, a2, a3, a4, a5, a6, a7⟩ := hH.real hg hρ
  have hi : ∃ i, P.info? e = some i ∧ i.size = u.cells := by
    have := cells_info hc.symm (by omega)
    obtain ⟨i, h1, h2⟩ := Option.map_eq_some_iff.1 this
    exact ⟨i, h1, h2⟩
  obtain ⟨i, i1, i2⟩ := hi
  obtain ⟨css, f1, f2, f3⟩ := hx.first (P := P) (min m.length dl) (Nat.min_le_left _ _)
  have hmt : m.take (min m.length dl) = m.take dl := by rw [List.take_eq_take_iff]; omega
  have hmtl : (m.take dl).length = min m.length dl := by rw [List.length_take]; omega
  rw [hmt] at f3
  have hfl : css.flatten.length = min m.length dl * u.cells := by rw [flatten_len (n := u.cells) (rows_len (by rw [f2, hmtl]) f3), f2]
  have hfit : off * u.cells + css.flatten.length ≤ cs.size := by
    have : (off + min m.length dl) * u.cells ≤ l.length * u.cells := Nat.mul_le_mul_right _ (by omega)
    rw [Nat.add_mul] at this
    omega
  have hth := there_of (o := off * u.cells) (n := css.flatten.length) a1 a2 hfit
  have h1 : ∀ v ∈ css.flatten, v.oneCell' = true := fun v hv => by
    obtain ⟨us, h1, h2⟩ := List.mem_flatten.1 hv
    obtain ⟨k, hk⟩ := List.getElem?_of_mem h1
    obtain ⟨e, he⟩ := get_of_len (l := m.take dl) (by rw [f2, hmtl]) hk
    exact (f3 k e us he hk).one v h2
  have hst := run_storeCells_cells (P := P) g (off * u.cells) css.flatten 0 z.w (fun j hj => by simpa using (hth j hj).1) (fun j hj => by simpa using (hth j hj).2) h1
  simp only [Nat.add_zero] at hst
  have hrun : (Builtin.copy_ #[t, sT] ty #[.slice (some ⟨g, off * u.cells, none⟩) dl c, x]).run P z.w = .ok (.int .i64 ((min m.length dl : Nat) : Int)) (z.w.setCells g (off * u.cells) css.flatten) := by
    have hmin : Nat.min m.length dl = min m.length dl := rfl
    simp [Builtin.copy_, run_underlying hu, lenOf_rows hx, hmin, sizeOf, typeInfo, i1, i2, f1, hst, goInt]
  obtain ⟨w1, w2, w3, w4⟩ := setCells_same css.flatten z.w g (off * u.cells)
  have hsl : (splice l off (m.take dl)).length = l.length := splice_len (by rw [hmtl]; omega)
  obtain ⟨p1, p2⟩ := hH.write (w' := z.w.setCells g (off * u.cells) css.flatten) (b := .rows e' u (splice l off (m.take dl))) hg hρ w2 w3 w4 w1 (fun b hb => heap_setCells_ne _ _ _ _ _ hb) (fun kk => by
    refine ⟨_, fr, heap_setCells_at _ _ _ _ _ _ _ a1, okF_set a2 (setArr_size _ _ _), by rw [setArr_size]; exact a3, by rw [hsl]; exact a4, by rw [hsl]; exact a5, a6, fun i x hx => ?_⟩
    rw [splice_get (by rw [hmtl]; omega), hmtl] at hx
    by_cases hin : off ≤ i ∧ i < off + min m.length dl
    · rw [if_pos hin] at hx
      obtain ⟨us, b1, b2⟩ := RowsIn.css (by rw [f2, hmtl]) f3 [] _ _ hx
      refine ⟨us, b1.kp kk, fun j v hj => ?_⟩
      have hb := b2 j v hj
      rw [List.append_nil] at hb
      have hbl := (List.getElem?_eq_some_iff.1 hb).1
      obtain ⟨d, hd⟩ : ∃ d, i = off + d := ⟨i - off, by omega⟩
      subst hd
      rw [Nat.add_sub_cancel_left] at hb hbl
      rw [Nat.add_mul, setArr_get _ _ _ _ hfit, if_pos (by omega), ← hb]
      congr 1
      omega
    · rw [if_neg hin] at hx
      obtain ⟨us, b1, b2⟩ := a7 i x hx
      refine ⟨us, b1.kp kk, fun j v hj => ?_⟩
      have hjl : j < u.cells := by
        have := (List.getElem?_eq_some_iff.1 hj).1
        rw [b1.len] at this; exact this
      rw [setArr_get _ _ _ _ hfit, if_neg, b2 j v hj]
      rw [hfl]
      rcases Nat.lt_or_ge i off with hlt | hge
      · have := mul_lt (es := u.cells) hlt hjl
        omega
      · have : (off + min m.length dl) * u.cells ≤ i * u.cells := Nat.mul_le_mul_right _ (by omega)
        rw [Nat.add_mul] at this
        omega)
  exact .mk' (z' := { z with w := z.w.setCells g (off * u.cells) css.flatten }) hrun p1 (.mkI _ _) p2 h
theorem copy_none {t e ty sT : TypeId} {u : Ty} {m : List u.den} {e' : TypeId} {x : Value} {id off : Nat} {A : Option Addr} {K : AV → Hp → Option β} {r : β} {l : List u.den} (hH : HRep z H) (hg : hget H id = some ⟨false, .rows e' u l⟩)
    (hu : P.underlying t = some (.slice e)) (hc : u.cells = P.cellsOf e) (hc0 : 0 < u.cells) (hx : RowsRep z u m x)
    (h : K (.i .i64 ((min m.length 0 : Nat) : Int)) (hset H id (some ⟨false, .rows e' u (splice l off (m.take 0))⟩)) = some r) :
    Ok P (Builtin.copy_ #[t, sT] ty #[.slice A 0 0, x]) z K r := by
  have hi : ∃ i, P.info? e = some i ∧ i.size = u.cells := by
    have := cells_info hc.symm (by omega)
    obtain ⟨i, h1, h2⟩ := Option.map_eq_some_iff.1 this
    exact ⟨i, h1, h2⟩
  obtain ⟨i, i1, i2⟩ := hi
  obtain ⟨css, f1, f2, f3⟩ := hx.first (P := P) 0 (Nat.zero_le _)
  obtain rfl : css = [] := List.eq_nil_of_length_eq_zero f2
  have hs : splice l off (m.take 0) = l := by simp [splice]
  rw [hs] at h
  refine .mk' (z' := z) ?_ (hH.reset hg) (.mkI _ _) (Nx.refl z) h
  have hmin : Nat.min m.length 0 = 0 := Nat.min_eq_right (Nat.zero_le _)
  cases A <;> simp [Builtin.copy_, run_underlying hu, lenOf_rows hx, hmin, sizeOf, typeInfo, i1, i2, f1, goInt, storeCells]
theorem evCopy_ok {t sT : TypeId} (ty : TypeId) {a ax : AV} {v vx : Value} {K : AV → Hp → Option β} {r : β} (h : evCopy P t a ax H K = some r) (hH : HRep z H) (ha : ARep z a v) (hx : ARep z ax vx) :
    Ok P (Builtin.copy_ #[t, sT] ty #[v, vx]) z K r := by
  unfold evCopy at h
  split at h
  · rename_i e hu
    obtain ⟨u, h1, h2⟩ := ob_iff.1 h
    obtain ⟨t1, t2, _⟩ := ty_ok h1
    obtain ⟨m, hm, h3⟩ := rowsOf_ok h2 hH hx
    split at h3
    · rename_i es id
      split at h3
      · rename_i e' t' l hg
        rcases dq_iff h3 with ⟨rfl, h4⟩ | h4
        · obtain ⟨h5, h6⟩ := need_iff.1 h4
          rw [beq_nat] at h5
          subst h5
          cases ha with
          | slfV _ _ A hρ =>
            obtain ⟨rfl, _⟩ := hH.virt hg hρ
            exact copy_none hH hg hu t1 t2 hm h6
          | slf _ _ g sz n c hρ hn hs hm' =>
            have hl : l.length = n := by obtain ⟨_, _, _, cs, fr, a1, a2, a3, a4, _⟩ := hH.real hg hρ; exact a4
            subst hl
            have := copy_own (sT := sT) (ty := ty) (off := 0) (dl := l.length) (c := c) hH hg hρ hu t1 hm (by omega) h6
            rwa [Nat.zero_mul] at this
        · cases h4
      · cases h3
    · rename_i es id off n
      split at h3
      · rename_i e' t' l hg
        rcases dq_iff h3 with ⟨rfl, h4⟩ | h4
        · obtain ⟨h5, h6⟩ := need_iff.1 h4
          simp only [Bool.and_eq_true, beq_nat, Nat.ble_eq] at h5
          obtain ⟨rfl, h7⟩ := h5
          cases ha with
          | slV _ _ _ A hρ => exact copy_none hH hg hu t1 t2 hm h6
          | slE _ _ _ g sz m' o hρ => exact copy_none hH hg hu t1 t2 hm h6
          | sl _ _ _ _ g sz m' c hρ hn hs hm' => exact copy_own hH hg hρ hu t1 hm h7 h6
        · cases h4
      · cases h3
    · cases h3
  · cases h
end
end Go.Ab

/- Maps that are made and written. -/
namespace Go.Ab

section
variable {P : Program} {β : Type} {z : Z} {H : Hp}
theorem listEqb_eq {α : Type} {f : α → α → Bool} (hf : ∀ {a b}, f a b = true → a = b) : ∀ {l r : List α}, listEqb f l r = true → l = r
  | [], [], _ => rfl
  | a :: l, b :: r, h => by
    simp only [listEqb, Bool.and_eq_true] at h
    rw [hf h.1, listEqb_eq hf h.2]
  | [], _ :: _, h => by simp [listEqb] at h
  | _ :: _, [], h => by simp [listEqb] at h
theorem keyed_eq : (k : Ty) → k.keyed = true → {x a : k.den} → k.eqb x a = true → x = a
  | .int _, _, x, a, h => by
    have : ((x : Int) == (a : Int)) = true := h
    exact beq_iff_eq.1 this
  | .byte, _, x, a, h => by
    have : ((x : UInt8) == (a : UInt8)) = true := h
    exact beq_iff_eq.1 this
  | .bool, _, x, a, h => by
    have : ((x : Bool) == (a : Bool)) = true := h
    exact beq_iff_eq.1 this
  | .str, _, x, a, h => by
    have : ((x : List UInt8) == (a : List UInt8)) = true := h
    exact beq_iff_eq.1 this
  | .one t, hk, x, a, h => keyed_eq t hk h
  | .pair s t, hk, x, a, h => by
    simp only [Ty.keyed, Bool.and_eq_true] at hk
    simp only [Ty.eqb, Bool.and_eq_true] at h
    exact Prod.ext (keyed_eq s hk.1 h.1) (keyed_eq t hk.2 h.2)
  | .arr _ t, hk, x, a, h => listEqb_eq (fun h => keyed_eq t hk h) h
theorem keyOk_keyed {kt : TypeId} {k : Ty} (h : keyOk P kt k = true) : k.keyed = true := by
  unfold keyOk at h
  simp only [Bool.and_eq_true] at h
  exact h.2

def setO (w : World) (g : Nat) (o : Obj) : World := { w with heap := w.heap.setIfInBounds g o }
theorem run_setO {w : World} {g : Nat} {es : Array MapEntry} {c : Nat} (h : w.heap[g]? = some (.map es c)) (o : Obj) : (setObj g o).run P w = .ok () (setO w g o) := by
  simp [setObj, Sem.run, h]
  rfl
theorem run_getO {w : World} {g : Nat} {es : Array MapEntry} {c : Nat} (h : w.heap[g]? = some (.map es c)) : (getObj g).run P w = .ok (.map es c) w := by
  simp [getObj, Sem.run, h]
/-- One of two keys stays. -/
theorem run_stays (w : World) (old new : Value) : ∃ v w', (Instr.keyThatStays old new).run P w = .ok v w' ∧ (v = old ∨ v = new) ∧ w'.heap = w.heap ∧ w'.os = w.os ∧ w'.tape = w.tape ∧ w'.output = w.output := by
  by_cases h : Instr.sameBits 10000 old new = true
  · exact ⟨new, w, by simp [Instr.keyThatStays, h], .inr rfl, rfl, rfl, rfl, rfl⟩
  · by_cases h2 : (Question.extern "map.whichKeyStays" 2).cut (w.tape w.drawn (.extern "map.whichKeyStays" 2)) = 0
    · exact ⟨new, w.drew, by simp [Instr.keyThatStays, h, Question.forced, h2], .inr rfl, rfl, rfl, rfl, rfl⟩
    · exact ⟨old, w.drew, by simp [Instr.keyThatStays, h, Question.forced, h2], .inl rfl, rfl, rfl, rfl, rfl⟩
theorem map_write {id g sz n : Nat} {b0 b : Blk} {w1 : World} {o : Obj} (hH : HRep z H) (hg : hget H id = some ⟨false, b0⟩) (hρ : z.ρ id = .real g sz n) (h1 : w1.heap = z.w.heap) (h2 : w1.os = z.w.os) (h3 : w1.tape = z.w.tape) (h4 : w1.output = z.w.output)
    (hb : ∀ z', Kp z z' → z'.w.heap[g]? = some o → BRep z' g sz n b) : HRep { z with w := setO w1 g o } (hset H id (some ⟨false, b⟩)) ∧ Nx z { z with w := setO w1 g o } := by
  have hlt := (hH.real hg hρ).1
  refine hH.write (w' := setO w1 g o) hg hρ h2 h3 h4 (by simp [setO, h1]) (fun b hb => ?_) fun k => hb _ k ?_
  · simp [setO, h1, Array.getElem?_setIfInBounds, Ne.symm hb]
  · simp [setO, h1, hlt]

section
variable {k v : Ty}
theorem mset_at : ∀ {l : List ((k.den × v.den) × Nat)} {j : Nat} {a x : k.den} {b y : v.den} {n : Nat}, l[j]? = some ((a, b), n) → k.eqb x a = true → (∀ j' e, j' < j → l[j']? = some e → k.eqb x e.1.1 = false) → mset l x y = l.set j ((x, y), n)
  | [], j, _, _, _, _, _, h, _, _ => by simp at h
  | ((a', b'), n') :: l, 0, a, x, b, y, n, h, hq, hf => by
    simp at h
    obtain ⟨⟨rfl, rfl⟩, rfl⟩ := h
    simp [mset, hq]
  | ((a', b'), n') :: l, j + 1, a, x, b, y, n, h, hq, hf => by
    have := hf 0 _ (by omega) rfl
    simp only [mset, this, cond_false, List.set_cons_succ]
    rw [mset_at (by simpa using h) hq fun j' e hj he => hf (j' + 1) e (by omega) (by simpa using he)]
theorem mdelL_at : ∀ {l : List ((k.den × v.den) × Nat)} {j : Nat} {a x : k.den} {b : v.den} {n : Nat}, l[j]? = some ((a, b), n) → k.eqb x a = true → (∀ j' e, j' < j → l[j']? = some e → k.eqb x e.1.1 = false) → mdelL l x = l.eraseIdx j
  | [], j, _, _, _, _, h, _, _ => by simp at h
  | ((a', b'), n') :: l, 0, a, x, b, n, h, hq, hf => by
    simp at h
    obtain ⟨⟨rfl, rfl⟩, rfl⟩ := h
    simp [mdelL, hq]
  | ((a', b'), n') :: l, j + 1, a, x, b, n, h, hq, hf => by
    have := hf 0 _ (by omega) rfl
    simp only [mdelL, this, cond_false, List.eraseIdx_cons_succ]
    rw [mdelL_at (by simpa using h) hq fun j' e hj he => hf (j' + 1) e (by omega) (by simpa using he)]
theorem mdelL_none : ∀ {l : List ((k.den × v.den) × Nat)} {x : k.den}, mfind l x = none → mdelL l x = l
  | [], _, _ => rfl
  | ((a, b), n) :: l, x, h => by
    simp only [mfind] at h
    cases hq : k.eqb x a <;> rw [hq] at h <;> simp only [cond_true, cond_false] at h
    · simp only [mdelL, hq, cond_false]
      rw [mdelL_none h]
    · cases h
theorem msetN_at : ∀ {l l' : List ((k.den × v.den) × Nat)} {i : Int} {y : v.den}, msetN l i y = some l' → ∃ (j : Nat) (a : k.den) (b : v.den) (n : Nat), l[j]? = some ((a, b), n) ∧ (n : Int) = i ∧ l' = l.set j ((a, y), n) ∧ ∀ j' e, j' < j → l[j']? = some e → (e.2 : Int) ≠ i
  | [], _, _, _, h => by simp [msetN] at h
  | ((a, b), n) :: l, l', i, y, h => by
    simp only [msetN] at h
    cases hq : ((n : Int) == i) <;> rw [hq] at h <;> simp only [cond_true, cond_false] at h
    · obtain ⟨l1, h1, rfl⟩ := Option.map_eq_some_iff.1 h
      obtain ⟨j, a', b', n', q1, q2, q3, q4⟩ := msetN_at h1
      refine ⟨j + 1, a', b', n', by simpa using q1, q2, by rw [q3]; rfl, fun j' e hj he => ?_⟩
      match j' with
      | 0 => simp at he; subst he; simpa using hq
      | j' + 1 => exact q4 j' e (by omega) (by simpa using he)
    · simp only [Option.some.injEq] at h
      exact ⟨0, a, b, n, rfl, by simpa using hq, h.symm, fun j' e hj => by omega⟩
end

/-- A map's entries. -/
def MRep (z : Z) (k v : Ty) (M : GMap k v) (es : Array MapEntry) : Prop :=
  es.size = M.1.length ∧ (∀ (i : Nat) x e, M.1[i]? = some x → es[i]? = some e → VRep z.w z.M k x.1.1 e.key ∧ VRep z.w z.M v x.1.2 e.val ∧ e.born = x.2) ∧
      (∀ (i j : Nat) x y, M.1[i]? = some x → M.1[j]? = some y → x.2 = y.2 → i = j) ∧ (∀ (i : Nat) x, M.1[i]? = some x → x.2 < M.2)
theorem MRep.kp {z' : Z} (kk : Kp z z') {k v : Ty} {M : GMap k v} {es : Array MapEntry} (h : MRep z k v M es) : MRep z' k v M es :=
  ⟨h.1, fun i x e q1 q2 => ⟨(h.2.1 i x e q1 q2).1.kp kk, (h.2.1 i x e q1 q2).2.1.kp kk, (h.2.1 i x e q1 q2).2.2⟩, h.2.2⟩
theorem set_fst {k v : Ty} {l : List ((k.den × v.den) × Nat)} {j n : Nat} {p q : k.den × v.den} (hj : l[j]? = some (p, n)) {i : Nat} {x : (k.den × v.den) × Nat} (h : (l.set j (q, n))[i]? = some x) : ∃ y, l[i]? = some y ∧ y.2 = x.2 := by
  by_cases hi : j = i
  · subst hi
    have := (List.getElem?_eq_some_iff.1 hj).1
    rw [List.getElem?_set_self this] at h
    simp only [Option.some.injEq] at h
    subst h
    exact ⟨_, hj, rfl⟩
  · rw [List.getElem?_set_ne hi] at h
    exact ⟨x, h, rfl⟩
/-- An entry's key and value are others. -/
theorem MRep.set {k v : Ty} {M : GMap k v} {es es' : Array MapEntry} {j n : Nat} {p : k.den × v.den} {x : k.den} {y : v.den} {e' : MapEntry} (h : MRep z k v M es) (hj : M.1[j]? = some (p, n)) (hx : VRep z.w z.M k x e'.key) (hy : VRep z.w z.M v y e'.val) (hb : e'.born = n)
    (hs : es'.size = es.size) (h1 : es'[j]? = some e') (h2 : ∀ i, i ≠ j → es'[i]? = es[i]?) : MRep z k v (M.1.set j ((x, y), n), M.2) es' := by
  obtain ⟨a1, a2, a3, a4⟩ := h
  refine ⟨by rw [hs, a1]; simp, fun i a e q1 q2 => ?_, fun i i' a b q1 q2 q3 => ?_, fun i a q1 => ?_⟩
  · by_cases hi : j = i
    · subst hi
      have := (List.getElem?_eq_some_iff.1 hj).1
      rw [List.getElem?_set_self this] at q1
      rw [h1] at q2
      simp only [Option.some.injEq] at q1 q2
      subst q1
      subst q2
      exact ⟨hx, hy, hb⟩
    · rw [List.getElem?_set_ne hi] at q1
      rw [h2 i (Ne.symm hi)] at q2
      exact a2 i a e q1 q2
  · obtain ⟨y1, r1, r2⟩ := set_fst hj q1
    obtain ⟨y2, r3, r4⟩ := set_fst hj q2
    exact a3 i i' y1 y2 r1 r3 (by rw [r2, r4, q3])
  · obtain ⟨y1, r1, r2⟩ := set_fst hj q1
    rw [← r2]
    exact a4 i y1 r1
theorem MRep.push {k v : Ty} {M : GMap k v} {es : Array MapEntry} {x : k.den} {y : v.den} {e' : MapEntry} (h : MRep z k v M es) (hx : VRep z.w z.M k x e'.key) (hy : VRep z.w z.M v y e'.val) (hb : e'.born = M.2) :
    MRep z k v (M.1 ++ [((x, y), M.2)], M.2 + 1) (es.push e') := by
  obtain ⟨a1, a2, a3, a4⟩ := h
  have key : ∀ (i : Nat) a, (M.1 ++ [((x, y), M.2)])[i]? = some a → (i < M.1.length ∧ M.1[i]? = some a) ∨ (i = M.1.length ∧ a = ((x, y), M.2)) := fun i a h => by
    by_cases hi : i < M.1.length
    · rw [List.getElem?_append_left hi] at h; exact .inl ⟨hi, h⟩
    · rw [List.getElem?_append_right (by omega)] at h
      have hi0 : i - M.1.length = 0 := by
        have := (List.getElem?_eq_some_iff.1 h).1
        simpa using this
      rw [hi0] at h
      simp at h
      exact .inr ⟨by omega, h.symm⟩
  refine ⟨by simp [a1], fun i a e q1 q2 => ?_, fun i i' a b q1 q2 q3 => ?_, fun i a q1 => ?_⟩
  · rcases key i a q1 with ⟨hi, q1⟩ | ⟨rfl, rfl⟩
    · rw [Array.getElem?_push, if_neg (by omega)] at q2
      exact a2 i a e q1 q2
    · rw [Array.getElem?_push, if_pos a1.symm] at q2
      simp only [Option.some.injEq] at q2
      subst q2
      exact ⟨hx, hy, hb⟩
  · rcases key i a q1 with ⟨hi, q1⟩ | ⟨rfl, rfl⟩ <;> rcases key i' b q2 with ⟨hi', q2⟩ | ⟨rfl, rfl⟩
    · exact a3 i i' a b q1 q2 q3
    · have := a4 i a q1; simp only at q3; omega
    · have := a4 i' b q2; simp only at q3; omega
    · rfl
  · rcases key i a q1 with ⟨hi, q1⟩ | ⟨rfl, rfl⟩
    · have := a4 i a q1; simp only; omega
    · simp
theorem MRep.find {k v : Ty} {M : GMap k v} {es : Array MapEntry} {kt : TypeId} {x : k.den} {vk : Value} (h : MRep z k v M es) (hk : keyOk P kt k = true) (hx : VRep z.w z.M k x vk) :
    ∃ q, (Instr.findKey kt vk es.toList).run P z.w = .ok q z.w ∧ ((q = none ∧ mfind M.1 x = none) ∨
      ∃ (j : Nat) (b : v.den) (n : Nat) (e : MapEntry), q = some (j, e.val) ∧ M.1[j]? = some ((x, b), n) ∧ es[j]? = some e ∧ mfind M.1 x = some (b, n) ∧ k.eqb x x = true ∧ ∀ (j' : Nat) e', j' < j → M.1[j']? = some e' → k.eqb x e'.1.1 = false) := by
  obtain ⟨a2, a3, _⟩ := h
  obtain ⟨q, f1, f2⟩ := findKey_ok hk z.w hx es.toList (M.1.map (·.1.1)) (by simp [a2]) (fun j a e e1 e2 => by
    rw [List.getElem?_map] at e1
    obtain ⟨y, e3, rfl⟩ := Option.map_eq_some_iff.1 e1
    exact (a3 j y e e3 (by simpa using e2)).1)
  refine ⟨q, f1, ?_⟩
  rcases f2.split (by simp [a2]) with ⟨rfl, f3⟩ | ⟨j, a, e, rfl, f3, f4, f5, f6⟩
  · refine .inl ⟨rfl, ?_⟩
    cases hq : mfind M.1 x with
    | none => rfl
    | some y =>
      obtain ⟨j, a, q1, q2, _⟩ := mfind_some hq
      have := f3 j a (by simp [q1])
      rw [q2] at this; cases this
  · rw [List.getElem?_map] at f3
    obtain ⟨⟨⟨a', b⟩, n⟩, f7, rfl⟩ := Option.map_eq_some_iff.1 f3
    simp only at f5
    obtain rfl := keyed_eq k (keyOk_keyed hk) f5
    refine .inr ⟨j, b, n, e, rfl, f7, by simpa using f4, ?_, f5, fun j' e' hj' he' => f6 j' e'.1.1 hj' (by simp [he'])⟩
    cases hq : mfind M.1 x with
    | none =>
      have := mfind_none hq j _ f7
      rw [f5] at this; cases this
    | some y' =>
      obtain ⟨j', a', q1, q2, q3⟩ := mfind_some hq
      have hjj : j' = j := by
        rcases Nat.lt_trichotomy j' j with hlt | heq | hgt
        · have := f6 j' a' hlt (by simp [q1])
          rw [q2] at this; cases this
        · exact heq
        · have := q3 j _ hgt f7
          rw [f5] at this; cases this
      subst hjj
      rw [q1] at f7
      injection f7 with f7
      injection f7 with f8 f9
      injection f8 with f8 f10
      rw [← f9, ← f10]

def OkU (P : Program) (s : Sem Unit) (z : Z) (K : AV → Hp → Option β) (r : β) : Prop :=
  ∃ H' z', s.run P z.w = .ok () z'.w ∧ HRep z' H' ∧ Nx z z' ∧ K .junk H' = some r

theorem run_makeMap_any {t kt et : TypeId} {q : Option Value} (hu : P.underlying t = some (.map kt et)) (hq : ∀ v, q = some v → ∃ k n, v = .int k n) (w : World) : (Instr.makeMap t q).run P w = .ok (.map (some w.heap.size)) (w.alloc (.map #[] 0)) := by
  cases q with
  | none => rfl
  | some v =>
    obtain ⟨k, n, rfl⟩ := hq v rfl
    simp [Instr.makeMap, run_underlying hu, asInt, asIntOf]
theorem evMakeMap_ok {t : TypeId} {a : Option AV} {v : Option Value} {id : Nat} {K : AV → Hp → Option β} {r : β} (h : evMakeMap P t a id H K = some r) (hH : HRep z H) (hd : ¬ z.D id) (ha : ORep z a v) : Ok P (Instr.makeMap t v) z K r := by
  unfold evMakeMap at h
  split at h
  · rename_i kt et hu
    obtain ⟨k, h1, h2⟩ := ob_iff.1 h
    obtain ⟨h3, h4⟩ := need_iff.1 h2
    have hq : ∀ x, v = some x → ∃ k n, x = .int k n := fun x hx => by
      rcases ha with ⟨rfl, rfl⟩ | ⟨y, u, rfl, rfl, hy⟩
      · cases hx
      · simp only [Option.some.injEq] at hx
        subst hx
        cases hn : y.any? with
        | none => simp only [hn] at h3; cases h3
        | some n =>
          obtain ⟨kk, e⟩ := any?_ok hn hy
          exact ⟨kk, n, e⟩
    have hrun := run_makeMap_any (P := P) hu hq z.w
    have hnew : ∀ b, hkey H id = false → (∀ z', Kp z z' → z'.w.heap[z.w.heap.size]? = some (.map #[] 0) → BRep z' z.w.heap.size 0 0 b) → K (.mp id) (hset H id (some ⟨false, b⟩)) = some r → Ok P (Instr.makeMap t v) z K r := fun b hk hb hK => by
      have hlt : z.w.heap.size < (z.w.alloc (.map #[] 0)).heap.size := (Array.getElem?_eq_some_iff.1 (heap_alloc_new z.w (.map #[] 0))).1
      obtain ⟨z', p1, p2, p3, p4⟩ := hH.new (w' := z.w.alloc (.map #[] 0)) (g := z.w.heap.size) (sz := 0) (n := 0) (b := b) hk hd (Nat.le_refl _) hlt rfl rfl rfl (Nat.le_of_lt hlt) (fun k hk => heap_alloc_old _ _ _ hk) (fun z' hz kk => hb z' kk (by rw [hz]; exact heap_alloc_new _ _))
      exact .mk' (by rw [p1]; exact hrun) p2 (.mp _ _ _ _ p4) p3 hK
    cases hf : isFuncT P et <;> rw [hf] at h4 <;> simp only [bq_true, bq_false] at h4
    · obtain ⟨u, h5, h6⟩ := ob_iff.1 h4
      obtain ⟨h7, h8⟩ := newAt_iff.1 h6
      exact hnew (.map k u ([], 0)) h7 (fun z' kk hz => ⟨#[], hz, rfl, fun i x e h => by simp at h, fun i j x y h => by simp at h, fun i x h => by simp at h⟩) h8
    · obtain ⟨h7, h8⟩ := newAt_iff.1 h4
      exact hnew (.fmap k []) h7 (fun z' kk hz => ⟨#[], 0, hz, rfl, fun i x e h => by simp at h⟩) h8
  · cases h
theorem mapOk_ok {t : TypeId} {k v : Ty} (h : mapOk P t k v = true) : ∃ kt et, P.underlying t = some (.map kt et) ∧ keyOk P kt k = true ∧ ty P et = some v ∧ zeroOk P et v = true := by
  unfold mapOk at h
  split at h
  · rename_i kt et hu
    simp only [Bool.and_eq_true, decide_eq_true_eq] at h
    exact ⟨kt, et, hu, h.1.1, h.1.2, h.2⟩
  · cases h
theorem evMapUpd_ok {t : TypeId} {m ak ax : AV} {vm vk vx : Value} {K : AV → Hp → Option β} {r : β} (h : evMapUpd P t m ak ax H K = some r) (hH : HRep z H) (hm : ARep z m vm) (hk : ARep z ak vk) (hx : ARep z ax vx) : OkU P (Instr.mapUpdate t vm vk vx) z K r := by
  unfold evMapUpd at h
  split at h
  · rename_i id
    cases hm with | mp _ g sz n hρ =>
    split at h
    · rename_i k l hg
      obtain ⟨h1, h2⟩ := need_iff.1 h
      obtain ⟨x, h3, h4⟩ := asA_ok h2 hk
      obtain ⟨h5, h6⟩ := need_iff.1 h4
      obtain ⟨c, h7, h8⟩ := ob_iff.1 h6
      obtain ⟨h9, h10⟩ := need_iff.1 h8
      unfold fmapOk at h1
      split at h1
      · rename_i kt et hu
        simp only [Bool.and_eq_true] at h1
        obtain ⟨⟨hK, _⟩, _⟩ := h1
        obtain ⟨_, _, _, es, clock, a1, a2, a3⟩ := hH.real hg hρ
        have hck := checkKey_ok (em := false) z.w typesFuel kt k (keyOk_ok hK).2 10000 (by unfold typesFuel; omega) x vk h3
        obtain ⟨q, f1, f2⟩ := findKey_ok hK z.w h3 es.toList (l.map (·.1)) (by simp [a2]) (fun j a e e1 e2 => by
          rw [List.getElem?_map] at e1
          obtain ⟨y, e3, rfl⟩ := Option.map_eq_some_iff.1 e1
          exact (a3 j y e e3 (by simpa using e2)).1)
        have hno : ∀ (l : List (k.den × AV)), noKey l x = true → ∀ (i : Nat) e, l[i]? = some e → k.eqb x e.1 = false := by
          intro l
          induction l with
          | nil => intro _ i e he; simp at he
          | cons a l ih =>
            intro hn i e he
            simp only [noKey, Bool.and_eq_true, Bool.not_eq_true'] at hn
            match i with
            | 0 => simp at he; subst he; exact hn.1
            | i + 1 => exact ih hn.2 i e (by simpa using he)
        rcases f2.split (by simp [a2]) with ⟨rfl, f3⟩ | ⟨j, a, e, rfl, f3, f4, f5, f6⟩
        · obtain ⟨p1, p2⟩ := map_write (w1 := z.w) (o := .map (es.push { key := vk, val := vx, born := clock }) (clock + 1)) (b := .fmap k (l ++ [(x, ax)])) hH hg hρ rfl rfl rfl rfl (fun z' kk hz => by
            refine ⟨_, _, hz, by simp [a2], fun i a e q1 q2 => ?_⟩
            by_cases hi : i < l.length
            · rw [List.getElem?_append_left hi] at q1
              rw [Array.getElem?_push, if_neg (by omega)] at q2
              exact ⟨(a3 i a e q1 q2).1.kp kk, (a3 i a e q1 q2).2.kp kk⟩
            · rw [List.getElem?_append_right (by omega)] at q1
              have hi0 : i - l.length = 0 := by
                have := (List.getElem?_eq_some_iff.1 q1).1
                simpa using this
              rw [hi0] at q1
              rw [Array.getElem?_push, if_pos (by omega)] at q2
              simp at q1 q2
              subst q1
              subst q2
              exact ⟨h3.kp kk, hx.kp kk⟩)
          refine ⟨_, _, ?_, p1, p2, h10⟩
          simp [Instr.mapUpdate, run_underlying hu, run_getO a1, hck, f1, run_setO a1]
        · rw [List.getElem?_map] at f3
          obtain ⟨y, f7, rfl⟩ := Option.map_eq_some_iff.1 f3
          have := hno l h5 j y f7
          rw [f5] at this; cases this
      · cases h1
    · obtain ⟨⟨y, H1⟩, h1, h2⟩ := ob_iff.1 h
      obtain ⟨z1, s1, s2, s3, s4, s5⟩ := pureA_ok hH h1 hx
      split at h2
      · rename_i k v M hg
        obtain ⟨h3, h4⟩ := need_iff.1 h2
        obtain ⟨x, h5, h6⟩ := asA_ok h4 (hk.kp (s3.kp hH.sub))
        obtain ⟨w, h7, h8⟩ := asA_ok h6 s5
        obtain ⟨kt, et, hu, hK, _, _⟩ := mapOk_ok h3
        have hρ1 : z1.ρ id = .real g sz n := by rw [s4]; exact hρ
        obtain ⟨_, _, _, es, a1, a2⟩ := s2.real hg hρ1
        have a2' : MRep z1 k v M es := a2
        have hck := checkKey_ok (em := false) z1.w typesFuel kt k (keyOk_ok hK).2 10000 (by unfold typesFuel; omega) x vk h5
        obtain ⟨q, f1, f2⟩ := a2'.find hK h5
        rcases f2 with ⟨rfl, f3⟩ | ⟨j, b, nb, e, rfl, f3, f4, f5, f6, f7⟩
        · have hp : mput M x w = (M.1 ++ [((x, w), M.2)], M.2 + 1) := by unfold mput; rw [f3]
          rw [hp] at h8
          obtain ⟨p1, p2⟩ := map_write (w1 := z1.w) (o := .map (es.push { key := vk, val := vx, born := M.2 }) (M.2 + 1)) (b := .map k v (M.1 ++ [((x, w), M.2)], M.2 + 1)) s2 hg hρ1 rfl rfl rfl rfl (fun z' kk hz => ⟨_, hz, (a2'.push h5 h7 rfl).kp kk⟩)
          refine ⟨_, _, ?_, p1, s3.trans p2, h8⟩
          rw [← s1]
          simp [Instr.mapUpdate, run_underlying hu, run_getO a1, hck, f1, run_setO a1]
        · have hp : mput M x w = (M.1.set j ((x, w), nb), M.2) := by unfold mput; rw [f5]; simp only; rw [mset_at f3 f6 f7]
          rw [hp] at h8
          obtain ⟨key, w1, k1, k2, k3, k4, k5, k6⟩ := run_stays (P := P) z1.w e.key vk
          obtain ⟨r1, r2, r3⟩ := a2'.2.1 j _ e f3 f4
          have hkey : VRep z1.w z1.M k x key := by rcases k2 with rfl | rfl <;> first | exact r1 | exact h5
          have hj := (Array.getElem?_eq_some_iff.1 f4).1
          obtain ⟨p1, p2⟩ := map_write (w1 := w1) (o := .map (es.modify j fun e => { e with key, val := vx }) M.2) (b := .map k v (M.1.set j ((x, w), nb), M.2)) s2 hg hρ1 k3 k4 k5 k6 (fun z' kk hz => by
            refine ⟨_, hz, (a2'.set (e' := { e with key, val := vx }) f3 hkey h7 r3 (by simp) (by simp [Array.getElem?_modify, f4]) (fun i hi => by simp [Array.getElem?_modify, Ne.symm hi])).kp kk⟩)
          refine ⟨_, _, ?_, p1, s3.trans p2, h8⟩
          rw [← s1]
          have a1' : w1.heap[g]? = some (.map es M.2) := by rw [k3]; exact a1
          simp [Instr.mapUpdate, run_underlying hu, run_getO a1, hck, f1, f4, k1, run_setO a1']
      · cases h2
  · cases h
theorem evMapEntry_ok {t : TypeId} {m ak : AV} {vm vk : Value} {K : AV → Hp → Option β} {r : β} (h : evMapEntry P t m ak H K = some r) (hH : HRep z H) (hm : ARep z m vm) (hk : ARep z ak vk) : Ok P (Instr.mapEntry t vm vk) z K r := by
  unfold evMapEntry at h
  split at h
  · rename_i id
    cases hm with | mp _ g sz n hρ =>
    split at h
    · rename_i k v M hg
      obtain ⟨h3, h4⟩ := need_iff.1 h
      rw [Bool.and_eq_true] at h3
      obtain ⟨x, h5, h6⟩ := asA_ok h4 hk
      obtain ⟨kt, et, hu, hK, _, hZ⟩ := mapOk_ok h3.1
      obtain ⟨i, zv, z1, z2, z3⟩ := zeroOk_ok hZ
      obtain ⟨_, _, _, es, a1, a2⟩ := hH.real hg hρ
      have a2' : MRep z k v M es := a2
      have hck := checkKey_ok (em := false) z.w typesFuel kt k (keyOk_ok hK).2 10000 (by unfold typesFuel; omega) x vk h5
      have mk : ∀ {z' : Z} {a : AV} {u : Value} {n : Int}, ARep z' a u → ARep z' (.tup [a, .i .i64 n]) (.tuple #[u, .int .i64 n]) := fun ha => by
        refine .tup _ _ rfl fun i x u h1 h2 => ?_
        match i with
        | 0 => simp at h1 h2; subst h1; subst h2; exact ha
        | 1 => simp at h1 h2; subst h1; subst h2; exact .mkI _ _
        | i + 2 => simp at h1
      obtain ⟨q, f1, f2⟩ := a2'.find hK h5
      rcases f2 with ⟨rfl, f3⟩ | ⟨j, b, nb, e, rfl, f3, f4, f5, f6, f7⟩
      · have e1 : ment M x = (M.1 ++ [((x, v.zero), M.2)], M.2 + 1) := by unfold ment; rw [f3]
        have e2 : mget M x = none := by unfold mget; rw [f3]; rfl
        have e3 : mborn M x = M.2 := by unfold mborn; rw [f3]
        rw [e1, e2, e3] at h6
        obtain ⟨p1, p2⟩ := map_write (w1 := z.w) (o := .map (es.push { key := vk, val := zv, born := M.2 }) (M.2 + 1)) (b := .map k v (M.1 ++ [((x, v.zero), M.2)], M.2 + 1)) hH hg hρ rfl rfl rfl rfl (fun z' kk hz => ⟨_, hz, (a2'.push h5 (z3 _ _) rfl).kp kk⟩)
        refine .mk' (z' := { z with w := setO z.w g (.map (es.push { key := vk, val := zv, born := M.2 }) (M.2 + 1)) }) ?_ p1 (mk (ofTy_ok (z3 _ _))) p2 h6
        simp [Instr.mapEntry, run_underlying hu, run_getO a1, hck, f1, run_setO a1, run_zero z1 z2, goInt]
      · have e1 : ment M x = (M.1.set j ((x, b), nb), M.2) := by unfold ment; rw [f5]; simp only; rw [mset_at f3 f6 f7]
        have e2 : mget M x = some b := by unfold mget; rw [f5]; rfl
        have e3 : mborn M x = nb := by unfold mborn; rw [f5]
        rw [e1, e2, e3] at h6
        obtain ⟨key, w1, k1, k2, k3, k4, k5, k6⟩ := run_stays (P := P) z.w e.key vk
        obtain ⟨r1, r2, r3⟩ := a2'.2.1 j _ e f3 f4
        have hkey : VRep z.w z.M k x key := by rcases k2 with rfl | rfl <;> first | exact r1 | exact h5
        obtain ⟨p1, p2⟩ := map_write (w1 := w1) (o := .map (es.modify j fun e => { e with key }) M.2) (b := .map k v (M.1.set j ((x, b), nb), M.2)) hH hg hρ k3 k4 k5 k6 (fun z' kk hz => by
          refine ⟨_, hz, (a2'.set (e' := { e with key }) f3 hkey r2 r3 (by simp) (by simp [Array.getElem?_modify, f4]) (fun i hi => by simp [Array.getElem?_modify, Ne.symm hi])).kp kk⟩)
        refine .mk' (z' := { z with w := setO w1 g (.map (es.modify j fun e => { e with key }) M.2) }) ?_ p1 (mk (ofTy_ok (r2.kp (p2.kp hH.sub)))) p2 h6
        have a1' : w1.heap[g]? = some (.map es M.2) := by rw [k3]; exact a1
        simp [Instr.mapEntry, run_underlying hu, run_getO a1, hck, f1, f4, k1, run_setO a1', goInt, r3]
    · cases h
  · cases h
theorem evEntryStore_ok {t : TypeId} {m at' ax : AV} {vm vs vx : Value} {K : AV → Hp → Option β} {r : β} (h : evEntryStore m at' ax H K = some r) (hH : HRep z H) (hm : ARep z m vm) (hs : ARep z at' vs) (hx : ARep z ax vx) : OkU P (Instr.entryStore t vm vs vx) z K r := by
  unfold evEntryStore at h
  split at h
  · rename_i id
    cases hm with | mp _ g sz n hρ =>
    obtain ⟨⟨y, H1⟩, h1, h2⟩ := ob_iff.1 h
    obtain ⟨z1, s1, s2, s3, s4, s5⟩ := pureA_ok hH h1 hx
    split at h2
    · rename_i k v M hg
      obtain ⟨n', h3, h4⟩ := ob_iff.1 h2
      obtain ⟨w, h5, h6⟩ := asA_ok h4 s5
      obtain ⟨M', h7, h8⟩ := Option.bind_eq_some_iff.1 h6
      obtain ⟨ks, rfl⟩ := any?_ok h3 hs
      unfold mstore at h7
      obtain ⟨l', h9, rfl⟩ := Option.map_eq_some_iff.1 h7
      obtain ⟨j, a, b, nb, q1, q2, rfl, q4⟩ := msetN_at h9
      have hρ1 : z1.ρ id = .real g sz n := by rw [s4]; exact hρ
      obtain ⟨_, _, _, es, a1, a2⟩ := s2.real hg hρ1
      have a2' : MRep z1 k v M es := a2
      obtain ⟨e, he⟩ := get_of_len (l := es.toList) (c := M.1) (by simp [a2'.1]) q1
      have he' : es[j]? = some e := by simpa using he
      obtain ⟨r1, r2, r3⟩ := a2'.2.1 j _ e q1 he'
      have hj := (Array.getElem?_eq_some_iff.1 he').1
      have hfind : es.findIdx? (fun e => (e.born : Int) == n') = some j := by
        rw [Array.findIdx?_eq_some_iff_getElem]
        refine ⟨hj, ?_, fun j' hj' => ?_⟩
        · have : es[j] = e := (Array.getElem?_eq_some_iff.1 he').2
          rw [this, r3]; simpa using q2
        · have hjl : j' < es.size := by omega
          obtain ⟨x', hx'⟩ := get_of_len (l := M.1) (c := es.toList) (by simp [a2'.1]) (show es.toList[j']? = some es[j'] by simp [hjl])
          have := q4 j' x' hj' hx'
          have e3 := (a2'.2.1 j' x' _ hx' (Array.getElem?_eq_getElem hjl)).2.2
          rw [e3]; simpa using this
      obtain ⟨p1, p2⟩ := map_write (w1 := z1.w) (o := .map (es.modify j fun e => { e with val := vx }) M.2) (b := .map k v (M.1.set j ((a, w), nb), M.2)) s2 hg hρ1 rfl rfl rfl rfl (fun z' kk hz => by
        refine ⟨_, hz, (a2'.set (e' := { e with val := vx }) q1 r1 h5 r3 (by simp) (by simp [Array.getElem?_modify, he']) (fun i hi => by simp [Array.getElem?_modify, Ne.symm hi])).kp kk⟩)
      refine ⟨_, _, ?_, p1, s3.trans p2, h8⟩
      rw [← s1]
      simp [Instr.entryStore, run_getO a1, asInt, asIntOf, hfind, run_setO a1]
    · cases h2
  · cases h
theorem MRep.erase {k v : Ty} {M : GMap k v} {es es' : Array MapEntry} {j : Nat} (h : MRep z k v M es) (hs : es'.toList = es.toList.eraseIdx j) : MRep z k v (M.1.eraseIdx j, M.2) es' := by
  obtain ⟨a1, a2, a3, a4⟩ := h
  have key : ∀ {α : Type} (l : List α) (i : Nat), (l.eraseIdx j)[i]? = l[if i < j then i else i + 1]? := fun l i => by
    rw [List.getElem?_eraseIdx]
    split <;> rfl
  have hl : es.toList.length = M.1.length := by simp [a1]
  refine ⟨?_, fun i a e q1 q2 => ?_, fun i i' a b q1 q2 q3 => ?_, fun i a q1 => ?_⟩
  · rw [← Array.length_toList, hs, List.length_eraseIdx, List.length_eraseIdx, hl]
  · rw [key] at q1
    rw [← Array.getElem?_toList, hs, key] at q2
    exact a2 _ a e q1 (by simpa using q2)
  · rw [key] at q1 q2
    have := a3 _ _ a b q1 q2 q3
    split at this <;> split at this <;> omega
  · rw [key] at q1
    exact a4 _ a q1
theorem evDelete_ok {t : TypeId} (tk ty : TypeId) {m ak : AV} {vm vk : Value} {K : AV → Hp → Option β} {r : β} (h : evDelete P t m ak H K = some r) (hH : HRep z H) (hm : ARep z m vm) (hk : ARep z ak vk) : Ok P (Builtin.delete_ #[t, tk] ty #[vm, vk]) z K r := by
  unfold evDelete at h
  split at h
  · rename_i id
    cases hm with | mp _ g sz n hρ =>
    split at h
    · rename_i k v M hg
      obtain ⟨h3, h4⟩ := need_iff.1 h
      obtain ⟨x, h5, h6⟩ := asA_ok h4 hk
      obtain ⟨kt, et, hu, hK, _, _⟩ := mapOk_ok h3
      obtain ⟨_, _, _, es, a1, a2⟩ := hH.real hg hρ
      have a2' : MRep z k v M es := a2
      have hck := checkKey_ok (em := es.isEmpty) z.w typesFuel kt k (keyOk_ok hK).2 10000 (by unfold typesFuel; omega) x vk h5
      obtain ⟨q, f1, f2⟩ := a2'.find hK h5
      have h0 : ∀ z', ARep z' (.tup []) (.tuple #[]) := fun z' => .tup _ _ rfl fun i x u h1 => by simp at h1
      rcases f2 with ⟨rfl, f3⟩ | ⟨j, b, nb, e, rfl, f3, f4, f5, f6, f7⟩
      · have e1 : mdel M x = M := by unfold mdel; rw [mdelL_none f3]
        rw [e1] at h6
        obtain ⟨p1, p2⟩ := map_write (w1 := z.w) (o := .map es M.2) (b := .map k v M) hH hg hρ rfl rfl rfl rfl (fun z' kk hz => ⟨_, hz, a2'.kp kk⟩)
        refine .mk' (z' := { z with w := setO z.w g (.map es M.2) }) ?_ p1 (h0 _) p2 h6
        simp [Builtin.delete_, run_underlying hu, run_getO a1, hck, f1, run_setO a1]
      · have e1 : mdel M x = (M.1.eraseIdx j, M.2) := by unfold mdel; rw [mdelL_at f3 f6 f7]
        rw [e1] at h6
        obtain ⟨p1, p2⟩ := map_write (w1 := z.w) (o := .map (es.eraseIdxIfInBounds j) M.2) (b := .map k v (M.1.eraseIdx j, M.2)) hH hg hρ rfl rfl rfl rfl (fun z' kk hz => ⟨_, hz, (a2'.erase (by
          have hj := (Array.getElem?_eq_some_iff.1 f4).1
          simp [Array.eraseIdxIfInBounds, hj])).kp kk⟩)
        refine .mk' (z' := { z with w := setO z.w g (.map (es.eraseIdxIfInBounds j) M.2) }) ?_ p1 (h0 _) p2 h6
        simp [Builtin.delete_, run_underlying hu, run_getO a1, hck, f1, run_setO a1]
    · cases h
  · cases h
end
end Go.Ab

/- Operations that write or make memory, as the regions carry them out. -/
namespace Go.Ab

section
variable {P : Program} {T : Tbl} {β : Type} {z : Z} {H : Hp}
/-- What an operation yields that is no call. -/
def OkX (P : Program) (s : Sem Next) (z : Z) (K : AV → Hp → Option β) (r : β) : Prop :=
  ∃ x H' z' nx, s.run P z.w = .ok nx z'.w ∧ HRep z' H' ∧ Nx z z' ∧ ((∃ v, nx = .value v ∧ ARep z' x v) ∨ (nx = .skip ∧ x = .junk)) ∧ K x H' = some r
theorem OkX.v {ρ : Operand → Value} {o : Oper} {s : Sem Value} {K : AV → Hp → Option β} {r : β} (he : execOp ρ o = (do pure (.value (← s)))) (h : Ok P s z K r) : OkX P (execOp ρ o) z K r := by
  obtain ⟨x, v, H', z', h1, h2, h3, h4, h5⟩ := h
  exact ⟨x, H', z', .value v, by rw [he, Sem.run_bind, h1]; rfl, h2, h4, .inl ⟨v, rfl, h3⟩, h5⟩
theorem OkX.u {ρ : Operand → Value} {o : Oper} {s : Sem Unit} {K : AV → Hp → Option β} {r : β} (he : execOp ρ o = (do s; pure .skip)) (h : OkU P s z K r) : OkX P (execOp ρ o) z K r := by
  obtain ⟨H', z', h1, h2, h3, h4⟩ := h
  exact ⟨.junk, H', z', .skip, by rw [he, Sem.run_bind, h1]; rfl, h2, h3, .inr ⟨rfl, rfl⟩, h4⟩
theorem OkX.call {ρ : Operand → Value} {o : Oper} {c : Call} {b : Builtin} {s : Sem Value} {K : AV → Hp → Option β} {r : β} (ho : o.op = .call c) (hc : c.callee = .builtin b)
    (hb : ∀ consts, builtin b c.argTypes o.type consts (c.args.map ρ) = (do pure (.value (← s)))) (h : Ok P s z K r) : OkX P (execOp ρ o) z K r := by
  obtain ⟨x, v, H', z', h1, h2, h3, h4, h5⟩ := h
  refine ⟨x, H', z', .value v, ?_, h2, h4, .inl ⟨v, rfl, h3⟩, h5⟩
  unfold execOp
  simp only [ho, resolve, hc, Sem.run_bind, Sem.run_pure, Result.andThen_ok, invoke, hb, h1]
def isCall (o : Oper) : Bool := match o.op with | .call c => (match c.callee with | .value _ => true | _ => false) | _ => false
theorem PReps.map {ps : Array (Nat × Operand)} {r : Operand → AV} {ρ : Operand → Value} (hr : ∀ x, ARep z (r x) (ρ x)) : PReps z (ps.toList.map fun x => (x.1, r x.2)) (ps.map fun (i, x) => (i, ρ x)).toList := by
  refine ⟨by simp, fun i x y h1 h2 => ?_⟩
  simp only [Array.toList_map] at h2
  rw [List.getElem?_map] at h1 h2
  obtain ⟨q, h3, rfl⟩ := Option.map_eq_some_iff.1 h1
  rw [h3] at h2
  simp at h2
  subst h2
  exact ⟨rfl, hr _⟩
theorem evW_ok {o : Oper} {an : Ann} {r : Operand → AV} {ρ : Operand → Value} {K : AV → Hp → Option β} {res : β} (h : evW P T o an r H K = some res) (hH : HRep z H) (hd : mkOp P o = true → ¬ z.D (an.ids.headD 0)) (hr : ∀ x, ARep z (r x) (ρ x)) (hc : isCall o = false) :
    OkX P (execOp ρ o) z K res := by
  unfold evW at h
  split at h
  · rename_i t ho; exact .v (s := Instr.alloc t true (.tuple #[])) (by simp [execOp, ho]) (evAlloc_ok h hH (hd (by simp [mkOp, ho])))
  · rename_i t x ho; exact .v (s := Instr.box t (ρ x)) (by simp [execOp, ho]) (evBox_ok h hH (hd (by simp [mkOp, ho])) (hr x))
  · rename_i t n ps ho
    exact .v (s := Instr.buildSlice t n (ps.map fun (i, x) => (i, ρ x))) (by simp [execOp, ho]) (evBuildSlice_ok h hH (hd (by simp [mkOp, ho])) (PReps.map hr))
  · rename_i t a x ho; exact .u (s := Instr.storeAt t (ρ a) (ρ x)) (by simp [execOp, ho]) (evStore_ok h hH (hr a) (hr x))
  · rename_i s d x ho
    split at h
    · obtain ⟨y, v, h1, h2, h3⟩ := evConvert_ok h hH (hr x)
      exact .v (s := convert s d (ρ x)) (by simp [execOp, ho]) ⟨y, v, H, z, h1, hH, h2, Nx.refl z, h3⟩
    · exact .v (s := convert s d (ρ x)) (by simp [execOp, ho]) (evConvertW_ok h hH (fun hs => hd (by simp [mkOp, ho, hs])) (hr x))
  · rename_i t l c ho; exact .v (s := Instr.makeSlice t (ρ l) (ρ c)) (by simp [execOp, ho]) (evMake_ok h hH (hd (by simp [mkOp, ho])) (hr l) (hr c))
  · rename_i t q ho; exact .v (s := Instr.makeMap t (q.map ρ)) (by simp [execOp, ho]) (evMakeMap_ok h hH (hd (by simp [mkOp, ho])) (.map hr))
  · rename_i t m k x ho; exact .u (s := Instr.mapUpdate t (ρ m) (ρ k) (ρ x)) (by simp [execOp, ho]) (evMapUpd_ok h hH (hr m) (hr k) (hr x))
  · rename_i t m k x ho; exact .u (s := Instr.mapUpdate t (ρ m) (ρ k) (ρ x)) (by simp [execOp, ho]) (evMapUpd_ok h hH (hr m) (hr k) (hr x))
  · rename_i t m k ho; exact .v (s := Instr.mapEntry t (ρ m) (ρ k)) (by simp [execOp, ho]) (evMapEntry_ok h hH (hr m) (hr k))
  · rename_i t m s x ho; exact .u (s := Instr.entryStore t (ρ m) (ρ s) (ρ x)) (by simp [execOp, ho]) (evEntryStore_ok h hH (hr m) (hr s) (hr x))
  · rename_i c ho
    have two : ∀ {α : Type} {l : Array α} {a b : α}, l.toList = [a, b] → l = #[a, b] := fun hl => by apply Array.ext'; rw [hl]
    split at h
    · rename_i hcb
      split at h
      · rename_i s x t u ha ht
        have e1 := two ha
        have e2 := two ht
        have hb : ∀ consts, builtin .append c.argTypes o.type consts (c.args.map ρ) = (do pure (.value (← Builtin.append_ #[t, u] o.type #[ρ s, ρ x]))) := fun consts => by simp [builtin, e1, e2]
        split at h
        · rename_i k hu; exact .call ho hcb hb (evAppendZ_ok o.type h hH (hd (by simp [mkOp, ho, hcb])) (hr s) (hr x) hu)
        · rename_i e' hu; exact .call ho hcb hb (evAppend_ok o.type h hH (hd (by simp [mkOp, ho, hcb])) (hr s) (hr x) (.inl ⟨e', hu⟩))
        · rename_i hu; exact .call ho hcb hb (evAppend_ok o.type h hH (hd (by simp [mkOp, ho, hcb])) (hr s) (hr x) (.inr hu))
        · cases h
      · cases h
    · rename_i hcb
      split at h
      · rename_i d x t ts ha ht
        have e1 := two ha
        refine .call (s := Builtin.copy_ c.argTypes o.type #[ρ d, ρ x]) ho hcb (fun consts => by simp [builtin, e1]) ?_
        have e0 : c.argTypes[0]? = some t := by rw [← Array.getElem?_toList, ht]; rfl
        have e2 : Builtin.copy_ c.argTypes o.type #[ρ d, ρ x] = Builtin.copy_ #[t, t] o.type #[ρ d, ρ x] := by simp [Builtin.copy_, e0]
        rw [e2]
        exact evCopy_ok o.type h hH (hr d) (hr x)
      · cases h
    · rename_i hcb
      split at h
      · rename_i m k t ts ha ht
        have e1 := two ha
        refine .call (s := Builtin.delete_ c.argTypes o.type #[ρ m, ρ k]) ho hcb (fun consts => by simp [builtin, e1]) ?_
        have e0 : c.argTypes[0]? = some t := by rw [← Array.getElem?_toList, ht]; rfl
        have e2 : Builtin.delete_ c.argTypes o.type #[ρ m, ρ k] = Builtin.delete_ #[t, t] o.type #[ρ m, ρ k] := by simp [Builtin.delete_, e0]
        rw [e2]
        exact evDelete_ok t o.type h hH (hr m) (hr k)
      · cases h
    · rename_i f hcb
      simp [isCall, ho, hcb] at hc
    · cases h
  · cases h
end
end Go.Ab

/- Shapes: what has the form of a shape is what the shape's typed parts say. -/
namespace Go.Ab

theorem untidy_tidy : (ts : List Ty) → (x : HL ts) → untidy ts (tidy ts x) = x
  | [], _ => rfl
  | [_], x => rfl
  | _ :: u :: r, x => by
    show (x.1, untidy (u :: r) (tidy (u :: r) x.2)) = x
    rw [untidy_tidy (u :: r) x.2]
    rfl

section
variable {β : Type} {z : Z}
theorem own?_eq {es id i j : Nat} {a : AV} (h : a.own? es id i j = true) : a = .own es id i j := by
  unfold AV.own? at h
  split at h
  · simp only [Bool.and_eq_true, beq_nat] at h
    obtain ⟨⟨⟨rfl, rfl⟩, rfl⟩, rfl⟩ := h
    rfl
  · cases h
theorem ownx?_eq {es id i j : Nat} {a : AV} (h : a.ownx? es id j = some i) : a = .own es id i j := by
  unfold AV.ownx? at h
  split at h
  · rename_i es' id' i' j'
    cases hb : (Nat.beq es es' && Nat.beq id id' && Nat.beq j j') <;> rw [hb] at h <;> simp at h
    simp only [Bool.and_eq_true, beq_nat] at hb
    obtain ⟨⟨rfl, rfl⟩, rfl⟩ := hb
    rw [h]
  · cases h
theorem sl?_eq {es id : Nat} {y : Nat × Nat} {a : AV} (h : a.sl? es id = some y) : a = .sl es id y.1 y.2 := by
  unfold AV.sl? at h
  split at h
  · rename_i es' id' i n
    cases hb : (Nat.beq es es' && Nat.beq id id') <;> rw [hb] at h <;> simp at h
    simp only [Bool.and_eq_true, beq_nat] at hb
    obtain ⟨rfl, rfl⟩ := hb
    rw [← h]
  · cases h
theorem slf?_eq {es id : Nat} {a : AV} (h : a.slf? es id = true) : a = .slf es id := by
  unfold AV.slf? at h
  split at h
  · simp only [Bool.and_eq_true, beq_nat] at h
    obtain ⟨rfl, rfl⟩ := h
    rfl
  · cases h
theorem mp?_eq {id : Nat} {a : AV} (h : a.mp? id = true) : a = .mp id := by
  unfold AV.mp? at h
  split at h
  · rw [beq_nat] at h; rw [h]
  · cases h
theorem pt?_eq {u : Ty} {l : List u.den} {a : AV} (h : a.pt? u = some l) : a = .pt u l 0 0 := by
  unfold AV.pt? at h
  split at h
  · split at h
    · rename_i t l' ht
      subst ht
      simp at h
      rw [h]
    · cases h
  · cases h
theorem fn?_ok {f : FuncId} {y : List AV × List AV} {a : AV} {v : Value} (h : a.fn? f = some y) (ha : ARep z a v) : ARep z (.fn f y.1 y.2) v := by
  unfold AV.fn? at h
  split at h
  · rename_i g a c
    cases hb : Nat.beq f g <;> rw [hb] at h <;> simp at h
    rw [beq_nat] at hb
    subst hb
    subst h
    exact ha
  · rename_i g a c
    cases hb : (Nat.beq f g && (Nat.beq a.size 0 && Nat.beq c.size 0)) <;> rw [hb] at h <;> simp at h
    simp only [Bool.and_eq_true, beq_nat] at hb
    obtain ⟨rfl, h1, h2⟩ := hb
    subst h
    obtain rfl := ha.v.opq.1
    exact .fn _ _ _ _ _ h1 h2 (fun i x v h => by simp at h) (fun i x v h => by simp at h)
  · cases h
theorem nilV?_eq {v x : Value} (h : nilV? v x = true) : x = v := by
  unfold nilV? at h
  split at h <;> first | rfl | cases h
theorem nil?_eq {v : Value} {a : AV} (h : a.nil? v = true) : a = .p .opq v := by
  unfold AV.nil? at h
  split at h
  · rw [nilV?_eq h]
  · cases h
theorem aggA_ok {a : AV} {l : List AV} {v : Value} (h : cellsA a = some l) (hg : aggA a = true) (ha : ARep z a v) : ∃ cs, v = .agg cs := by
  obtain ⟨_, _, q3⟩ := cellsA_ok h ha
  rw [hg] at q3
  exact ⟨_, q3⟩

mutual
theorem co_ok : (k : Kd) → {r : List Ty} → {a : AV} → {x : HL r} → {K : HL (k.lv r) → Option β} → {res : β} → {v : Value} → co k r a x K = some res → ARep z a v →
    ∃ y, K y = some res ∧ ARep z (emb k r y).1 v ∧ (emb k r y).2 = x
  | .p t, r, a, x, K, res, v, h, ha => by
    have h : asA t a (fun y => K (y, x)) = some res := h
    obtain ⟨y, h1, h2⟩ := asA_ok h ha
    exact ⟨(y, x), h2, .p _ _ _ h1, rfl⟩
  | .pt t, r, a, x, K, res, v, h, ha => by
    obtain ⟨l, h1, h2⟩ := ob_iff.1 h
    rw [pt?_eq h1] at ha
    exact ⟨(l, x), h2, ha, rfl⟩
  | .own es id i j, r, a, x, K, res, v, h, ha => by
    obtain ⟨h1, h2⟩ := need_iff.1 h
    rw [own?_eq h1] at ha
    exact ⟨x, h2, ha, rfl⟩
  | .ownx es id j, r, a, x, K, res, v, h, ha => by
    obtain ⟨i, h1, h2⟩ := ob_iff.1 h
    rw [ownx?_eq h1] at ha
    exact ⟨(i, x), h2, ha, rfl⟩
  | .sl es id, r, a, x, K, res, v, h, ha => by
    obtain ⟨y, h1, h2⟩ := ob_iff.1 h
    rw [sl?_eq h1] at ha
    exact ⟨(y.1, y.2, x), h2, ha, rfl⟩
  | .slf es id, r, a, x, K, res, v, h, ha => by
    obtain ⟨h1, h2⟩ := need_iff.1 h
    rw [slf?_eq h1] at ha
    exact ⟨x, h2, ha, rfl⟩
  | .mp id, r, a, x, K, res, v, h, ha => by
    obtain ⟨h1, h2⟩ := need_iff.1 h
    rw [mp?_eq h1] at ha
    exact ⟨x, h2, ha, rfl⟩
  | .any, r, a, x, K, res, v, h, ha => ⟨x, h, .junk v, rfl⟩
  | .fn f ka kc, r, a, x, K, res, v, h, ha => by
    obtain ⟨y, h1, h2⟩ := ob_iff.1 h
    obtain ⟨h3, h4⟩ := need_iff.1 h2
    simp only [Bool.and_eq_true, beq_nat] at h3
    have hf := fn?_ok h1 ha
    cases hf with | fn _ _ _ va vc e1 e2 e3 e4 =>
    obtain ⟨y1, q1, q2, q3⟩ := coL_ok kc (vs := vc.toList) h4 ⟨by simp [e2], fun i a v p1 p2 => e4 i a v p1 (by simpa using p2)⟩ h3.2
    obtain ⟨y2, q4, q5, q6⟩ := coL_ok ka (vs := va.toList) q1 ⟨by simp [e1], fun i a v p1 p2 => e3 i a v p1 (by simpa using p2)⟩ h3.1
    refine ⟨y2, q4, ?_, by simp only [emb, q6, q3]⟩
    simp only [emb, q6]
    refine .fn _ _ _ _ _ (by have := q5.1; simpa using this.symm) (by have := q2.1; simpa using this.symm) (fun i x v p1 p2 => q5.2 i x v p1 (by simpa using p2)) (fun i x v p1 p2 => q2.2 i x v p1 (by simpa using p2))
  | .agg l, r, a, x, K, res, v, h, ha => by
    obtain ⟨c, h1, h2⟩ := ob_iff.1 h
    obtain ⟨h3, h4⟩ := need_iff.1 h2
    simp only [Bool.and_eq_true, beq_nat] at h3
    obtain ⟨cs, rfl⟩ := aggA_ok h1 h3.1 ha
    obtain ⟨p1, p2, _⟩ := cellsA_ok h1 ha
    obtain ⟨y, q1, q2, q3⟩ := coL_ok l (vs := cs.toList) h4 p1 h3.2
    refine ⟨y, q1, ?_, by simp only [emb, q3]⟩
    simp only [emb]
    exact .agg _ _ (by have := q2.1; simpa using this.symm) (fun v hv => p2 v hv) fun i x v e1 e2 => q2.2 i x v e1 (by simpa using e2)
  | .tup l, r, a, x, K, res, v, h, ha => by
    obtain ⟨c, h1, h2⟩ := ob_iff.1 h
    obtain ⟨h3, h4⟩ := need_iff.1 h2
    rw [beq_nat] at h3
    obtain ⟨vs, rfl, p1, p2⟩ := tup?_ok h1 ha
    obtain ⟨y, q1, q2, q3⟩ := coL_ok l (vs := vs.toList) h4 ⟨by simp [p1], fun i a v e1 e2 => p2 i a v e1 (by simpa using e2)⟩ h3
    refine ⟨y, q1, ?_, by simp only [emb, q3]⟩
    simp only [emb]
    exact .tup _ _ (by have := q2.1; simpa using this.symm) fun i x v e1 e2 => q2.2 i x v e1 (by simpa using e2)
  | .nilp u, r, a, x, K, res, v, h, ha => by
    obtain ⟨h1, h2⟩ := need_iff.1 h
    rw [nil?_eq h1] at ha
    exact ⟨x, h2, ha, rfl⟩
theorem coL_ok : (k : KdL) → {r : List Ty} → {c : List AV} → {x : HL r} → {K : HL (k.lv r) → Option β} → {res : β} → {vs : List Value} → coL k r c x K = some res → AReps z c vs → c.length = k.length →
    ∃ y, K y = some res ∧ AReps z (embL k r y).1 vs ∧ (embL k r y).2 = x
  | .nil, r, c, x, K, res, vs, h, hc, hl => by
    obtain rfl : c = [] := List.eq_nil_of_length_eq_zero hl
    exact ⟨x, h, hc, rfl⟩
  | .cons k l, r, [], x, K, res, vs, h, hc, hl => by simp [KdL.length] at hl
  | .cons k l, r, a :: c, x, K, res, [], h, hc, hl => by have := hc.1; simp at this
  | .cons k l, r, a :: c, x, K, res, v :: vs, h, hc, hl => by
    simp only [coL, List.tail_cons, List.headD_cons] at h
    obtain ⟨y1, q1, q2, q3⟩ := coL_ok l h hc.tail (by simpa [KdL.length] using hl)
    obtain ⟨y2, q4, q5, q6⟩ := co_ok k q1 hc.head
    refine ⟨y2, q4, ?_, by simp only [embL, q6, q3]⟩
    simp only [embL, q6]
    exact .cons q5 q2
end

theorem coB_ok {k : BKd} {r : List Ty} {b : Blk} {x : HL r} {K : HL (k.lv r) → Option β} {res : β} (h : coB k r b x K = some res) :
    (∀ {g sz n : Nat}, BRep z g sz n b → ∃ y, K y = some res ∧ BRep z g sz n (embB k r y).1 ∧ (embB k r y).2 = x) ∧ (BEmpty b → ∃ y, K y = some res ∧ BEmpty (embB k r y).1 ∧ (embB k r y).2 = x) := by
  cases k with
  | vars l =>
    obtain ⟨c, h1, h2⟩ := ob_iff.1 h
    unfold Blk.vars? at h1
    split at h1
    · rename_i c'
      cases hb : Nat.beq c'.length l.length <;> rw [hb] at h1 <;> simp at h1
      subst h1
      rw [beq_nat] at hb
      refine ⟨fun {g sz n} hB => ?_, fun hB => hB.elim⟩
      obtain ⟨cs, e, fr, a1, a2, a3, a4, a5, a6⟩ := hB
      obtain ⟨y, q1, q2, q3⟩ := coL_ok l (vs := cs.toList) h2 ⟨by simp [a4, a3], fun i a v p1 p2 => a5 i a v p1 (by simpa using p2)⟩ hb
      refine ⟨y, q1, ?_, by simp only [embB, q3]⟩
      simp only [embB]
      exact ⟨cs, e, fr, a1, a2, a3, by have := q2.1; simp [a3] at this; exact this, fun i a v p1 p2 => q2.2 i a v p1 (by simpa using p2), a6⟩
    · cases h1
  | rows e t =>
    obtain ⟨l, h1, h2⟩ := ob_iff.1 h
    unfold Blk.rows? at h1
    split at h1
    · rename_i e' t' l'
      cases hb : Nat.beq e e' <;> rw [hb] at h1 <;> simp at h1
      rw [beq_nat] at hb
      subst hb
      obtain ⟨ht, h1⟩ := h1
      subst ht
      subst h1
      exact ⟨fun hB => ⟨(l', x), h2, hB, rfl⟩, fun hB => ⟨(l', x), h2, hB, rfl⟩⟩
    · cases h1
  | map kt vt =>
    obtain ⟨m, h1, h2⟩ := ob_iff.1 h
    unfold Blk.map? at h1
    split at h1
    · rename_i k' v' m'
      split at h1
      · rename_i hm
        have e1 : k' = kt ∧ v' = vt := by
          unfold mapTy at hm
          injection hm with e1 e2
          injection e1 with e1
          injection e1 with e1 e3
          injection e1 with e1 e4
          exact ⟨e1, e4⟩
        obtain ⟨rfl, rfl⟩ := e1
        simp only [Option.some.injEq] at h1
        subst h1
        exact ⟨fun hB => ⟨(m', x), h2, hB, rfl⟩, fun hB => hB.elim⟩
      · cases h1
    · cases h1
theorem coE_ok {k : BKd} {r : List Ty} {id : Nat} {e : Ent} {x : HL r} {K : HL (k.lv r) → Option β} {res : β} (h : coB k r e.b x K = some res) (he : ERep z id e) :
    ∃ y, K y = some res ∧ ERep z id ⟨e.fz, (embB k r y).1⟩ ∧ (embB k r y).2 = x := by
  unfold ERep at *
  cases hρ : z.ρ id with
  | no => rw [hρ] at he; exact he.elim
  | virt =>
    rw [hρ] at he
    exact (coB_ok (z := z) h).2 he
  | real g sz n =>
    rw [hρ] at he
    obtain ⟨h1, h2, h3, h4⟩ := he
    obtain ⟨y, q1, q2, q3⟩ := (coB_ok h).1 h4
    exact ⟨y, q1, ⟨h1, h2, h3, q2⟩, q3⟩
theorem hblk?_ok {fz : Bool} {H : Hp} {id : Nat} {b : Blk} (h : hblk? fz H id = some b) : hget H id = some ⟨fz, b⟩ := by
  unfold hblk? at h
  split at h
  · rename_i e he
    cases hb : (e.fz == fz) <;> rw [hb] at h <;> simp at h
    obtain ⟨f, b'⟩ := e
    simp at hb h
    rw [he, hb, h]
  · cases h
theorem coH_ok {H : Hp} (hH : ∀ id e, hget H id = some e → ERep z id e) : (hs : HK) → {r : List Ty} → {x : HL r} → {K : HL (hkLv hs r) → Option β} → {res : β} → coH hs r H x K = some res →
    ∃ y, K y = some res ∧ (embH hs r y).2 = x ∧ ∀ id e, hget (embH hs r y).1 id = some e → ERep z id e ∧ ∃ e0, hget H id = some e0 ∧ e0.fz = e.fz
  | [], r, x, K, res, h => ⟨x, h, rfl, fun id e h => by simp [embH, hget] at h⟩
  | (id, fz, k) :: hs, r, x, K, res, h => by
    obtain ⟨b, h1, h2⟩ := ob_iff.1 h
    have hb := hblk?_ok h1
    obtain ⟨y1, q1, q2, q3⟩ := coH_ok hH hs h2
    obtain ⟨y2, q4, q5, q6⟩ := coE_ok (e := ⟨fz, b⟩) q1 (hH _ _ hb)
    refine ⟨y2, q4, by simp only [embH, q6, q2], fun i e he => ?_⟩
    simp only [embH, q6, hget] at he
    cases hi : Nat.beq id i <;> rw [hi] at he <;> simp only [cond_true, cond_false] at he
    · exact q3 i e he
    · rw [beq_nat] at hi
      subst hi
      injection he with he
      subst he
      exact ⟨q5, _, hb, rfl⟩
/-- What has the shape. -/
theorem Shp.co_ok {s : Shp} {vs : List AV} {H : Hp} {K : s.D → Option β} {res : β} {vals : List Value} (h : s.co vs H K = some res) (hH : ∀ id e, hget H id = some e → ERep z id e) (hv : AReps z vs vals) :
    s.ok = true ∧ ∃ t, K t = some res ∧ AReps z (s.emb t).1 vals ∧ ∀ id e, hget (s.emb t).2 id = some e → ERep z id e ∧ ∃ e0, hget H id = some e0 ∧ e0.fz = e.fz := by
  unfold Shp.co at h
  obtain ⟨h1, h2⟩ := need_iff.1 h
  simp only [Bool.and_eq_true, beq_nat] at h1
  obtain ⟨y, q1, q2, q3⟩ := coH_ok hH s.hs h2
  obtain ⟨y2, q4, q5, q6⟩ := coL_ok s.ks q1 hv h1.2
  refine ⟨h1.1, _, q4, ?_⟩
  have key : s.emb (tidy s.tys y2) = ((embL s.ks (hkLv s.hs []) y2).1, (embH s.hs [] y).1) := by
    show ((embL s.ks (hkLv s.hs []) (untidy s.tys (tidy s.tys y2))).1, (embH s.hs [] (embL s.ks (hkLv s.hs []) (untidy s.tys (tidy s.tys y2))).2).1) = _
    rw [show untidy s.tys (tidy s.tys y2) = y2 from untidy_tidy _ _, q6]
  rw [key]
  exact ⟨q5, q3⟩
end
end Go.Ab

/- Numbers: what a value names; other numbers for it. -/
namespace Go.Ab

theorem memN_iff {n : Nat} : ∀ {l : List Nat}, memN n l = true ↔ n ∈ l
  | [] => by simp [memN]
  | i :: l => by
    simp only [memN, List.mem_cons]
    by_cases h : i = n
    · subst h; simp [(beq_nat i i).2 rfl]
    · rw [beq_nat_ff h, cond_false, memN_iff]
      constructor
      · exact .inr
      · rintro (h' | h')
        · exact absurd h'.symm h
        · exact h'
theorem allIn_iff {l : List Nat} : ∀ {r : List Nat}, allIn r l = true ↔ ∀ i ∈ r, i ∈ l
  | [] => by simp [allIn]
  | i :: r => by simp only [allIn, Bool.and_eq_true, memN_iff, allIn_iff, List.mem_cons, forall_eq_or_imp]
theorem nodupN_iff : ∀ {l : List Nat}, nodupN l = true ↔ l.Nodup
  | [] => by simp [nodupN]
  | i :: l => by
    simp only [nodupN, Bool.and_eq_true, Bool.not_eq_true', List.nodup_cons, nodupN_iff]
    constructor
    · rintro ⟨h1, h2⟩; exact ⟨fun h => (by rw [memN_iff.2 h] at h1; cases h1), h2⟩
    · rintro ⟨h1, h2⟩
      refine ⟨?_, h2⟩
      cases hm : memN i l
      · rfl
      · exact absurd (memN_iff.1 hm) h1
theorem idsL_mem {l : List AV} {a : AV} {id : Nat} (h : a ∈ l) (hi : id ∈ AV.ids a) : id ∈ AV.idsL l := by
  induction l with
  | nil => cases h
  | cons b l ih =>
    simp only [AV.idsL, List.mem_append]
    rcases List.mem_cons.1 h with rfl | h
    · exact .inl hi
    · exact .inr (ih h)
theorem renL_get (f : Nat → Option Nat) (l : List AV) (i : Nat) : (AV.renL f l)[i]? = (l[i]?).map (AV.ren f) := by
  induction l generalizing i with
  | nil => simp [AV.renL]
  | cons a l ih =>
    match i with
    | 0 => simp [AV.renL]
    | i + 1 => simpa [AV.renL] using ih i
theorem renL_len (f : Nat → Option Nat) (l : List AV) : (AV.renL f l).length = l.length := by
  induction l with
  | nil => rfl
  | cons a l ih => simp [AV.renL, ih]

section
variable {z z' : Z}
/-- Under other numbers. -/
theorem ARep.ren {a : AV} {v : Value} {f : Nat → Option Nat} (h : ARep z a v) (hw : z'.w = z.w) (hM : z'.M = z.M) (hf : ∀ id k, id ∈ AV.ids a → f id = some k → z'.ρ k = z.ρ id) : ARep z' (AV.ren f a) v := by
  obtain ⟨w', M', C', ρ', D'⟩ := z'
  simp only at hw hM hf
  subst hw
  subst hM
  induction h with
  | p t x v h => exact .p t x v h
  | pt t l i j b off h1 h2 h3 => exact .pt t l i j b off h1 h2 h3
  | own es id i j g sz n h =>
    simp only [AV.ren]
    cases hk : f id with
    | none => exact .junk _
    | some k => exact .own es k i j g sz n (by show ρ' k = _; rw [hf id k (by simp [AV.ids]) hk, h])
  | slV es id off A h =>
    simp only [AV.ren]
    cases hk : f id with
    | none => exact .junk _
    | some k => exact .slV es k off A (by show ρ' k = _; rw [hf id k (by simp [AV.ids]) hk, h])
  | slE es id off g sz m o h =>
    simp only [AV.ren]
    cases hk : f id with
    | none => exact .junk _
    | some k => exact .slE es k off g sz m o (by show ρ' k = _; rw [hf id k (by simp [AV.ids]) hk, h])
  | sl es id off n g sz m c h h1 h2 h3 =>
    simp only [AV.ren]
    cases hk : f id with
    | none => exact .junk _
    | some k => exact .sl es k off n g sz m c (by show ρ' k = _; rw [hf id k (by simp [AV.ids]) hk, h]) h1 h2 h3
  | slfV es id A h =>
    simp only [AV.ren]
    cases hk : f id with
    | none => exact .junk _
    | some k => exact .slfV es k A (by show ρ' k = _; rw [hf id k (by simp [AV.ids]) hk, h])
  | slf es id g sz n c h h1 h2 h3 =>
    simp only [AV.ren]
    cases hk : f id with
    | none => exact .junk _
    | some k => exact .slf es k g sz n c (by show ρ' k = _; rw [hf id k (by simp [AV.ids]) hk, h]) h1 h2 h3
  | mp id g sz n h =>
    simp only [AV.ren]
    cases hk : f id with
    | none => exact .junk _
    | some k => exact .mp k g sz n (by show ρ' k = _; rw [hf id k (by simp [AV.ids]) hk, h])
  | fn g a c va vc ha hc h1 h2 ih1 ih2 =>
    simp only [AV.ren]
    refine .fn g _ _ va vc (by rw [renL_len]; exact ha) (by rw [renL_len]; exact hc) (fun i x v p1 p2 => ?_) (fun i x v p1 p2 => ?_)
    · rw [renL_get] at p1
      obtain ⟨y, p3, rfl⟩ := Option.map_eq_some_iff.1 p1
      exact ih1 i y v p3 p2 fun id k hi hk => hf id k (by simp only [AV.ids, List.mem_append]; exact .inl (idsL_mem (List.mem_of_getElem? p3) hi)) hk
    · rw [renL_get] at p1
      obtain ⟨y, p3, rfl⟩ := Option.map_eq_some_iff.1 p1
      exact ih2 i y v p3 p2 fun id k hi hk => hf id k (by simp only [AV.ids, List.mem_append]; exact .inr (idsL_mem (List.mem_of_getElem? p3) hi)) hk
  | agg l cs hs h1 h ih =>
    simp only [AV.ren]
    refine .agg _ cs (by rw [renL_len]; exact hs) h1 fun i x v p1 p2 => ?_
    rw [renL_get] at p1
    obtain ⟨y, p3, rfl⟩ := Option.map_eq_some_iff.1 p1
    exact ih i y v p3 p2 fun id k hi hk => hf id k (by simp only [AV.ids]; exact idsL_mem (List.mem_of_getElem? p3) hi) hk
  | tup l vs hs h ih =>
    simp only [AV.ren]
    refine .tup _ vs (by rw [renL_len]; exact hs) fun i x v p1 p2 => ?_
    rw [renL_get] at p1
    obtain ⟨y, p3, rfl⟩ := Option.map_eq_some_iff.1 p1
    exact ih i y v p3 p2 fun id k hi hk => hf id k (by simp only [AV.ids]; exact idsL_mem (List.mem_of_getElem? p3) hi) hk
  | junk v => exact .junk v
theorem AReps.ren {l : List AV} {vs : List Value} {f : Nat → Option Nat} (h : AReps z l vs) (hw : z'.w = z.w) (hM : z'.M = z.M) (hf : ∀ id k, id ∈ AV.idsL l → f id = some k → z'.ρ k = z.ρ id) : AReps z' (AV.renL f l) vs := by
  refine ⟨by rw [renL_len]; exact h.1, fun i a v p1 p2 => ?_⟩
  rw [renL_get] at p1
  obtain ⟨y, p3, rfl⟩ := Option.map_eq_some_iff.1 p1
  exact (h.2 i y v p3 p2).ren hw hM fun id k hi hk => hf id k (idsL_mem (List.mem_of_getElem? p3) hi) hk
mutual
theorem ren_some : (a : AV) → AV.ren some a = a
  | .p _ _ | .pt _ _ _ _ | .own _ _ _ _ | .sl _ _ _ _ | .slf _ _ | .mp _ | .junk => rfl
  | .fn g a c => by simp only [AV.ren, renL_some a, renL_some c]
  | .agg l => by simp only [AV.ren, renL_some l]
  | .tup l => by simp only [AV.ren, renL_some l]
theorem renL_some : (l : List AV) → AV.renL some l = l
  | [] => rfl
  | a :: l => by simp only [AV.renL, ren_some a, renL_some l]
end
/-- Where the numbers that it names stand for the same. -/
theorem ARep.rho {a : AV} {v : Value} (h : ARep z a v) (hw : z'.w = z.w) (hM : z'.M = z.M) (hf : ∀ id ∈ AV.ids a, z'.ρ id = z.ρ id) : ARep z' a v := by
  have := h.ren (f := some) hw hM fun id k hi hk => by
    injection hk with hk
    subst hk
    exact hf id hi
  rwa [ren_some] at this
theorem AReps.rho {l : List AV} {vs : List Value} (h : AReps z l vs) (hw : z'.w = z.w) (hM : z'.M = z.M) (hf : ∀ id ∈ AV.idsL l, z'.ρ id = z.ρ id) : AReps z' l vs := by
  have := h.ren (f := some) hw hM fun id k hi hk => by
    injection hk with hk
    subst hk
    exact hf id hi
  rwa [renL_some] at this
/-- A block under other numbers. -/
theorem BRep.ren {g sz n : Nat} {b : Blk} {f : Nat → Option Nat} {fz : Bool} (h : BRep z g sz n b) (hw : z'.w = z.w) (hM : z'.M = z.M) (hf : ∀ id k, id ∈ Ent.ids ⟨fz, b⟩ → f id = some k → z'.ρ k = z.ρ id) : BRep z' g sz n (b.ren f) := by
  cases b with
  | vars c =>
    obtain ⟨cs, e, fr, a1, a2, a3, a4, a5, a6⟩ := h
    refine ⟨cs, e, fr, by rw [hw]; exact a1, a2, a3, by rw [renL_len]; exact a4, fun i a v p1 p2 => ?_, a6⟩
    rw [renL_get] at p1
    obtain ⟨y, p3, rfl⟩ := Option.map_eq_some_iff.1 p1
    exact (a5 i y v p3 p2).ren hw hM fun id k hi hk => hf id k (by simp only [Ent.ids]; exact idsL_mem (List.mem_of_getElem? p3) hi) hk
  | rows e t l =>
    obtain ⟨cs, fr, a1, a2, a3, a4, a5, a6, a7⟩ := h
    refine ⟨cs, fr, by rw [hw]; exact a1, a2, a3, a4, a5, a6, fun i x hx => ?_⟩
    obtain ⟨u, b1, b2⟩ := a7 i x hx
    exact ⟨u, by rw [hw, hM]; exact b1, b2⟩
  | map kt vt m =>
    obtain ⟨es, a1, a2, a3, a4⟩ := h
    exact ⟨es, by rw [hw]; exact a1, a2, fun i x e q1 q2 => by rw [hw, hM]; exact a3 i x e q1 q2, a4⟩
  | fmap kt l =>
    obtain ⟨es, clock, a1, a2, a3⟩ := h
    refine ⟨es, clock, by rw [hw]; exact a1, by simp [a2], fun i x e q1 q2 => ?_⟩
    rw [List.getElem?_map] at q1
    obtain ⟨y, q3, rfl⟩ := Option.map_eq_some_iff.1 q1
    obtain ⟨b1, b2⟩ := a3 i y e q3 q2
    refine ⟨by rw [hw, hM]; exact b1, b2.ren hw hM fun id k hi hk => hf id k ?_ hk⟩
    simp only [Ent.ids, List.mem_flatMap]
    exact ⟨y, List.mem_of_getElem? q3, hi⟩
end
end Go.Ab

/- A state's part, under other numbers. -/
namespace Go.Ab

theorem noOf_mem : ∀ {ps : List (Nat × Nat)} {id k : Nat}, noOf ps id = some k → (id, k) ∈ ps
  | (i, j) :: ps, id, k, h => by
    simp only [noOf] at h
    cases hb : Nat.beq i id <;> rw [hb] at h <;> simp only [cond_true, cond_false] at h
    · exact List.mem_cons_of_mem _ (noOf_mem h)
    · rw [beq_nat] at hb
      simp only [Option.some.injEq] at h
      subst hb; subst h
      exact List.mem_cons_self
def idOf : List (Nat × Nat) → Nat → Option Nat
  | [], _ => none
  | (i, k) :: r, n => bif Nat.beq k n then some i else idOf r n
theorem idOf_mem : ∀ {ps : List (Nat × Nat)} {id k : Nat}, idOf ps k = some id → (id, k) ∈ ps
  | (i, j) :: ps, id, k, h => by
    simp only [idOf] at h
    cases hb : Nat.beq j k <;> rw [hb] at h <;> simp only [cond_true, cond_false] at h
    · exact List.mem_cons_of_mem _ (idOf_mem h)
    · rw [beq_nat] at hb
      simp only [Option.some.injEq] at h
      subst hb; subst h
      exact List.mem_cons_self
theorem mem_sndN {ps : List (Nat × Nat)} {id k : Nat} (h : (id, k) ∈ ps) : k ∈ sndN ps := by
  induction ps with
  | nil => cases h
  | cons x ps ih =>
    obtain ⟨i, j⟩ := x
    rcases List.mem_cons.1 h with h | h
    · injection h with h1 h2; subst h2; exact List.mem_cons_self
    · exact List.mem_cons_of_mem _ (ih h)
theorem mem_fstN {ps : List (Nat × Nat)} {id k : Nat} (h : (id, k) ∈ ps) : id ∈ fstN ps := by
  induction ps with
  | nil => cases h
  | cons x ps ih =>
    obtain ⟨i, j⟩ := x
    rcases List.mem_cons.1 h with h | h
    · injection h with h1 h2; subst h1; exact List.mem_cons_self
    · exact List.mem_cons_of_mem _ (ih h)
theorem idOf_of : ∀ {ps : List (Nat × Nat)} {id k : Nat}, (sndN ps).Nodup → (id, k) ∈ ps → idOf ps k = some id
  | (i, j) :: ps, id, k, hn, h => by
    simp only [sndN, List.nodup_cons] at hn
    simp only [idOf]
    rcases List.mem_cons.1 h with h | h
    · injection h with h1 h2; subst h1; subst h2; simp [(beq_nat k k).2 rfl]
    · have : j ≠ k := fun e => hn.1 (e ▸ mem_sndN h)
      rw [beq_nat_ff this, cond_false]
      exact idOf_of hn.2 h
theorem noOf_of : ∀ {ps : List (Nat × Nat)} {id k : Nat}, (fstN ps).Nodup → (id, k) ∈ ps → noOf ps id = some k
  | (i, j) :: ps, id, k, hn, h => by
    simp only [fstN, List.nodup_cons] at hn
    simp only [noOf]
    rcases List.mem_cons.1 h with h | h
    · injection h with h1 h2; subst h1; subst h2; simp [(beq_nat id id).2 rfl]
    · have : i ≠ id := fun e => hn.1 (e ▸ mem_fstN h)
      rw [beq_nat_ff this, cond_false]
      exact noOf_of hn.2 h
theorem liveAll_mem {H : Hp} : ∀ {l : List Nat}, liveAll H l = true → ∀ i ∈ l, ∃ e, hget H i = some e
  | [], _, i, h => by cases h
  | j :: l, h, i, hi => by
    simp only [liveAll, Bool.and_eq_true] at h
    rcases List.mem_cons.1 hi with rfl | hi
    · cases hg : hget H i with
      | none => rw [hg] at h; exact absurd h.1 (by simp)
      | some e => exact ⟨e, rfl⟩
    · exact liveAll_mem h.2 i hi
theorem renH_get {H : Hp} {f : Nat → Option Nat} : ∀ {ps : List (Nat × Nat)}, liveAll H (fstN ps) = true → ∀ k, hget (renH H f ps) k = (idOf ps k).bind (fun id => (hget H id).map (Ent.ren f)) ∧ hkey (renH H f ps) k = (idOf ps k).isSome
  | [], _, k => ⟨rfl, rfl⟩
  | (i, j) :: ps, h, k => by
    simp only [fstN, liveAll, Bool.and_eq_true] at h
    cases hg : hget H i with
    | none => rw [hg] at h; exact absurd h.1 (by simp)
    | some e =>
      obtain ⟨q1, q2⟩ := renH_get (H := H) (f := f) h.2 k
      simp only [renH, hg, hget, hkey, idOf]
      cases hb : Nat.beq j k
      · simp only [cond_false]; exact ⟨q1, q2⟩
      · simp [hg]

section
variable {z : Z} {H : Hp}
/-- The renamed part. -/
def Z.ren (z : Z) (H : Hp) (ps : List (Nat × Nat)) : Z :=
  { z with ρ := fun k => match idOf ps k with | some id => z.ρ id | none => .no, C := fun g => ∃ id k e sz n, (id, k) ∈ ps ∧ hget H id = some e ∧ e.fz = false ∧ z.ρ id = .real g sz n, D := fun _ => False }
theorem ren_ok {ps : List (Nat × Nat)} (hH : HRep z H) (h1 : nodupN (fstN ps) = true) (h2 : nodupN (sndN ps) = true) (h3 : liveAll H (fstN ps) = true) :
    HRep (z.ren H ps) (renH H (noOf ps) ps) ∧ (∀ id k, (id, k) ∈ ps → (z.ren H ps).ρ k = z.ρ id) ∧ ∀ g, (z.ren H ps).C g → z.C g := by
  rw [nodupN_iff] at h1 h2
  have hρ : ∀ id k, (id, k) ∈ ps → (z.ren H ps).ρ k = z.ρ id := fun id k h => by
    show (match idOf ps k with | some id => z.ρ id | none => .no) = _
    rw [idOf_of h2 h]
  have hC : ∀ g, (z.ren H ps).C g → z.C g := fun g ⟨id, k, e, sz, n, q1, q2, q3, q4⟩ => (hH.real q2 q4).2.1 q3
  have hent : ∀ k e', hget (renH H (noOf ps) ps) k = some e' → ∃ id e, (id, k) ∈ ps ∧ hget H id = some e ∧ e' = e.ren (noOf ps) := fun k e' h => by
    rw [(renH_get h3 k).1] at h
    obtain ⟨id, q1, q2⟩ := Option.bind_eq_some_iff.1 h
    obtain ⟨e, q3, q4⟩ := Option.map_eq_some_iff.1 q2
    exact ⟨id, e, idOf_mem q1, q3, q4.symm⟩
  refine ⟨⟨fun k e' h => ?_, fun k k' e e' g sz n g' sz' n' hkk p1 p2 m1 m2 p3 p4 => ?_, fun k h => ?_, fun g h => hH.sub g (hC g h)⟩, hρ, hC⟩
  · obtain ⟨id, e, q1, q2, rfl⟩ := hent k e' h
    have h0 := hH.ent _ _ q2
    unfold ERep at h0 ⊢
    rw [hρ id k q1]
    cases hr : z.ρ id with
    | no => rw [hr] at h0; exact h0.elim
    | virt =>
      rw [hr] at h0
      obtain ⟨fz, b⟩ := e
      cases b <;> first | exact h0.elim | exact h0
    | real g sz n =>
      rw [hr] at h0
      obtain ⟨a1, a2, a3, a4⟩ := h0
      exact ⟨a1, fun hf => ⟨id, k, e, sz, n, q1, q2, hf, hr⟩, a3, a4.ren (fz := e.fz) rfl rfl fun id' k' _ hk' => hρ id' k' (noOf_mem hk')⟩
  · obtain ⟨id, e1, q1, q2, rfl⟩ := hent k e p1
    obtain ⟨id', e2, q3, q4, rfl⟩ := hent k' e' p2
    rw [hρ id k q1] at p3
    rw [hρ id' k' q3] at p4
    have hid : id ≠ id' := fun h => by
      subst h
      have a1 := noOf_of h1 q1
      have a2 := noOf_of h1 q3
      rw [a1] at a2
      exact hkk (Option.some.inj a2)
    exact hH.inj id id' e1 e2 g sz n g' sz' n' hid q2 q4 m1 m2 p3 p4
  · rw [(renH_get h3 k).2] at h
    left
    show (match idOf ps k with | some id => z.ρ id | none => .no) = _
    cases hk : idOf ps k with
    | none => rfl
    | some id => rw [hk] at h; cases h
end
end Go.Ab

/- A state's part that has a shape. -/
namespace Go.Ab

mutual
theorem emb_ids : (k : Kd) → {r : List Ty} → (y : HL (k.lv r)) → AV.ids (emb k r y).1 = k.ids
  | .p _, r, y | .pt _, r, y | .own _ _ _ _, r, y | .ownx _ _ _, r, y | .sl _ _, r, y | .slf _ _, r, y | .mp _, r, y | .any, r, y | .nilp _, r, y => rfl
  | .fn f a c, r, y => congr (congrArg HAppend.hAppend (embL_ids a (r := c.lv r) y)) (embL_ids c (r := r) _)
  | .agg l, r, y => embL_ids l (r := r) y
  | .tup l, r, y => embL_ids l (r := r) y
theorem embL_ids : (k : KdL) → {r : List Ty} → (y : HL (k.lv r)) → AV.idsL (embL k r y).1 = k.ids
  | .nil, r, y => rfl
  | .cons k l, r, y => congr (congrArg HAppend.hAppend (emb_ids k (r := l.lv r) y)) (embL_ids l (r := r) _)
end
theorem embB_ids {k : BKd} {r : List Ty} {fz : Bool} (y : HL (k.lv r)) : Ent.ids ⟨fz, (embB k r y).1⟩ = k.ids := by
  cases k with
  | vars l => exact embL_ids l (r := r) y
  | rows e t => rfl
  | map kt vt => rfl
theorem embH_get : (hs : HK) → {r : List Ty} → (y : HL (hkLv hs r)) → ∀ id, hkey (embH hs r y).1 id = memN id (hkKeys hs) ∧ (memN id (hkKeys hs) = true → ∃ e, hget (embH hs r y).1 id = some e) ∧ ∀ e, hget (embH hs r y).1 id = some e → ∀ i ∈ e.ids, i ∈ hkIds hs
  | [], r, y, id => ⟨rfl, fun h => by simp [hkKeys, memN] at h, fun e h => by simp [embH, hget] at h⟩
  | (j, fz, k) :: hs, r, y, id => by
    obtain ⟨q1, q2, q3⟩ := embH_get hs (embB k (hkLv hs r) y).2 id
    simp only [embH, hkey, hget, hkKeys, memN]
    cases hb : Nat.beq j id
    · simp only [cond_false]
      exact ⟨q1, q2, fun e he i hi => by simp only [hkIds, List.mem_append]; exact .inr (q3 e he i hi)⟩
    · simp only [cond_true]
      refine ⟨trivial, fun _ => ⟨_, rfl⟩, fun e he i hi => ?_⟩
      injection he with he
      subst he
      have hi : i ∈ k.ids := by
        have := embB_ids (k := k) (r := hkLv hs r) (fz := fz) y
        rw [← this]; exact hi
      simp only [hkIds, List.mem_append]
      exact .inl hi

section
variable {z : Z} {H : Hp} {β : Type}
/-- The same, no other numbers standing for anything but what a default says. -/
def Z.cut (z : Z) (ks : List Nat) (ρ0 : Rho) (C' : Nat → Prop) : Z := { z with ρ := fun k => bif memN k ks then z.ρ k else ρ0 k, C := C', D := fun k => memN k ks = false ∧ ρ0 k ≠ .no }
theorem ERep.rho {z z' : Z} {id : Nat} {e : Ent} (h : ERep z id e) (hw : z'.w = z.w) (hM : z'.M = z.M) (hid : z'.ρ id = z.ρ id) (hf : ∀ i ∈ e.ids, z'.ρ i = z.ρ i) (hC : ∀ g sz n, z.ρ id = .real g sz n → e.fz = false → z.C g → z'.C g) : ERep z' id e := by
  unfold ERep at *
  rw [hid]
  cases hr : z.ρ id with
  | no => rw [hr] at h; exact h
  | virt => rw [hr] at h; exact h
  | real g sz n =>
    rw [hr] at h
    obtain ⟨h1, h2, h3, h4⟩ := h
    refine ⟨by rw [hw]; exact h1, fun hf => hC g sz n hr hf (h2 hf), fun hf => by rw [hM]; exact h3 hf, ?_⟩
    have := h4.ren (z' := z') (f := some) (fz := e.fz) hw hM fun i k hi hk => by
      injection hk with hk
      subst hk
      exact hf i hi
    have e1 : e.b.ren some = e.b := by
      cases e.b with
      | vars c => simp only [Blk.ren, renL_some]
      | rows _ _ _ => rfl
      | map _ _ _ => rfl
      | fmap k l =>
        simp only [Blk.ren]
        congr 1
        conv => rhs; rw [← List.map_id l]
        apply List.map_congr_left
        intro x _
        simp [ren_some]
    rwa [e1] at this
/-- What a shape takes of a state. -/
theorem Shp.rco_ok {s : Shp} {vs : List AV} {ps : List (Nat × Nat)} {K : s.D → Option β} {res : β} {vals : List Value} (ρ0 : Rho) (h : s.rco vs H ps K = some res) (hH : HRep z H) (hv : AReps z vs vals) :
    ∃ t z', K t = some res ∧ z'.w = z.w ∧ z'.M = z.M ∧ HRep z' (s.emb t).2 ∧ AReps z' (s.emb t).1 vals ∧ (∀ k, memN k (hkKeys s.hs) = true → ∃ id, (id, k) ∈ ps ∧ z'.ρ k = z.ρ id) ∧ (∀ k, memN k (hkKeys s.hs) = false → z'.ρ k = ρ0 k) ∧
      (∀ g, z'.C g → z.C g) ∧ (∀ g, z'.C g → ∃ id k e sz n, (id, k) ∈ ps ∧ hget H id = some e ∧ e.fz = false ∧ z.ρ id = .real g sz n) ∧ z'.D = (fun k => memN k (hkKeys s.hs) = false ∧ ρ0 k ≠ .no) ∧ (∀ k, hkey (s.emb t).2 k = memN k (hkKeys s.hs)) := by
  unfold Shp.rco at h
  obtain ⟨h1, h2⟩ := need_iff.1 h
  simp only [Bool.and_eq_true] at h1
  obtain ⟨r1, r2, r3⟩ := ren_ok hH h1.1.1 h1.1.2 h1.2
  have hv' : AReps (z.ren H ps) (AV.renL (noOf ps) vs) vals := hv.ren rfl rfl fun id k _ hk => r2 id k (noOf_mem hk)
  obtain ⟨k1, t, k2, k3, k4⟩ := Shp.co_ok h2 r1.ent hv'
  unfold Shp.ok at k1
  simp only [Bool.and_eq_true, allIn_iff, List.mem_append] at k1
  have hg := fun id => embH_get s.hs (embL s.ks (hkLv s.hs []) (untidy s.tys t)).2 id
  have hvi : AV.idsL (s.emb t).1 = s.ks.ids := embL_ids s.ks _
  let z' := (z.ren H ps).cut (hkKeys s.hs) ρ0 (z.ren H ps).C
  have hin : ∀ k, k ∈ hkKeys s.hs → z'.ρ k = (z.ren H ps).ρ k := fun k hk => by
    show (bif memN k (hkKeys s.hs) then (z.ren H ps).ρ k else ρ0 k) = _
    rw [memN_iff.2 hk]; rfl
  have hkm : ∀ k e, hget (s.emb t).2 k = some e → k ∈ hkKeys s.hs := fun k e he => by
    have := hkey_of_hget he
    rw [show hkey (s.emb t).2 k = memN k (hkKeys s.hs) from (hg k).1] at this
    exact memN_iff.1 this
  refine ⟨t, z', k2, rfl, rfl, ⟨fun k e he => ?_, fun i i' e e' g sz n g' sz' n' hii p1 p2 m1 m2 p3 p4 => ?_, fun k hk => ?_, r1.sub⟩, ?_, fun k hk => ?_, fun k hk => ?_, r3, fun g hC => hC, rfl, fun k => (hg k).1⟩
  · have hids := (hg k).2.2 e he
    exact (k4 k e he).1.rho rfl rfl (hin k (hkm k e he)) (fun i hi => hin i (k1.2 i (.inr (hids i hi)))) (fun g sz n _ _ h => h)
  · obtain ⟨_, e0, q1, q2⟩ := k4 i e p1
    obtain ⟨_, e0', q3, q4⟩ := k4 i' e' p2
    rw [hin i (hkm i e p1)] at p3
    rw [hin i' (hkm i' e' p2)] at p4
    exact r1.inj i i' e0 e0' g sz n g' sz' n' hii q1 q3 (by rw [q2]; exact m1) (by rw [q4]; exact m2) p3 p4
  · rw [show hkey (s.emb t).2 k = memN k (hkKeys s.hs) from (hg k).1] at hk
    have e1 : z'.ρ k = ρ0 k := by
      show (bif memN k (hkKeys s.hs) then (z.ren H ps).ρ k else ρ0 k) = _
      rw [hk]; rfl
    by_cases h0 : ρ0 k = .no
    · left; rw [e1, h0]
    · exact .inr ⟨hk, h0⟩
  · exact k3.rho rfl rfl fun i hi => hin i (k1.2 i (.inl (by rw [← hvi]; exact hi)))
  · obtain ⟨e, he⟩ := (hg k).2.1 hk
    obtain ⟨_, e0, q1, _⟩ := k4 k e he
    have := hkey_of_hget q1
    rw [(renH_get h1.2 k).2] at this
    obtain ⟨id, hid⟩ := Option.isSome_iff_exists.1 this
    exact ⟨id, idOf_mem hid, by rw [hin k (memN_iff.1 hk), r2 id k (idOf_mem hid)]⟩
  · show (bif memN k (hkKeys s.hs) then (z.ren H ps).ρ k else ρ0 k) = _
    rw [hk]; rfl
end
end Go.Ab

/- What is yielded does not hang on what is done with it. -/
namespace Go.Ab

section
variable {P : Program} {β γ : Type} {H : Hp} {F : γ → Option β}
theorem nt_ob {α : Type} {x : Option α} {f : α → Option β} {g : α → Option γ} (h : ∀ a, f a = (g a).bind F) : x.ob f = (x.ob g).bind F := by
  cases x with
  | none => rfl
  | some a => exact h a
theorem nt_bind {α : Type} {x : Option α} {f : α → Option β} {g : α → Option γ} (h : ∀ a, f a = (g a).bind F) : x.bind f = (x.bind g).bind F := by
  cases x with
  | none => rfl
  | some a => exact h a
theorem nt_need {b : Bool} {f : Option β} {g : Option γ} (h : f = g.bind F) : need b f = (need b g).bind F := by
  cases b
  · rfl
  · exact h
theorem nt_bq {b : Bool} {f f' : Option β} {g g' : Option γ} (h : f = g.bind F) (h' : f' = g'.bind F) : bq b f f' = (bq b g g').bind F := by
  cases b
  · exact h'
  · exact h
theorem nt_dq {t u : Ty} {f : t = u → Option β} {f' : Option β} {g : t = u → Option γ} {g' : Option γ} (h : ∀ e, f e = (g e).bind F) (h' : f' = g'.bind F) : dq t u f f' = (dq t u g g').bind F := by
  unfold dq
  simp only
  split
  · exact h _
  · exact h'

theorem asmN_nt {δ : Type} {fa : List AV → (δ → Option β) → Option β} {fb : List AV → (δ → Option γ) → Option γ} (hf : ∀ c (k : δ → Option β) (k' : δ → Option γ), (∀ x, k x = (k' x).bind F) → fa c k = (fb c k').bind F) (c : Nat) :
    ∀ (n : Nat) (cs : List AV) {k : List δ → Option β} {k' : List δ → Option γ}, (∀ x, k x = (k' x).bind F) → asmN fa c n cs k = (asmN fb c n cs k').bind F
  | 0, cs, k, k', h => h _
  | n + 1, cs, k, k', h => hf _ _ _ fun x => asmN_nt hf c n _ fun l => h _
theorem asm_nt : (t : Ty) → {cs : List AV} → {k : t.den → Option β} → {k' : t.den → Option γ} → (∀ x, k x = (k' x).bind F) → asm t cs k = (asm t cs k').bind F
  | .byte, cs, k, k', h => nt_ob fun n => nt_bind h
  | .one t, cs, k, k', h => asm_nt t h
  | .pair a b, cs, k, k', h => asm_nt a fun x => asm_nt b fun y => h _
  | .arr n t, cs, k, k', h => asmN_nt (fa := asm t) (fb := asm t) (fun c _ _ h => asm_nt t (cs := c) h) t.cells n cs h
  | .int _, cs, k, k', h | .bool, cs, k, k', h | .str, cs, k, k', h | .opq, cs, k, k', h | .nat, cs, k, k', h | .sl _, cs, k, k', h => nt_ob h
theorem asC_nt {u : Ty} {a : AV} {k : u.den → Option β} {k' : u.den → Option γ} (h : ∀ x, k x = (k' x).bind F) : asC u a k = (asC u a k').bind F :=
  nt_ob fun _ => nt_need (asm_nt u h)
theorem asA_nt {u : Ty} {a : AV} {k : u.den → Option β} {k' : u.den → Option γ} (h : ∀ x, k x = (k' x).bind F) : asA u a k = (asA u a k').bind F := by
  unfold asA
  split
  · exact nt_dq (fun _ => h _) (asC_nt h)
  · exact asC_nt h
theorem sub_nt : (t : Ty) → {x : t.den} → {o : Nat} → {u : Ty} → {k : u.den → Option β} → {k' : u.den → Option γ} → (∀ x, k x = (k' x).bind F) → sub t x o u k = (sub t x o u k').bind F
  | .one t, x, o, u, k, k', h => nt_dq (fun _ => nt_bq (h _) rfl) (sub_nt t h)
  | .pair a b, x, o, u, k, k', h => nt_dq (fun _ => nt_bq (h _) rfl) (nt_bq (sub_nt a h) (sub_nt b h))
  | .int _, x, o, u, k, k', h | .bool, x, o, u, k, k', h | .byte, x, o, u, k, k', h | .str, x, o, u, k, k', h | .opq, x, o, u, k, k', h | .nat, x, o, u, k, k', h | .sl _, x, o, u, k, k', h | .arr _ _, x, o, u, k, k', h => nt_dq (fun _ => nt_bq (h _) rfl) rfl
theorem upd_nt : (t : Ty) → {x : t.den} → {o : Nat} → {u : Ty} → {y : u.den} → {k : t.den → Option β} → {k' : t.den → Option γ} → (∀ x, k x = (k' x).bind F) → upd t x o u y k = (upd t x o u y k').bind F
  | .one t, x, o, u, y, k, k', h => nt_dq (fun _ => nt_bq (h _) rfl) (upd_nt t h)
  | .pair a b, x, o, u, y, k, k', h => nt_dq (fun _ => nt_bq (h _) rfl) (nt_bq (upd_nt a fun _ => h _) (upd_nt b fun _ => h _))
  | .int _, x, o, u, y, k, k', h | .bool, x, o, u, y, k, k', h | .byte, x, o, u, y, k, k', h | .str, x, o, u, y, k, k', h | .opq, x, o, u, y, k, k', h | .nat, x, o, u, y, k, k', h | .sl _, x, o, u, y, k, k', h | .arr _ _, x, o, u, y, k, k', h => nt_dq (fun _ => nt_bq (h _) rfl) rfl

section
variable {k : AV → Option β} {k' : AV → Option γ}
theorem rdRow_nt {u : Ty} {t : TypeId} {x : u.den} {j : Nat} (h : ∀ x, k x = (k' x).bind F) : rdRow P u t x j k = (rdRow P u t x j k').bind F := nt_ob fun _ => sub_nt u fun _ => h _
theorem rdRows_nt {u : Ty} {t : TypeId} {l : List u.den} {i j : Nat} (h : ∀ x, k x = (k' x).bind F) : rdRows P t u l i j k = (rdRows P t u l i j k').bind F := by
  unfold rdRows
  split
  · exact nt_bq (nt_need (h _)) (nt_bind fun _ => rdRow_nt h)
  · exact nt_bind fun _ => rdRow_nt h
theorem rdVars_nt {t : TypeId} {c : List AV} {j : Nat} (h : ∀ x, k x = (k' x).bind F) : rdVars P t c j k = (rdVars P t c j k').bind F := nt_bq (nt_need (h _)) (nt_bq (nt_ob h) rfl)
theorem evLoad_nt {t : TypeId} {a : AV} (h : ∀ x, k x = (k' x).bind F) : evLoad P t a H k = (evLoad P t a H k').bind F := by
  unfold evLoad
  split
  · split
    · exact nt_bq (rdVars_nt h) rfl
    · exact nt_bq (rdRows_nt h) rfl
    · rfl
  · exact rdRows_nt h
  · rfl
theorem evPick_nt {t : TypeId} {c a b : AV} (h : ∀ x, k x = (k' x).bind F) : evPick P t c a b k = (evPick P t c a b k').bind F := by
  unfold evPick
  refine nt_ob fun q => ?_
  split
  · split
    · exact h _
    · exact nt_need (h _)
    · exact nt_need (h _)
    · rfl
  · exact nt_bq (h _) (h _)
theorem evBuild_nt {t : TypeId} {ps : List (Nat × AV)} (h : ∀ x, k x = (k' x).bind F) : evBuild P t ps k = (evBuild P t ps k').bind F := by
  unfold evBuild
  refine nt_ob fun q => ?_
  split
  · exact nt_ob fun _ => nt_ob fun _ => h _
  · exact nt_ob fun _ => nt_ob fun _ => h _
  · rfl
theorem evInt_nt {op : BinOp} {kk : IntKind} {a b : Int} (h : ∀ x, k x = (k' x).bind F) : evInt op kk a b k = (evInt op kk a b k').bind F := by
  unfold evInt
  split <;> first | exact h _ | exact nt_need (h _)
theorem evStr_nt {op : BinOp} {a b : List UInt8} (h : ∀ x, k x = (k' x).bind F) : evStr op a b k = (evStr op a b k').bind F := by
  unfold evStr
  split <;> first | exact h _ | exact nt_need (h _) | rfl
theorem evUn_nt {op : UnOp} {t : TypeId} {a : AV} (h : ∀ x, k x = (k' x).bind F) : evUn P op t a k = (evUn P op t a k').bind F := by
  unfold evUn
  split <;> first | exact nt_ob fun _ => h _ | rfl
theorem rowsOf_nt {u : Ty} {a : AV} {k : List u.den → Option β} {k' : List u.den → Option γ} (h : ∀ x, k x = (k' x).bind F) : rowsOf H u a k = (rowsOf H u a k').bind F := by
  unfold rowsOf
  split
  · exact nt_dq (fun _ => h _) (nt_dq (fun _ => nt_dq (fun _ => h _) rfl) (nt_ob h))
  · split
    · exact nt_dq (fun _ => nt_bq (h _) rfl) rfl
    · rfl
  · split
    · exact nt_dq (fun _ => nt_bq (h _) rfl) rfl
    · rfl
  · rfl
theorem evConvert_nt {s d : TypeId} {a : AV} (h : ∀ x, k x = (k' x).bind F) : evConvert P s d a H k = (evConvert P s d a H k').bind F := by
  unfold evConvert
  split
  · exact nt_ob fun _ => h _
  · exact nt_ob fun _ => h _
  · exact nt_bq (rowsOf_nt fun _ => h _) rfl
  · rfl
  · rfl
theorem ownRows_nt {es id : Nat} {k : (u : Ty) → List u.den → Option β} {k' : (u : Ty) → List u.den → Option γ} (h : ∀ u x, k u x = (k' u x).bind F) : ownRows H es id k = (ownRows H es id k').bind F := by
  unfold ownRows
  split
  · exact nt_bq (h _ _) rfl
  · rfl
theorem lenS_nt {a : AV} {k : Nat → Option β} {k' : Nat → Option γ} (h : ∀ x, k x = (k' x).bind F) : lenS H a k = (lenS H a k').bind F := by
  unfold lenS
  split
  · exact h _
  · exact ownRows_nt fun _ _ => h _
  · exact h _
  · exact h _
  · rfl
theorem lenM_nt {a : AV} {k : Nat → Option β} {k' : Nat → Option γ} (h : ∀ x, k x = (k' x).bind F) : lenM H a k = (lenM H a k').bind F := by
  unfold lenM
  split
  · exact h _
  · split
    · exact h _
    · rfl
  · rfl
theorem lenT_nt {t : TypeId} {a : AV} {k : Nat → Option β} {k' : Nat → Option γ} (h : ∀ x, k x = (k' x).bind F) : lenT P t H a k = (lenT P t H a k').bind F := by
  unfold lenT
  split
  · exact nt_ob fun _ => h _
  · exact lenS_nt h
  · exact lenM_nt h
  · exact h _
  · rfl
theorem evFieldAddr_nt {s : TypeId} {a : AV} {f : Nat} (h : ∀ x, k x = (k' x).bind F) : evFieldAddr P s a f k = (evFieldAddr P s a f k').bind F := by
  unfold evFieldAddr
  split <;> first | exact h _ | rfl
theorem optI_nt {a : Option AV} {d m : Nat} {k : Nat → Option β} {k' : Nat → Option γ} (h : ∀ x, k x = (k' x).bind F) : optI a d m k = (optI a d m k').bind F := by
  unfold optI
  split
  · exact h _
  · exact nt_ob fun _ => nt_bind h
theorem cutL_nt {α : Type} {l : List α} {lo hi : Option AV} {k : List α → Option β} {k' : List α → Option γ} (h : ∀ x, k x = (k' x).bind F) : cutL l lo hi k = (cutL l lo hi k').bind F := by
  unfold cutL
  split
  · exact h _
  · exact nt_ob fun _ => nt_bind fun _ => h _
  · exact nt_ob fun _ => nt_bind fun _ => h _
  · exact nt_ob fun _ => nt_bind fun _ => nt_ob fun _ => nt_bind fun _ => h _
theorem evSlice_nt {t : TypeId} {a : AV} {lo hi : Option AV} (h : ∀ x, k x = (k' x).bind F) : evSlice P t a lo hi H k = (evSlice P t a lo hi H k').bind F := by
  unfold evSlice
  split
  · exact nt_ob fun _ => cutL_nt fun _ => h _
  · split
    · refine nt_bq ?_ rfl
      split
      · exact h _
      · exact ownRows_nt fun _ _ => optI_nt fun _ => optI_nt fun _ => h _
    · exact nt_bq (optI_nt fun _ => optI_nt fun _ => h _) rfl
    · exact nt_bq (cutL_nt fun _ => h _) rfl
    · exact nt_need (optI_nt fun _ => optI_nt fun _ => h _)
    · rfl
  · split
    · refine nt_bq (ownRows_nt fun _ _ => nt_need ?_) rfl
      split
      · exact h _
      · exact optI_nt fun _ => optI_nt fun _ => h _
    · exact nt_bq (cutL_nt fun _ => h _) rfl
    · rfl
  · rfl
theorem evIndex_nt {t : TypeId} {a ix : AV} (h : ∀ x, k x = (k' x).bind F) : evIndex P t a ix k = (evIndex P t a ix k').bind F := by
  unfold evIndex
  refine nt_ob fun x => ?_
  split
  · exact nt_ob fun _ => nt_bind fun _ => nt_bind fun _ => h _
  · exact nt_ob fun _ => asA_nt fun _ => nt_bind fun _ => nt_bind fun _ => h _
  · rfl
theorem evIndexAddr_nt {t : TypeId} {a ix : AV} (h : ∀ x, k x = (k' x).bind F) : evIndexAddr P t a ix H k = (evIndexAddr P t a ix H k').bind F := by
  unfold evIndexAddr
  refine nt_ob fun x => ?_
  split
  · refine nt_need ?_
    split <;> first | rfl | exact nt_bq (nt_bind fun _ => h _) (nt_bind fun _ => h _)
  · refine nt_need ?_
    split
    · exact nt_bq (ownRows_nt fun _ _ => nt_bind fun _ => h _) rfl
    · exact nt_bq (nt_bind fun _ => h _) rfl
    · exact nt_bq (nt_bind fun _ => h _) rfl
    · rfl
  · rfl
theorem evField_nt {s : TypeId} {a : AV} {f : Nat} (h : ∀ x, k x = (k' x).bind F) : evField P s a f k = (evField P s a f k').bind F := by
  unfold evField
  split
  · exact nt_bq (nt_need (h _)) (nt_bq (nt_ob h) rfl)
  · exact nt_bq (rdRow_nt h) rfl
  · rfl
theorem fchain_nt {kt : Ty} {x : kt.den} {k : Option AV → Option β} {k' : Option AV → Option γ} (h : ∀ x, k x = (k' x).bind F) : ∀ l : List (kt.den × AV), fchain l x k = (fchain l x k').bind F
  | [] => h _
  | (_, _) :: r => nt_bq (h _) (fchain_nt h r)
theorem evLookup_nt {t : TypeId} {m ix : AV} {c : Bool} (h : ∀ x, k x = (k' x).bind F) : evLookup P t m ix c H k = (evLookup P t m ix c H k').bind F := by
  unfold evLookup
  split
  · split
    · exact nt_need (asA_nt fun _ => h _)
    · refine nt_need (asA_nt fun _ => fchain_nt (fun r => ?_) _)
      split <;> exact h _
    · rfl
  · split
    · exact nt_ob fun _ => nt_ob fun _ => nt_need (asA_nt fun _ => h _)
    · rfl
  · rfl
theorem evEq_nt {t : TypeId} {a b : AV} {k : Bool → Option β} {k' : Bool → Option γ} (hn : natBin P t = true) (h : ∀ x, k x = (k' x).bind F) : evEq P t a b H k = (evEq P t a b H k').bind F := by
  unfold evEq
  split
  · exact nt_ob h
  · exact nt_ob h
  · exact nt_ob h
  · rename_i e he; simp [natBin, he] at hn
  · exact nt_ob fun _ => nt_need (asA_nt fun _ => asA_nt fun _ => h _)
theorem evBin_nt {op : BinOp} {t u : TypeId} {a b : AV} (hn : natBin P t = true) (h : ∀ x, k x = (k' x).bind F) : evBin P op t u a b H k = (evBin P op t u a b H k').bind F := by
  unfold evBin
  split
  · split
    · exact nt_ob fun _ => nt_ob fun _ => nt_need (evInt_nt h)
    · rfl
  · exact nt_ob fun _ => nt_ob fun _ => evStr_nt h
  · split
    · exact evEq_nt hn fun _ => h _
    · exact evEq_nt hn fun _ => h _
    · rfl
theorem evR_nt {o : Oper} {r : Operand → AV} (hn : natR P o = true) (h : ∀ x, k x = (k' x).bind F) : evR P o r H k = (evR P o r H k').bind F := by
  unfold evR
  unfold natR at hn
  split
  · exact h _
  · exact h _
  · exact evPick_nt h
  · exact evBuild_nt h
  · exact evLoad_nt h
  · split <;> first | exact h _ | rfl
  · rename_i ho
    rw [ho] at hn
    exact evBin_nt hn h
  · exact evLookup_nt h
  · exact evUn_nt h
  · exact evConvert_nt h
  · exact h _
  · exact evSlice_nt h
  · exact evFieldAddr_nt h
  · exact evField_nt h
  · exact evIndexAddr_nt h
  · exact evIndex_nt h
  · exact nt_ob fun _ => nt_ob h
  · rename_i c ho
    rw [ho] at hn
    simp only at hn
    split
    · split
      · exact lenT_nt fun _ => h _
      · rfl
    · rename_i hc; rw [hc] at hn; cases hn
    · split
      · refine nt_ob fun l => ?_
        split
        · exact h _
        · rfl
      · rfl
    · split
      · refine nt_ob fun l => ?_
        split
        · exact h _
        · rfl
      · rfl
    · rfl
  · rfl
end

section
variable {k : AV → Hp → Option β} {k' : AV → Hp → Option γ}
theorem newAt_nt {id : Nat} {b : Blk} {k : Hp → Option β} {k' : Hp → Option γ} (h : ∀ H, k H = (k' H).bind F) : newAt H id b k = (newAt H id b k').bind F := nt_bq rfl (h _)
theorem evAlloc_nt {t : TypeId} {id : Nat} (h : ∀ x H, k x H = (k' x H).bind F) : evAlloc P t id H k = (evAlloc P t id H k').bind F := by
  unfold evAlloc
  split
  · exact nt_ob fun _ => nt_need (newAt_nt fun _ => h _ _)
  · exact nt_ob fun _ => newAt_nt fun _ => h _ _
theorem evBox_nt {t : TypeId} {v : AV} {id : Nat} (h : ∀ x H, k x H = (k' x H).bind F) : evBox P t v id H k = (evBox P t v id H k').bind F := by
  unfold evBox
  split
  · exact nt_ob fun _ => nt_ob fun _ => asA_nt fun _ => nt_need (newAt_nt fun _ => h _ _)
  · exact nt_ob fun _ => newAt_nt fun _ => h _ _
theorem wrRows_nt {t e : TypeId} {u : Ty} {l : List u.den} {i j id : Nat} {v : AV} (h : ∀ x H, k x H = (k' x H).bind F) : wrRows P t e u l i j id v H k = (wrRows P t e u l i j id v H k').bind F := by
  unfold wrRows
  split
  · exact nt_bq (nt_need (asA_nt fun _ => nt_need (h _ _))) (asA_nt fun _ => nt_bind fun _ => upd_nt _ fun _ => h _ _)
  · exact asA_nt fun _ => nt_bind fun _ => upd_nt _ fun _ => h _ _
  · rfl
theorem evStore_nt {t : TypeId} {a v : AV} (h : ∀ x H, k x H = (k' x H).bind F) : evStore P t a v H k = (evStore P t a v H k').bind F := by
  unfold evStore
  split
  · split
    · exact nt_ob fun _ => nt_need (h _ _)
    · exact nt_bq (nt_ob fun _ => nt_need (wrRows_nt h)) rfl
    · rfl
  · rfl
theorem evConvertW_nt {s d : TypeId} {a : AV} {id : Nat} (h : ∀ x H, k x H = (k' x H).bind F) : evConvertW P s d a id H k = (evConvertW P s d a id H k').bind F := by
  unfold evConvertW
  split
  · exact nt_bq (nt_ob fun _ => nt_need (newAt_nt fun _ => h _ _)) rfl
  · split
    · split
      · exact nt_bq (nt_need (h _ _)) rfl
      · rfl
    · rfl
  · rfl
theorem evMake_nt {t : TypeId} {l c : AV} {id : Nat} (h : ∀ x H, k x H = (k' x H).bind F) : evMake P t l c id H k = (evMake P t l c id H k').bind F := by
  unfold evMake
  split
  · exact nt_ob fun _ => nt_ob fun _ => nt_bind fun _ => nt_bind fun _ => nt_ob fun _ => nt_need (newAt_nt fun _ => h _ _)
  · rfl
theorem evMakeMap_nt {t : TypeId} {q : Option AV} {id : Nat} (h : ∀ x H, k x H = (k' x H).bind F) : evMakeMap P t q id H k = (evMakeMap P t q id H k').bind F := by
  unfold evMakeMap
  split
  · exact nt_ob fun _ => nt_need (nt_bq (newAt_nt fun _ => h _ _) (nt_ob fun _ => newAt_nt fun _ => h _ _))
  · rfl
theorem evMapUpd_nt {t : TypeId} {m key x : AV} (h : ∀ x H, k x H = (k' x H).bind F) : evMapUpd P t m key x H k = (evMapUpd P t m key x H k').bind F := by
  unfold evMapUpd
  split
  · split
    · exact nt_need (asA_nt fun _ => nt_need (nt_ob fun _ => nt_need (h _ _)))
    · refine nt_ob fun _ => ?_
      split
      · exact nt_need (asA_nt fun _ => asA_nt fun _ => h _ _)
      · rfl
  · rfl
theorem evMapEntry_nt {t : TypeId} {m key : AV} (h : ∀ x H, k x H = (k' x H).bind F) : evMapEntry P t m key H k = (evMapEntry P t m key H k').bind F := by
  unfold evMapEntry
  split
  · split
    · exact nt_need (asA_nt fun _ => h _ _)
    · rfl
  · rfl
theorem evEntryStore_nt {m s x : AV} (h : ∀ x H, k x H = (k' x H).bind F) : evEntryStore m s x H k = (evEntryStore m s x H k').bind F := by
  unfold evEntryStore
  split
  · refine nt_ob fun _ => ?_
    split
    · exact nt_ob fun _ => asA_nt fun _ => nt_bind fun _ => h _ _
    · rfl
  · rfl
theorem evDelete_nt {t : TypeId} {m key : AV} (h : ∀ x H, k x H = (k' x H).bind F) : evDelete P t m key H k = (evDelete P t m key H k').bind F := by
  unfold evDelete
  split
  · split
    · exact nt_need (asA_nt fun _ => h _ _)
    · rfl
  · rfl
theorem evBuildSlice_nt {t : TypeId} {n : Nat} {ps : List (Nat × AV)} {id : Nat} (h : ∀ x H, k x H = (k' x H).bind F) : evBuildSlice P t n ps id H k = (evBuildSlice P t n ps id H k').bind F := by
  unfold evBuildSlice
  split
  · exact nt_ob fun _ => nt_ob fun u => nt_need (nt_ob fun _ => nt_ob fun _ => asmN_nt (fa := asm u) (fb := asm u) (fun c _ _ h => asm_nt u (cs := c) h) _ _ _ fun _ => newAt_nt fun _ => h _ _)
  · rfl
theorem evAppend_nt {t : TypeId} {s x : AV} {id : Nat} (h : ∀ x H, k x H = (k' x H).bind F) : evAppend P t s x id H k = (evAppend P t s x id H k').bind F := by
  unfold evAppend
  split
  · refine nt_ob fun _ => rowsOf_nt fun _ => ?_
    split
    · exact nt_need (newAt_nt fun _ => h _ _)
    · split
      · exact nt_dq (fun _ => nt_need (newAt_nt fun _ => h _ _)) rfl
      · rfl
    · split
      · exact nt_dq (fun _ => nt_need (newAt_nt fun _ => h _ _)) rfl
      · rfl
    · rfl
  · rfl
theorem evAppendZ_nt {t : TypeId} {s x : AV} {id : Nat} (h : ∀ x H, k x H = (k' x H).bind F) : evAppendZ P t s x id H k = (evAppendZ P t s x id H k').bind F := by
  unfold evAppendZ
  split
  · refine nt_ob fun _ => nt_need (nt_ob fun _ => nt_bind fun _ => ?_)
    split
    · exact nt_need (newAt_nt fun _ => h _ _)
    · rfl
  · rfl
theorem evCopy_nt {t : TypeId} {s x : AV} (h : ∀ x H, k x H = (k' x H).bind F) : evCopy P t s x H k = (evCopy P t s x H k').bind F := by
  unfold evCopy
  split
  · refine nt_ob fun _ => rowsOf_nt fun _ => ?_
    split
    · split
      · exact nt_dq (fun _ => nt_need (h _ _)) rfl
      · rfl
    · split
      · exact nt_dq (fun _ => nt_need (h _ _)) rfl
      · rfl
    · rfl
  · rfl
theorem OutS.on_nt : ∀ {l : List Shp} {x : OutS l} {k : (s : Shp) → s.D → Option β} {k' : (s : Shp) → s.D → Option γ}, (∀ s t, k s t = (k' s t).bind F) → OutS.on l x k = (OutS.on l x k').bind F
  | [], x, _, _, _ => Empty.elim x
  | [s], x, k, k', h => h s x
  | s :: t :: r, .inl y, k, k', h => h s y
  | s :: t :: r, .inr y, k, k', h => OutS.on_nt (l := t :: r) (x := y) h
mutual
theorem co_nt : (q : Kd) → {r : List Ty} → {a : AV} → {x : HL r} → {k : HL (q.lv r) → Option β} → {k' : HL (q.lv r) → Option γ} → (∀ y, k y = (k' y).bind F) → co q r a x k = (co q r a x k').bind F
  | .p t, r, a, x, k, k', h => asA_nt (u := t) (k := fun y => k (y, x)) (k' := fun y => k' (y, x)) fun y => h _
  | .pt t, r, a, x, k, k', h => nt_ob fun _ => h _
  | .own es id i j, r, a, x, k, k', h => nt_need (h _)
  | .ownx es id j, r, a, x, k, k', h => nt_ob fun _ => h _
  | .sl es id, r, a, x, k, k', h => nt_ob fun _ => h _
  | .slf es id, r, a, x, k, k', h => nt_need (h _)
  | .mp id, r, a, x, k, k', h => nt_need (h _)
  | .any, r, a, x, k, k', h => h _
  | .fn f ka kc, r, a, x, k, k', h => nt_ob fun _ => nt_need (coL_nt kc fun _ => coL_nt ka h)
  | .agg l, r, a, x, k, k', h => nt_ob fun _ => nt_need (coL_nt l h)
  | .tup l, r, a, x, k, k', h => nt_ob fun _ => nt_need (coL_nt l h)
  | .nilp v, r, a, x, k, k', h => nt_need (h _)
theorem coL_nt : (q : KdL) → {r : List Ty} → {c : List AV} → {x : HL r} → {k : HL (q.lv r) → Option β} → {k' : HL (q.lv r) → Option γ} → (∀ y, k y = (k' y).bind F) → coL q r c x k = (coL q r c x k').bind F
  | .nil, r, c, x, k, k', h => h _
  | .cons q l, r, c, x, k, k', h => coL_nt l fun _ => co_nt q h
end
theorem coB_nt {q : BKd} {r : List Ty} {b : Blk} {x : HL r} {k : HL (q.lv r) → Option β} {k' : HL (q.lv r) → Option γ} (h : ∀ y, k y = (k' y).bind F) : coB q r b x k = (coB q r b x k').bind F := by
  cases q with
  | vars l => exact nt_ob fun _ => coL_nt l h
  | rows e t => exact nt_ob fun _ => h _
  | map kt vt => exact nt_ob fun _ => h _
theorem coH_nt : (hs : HK) → {r : List Ty} → {x : HL r} → {k : HL (hkLv hs r) → Option β} → {k' : HL (hkLv hs r) → Option γ} → (∀ y, k y = (k' y).bind F) → coH hs r H x k = (coH hs r H x k').bind F
  | [], r, x, k, k', h => h _
  | (_, _, q) :: l, r, x, k, k', h => nt_ob fun _ => coH_nt l fun _ => coB_nt h
theorem Shp.co_nt {s : Shp} {vs : List AV} {k : s.D → Option β} {k' : s.D → Option γ} (h : ∀ y, k y = (k' y).bind F) : s.co vs H k = (s.co vs H k').bind F :=
  nt_need (coH_nt s.hs fun _ => coL_nt s.ks fun _ => h _)
theorem Shp.rco_nt {s : Shp} {vs : List AV} {ps : List (Nat × Nat)} {k : s.D → Option β} {k' : s.D → Option γ} (h : ∀ y, k y = (k' y).bind F) : s.rco vs H ps k = (s.rco vs H ps k').bind F :=
  nt_need (Shp.co_nt h)
theorem evCall_nt {e : FnT} {args : List AV} {an : Ann} (h : ∀ x H, k x H = (k' x H).bind F) : evCall P e args an H k = (evCall P e args an H k').bind F := by
  unfold evCall
  rw [argsMK_eq, argsMK_eq]
  exact nt_ob fun _ => nt_need (Shp.rco_nt fun _ => nt_bind fun _ => OutS.on_nt fun _ _ => by
    rw [Shp.embC_eq, Shp.embC_eq]
    exact nt_need (h _ _))
theorem evW_nt {T : Tbl} {o : Oper} {an : Ann} {r : Operand → AV} (h : ∀ x H, k x H = (k' x H).bind F) : evW P T o an r H k = (evW P T o an r H k').bind F := by
  unfold evW
  split
  · exact evAlloc_nt h
  · exact evBox_nt h
  · exact evBuildSlice_nt h
  · exact evStore_nt h
  · split
    · exact evConvert_nt fun _ => h _ _
    · exact evConvertW_nt h
  · exact evMake_nt h
  · exact evMakeMap_nt h
  · exact evMapUpd_nt h
  · exact evMapUpd_nt h
  · exact evMapEntry_nt h
  · exact evEntryStore_nt h
  · split
    · split
      · split
        · exact evAppendZ_nt h
        · exact evAppend_nt h
        · exact evAppend_nt h
        · rfl
      · rfl
    · split
      · exact evCopy_nt h
      · rfl
    · split
      · exact evDelete_nt h
      · rfl
    · refine nt_ob fun _ => ?_
      split
      · exact nt_bq (evCall_nt h) rfl
      · rfl
    · rfl
  · rfl
/-- What is done with what is yielded. -/
theorem evR_ret {o : Oper} {r : Operand → AV} {k : AV → Option β} {res : β} (hn : natR P o = true) (h : evR P o r H k = some res) : ∃ x, evR P o r H some = some x ∧ k x = some res := by
  have e : evR P o r H k = (evR P o r H some).bind k := evR_nt hn fun _ => rfl
  exact Option.bind_eq_some_iff.1 (e ▸ h)
theorem evW_ret {T : Tbl} {o : Oper} {an : Ann} {r : Operand → AV} {k : AV → Hp → Option β} {res : β} (h : evW P T o an r H k = some res) : ∃ x H', evW P T o an r H (fun x H' => some (x, H')) = some (x, H') ∧ k x H' = some res := by
  have e : evW P T o an r H k = (evW P T o an r H fun x H' => some (x, H')).bind fun p => k p.1 p.2 := evW_nt fun _ _ => rfl
  obtain ⟨⟨x, H'⟩, h1, h2⟩ := Option.bind_eq_some_iff.1 (e ▸ h)
  exact ⟨x, H', h1, h2⟩
end
end
end Go.Ab

/- Running on a part of the heap, and laying what came of it back. -/
namespace Go.Ab

theorem hget_none_of_hkey {H : Hp} {id : Nat} (h : hkey H id = false) : hget H id = none := by
  cases hg : hget H id with
  | none => rfl
  | some e => rw [hkey_of_hget hg] at h; cases h

section
variable {z z' : Z} {H : Hp}
/-- What a value names stands for something. -/
theorem ARep.live {a : AV} {v : Value} (h : ARep z a v) : ∀ id ∈ AV.ids a, z.ρ id ≠ .no := by
  have hL : ∀ {l : List AV}, (∀ (i : Nat) (x : AV), l[i]? = some x → ∀ id ∈ AV.ids x, z.ρ id ≠ .no) → ∀ id ∈ AV.idsL l, z.ρ id ≠ .no := by
    intro l
    induction l with
    | nil => intro _ id h; cases h
    | cons a l ih =>
      intro h id hi
      simp only [AV.idsL, List.mem_append] at hi
      rcases hi with hi | hi
      · exact h 0 a rfl id hi
      · exact ih (fun i x hx => h (i + 1) x hx) id hi
  induction h with
  | p t x v h => intro id h; cases h
  | pt t l i j b off h1 h2 h3 => intro id h; cases h
  | own es id i j g sz n h => intro k hk; simp only [AV.ids, List.mem_singleton] at hk; subst hk; rw [h]; intro h; cases h
  | slV es id off A h => intro k hk; simp only [AV.ids, List.mem_singleton] at hk; subst hk; rw [h]; intro h; cases h
  | slE es id off g sz m o h => intro k hk; simp only [AV.ids, List.mem_singleton] at hk; subst hk; rw [h]; intro h; cases h
  | sl es id off n g sz m c h hn hs hm => intro k hk; simp only [AV.ids, List.mem_singleton] at hk; subst hk; rw [h]; intro h; cases h
  | slfV es id A h => intro k hk; simp only [AV.ids, List.mem_singleton] at hk; subst hk; rw [h]; intro h; cases h
  | slf es id g sz n c h hn hs hm => intro k hk; simp only [AV.ids, List.mem_singleton] at hk; subst hk; rw [h]; intro h; cases h
  | mp id g sz n h => intro k hk; simp only [AV.ids, List.mem_singleton] at hk; subst hk; rw [h]; intro h; cases h
  | fn f a c va vc ha hc h1 h2 ih1 ih2 =>
    intro k hk
    simp only [AV.ids, List.mem_append] at hk
    rcases hk with hk | hk
    · refine hL (fun i x hx => ?_) k hk
      have hlt : i < va.size := by rw [ha]; exact (List.getElem?_eq_some_iff.1 hx).1
      exact ih1 i x va[i] hx (Array.getElem?_eq_getElem hlt)
    · refine hL (fun i x hx => ?_) k hk
      have hlt : i < vc.size := by rw [hc]; exact (List.getElem?_eq_some_iff.1 hx).1
      exact ih2 i x vc[i] hx (Array.getElem?_eq_getElem hlt)
  | agg l cs hs h1 h ih =>
    intro k hk
    refine hL (fun i x hx => ?_) k hk
    have hlt : i < cs.size := by rw [hs]; exact (List.getElem?_eq_some_iff.1 hx).1
    exact ih i x cs[i] hx (Array.getElem?_eq_getElem hlt)
  | tup l vs hs h ih =>
    intro k hk
    refine hL (fun i x hx => ?_) k hk
    have hlt : i < vs.size := by rw [hs]; exact (List.getElem?_eq_some_iff.1 hx).1
    exact ih i x vs[i] hx (Array.getElem?_eq_getElem hlt)
  | junk v => intro k hk; cases hk

/-- A block under other numbers, where what stands for something goes on. -/
theorem BRep.ren' {g sz n : Nat} {b : Blk} {f : Nat → Option Nat} {ρ' : Rho} (h : BRep z g sz n b) (hf : ∀ {id k : Nat}, z.ρ id ≠ .no → f id = some k → ρ' k = z.ρ id) : BRep { z with ρ := ρ' } g sz n (b.ren f) := by
  cases b with
  | vars c =>
    obtain ⟨cs, e, fr, a1, a2, a3, a4, a5, a6⟩ := h
    refine ⟨cs, e, fr, a1, a2, a3, by rw [renL_len]; exact a4, fun i a v p1 p2 => ?_, a6⟩
    rw [renL_get] at p1
    obtain ⟨y, p3, rfl⟩ := Option.map_eq_some_iff.1 p1
    exact (a5 i y v p3 p2).ren rfl rfl fun id k hi hk => hf ((a5 i y v p3 p2).live id hi) hk
  | rows e t l => exact h
  | map kt vt m => exact h
  | fmap kt l =>
    obtain ⟨es, clock, a1, a2, a3⟩ := h
    refine ⟨es, clock, a1, by simp [a2], fun i x e q1 q2 => ?_⟩
    rw [List.getElem?_map] at q1
    obtain ⟨y, q3, rfl⟩ := Option.map_eq_some_iff.1 q1
    obtain ⟨b1, b2⟩ := a3 i y e q3 q2
    exact ⟨b1, b2.ren rfl rfl fun id k hi hk => hf (b2.live id hi) hk⟩
/-- The same state, of which only some numbers' blocks are the call's own. -/
def Z.foc (z : Z) (H : Hp) (F : Nat → Bool) : Z :=
  { z with C := fun g => ∃ id e sz n, F id = true ∧ hget H id = some e ∧ e.fz = false ∧ z.ρ id = .real g sz n, D := fun id => z.D id ∨ (hkey H id = true ∧ F id = false) }
theorem foc_ok {H1 : Hp} {F : Nat → Bool} (hH : HRep z H) (h1 : ∀ id, hget H1 id = if F id then hget H id else none) (h2 : ∀ id, hkey H1 id = (F id && hkey H id)) : HRep (z.foc H F) H1 := by
  have q : ∀ id e, hget H1 id = some e → F id = true ∧ hget H id = some e := fun id e h => by
    rw [h1] at h
    cases hF : F id <;> simp [hF] at h
    exact ⟨rfl, h⟩
  refine ⟨fun id e h => ?_, fun id id' e e' g sz n g' sz' n' hii p1 p2 m1 m2 p3 p4 => ?_, fun id h => ?_, fun g ⟨id, e, sz, n, q1, q2, q3, q4⟩ => ?_⟩
  · obtain ⟨a1, a2⟩ := q id e h
    exact (hH.ent _ _ a2).rho rfl rfl rfl (fun _ _ => rfl) fun g sz n hr hf _ => ⟨id, e, sz, n, a1, a2, hf, hr⟩
  · exact hH.inj id id' e e' g sz n g' sz' n' hii (q _ _ p1).2 (q _ _ p2).2 m1 m2 p3 p4
  · rw [h2] at h
    by_cases hk : hkey H id = true
    · rw [hk, Bool.and_true] at h
      exact .inr (.inr ⟨hk, h⟩)
    · exact (hH.fresh id (by simpa using hk)).imp (fun h => h) .inl
  · exact hH.sub _ ((hH.real q2 q4).2.1 q3)

/-- What was done with a part is laid back. -/
theorem merge_ok {H2 H3 : Hp} {F : Nat → Bool} {z2 : Z} (hH : HRep z H) (hn : Nx (z.foc H F) z2) (h2 : HRep z2 H2) (hF : ∀ id, hkey H2 id = true → F id = true)
    (h3 : ∀ id, hget H3 id = if hkey H2 id then hget H2 id else if F id then none else hget H id) (h4 : ∀ id, hkey H2 id = true ∨ hkey H id = true → hkey H3 id = true) :
    ∃ z3, z3.w = z2.w ∧ z3.M = z2.M ∧ z3.ρ = z2.ρ ∧ HRep z3 H3 ∧ Nx z z3 := by
  let z3 : Z := { z2 with C := fun g => z2.C g ∨ (z.C g ∧ ¬ (z.foc H F).C g ∧ g < z.w.heap.size), D := z.D }
  have hC1 : ∀ g, (z.foc H F).C g → z.C g := fun g ⟨id, e, sz, n, _, q2, q3, q4⟩ => (hH.real q2 q4).2.1 q3
  have hN : Nx z z3 := ⟨hn.os, hn.tape, hn.output, hn.size, fun b hb hc => hn.block b hb fun h => hc (hC1 b h), hn.subM, fun g hg => by
    rcases hg with hg | hg
    · rcases hn.subC g hg with h | h
      · exact .inl (hC1 g h)
      · exact .inr h
    · exact .inl hg.1, fun g hg hM hC => hn.keepM g hg hM fun h => hC (hC1 g h), hn.ext, rfl⟩
  have hkp := hN.kp hH.sub
  have key : ∀ id e, hget H3 id = some e → (hget H2 id = some e) ∨ (F id = false ∧ hget H id = some e) := fun id e h => by
    rw [h3] at h
    split at h
    · exact .inl h
    · split at h
      · cases h
      · rename_i hf; exact .inr ⟨by simpa using hf, h⟩
  -- a block of an entry outside
  have hout : ∀ id e g sz n, F id = false → hget H id = some e → z.ρ id = .real g sz n → ¬ (z.foc H F).C g := by
    rintro id e g sz n hf hg hr ⟨id', e', sz', n', a1, a2, a3, a4⟩
    have hne : id ≠ id' := fun h => by rw [h, a1] at hf; cases hf
    exact hH.ne hne hg a2 a3 hr a4 rfl
  have houtρ : ∀ id e, F id = false → hget H id = some e → z.ρ id ≠ .no := fun id e _ hg hr => by
    have := hH.ent _ _ hg
    unfold ERep at this
    rw [hr] at this
    exact this
  refine ⟨z3, rfl, rfl, rfl, ⟨fun id e h => ?_, fun id id' e e' g sz n g' sz' n' hii p1 p2 m1 m2 p3 p4 => ?_, fun id h => ?_, fun g hg => ?_⟩, hN⟩
  · rcases key id e h with h | ⟨hf, h⟩
    · exact (h2.ent _ _ h).rho rfl rfl rfl (fun _ _ => rfl) fun g _ _ _ _ hC => .inl hC
    · refine (hH.ent _ _ h).kp hkp fun g sz n hr => ⟨hn.block g (hH.real h hr).1 (hout id e g sz n hf h hr), fun hC => .inr ⟨hC, hout id e g sz n hf h hr, (hH.real h hr).1⟩⟩
  · have cross : ∀ i i' ee ee' gg ssz nn gg' ssz' nn', hget H2 i = some ee → F i' = false → hget H i' = some ee' → ee.fz = false → z2.ρ i = .real gg ssz nn → z2.ρ i' = .real gg' ssz' nn' → gg ≠ gg' := by
      rintro i i' ee ee' gg ssz nn gg' ssz' nn' a1 a2 a3 a4 a5 a6 rfl
      have hr' : z.ρ i' = .real gg ssz' nn' := by rw [← hN.ext i' (houtρ i' ee' a2 a3)]; exact a6
      have hlt := (hH.real a3 hr').1
      rcases hn.subC gg ((h2.real a1 a5).2.1 a4) with h | h
      · exact hout i' ee' gg ssz' nn' a2 a3 hr' h
      · exact Nat.not_le.2 hlt h
    rcases key id e p1 with q1 | ⟨f1, q1⟩ <;> rcases key id' e' p2 with q2 | ⟨f2, q2⟩
    · exact h2.inj id id' e e' g sz n g' sz' n' hii q1 q2 m1 m2 p3 p4
    · exact cross id id' e e' g sz n g' sz' n' q1 f2 q2 m1 p3 p4
    · exact fun h => cross id' id e' e g' sz' n' g sz n q2 f1 q1 m2 p4 p3 h.symm
    · have r1 : z.ρ id = .real g sz n := by rw [← hN.ext id (houtρ id e f1 q1)]; exact p3
      have r2 : z.ρ id' = .real g' sz' n' := by rw [← hN.ext id' (houtρ id' e' f2 q2)]; exact p4
      exact hH.inj id id' e e' g sz n g' sz' n' hii q1 q2 m1 m2 r1 r2
  · have k2 : hkey H2 id = false := by
      cases hk : hkey H2 id
      · rfl
      · rw [h4 id (.inl hk)] at h; cases h
    have k1 : hkey H id = false := by
      cases hk : hkey H id
      · rfl
      · rw [h4 id (.inr hk)] at h; cases h
    rcases h2.fresh id k2 with h0 | h0
    · exact .inl h0
    · rw [hn.dom] at h0
      exact h0.elim .inr fun h0 => absurd h0.1 (by rw [k1]; simp)
  · rcases hg with hg | ⟨hg, hng, hlt⟩
    · exact h2.sub g hg
    · exact hn.keepM g hlt (hH.sub g hg) hng
end
end Go.Ab

/- Calls: a function that is told, called. -/
namespace Go.Ab

section
variable {P : Program} {z : Z} {H : Hp} {β : Type}
/-! Heaps -/
theorem hget_setAll (H : Hp) : ∀ (K : Hp) (id : Nat), hget (setAll H K) id = if hkey K id then hget K id else hget H id
  | [], id => by simp [setAll, hkey]
  | (i, e) :: K, id => by
    simp only [setAll, hget_hset, hkey, hget]
    by_cases h : id = i
    · subst h; simp [(beq_nat id id).2 rfl]
    · simp [beq_nat_ff (Ne.symm h), h, hget_setAll H K id]
theorem hkey_setAll (H : Hp) : ∀ (K : Hp) (id : Nat), hkey (setAll H K) id = (hkey K id || hkey H id)
  | [], id => by simp [setAll, hkey]
  | (i, e) :: K, id => by
    simp only [setAll, hkey_hset, hkey]
    by_cases h : id = i
    · subst h; simp [(beq_nat id id).2 rfl]
    · simp [beq_nat_ff (Ne.symm h), h, hkey_setAll H K id]
theorem hget_killAll : ∀ (l : List Nat) (H : Hp) (id : Nat), hget (killAll H l) id = if memN id l then none else hget H id
  | [], H, id => by simp [killAll, memN]
  | i :: l, H, id => by
    rw [killAll, hget_killAll l, hget_hset]
    simp only [memN]
    by_cases h : id = i
    · subst h; simp [(beq_nat id id).2 rfl]
    · simp [beq_nat_ff (Ne.symm h), h]
theorem hkey_killAll : ∀ (l : List Nat) (H : Hp) (id : Nat), hkey (killAll H l) id = (memN id l || hkey H id)
  | [], H, id => by simp [killAll, memN]
  | i :: l, H, id => by
    rw [killAll, hkey_killAll l, hkey_hset]
    simp only [memN]
    by_cases h : id = i
    · subst h; simp [(beq_nat id id).2 rfl]
    · simp [beq_nat_ff (Ne.symm h), h]
theorem hsub_get (H : Hp) : ∀ (l : List Nat) (id : Nat), hget (hsub H l) id = (if memN id l then hget H id else none) ∧ hkey (hsub H l) id = (memN id l && hkey H id)
  | [], id => by simp [hsub, memN, hget, hkey]
  | i :: l, id => by
    obtain ⟨h1, h2⟩ := hsub_get H l id
    simp only [hsub, memN]
    cases hk : hkey H i
    · simp only [bq_false]
      rw [h1, h2]
      by_cases h : i = id
      · subst h
        simp only [(beq_nat i i).2 rfl, cond_true, if_true, hk, Bool.and_false, Bool.true_and, and_true]
        rw [hget_none_of_hkey hk]
        split <;> rfl
      · simp [beq_nat_ff h]
    · simp only [bq_true, hget, hkey]
      by_cases h : i = id
      · subst h; simp [(beq_nat i i).2 rfl, hk]
      · simp [beq_nat_ff h, h1, h2]
theorem hkey_mem : ∀ {H : Hp} {id : Nat}, hkey H id = true ↔ id ∈ hkeys H
  | [], id => by simp [hkey, hkeys]
  | (i, e) :: H, id => by
    simp only [hkey, hkeys, List.mem_cons]
    by_cases h : i = id
    · subst h; simp [(beq_nat i i).2 rfl]
    · simp only [beq_nat_ff h, cond_false, hkey_mem]
      exact ⟨.inr, fun h' => h'.resolve_left (Ne.symm h)⟩
theorem nubN_mem {id : Nat} : ∀ {l : List Nat}, id ∈ nubN l ↔ id ∈ l
  | [] => by simp [nubN]
  | i :: l => by
    simp only [nubN]
    cases hm : memN i l
    · simp only [bq_false, List.mem_cons, nubN_mem]
    · simp only [bq_true, List.mem_cons, nubN_mem]
      exact ⟨.inr, fun h => h.elim (fun e => e ▸ memN_iff.1 hm) fun h => h⟩
theorem eqN_iff : ∀ {l r : List Nat}, eqN l r = true ↔ l = r
  | [], [] => by simp [eqN]
  | [], _ :: _ => by simp [eqN]
  | _ :: _, [] => by simp [eqN]
  | i :: l, k :: r => by simp only [eqN, Bool.and_eq_true, beq_nat, eqN_iff, List.cons.injEq]
theorem rangeN_mem {i : Nat} : ∀ {n k : Nat}, i ∈ rangeN k n ↔ k ≤ i ∧ i < k + n
  | 0, k => by simp [rangeN]
  | n + 1, k => by
    simp only [rangeN, List.mem_cons, rangeN_mem]
    omega

/-! Other worlds, the same beginnings -/
/-- Of pure memory fewer blocks may be written. -/
theorem ARep.less {z' : Z} {a : AV} {v : Value} (h : ARep z a v) (hw : z'.w = z.w) (hr : z'.ρ = z.ρ) (hM : ∀ g, z'.M g → z.M g) : ARep z' a v :=
  h.kp ⟨by rw [hw]; exact Nat.le_refl _, fun _ _ _ => by rw [hw], fun g hg => .inl (hM g hg), fun _ _ => by rw [hr]⟩
theorem AReps.less {z' : Z} {l : List AV} {vs : List Value} (h : AReps z l vs) (hw : z'.w = z.w) (hr : z'.ρ = z.ρ) (hM : ∀ g, z'.M g → z.M g) : AReps z' l vs :=
  ⟨h.1, fun i a v h1 h2 => (h.2 i a v h1 h2).less hw hr hM⟩

theorem argM_ok {m : Nat} {a a' : AV} {H' : Hp} {v : Value} (hH : HRep z H) (hmd : m < 3 ∨ ∀ id, ¬ z.D id) (h : argM P H m a = some (a', H')) (ha : ARep z a v) :
    ∃ z1 Mf, z1.w = z.w ∧ HRep z1 H' ∧ Nx z z1 ∧ (∀ g, Mf g → z1.M g) ∧ ARep { z1 with M := Mf } a' v ∧ (m ≠ 2 → Mf = z1.M) := by
  unfold argM at h
  split at h
  · simp only [Option.some.injEq, Prod.mk.injEq] at h
    obtain ⟨rfl, rfl⟩ := h
    exact ⟨z, z.M, rfl, hH, Nx.refl z, fun _ h => h, ha, fun _ => rfl⟩
  · obtain ⟨z', q1, q2, q3, q4, q5⟩ := pureA_ok hH h ha
    exact ⟨z', z'.M, q1, q2, q3, fun _ h => h, q5, fun _ => rfl⟩
  · obtain ⟨⟨x, H1⟩, h1, h2⟩ := Option.map_eq_some_iff.1 h
    simp only [Prod.mk.injEq] at h2
    obtain ⟨rfl, rfl⟩ := h2
    obtain ⟨z', q1, q2, q3, q4, q5⟩ := pureA_ok hH h1 ha
    refine ⟨z, fun g => z.M g ∧ z'.M g, rfl, hH, Nx.refl z, fun _ h => h.1, ?_, fun h => absurd rfl h⟩
    exact q5.less (z' := { z with M := fun g => z.M g ∧ z'.M g }) q1.symm q4.symm fun g h => h.2
  · rename_i m' h0 h1 h2
    split at h
    · obtain ⟨u, h3, h4⟩ := ob_iff.1 h
      cases hk : hkey H (m + 100000) <;> rw [hk] at h4 <;> simp only [bq_true, bq_false] at h4
      · simp only [Option.some.injEq, Prod.mk.injEq] at h4
        obtain ⟨rfl, rfl⟩ := h4
        by_cases hm : m < 3
        · have : m = 0 ∨ m = 1 ∨ m = 2 := by omega
          rcases this with rfl | rfl | rfl
          · exact absurd rfl h0
          · exact absurd rfl h1
          · exact absurd rfl h2
        · obtain ⟨z1, p1, p2, p3, p4⟩ := hH.newV hk (hmd.resolve_left hm (m + 100000)) (b := .rows (m - 10) u []) ⟨rfl, (ty_ok h3).2.1⟩
          obtain rfl := ha.v.opq.1
          exact ⟨z1, z1.M, p1, p2, p3, fun _ h => h, .slfV _ _ _ p4, fun _ => rfl⟩
      · cases h4
    · rename_i es old n
      split at h
      · rename_i e t l hg
        cases hb : (Nat.beq es t.cells && Nat.ble n l.length && !hkey H (m + 100000)) <;> rw [hb] at h <;> simp only [bq_true, bq_false] at h
        · cases h
        simp only [Bool.and_eq_true, beq_nat, Nat.ble_eq, Bool.not_eq_true'] at hb
        obtain ⟨⟨rfl, hn⟩, hk⟩ := hb
        simp only [Option.some.injEq, Prod.mk.injEq] at h
        obtain ⟨rfl, rfl⟩ := h
        have hmm : ∀ id, ¬ z.D id := by
          refine hmd.resolve_left fun hm => ?_
          have : m = 0 ∨ m = 1 ∨ m = 2 := by omega
          rcases this with rfl | rfl | rfl
          · exact h0 rfl
          · exact h1 rfl
          · exact h2 rfl
        have hk' : hkey (hset H old none) (m + 100000) = false := by
          rw [hkey_hset, hk]
          have : m + 100000 ≠ old := fun h => by rw [h, hkey_of_hget hg] at hk; cases hk
          simp [this]
        have hD := hmm (m + 100000)
        have hvirt : z.ρ old = .virt → ∃ z1, z1.w = z.w ∧ HRep z1 (hset (hset H old none) (m + 100000) (some ⟨false, .rows e t (l.take n)⟩)) ∧ Nx z z1 ∧ z1.ρ (m + 100000) = .virt := fun hρ => by
          obtain ⟨rfl, hc⟩ := hH.virt hg hρ
          exact (hH.kill old).newV hk' hD ⟨by simp, hc⟩
        have hreal : ∀ g sz k, z.ρ old = .real g sz k → ∃ z1, z1.w = z.w ∧ HRep z1 (hset (hset H old none) (m + 100000) (some ⟨false, .rows e t (l.take n)⟩)) ∧ Nx z z1 ∧ z1.ρ (m + 100000) = .real g sz n := fun g sz k hρ => by
          refine hH.move (w' := z.w) hg hρ hk' hD rfl rfl rfl rfl (fun _ _ => rfl) fun z1 hw kp => ?_
          have hB := (hH.real hg hρ).2.2.2
          obtain ⟨cs, fr, a1, a2, a3, a4, a5, a6, a7⟩ := hB.kp kp (by rw [hw])
          refine ⟨cs, fr, a1, a2, a3, by rw [List.length_take]; omega, ?_, a6, fun i x hx => ?_⟩
          · rw [List.length_take]
            exact Nat.le_trans (Nat.mul_le_mul_right _ (Nat.min_le_right _ _)) a5
          · rw [List.getElem?_take] at hx
            split at hx
            · exact a7 i x hx
            · cases hx
        cases ha with
        | slV _ _ _ A hρ =>
          obtain ⟨z1, p1, p2, p3, p4⟩ := hvirt hρ
          exact ⟨z1, z1.M, p1, p2, p3, fun _ h => h, .slfV _ _ _ p4, fun _ => rfl⟩
        | slE _ _ _ g sz k o hρ =>
          obtain ⟨_, _, _, cs, fr, a1, a2, a3, a4, a5, a6, a7⟩ := hH.real hg hρ
          obtain ⟨z1, p1, p2, p3, p4⟩ := (hH.kill old).newV hk' hD (b := .rows e t (l.take 0)) ⟨by simp, a6⟩
          exact ⟨z1, z1.M, p1, p2, p3, fun _ h => h, .slfV _ _ _ p4, fun _ => rfl⟩
        | sl _ _ _ _ g sz k c hρ hnc hs hm =>
          obtain ⟨z1, p1, p2, p3, p4⟩ := hreal g sz k hρ
          refine ⟨z1, z1.M, p1, p2, p3, fun _ h => h, ?_, fun _ => rfl⟩
          rw [Nat.zero_mul]
          exact .slf _ _ _ _ _ _ p4 hnc (by rw [Nat.zero_add] at hs; exact hs) hm
      · simp only [Option.some.injEq, Prod.mk.injEq] at h
        obtain ⟨rfl, rfl⟩ := h
        exact ⟨z, z.M, rfl, hH, Nx.refl z, fun _ h => h, ha, fun _ => rfl⟩
    · simp only [Option.some.injEq, Prod.mk.injEq] at h
      obtain ⟨rfl, rfl⟩ := h
      exact ⟨z, z.M, rfl, hH, Nx.refl z, fun _ h => h, ha, fun _ => rfl⟩
theorem argsM_ok : ∀ {as : List AV} {ms : List Nat} {as' : List AV} {z : Z} {H H' : Hp} {vs : List Value}, HRep z H → (ltAll 3 ms = true ∨ ∀ id, ¬ z.D id) → argsM P H ms as = some (as', H') → AReps z as vs →
    ∃ z1 Mf, z1.w = z.w ∧ HRep z1 H' ∧ Nx z z1 ∧ (∀ g, Mf g → z1.M g) ∧ AReps { z1 with M := Mf } as' vs ∧ (memN 2 ms = false → Mf = z1.M)
  | [], ms, as', z, H, H', vs, hH, hmd, h, hr => by
    simp only [argsM, Option.some.injEq, Prod.mk.injEq] at h
    obtain ⟨rfl, rfl⟩ := h
    exact ⟨z, z.M, rfl, hH, Nx.refl z, fun _ h => h, hr, fun _ => rfl⟩
  | a :: as, ms, as', z, H, H', vs, hH, hmd, h, hr => by
    simp only [argsM] at h
    obtain ⟨⟨x, H1⟩, h1, h2⟩ := ob_iff.1 h
    obtain ⟨⟨y, H2⟩, h3, h4⟩ := Option.map_eq_some_iff.1 h2
    simp only [Prod.mk.injEq] at h4
    obtain ⟨rfl, rfl⟩ := h4
    match vs, hr with
    | [], hr => have := hr.1; simp at this
    | v :: vs, hr =>
      have e1 : ms.headD 0 < 3 ∨ ∀ id, ¬ z.D id := hmd.imp (fun h => by cases ms with | nil => simp | cons m ms => simp only [ltAll, Bool.and_eq_true, Nat.blt_eq] at h; exact h.1) fun h => h
      obtain ⟨z1, Mf, q1, q2, q3, q4, q5, q6⟩ := argM_ok hH e1 h1 hr.head
      have e2 : ltAll 3 ms.tail = true ∨ ∀ id, ¬ z1.D id := hmd.imp (fun h => by cases ms with | nil => rfl | cons m ms => simp only [ltAll, Bool.and_eq_true] at h; exact h.2) fun h id => by rw [q3.dom]; exact h id
      obtain ⟨z2, Mg, p1, p2, p3, p4, p5, p6⟩ := argsM_ok q2 e2 h3 (hr.tail.kp (q3.kp hH.sub))
      have k := p3.kp q2.sub
      refine ⟨z2, fun g => Mg g ∧ (Mf g ∨ z1.w.heap.size ≤ g), p1.trans q1, p2, q3.trans p3, fun g h => p4 g h.1, .cons ?_ (p5.less rfl rfl fun g h => h.1), fun hm => ?_⟩
      · have kk : Kp { z1 with M := Mf } { z2 with M := fun g => Mg g ∧ (Mf g ∨ z1.w.heap.size ≤ g) } := ⟨k.size, fun b _ _ => by show z2.w.heap[b]? = z1.w.heap[b]?; rw [p1], fun g h => h.2, k.ext⟩
        exact q5.kp kk
      · have m1 : ms.headD 0 ≠ 2 ∧ memN 2 ms.tail = false := by
          cases ms with
          | nil => exact ⟨by simp, rfl⟩
          | cons m ms =>
            simp only [memN] at hm
            cases hb : Nat.beq m 2 <;> rw [hb] at hm <;> simp at hm
            exact ⟨fun h => by simp only [List.headD_cons] at h; rw [h] at hb; simp [Nat.beq] at hb, hm⟩
        have a1 := q6 m1.1
        have a2 := p6 m1.2
        subst a1
        subst a2
        funext g
        refine propext ⟨fun h => h.1, fun h => ⟨h, ?_⟩⟩
        exact k.subM g h
end
end Go.Ab

/- Calls: a function that is told, called. -/
namespace Go.Ab

section
variable {P : Program} {z : Z} {H : Hp} {β : Type}
/-! Results that are nothing of memory -/
theorem Cl.scal {w w' : World} {M M' : Nat → Prop} : {t : Ty} → {x : t.den} → {vs : List Value} → t.scal = true → Cl w M t x vs → Cl w' M' t x vs
  | .int _, _, _, _, h | .byte, _, _, _, h | .bool, _, _, _, h | .str, _, _, _, h => h
  | .nat, _, _, _, h => h.elim
  | .opq, _, _, hs, _ => by cases hs
  | .sl _, _, _, hs, _ => by cases hs
  | .one t, _, _, hs, h => Cl.scal (t := t) hs h
  | .pair a b, _, _, hs, h => by
    obtain ⟨u, v, rfl, h1, h2⟩ := h
    simp only [Ty.scal, Bool.and_eq_true] at hs
    exact ⟨u, v, rfl, Cl.scal hs.1 h1, Cl.scal hs.2 h2⟩
  | .arr n t, l, _, hs, h => by
    obtain ⟨hn, css, h1, rfl, h2⟩ := h
    exact ⟨hn, css, h1, rfl, fun i e u he hu => Cl.scal (t := t) hs (h2 i e u he hu)⟩
mutual
theorem lv_scal : (k : Kd) → {r : List Ty} → allScal (k.lv r) = true → allScal r = true
  | .p _, r, h | .pt _, r, h | .ownx _ _ _, r, h => by simp only [Kd.lv, allScal, Bool.and_eq_true] at h; exact h.2
  | .sl _ _, r, h => by simp only [Kd.lv, allScal, Bool.and_eq_true] at h; exact h.2.2
  | .own _ _ _ _, r, h | .slf _ _, r, h | .mp _, r, h | .any, r, h | .nilp _, r, h => h
  | .fn _ a c, r, h => lvL_scal c (lvL_scal a h)
  | .agg l, r, h => lvL_scal l h
  | .tup l, r, h => lvL_scal l h
theorem lvL_scal : (k : KdL) → {r : List Ty} → allScal (k.lv r) = true → allScal r = true
  | .nil, r, h => h
  | .cons k l, r, h => lvL_scal l (lv_scal k h)
end
variable {z' : Z} {f : Nat → Option Nat}
mutual
theorem emb_scal (hf : ∀ id, f id = none) : (k : Kd) → {r : List Ty} → {y : HL (k.lv r)} → {v : Value} → allScal (k.lv r) = true → ARep z (emb k r y).1 v → ARep z' (AV.ren f (emb k r y).1) v
  | .p t, r, y, v, hs, h => by
    simp only [Kd.lv, allScal, Bool.and_eq_true] at hs
    obtain ⟨vs, h1, h2⟩ := h.v
    exact .p _ _ _ ⟨vs, Cl.scal hs.1 h1, h2⟩
  | .pt t, r, y, v, hs, h => by simp [Kd.lv, allScal, Ty.scal] at hs
  | .own _ _ _ _, r, y, v, hs, h | .ownx _ _ _, r, y, v, hs, h | .sl _ _, r, y, v, hs, h | .slf _ _, r, y, v, hs, h | .mp _, r, y, v, hs, h => by
    simp only [emb, AV.ren, hf]
    exact .junk v
  | .any, r, y, v, hs, h => .junk v
  | .fn g a c, r, y, v, hs, h => by
    simp only [emb, AV.ren]
    simp only [emb] at h
    cases h with | fn _ _ _ va vc e1 e2 e3 e4 =>
    have p1 := embL_scal hf a (r := c.lv r) (y := y) (vs := va.toList) hs ⟨by simp [e1], fun i x v q1 q2 => e3 i x v q1 (by simpa using q2)⟩
    have p2 := embL_scal hf c (r := r) (y := (embL a (c.lv r) y).2) (vs := vc.toList) (lvL_scal a hs) ⟨by simp [e2], fun i x v q1 q2 => e4 i x v q1 (by simpa using q2)⟩
    exact .fn _ _ _ _ _ (by have := p1.1; simpa using this.symm) (by have := p2.1; simpa using this.symm) (fun i x v q1 q2 => p1.2 i x v q1 (by simpa using q2)) (fun i x v q1 q2 => p2.2 i x v q1 (by simpa using q2))
  | .agg l, r, y, v, hs, h => by
    simp only [emb, AV.ren]
    simp only [emb] at h
    cases h with | agg _ cs e1 e2 e3 =>
    have p1 := embL_scal hf l (r := r) (y := y) (vs := cs.toList) hs ⟨by simp [e1], fun i x v q1 q2 => e3 i x v q1 (by simpa using q2)⟩
    exact .agg _ _ (by have := p1.1; simpa using this.symm) e2 fun i x v q1 q2 => p1.2 i x v q1 (by simpa using q2)
  | .tup l, r, y, v, hs, h => by
    simp only [emb, AV.ren]
    simp only [emb] at h
    cases h with | tup _ cs e1 e3 =>
    have p1 := embL_scal hf l (r := r) (y := y) (vs := cs.toList) hs ⟨by simp [e1], fun i x v q1 q2 => e3 i x v q1 (by simpa using q2)⟩
    exact .tup _ _ (by have := p1.1; simpa using this.symm) fun i x v q1 q2 => p1.2 i x v q1 (by simpa using q2)
  | .nilp u, r, y, v, hs, h => by
    obtain ⟨vs, h1, h2⟩ := h.v
    exact .p _ _ _ ⟨vs, h1, h2⟩
theorem embL_scal (hf : ∀ id, f id = none) : (k : KdL) → {r : List Ty} → {y : HL (k.lv r)} → {vs : List Value} → allScal (k.lv r) = true → AReps z (embL k r y).1 vs → AReps z' (AV.renL f (embL k r y).1) vs
  | .nil, r, y, vs, hs, h => ⟨h.1, fun i a v h1 h2 => by simp [embL, AV.renL] at h1⟩
  | .cons k l, r, y, [], hs, h => by have := h.1; simp [embL] at this
  | .cons k l, r, y, v :: vs, hs, h => by
    simp only [embL] at h
    simp only [embL, AV.renL]
    exact .cons (emb_scal hf k hs h.head) (embL_scal hf l (lv_scal k hs) h.tail)
end
theorem tupA_ren (l : List AV) : AV.ren f (tupA l) = tupA (AV.renL f l) := by
  match l with
  | [] => simp [tupA, AV.ren, AV.renL]
  | [a] => simp [tupA, AV.renL]
  | a :: b :: l => simp [tupA, AV.ren, AV.renL]
/-- A function's results as one value. -/
theorem tupA_vals {l : List AV} {v : Value} (h : ARep z (tupA l) v) : ∃ vs, AReps z l vs ∧ ∀ {z' : Z} {l' : List AV}, AReps z' l' vs → l'.length = l.length → ARep z' (tupA l') v := by
  match l with
  | [a] => exact ⟨[v], .cons h .nil, fun {z' l'} h' hl => by
      match l', hl with
      | [b], _ => exact h'.head⟩
  | [] =>
    obtain ⟨vs, rfl, h1, h2⟩ := tup?_ok (l := []) rfl h
    refine ⟨vs.toList, ⟨by simp [h1], fun i a v h => by simp at h⟩, fun {z' l'} h' hl => ?_⟩
    match l', hl with
    | [], _ => exact .tup _ _ (by have := h'.1; simpa using this.symm) fun i x v q1 q2 => h'.2 i x v q1 (by simpa using q2)
  | a :: b :: l =>
    obtain ⟨vs, rfl, h1, h2⟩ := tup?_ok (l := a :: b :: l) rfl h
    refine ⟨vs.toList, ⟨by simp [h1], fun i a v q1 q2 => h2 i a v q1 (by simpa using q2)⟩, fun {z' l'} h' hl => ?_⟩
    match l', hl with
    | c :: d :: l', _ => exact .tup _ _ (by have := h'.1; simpa using this.symm) fun i x v q1 q2 => h'.2 i x v q1 (by simpa using q2)

/-! What is told of a function -/
structure Told (P : Program) (e : FnT) : Prop where
  ent : ∃ fn c, P.funcs[e.f]? = some fn ∧ fn.body = some c ∧ (fn.name == "runtime.NumGoroutine") = false
  spec : ∀ t r, e.spec t = some r → ∀ (z : Z) (vals : List Value), HRep z (e.i.emb t).2 → AReps z (e.i.emb t).1 vals → (∀ id, ¬ z.D id) →
    Calls P e.f vals.toArray z.w fun en w' => ∃ v z', en = .returned v ∧ z'.w = w' ∧ Nx z { z' with D := z.D } ∧ (∀ k, z'.D k → k ∈ hkKeys e.i.hs) ∧ OutS.on e.os r fun o x => HRep z' (o.emb x).2 ∧ ARep z' (tupA (o.emb x).1) v
theorem OutS.on_both : ∀ {l : List Shp} {x : OutS l} {K : (s : Shp) → s.D → Option β} {Q : (s : Shp) → s.D → Prop} {res : β}, OutS.on l x K = some res → OutS.on l x Q → ∃ o y, o ∈ l ∧ K o y = some res ∧ Q o y
  | [], x, _, _, _, _, _ => Empty.elim x
  | [s], x, K, Q, res, h, hq => ⟨s, x, by simp, h, hq⟩
  | s :: t :: r, .inl y, K, Q, res, h, hq => ⟨s, y, by simp, h, hq⟩
  | s :: t :: r, .inr y, K, Q, res, h, hq => by
    obtain ⟨o, x, h1, h2, h3⟩ := OutS.on_both (l := t :: r) (x := y) h hq
    exact ⟨o, x, List.mem_cons_of_mem _ h1, h2, h3⟩
theorem renH_get' {H : Hp} {f : Nat → Option Nat} : ∀ {ps : List (Nat × Nat)}, (sndN ps).Nodup → ∀ k, hget (renH H f ps) k = (idOf ps k).bind (fun id => (hget H id).map (Ent.ren f)) ∧ (hkey (renH H f ps) k = true ↔ ∃ id e, idOf ps k = some id ∧ hget H id = some e)
  | [], _, k => ⟨rfl, by simp [renH, hkey, idOf]⟩
  | (i, j) :: ps, h, k => by
    simp only [sndN, List.nodup_cons] at h
    obtain ⟨q1, q2⟩ := renH_get' (H := H) (f := f) h.2 k
    have hno : j = k → idOf ps k = none := fun hj => by
      cases hk : idOf ps k with
      | none => rfl
      | some id => exact absurd (mem_sndN (idOf_mem hk)) (hj ▸ h.1)
    cases hg : hget H i with
    | none =>
      simp only [renH, hg, idOf]
      by_cases hj : j = k
      · rw [(beq_nat j k).2 hj, cond_true]
        rw [hno hj] at q1 q2
        refine ⟨by rw [q1]; simp [hg], ⟨fun h => ?_, fun ⟨id, e, h1, h2⟩ => ?_⟩⟩
        · obtain ⟨id, e, h1, _⟩ := q2.1 h; cases h1
        · simp only [Option.some.injEq] at h1; subst h1; rw [hg] at h2; cases h2
      · rw [beq_nat_ff hj, cond_false]; exact ⟨q1, q2⟩
    | some e =>
      simp only [renH, hg, idOf, hget, hkey]
      by_cases hj : j = k
      · simp [(beq_nat j k).2 hj, hg]
      · rw [beq_nat_ff hj]; exact ⟨q1, q2⟩
theorem zipN_fst : ∀ {a b : List Nat}, b.length ≤ a.length → sndN (zipN a b) = b ∧ ∀ i k, (i, k) ∈ zipN a b → i ∈ a
  | [], [], _ => ⟨rfl, fun i k h => by cases h⟩
  | [], _ :: _, h => by simp at h
  | _ :: _, [], _ => ⟨rfl, fun i k h => by cases h⟩
  | x :: a, y :: b, h => by
    obtain ⟨q1, q2⟩ := zipN_fst (a := a) (b := b) (by simpa using h)
    refine ⟨by simp [zipN, sndN, q1], fun i k hm => ?_⟩
    simp only [zipN, List.mem_cons, Prod.mk.injEq] at hm
    rcases hm with ⟨rfl, _⟩ | hm
    · simp
    · exact List.mem_cons_of_mem _ (q2 i k hm)
theorem rangeN_len : ∀ (n k : Nat), (rangeN k n).length = n
  | 0, k => rfl
  | n + 1, k => by simp [rangeN, rangeN_len n]
theorem zipN_at : ∀ {a b : List Nat} {i k : Nat}, (i, k) ∈ zipN a b → ∃ n : Nat, a[n]? = some i ∧ b[n]? = some k
  | [], _, i, k, h => by cases h
  | _ :: _, [], i, k, h => by cases h
  | x :: a, y :: b, i, k, h => by
    simp only [zipN, List.mem_cons, Prod.mk.injEq] at h
    rcases h with ⟨rfl, rfl⟩ | h
    · exact ⟨0, rfl, rfl⟩
    · obtain ⟨n, h1, h2⟩ := zipN_at h
      exact ⟨n + 1, h1, h2⟩
theorem zipN_mk : ∀ {a b : List Nat} {n i k : Nat}, a[n]? = some i → b[n]? = some k → (i, k) ∈ zipN a b
  | [], _, n, i, k, h, _ => by simp at h
  | _ :: _, [], n, i, k, _, h => by simp at h
  | x :: a, y :: b, 0, i, k, h1, h2 => by simp at h1 h2; subst h1; subst h2; simp [zipN]
  | x :: a, y :: b, n + 1, i, k, h1, h2 => by
    simp only [zipN, List.mem_cons]
    exact .inr (zipN_mk (by simpa using h1) (by simpa using h2))
theorem rangeN_at : ∀ {n k m : Nat}, m < n → (rangeN k n)[m]? = some (k + m)
  | 0, k, m, h => by omega
  | n + 1, k, 0, h => rfl
  | n + 1, k, m + 1, h => by
    simp only [rangeN, List.getElem?_cons_succ]
    rw [rangeN_at (by omega)]
    congr 1
    omega
theorem rangeN_get {n k m i : Nat} (h : (rangeN k n)[m]? = some i) : i = k + m ∧ m < n := by
  have hlt : m < n := by have := (List.getElem?_eq_some_iff.1 h).1; rwa [rangeN_len] at this
  rw [rangeN_at hlt] at h
  exact ⟨(Option.some.inj h).symm, hlt⟩
end
end Go.Ab

/- A call of a function that is told. -/
namespace Go.Ab

section
variable {P : Program} {z : Z} {H : Hp} {β : Type}
theorem freshAll_mem {H : Hp} : ∀ {l : List Nat}, freshAll H l = true → ∀ id ∈ l, hkey H id = false
  | [], _, id, h => by cases h
  | i :: l, h, id, hm => by
    simp only [freshAll, Bool.and_eq_true, Bool.not_eq_true'] at h
    rcases List.mem_cons.1 hm with rfl | hm
    · exact h.1
    · exact freshAll_mem h.2 id hm
/-- Where a call's blocks go back to. -/
theorem back_ok {z1 zc zd : Z} {H1 Hd : Hp} {sh ids : List Nat} (hH : HRep z1 H1) (hfr : ∀ id ∈ ids, hkey H1 id = false) (hd : ∀ id ∈ ids, ¬ z1.D id) (hnd : (sh ++ ids).Nodup)
    (hw : zc.w = z1.w) (hM : zc.M = z1.M) (hC : ∀ g, zc.C g → ∃ id e sz n, id ∈ sh ∧ hget H1 id = some e ∧ e.fz = false ∧ z1.ρ id = .real g sz n)
    (hρ : ∀ (n : Nat) id, sh[n]? = some id → zc.ρ n = z1.ρ id ∧ zc.ρ n ≠ .no) (hDd : ∀ k, zd.D k → k < sh.length) (hn : Nx zc { zd with D := zc.D }) (hHd : HRep zd Hd) (hlive : ∀ k, hkey Hd k = true → ∃ e, hget Hd k = some e)
    (hk : allIn (hkeys Hd) (fstN (zipN (rangeN 0 (sh ++ ids).length) (sh ++ ids))) = true) :
    ∃ z3, z3.w = zd.w ∧ HRep z3 (setAll (killAll H1 sh) (renH Hd (noOf (zipN (rangeN 0 (sh ++ ids).length) (sh ++ ids))) (zipN (rangeN 0 (sh ++ ids).length) (sh ++ ids)))) ∧ Nx z1 z3 ∧
      ∀ a v, ARep zd a v → ARep z3 (AV.ren (noOf (zipN (rangeN 0 (sh ++ ids).length) (sh ++ ids))) a) v := by
  generalize hall : sh ++ ids = all at *
  generalize hback : zipN (rangeN 0 all.length) all = back at *
  have hat : ∀ k id, (k, id) ∈ back ↔ all[k]? = some id := fun k id => by
    rw [← hback]
    constructor
    · intro h
      obtain ⟨n, h1, h2⟩ := zipN_at h
      obtain ⟨rfl, _⟩ := rangeN_get h1
      rwa [Nat.zero_add]
    · intro h
      have hlt : k < all.length := (List.getElem?_eq_some_iff.1 h).1
      exact zipN_mk (n := k) (by rw [rangeN_at hlt, Nat.zero_add]) h
  have hsnd : sndN back = all := by rw [← hback]; exact (zipN_fst (by rw [rangeN_len]; exact Nat.le_refl _)).1
  have hsn : (sndN back).Nodup := by rw [hsnd]; exact hnd
  have hid : ∀ k id, (k, id) ∈ back → idOf back id = some k := fun k id h => idOf_of hsn h
  have hinj : ∀ k k' id, (k, id) ∈ back → (k', id) ∈ back → k = k' := fun k k' id h h' => by
    have := (hid k id h).symm.trans (hid k' id h')
    exact Option.some.inj this
  let F : Nat → Bool := fun id => memN id all
  let z2 : Z := { w := zd.w, M := zd.M, ρ := fun id => match idOf back id with | some k => zd.ρ k | none => z1.ρ id,
                  C := fun g => ∃ k id e sz n, (k, id) ∈ back ∧ hget Hd k = some e ∧ e.fz = false ∧ zd.ρ k = .real g sz n, D := (z1.foc H1 F).D }
  have hρ2 : ∀ k id, (k, id) ∈ back → z2.ρ id = zd.ρ k := fun k id h => by
    show (match idOf back id with | some k => zd.ρ k | none => z1.ρ id) = _
    rw [hid k id h]
  have hρ2n : ∀ id, id ∉ all → idOf back id = none := fun id h => by
    cases hk : idOf back id with
    | none => rfl
    | some k => exact absurd (List.mem_of_getElem? ((hat k id).1 (idOf_mem hk))) h
  have hCd : ∀ g, zd.C g → (z1.foc H1 F).C g ∨ z1.w.heap.size ≤ g := fun g hg => by
    rcases hn.subC g hg with h | h
    · obtain ⟨id, e, sz, n, a1, a2, a3, a4⟩ := hC g h
      exact .inl ⟨id, e, sz, n, memN_iff.2 (by rw [← hall]; exact List.mem_append_left _ a1), a2, a3, a4⟩
    · rw [hw] at h; exact .inr h
  have hC1 : ∀ g, zc.C g → (z1.foc H1 F).C g := fun g h => by
    obtain ⟨id, e, sz, n, a1, a2, a3, a4⟩ := hC g h
    exact ⟨id, e, sz, n, memN_iff.2 (by rw [← hall]; exact List.mem_append_left _ a1), a2, a3, a4⟩
  have hC2 : ∀ g, z2.C g → zd.C g := fun g ⟨k, id, e, sz, n, a1, a2, a3, a4⟩ => (hHd.real a2 a4).2.1 a3
  have hN : Nx (z1.foc H1 F) z2 := by
    refine ⟨hn.os.trans (by rw [hw]; rfl), hn.tape.trans (by rw [hw]; rfl), hn.output.trans (by rw [hw]; rfl), by have := hn.size; rw [hw] at this; exact this, fun b hb hc => ?_, fun g hg => ?_, fun g hg => hCd g (hC2 g hg), fun g hg hm hc => ?_, fun id hne => ?_, rfl⟩
    · have := hn.block b (by rw [hw]; exact hb) fun h => hc (hC1 b h)
      rw [hw] at this
      exact this
    · have := hn.subM g hg
      rw [hw, hM] at this
      exact this
    · exact hn.keepM g (by rw [hw]; exact hg) (by rw [hM]; exact hm) fun h => hc (hC1 g h)
    · have hne : z1.ρ id ≠ .no := hne
      show z2.ρ id = z1.ρ id
      by_cases hm : id ∈ all
      · obtain ⟨k, hk⟩ := List.getElem?_of_mem hm
        rw [hρ2 k id ((hat k id).2 hk)]
        rw [← hall] at hk
        by_cases hlt : k < sh.length
        · rw [List.getElem?_append_left hlt] at hk
          obtain ⟨b1, b2⟩ := hρ k id hk
          rw [hn.ext k b2, b1]
        · rw [List.getElem?_append_right (by omega)] at hk
          have hmi := List.mem_of_getElem? hk
          exact absurd ((hH.fresh id (hfr id hmi)).resolve_right (hd id hmi)) hne
      · show (match idOf back id with | some k => zd.ρ k | none => z1.ρ id) = _
        rw [hρ2n id hm]
  have hent : ∀ id e', hget (renH Hd (noOf back) back) id = some e' → ∃ k e, (k, id) ∈ back ∧ hget Hd k = some e ∧ e' = e.ren (noOf back) := fun id e' h => by
    rw [(renH_get' hsn id).1] at h
    obtain ⟨k, q1, q2⟩ := Option.bind_eq_some_iff.1 h
    obtain ⟨e, q3, q4⟩ := Option.map_eq_some_iff.1 q2
    exact ⟨k, e, idOf_mem q1, q3, q4.symm⟩
  have hgs : ∀ id e', hget (setAll (killAll [] sh) (renH Hd (noOf back) back)) id = some e' → hget (renH Hd (noOf back) back) id = some e' := fun id e' h => by
    rw [hget_setAll, hget_killAll] at h
    split at h
    · exact h
    · split at h <;> cases h
  have hR : HRep z2 (setAll (killAll [] sh) (renH Hd (noOf back) back)) := by
    refine ⟨fun id e' h => ?_, fun i i' e e' g sz n g' sz' n' hii p1 p2 m1 m2 p3 p4 => ?_, fun id h => ?_, fun g h => hHd.sub g (hC2 g h)⟩
    · replace h := hgs _ _ h
      obtain ⟨k, e, q1, q2, rfl⟩ := hent id e' h
      have h0 := hHd.ent _ _ q2
      unfold ERep at h0 ⊢
      rw [hρ2 k id q1]
      cases hr : zd.ρ k with
      | no => rw [hr] at h0; exact h0.elim
      | virt =>
        rw [hr] at h0
        obtain ⟨fz, b⟩ := e
        cases b <;> first | exact h0.elim | exact h0
      | real g sz n =>
        rw [hr] at h0
        obtain ⟨a1, a2, a3, a4⟩ := h0
        exact ⟨a1, fun hf => ⟨k, id, e, sz, n, q1, q2, hf, hr⟩, a3, a4.ren (fz := e.fz) rfl rfl fun id' k' _ hk' => hρ2 id' k' (noOf_mem hk')⟩
    · replace p1 := hgs _ _ p1
      replace p2 := hgs _ _ p2
      obtain ⟨k, e1, q1, q2, rfl⟩ := hent i e p1
      obtain ⟨k', e2, q3, q4, rfl⟩ := hent i' e' p2
      rw [hρ2 k i q1] at p3
      rw [hρ2 k' i' q3] at p4
      have hkk : k ≠ k' := fun h => by
        subst h
        have a1 := (hat k i).1 q1
        have a2 := (hat k i').1 q3
        rw [a1] at a2
        exact hii (Option.some.inj a2)
      exact hHd.inj k k' e1 e2 g sz n g' sz' n' hkk q2 q4 m1 m2 p3 p4
    · rw [hkey_setAll, hkey_killAll] at h
      simp only [Bool.or_eq_false_iff] at h
      obtain ⟨h, hsh, _⟩ := h
      by_cases hm : id ∈ all
      · obtain ⟨k, hk⟩ := List.getElem?_of_mem hm
        have hb := (hat k id).2 hk
        left
        rw [hρ2 k id hb]
        have hkd : hkey Hd k = false := by
          cases hkd : hkey Hd k
          · rfl
          · obtain ⟨e, he⟩ := hlive k hkd
            rw [((renH_get' (H := Hd) (f := noOf back) hsn id).2).2 ⟨k, e, hid k id hb, he⟩] at h
            cases h
        refine (hHd.fresh k hkd).resolve_right fun hdk => ?_
        have hlt := hDd k hdk
        rw [← hall, List.getElem?_append_left hlt] at hk
        rw [memN_iff.2 (List.mem_of_getElem? hk)] at hsh
        cases hsh
      · have e1 : z2.ρ id = z1.ρ id := by
          show (match idOf back id with | some k => zd.ρ k | none => z1.ρ id) = _
          rw [hρ2n id hm]
        rw [e1]
        by_cases hk1 : hkey H1 id = true
        · refine .inr (.inr ⟨hk1, ?_⟩)
          cases hF : F id
          · rfl
          · exact absurd (memN_iff.1 hF) hm
        · exact (hH.fresh id (by simpa using hk1)).imp (fun h => h) .inl
  obtain ⟨z3, r1, r2, r3, r4, r5⟩ := merge_ok (H3 := setAll (killAll H1 sh) (renH Hd (noOf back) back)) hH hN hR (fun id h => by
      rw [hkey_setAll, hkey_killAll] at h
      simp only [Bool.or_eq_true] at h
      rcases h with h | h | h
      · obtain ⟨k, e, h1, _⟩ := ((renH_get' hsn id).2).1 h
        exact memN_iff.2 (List.mem_of_getElem? ((hat k id).1 (idOf_mem h1)))
      · exact memN_iff.2 (by rw [← hall]; exact List.mem_append_left _ (memN_iff.1 h))
      · cases h) (fun id => by
      rw [hget_setAll, hget_killAll, hkey_setAll, hget_setAll, hkey_killAll, hget_killAll]
      by_cases h2 : hkey (renH Hd (noOf back) back) id = true
      · simp [h2]
      · simp only [h2, Bool.false_eq_true, if_false, Bool.false_or]
        by_cases hs : memN id sh = true
        · simp [hs]
        · simp only [hs, Bool.false_eq_true, if_false, Bool.false_or, hkey]
          by_cases hF : F id = true
          · rw [if_pos hF]
            have := memN_iff.1 hF
            rw [← hall] at this
            rcases List.mem_append.1 this with h | h
            · exact absurd (memN_iff.2 h) hs
            · exact hget_none_of_hkey (hfr id h)
          · rw [if_neg hF]) (fun id h => by
      rw [hkey_setAll, hkey_killAll] at h ⊢
      rcases h with h | h
      · simp only [Bool.or_eq_true] at h
        rcases h with h | h | h
        · simp [h]
        · simp [h]
        · cases h
      · simp [h])
  refine ⟨z3, r1, r4, r5, fun a v ha => ?_⟩
  exact (ha.ren (z' := z2) rfl rfl fun id k _ hk => hρ2 id k (noOf_mem hk)).less r1 r3 fun g h => by rw [← r2]; exact h

theorem evCall_ok {e : FnT} {an : Ann} {args : List AV} {vals : List Value} {K : AV → Hp → Option β} {res : β} (hT : Told P e) (h : evCall P e args an H K = some res) (hH : HRep z H) (hd : ∀ id ∈ an.ids, ¬ z.D id)
    (hmd : ltAll 3 an.md = true ∨ ∀ id, ¬ z.D id) (ha : AReps z args vals) :
    Calls P e.f vals.toArray z.w fun en w' => ∃ v x H' z', en = .returned v ∧ z'.w = w' ∧ HRep z' H' ∧ Nx z z' ∧ ARep z' x v ∧ K x H' = some res := by
  unfold evCall at h
  rw [argsMK_eq] at h
  obtain ⟨⟨as', H1⟩, h1, h2⟩ := ob_iff.1 h
  obtain ⟨h3, h4⟩ := need_iff.1 h2
  simp only [Bool.and_eq_true, eqN_iff] at h3
  obtain ⟨⟨⟨f1, f2⟩, f3⟩, f4⟩ := h3
  obtain ⟨z1, Mf, q1, q2, q3, q4, q5, q6⟩ := argsM_ok hH hmd h1 ha
  simp only at h4
  by_cases hm : memN 2 an.md = true
  · rw [hm] at f4
    simp only [Bool.not_true, Bool.false_or, Bool.and_eq_true, beq_nat, List.all_eq_true] at f4
    obtain ⟨⟨g1, g2⟩, g3⟩ := f4
    have e1 : an.sh = [] := List.eq_nil_of_length_eq_zero g2
    have e2 : an.ids = [] := List.eq_nil_of_length_eq_zero g3
    rw [e1, e2] at h4
    let z1e : Z := { z1 with M := Mf, C := fun _ => False, D := fun _ => True }
    have hHe : HRep z1e [] := ⟨fun id e h => by simp [hget] at h, fun i i' e e' g sz n g' sz' n' _ h => by simp [hget] at h, fun id _ => .inr trivial, fun g h => h.elim⟩
    obtain ⟨t, zc, k1, k2, k3, k4, k5, k6, k7, k8, k9, k10, k11⟩ := Shp.rco_ok (H := []) (ps := []) (z := z1e) (fun _ => .no) h4 hHe (q5.less rfl rfl fun g h => h)
    obtain ⟨r, r1, r2⟩ := Option.bind_eq_some_iff.1 k1
    have hw : zc.w = z.w := k2.trans q1
    have hcall := hT.spec t r r1 zc vals k4 k5 fun id => by rw [k10]; exact fun h => h.2 rfl
    rw [hw] at hcall
    refine hcall.mono ?_
    rintro en w' ⟨v, zd, rfl, rfl, hn, hDd, ho⟩
    obtain ⟨o, y, m1, m2, m3, m4⟩ := OutS.on_both r2 ho
    rw [Shp.embC_eq] at m2
    obtain ⟨p1, p2⟩ := need_iff.1 m2
    have hCf : ∀ g, ¬ zc.C g := fun g h => k8 g h
    let z3 : Z := { z1 with w := zd.w }
    have hN : Nx z1 z3 := by
      refine ⟨hn.os.trans (by rw [k2]), hn.tape.trans (by rw [k2]), hn.output.trans (by rw [k2]), by have := hn.size; rw [k2] at this; exact this, fun b hb _ => ?_, fun g h => .inl h, fun g h => .inl h, fun _ _ h _ => h, fun _ _ => rfl, rfl⟩
      have := hn.block b (by rw [k2]; exact hb) (hCf b)
      rw [k2] at this
      exact this
    have hH3 : HRep z3 H1 := by
      refine ⟨fun id e he => (q2.ent id e he).kp (hN.kp q2.sub) fun g sz n hr => ⟨?_, fun h => h⟩, fun i i' e e' g sz n g' sz' n' hii h1 h2 f1 f2 h3 h4 => q2.inj i i' e e' g sz n g' sz' n' hii h1 h2 f1 f2 h3 h4, fun id hid => q2.fresh id hid, fun g hg => q2.sub g hg⟩
      have := hn.block g (by rw [k2]; exact (q2.real he hr).1) (hCf g)
      rw [k2] at this
      exact this
    obtain ⟨vs, b1, b2⟩ := tupA_vals m4
    have hsc := g1 o m1
    have hren : AReps z3 (AV.renL (noOf []) (o.emb y).1) vs := embL_scal (z := zd) (fun id => rfl) o.ks hsc b1
    refine ⟨v, _, _, z3, rfl, rfl, hH3, q3.trans hN, ?_, p2⟩
    show ARep z3 (AV.ren (noOf []) (tupA (o.emb y).1)) v
    rw [tupA_ren]
    exact b2 hren (renL_len _ _)
  · have hM := q6 (by simpa using hm)
    subst hM
    obtain ⟨t, zc, k1, k2, k3, k4, k5, k6, k7, k8, k9, k10, k11⟩ := Shp.rco_ok (fun _ => .no) h4 q2 q5
    obtain ⟨r, r1, r2⟩ := Option.bind_eq_some_iff.1 k1
    have hw : zc.w = z.w := k2.trans q1
    have hDc : ∀ id, ¬ zc.D id := fun id => by rw [k10]; exact fun h => h.2 rfl
    have hcall := hT.spec t r r1 zc vals k4 k5 hDc
    rw [hw] at hcall
    refine hcall.mono ?_
    rintro en w' ⟨v, zd, rfl, rfl, hn, hDd, ho⟩
    obtain ⟨o, y, m1, m2, m3, m4⟩ := OutS.on_both r2 ho
    rw [Shp.embC_eq] at m2
    obtain ⟨p1, p2⟩ := need_iff.1 m2
    simp only [Bool.and_eq_true] at p1
    have hshn : ∀ (n : Nat) id, an.sh[n]? = some id → zc.ρ n = z1.ρ id ∧ zc.ρ n ≠ .no := fun n id hn' => by
      have hlt : n < an.sh.length := (List.getElem?_eq_some_iff.1 hn').1
      have hmem : memN n (hkKeys e.i.hs) = true := memN_iff.2 (by rw [f3]; exact rangeN_mem.2 ⟨Nat.zero_le _, by omega⟩)
      obtain ⟨id', a1, a2⟩ := k6 n hmem
      obtain ⟨m, b1, b2⟩ := zipN_at a1
      obtain ⟨b3, _⟩ := rangeN_get b2
      have : m = n := by omega
      subst this
      rw [hn'] at b1
      simp only [Option.some.injEq] at b1
      subst b1
      refine ⟨a2, fun hno => ?_⟩
      obtain ⟨ee, he⟩ := (embH_get e.i.hs (embL e.i.ks (hkLv e.i.hs []) (untidy e.i.tys t)).2 m).2.1 hmem
      have := k4.ent m ee he
      unfold ERep at this
      rw [hno] at this
      exact this
    obtain ⟨z3, c1, c2, c3, c4⟩ := back_ok (sh := an.sh) (ids := an.ids) q2 (freshAll_mem f1) (fun id hid => by rw [q3.dom]; exact hd id hid) (nodupN_iff.1 p1.1.1) k2 k3
      (fun g hg => by
        obtain ⟨id, k, e, sz, n, a1, a2, a3, a4⟩ := k9 g hg
        obtain ⟨m, b1, _⟩ := zipN_at a1
        exact ⟨id, e, sz, n, List.mem_of_getElem? b1, a2, a3, a4⟩) hshn (fun k hk => by
        have := hDd k hk
        rw [f3] at this
        have := (rangeN_mem.1 this).2
        omega) hn m3
      (fun k hk => by
        have hg := embH_get o.hs (embL o.ks (hkLv o.hs []) (untidy o.tys y)).2 k
        exact hg.2.1 (by rw [← hg.1]; exact hk)) p1.2
    exact ⟨v, _, _, z3, rfl, c1, c2, q3.trans c3, c4 _ _ m4, p2⟩
end
end Go.Ab

/- Operations in their regions. -/
namespace Go.Ab

theorem Tr.get_put : ∀ (t : Tr) (k : Nat) (a : AV) (k' : Nat), (k' ≠ k → (t.put k a).get k' = t.get k') ∧ ((t.put k a).get k = a ∨ (t.put k a).get k = .junk)
  | .lf, k, a, k' => ⟨fun _ => rfl, .inr rfl⟩
  | .nd l v r, k, a, k' => by
    by_cases h0 : k = 0
    · subst h0
      simp only [Tr.put, (beq_nat 0 0).2 rfl, cond_true, Tr.get]
      refine ⟨fun h => ?_, .inl trivial⟩
      rw [beq_nat_ff h]
      rfl
    · have e0 : Nat.beq k 0 = false := beq_nat_ff h0
      by_cases h1 : k % 2 = 1
      · have e1 : Nat.beq (k % 2) 1 = true := (beq_nat _ _).2 h1
        simp only [Tr.put, e0, e1, cond_true, cond_false, Tr.get]
        obtain ⟨q1, q2⟩ := Tr.get_put l (k / 2) a (k' / 2)
        refine ⟨fun h => ?_, q2⟩
        by_cases g0 : k' = 0
        · subst g0; simp [Nat.beq]
        · rw [beq_nat_ff g0, cond_false, cond_false]
          by_cases g1 : k' % 2 = 1
          · rw [(beq_nat _ _).2 g1, cond_true, cond_true]; exact q1 (by omega)
          · rw [beq_nat_ff g1, cond_false, cond_false]
      · have e1 : Nat.beq (k % 2) 1 = false := beq_nat_ff h1
        simp only [Tr.put, e0, e1, cond_false, Tr.get]
        obtain ⟨q1, q2⟩ := Tr.get_put r (k / 2 - 1) a (k' / 2 - 1)
        refine ⟨fun h => ?_, q2⟩
        by_cases g0 : k' = 0
        · subst g0; simp [Nat.beq]
        · rw [beq_nat_ff g0, cond_false, cond_false]
          by_cases g1 : k' % 2 = 1
          · rw [(beq_nat _ _).2 g1, cond_true, cond_true]
          · rw [beq_nat_ff g1, cond_false, cond_false]; exact q1 (by omega)

section
variable {P : Program} {T : Tbl} {z : Z} {H : Hp} {β : Type} {all : List Oper} {ops : Array Oper}
/-- What stands for what the one stands for. -/
def Le (a b : AV) : Prop := ∀ (z : Z) v, ARep z a v → ARep z b v
theorem Le.refl (a : AV) : Le a a := fun _ _ h => h
theorem Le.trans {a b c : AV} (h : Le a b) (k : Le b c) : Le a c := fun z v x => k z v (h z v x)
theorem Le.junk (a : AV) : Le a .junk := fun _ v _ => .junk v
theorem Le.bool {a : AV} {t : Bool} (h : a.bool? = some t) : Le a (.b t) := fun z v hv => by
  rw [bool?_ok h hv]; exact .mkB t

theorem lit_junk (v : Value) : ARep z (AV.lit v) v := by
  cases v <;> first | exact .mkI _ _ | exact .mkB _ | exact .junk _ | exact .p _ _ _ ⟨_, ⟨rfl, rfl⟩, rfl⟩ | skip
  rename_i s
  exact .mkS s.data.toList
theorem oneCells_ok : ∀ {l : List Value}, oneCells l = true → ∀ v ∈ l, v.oneCell' = true
  | [], _, v, h => by cases h
  | u :: l, h, v, hv => by
    have h' : u.oneCell' = true ∧ oneCells l = true := by
      cases u <;> first | exact ⟨rfl, h⟩ | cases h
    rcases List.mem_cons.1 hv with rfl | hv
    · exact h'.1
    · exact oneCells_ok h'.2 v hv
theorem opnd_ok {st : St} {a : Act} (h : ∀ t, ARep z (st.tm.get t) (a.eval (.tmp t))) (x : Operand) : ARep z (st.opnd x) (a.eval x) := by
  cases x with
  | tmp t => exact h t
  | const v =>
    by_cases hv : ∃ cs, v = .agg cs
    · obtain ⟨cs, rfl⟩ := hv
      simp only [St.opnd]
      cases ho : oneCells cs.toList
      · exact .junk _
      · have h1 := oneCells_ok ho
        refine .agg _ _ (by simp) (fun v hv => h1 v (Array.mem_toList_iff.2 hv)) fun i x v e1 e2 => ?_
        have e2 : cs[i]? = some v := e2
        rw [List.getElem?_map] at e1
        obtain ⟨y, e3, rfl⟩ := Option.map_eq_some_iff.1 e1
        have : y = v := by rw [← Array.getElem?_toList, e3] at e2; exact Option.some.inj e2
        subst this
        exact lit_ok y (.inl (h1 y (List.mem_of_getElem? e3)))
    · have : st.opnd (.const v) = .lit v := by
        cases v <;> first | rfl | exact absurd ⟨_, rfl⟩ hv
      rw [this]
      exact lit_junk v
  | global g => exact .junk _
  | func f => exact .fn f [] [] #[] #[] rfl rfl (fun i x v h => by simp at h) (fun i x v h => by simp at h)

theorem fnv?_ok {a : AV} {x : FuncId × List AV × List AV} {v : Value} (h : a.fnv? = some x) (ha : ARep z a v) : ∃ va vc, v = .func (.func x.1) va vc ∧ AReps z x.2.1 va.toList ∧ AReps z x.2.2 vc.toList := by
  unfold AV.fnv? at h
  split at h
  · rename_i f l c
    simp only [Option.some.injEq] at h
    subst h
    cases ha with | fn _ _ _ va vc h1 h2 h3 h4 =>
    exact ⟨va, vc, rfl, ⟨by simp [h1], fun i x v p1 p2 => h3 i x v p1 (by simpa using p2)⟩, ⟨by simp [h2], fun i x v p1 p2 => h4 i x v p1 (by simpa using p2)⟩⟩
  · rename_i f l c
    cases hb : (Nat.beq l.size 0 && Nat.beq c.size 0) <;> rw [hb] at h <;> simp only [bq_true, bq_false] at h
    · cases h
    simp only [Bool.and_eq_true, beq_nat] at hb
    simp only [Option.some.injEq] at h
    subst h
    obtain rfl := ha.v.opq.1
    exact ⟨l, c, rfl, ⟨by simp [hb.1], fun i a v h => by simp at h⟩, ⟨by simp [hb.2], fun i a v h => by simp at h⟩⟩
  · cases h

/-- What writes, or makes memory, or calls. -/
theorem evW_wp {o : Oper} {an : Ann} {r : Operand → AV} {a : Act} {K : AV → Hp → Option β} {res : β} {next : Act → World → Prop} {Q : Exit → Act → World → Prop} (hT : ∀ e ∈ T, Told P e)
    (h : evW P T o an r H K = some res) (hH : HRep z H) (hids : ∀ id ∈ an.ids, ¬ z.D id) (hmk : mkOp P o = true → ¬ z.D (an.ids.headD 0)) (hmd : ltAll 3 an.md = true ∨ ∀ id, ¬ z.D id) (hr : ∀ x, ARep z (r x) (a.eval x))
    (hk : ∀ x v H' z', HRep z' H' → Nx z z' → ARep z' x v → K x H' = some res → next (a.put o.dst v) z'.w) : o.wp P a z.w next Q := by
  unfold Oper.wp
  cases hc : isCall o
  · obtain ⟨x, H', z', nx, h1, h2, h3, h4, h5⟩ := evW_ok h hH hmk hr hc
    rw [h1]
    rcases h4 with ⟨v, rfl, hv⟩ | ⟨rfl, rfl⟩
    · exact hk x v H' z' h2 h3 hv h5
    · exact hk .junk undef H' z' h2 h3 (.junk _) h5
  · unfold isCall at hc
    split at hc
    · rename_i c ho
      split at hc
      · rename_i f hcb
        unfold evW at h
        simp only [ho, hcb] at h
        obtain ⟨x, h1, h2⟩ := ob_iff.1 h
        obtain ⟨va, vc, hv, q1, q2⟩ := fnv?_ok h1 (hr f)
        split at h2
        · rename_i e he
          cases hb : Nat.beq e.f x.1 <;> rw [hb] at h2 <;> simp only [bq_true, bq_false] at h2
          · cases h2
          rw [beq_nat] at hb
          have hte := hT e (List.mem_of_getElem? he)
          have hcall := evCall_ok (vals := va.toList ++ c.args.toList.map a.eval ++ vc.toList) hte h2 hH hids hmd (.append (.append q1 (.map hr)) q2)
          obtain ⟨fn, cd, e1, e2, e3⟩ := hte.ent
          have hexec : (execOp a.eval o).run P z.w = .ok (.enter e.f (va.toList ++ c.args.toList.map a.eval ++ vc.toList).toArray) z.w := by
            have hbd : fn.body.isNone = false := by rw [e2]; rfl
            have harr : va ++ c.args.map a.eval ++ vc = (va.toList ++ c.args.toList.map a.eval ++ vc.toList).toArray := by
              apply Array.ext'
              simp
            unfold execOp
            simp only [ho, resolve, hcb, hv, Deferred.ofValue, Sem.run_bind, Sem.run_pure, Result.andThen_ok, invoke, callFunc, run_program]
            rw [← hb] at *
            simp only [e1, e3, hbd, harr]
            rfl
          rw [hexec]
          show Calls P e.f _ z.w _
          refine hcall.mono ?_
          rintro en w' ⟨v, x', H', z', rfl, rfl, p1, p2, p3, p4⟩
          exact hk x' v H' z' p1 p2 p3 p4
        · cases h2
      · cases hc
    · cases hc
theorem evR_wp {o : Oper} {r : Operand → AV} {a : Act} {K : AV → Option β} {res : β} {next : Act → World → Prop} {Q : Exit → Act → World → Prop} (h : evR P o r H K = some res) (hH : HRep z H) (hr : ∀ x, ARep z (r x) (a.eval x))
    (hk : ∀ x v, ARep z x v → K x = some res → next (a.put o.dst v) z.w) : o.wp P a z.w next Q := by
  unfold Oper.wp
  obtain ⟨x, v, h1, h2, h3⟩ := evR_ok h hH hr
  rw [h1]
  exact hk x v h2 h3

/-! What holds between operations -/
/-- The state stands for this; what is listed stands for what its slots hold. -/
def Inv (z0 : Z) (N : Nat) (L : List (Nat × AV)) (st : St) (a : Act) (w : World) : Prop :=
  ∃ z, z.w = w ∧ Nx z0 z ∧ (∀ id, ¬ z.D id) ∧ HRep z st.hp ∧ (∀ t, ARep z (st.tm.get t) (a.eval (.tmp t))) ∧ (∀ p ∈ L, ARep z p.2 (a.eval (.tmp p.1))) ∧ a.defers = [] ∧ (st.nt ≤ N ∧ a.tmps.size = N) ∧ ∀ id, z0.ρ id ≠ .no → id < st.n0

theorem eval_put_same {a : Act} {d : Nat} {v : Value} (h : d < a.tmps.size) : (a.put (some d) v).eval (.tmp d) = v := by
  simp [Act.eval, Act.put, h]
theorem eval_put_ne {a : Act} {o : Option Tmp} {t : Nat} {v : Value} (h : o ≠ some t) : (a.put o v).eval (.tmp t) = a.eval (.tmp t) := by
  cases o with
  | none => rfl
  | some d =>
    have : d ≠ t := fun e => h (by rw [e])
    simp [Act.eval, Act.put, Array.getElem?_setIfInBounds_ne this]
theorem put_ok {tm : Tr} {nt : Nat} {a : Act} {o : Option Tmp} {x : AV} {v : Value} (h : ∀ t, ARep z (tm.get t) (a.eval (.tmp t))) (hd : dstOk nt o = true) (hn : nt ≤ a.tmps.size) (hx : ARep z x v) :
    ∀ t, ARep z ((St.putO ⟨tm, nt, 0, []⟩ o x).tm.get t) ((a.put o v).eval (.tmp t)) := by
  intro t
  cases o with
  | none => exact h t
  | some d =>
    simp only [dstOk, Nat.blt_eq] at hd
    simp only [St.putO]
    by_cases ht : t = d
    · subst ht
      rw [eval_put_same (by omega)]
      rcases (Tr.get_put tm t x t).2 with e | e <;> rw [e]
      · exact hx
      · exact .junk _
    · rw [(Tr.get_put tm d x t).1 ht, eval_put_ne (by simpa using Ne.symm ht)]
      exact h t
theorem putO_tm (st : St) (o : Option Nat) (x : AV) : (st.putO o x).tm = (St.putO ⟨st.tm, st.nt, 0, []⟩ o x).tm ∧ (st.putO o x).nt = st.nt ∧ (st.putO o x).n0 = st.n0 ∧ (st.putO o x).hp = st.hp := by
  cases o <;> exact ⟨rfl, rfl, rfl, rfl⟩
theorem put_size (a : Act) (o : Option Tmp) (v : Value) : (a.put o v).tmps.size = a.tmps.size ∧ (a.put o v).defers = a.defers := by
  cases o <;> simp [Act.put]
theorem Inv.put {z0 z' : Z} {N : Nat} {L : List (Nat × AV)} {st : St} {a : Act} {o : Option Tmp} {x : AV} {v : Value} {H' : Hp} (hn : Nx z0 z') (hD : ∀ id, ¬ z'.D id) (hH : HRep z' H') (hs : ∀ t, ARep z' (st.tm.get t) (a.eval (.tmp t)))
    (hL : ∀ p ∈ L, ARep z' p.2 (a.eval (.tmp p.1))) (hLd : ∀ p ∈ L, o ≠ some p.1) (hdf : a.defers = []) (hnt : st.nt ≤ N ∧ a.tmps.size = N) (h0 : ∀ id, z0.ρ id ≠ .no → id < st.n0) (hd : dstOk st.nt o = true) (hx : ARep z' x v) :
    Inv z0 N L { st.putO o x with hp := H' } (a.put o v) z'.w := by
  obtain ⟨e1, e2, e3, e4⟩ := putO_tm st o x
  refine ⟨z', rfl, hn, hD, hH, ?_, fun p hp => ?_, (put_size a o v).2.trans hdf, ⟨by show (st.putO o x).nt ≤ N; rw [e2]; exact hnt.1, by rw [(put_size a o v).1]; exact hnt.2⟩, fun id hid => by show id < (st.putO o x).n0; rw [e3]; exact h0 id hid⟩
  · show ∀ t, ARep z' ((st.putO o x).tm.get t) _
    rw [e1]
    exact put_ok hs hd (by rw [hnt.2]; exact hnt.1) hx
  · rw [eval_put_ne (hLd p hp)]
    exact hL p hp
theorem ev1_ok {o : Oper} {an : Ann} {z0 : Z} {N : Nat} {L : List (Nat × AV)} {st : St} {a : Act} {w : World} {K : St → Option β} {res : β} {next : Act → World → Prop} {Q : Exit → Act → World → Prop} (hT : ∀ e ∈ T, Told P e)
    (h : ev1 P T o an st K = some res) (hd : dstOk st.nt o.dst = true) (hi : Inv z0 N L st a w) (hL : ∀ p ∈ L, o.dst ≠ some p.1) (hk : ∀ st' a' w', K st' = some res → Inv z0 N L st' a' w' → next a' w') : o.wp P a w next Q := by
  obtain ⟨z, rfl, hn, hD, hH, hs, hLs, hdf, hnt, h0⟩ := hi
  unfold ev1 at h
  cases hR : isR P o <;> rw [hR] at h <;> simp only [bq_true, bq_false] at h
  · refine evW_wp hT h hH (fun id _ => hD id) (fun _ => hD _) (.inr hD) (opnd_ok hs) fun x v H' z' h1 h2 h3 h4 => ?_
    have kp := h2.kp hH.sub
    exact hk _ _ _ h4 (.put (hn.trans h2) (fun id => by rw [h2.dom]; exact hD id) h1 (fun t => (hs t).kp kp) (fun p hp => (hLs p hp).kp kp) hL hdf hnt h0 hd h3)
  · refine evR_wp h hH (opnd_ok hs) fun x v h1 h2 => ?_
    have := Inv.put (st := st) (H' := st.hp) hn hD hH hs hLs hL hdf hnt h0 hd h1
    refine hk _ _ _ h2 ?_
    have e : ({ st.putO o.dst x with hp := st.hp } : St) = st.putO o.dst x := by cases o.dst <;> rfl
    rwa [e] at this

/-! Guards -/
/-- What a guard says, by the slots. -/
def GuardIs (all : List Oper) (o : Oper) (get : Nat → AV) (b : Bool) : Prop :=
  (o.guard = none ∧ b = true) ∨ ∃ j want d, o.guard = some (j, want) ∧ (all[j]?).bind (·.dst) = some d ∧ ((get d = .tup [] ∧ b = false) ∨ ∃ t, (get d).bool? = some t ∧ b = (t == want))
theorem GuardIs.wanted {o : Oper} {get : Nat → AV} {b : Bool} {a : Act} (h : GuardIs ops.toList o get b) (hs : ∀ j want d, o.guard = some (j, want) → (ops.toList[j]?).bind (·.dst) = some d → ARep z (get d) (a.eval (.tmp d))) :
    Region.wanted o (yielded ops a.tmps) = b := by
  rcases h with ⟨h1, rfl⟩ | ⟨j, want, d, h1, h2, h3⟩
  · simp [Region.wanted, h1]
  · have hd := hs j want d h1 h2
    have e : (ops[j]?).bind (·.dst) = some d := by rw [← Array.getElem?_toList]; exact h2
    simp only [Region.wanted, h1, yielded, e, Option.bind_some]
    simp only [Act.eval] at hd
    rcases h3 with ⟨h3, rfl⟩ | ⟨t, h3, rfl⟩
    · rw [h3] at hd
      cases hv : a.tmps[d]? with
      | none => rfl
      | some v =>
        have e2 : a.tmps.getD d undef = v := by simp [hv]
        rw [e2] at hd
        cases hd
        rfl
    · have hb := bool?_ok h3 hd
      cases hv : a.tmps[d]? with
      | none =>
        have e2 : a.tmps.getD d undef = undef := by simp [hv]
        rw [e2] at hb
        cases hb
      | some v =>
        have e2 : a.tmps.getD d undef = v := by simp [hv]
        rw [e2] at hb
        subst hb
        cases t <;> cases want <;> rfl
theorem evG_ok {o : Oper} {st : St} {go skip : St → Option β} {res : β} (h : evG all o st go skip = some res) :
    dstOk st.nt o.dst = true ∧ ∃ st1 b, st1.hp = st.hp ∧ st1.nt = st.nt ∧ st1.n0 = st.n0 ∧ (∀ t, Le (st.tm.get t) (st1.tm.get t)) ∧ GuardIs all o st.tm.get b ∧ ((b = true ∧ go st1 = some res) ∨ (b = false ∧ skip (st1.skip o) = some res)) := by
  unfold evG at h
  cases hd : dstOk st.nt o.dst <;> rw [hd] at h <;> simp only [bq_true, bq_false] at h
  · cases h
  refine ⟨rfl, ?_⟩
  split at h
  · rename_i hg
    exact ⟨st, true, rfl, rfl, rfl, fun _ => .refl _, .inl ⟨hg, rfl⟩, .inl ⟨rfl, h⟩⟩
  · rename_i j want hg
    obtain ⟨d, h1, h2⟩ := ob_iff.1 h
    obtain ⟨oj, h3, h4⟩ := ob_iff.1 h1
    have hj : (all[j]?).bind (·.dst) = some d := by rw [h3]; exact h4
    split at h2
    · rename_i ht
      exact ⟨st, false, rfl, rfl, rfl, fun _ => .refl _, .inr ⟨j, want, d, hg, hj, .inl ⟨ht, rfl⟩⟩, .inr ⟨rfl, h2⟩⟩
    · rename_i ht
      obtain ⟨t, h5, h6⟩ := ob_iff.1 h2
      have hle : ∀ k, Le (st.tm.get k) ((st.tm.put d (.b t)).get k) := fun k => by
        by_cases hk : k = d
        · subst hk
          rcases (Tr.get_put st.tm k (.b t) k).2 with e | e <;> rw [e]
          · exact .bool h5
          · exact .junk _
        · rw [(Tr.get_put st.tm d (.b t) k).1 hk]; exact .refl _
      refine ⟨{ st with tm := st.tm.put d (.b t) }, t == want, rfl, rfl, rfl, hle, .inr ⟨j, want, d, hg, hj, .inr ⟨t, h5, rfl⟩⟩, ?_⟩
      cases t <;> cases want <;> simp only [bq_true, bq_false] at h6
      · exact .inl ⟨rfl, h6⟩
      · exact .inr ⟨rfl, h6⟩
      · exact .inr ⟨rfl, h6⟩
      · exact .inl ⟨rfl, h6⟩
theorem undef_ok : ARep z (.tup []) undef := .tup [] #[] rfl fun i x v h => by simp at h
/-- A state's slots seen otherwise. -/
theorem Inv.le {z0 : Z} {N : Nat} {L : List (Nat × AV)} {st st1 : St} {a : Act} {w : World} (hi : Inv z0 N L st a w) (h1 : st1.hp = st.hp) (h2 : st1.nt = st.nt) (h3 : st1.n0 = st.n0) (h4 : ∀ t, Le (st.tm.get t) (st1.tm.get t)) : Inv z0 N L st1 a w := by
  obtain ⟨z, rfl, hn, hD, hH, hs, hLs, hdf, hnt, h0⟩ := hi
  exact ⟨z, rfl, hn, hD, by rw [h1]; exact hH, fun t => h4 t _ _ (hs t), hLs, hdf, by rw [h2]; exact hnt, by rw [h3]; exact h0⟩
theorem Inv.skip {z0 : Z} {N : Nat} {L : List (Nat × AV)} {st : St} {a : Act} {w : World} {o : Oper} (hi : Inv z0 N L st a w) (hd : dstOk st.nt o.dst = true) (hL : ∀ p ∈ L, o.dst ≠ some p.1) : Inv z0 N L (st.skip o) (a.put o.dst undef) w := by
  obtain ⟨z, rfl, hn, hD, hH, hs, hLs, hdf, hnt, h0⟩ := hi
  have := Inv.put (st := st) (H' := st.hp) hn hD hH hs hLs hL hdf hnt h0 hd (undef_ok (z := z))
  have e : ({ st.putO o.dst (.tup []) with hp := st.hp } : St) = st.skip o := by unfold St.skip; cases o.dst <;> rfl
  rwa [e] at this
/-- A region whose order is given. -/
theorem evOps_ok {z0 : Z} {N : Nat} {L : List (Nat × AV)} {K : St → Option β} {res : β} {Q : Exit → Act → World → Prop} (hT : ∀ e ∈ T, Told P e) (hk : ∀ st' a' w', K st' = some res → Inv z0 N L st' a' w' → Q .normal a' w') :
    ∀ (l : List (Oper × Ann)) (k : Nat), (∀ (i : Nat) x, l[i]? = some x → ops[k + i]? = some x.1) → (∀ x ∈ l, ∀ p ∈ L, x.1.dst ≠ some p.1) → ∀ (st : St) (a : Act) (w : World), evOps P T l ops.toList st K = some res → Inv z0 N L st a w →
      wpOps P ops Q (List.range' k l.length) a w
  | [], k, _, _, st, a, w, h, hi => hk st a w h hi
  | (o, an) :: l, k, hl, hL, st, a, w, h, hi => by
    simp only [evOps] at h
    obtain ⟨hd, st1, b, e1, e2, e3, e4, hg, hb⟩ := evG_ok h
    have ho : ops[k]? = some o := by have := hl 0 (o, an) rfl; simpa using this
    have hrest : ∀ (i : Nat) x, l[i]? = some x → ops[k + 1 + i]? = some x.1 := fun i x hx => by
      have := hl (i + 1) x hx
      rwa [show k + (i + 1) = k + 1 + i by omega] at this
    have hLo : ∀ p ∈ L, o.dst ≠ some p.1 := hL (o, an) (by simp)
    have hw : Region.wanted o (yielded ops a.tmps) = b := by
      obtain ⟨z, _, _, _, _, hs, _⟩ := hi
      exact hg.wanted fun j want d _ _ => hs d
    have hi1 : Inv z0 N L st1 a w := hi.le e1 e2 e3 e4
    simp only [List.length_cons, List.range'_succ, wpOps, ho, hw]
    rcases hb with ⟨rfl, hgo⟩ | ⟨rfl, hsk⟩
    · simp only [if_true]
      refine .inl (ev1_ok hT hgo (by rw [e2]; exact hd) hi1 hLo fun st' a' w' h' hi' => ?_)
      exact evOps_ok hT hk l (k + 1) hrest (fun x hx => hL x (by simp [hx])) st' a' w' h' hi'
    · simp only [Bool.false_eq_true, if_false]
      exact evOps_ok hT hk l (k + 1) hrest (fun x hx => hL x (by simp [hx])) _ _ w hsk (hi1.skip (by rw [e2]; exact hd) hLo)
end
end Go.Ab
