/- Maps: keys that are looked for; lookups. -/
import Derived.Test.YtplahfhggnkahaaA11
import Derived.MapKept
import Derived.WideKeyRuns
set_option linter.all false
namespace Go.Ab

section
variable {P : Program} {β : Type} {z : Z} {H : Hp}

/-- A part of a value of several cells, in its form. -/
theorem run_part_form {w : World} {M : Nat → Prop} {u : Ty} {a : u.den} {t : TypeId} {xs : Array Value} {o : Nat} (hf : 0 < u.cells ∧ (u.isAgg = true → isAggT P t = true) ∧ (u.isAgg = false → isScal P t = true)) (hc' : P.cellsOf t = u.cells)
    (hc : Cl w M u a ((xs.toList.drop o).take u.cells)) (w' : World) : ∃ v, (part t xs o).run P w' = .ok v w' ∧ VRep w M u a v := by
  obtain ⟨g1, g2, g3⟩ := hf
  have hl := hc.len
  cases hg : u.isAgg
  · have hcells : u.cells = 1 := by cases u <;> first | rfl | (simp [Ty.isAgg] at hg; done)
    match hvs : (xs.toList.drop o).take u.cells, hl with
    | [], hl => rw [hcells] at hl; simp at hl
    | _ :: _ :: _, hl => rw [hcells] at hl; simp at hl
    | [v], _ =>
      rw [hvs] at hc
      have hv : xs[o]? = some v := by
        have : ((xs.toList.drop o).take u.cells)[0]? = some v := by rw [hvs]; rfl
        rw [hcells] at this
        simpa using this
      exact ⟨v, run_part_scal w' (g3 hg) hv, .mkSc hc hg⟩
  · refine ⟨_, run_part_agg w' (g2 hg) hc' (by omega), ⟨_, hc, ?_⟩⟩
    rw [hg]
    simp only [cond_true]
    congr 1
    apply Array.ext'
    rw [Array.toList_extract, List.extract_eq_take_drop, Nat.add_sub_cancel_left]
theorem cut_pair {s t : Ty} {o : Nat} {l v1 v2 : List Value} (e : (l.drop o).take (Ty.pair s t).cells = v1 ++ v2) (l1 : v1.length = s.cells) (l2 : v2.length = t.cells) :
    (l.drop o).take s.cells = v1 ∧ (l.drop (o + s.cells)).take t.cells = v2 := by
  simp only [Ty.cells] at e
  constructor
  · rw [show (l.drop o).take s.cells = ((l.drop o).take (s.cells + t.cells)).take s.cells from by rw [List.take_take, Nat.min_eq_left (by omega)], e, List.take_append_of_le_length (by omega), List.take_of_length_le (by omega)]
  · rw [show (l.drop (o + s.cells)).take t.cells = ((l.drop o).take (s.cells + t.cells)).drop s.cells from by rw [List.drop_take, List.drop_drop, Nat.add_sub_cancel_left], e, List.drop_append_of_le_length (by omega), List.drop_of_length_le (by omega), List.nil_append]
theorem ckFs_ok {f : TypeId → Ty → Bool} {d : Nat} {em : Bool} (w : World) {M : Nat → Prop}
    (hf : ∀ t u, f t u = true → ∀ (x : u.den) (vx : Value), VRep w M u x vx → (Instr.checkKey em d t vx).run P w = .ok () w)
    (hagg : ∀ t u, f t u = true → 0 < u.cells ∧ (u.isAgg = true → isAggT P t = true) ∧ (u.isAgg = false → isScal P t = true)) :
    ∀ (fs : List Field) (o : Nat) (u : Ty), eqFs P f fs o u = true → ∀ (x : u.den) (xs : Array Value), Cl w M u x ((xs.toList.drop o).take u.cells) →
      (forIn (m := Sem) fs PUnit.unit fun f _ => do
        if f.name ≠ "_" then do
          Instr.checkKey em d f.type (← part f.type xs f.offset)
          pure (ForInStep.yield PUnit.unit)
        else pure (ForInStep.yield PUnit.unit)).run P w = .ok PUnit.unit w := by
  have one : ∀ (x : Field) (o : Nat) (u : Ty), (x.name != "_" && Nat.beq x.offset o && Nat.beq (P.cellsOf x.type) u.cells && f x.type u) = true → ∀ (a : u.den) (xs : Array Value), Cl w M u a ((xs.toList.drop o).take u.cells) →
      x.name ≠ "_" ∧ ∃ v, (part x.type xs x.offset).run P w = .ok v w ∧ (Instr.checkKey em d x.type v).run P w = .ok () w := by
    intro x o u h a xs hc
    simp only [Bool.and_eq_true, bne_iff_ne, ne_eq, beq_nat] at h
    obtain ⟨⟨⟨h1, rfl⟩, h3⟩, h4⟩ := h
    obtain ⟨v, q1, q2⟩ := run_part_form (hagg _ _ h4) h3 hc w
    exact ⟨h1, v, q1, hf _ _ h4 a v q2⟩
  intro fs
  induction fs with
  | nil => intro o u h; simp [eqFs] at h
  | cons x fs ih =>
    intro o u h a xs ha
    match fs, u, h with
    | [], u, h =>
      have h' : (x.name != "_" && Nat.beq x.offset o && Nat.beq (P.cellsOf x.type) u.cells && f x.type u) = true := by
        cases u <;> simpa only [eqFs] using h
      obtain ⟨h1, v1, q1, q2⟩ := one x o u h' a xs ha
      simp [List.forIn_cons, Sem.run_bind, h1, q1, q2]
    | y :: fs, .pair s t, h =>
      simp only [eqFs] at h
      have h' : (x.name != "_" && Nat.beq x.offset o && Nat.beq (P.cellsOf x.type) s.cells && f x.type s) = true ∧ eqFs P f (y :: fs) (o + s.cells) t = true := by
        simp only [Bool.and_eq_true] at h ⊢; exact h
      obtain ⟨h', h''⟩ := h'
      obtain ⟨u1, u2, e1, c1, c2⟩ := ha
      obtain ⟨ea1, ea2⟩ := cut_pair e1 c1.len c2.len
      obtain ⟨h1, v1, q1, q2⟩ := one x o s h' a.1 xs (by rw [ea1]; exact c1)
      have hr := ih (o + s.cells) t h'' a.2 xs (by rw [ea2]; exact c2)
      rw [List.forIn_cons]
      simp only [h1, ne_eq, not_false_eq_true, if_true, Sem.run_bind, q1, q2, Result.andThen_ok, Sem.run_pure]
      exact hr
    | _ :: _, .one _, h | _ :: _, .int _, h | _ :: _, .byte, h | _ :: _, .bool, h | _ :: _, .str, h | _ :: _, .opq, h | _ :: _, .nat, h | _ :: _, .sl _, h | _ :: _, .arr _ _, h => simp [eqFs] at h
theorem checkKey_ok (w : World) {M : Nat → Prop} {em : Bool} : ∀ (n : Nat) (t : TypeId) (u : Ty), eqT P n t u = true → ∀ (d : Nat), n ≤ d → ∀ (x : u.den) (vx : Value), VRep w M u x vx →
    (Instr.checkKey em d t vx).run P w = .ok () w
  | 0, _, _, h, _, _, _, _, _ => by simp [eqT] at h
  | n + 1, t, u, h, d, hd, x, vx, hx => by
    obtain ⟨d, rfl⟩ : ∃ d', d = d' + 1 := ⟨d - 1, by omega⟩
    have hd' : n ≤ d := by omega
    have struct : ∀ (fs : Array Field) (v : Ty) (x : v.den) (cx : List Value), P.underlying t = some (.struct fs) → (!P.stoodInHeld t && eqFs P (fun t u => formOk P t u && eqT P n t u) fs.toList 0 v) = true → Cl w M v x cx →
        (Instr.checkKey em (d + 1) t (.agg cx.toArray)).run P w = .ok () w := by
      intro fs v x cx hu hc h1
      simp only [Bool.and_eq_true, Bool.not_eq_true'] at hc
      rw [Instr.checkKey]
      simp only [Sem.run_bind, run_underlying hu, Result.andThen_ok]
      rw [← Array.forIn_toList]
      have := ckFs_ok (em := em) (d := d) w (M := M) (f := fun t u => formOk P t u && eqT P n t u) (fun t u hf x vx hx => by
        simp only [Bool.and_eq_true] at hf
        exact checkKey_ok w n t u hf.2 d hd' x vx hx) (fun t u hf => by
        simp only [Bool.and_eq_true] at hf
        exact formOk_ok hf.1) fs.toList 0 v hc.2 x cx.toArray (take_cells h1)
      simp at this ⊢
      rw [this]
      rfl
    simp only [eqT] at h
    split at h
    · rename_i k k' hu
      obtain rfl := hx.int
      simp [Instr.checkKey, Sem.run_bind, run_underlying hu]
    · rename_i k hu
      simp [Instr.checkKey, Sem.run_bind, run_underlying hu]
    · rename_i hu
      simp [Instr.checkKey, Sem.run_bind, run_underlying hu]
    · rename_i hu
      simp [Instr.checkKey, Sem.run_bind, run_underlying hu]
    · rename_i fs v hu
      obtain ⟨cx, h1, rfl⟩ := hx
      exact struct fs v x cx hu h h1
    · rename_i fs a b hu
      obtain ⟨cx, h1, rfl⟩ := hx
      exact struct fs (.pair a b) x cx hu h h1
    · rename_i m e m' v hu
      simp only [Bool.and_eq_true, beq_nat] at h
      obtain ⟨⟨⟨rfl, hc⟩, hf⟩, he⟩ := h
      obtain ⟨cx, h1, rfl⟩ := hx
      have hfo := formOk_ok hf
      have hs := fun w => run_sizeOf_cells (P := P) (t := e) w hc (by omega)
      rw [show (bif (Ty.arr m v).isAgg then Value.agg cx.toArray else cx.headD undef) = .agg cx.toArray from rfl, Instr.checkKey]
      simp only [Sem.run_bind, run_underlying hu, Result.andThen_ok]
      simp only [Std.Legacy.Range.forIn_eq_forIn_range', Std.Legacy.Range.size, Nat.sub_zero, Nat.add_one_sub_one, Nat.div_one]
      have hlx : List.length (α := v.den) x = m := h1.1
      have key : ∀ (k i : Nat), i + k = m → ∀ (f : Nat → PUnit → Sem (ForInStep PUnit)), (∀ j, j < m → (f j PUnit.unit).run P w = .ok (.yield PUnit.unit) w) → (forIn (m := Sem) (List.range' i k) PUnit.unit f).run P w = .ok PUnit.unit w := by
        intro k
        induction k with
        | zero => intro i _ f _; simp
        | succ k ih =>
          intro i hi f hfj
          rw [List.range'_succ, List.forIn_cons]
          simp only [Sem.run_bind, hfj i (by omega), Result.andThen_ok]
          exact ih (i + 1) (by omega) f hfj
      refine (congrArg (fun r => Result.andThen r _) (key m 0 (by omega) _ fun j hj => ?_)).trans (by simp)
      have hxi : (show List v.den from x)[j]? = some ((show List v.den from x)[j]'(by rw [hlx]; omega)) := List.getElem?_eq_getElem _
      have hc' := Cl.nth (l := (show List v.den from x)) h1 hxi
      obtain ⟨va, q1, q2⟩ := run_part_form (xs := cx.toArray) hfo hc hc' w
      have := checkKey_ok (em := em) w n e v he d hd' _ va q2
      simp [Sem.run_bind, hs, q1, this]
    · cases h

/-! Finding -/
theorem mfind_none {k v : Ty} : ∀ {l : List ((k.den × v.den) × Nat)} {x : k.den}, mfind l x = none → ∀ (i : Nat) e, l[i]? = some e → k.eqb x e.1.1 = false
  | ((a, b), n) :: l, x, h, i, e, he => by
    simp only [mfind] at h
    cases hq : k.eqb x a <;> rw [hq] at h <;> simp only [cond_true, cond_false] at h
    · match i with
      | 0 => simp at he; subst he; exact hq
      | i + 1 => exact mfind_none h i e (by simpa using he)
    · cases h
theorem mfind_some {k v : Ty} : ∀ {l : List ((k.den × v.den) × Nat)} {x : k.den} {y : v.den × Nat}, mfind l x = some y →
    ∃ (i : Nat) (a : k.den), l[i]? = some ((a, y.1), y.2) ∧ k.eqb x a = true ∧ ∀ j e, j < i → l[j]? = some e → k.eqb x e.1.1 = false
  | ((a, b), n) :: l, x, y, h => by
    simp only [mfind] at h
    cases hq : k.eqb x a <;> rw [hq] at h <;> simp only [cond_true, cond_false] at h
    · obtain ⟨i, a', h1, h2, h3⟩ := mfind_some h
      refine ⟨i + 1, a', by simpa using h1, h2, fun j e hj he => ?_⟩
      match j with
      | 0 => simp at he; subst he; exact hq
      | j + 1 => exact h3 j e (by omega) (by simpa using he)
    · simp only [Option.some.injEq] at h
      subst h
      exact ⟨0, a, rfl, hq, fun j e hj => by omega⟩
/-- What 'findKey' answers: the place of the first entry of that key. -/
def Found (es : List MapEntry) (eq : Nat → Bool) : Nat → Option (Nat × Value) → Prop
  | i, none => ∀ j, j < es.length → eq (i + j) = false
  | i, some (p, v) => ∃ j e, p = i + j ∧ es[j]? = some e ∧ e.val = v ∧ eq (i + j) = true ∧ ∀ j', j' < j → eq (i + j') = false
theorem findNow_ok {d : TypeDesc} {x : Value} {eq : Nat → Bool} : ∀ (es : List MapEntry) (i : Nat), (∀ (j : Nat) e, es[j]? = some e → Instr.sameNow d x e.key = some (eq (i + j))) → ∃ r, Instr.findNow d x es i = some r ∧ Found es eq i r
  | [], i, _ => ⟨none, rfl, fun j hj => by simp at hj⟩
  | e :: es, i, h => by
    have h0 := h 0 e rfl
    simp only [Nat.add_zero] at h0
    cases hq : eq i
    · obtain ⟨r, h1, h2⟩ := findNow_ok es (i + 1) (fun j e' he' => by have := h (j + 1) e' (by simpa using he'); rwa [show i + (j + 1) = i + 1 + j from by omega] at this)
      refine ⟨r, by simp [Instr.findNow, h0, hq, h1], ?_⟩
      match r, h2 with
      | none, h2 =>
        intro j hj
        match j with
        | 0 => exact hq
        | j + 1 => rw [show i + (j + 1) = i + 1 + j from by omega]; exact h2 j (by simpa using hj)
      | some (p, v), ⟨j, e', e1, e2, e3, e4, e5⟩ =>
        refine ⟨j + 1, e', by omega, by simpa using e2, e3, by rw [show i + (j + 1) = i + 1 + j from by omega]; exact e4, fun j' hj' => ?_⟩
        match j' with
        | 0 => exact hq
        | j' + 1 => rw [show i + (j' + 1) = i + 1 + j' from by omega]; exact e5 j' (by omega)
    · exact ⟨some (i, e.val), by simp [Instr.findNow, h0, hq], 0, e, rfl, rfl, rfl, hq, fun j' hj' => by omega⟩
theorem findAsking_ok {kt : TypeId} {x : Value} {eq : Nat → Bool} (w : World) : ∀ (es : List MapEntry) (i : Nat), (∀ (j : Nat) e, es[j]? = some e → (Op.equal kt x e.key).run P w = .ok (eq (i + j)) w) →
    ∃ r, (Instr.findAsking kt x es i).run P w = .ok r w ∧ Found es eq i r
  | [], i, _ => ⟨none, by simp [Instr.findAsking], fun j hj => by simp at hj⟩
  | e :: es, i, h => by
    have h0 := h 0 e rfl
    simp only [Nat.add_zero] at h0
    cases hq : eq i
    · obtain ⟨r, h1, h2⟩ := findAsking_ok w es (i + 1) (fun j e' he' => by have := h (j + 1) e' (by simpa using he'); rwa [show i + (j + 1) = i + 1 + j from by omega] at this)
      refine ⟨r, by simp [Instr.findAsking, Sem.run_bind, h0, hq, h1], ?_⟩
      match r, h2 with
      | none, h2 =>
        intro j hj
        match j with
        | 0 => exact hq
        | j + 1 => rw [show i + (j + 1) = i + 1 + j from by omega]; exact h2 j (by simpa using hj)
      | some (p, v), ⟨j, e', e1, e2, e3, e4, e5⟩ =>
        refine ⟨j + 1, e', by omega, by simpa using e2, e3, by rw [show i + (j + 1) = i + 1 + j from by omega]; exact e4, fun j' hj' => ?_⟩
        match j' with
        | 0 => exact hq
        | j' + 1 => rw [show i + (j' + 1) = i + 1 + j' from by omega]; exact e5 j' (by omega)
    · exact ⟨some (i, e.val), by simp [Instr.findAsking, Sem.run_bind, h0, hq], 0, e, rfl, rfl, rfl, hq, fun j' hj' => by omega⟩
theorem keyOk_ok {kt : TypeId} {k : Ty} (h : keyOk P kt k = true) : ty P kt = some k ∧ eqT P typesFuel kt k = true := by
  unfold keyOk at h
  simp only [Bool.and_eq_true, decide_eq_true_eq] at h
  exact h.1
/-- A key is looked for among entries whose keys are held as here. -/
theorem findKey_ok {kt : TypeId} {k : Ty} (hk : keyOk P kt k = true) (w : World) {M : Nat → Prop} {x : k.den} {vx : Value} (hx : VRep w M k x vx) (es : List MapEntry) (ks : List k.den) (hl : ks.length = es.length)
    (hks : ∀ (j : Nat) a e, ks[j]? = some a → es[j]? = some e → VRep w M k a e.key) :
    ∃ r, (Instr.findKey kt vx es).run P w = .ok r w ∧ Found es (fun j => match ks[j]? with | some a => k.eqb x a | none => false) 0 r := by
  have he := (keyOk_ok hk).2
  have hget : ∀ (j : Nat) e, es[j]? = some e → ∃ a, ks[j]? = some a ∧ VRep w M k a e.key := fun j e hj => by
    obtain ⟨a, ha⟩ := get_of_len (l := ks) hl.symm hj
    exact ⟨a, ha, hks j a e ha hj⟩
  cases hu : P.underlying kt with
  | none => simp only [typesFuel, eqT, hu] at he; cases he
  | some d =>
    have ask : (∀ j e, es[j]? = some e → (Op.equal kt vx e.key).run P w = .ok (match ks[0 + j]? with | some a => k.eqb x a | none => false) w) := fun j e hj => by
      obtain ⟨a, ha, hv⟩ := hget j e hj
      rw [Nat.zero_add, ha]
      exact eqT_ok w typesFuel kt k he 10000 (by unfold typesFuel; omega) x a vx e.key hx hv
    by_cases hwide : (match P.underlying kt with | some (.array _ _) | some (.struct _) => true | _ => false) = true
    · rw [run_findKey_eq w hwide]
      exact findAsking_ok w es 0 ask
    · have now : ∃ r, Instr.findNow d vx es 0 = some r ∧ Found es (fun j => match ks[j]? with | some a => k.eqb x a | none => false) 0 r := by
        refine findNow_ok es 0 fun j e hj => ?_
        obtain ⟨a, ha, hv⟩ := hget j e hj
        simp only [Nat.zero_add, ha]
        unfold typesFuel at he
        simp only [eqT] at he
        split at he
        · rename_i q q' hu'
          rw [hu] at hu'
          injection hu' with hu'
          subst hu'
          rw [hx.int, hv.int]
          simp [Instr.sameNow]
          rfl
        · rename_i q hu'
          rw [hu] at hu'
          injection hu' with hu'
          subst hu'
          have e1 := hx.scal rfl rfl
          have e2 := hv.scal rfl rfl
          simp only [Cl, List.cons.injEq, and_true] at e1 e2
          rw [e1, e2]
          simp only [Instr.sameNow, if_true, Option.some.injEq]
          show (((x : UInt8).toNat : Int) == ((a : UInt8).toNat : Int)) = ((x : UInt8) == a)
          rw [Bool.eq_iff_iff]
          simp only [beq_iff_eq]
          constructor
          · intro h; exact UInt8.toNat_inj.1 (by omega)
          · intro h; rw [h]
        · rename_i hu'
          rw [hu] at hu'
          injection hu' with hu'
          subst hu'
          rw [hx.bool, hv.bool]
          rfl
        · rename_i hu'
          rw [hu] at hu'
          injection hu' with hu'
          subst hu'
          rw [hx.str, hv.str]
          simp only [Instr.sameNow, Option.some.injEq, beq_toListBytes, bytes_toList]
          rfl
        · rename_i hu'; rw [hu'] at hwide; exact absurd rfl hwide
        · rename_i hu'; rw [hu'] at hwide; exact absurd rfl hwide
        · rename_i hu'; rw [hu'] at hwide; exact absurd rfl hwide
        · cases he
      obtain ⟨r, h1, h2⟩ := now
      exact ⟨r, by simp [Instr.findKey, Sem.run_bind, run_underlying hu, h1], h2⟩

/-! Zeros -/
theorem zlistOk_eq : ∀ {l r : List Value}, zlistOk l r = true → l.length = r.length ∧ ∀ (i : Nat) a b, l[i]? = some a → r[i]? = some b → zcellOk a b = true
  | [], [], _ => ⟨rfl, fun i a b h => by simp at h⟩
  | x :: l, y :: r, h => by
    simp only [zlistOk, Bool.and_eq_true] at h
    obtain ⟨h1, h2⟩ := zlistOk_eq h.2
    refine ⟨by simp [h1], fun i a b ha hb => ?_⟩
    match i with
    | 0 => simp at ha hb; subst ha; subst hb; exact h.1
    | i + 1 => exact h2 i a b (by simpa using ha) (by simpa using hb)
  | [], _ :: _, h | _ :: _, [], h => by simp [zlistOk] at h
theorem zcellOk_eq {a b : Value} (h : zcellOk a b = true) : a = b := by
  unfold zcellOk at h
  split at h
  · simp only [Bool.and_eq_true, beq_iff_eq] at h; rw [h.1, h.2]
  · simp only [beq_iff_eq] at h; rw [h]
  · rename_i x y
    simp only [Bool.and_eq_true, beq_iff_eq] at h
    obtain ⟨⟨lx⟩⟩ := x
    obtain ⟨⟨ly⟩⟩ := y
    simp at h
    obtain ⟨h1, h2⟩ := h
    rw [h2] at h1
    simp at h1
    obtain rfl := List.eq_nil_of_length_eq_zero h1.symm
    subst h2
    rfl
  · rfl
  · cases h
theorem zlist_eq {l r : List Value} (h : zlistOk l r = true) : l = r := by
  obtain ⟨h1, h2⟩ := zlistOk_eq h
  apply List.ext_getElem? fun i => ?_
  by_cases hi : i < l.length
  · have e1 : l[i]? = some l[i] := List.getElem?_eq_getElem hi
    have e2 : r[i]? = some r[i] := List.getElem?_eq_getElem (by omega)
    rw [e1, e2, zcellOk_eq (h2 i _ _ e1 e2)]
  · rw [List.getElem?_eq_none (by omega), List.getElem?_eq_none (by omega)]
theorem Cl.zero {w : World} {M : Nat → Prop} : {u : Ty} → u.plain = true → Cl w M u u.zero u.zeros
  | .int _, _ | .bool, _ => rfl
  | .byte, _ => rfl
  | .str, _ => rfl
  | .sl t, _ => ⟨none, 0, rfl, Nat.le_refl _, by unfold maxLen; omega, fun _ => rfl, fun h => absurd rfl h⟩
  | .one t, h => Cl.zero (u := t) h
  | .pair a b, h => by
    simp only [Ty.plain, Bool.and_eq_true] at h
    exact ⟨_, _, rfl, Cl.zero h.1, Cl.zero h.2⟩
  | .arr n t, h => by
    refine ⟨by simp [Ty.zero], List.replicate n t.zeros, by simp, rfl, fun i e u h1 h2 => ?_⟩
    have hi : i < n := by
      have := (List.getElem?_eq_some_iff.1 h2).1
      simpa using this
    have h1' : (List.replicate n t.zero)[i]? = some e := h1
    simp [hi] at h1' h2
    subst h1'; subst h2
    exact Cl.zero (u := t) h
theorem zeroOk_ok {t : TypeId} {u : Ty} (h : zeroOk P t u = true) : ∃ i v, P.info? t = some i ∧ i.zero = some v ∧ ∀ w M, VRep w M u u.zero v := by
  unfold zeroOk at h
  simp only [Bool.and_eq_true] at h
  obtain ⟨hp, h⟩ := h
  split at h
  · rename_i i hi
    split at h
    · rename_i v hv
      simp only [Bool.and_eq_true] at h
      have hz := zlist_eq h.1
      refine ⟨i, v, hi, hv, fun w M => ⟨u.zeros, Cl.zero hp, ?_⟩⟩
      have h2 := h.2
      split at h2
      · rename_i cs
        rw [h2]
        simp only [cond_true]
        have hz' : cs.toList = u.zeros := hz
        rw [← hz']
      · rename_i hne
        simp only [Bool.not_eq_true'] at h2
        rw [h2]
        simp only [cond_false]
        rw [← hz]
        cases v <;> first | rfl | exact absurd rfl (hne _)
    · cases h
  · cases h

/-! Lookups -/
theorem tupIf_ok {c : Bool} {a : AV} {v : Value} {q : Bool} (h : ARep z a v) : ARep z (tupIf c a q) (if c then .tuple #[v, .bool q] else v) := by
  unfold tupIf
  cases c
  · exact h
  · refine .tup _ _ rfl fun i x u h1 h2 => ?_
    match i with
    | 0 => simp at h1 h2; subst h1; subst h2; exact h
    | 1 => simp at h1 h2; subst h1; subst h2; exact .mkB q
    | i + 2 => simp at h1
theorem run_lookup {t kt et : TypeId} {g : Nat} {es : Array MapEntry} {clock : Nat} {vk : Value} {c : Bool} {r : Option (Nat × Value)} {i : TypeInfo} {zv : Value} (hu : P.underlying t = some (.map kt et))
    (hg : z.w.heap[g]? = some (.map es clock)) (hck : (Instr.checkKey es.isEmpty 10000 kt vk).run P z.w = .ok () z.w) (hf : (Instr.findKey kt vk es.toList).run P z.w = .ok r z.w) (hi : r = none → P.info? et = some i ∧ i.zero = some zv) :
    (Instr.lookup t (.map (some g)) vk c).run P z.w = .ok (let x := (match r with | some (_, v) => v | none => zv); if c then .tuple #[x, .bool r.isSome] else x) z.w := by
  have ho : (getObj g).run P z.w = .ok (.map es clock) z.w := by simp [getObj, Sem.run, hg]
  cases r with
  | none =>
    obtain ⟨h1, h2⟩ := hi rfl
    cases c <;> simp [Instr.lookup, Sem.run_bind, run_underlying hu, ho, hck, hf, run_zero h1 h2]
  | some p => cases c <;> simp [Instr.lookup, Sem.run_bind, run_underlying hu, ho, hck, hf]
theorem fchain_ok {k : Ty} {x : k.den} {K : Option AV → Option β} {r : β} : ∀ {l : List (k.den × AV)}, fchain l x K = some r →
    ((∀ (i : Nat) (e : k.den × AV), l[i]? = some e → k.eqb x e.1 = false) ∧ K none = some r) ∨ ∃ (i : Nat) (e : k.den × AV), l[i]? = some e ∧ k.eqb x e.1 = true ∧ (∀ (j : Nat) (e' : k.den × AV), j < i → l[j]? = some e' → k.eqb x e'.1 = false) ∧ K (some e.2) = some r
  | [], h => .inl ⟨fun i e h => by simp at h, h⟩
  | (a, b) :: l, h => by
    simp only [fchain] at h
    cases hq : k.eqb x a <;> rw [hq] at h <;> simp only [bq_true, bq_false] at h
    · rcases fchain_ok h with ⟨h1, h2⟩ | ⟨i, e, h1, h2, h3, h4⟩
      · refine .inl ⟨fun i e he => ?_, h2⟩
        match i with
        | 0 => simp at he; subst he; exact hq
        | i + 1 => exact h1 i e (by simpa using he)
      · refine .inr ⟨i + 1, e, by simpa using h1, h2, fun j e' hj he' => ?_, h4⟩
        match j with
        | 0 => simp at he'; subst he'; exact hq
        | j + 1 => exact h3 j e' (by omega) (by simpa using he')
    · exact .inr ⟨0, (a, b), rfl, hq, fun j e' hj => by omega, h⟩
/-- Found, held against the keys. -/
theorem Found.split {es : List MapEntry} {k : Ty} {ks : List k.den} {x : k.den} {r : Option (Nat × Value)} (hl : ks.length = es.length) (h : Found es (fun j => match ks[j]? with | some a => k.eqb x a | none => false) 0 r) :
    (r = none ∧ ∀ (i : Nat) (a : k.den), ks[i]? = some a → k.eqb x a = false) ∨ ∃ (i : Nat) (a : k.den) (e : MapEntry), r = some (i, e.val) ∧ ks[i]? = some a ∧ es[i]? = some e ∧ k.eqb x a = true ∧ ∀ (j : Nat) (a' : k.den), j < i → ks[j]? = some a' → k.eqb x a' = false := by
  match r, h with
  | none, h =>
    refine .inl ⟨rfl, fun i a ha => ?_⟩
    have hi : i < es.length := by
      have := (List.getElem?_eq_some_iff.1 ha).1
      omega
    have := h i hi
    simp only [Nat.zero_add, ha] at this
    exact this
  | some (p, v), ⟨j, e, h1, h2, h3, h4, h5⟩ =>
    simp only [Nat.zero_add] at h1 h4
    obtain ⟨a, ha⟩ := get_of_len (l := ks) hl.symm h2
    rw [ha] at h4
    refine .inr ⟨j, a, e, by rw [h1, h3], ha, h2, h4, fun j' a' hj' ha' => ?_⟩
    have := h5 j' hj'
    simp only [Nat.zero_add, ha'] at this
    exact this
theorem evLookup_ok {t : TypeId} {m ix : AV} {c : Bool} {K : AV → Option β} {r : β} {vm vk : Value} (h : evLookup P t m ix c H K = some r) (hH : HRep z H) (hm : ARep z m vm) (hk : ARep z ix vk) :
    OkP P (Instr.lookup t vm vk c) z K r := by
  unfold evLookup at h
  split at h
  · rename_i id
    cases hm with | mp _ g sz n hρ =>
    split at h
    · rename_i fz k v M hg
      obtain ⟨h1, h2⟩ := need_iff.1 h
      obtain ⟨x, h3, h4⟩ := asA_ok h2 hk
      unfold mapOk at h1
      split at h1
      · rename_i kt et hu
        simp only [Bool.and_eq_true, decide_eq_true_eq] at h1
        obtain ⟨⟨h5, h6⟩, h7⟩ := h1
        obtain ⟨i, zv, z1, z2, z3⟩ := zeroOk_ok h7
        obtain ⟨_, _, _, es, a1, a2, a3, _⟩ := hH.real hg hρ
        have hck := checkKey_ok (em := es.isEmpty) z.w typesFuel kt k (keyOk_ok h5).2 10000 (by unfold typesFuel; omega) x vk h3
        obtain ⟨q, f1, f2⟩ := findKey_ok h5 z.w h3 es.toList (M.1.map (·.1.1)) (by simp [a2]) (fun j a e e1 e2 => by
          rw [List.getElem?_map] at e1
          obtain ⟨y, e3, rfl⟩ := Option.map_eq_some_iff.1 e1
          exact (a3 j y e e3 (by simpa using e2)).1)
        have hrun := run_lookup (c := c) hu a1 hck f1 (fun _ => ⟨z1, z2⟩)
        unfold lookRes at h4
        rcases f2.split (by simp [a2]) with ⟨rfl, f3⟩ | ⟨j, a, e, rfl, f3, f4, f5, f6⟩
        · have hm : mget M x = none := by
            unfold mget
            cases hq : mfind M.1 x with
            | none => rfl
            | some y =>
              obtain ⟨j, a, q1, q2, _⟩ := mfind_some hq
              have := f3 j a (by simp [q1])
              rw [q2] at this; cases this
          rw [hm] at h4
          exact .mk' hrun (tupIf_ok (ofTy_ok (z3 _ _))) h4
        · rw [List.getElem?_map] at f3
          obtain ⟨y, f7, rfl⟩ := Option.map_eq_some_iff.1 f3
          have hm : mget M x = some y.1.2 := by
            unfold mget
            cases hq : mfind M.1 x with
            | none =>
              have := mfind_none hq j y f7
              rw [f5] at this; cases this
            | some y' =>
              obtain ⟨j', a', q1, q2, q3⟩ := mfind_some hq
              have hjj : j' = j := by
                rcases Nat.lt_trichotomy j' j with hlt | heq | hgt
                · have := f6 j' a' hlt (by simp [q1])
                  rw [q2] at this; cases this
                · exact heq
                · have := q3 j y hgt f7
                  rw [f5] at this; cases this
              subst hjj
              rw [q1] at f7
              injection f7 with f7
              rw [← f7]
              rfl
          rw [hm] at h4
          refine .mk' hrun (tupIf_ok (ofTy_ok ?_)) h4
          exact (a3 j y e f7 (by simpa using f4)).2.1
      · cases h1
    · rename_i fz k l hg
      obtain ⟨h1, h2⟩ := need_iff.1 h
      obtain ⟨x, h3, h4⟩ := asA_ok h2 hk
      unfold fmapOk at h1
      split at h1
      · rename_i kt et hu
        simp only [Bool.and_eq_true] at h1
        obtain ⟨⟨h5, h6⟩, h7⟩ := h1
        obtain ⟨_, _, _, es, clock, a1, a2, a3⟩ := hH.real hg hρ
        have hz : ∃ i, P.info? et = some i ∧ i.zero = some .nilFunc := by
          split at h7
          · rename_i i hi
            split at h7
            · rename_i hz; exact ⟨i, hi, hz⟩
            · cases h7
          · cases h7
        obtain ⟨i, z1, z2⟩ := hz
        have hck := checkKey_ok (em := es.isEmpty) z.w typesFuel kt k (keyOk_ok h5).2 10000 (by unfold typesFuel; omega) x vk h3
        obtain ⟨q, f1, f2⟩ := findKey_ok h5 z.w h3 es.toList (l.map (·.1)) (by simp [a2]) (fun j a e e1 e2 => by
          rw [List.getElem?_map] at e1
          obtain ⟨y, e3, rfl⟩ := Option.map_eq_some_iff.1 e1
          exact (a3 j y e e3 (by simpa using e2)).1)
        have hrun := run_lookup (c := c) hu a1 hck f1 (fun _ => ⟨z1, z2⟩)
        rcases fchain_ok h4 with ⟨g1, g2⟩ | ⟨j', e', g1, g2, g3, g4⟩
        · rcases f2.split (by simp [a2]) with ⟨rfl, f3⟩ | ⟨j, a, e, rfl, f3, f4, f5, f6⟩
          · exact .mk' hrun (tupIf_ok (.p _ _ _ (VRep.mkSc (t := .opq) (x := Value.nilFunc) ⟨rfl, rfl⟩ rfl))) g2
          · rw [List.getElem?_map] at f3
            obtain ⟨y, f7, rfl⟩ := Option.map_eq_some_iff.1 f3
            have := g1 j y f7
            rw [f5] at this; cases this
        · rcases f2.split (by simp [a2]) with ⟨rfl, f3⟩ | ⟨j, a, e, rfl, f3, f4, f5, f6⟩
          · have := f3 j' e'.1 (by simp [g1])
            rw [g2] at this; cases this
          · rw [List.getElem?_map] at f3
            obtain ⟨y, f7, rfl⟩ := Option.map_eq_some_iff.1 f3
            have hjj : j' = j := by
              rcases Nat.lt_trichotomy j' j with hlt | heq | hgt
              · have := f6 j' e'.1 hlt (by simp [g1])
                rw [g2] at this; cases this
              · exact heq
              · have := g3 j y hgt f7
                rw [f5] at this; cases this
            subst hjj
            rw [g1] at f7
            injection f7 with f7
            subst f7
            exact .mk' hrun (tupIf_ok (a3 j' e' e g1 (by simpa using f4)).2) g4
      · cases h1
    · cases h
  · split at h
    · rename_i kt et hu
      obtain ⟨k, h1, h2⟩ := ob_iff.1 h
      obtain ⟨v, h3, h4⟩ := ob_iff.1 h2
      obtain ⟨h5, h6⟩ := need_iff.1 h4
      obtain ⟨x, h7, h8⟩ := asA_ok h6 hk
      unfold mapOk at h5
      rw [hu] at h5
      simp only [Bool.and_eq_true, decide_eq_true_eq] at h5
      obtain ⟨⟨h9, h10⟩, h11⟩ := h5
      obtain ⟨i, zv, z1, z2, z3⟩ := zeroOk_ok h11
      obtain ⟨rfl, _⟩ := hm.v.opq
      have hck := checkKey_ok (em := true) z.w typesFuel kt k (keyOk_ok h9).2 10000 (by unfold typesFuel; omega) x vk h7
      obtain ⟨q, f1, f2⟩ := findKey_ok h9 z.w h7 [] [] rfl (fun j a e e1 => by simp at e1)
      have hq : q = none := by
        rcases Found.split (k := k) (ks := []) (x := x) rfl f2 with ⟨h, _⟩ | ⟨j, a, e, _, e1, _⟩
        · exact h
        · simp at e1
      subst hq
      unfold lookRes at h8
      refine .mk' ?_ (tupIf_ok (c := c) (q := false) (ofTy_ok (z3 _ _))) h8
      cases c <;> simp [Instr.lookup, Sem.run_bind, run_underlying hu, hck, f1, run_zero z1 z2]
    · cases h
  · cases h
end
end Go.Ab
