/- The evaluator's operations are the model's: equality, lengths, building. -/
import Derived.Test.YtplahfhggnkahaaA9
set_option linter.all false
namespace Go.Ab

section
variable {P : Program} {β : Type} {z : Z} {H : Hp}

theorem formOk_ok {t : TypeId} {u : Ty} (h : formOk P t u = true) : 0 < u.cells ∧ (u.isAgg = true → isAggT P t = true) ∧ (u.isAgg = false → isScal P t = true) := by
  unfold formOk at h
  simp only [Bool.and_eq_true, Bool.not_eq_true'] at h
  obtain ⟨h1, h2⟩ := h
  refine ⟨?_, fun h => by rw [h] at h2; exact h2, fun h => by rw [h] at h2; exact h2⟩
  rcases Nat.eq_zero_or_pos u.cells with h | h
  · rw [h] at h1; cases h1
  · exact h
theorem take_cells {w : World} {M : Nat → Prop} {u : Ty} {x : u.den} {cs : List Value} (h : Cl w M u x cs) : Cl w M u x ((cs.drop 0).take u.cells) := by
  rw [List.drop_zero, List.take_of_length_le (by rw [h.len]; exact Nat.le_refl _)]; exact h
theorem drop_cons_nth {α : Type} {l : List α} {i : Nat} {x : α} (h : l[i]? = some x) : l.drop i = x :: l.drop (i + 1) := by
  have hi := (List.getElem?_eq_some_iff.1 h).1
  rw [List.drop_eq_getElem_cons hi]
  congr 1
  exact (List.getElem?_eq_some_iff.1 h).2
theorem eqT_ok (w : World) {M : Nat → Prop} : ∀ (n : Nat) (t : TypeId) (u : Ty), eqT P n t u = true → ∀ (d : Nat), n ≤ d → ∀ (x y : u.den) (vx vy : Value), VRep w M u x vx → VRep w M u y vy →
    (Op.equalIn d t vx vy).run P w = .ok (u.eqb x y) w
  | 0, _, _, h, _, _, _, _, _, _, _, _ => by simp [eqT] at h
  | n + 1, t, u, h, d, hd, x, y, vx, vy, hx, hy => by
    obtain ⟨d, rfl⟩ : ∃ d', d = d' + 1 := ⟨d - 1, by omega⟩
    have hd' : n ≤ d := by omega
    have struct : ∀ (fs : Array Field) (v : Ty) (x y : v.den) (cx cy : List Value), P.underlying t = some (.struct fs) → (!P.stoodInHeld t && eqFs P (fun t u => formOk P t u && eqT P n t u) fs.toList 0 v) = true → Cl w M v x cx → Cl w M v y cy →
        (Op.equalIn (d + 1) t (.agg cx.toArray) (.agg cy.toArray)).run P w = .ok (v.eqb x y) w := by
      intro fs v x y cx cy hu hc h1 h2
      simp only [Bool.and_eq_true, Bool.not_eq_true'] at hc
      have hfs : P.fieldsOf t = fs := by simp [Program.fieldsOf, hu]
      rw [run_equalIn_struct w d t _ _ (by rw [hfs]; exact hu) hc.1, hfs]
      refine eqFs_ok w (M := M) (fun t u hf x y vx vy hx hy => ?_) (fun t u hf => ?_) _ 0 v hc.2 x y _ _ ?_ ?_
      · simp only [Bool.and_eq_true] at hf
        exact eqT_ok w n t u hf.2 d hd' x y vx vy hx hy
      · simp only [Bool.and_eq_true] at hf
        exact formOk_ok hf.1
      · exact take_cells h1
      · exact take_cells h2
    simp only [eqT] at h
    split at h
    · rename_i k k' hu
      simp only [decide_eq_true_eq] at h
      obtain rfl := hx.int
      obtain rfl := hy.int
      exact run_equalIn_int w d t k' k x y hu
    · rename_i k hu
      simp only [decide_eq_true_eq] at h
      have e1 := hx.scal rfl rfl
      have e2 := hy.scal rfl rfl
      simp only [Cl, List.cons.injEq, and_true] at e1 e2
      subst e1; subst e2
      rw [run_equalIn_int w d t .u8 k _ _ hu]
      congr 1
      show (((x : UInt8).toNat : Int) == ((y : UInt8).toNat : Int)) = ((x : UInt8) == y)
      rw [Bool.eq_iff_iff]
      simp only [beq_iff_eq]
      constructor
      · intro h; exact UInt8.toNat_inj.1 (by omega)
      · intro h; rw [h]
    · rename_i hu
      obtain rfl := hx.bool
      obtain rfl := hy.bool
      exact run_equalIn_bool w d t x y hu
    · rename_i hu
      obtain rfl := hx.str
      obtain rfl := hy.str
      rw [run_equalIn_string w d t _ _ hu, bytes_toList, bytes_toList]
      rfl
    · rename_i fs v hu
      obtain ⟨cx, h1, rfl⟩ := hx
      obtain ⟨cy, h2, rfl⟩ := hy
      exact struct fs v x y cx cy hu h h1 h2
    · rename_i fs a b hu
      obtain ⟨cx, h1, rfl⟩ := hx
      obtain ⟨cy, h2, rfl⟩ := hy
      exact struct fs (.pair a b) x y cx cy hu h h1 h2
    · rename_i m e m' v hu
      simp only [Bool.and_eq_true, beq_nat] at h
      obtain ⟨⟨⟨rfl, hc⟩, hf⟩, he⟩ := h
      obtain ⟨cx, h1, rfl⟩ := hx
      obtain ⟨cy, h2, rfl⟩ := hy
      obtain ⟨f1, f2, f3⟩ := formOk_ok hf
      have hi := cells_info hc (by omega)
      cases hq : P.info? e with
      | none => simp [hq] at hi
      | some i =>
        rw [show (bif (Ty.arr m v).isAgg then Value.agg cx.toArray else cx.headD undef) = .agg cx.toArray from rfl, show (bif (Ty.arr m v).isAgg then Value.agg cy.toArray else cy.headD undef) = .agg cy.toArray from rfl,
          run_equalIn_array w d _ _ hu hq, hc]
        have hlx : List.length (α := v.den) x = m := h1.1
        have hly : List.length (α := v.den) y = m := h2.1
        have pt : ∀ (cs : List Value) (l : List v.den) (q : Nat) (a : v.den), Cl w M (.arr m v) l cs → l[q]? = some a → ∃ va, (part e cs.toArray (q * v.cells)).run P w = .ok va w ∧ VRep w M v a va := by
          intro cs l q a hcs ha
          have hc' := Cl.nth (l := l) hcs ha
          have hl := hc'.len
          cases hagg : v.isAgg
          · have hcells : v.cells = 1 := by cases v <;> first | rfl | (simp [Ty.isAgg] at hagg; done)
            match hvs : (cs.drop (q * v.cells)).take v.cells, hl with
            | [], hl => rw [hcells] at hl; simp at hl
            | _ :: _ :: _, hl => rw [hcells] at hl; simp at hl
            | [u], _ =>
              rw [hvs] at hc'
              have hv : cs.toArray[q * v.cells]? = some u := by
                have : ((cs.drop (q * v.cells)).take v.cells)[0]? = some u := by rw [hvs]; rfl
                rw [List.getElem?_take_of_lt (by omega), List.getElem?_drop] at this
                simpa using this
              exact ⟨u, run_part_scal w (f3 hagg) hv, .mkSc hc' hagg⟩
          · refine ⟨_, run_part_agg w (f2 hagg) hc (by omega), ⟨_, hc', ?_⟩⟩
            rw [hagg]
            simp only [cond_true]
            congr 1
            apply Array.ext'
            rw [Array.toList_extract, List.extract_eq_take_drop, Nat.add_sub_cancel_left]
        have key : ∀ (k i : Nat), i + k = m → (Op.eqItems d e v.cells cx.toArray cy.toArray (List.range' i k)).run P w = .ok (listEqb v.eqb (List.drop (α := v.den) i x) (List.drop (α := v.den) i y)) w := by
          intro k
          induction k with
          | zero =>
            intro i hi
            rw [List.drop_of_length_le (by omega), List.drop_of_length_le (by omega)]
            simp [Op.eqItems, listEqb]
          | succ k ih =>
            intro i hi
            have hxi : (show List v.den from x)[i]? = some ((show List v.den from x)[i]'(by rw [hlx]; omega)) := List.getElem?_eq_getElem _
            have hyi : (show List v.den from y)[i]? = some ((show List v.den from y)[i]'(by rw [hly]; omega)) := List.getElem?_eq_getElem _
            generalize (show List v.den from x)[i]'(by rw [hlx]; omega) = xi at hxi
            generalize (show List v.den from y)[i]'(by rw [hly]; omega) = yi at hyi
            obtain ⟨va, q1, q2⟩ := pt cx x i xi h1 hxi
            obtain ⟨vb, p1, p2⟩ := pt cy y i yi h2 hyi
            have heq := eqT_ok w n e v he d hd' xi yi va vb q2 p2
            rw [drop_cons_nth hxi, drop_cons_nth hyi, List.range'_succ]
            simp only [Op.eqItems, Sem.run_bind, q1, p1, heq, Result.andThen_ok, listEqb]
            cases v.eqb xi yi
            · simp
            · simp only [Bool.not_true, Bool.false_eq_true, if_false, Bool.true_and]
              exact ih (i + 1) (by omega)
        have := key m 0 (by omega)
        rw [← List.range_eq_range'] at this
        exact this
    · cases h

theorem eqGuard_triv {op : BinOp} {t : TypeId} {x y : Operand} {a b : Value} (w : World) (h1 : a ≠ .nilIface) (h2 : (∃ xs, a = .agg xs) → P.eqGuardType P.depth t = false) :
    (eqGuard op t x y a b).run P w = .ok () w := by
  cases a with
  | nilIface => exact absurd rfl h1
  | agg xs =>
    cases b with
    | agg ys => exact run_eqGuard_agg w op t x y xs ys (h2 ⟨xs, rfl⟩)
    | _ => cases op <;> rfl
  | _ => cases op <;> rfl
theorem lenS_ok {a : AV} {K : Nat → Option β} {r : β} {v : Value} (h : lenS H a K = some r) (hH : HRep z H) (ha : ARep z a v) : ∃ A n c, v = .slice A n c ∧ n ≤ c ∧ c ≤ maxLen ∧ (A = none → n = 0) ∧ K n = some r := by
  unfold lenS at h
  split at h
  · cases ha with
    | slV _ _ _ A hρ => exact ⟨A, 0, 0, rfl, Nat.le_refl _, by unfold maxLen; omega, fun _ => rfl, h⟩
    | slE => exact ⟨_, 0, 0, rfl, Nat.le_refl _, by unfold maxLen; omega, fun _ => rfl, h⟩
    | sl _ _ _ _ g sz m c hρ hn hs hm => exact ⟨_, _, c, rfl, hn, hm, (fun h => by cases h), h⟩
  · obtain ⟨fz, e, u, l, hg, he, h3⟩ := ownRows_ok h
    obtain ⟨A, c, rfl, hc, hA, _, hm⟩ := slf_len hH hg ha
    refine ⟨A, _, c, rfl, hc, hm, fun h0 => ?_, h3⟩
    rcases Nat.eq_zero_or_pos l.length with h | h
    · exact h
    · obtain ⟨g, sz, n, _, h1, _⟩ := hA (by omega)
      rw [h0] at h1; cases h1
  · rename_i u l
    obtain ⟨A, c, rfl, hc, hm, hn, hA⟩ := VRep.sl (t := u) ha.v
    exact ⟨A, _, c, rfl, hc, hm, fun h0 => by have := hn h0; omega, h⟩
  · obtain ⟨rfl, _⟩ := ha.v.opq
    exact ⟨none, 0, 0, rfl, Nat.le_refl _, by unfold maxLen; omega, fun _ => rfl, h⟩
  · cases h
theorem eqNilP_ok {a b : AV} {q : Bool} {va vb : Value} (h : eqNilP a b = some q) (ha : ARep z a va) (hb : ARep z b vb) :
    ∃ p p', va = .pointer p ∧ vb = .pointer p' ∧ (p = none ∨ p' = none) ∧ q = (p.isNone && p'.isNone) := by
  unfold eqNilP at h
  split at h <;> first | (cases h; done) | skip
  all_goals simp only [Option.some.injEq] at h
  all_goals subst h
  · obtain ⟨rfl, _⟩ := ha.v.opq; obtain ⟨rfl, _⟩ := hb.v.opq; exact ⟨none, none, rfl, rfl, .inl rfl, rfl⟩
  · obtain ⟨rfl, _⟩ := hb.v.opq; cases ha; exact ⟨_, none, rfl, rfl, .inr rfl, rfl⟩
  · obtain ⟨rfl, _⟩ := ha.v.opq; cases hb; exact ⟨none, _, rfl, rfl, .inl rfl, rfl⟩
  · obtain ⟨rfl, _⟩ := hb.v.opq; cases ha; exact ⟨_, none, rfl, rfl, .inr rfl, rfl⟩
  · obtain ⟨rfl, _⟩ := ha.v.opq; cases hb; exact ⟨none, _, rfl, rfl, .inl rfl, rfl⟩
theorem eqNilM_ok {a b : AV} {q : Bool} {va vb : Value} (h : eqNilM a b = some q) (ha : ARep z a va) (hb : ARep z b vb) :
    ∃ p p', va = .map p ∧ vb = .map p' ∧ (p = none ∨ p' = none) ∧ q = (p.isNone && p'.isNone) := by
  unfold eqNilM at h
  split at h <;> first | (cases h; done) | skip
  all_goals simp only [Option.some.injEq] at h
  all_goals subst h
  · obtain ⟨rfl, _⟩ := hb.v.opq; cases ha; exact ⟨_, none, rfl, rfl, .inr rfl, rfl⟩
  · obtain ⟨rfl, _⟩ := ha.v.opq; cases hb; exact ⟨none, _, rfl, rfl, .inl rfl, rfl⟩
  · obtain ⟨rfl, _⟩ := ha.v.opq; obtain ⟨rfl, _⟩ := hb.v.opq; exact ⟨none, none, rfl, rfl, .inl rfl, rfl⟩
theorem eqNilF_ok {a b : AV} {q : Bool} {va vb : Value} (h : eqNilF a b = some q) (ha : ARep z a va) (hb : ARep z b vb) :
    (va = .nilFunc ∧ vb = .nilFunc ∧ q = true) ∨ (∃ f x y, va = .func f x y ∧ vb = .nilFunc ∧ q = false) ∨ (∃ f x y, va = .nilFunc ∧ vb = .func f x y ∧ q = false) := by
  unfold eqNilF at h
  split at h <;> first | (cases h; done) | skip
  all_goals simp only [Option.some.injEq] at h
  all_goals subst h
  · obtain ⟨rfl, _⟩ := ha.v.opq; obtain ⟨rfl, _⟩ := hb.v.opq; exact .inl ⟨rfl, rfl, rfl⟩
  · obtain ⟨rfl, _⟩ := hb.v.opq; cases ha; exact .inr (.inl ⟨_, _, _, rfl, rfl, rfl⟩)
  · obtain ⟨rfl, _⟩ := ha.v.opq; cases hb; exact .inr (.inr ⟨_, _, _, rfl, rfl, rfl⟩)
theorem nilQ_ok {n : Nat} {K : Bool → Option β} {r : β} {A : Option Addr} (h : nilQ n K = some r) (hA : A = none → n = 0) : K A.isNone = some r := by
  unfold nilQ at h
  split at h
  · rename_i hq
    cases A with
    | none => rw [← hq (hA rfl)] at h; exact h
    | some a => exact h
  · cases h
/-- Held against each other by 'equal'. -/
def ByEqual (P : Program) (t : TypeId) (va vb : Value) : Prop :=
  va ≠ .nilIface ∧ ((∃ xs, va = .agg xs) → P.eqGuardType P.depth t = false) ∧ binOp .eql t va vb = (do pure (.bool (← Op.equal t va vb))) ∧ binOp .neq t va vb = (do pure (.bool (!(← Op.equal t va vb))))
theorem equal_of {t : TypeId} {x y : Value} {w : World} {q : Bool} (h : ∀ d, (Op.equalIn (d + 1) t x y).run P w = .ok q w) : (Op.equal t x y).run P w = .ok q w := h 9999
theorem evEq_ok {t : TypeId} {a b : AV} {K : Bool → Option β} {r : β} {va vb : Value} (h : evEq P t a b H K = some r) (hH : HRep z H) (ha : ARep z a va) (hb : ARep z b vb)
    (hni : ∀ k, P.underlying t ≠ some (.int k)) (hns : P.underlying t ≠ some .string) :
    ∃ q, (Op.equal t va vb).run P z.w = .ok q z.w ∧ K q = some r ∧ ByEqual P t va vb := by
  unfold evEq at h
  split at h
  · rename_i e hu
    obtain ⟨q, h1, h2⟩ := ob_iff.1 h
    obtain ⟨p, p', rfl, rfl, hn, rfl⟩ := eqNilP_ok h1 ha hb
    refine ⟨_, equal_of fun d => ?_, h2, by simp, by simp, rfl, rfl⟩
    rcases hn with rfl | rfl
    · cases p' <;> simp [Op.equalIn, Sem.run_bind, run_underlying hu]
    · cases p <;> simp [Op.equalIn, Sem.run_bind, run_underlying hu]
  · rename_i k e hu
    obtain ⟨q, h1, h2⟩ := ob_iff.1 h
    obtain ⟨p, p', rfl, rfl, hn, rfl⟩ := eqNilM_ok h1 ha hb
    refine ⟨_, equal_of fun d => ?_, h2, by simp, by simp, rfl, rfl⟩
    rcases hn with rfl | rfl
    · cases p' <;> simp [Op.equalIn, Sem.run_bind, run_underlying hu]
    · cases p <;> simp [Op.equalIn, Sem.run_bind, run_underlying hu]
  · rename_i p1 p2 p3 hu
    obtain ⟨q, h1, h2⟩ := ob_iff.1 h
    rcases eqNilF_ok h1 ha hb with ⟨rfl, rfl, rfl⟩ | ⟨f, x, y, rfl, rfl, rfl⟩ | ⟨f, x, y, rfl, rfl, rfl⟩
    all_goals exact ⟨_, equal_of fun d => by simp [Op.equalIn, Sem.run_bind, run_underlying hu], h2, by simp, by simp, rfl, rfl⟩
  · rename_i e hu
    split at h
    · obtain ⟨rfl, _⟩ := ha.v.opq
      obtain ⟨rfl, _⟩ := hb.v.opq
      exact ⟨_, equal_of fun d => by simp [Op.equalIn, Sem.run_bind, run_underlying hu], h, by simp, by simp, rfl, rfl⟩
    · obtain ⟨rfl, _⟩ := hb.v.opq
      obtain ⟨A, n, c, rfl, _, _, hA, h2⟩ := lenS_ok h hH ha
      exact ⟨_, equal_of fun d => run_equalIn_slice_nil z.w d t e A n c hu, nilQ_ok h2 hA, by simp, by simp, rfl, rfl⟩
    · obtain ⟨rfl, _⟩ := ha.v.opq
      obtain ⟨A, n, c, rfl, _, _, hA, h2⟩ := lenS_ok h hH hb
      exact ⟨_, equal_of fun d => by simp [Op.equalIn, Sem.run_bind, run_underlying hu], nilQ_ok h2 hA, by simp, by simp, rfl, rfl⟩
    · cases h
  · obtain ⟨u, h1, h2⟩ := ob_iff.1 h
    obtain ⟨h3, h4⟩ := need_iff.1 h2
    simp only [Bool.and_eq_true, Bool.not_eq_true'] at h3
    obtain ⟨x, h5, h6⟩ := asA_ok h4 ha
    obtain ⟨y, h7, h8⟩ := asA_ok h6 hb
    have hq : (Op.equal t va vb).run P z.w = .ok (u.eqb x y) z.w := eqT_ok z.w typesFuel t u h3.1 10000 (by unfold typesFuel; omega) x y va vb h5 h7
    have form : (∃ xs ys, va = .agg xs ∧ vb = .agg ys) ∨ (∃ p q, va = .bool p ∧ vb = .bool q) := by
      have he := h3.1
      unfold typesFuel at he
      simp only [eqT] at he
      split at he
      · rename_i hu; exact absurd hu (hni _)
      · rename_i hu; exact absurd hu (hni _)
      · exact .inr ⟨x, y, h5.bool, h7.bool⟩
      · rename_i hu; exact absurd hu hns
      · obtain ⟨c1, _, rfl⟩ := h5; obtain ⟨c2, _, rfl⟩ := h7; exact .inl ⟨_, _, rfl, rfl⟩
      · obtain ⟨c1, _, rfl⟩ := h5; obtain ⟨c2, _, rfl⟩ := h7; exact .inl ⟨_, _, rfl, rfl⟩
      · obtain ⟨c1, _, rfl⟩ := h5; obtain ⟨c2, _, rfl⟩ := h7; exact .inl ⟨_, _, rfl, rfl⟩
      · cases he
    refine ⟨_, hq, h8, ?_⟩
    rcases form with ⟨xs, ys, rfl, rfl⟩ | ⟨p, q, rfl, rfl⟩
    · exact ⟨by simp, fun _ => h3.2, rfl, rfl⟩
    · exact ⟨by simp, by simp, rfl, rfl⟩
/-- The model's binary operation, its guard ahead. -/
theorem evBin_ok {op : BinOp} {t u : TypeId} {a b : AV} {K : AV → Option β} {r : β} {va vb : Value} (x y : Operand) (h : evBin P op t u a b H K = some r) (hH : HRep z H) (ha : ARep z a va) (hb : ARep z b vb) :
    OkP P (do eqGuard op t x y va vb; binOp op t va vb) z K r := by
  have triv : ∀ {s : Sem Value}, va ≠ .nilIface → ((∃ xs, va = .agg xs) → P.eqGuardType P.depth t = false) → OkP P s z K r → OkP P (do eqGuard op t x y va vb; s) z K r := fun {s} h1 h2 ⟨q, v, e1, e2, e3⟩ =>
    ⟨q, v, by rw [Sem.run_bind, eqGuard_triv z.w h1 h2]; exact e1, e2, e3⟩
  unfold evBin at h
  split at h
  · rename_i k hu
    split at h
    · rename_i k' hu'
      obtain ⟨m, h1, h2⟩ := ob_iff.1 h
      obtain ⟨n, h3, h4⟩ := ob_iff.1 h2
      obtain ⟨h5, h6⟩ := need_iff.1 h4
      obtain rfl := int?_ok h1 ha
      obtain rfl := int?_ok h3 hb
      exact triv (by simp) (by simp) (evInt_ok h6 h5)
    · cases h
  · obtain ⟨m, h1, h2⟩ := ob_iff.1 h
    obtain ⟨n, h3, h4⟩ := ob_iff.1 h2
    obtain rfl := str?_ok h1 ha
    obtain rfl := str?_ok h3 hb
    exact triv (by simp) (by simp) (evStr_ok h4)
  · rename_i hni hns
    split at h
    · obtain ⟨q, h1, h2, h3, h4, h5, h6⟩ := evEq_ok h hH ha hb (fun k e => hni k e) (fun e => hns e)
      refine triv h3 h4 ⟨_, _, ?_, .mkB q, h2⟩
      rw [h5]
      simp [Sem.run_bind, h1]
    · obtain ⟨q, h1, h2, h3, h4, h5, h6⟩ := evEq_ok h hH ha hb (fun k e => hni k e) (fun e => hns e)
      refine triv h3 h4 ⟨_, _, ?_, .mkB (!q), h2⟩
      rw [h6]
      simp [Sem.run_bind, h1]
    · cases h
theorem evUn_ok {op : UnOp} {t : TypeId} {a : AV} {K : AV → Option β} {r : β} {va : Value} (h : evUn P op t a K = some r) (ha : ARep z a va) : OkP P (Op.unary op va) z K r := by
  unfold evUn at h
  split at h
  · obtain ⟨x, h1, h2⟩ := ob_iff.1 h
    obtain rfl := bool?_ok h1 ha
    exact .mk' (by simp [Op.unary]) (.mkB _) h2
  · obtain ⟨x, h1, h2⟩ := ob_iff.1 h
    obtain rfl := int?_ok h1 ha
    exact .mk' (by simp [Op.unary, Op.intArith]) (.mkI _ _) h2
  · obtain ⟨x, h1, h2⟩ := ob_iff.1 h
    obtain rfl := int?_ok h1 ha
    exact .mk' (by simp [Op.unary, Op.intBits, bitsI]) (.mkI _ _) h2
  · cases h
theorem evPick_ok {t : TypeId} {c a b : AV} {K : AV → Option β} {r : β} {vc va vb : Value} (h : evPick P t c a b K = some r) (hc : ARep z c vc) (ha : ARep z a va) (hb : ARep z b vb) :
    OkP P (do pure (if ← asBool vc then va else vb)) z K r := by
  unfold evPick at h
  obtain ⟨q, h1, h2⟩ := ob_iff.1 h
  obtain rfl := bool?_ok h1 hc
  have run : (do pure (if ← asBool (.bool q) then va else vb) : Sem Value).run P z.w = .ok (if q then va else vb) z.w := by simp [asBool, Sem.run_bind]
  split at h2
  · split at h2
    · rename_i x y hx hy
      obtain rfl := bool?_ok hx ha
      obtain rfl := bool?_ok hy hb
      refine .mk' run ?_ h2
      cases q
      · exact .mkB _
      · exact .mkB _
    · rename_i x hx hx2
      obtain rfl := bool?_ok hx ha
      obtain ⟨h3, h4⟩ := need_iff.1 h2
      subst h3
      exact .mk' run (.mkB _) h4
    · rename_i y hx hy
      obtain rfl := bool?_ok hy hb
      obtain ⟨h3, h4⟩ := need_iff.1 h2
      simp only [Bool.not_eq_true'] at h3
      subst h3
      exact .mk' run (.mkB _) h4
    · cases h2
  · cases q
    · exact .mk' run hb h2
    · exact .mk' run ha h2
end
end Go.Ab
