/- ClockNumbers: The fixed examples of the chapter come out as written; the limits, the greatest time, a clock that is full. For every input that can be read as data, in whatever memory, the call returns true; each argument reads behind it as it read before. -/
import Derived.Test.YtecodhbbobhidaaRows
import Derived.Test.YtecodhbbobhidaaClockNumbersD1
import Derived.Test.YtecodhbbobhidaaClockNumbersQ1
import Derived.Test.YtecodhbbobhidaaE3
set_option linter.all false
namespace Go.Proofs.Ytecodhbbobhidaa
open Go.ChangeShapes Go.WideShapes Go.ChangeAt Go.RowKit Go.Ab

theorem clockNumbers_own : ownKnob Try.prog.godebug = none := by kernel_rfl
theorem clockNumbers_laid : laidOutB Try.prog = true := by kernel_rfl
theorem clockNumbers_reads : ∀ t ∈ Try.f3.params.toList, Try.prog.readableRec t = true ∧ t < Try.prog.types.size := by
  rw [Try.params3]
  intro t ht
  cases ht

set_option maxRecDepth 100000 in
theorem clockNumbers_lifted (os : Os) (started : os.Started) (H : Type) (enc : TypeId × Value → H) :
    ReturnsInHanded {} Try.checked os 3 .any (Rows.clockNumbersSpec.pre6 enc Try.prog Try.f3 Rows.clockNumbersRow.domain false) (Rows.clockNumbersSpec.post enc Try.prog Try.f3 false true false false) := by
  refine returnsInHanded_of_change (C := Try.checked) clockNumbers_own started (by kernel_rfl) Try.func3
    (ChangeSpec.witness6 (enc := enc) (C := Try.checked) false ⟨#[], #[], []⟩ 8 (by kernel_rfl) (by kernel_rfl) (by kernel_rfl) (by kernel_rfl)) ?_
  intro W base args ds gs before hval0 hW hcnd _
  have hval : ∀ (j : Nat) t v, Try.f3.params[j]? = some t → args[j]? = some v → Value.okWide Try.prog W .any base t v := hval0
  have hW' := hW
  obtain ⟨p, q, hA0, hV, rfl, hfz, hnd⟩ := hW
  have hA : DataW.TrodAll enc Try.prog W 0 (fun _ => true) true Try.f3.params.toList args.toList ds p := hA0
  rw [Try.params3] at hA hval
  obtain ⟨hargs, rfl, rfl⟩ := trodAll_nil hA
  obtain rfl : args = #[] := by cases args; simp_all
  obtain ⟨rfl, rfl⟩ := trodVars_none hV
  refine (law_of_told (w := W) (Go.Ab.D.law08_ClockNumbers_told fuel) (t := ()) (Go.Ab.D.law08_ClockNumbers_true) .nil).mono fun e W' ⟨he, hb⟩ => ?_
  subst he
  exact ⟨_, rfl, Go.Ab.law_post clockNumbers_laid Try.underlying4 rfl clockNumbers_reads rfl ⟨rfl, rfl, rfl⟩ hW' hb⟩

theorem clockNumbers_holds : Rows.ClockNumbersSaid :=
  OpenClaim.holds_of_wide 3 Try.f3 rfl rfl rfl rfl rfl rfl rfl ⟨rfl, rfl, rfl, rfl, rfl⟩ rfl rfl rfl rfl rfl (by kernel_rfl) Try.func3 (by kernel_rfl)
    (of_decide_eq_true (by kernel_rfl)) (by unfold Func.isWrapper; first | (rw [if_pos (by decide +kernel)]; kernel_rfl) | (rw [if_neg (by decide +kernel)]; exact ⟨rfl, rfl⟩))
    (fun os started H enc _ => clockNumbers_lifted os started H enc)

end Go.Proofs.Ytecodhbbobhidaa
