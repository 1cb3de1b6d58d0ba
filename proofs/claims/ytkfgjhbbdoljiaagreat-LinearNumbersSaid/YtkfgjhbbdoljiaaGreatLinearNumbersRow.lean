/- LinearNumbers: The chapter's examples come out as written; reckoned. For every input that can be read as data, in whatever memory, the call returns true; each argument reads behind it as it read before. -/
import Derived.Test.YtkfgjhbbdoljiaaGreatRows
import Derived.Test.YtkfgjhbbdoljiaaGreatLinearNumbersD3
import Derived.Test.YtkfgjhbbdoljiaaGreatLinearNumbersQ1
import Derived.Test.YtkfgjhbbdoljiaaGreatE5
set_option linter.all false
namespace Go.Proofs.YtkfgjhbbdoljiaaGreat
open Go.ChangeShapes Go.WideShapes Go.ChangeAt Go.RowKit Go.Ab

theorem linearNumbers_own : ownKnob Tryz.prog.godebug = none := by kernel_rfl
theorem linearNumbers_laid : laidOutB Tryz.prog = true := by kernel_rfl
theorem linearNumbers_reads : ∀ t ∈ Tryz.f3.params.toList, Tryz.prog.readableRec t = true ∧ t < Tryz.prog.types.size := by
  rw [Tryz.params3]
  intro t ht
  cases ht

set_option maxRecDepth 100000 in
theorem linearNumbers_lifted (os : Os) (started : os.Started) (H : Type) (enc : TypeId × Value → H) :
    ReturnsInHanded {} Tryz.checked os 3 .any (Rows.linearNumbersSpec.pre6 enc Tryz.prog Tryz.f3 Rows.linearNumbersRow.domain false) (Rows.linearNumbersSpec.post enc Tryz.prog Tryz.f3 false true false false) := by
  refine returnsInHanded_of_change (C := Tryz.checked) linearNumbers_own started (by kernel_rfl) Tryz.func3
    (ChangeSpec.witness6 (enc := enc) (C := Tryz.checked) false ⟨#[], #[], []⟩ 8 (by kernel_rfl) (by kernel_rfl) (by kernel_rfl) (by kernel_rfl)) ?_
  intro W base args ds gs before hval0 hW hcnd _
  have hval : ∀ (j : Nat) t v, Tryz.f3.params[j]? = some t → args[j]? = some v → Value.okWide Tryz.prog W .any base t v := hval0
  have hW' := hW
  obtain ⟨p, q, hA0, hV, rfl, hfz, hnd⟩ := hW
  have hA : DataW.TrodAll enc Tryz.prog W 0 (fun _ => true) true Tryz.f3.params.toList args.toList ds p := hA0
  rw [Tryz.params3] at hA hval
  obtain ⟨hargs, rfl, rfl⟩ := trodAll_nil hA
  obtain rfl : args = #[] := by cases args; simp_all
  obtain ⟨rfl, rfl⟩ := trodVars_none hV
  refine (law_of_told (w := W) ⟨_, _, Tryz.func3, rfl, by kernel_rfl⟩ (Go.Ab.D.law28_LinearNumbers_told fuel) (t := ()) (Go.Ab.D.law28_LinearNumbers_true) .nil).mono fun e W' ⟨he, hb⟩ => ?_
  subst he
  exact ⟨_, rfl, Go.Ab.law_post linearNumbers_laid Tryz.underlying4 rfl linearNumbers_reads rfl ⟨rfl, rfl, rfl⟩ hW' hb⟩

theorem linearNumbers_holds : Rows.LinearNumbersSaid :=
  OpenClaim.holds_of_wide 3 Tryz.f3 rfl rfl rfl rfl rfl rfl rfl ⟨rfl, rfl, rfl, rfl, rfl⟩ rfl rfl rfl rfl rfl (by kernel_rfl) Tryz.func3 (by kernel_rfl)
    (of_decide_eq_true (by kernel_rfl)) (by unfold Func.isWrapper; first | (rw [if_pos (by decide +kernel)]; kernel_rfl) | (rw [if_neg (by decide +kernel)]; exact ⟨rfl, rfl⟩))
    (fun os started H enc _ => linearNumbers_lifted os started H enc)

end Go.Proofs.YtkfgjhbbdoljiaaGreat
