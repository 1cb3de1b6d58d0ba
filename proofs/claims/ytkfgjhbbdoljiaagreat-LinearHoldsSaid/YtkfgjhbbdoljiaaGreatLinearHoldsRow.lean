/- LinearHolds: What a model was asked one by one is judged so, and that order is right. For every input that can be read as data, in whatever memory, the call returns true; each argument reads behind it as it read before. -/
import Derived.Test.YtkfgjhbbdoljiaaGreatRows
import Derived.Test.YtkfgjhbbdoljiaaGreatLinearHoldsD4
import Derived.Test.YtkfgjhbbdoljiaaGreatLinearHoldsQ3
import Derived.Test.YtkfgjhbbdoljiaaGreatE4
set_option linter.all false
namespace Go.Proofs.YtkfgjhbbdoljiaaGreat
open Go.ChangeShapes Go.WideShapes Go.ChangeAt Go.RowKit Go.Ab

theorem linearHolds_own : ownKnob Tryz.prog.godebug = none := by kernel_rfl
theorem linearHolds_laid : laidOutB Tryz.prog = true := by kernel_rfl
theorem linearHolds_reads : ∀ t ∈ Tryz.f5.params.toList, Tryz.prog.readableRec t = true ∧ t < Tryz.prog.types.size := by
  rw [Tryz.params5]
  intro t ht
  simp only [List.mem_cons, List.mem_nil_iff, or_false] at ht
  subst ht
  all_goals exact ⟨by kernel_rfl, of_decide_eq_true (by kernel_rfl)⟩

set_option maxRecDepth 100000 in
theorem linearHolds_lifted (os : Os) (started : os.Started) (H : Type) (enc : TypeId × Value → H) :
    ReturnsInHanded {} Tryz.checked os 5 .any (Rows.linearHoldsSpec.pre6 enc Tryz.prog Tryz.f5 Rows.linearHoldsRow.domain false) (Rows.linearHoldsSpec.post enc Tryz.prog Tryz.f5 false true false false) := by
  refine returnsInHanded_of_change (C := Tryz.checked) linearHolds_own started (by kernel_rfl) Tryz.func5
    (ChangeSpec.witness6 (enc := enc) (C := Tryz.checked) false ⟨#[], #[(.slice none 0 0)], []⟩ 8 (by kernel_rfl) (by kernel_rfl) (by kernel_rfl) (by kernel_rfl)) ?_
  intro W base args ds gs before hval0 hW hcnd _
  have hval : ∀ (j : Nat) t v, Tryz.f5.params[j]? = some t → args[j]? = some v → Value.okWide Tryz.prog W .any base t v := hval0
  have hW' := hW
  obtain ⟨p, q, hA0, hV, rfl, hfz, hnd⟩ := hW
  have hA : DataW.TrodAll enc Tryz.prog W 0 (fun _ => true) true Tryz.f5.params.toList args.toList ds p := hA0
  rw [Tryz.params5] at hA hval
  obtain ⟨v0, vs0, d0, ds0, p0, q0, hargs, rfl, rfl, h0, r0⟩ := trodAll_cons hA
  obtain ⟨rfl, rfl, rfl⟩ := trodAll_nil r0
  obtain rfl : args = #[v0] := by cases args; simp_all
  obtain ⟨x0, hx0, k0⟩ := trod_v (n := 20) (u := (.sl (.pair (.pair (.pair (.int .i64) (.pair (.int .i64) (.pair .byte (.pair (.pair (.int .i64) (.int .i64)) (.pair .str (.pair (.pair (.int .i64) (.int .i64)) (.pair .str (.pair (.int .i64) (.pair (.int .i64) (.sl .byte)))))))))) (.pair (.int .i64) (.int .i64))) (.pair .byte (.pair .byte (.pair .bool (.pair .bool (.pair (.int .i64) (.int .i64))))))))) (by kernel_rfl) (by kernel_rfl) (hval 0 _ v0 rfl rfl) h0
  obtain ⟨rfl, rfl⟩ := trodVars_none hV
  refine (law_of_told (w := W) ⟨_, _, Tryz.func5, rfl, by kernel_rfl⟩ (Go.Ab.D.law28_LinearHolds_told fuel) (t := x0) (Go.Ab.D.law28_LinearHolds_true x0 k0) (.cons (.p _ _ _ hx0) .nil)).mono fun e W' ⟨he, hb⟩ => ?_
  subst he
  exact ⟨_, rfl, Go.Ab.law_post linearHolds_laid Tryz.underlying4 rfl linearHolds_reads rfl ⟨rfl, rfl, rfl⟩ hW' hb⟩

theorem linearHolds_holds : Rows.LinearHoldsSaid :=
  OpenClaim.holds_of_wide 5 Tryz.f5 rfl rfl rfl rfl rfl rfl rfl ⟨rfl, rfl, rfl, rfl, rfl⟩ rfl rfl rfl rfl rfl (by kernel_rfl) Tryz.func5 (by kernel_rfl)
    (of_decide_eq_true (by kernel_rfl)) (by unfold Func.isWrapper; first | (rw [if_pos (by decide +kernel)]; kernel_rfl) | (rw [if_neg (by decide +kernel)]; exact ⟨rfl, rfl⟩))
    (fun os started H enc _ => linearHolds_lifted os started H enc)

end Go.Proofs.YtkfgjhbbdoljiaaGreat
