/- TreeMany: a directory has as many names as it may, in order, and no more; within it names may still be changed. For every input that can be read as data, in whatever memory, the call returns true; each argument reads behind it as it read before. -/
import Derived.Test.YtceedhbmmlcckaaRows
import Derived.Test.YtceedhbmmlcckaaTreeManyD2
import Derived.Test.YtceedhbmmlcckaaTreeManyQ2
import Derived.Test.YtceedhbmmlcckaaE4
set_option linter.all false
namespace Go.Proofs.Ytceedhbmmlcckaa
open Go.ChangeShapes Go.WideShapes Go.ChangeAt Go.RowKit Go.Ab

theorem treeMany_own : ownKnob Try.prog.godebug = none := by kernel_rfl
theorem treeMany_laid : laidOutB Try.prog = true := by kernel_rfl
theorem treeMany_reads : ∀ t ∈ Try.f7.params.toList, Try.prog.readableRec t = true ∧ t < Try.prog.types.size := by
  rw [Try.params7]
  intro t ht
  simp only [List.mem_cons, List.mem_nil_iff, or_false] at ht
  subst ht
  all_goals exact ⟨by kernel_rfl, of_decide_eq_true (by kernel_rfl)⟩

set_option maxRecDepth 100000 in
theorem treeMany_lifted (os : Os) (started : os.Started) (H : Type) (enc : TypeId × Value → H) :
    ReturnsInHanded {} Try.checked os 7 .any (Rows.treeManySpec.pre6 enc Try.prog Try.f7 Rows.treeManyRow.domain false) (Rows.treeManySpec.post enc Try.prog Try.f7 false true false false) := by
  refine returnsInHanded_of_change (C := Try.checked) treeMany_own started (by kernel_rfl) Try.func7
    (ChangeSpec.witness6 (enc := enc) (C := Try.checked) false ⟨#[], #[(.int .u8 0)], []⟩ 8 (by kernel_rfl) (by kernel_rfl) (by kernel_rfl) (by kernel_rfl)) ?_
  intro W base args ds gs before hval0 hW hcnd _
  have hval : ∀ (j : Nat) t v, Try.f7.params[j]? = some t → args[j]? = some v → Value.okWide Try.prog W .any base t v := hval0
  have hW' := hW
  obtain ⟨p, q, hA0, hV, rfl, hfz, hnd⟩ := hW
  have hA : DataW.TrodAll enc Try.prog W 0 (fun _ => true) true Try.f7.params.toList args.toList ds p := hA0
  rw [Try.params7] at hA hval
  obtain ⟨v0, vs0, d0, ds0, p0, q0, hargs, rfl, rfl, h0, r0⟩ := trodAll_cons hA
  obtain ⟨rfl, rfl, rfl⟩ := trodAll_nil r0
  obtain rfl : args = #[v0] := by cases args; simp_all
  obtain ⟨x0, hx0, k0⟩ := trod_v (n := 20) (u := (.int .u8)) (by kernel_rfl) (by kernel_rfl) (hval 0 _ v0 rfl rfl) h0
  obtain ⟨rfl, rfl⟩ := trodVars_none hV
  refine (law_of_told (w := W) ⟨_, _, Try.func7, rfl, by kernel_rfl⟩ (Go.Ab.D.law19_TreeMany_told fuel) (t := x0) (Go.Ab.D.law19_TreeMany_true x0 k0) (.cons (.p _ _ _ hx0) .nil)).mono fun e W' ⟨he, hb⟩ => ?_
  subst he
  exact ⟨_, rfl, Go.Ab.law_post treeMany_laid Try.underlying4 rfl treeMany_reads rfl ⟨rfl, rfl, rfl⟩ hW' hb⟩

theorem treeMany_holds : Rows.TreeManySaid :=
  OpenClaim.holds_of_wide 7 Try.f7 rfl rfl rfl rfl rfl rfl rfl ⟨rfl, rfl, rfl, rfl, rfl⟩ rfl rfl rfl rfl rfl (by kernel_rfl) Try.func7 (by kernel_rfl)
    (of_decide_eq_true (by kernel_rfl)) (by unfold Func.isWrapper; first | (rw [if_pos (by decide +kernel)]; kernel_rfl) | (rw [if_neg (by decide +kernel)]; exact ⟨rfl, rfl⟩))
    (fun os started H enc _ => treeMany_lifted os started H enc)

end Go.Proofs.Ytceedhbmmlcckaa
