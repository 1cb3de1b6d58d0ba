/- InodeMany: as many inodes as there may be are taken, each once; one given back is one more For every input that can be read as data, in whatever memory, the call returns true; each argument reads behind it as it read before. -/
import Derived.Test.YtdngccokjijgeaaRows
import Derived.Test.YtdngccokjijgeaaInodeManyD2
import Derived.Test.YtdngccokjijgeaaInodeManyQ1
import Derived.Test.YtdngccokjijgeaaE4
set_option linter.all false
namespace Go.Proofs.Ytdngccokjijgeaa
open Go.ChangeShapes Go.WideShapes Go.ChangeAt Go.RowKit Go.Ab

theorem inodeMany_own : ownKnob Try.prog.godebug = none := by kernel_rfl
theorem inodeMany_laid : laidOutB Try.prog = true := by kernel_rfl
theorem inodeMany_reads : ∀ t ∈ Try.f3.params.toList, Try.prog.readableRec t = true ∧ t < Try.prog.types.size := by
  rw [Try.params3]
  intro t ht
  simp only [List.mem_cons, List.mem_nil_iff, or_false] at ht
  subst ht
  all_goals exact ⟨by kernel_rfl, of_decide_eq_true (by kernel_rfl)⟩

set_option maxRecDepth 100000 in
theorem inodeMany_lifted (os : Os) (started : os.Started) (H : Type) (enc : TypeId × Value → H) :
    ReturnsInHanded {} Try.checked os 3 .any (Rows.inodeManySpec.pre6 enc Try.prog Try.f3 Rows.inodeManyRow.domain false) (Rows.inodeManySpec.post enc Try.prog Try.f3 false true false false) := by
  refine returnsInHanded_of_change (C := Try.checked) inodeMany_own started (by kernel_rfl) Try.func3
    (ChangeSpec.witness6 (enc := enc) (C := Try.checked) false ⟨#[], #[(.int .u16 0)], []⟩ 8 (by kernel_rfl) (by kernel_rfl) (by kernel_rfl) (by kernel_rfl)) ?_
  intro W base args ds gs before hval0 hW hcnd _
  have hval : ∀ (j : Nat) t v, Try.f3.params[j]? = some t → args[j]? = some v → Value.okWide Try.prog W .any base t v := hval0
  have hW' := hW
  obtain ⟨p, q, hA0, hV, rfl, hfz, hnd⟩ := hW
  have hA : DataW.TrodAll enc Try.prog W 0 (fun _ => true) true Try.f3.params.toList args.toList ds p := hA0
  rw [Try.params3] at hA hval
  obtain ⟨v0, vs0, d0, ds0, p0, q0, hargs, rfl, rfl, h0, r0⟩ := trodAll_cons hA
  obtain ⟨rfl, rfl, rfl⟩ := trodAll_nil r0
  obtain rfl : args = #[v0] := by cases args; simp_all
  obtain ⟨x0, hx0, k0⟩ := trod_v (n := 20) (u := (.int .u16)) (by kernel_rfl) (by kernel_rfl) (hval 0 _ v0 rfl rfl) h0
  obtain ⟨rfl, rfl⟩ := trodVars_none hV
  refine (law_of_told (w := W) (Go.Ab.D.law18_InodeMany_told fuel) (t := x0) (Go.Ab.D.law18_InodeMany_true x0 k0) (.cons (.p _ _ _ hx0) .nil)).mono fun e W' ⟨he, hb⟩ => ?_
  subst he
  exact ⟨_, rfl, Go.Ab.law_post inodeMany_laid Try.underlying4 rfl inodeMany_reads rfl ⟨rfl, rfl, rfl⟩ hW' hb⟩

theorem inodeMany_holds : Rows.InodeManySaid :=
  OpenClaim.holds_of_wide 3 Try.f3 rfl rfl rfl rfl rfl rfl rfl ⟨rfl, rfl, rfl, rfl, rfl⟩ rfl rfl rfl rfl rfl (by kernel_rfl) Try.func3 (by kernel_rfl)
    (of_decide_eq_true (by kernel_rfl)) (by unfold Func.isWrapper; first | (rw [if_pos (by decide +kernel)]; kernel_rfl) | (rw [if_neg (by decide +kernel)]; exact ⟨rfl, rfl⟩))
    (fun os started H enc _ => inodeMany_lifted os started H enc)

end Go.Proofs.Ytdngccokjijgeaa
