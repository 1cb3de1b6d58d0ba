/- BytesEcho: How the sum changes hangs on which bits were turned, and how far from the end they are. For every input that can be read as data, in whatever memory, the call returns true; each argument reads behind it as it read before. -/
import Derived.Test.YtplahfhggnkahaaLawH
import Derived.Test.YtplahfhggnkahaaEcho
namespace Go.Proofs.Ytplahfhggnkahaa
open Go.ChangeShapes Go.WideShapes Go.ChangeAt Go.RowKit

theorem echo_reads : ∀ t ∈ Try.f3.params.toList, Try.prog.readableRec t = true ∧ t < Try.prog.types.size := by
  rw [Try.params3]
  intro t ht
  simp only [List.mem_cons, List.mem_nil_iff, or_false] at ht
  rcases ht with rfl | rfl | rfl
  all_goals exact ⟨by kernel_rfl, of_decide_eq_true (by kernel_rfl)⟩

set_option maxRecDepth 100000 in
theorem echo_lifted (os : Os) (started : os.Started) (H : Type) (enc : TypeId × Value → H) :
    ReturnsInHanded {} Try.checked os 3 .any (Rows.bytesEchoSpec.pre6 enc Try.prog Try.f3 Rows.bytesEchoRow.domain false) (Rows.bytesEchoSpec.post enc Try.prog Try.f3 false true false false) := by
  refine returnsInHanded_of_change (C := Try.checked) own started (by kernel_rfl) Try.func3
    (ChangeSpec.witness6 (enc := enc) (C := Try.checked) false ⟨#[], #[.slice none 0 0, .slice none 0 0, .slice none 0 0], []⟩ 8 (by kernel_rfl) (by kernel_rfl) (by kernel_rfl) (by kernel_rfl)) ?_
  intro W base args ds gs before hval0 hW hcnd _
  have hval : ∀ (j : Nat) t v, Try.f3.params[j]? = some t → args[j]? = some v → Value.okWide Try.prog W .any base t v := hval0
  have hW' := hW
  obtain ⟨p, q, hA0, hV, rfl, hfz, hnd⟩ := hW
  have hA : DataW.TrodAll enc Try.prog W 0 (fun _ => true) true Try.f3.params.toList args.toList ds p := hA0
  rw [Try.params3] at hA hval
  obtain ⟨v0, v1, v2, d0, d1, d2, p0, p1, p2, rfl, rfl, rfl, h0, h1, h2⟩ := trodAll_three hA
  obtain ⟨rfl, rfl⟩ := trodVars_none hV
  obtain ⟨A0, l0, c0, rfl, hc0, hcm0, hnone0, hsl0⟩ := open_bytes (.inr ⟨base, hval 0 22 v0 rfl rfl⟩) h0
  obtain ⟨A1, l1, c1, rfl, hc1, hcm1, hnone1, hsl1⟩ := open_bytes (.inr ⟨base, hval 1 22 v1 rfl rfl⟩) h1
  obtain ⟨A2, l2, c2, rfl, hc2, hcm2, hnone2, hsl2⟩ := open_u16s (.inr ⟨base, hval 2 23 v2 rfl rfl⟩) h2
  refine (echo_any A0 A1 A2 l0 l1 l2 c0 c1 c2 W ⟨by omega, by omega, by omega⟩ hnone0 hnone1 hsl0 hsl1 hsl2).mono fun e W' ⟨he, hb⟩ => ?_
  subst he
  exact ⟨_, rfl, law_post laidOut Try.underlying4 rfl echo_reads rfl ⟨rfl, rfl, rfl⟩ hW' hb⟩

theorem echo_holds : Rows.BytesEchoSaid :=
  OpenClaim.holds_of_wide 3 Try.f3 rfl rfl rfl rfl rfl rfl rfl ⟨rfl, rfl, rfl, rfl, rfl⟩ rfl rfl rfl rfl rfl (by kernel_rfl) Try.func3 (by kernel_rfl)
    (of_decide_eq_true (by kernel_rfl)) (by unfold Func.isWrapper; first | (rw [if_pos (by decide +kernel)]; kernel_rfl) | (rw [if_neg (by decide +kernel)]; exact ⟨rfl, rfl⟩))
    (fun os started H enc _ => echo_lifted os started H enc)

end Go.Proofs.Ytplahfhggnkahaa
