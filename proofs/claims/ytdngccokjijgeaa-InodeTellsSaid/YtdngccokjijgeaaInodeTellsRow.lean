/- InodeTells: which tables are right, and what each call makes of a table, as the document defines For every input that can be read as data, in whatever memory, the call returns true; each argument reads behind it as it read before. -/
import Derived.Test.YtdngccokjijgeaaRows
import Derived.Test.YtdngccokjijgeaaInodeTellsD1
import Derived.Test.YtdngccokjijgeaaInodeTellsQ1
import Derived.Test.YtdngccokjijgeaaE4
set_option linter.all false
namespace Go.Proofs.Ytdngccokjijgeaa
open Go.ChangeShapes Go.WideShapes Go.ChangeAt Go.RowKit Go.Ab

theorem inodeTells_own : ownKnob Try.prog.godebug = none := by kernel_rfl
theorem inodeTells_laid : laidOutB Try.prog = true := by kernel_rfl
theorem inodeTells_reads : ∀ t ∈ Try.f4.params.toList, Try.prog.readableRec t = true ∧ t < Try.prog.types.size := by
  rw [Try.params4]
  intro t ht
  simp only [List.mem_cons, List.mem_nil_iff, or_false] at ht
  rcases ht with rfl | rfl
  all_goals exact ⟨by kernel_rfl, of_decide_eq_true (by kernel_rfl)⟩

set_option maxRecDepth 100000 in
theorem inodeTells_lifted (os : Os) (started : os.Started) (H : Type) (enc : TypeId × Value → H) :
    ReturnsInHanded {} Try.checked os 4 .any (Rows.inodeTellsSpec.pre6 enc Try.prog Try.f4 Rows.inodeTellsRow.domain false) (Rows.inodeTellsSpec.post enc Try.prog Try.f4 false true false false) := by
  refine returnsInHanded_of_change (C := Try.checked) inodeTells_own started (by kernel_rfl) Try.func4
    (ChangeSpec.witness6 (enc := enc) (C := Try.checked) false ⟨#[], #[(.agg #[(.slice none 0 0), (.int .i64 0)]), (.agg #[(.int .i64 0), (.int .i64 0), (.int .i64 0), (.bool false), (.int .i64 0), (.slice none 0 0), (.int .i64 0)])], []⟩ 8 (by kernel_rfl) (by kernel_rfl) (by kernel_rfl) (by kernel_rfl)) ?_
  intro W base args ds gs before hval0 hW hcnd _
  have hval : ∀ (j : Nat) t v, Try.f4.params[j]? = some t → args[j]? = some v → Value.okWide Try.prog W .any base t v := hval0
  have hW' := hW
  obtain ⟨p, q, hA0, hV, rfl, hfz, hnd⟩ := hW
  have hA : DataW.TrodAll enc Try.prog W 0 (fun _ => true) true Try.f4.params.toList args.toList ds p := hA0
  rw [Try.params4] at hA hval
  obtain ⟨v0, vs0, d0, ds0, p0, q0, hargs, rfl, rfl, h0, r0⟩ := trodAll_cons hA
  obtain ⟨v1, vs1, d1, ds1, p1, q1, rfl, rfl, rfl, h1, r1⟩ := trodAll_cons r0
  obtain ⟨rfl, rfl, rfl⟩ := trodAll_nil r1
  obtain rfl : args = #[v0, v1] := by cases args; simp_all
  obtain ⟨x0, hx0, k0⟩ := trod_v (n := 20) (u := (.pair (.sl (.pair (.int .i64) (.pair (.int .i64) (.pair .bool (.pair .bool (.pair (.int .i64) (.pair (.sl (.pair (.int .i64) (.int .i64))) (.pair (.int .i64) (.sl (.pair .str (.int .i64))))))))))) (.int .i64))) (by kernel_rfl) (by kernel_rfl) (hval 0 _ v0 rfl rfl) h0
  obtain ⟨x1, hx1, k1⟩ := trod_v (n := 20) (u := (.pair (.pair (.int .i64) (.int .i64)) (.pair (.int .i64) (.pair .bool (.pair (.int .i64) (.pair (.sl (.pair (.int .i64) (.int .i64))) (.int .i64))))))) (by kernel_rfl) (by kernel_rfl) (hval 1 _ v1 rfl rfl) h1
  obtain ⟨rfl, rfl⟩ := trodVars_none hV
  refine (law_of_told (w := W) (Go.Ab.D.law18_InodeTells_told fuel) (t := (x0, x1)) (Go.Ab.D.law18_InodeTells_true x0 x1 k0 k1) (.cons (.p _ _ _ hx0) (.cons (.p _ _ _ hx1) .nil))).mono fun e W' ⟨he, hb⟩ => ?_
  subst he
  exact ⟨_, rfl, Go.Ab.law_post inodeTells_laid Try.underlying4 rfl inodeTells_reads rfl ⟨rfl, rfl, rfl⟩ hW' hb⟩

theorem inodeTells_holds : Rows.InodeTellsSaid :=
  OpenClaim.holds_of_wide 4 Try.f4 rfl rfl rfl rfl rfl rfl rfl ⟨rfl, rfl, rfl, rfl, rfl⟩ rfl rfl rfl rfl rfl (by kernel_rfl) Try.func4 (by kernel_rfl)
    (of_decide_eq_true (by kernel_rfl)) (by unfold Func.isWrapper; first | (rw [if_pos (by decide +kernel)]; kernel_rfl) | (rw [if_neg (by decide +kernel)]; exact ⟨rfl, rfl⟩))
    (fun os started H enc _ => inodeTells_lifted os started H enc)

end Go.Proofs.Ytdngccokjijgeaa
