/- SaveCuts: Of the bytes of a state, or a change, cut anywhere, and with a byte more, nothing is read. For every input that can be read as data, in whatever memory, the call returns true; each argument reads behind it as it read before. -/
import Derived.Test.YtblocgeildejaaaGreatRows
import Derived.Test.YtblocgeildejaaaGreatSaveCutsD3
import Derived.Test.YtblocgeildejaaaGreatSaveCutsQ2
import Derived.Test.YtblocgeildejaaaGreatE4
set_option linter.all false
namespace Go.Proofs.YtblocgeildejaaaGreat
open Go.ChangeShapes Go.WideShapes Go.ChangeAt Go.RowKit Go.Ab

theorem saveCuts_own : ownKnob Tryz.prog.godebug = none := by kernel_rfl
theorem saveCuts_laid : laidOutB Tryz.prog = true := by kernel_rfl
theorem saveCuts_reads : ∀ t ∈ Tryz.f4.params.toList, Tryz.prog.readableRec t = true ∧ t < Tryz.prog.types.size := by
  rw [Tryz.params4]
  intro t ht
  simp only [List.mem_cons, List.mem_nil_iff, or_false] at ht
  rcases ht with rfl | rfl | rfl
  all_goals exact ⟨by kernel_rfl, of_decide_eq_true (by kernel_rfl)⟩

set_option maxRecDepth 100000 in
theorem saveCuts_lifted (os : Os) (started : os.Started) (H : Type) (enc : TypeId × Value → H) :
    ReturnsInHanded {} Tryz.checked os 4 .any (Rows.saveCutsSpec.pre6 enc Tryz.prog Tryz.f4 Rows.saveCutsRow.domain false) (Rows.saveCutsSpec.post enc Tryz.prog Tryz.f4 false true false false) := by
  refine returnsInHanded_of_change (C := Tryz.checked) saveCuts_own started (by kernel_rfl) Tryz.func4
    (ChangeSpec.witness6 (enc := enc) (C := Tryz.checked) false ⟨#[], #[(.agg #[(.int .i64 0), (.slice none 0 0), (.int .i64 0), (.int .i64 0), (.slice none 0 0), (.slice none 0 0), (.slice none 0 0)]), (.agg #[(.int .i64 0), (.int .i64 0), (.int .i64 0), (.int .i64 0), (.int .u8 0), (.int .i64 0), (.int .i64 0), (.string ⟨#[]⟩), (.int .i64 0), (.int .i64 0), (.string ⟨#[]⟩), (.int .i64 0), (.int .i64 0), (.slice none 0 0), (.slice none 0 0), (.int .i64 0), (.int .i64 0), (.int .i64 0)]), (.agg #[(.int .i64 0), (.int .u8 0)])], []⟩ 8 (by kernel_rfl) (by kernel_rfl) (by kernel_rfl) (by kernel_rfl)) ?_
  intro W base args ds gs before hval0 hW hcnd _
  have hval : ∀ (j : Nat) t v, Tryz.f4.params[j]? = some t → args[j]? = some v → Value.okWide Tryz.prog W .any base t v := hval0
  have hW' := hW
  obtain ⟨p, q, hA0, hV, rfl, hfz, hnd⟩ := hW
  have hA : DataW.TrodAll enc Tryz.prog W 0 (fun _ => true) true Tryz.f4.params.toList args.toList ds p := hA0
  rw [Tryz.params4] at hA hval
  obtain ⟨v0, vs0, d0, ds0, p0, q0, hargs, rfl, rfl, h0, r0⟩ := trodAll_cons hA
  obtain ⟨v1, vs1, d1, ds1, p1, q1, rfl, rfl, rfl, h1, r1⟩ := trodAll_cons r0
  obtain ⟨v2, vs2, d2, ds2, p2, q2, rfl, rfl, rfl, h2, r2⟩ := trodAll_cons r1
  obtain ⟨rfl, rfl, rfl⟩ := trodAll_nil r2
  obtain rfl : args = #[v0, v1, v2] := by cases args; simp_all
  obtain ⟨x0, hx0, k0⟩ := trod_v (n := 20) (u := (.pair (.int .i64) (.pair (.pair (.sl (.pair (.int .i64) (.pair (.int .i64) (.pair .bool (.pair .bool (.pair (.int .i64) (.pair (.sl (.pair (.int .i64) (.int .i64))) (.pair (.int .i64) (.sl (.pair .str (.int .i64))))))))))) (.int .i64)) (.pair (.pair (.int .i64) (.sl (.pair (.int .i64) (.pair (.int .i64) (.sl (.pair (.int .i64) (.pair (.int .i64) (.pair (.int .i64) (.pair (.pair (.int .i64) (.int .i64)) (.pair .bool (.pair (.int .i64) (.pair (.sl .byte) (.pair (.sl (.pair .str (.int .i64))) (.pair .bool (.int .i64))))))))))))))) (.pair (.sl (.pair (.int .i64) (.sl (.int .i64)))) (.sl (.pair (.int .i64) (.int .i64)))))))) (by kernel_rfl) (by kernel_rfl) (hval 0 _ v0 rfl rfl) h0
  obtain ⟨x1, hx1, k1⟩ := trod_v (n := 20) (u := (.pair (.int .i64) (.pair (.int .i64) (.pair (.pair (.int .i64) (.pair (.int .i64) (.pair .byte (.pair (.pair (.int .i64) (.int .i64)) (.pair .str (.pair (.pair (.int .i64) (.int .i64)) (.pair .str (.pair (.int .i64) (.pair (.int .i64) (.sl .byte)))))))))) (.pair (.sl (.int .i64)) (.pair (.int .i64) (.pair (.int .i64) (.int .i64)))))))) (by kernel_rfl) (by kernel_rfl) (hval 1 _ v1 rfl rfl) h1
  obtain ⟨x2, hx2, k2⟩ := trod_v (n := 20) (u := (.pair (.int .i64) .byte)) (by kernel_rfl) (by kernel_rfl) (hval 2 _ v2 rfl rfl) h2
  obtain ⟨rfl, rfl⟩ := trodVars_none hV
  refine (law_of_told (w := W) ⟨_, _, Tryz.func4, rfl, by kernel_rfl⟩ (Go.Ab.D.law26_SaveCuts_told fuel) (t := (x0, x1, x2)) (Go.Ab.D.law26_SaveCuts_true x0 x1 x2 k0 k1 k2) (.cons (.p _ _ _ hx0) (.cons (.p _ _ _ hx1) (.cons (.p _ _ _ hx2) .nil)))).mono fun e W' ⟨he, hb⟩ => ?_
  subst he
  exact ⟨_, rfl, Go.Ab.law_post saveCuts_laid Tryz.underlying4 rfl saveCuts_reads rfl ⟨rfl, rfl, rfl⟩ hW' hb⟩

theorem saveCuts_holds : Rows.SaveCutsSaid :=
  OpenClaim.holds_of_wide 4 Tryz.f4 rfl rfl rfl rfl rfl rfl rfl ⟨rfl, rfl, rfl, rfl, rfl⟩ rfl rfl rfl rfl rfl (by kernel_rfl) Tryz.func4 (by kernel_rfl)
    (of_decide_eq_true (by kernel_rfl)) (by unfold Func.isWrapper; first | (rw [if_pos (by decide +kernel)]; kernel_rfl) | (rw [if_neg (by decide +kernel)]; exact ⟨rfl, rfl⟩))
    (fun os started H enc _ => saveCuts_lifted os started H enc)

end Go.Proofs.YtblocgeildejaaaGreat
