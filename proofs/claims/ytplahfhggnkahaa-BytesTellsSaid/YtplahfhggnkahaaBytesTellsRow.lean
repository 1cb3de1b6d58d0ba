/- BytesTells: BytesTells For every input that can be read as data, in whatever memory, the call returns true; each argument reads behind it as it read before. -/
import Derived.Test.YtplahfhggnkahaaRows
import Derived.Test.YtplahfhggnkahaaBytesTellsD1
import Derived.Test.YtplahfhggnkahaaBytesTellsQ1
import Derived.Test.YtplahfhggnkahaaE4
set_option linter.all false
namespace Go.Proofs.Ytplahfhggnkahaa
open Go.ChangeShapes Go.WideShapes Go.ChangeAt Go.RowKit Go.Ab

theorem bytesTells_own : ownKnob Try.prog.godebug = none := by kernel_rfl
theorem bytesTells_laid : laidOutB Try.prog = true := by kernel_rfl
theorem bytesTells_reads : ∀ t ∈ Try.f8.params.toList, Try.prog.readableRec t = true ∧ t < Try.prog.types.size := by
  rw [Try.params8]
  intro t ht
  simp only [List.mem_cons, List.mem_nil_iff, or_false] at ht
  rcases ht with rfl | rfl | rfl | rfl | rfl
  all_goals exact ⟨by kernel_rfl, of_decide_eq_true (by kernel_rfl)⟩

set_option maxRecDepth 100000 in
theorem bytesTells_lifted (os : Os) (started : os.Started) (H : Type) (enc : TypeId × Value → H) :
    ReturnsInHanded {} Try.checked os 8 .any (Rows.bytesTellsSpec.pre6 enc Try.prog Try.f8 Rows.bytesTellsRow.domain false) (Rows.bytesTellsSpec.post enc Try.prog Try.f8 false true false false) := by
  refine returnsInHanded_of_change (C := Try.checked) bytesTells_own started (by kernel_rfl) Try.func8
    (ChangeSpec.witness6 (enc := enc) (C := Try.checked) false ⟨#[], #[(.int .u64 0), (.slice none 0 0), (.int .i64 0), (.int .i64 0), (.int .u32 0)], []⟩ 8 (by kernel_rfl) (by kernel_rfl) (by kernel_rfl) (by kernel_rfl)) ?_
  intro W base args ds gs before hval0 hW hcnd _
  have hval : ∀ (j : Nat) t v, Try.f8.params[j]? = some t → args[j]? = some v → Value.okWide Try.prog W .any base t v := hval0
  have hW' := hW
  obtain ⟨p, q, hA0, hV, rfl, hfz, hnd⟩ := hW
  have hA : DataW.TrodAll enc Try.prog W 0 (fun _ => true) true Try.f8.params.toList args.toList ds p := hA0
  rw [Try.params8] at hA hval
  obtain ⟨v0, vs0, d0, ds0, p0, q0, hargs, rfl, rfl, h0, r0⟩ := trodAll_cons hA
  obtain ⟨v1, vs1, d1, ds1, p1, q1, rfl, rfl, rfl, h1, r1⟩ := trodAll_cons r0
  obtain ⟨v2, vs2, d2, ds2, p2, q2, rfl, rfl, rfl, h2, r2⟩ := trodAll_cons r1
  obtain ⟨v3, vs3, d3, ds3, p3, q3, rfl, rfl, rfl, h3, r3⟩ := trodAll_cons r2
  obtain ⟨v4, vs4, d4, ds4, p4, q4, rfl, rfl, rfl, h4, r4⟩ := trodAll_cons r3
  obtain ⟨rfl, rfl, rfl⟩ := trodAll_nil r4
  obtain rfl : args = #[v0, v1, v2, v3, v4] := by cases args; simp_all
  obtain ⟨x0, hx0, k0⟩ := trod_v (n := 20) (u := (.int .u64)) (by kernel_rfl) (by kernel_rfl) (hval 0 _ v0 rfl rfl) h0
  obtain ⟨x1, hx1, k1⟩ := trod_v (n := 20) (u := (.sl .byte)) (by kernel_rfl) (by kernel_rfl) (hval 1 _ v1 rfl rfl) h1
  obtain ⟨x2, hx2, k2⟩ := trod_v (n := 20) (u := (.int .i64)) (by kernel_rfl) (by kernel_rfl) (hval 2 _ v2 rfl rfl) h2
  obtain ⟨x3, hx3, k3⟩ := trod_v (n := 20) (u := (.int .i64)) (by kernel_rfl) (by kernel_rfl) (hval 3 _ v3 rfl rfl) h3
  obtain ⟨x4, hx4, k4⟩ := trod_v (n := 20) (u := (.int .u32)) (by kernel_rfl) (by kernel_rfl) (hval 4 _ v4 rfl rfl) h4
  obtain ⟨rfl, rfl⟩ := trodVars_none hV
  refine (law_of_told (w := W) ⟨_, _, Try.func8, rfl, by kernel_rfl⟩ (Go.Ab.D.law01_BytesTells_told fuel) (t := (x0, x1, x2, x3, x4)) (Go.Ab.D.law01_BytesTells_true x0 x1 x2 x3 x4 k0 k1 k2 k3 k4) (.cons (.p _ _ _ hx0) (.cons (.p _ _ _ hx1) (.cons (.p _ _ _ hx2) (.cons (.p _ _ _ hx3) (.cons (.p _ _ _ hx4) .nil)))))).mono fun e W' ⟨he, hb⟩ => ?_
  subst he
  exact ⟨_, rfl, Go.Ab.law_post bytesTells_laid Try.underlying4 rfl bytesTells_reads rfl ⟨rfl, rfl, rfl⟩ hW' hb⟩

theorem bytesTells_holds : Rows.BytesTellsSaid :=
  OpenClaim.holds_of_wide 8 Try.f8 rfl rfl rfl rfl rfl rfl rfl ⟨rfl, rfl, rfl, rfl, rfl⟩ rfl rfl rfl rfl rfl (by kernel_rfl) Try.func8 (by kernel_rfl)
    (of_decide_eq_true (by kernel_rfl)) (by unfold Func.isWrapper; first | (rw [if_pos (by decide +kernel)]; kernel_rfl) | (rw [if_neg (by decide +kernel)]; exact ⟨rfl, rfl⟩))
    (fun os started H enc _ => bytesTells_lifted os started H enc)

end Go.Proofs.Ytplahfhggnkahaa
