/- StateHoles: A file that is written far behind its end has holes between, and takes no stripe for them; one that is only made longer takes none at all. For every input that can be read as data, in whatever memory, where the package's variable 'cooperage/cooperagelaw25.root' reads as the program's text lays it (the card ties that), the call returns true; each argument reads behind it as it read before. -/
import Derived.Test.YtcfchfhdaggmpaaGreatDoorRows
import Derived.Test.YtcfchfhdaggmpaaGreatDoorCards
import Derived.Test.YtcfchfhdaggmpaaGreatDoorTie
import Derived.Test.YtcfchfhdaggmpaaGreatDoorStateHolesD4
import Derived.Test.YtcfchfhdaggmpaaGreatDoorStateHolesQ3
import Derived.Test.YtcfchfhdaggmpaaGreatDoorE4
import Derived.ProofKit
import Derived.LaidMore
import Derived.OpenShut
import Derived.ChangeSame
import Derived.Stop.Joined
set_option linter.all false
namespace Go.Proofs.YtcfchfhdaggmpaaGreatDoor
open Go Go.ChangeShapes Go.WideShapes Go.ChangeAt Go.RowKit Go.Ab

theorem stateHoles_own : ownKnob Tryz.prog.godebug = none := by kernel_rfl
theorem stateHoles_laid : laidOutB Tryz.prog = true := by kernel_rfl
theorem stateHoles_reads : ∀ t ∈ Tryz.f3.params.toList, Tryz.prog.readableRec t = true ∧ t < Tryz.prog.types.size := by
  rw [Tryz.params3]
  intro t ht
  simp only [List.mem_cons, List.mem_nil_iff, or_false] at ht
  rcases ht with rfl | rfl | rfl | rfl
  all_goals exact ⟨by kernel_rfl, of_decide_eq_true (by kernel_rfl)⟩
def stateHoles_vars : List (String × DataW Unit) := [("cooperage/cooperagelaw25.root", Rows.laid_cooperage_cooperagelaw25_root)]
theorem stateHoles_door (os : Os) (args : Array Value) : laidMetH Tryz.prog stateHoles_vars ((World.doorLaid Tryz.prog 400 os).forCall (fun _ _ => 0) ⟨#[], args, []⟩).memory :=
  laidMetH_of_parts3 (fuel := 8) (laidMet_of_run' 8 (by kernel_rfl) (by kernel_rfl)) (by kernel_rfl) (by kernel_rfl)
theorem stateHoles_glob : Tryz.prog.globalNamed "cooperage/cooperagelaw25.root" = some 0 := by kernel_rfl
theorem stateHoles_type : (Tryz.prog.globals[0]?).map (·.type) = some 39 := by kernel_rfl
theorem stateHoles_shape : (match Tryz.prog.underlying 39 with | some (.struct fs) => fs.toList.map (fun f => (f.type, f.offset)) | _ => []) = [(3, 0), (3, 1)] := by kernel_rfl
theorem stateHoles_two {fs : Array Field} {a b c d : Nat} (h : fs.toList.map (fun f => (f.type, f.offset)) = [(a, b), (c, d)]) : ∃ f0 f1, fs = #[f0, f1] ∧ f0.type = a ∧ f0.offset = b ∧ f1.type = c ∧ f1.offset = d := by
  obtain ⟨l⟩ := fs
  match l with
  | [f0, f1] =>
    simp only [List.map_cons, List.map_nil, List.cons.injEq, Prod.mk.injEq, and_true] at h
    exact ⟨f0, f1, rfl, h.1.1, h.1.2, h.2.1, h.2.2⟩
  | [] => simp at h
  | [_] => simp at h
  | _ :: _ :: _ :: _ => simp at h
theorem stateHoles_cells {W : World} (h : laidMetH Tryz.prog stateHoles_vars W) : W.cell? ⟨0, 0, none⟩ = some (.int .i64 1) ∧ W.cell? ⟨0, 1, none⟩ = some (.int .i64 1) := by
  rw [MakeChecks.laidMetH_plain _ _ _ (by kernel_rfl)] at h
  obtain ⟨ps, ⟨g0, t0, cs0, f0, p0, q0, hg0, ht0, hv0, hd0, _, _⟩, _, _⟩ := h
  obtain rfl := Option.some.inj (stateHoles_glob.symm.trans hg0)
  obtain rfl := Option.some.inj (stateHoles_type.symm.trans ht0)
  have hsh := stateHoles_shape
  split at hsh
  · rename_i fs hu
    obtain ⟨f0, f1, rfl, e1, e2, e3, e4⟩ := stateHoles_two hsh
    obtain ⟨y0, y1, m, hx, hl, k0, k1⟩ := trod_struct2 hu hd0
    rw [e1, e2] at k0
    rw [e3, e4] at k1
    obtain ⟨z0, a1, a2, _⟩ := DataW.trod_int (k := .i64) (by kernel_rfl) k0
    obtain ⟨z1, b1, b2, _⟩ := DataW.trod_int (k := .i64) (by kernel_rfl) k1
    have hx1 : (DataW.agg [.lit (.int .i64 1), .lit (.int .i64 1)] : DataW Unit) = .agg [.lit (.int .i64 z0), .lit (.int .i64 z1)] := by
      have := congrArg Prod.fst hx
      rw [a2, b2] at this
      exact this
    clear hx hd0 k0 k1 hu
    cases hx1
    have c3 : Tryz.prog.cellsOf 3 = 1 := by kernel_rfl
    rw [c3] at a1 b1
    have w0 := World.var?_cell hg0 hv0 0
    have w1 := World.var?_cell hg0 hv0 1
    obtain ⟨l⟩ := cs0
    match l, a1, b1 with
    | x :: y :: _, a1, b1 =>
      simp at a1 b1
      subst a1 b1
      exact ⟨by simpa using w0, by simpa using w1⟩
    | [x], a1, b1 => simp at b1
    | [], a1, b1 => simp at a1
  · cases hsh

set_option maxRecDepth 100000 in
theorem stateHoles_lifted (os : Os) (started : os.Started) (H : Type) (enc : TypeId × Value → H) :
    ReturnsInHanded {} Tryz.checked os 3 .any (fun w args => (Rows.stateHolesSpec.pre enc Tryz.prog Tryz.f3 [] false w args ∧ laidMetH Tryz.prog stateHoles_vars w) ∧ sizedMet enc Tryz.prog Tryz.f3 (OpenSpec.ofChange Rows.stateHolesSpec) false w args)
      (Rows.stateHolesSpec.post enc Tryz.prog Tryz.f3 false true false false) := by
  refine returnsInHanded_of_change_and (C := Tryz.checked) (X := fun w _ => laidMetH Tryz.prog stateHoles_vars w) (fun _ _ _ hh h => h.of_heap hh) stateHoles_own started (by kernel_rfl) Tryz.func3
    (ChangeSpec.witness_shaped (enc := enc) (C := Tryz.checked) (os := os) (X := fun w _ => laidMetH Tryz.prog stateHoles_vars w) false (World.doorLaid Tryz.prog 400 os) #[(.int .i64 0), (.int .u16 0), (.int .u16 0), (.int .u16 0)] 8 rfl (World.shaped_of_RefB (by kernel_rfl) (by kernel_rfl)) (by kernel_rfl) (by kernel_rfl) (by kernel_rfl) (stateHoles_door os _)) ?_
  intro W base args ds gs before hval0 hW _ _ hL _
  have hval : ∀ (j : Nat) t v, Tryz.f3.params[j]? = some t → args[j]? = some v → Value.okWide Tryz.prog W .any base t v := hval0
  have hW' := hW
  obtain ⟨p, q, hA0, hV, rfl, hfz, hnd⟩ := hW
  have hA : DataW.TrodAll enc Tryz.prog W 0 (fun _ => true) true Tryz.f3.params.toList args.toList ds p := hA0
  rw [Tryz.params3] at hA hval
  obtain ⟨v0, vs0, d0, ds0, p0, q0, hargs, rfl, rfl, h0, r0⟩ := trodAll_cons hA
  obtain ⟨v1, vs1, d1, ds1, p1, q1, rfl, rfl, rfl, h1, r1⟩ := trodAll_cons r0
  obtain ⟨v2, vs2, d2, ds2, p2, q2, rfl, rfl, rfl, h2, r2⟩ := trodAll_cons r1
  obtain ⟨v3, vs3, d3, ds3, p3, q3, rfl, rfl, rfl, h3, r3⟩ := trodAll_cons r2
  obtain ⟨rfl, rfl, rfl⟩ := trodAll_nil r3
  obtain rfl : args = #[v0, v1, v2, v3] := by cases args; simp_all
  obtain ⟨x0, hx0, k0⟩ := trod_v (n := 20) (u := (.int .i64)) (by kernel_rfl) (by kernel_rfl) (hval 0 _ v0 rfl rfl) h0
  obtain ⟨x1, hx1, k1⟩ := trod_v (n := 20) (u := (.int .u16)) (by kernel_rfl) (by kernel_rfl) (hval 1 _ v1 rfl rfl) h1
  obtain ⟨x2, hx2, k2⟩ := trod_v (n := 20) (u := (.int .u16)) (by kernel_rfl) (by kernel_rfl) (hval 2 _ v2 rfl rfl) h2
  obtain ⟨x3, hx3, k3⟩ := trod_v (n := 20) (u := (.int .u16)) (by kernel_rfl) (by kernel_rfl) (hval 3 _ v3 rfl rfl) h3
  obtain ⟨rfl, rfl⟩ := trodVars_none hV
  have hc := stateHoles_cells hL
  refine (law_of_toldG (w := W) (g := 0) (Go.Ab.D.law25_StateHoles_told fuel) (t := ([(1, 1)], x0, x1, x2, x3)) (Go.Ab.D.law25_StateHoles_true x0 x1 x2 x3 k0 k1 k2 k3) (.cons (var2_rep hc.1 hc.2) (.cons (.p _ _ _ hx0) (.cons (.p _ _ _ hx1) (.cons (.p _ _ _ hx2) (.cons (.p _ _ _ hx3) .nil)))))).mono fun e W' ⟨he, hb⟩ => ?_
  subst he
  exact ⟨_, rfl, Go.Ab.law_post stateHoles_laid Tryz.underlying4 rfl stateHoles_reads rfl ⟨rfl, rfl, rfl⟩ hW' hb⟩

theorem stateHoles_row : Rows.StateHolesSaid :=
  OpenClaim.holds_of_wide 3 Tryz.f3 rfl rfl rfl rfl rfl rfl rfl ⟨rfl, rfl, rfl, rfl, rfl⟩ rfl rfl rfl rfl rfl (by kernel_rfl) Tryz.func3 (by kernel_rfl)
    (of_decide_eq_true (by kernel_rfl)) (by unfold Func.isWrapper; first | (rw [if_pos (by decide +kernel)]; kernel_rfl) | (rw [if_neg (by decide +kernel)]; exact ⟨rfl, rfl⟩))
    (fun os started H enc _ => stateHoles_lifted os started H enc)
/-- The tied card. -/
theorem stateHoles_holds : Rows.StateHolesCardSaid :=
  Claim7.holds_tied_plain_at .later [] [.data] true (true, "a6d9802d9002b47ed7d69cd5e45cade6d38fc77cba735c4422a0899c775f7305") false
    stateHoles_row (fun _ h => by cases h) (by kernel_rfl) (fun _ h => by cases h) stateHoles_row_tie rfl ⟨rfl, rfl⟩ (by kernel_rfl) rfl
    (fun f fn hf hfn => by
      obtain rfl : f = 3 := Option.some.inj ((show Tryz.prog.funcNamed "cooperage/cooperagelaw25.StateHoles" = some 3 by kernel_rfl).symm.trans hf) |>.symm
      obtain rfl : fn = Tryz.f3 := (Option.some.inj (Tryz.func3.symm.trans hfn)).symm
      refine ⟨by kernel_rfl, fun j t ht => ?_⟩
      rw [Tryz.params3] at ht
      have hm : t ∈ [3, 22, 22, 22] := by
        have := Array.mem_of_getElem? ht
        simpa using this
      simp only [List.mem_cons, List.mem_nil_iff, or_false] at hm
      rcases hm with rfl | rfl | rfl | rfl <;> (show _ = false; kernel_rfl))
    (by kernel_rfl)

end Go.Proofs.YtcfchfhdaggmpaaGreatDoor
