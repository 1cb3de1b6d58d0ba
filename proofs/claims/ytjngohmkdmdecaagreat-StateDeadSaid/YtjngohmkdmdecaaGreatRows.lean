/-
  No cell of these rows narrows 'for every input' (looked for: loops, veiled, ifaces, maps, wideKeys, modest, calm, conditions, laid).
  DERIVED. THE GIVEN ROWS OF THIS SEAT. 4 by the template 'for every input the law returns true; each argument reads behind the call as it read before'; 0 by the template 'total and deterministic' (their statements: YtjngohmkdmdecaaGreatTotals.lean).
  GIVEN WITH THE SEED: the statements are not yours to turn. If you find one false, say at which input.
  Laid BY PROGRAM, IN A SANDBOX (cutbox-rows.mjs): the forced cells as the released guide's own fill.sh prints them over the translation 653eb76777119b76… (all of the seat's roots in one cut). By AI agents, Wed Nov 11 2026. No macro, syntax, notation, axiom, sorry.
-/
import Derived.Test.YtjngohmkdmdecaaGreatChecked
import GoSem.Claim
import GoSem.ClaimJoined
import GoSem.ClaimMapViews
import Derived.JoinedTies
import Derived.KernelRfl
namespace Go.Proofs.YtjngohmkdmdecaaGreat
/- THE CELL 'sum', in the pinned program and in every row, IS THE sha256 OF THE DUMP (.gsa) THAT YtjngohmkdmdecaaGreatProg.lean LOADS. Nothing in Lean hashes anything: it is a label: what it is worth is what the hold of that sum in a sandbox is worth. -/
noncomputable def Tryz.pinned : Pinned := { name := "ytjngohmkdmdecaagreat", sum := "653eb76777119b760d44518041d24153abd950057cffb6873b14189e50852539", checked := Tryz.checked }
namespace Rows
def none {H : Type} : Left H := { results := [], args := [] }

/-- 'cooperagelaw25.StateModel': WHATEVER THE INPUT: true; the input reads as it did. -/
def stateModelSpec : ChangeSpec := { name := "stateModel", fn := fun _ => fun
  | [d1, d2] => { results := [.lit (.bool true)], args := [d1, d2] }
  | _ => none }
def stateModelRow : OpenClaim := { program := "ytjngohmkdmdecaagreat", sum := "653eb76777119b760d44518041d24153abd950057cffb6873b14189e50852539", func := "cooperage/cooperagelaw25.StateModel", spec := "stateModel", inPlace := ["internal/bytealg.IndexByteString", "internal/bytealg.IndexString", "internal/bytealg.abigen_runtime_cmpstring", "slices.overlaps[cooperage/api.Entry]", "slices.overlaps[cooperage/api.Kept]", "slices.overlaps[cooperage/api.Reply]"], unfollowed := true, recurses := true, named := ["internal/bytealg.MaxLen"], plainKeys := false, apart := false }
def StateModelSaid : Prop := stateModelRow.holds Tryz.pinned (OpenSpec.ofChange stateModelSpec)

/-- ITS FALSE NEIGHBOUR: 'it returns false'. Refute it at one input. -/
def stateModelWrong : ChangeSpec := { name := "stateModel", fn := fun _ => fun
  | [d1, d2] => { results := [.lit (.bool false)], args := [d1, d2] }
  | _ => none }
def StateModelWrongFalsely : Prop := stateModelRow.holds Tryz.pinned (OpenSpec.ofChange stateModelWrong)

/-- 'cooperagelaw25.StateFails': WHATEVER THE INPUT: true; the input reads as it did. -/
def stateFailsSpec : ChangeSpec := { name := "stateFails", fn := fun _ => fun
  | [d1, d2] => { results := [.lit (.bool true)], args := [d1, d2] }
  | _ => none }
def stateFailsRow : OpenClaim := { program := "ytjngohmkdmdecaagreat", sum := "653eb76777119b760d44518041d24153abd950057cffb6873b14189e50852539", func := "cooperage/cooperagelaw25.StateFails", spec := "stateFails", inPlace := ["internal/bytealg.IndexByteString", "internal/bytealg.IndexString", "internal/bytealg.abigen_runtime_cmpstring", "slices.overlaps[cooperage/api.Entry]", "slices.overlaps[cooperage/api.Kept]", "slices.overlaps[cooperage/api.Reply]"], unfollowed := true, recurses := true, named := ["internal/bytealg.MaxLen"], plainKeys := false, apart := false }
def StateFailsSaid : Prop := stateFailsRow.holds Tryz.pinned (OpenSpec.ofChange stateFailsSpec)

/-- ITS FALSE NEIGHBOUR: 'it returns false'. Refute it at one input. -/
def stateFailsWrong : ChangeSpec := { name := "stateFails", fn := fun _ => fun
  | [d1, d2] => { results := [.lit (.bool false)], args := [d1, d2] }
  | _ => none }
def StateFailsWrongFalsely : Prop := stateFailsRow.holds Tryz.pinned (OpenSpec.ofChange stateFailsWrong)

/-- 'cooperagelaw25.StateSizes': WHATEVER THE INPUT: true; the input reads as it did. -/
def stateSizesSpec : ChangeSpec := { name := "stateSizes", fn := fun _ => fun
  | [d1, d2, d3] => { results := [.lit (.bool true)], args := [d1, d2, d3] }
  | _ => none }
def stateSizesRow : OpenClaim := { program := "ytjngohmkdmdecaagreat", sum := "653eb76777119b760d44518041d24153abd950057cffb6873b14189e50852539", func := "cooperage/cooperagelaw25.StateSizes", spec := "stateSizes", inPlace := ["internal/bytealg.IndexByteString", "internal/bytealg.IndexString", "internal/bytealg.abigen_runtime_cmpstring", "slices.overlaps[cooperage/api.Entry]", "slices.overlaps[cooperage/api.Kept]", "slices.overlaps[cooperage/api.Reply]"], unfollowed := true, recurses := true, named := ["internal/bytealg.MaxLen"], plainKeys := false, apart := false }
def StateSizesSaid : Prop := stateSizesRow.holds Tryz.pinned (OpenSpec.ofChange stateSizesSpec)

/-- ITS FALSE NEIGHBOUR: 'it returns false'. Refute it at one input. -/
def stateSizesWrong : ChangeSpec := { name := "stateSizes", fn := fun _ => fun
  | [d1, d2, d3] => { results := [.lit (.bool false)], args := [d1, d2, d3] }
  | _ => none }
def StateSizesWrongFalsely : Prop := stateSizesRow.holds Tryz.pinned (OpenSpec.ofChange stateSizesWrong)

/-- 'cooperagelaw25.StateDead': WHATEVER THE INPUT: true; the input reads as it did. -/
def stateDeadSpec : ChangeSpec := { name := "stateDead", fn := fun _ => fun
  | [d1, d2] => { results := [.lit (.bool true)], args := [d1, d2] }
  | _ => none }
def stateDeadRow : OpenClaim := { program := "ytjngohmkdmdecaagreat", sum := "653eb76777119b760d44518041d24153abd950057cffb6873b14189e50852539", func := "cooperage/cooperagelaw25.StateDead", spec := "stateDead", inPlace := ["internal/bytealg.IndexByteString", "internal/bytealg.IndexString", "internal/bytealg.abigen_runtime_cmpstring", "slices.overlaps[cooperage/api.Entry]", "slices.overlaps[cooperage/api.Kept]", "slices.overlaps[cooperage/api.Reply]"], unfollowed := true, recurses := true, named := ["internal/bytealg.MaxLen"], plainKeys := false, apart := false }
def StateDeadSaid : Prop := stateDeadRow.holds Tryz.pinned (OpenSpec.ofChange stateDeadSpec)

/-- ITS FALSE NEIGHBOUR: 'it returns false'. Refute it at one input. -/
def stateDeadWrong : ChangeSpec := { name := "stateDead", fn := fun _ => fun
  | [d1, d2] => { results := [.lit (.bool false)], args := [d1, d2] }
  | _ => none }
def StateDeadWrongFalsely : Prop := stateDeadRow.holds Tryz.pinned (OpenSpec.ofChange stateDeadWrong)

/- THE SECOND FORM. 'bulk': how many values and letters a reading holds, each counted each time it is reached (what is shared counts as often as it is met; a slice's spare places count too). A statement '..UptoSaid' is the law's where the arguments, and the package variables that the reading takes, are together of bulk at most 1048576: NARROWER than '..Said'. Prove '..Said' where nothing that the law and all that it calls make is longer than what came in: it says more and counts as full. Else prove '..UptoSaid'. A law counts once. -/
mutual
def uptoBulk {H : Type} : DataW H → Nat
  | .lit (.string bytes) => bytes.length + 1
  | .lit _ => 1
  | .nil => 1
  | .ptr d => uptoBulk d + 1
  | .slice elems spare => uptoBulkAll elems + uptoBulkAll spare + 1
  | .agg parts => uptoBulkAll parts + 1
  | .iface _ d => uptoBulk d + 1
  | .map entries => uptoBulkEntries entries + 1
  | .held _ => 1
def uptoBulkAll {H : Type} : List (DataW H) → Nat
  | [] => 0
  | d :: r => uptoBulk d + uptoBulkAll r
def uptoBulkEntries {H : Type} : List (Lit × DataW H) → Nat
  | [] => 0
  | x :: r => uptoBulkEntry x + uptoBulkEntries r
def uptoBulkEntry {H : Type} : Lit × DataW H → Nat
  | (.string bytes, d) => bytes.length + uptoBulk d + 1
  | (_, d) => uptoBulk d + 1
 end
def uptoSmall : (H : Type) → List (DataW H) → Bool := fun _ ds => decide (uptoBulkAll ds ≤ 1048576)
def OpenSpec.upto (s : _root_.Go.ChangeSpec) : _root_.Go.OpenSpec := { _root_.Go.OpenSpec.ofChange s with cond := some uptoSmall }

/-- 'cooperagelaw25.StateModel', WHERE WHAT IT READS IS OF BULK AT MOST 1048576: true; the input reads as it did. -/
def stateModelUptoRow : OpenClaim := { program := "ytjngohmkdmdecaagreat", sum := "653eb76777119b760d44518041d24153abd950057cffb6873b14189e50852539", func := "cooperage/cooperagelaw25.StateModel", spec := "stateModel", inPlace := ["internal/bytealg.IndexByteString", "internal/bytealg.IndexString", "internal/bytealg.abigen_runtime_cmpstring", "slices.overlaps[cooperage/api.Entry]", "slices.overlaps[cooperage/api.Kept]", "slices.overlaps[cooperage/api.Reply]"], unfollowed := true, recurses := true, named := ["internal/bytealg.MaxLen"], plainKeys := false, apart := false, narrowed := true }
def StateModelUptoSaid : Prop := stateModelUptoRow.holds Tryz.pinned (OpenSpec.upto stateModelSpec)

/-- 'cooperagelaw25.StateFails', WHERE WHAT IT READS IS OF BULK AT MOST 1048576: true; the input reads as it did. -/
def stateFailsUptoRow : OpenClaim := { program := "ytjngohmkdmdecaagreat", sum := "653eb76777119b760d44518041d24153abd950057cffb6873b14189e50852539", func := "cooperage/cooperagelaw25.StateFails", spec := "stateFails", inPlace := ["internal/bytealg.IndexByteString", "internal/bytealg.IndexString", "internal/bytealg.abigen_runtime_cmpstring", "slices.overlaps[cooperage/api.Entry]", "slices.overlaps[cooperage/api.Kept]", "slices.overlaps[cooperage/api.Reply]"], unfollowed := true, recurses := true, named := ["internal/bytealg.MaxLen"], plainKeys := false, apart := false, narrowed := true }
def StateFailsUptoSaid : Prop := stateFailsUptoRow.holds Tryz.pinned (OpenSpec.upto stateFailsSpec)

/-- 'cooperagelaw25.StateSizes', WHERE WHAT IT READS IS OF BULK AT MOST 1048576: true; the input reads as it did. -/
def stateSizesUptoRow : OpenClaim := { program := "ytjngohmkdmdecaagreat", sum := "653eb76777119b760d44518041d24153abd950057cffb6873b14189e50852539", func := "cooperage/cooperagelaw25.StateSizes", spec := "stateSizes", inPlace := ["internal/bytealg.IndexByteString", "internal/bytealg.IndexString", "internal/bytealg.abigen_runtime_cmpstring", "slices.overlaps[cooperage/api.Entry]", "slices.overlaps[cooperage/api.Kept]", "slices.overlaps[cooperage/api.Reply]"], unfollowed := true, recurses := true, named := ["internal/bytealg.MaxLen"], plainKeys := false, apart := false, narrowed := true }
def StateSizesUptoSaid : Prop := stateSizesUptoRow.holds Tryz.pinned (OpenSpec.upto stateSizesSpec)

/-- 'cooperagelaw25.StateDead', WHERE WHAT IT READS IS OF BULK AT MOST 1048576: true; the input reads as it did. -/
def stateDeadUptoRow : OpenClaim := { program := "ytjngohmkdmdecaagreat", sum := "653eb76777119b760d44518041d24153abd950057cffb6873b14189e50852539", func := "cooperage/cooperagelaw25.StateDead", spec := "stateDead", inPlace := ["internal/bytealg.IndexByteString", "internal/bytealg.IndexString", "internal/bytealg.abigen_runtime_cmpstring", "slices.overlaps[cooperage/api.Entry]", "slices.overlaps[cooperage/api.Kept]", "slices.overlaps[cooperage/api.Reply]"], unfollowed := true, recurses := true, named := ["internal/bytealg.MaxLen"], plainKeys := false, apart := false, narrowed := true }
def StateDeadUptoSaid : Prop := stateDeadUptoRow.holds Tryz.pinned (OpenSpec.upto stateDeadSpec)

end Rows
end Go.Proofs.YtjngohmkdmdecaaGreat
