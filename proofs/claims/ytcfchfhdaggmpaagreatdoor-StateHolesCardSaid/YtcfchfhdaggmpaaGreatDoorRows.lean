/-
  NARROWER THAN 'FOR EVERY INPUT', by the rows' own cells (each row's printed sentence says how): StateHoles: laid.
  DERIVED. THE GIVEN ROWS OF THIS SEAT. 1 by the template 'for every input the law returns true; each argument reads behind the call as it read before'; 0 by the template 'total and deterministic' (their statements: YtcfchfhdaggmpaaGreatDoorTotals.lean).
  GIVEN WITH THE SEED: the statements are not yours to turn. If you find one false, say at which input.
  Laid BY PROGRAM, IN A SANDBOX (cutbox-rows.mjs): the forced cells as the released guide's own fill.sh prints them over the translation 4ad2f988fa0b8a14… (all of the seat's roots in one cut). By AI agents, Wed Nov 11 2026. No macro, syntax, notation, axiom, sorry.
-/
import Derived.Test.YtcfchfhdaggmpaaGreatDoorChecked
import GoSem.Claim
import GoSem.ClaimJoined
import GoSem.ClaimMapViews
import Derived.JoinedTies
import Derived.KernelRfl
namespace Go.Proofs.YtcfchfhdaggmpaaGreatDoor
/- THE CELL 'sum', in the pinned program and in every row, IS THE sha256 OF THE DUMP (.gsa) THAT YtcfchfhdaggmpaaGreatDoorProg.lean LOADS. Nothing in Lean hashes anything: it is a label: what it is worth is what the hold of that sum in a sandbox is worth. -/
noncomputable def Tryz.pinned : Pinned := { name := "ytcfchfhdaggmpaagreatdoor", sum := "4ad2f988fa0b8a14ccd85584bf1a5bb9a8bf4d6cca471d5724e578baad7dd46f", checked := Tryz.checked }
namespace Rows
def none {H : Type} : Left H := { results := [], args := [] }

/- WHAT THE LISTED PACKAGE-LEVEL VARIABLES READ AS WHEN THE CALL BEGINS. Each datum BY PROGRAM (the guide's laid-datum.mjs) off the statement by which the dump's own 'gosem.cut.vars' lays the variable. In a bare row this is a premise. The card (YtcfchfhdaggmpaaGreatDoorCards.lean) ties it to the program's text. -/
def laid_cooperage_cooperagelaw25_root {H : Type} : DataW H := .agg [.lit (.int .i64 1), .lit (.int .i64 1)]

/-- 'cooperagelaw25.StateHoles': WHATEVER THE INPUT: true; the input reads as it did. -/
def stateHolesSpec : ChangeSpec := { name := "stateHoles", fn := fun _ => fun
  | [d1, d2, d3, d4] => { results := [.lit (.bool true)], args := [d1, d2, d3, d4] }
  | _ => none }
def stateHolesRow : OpenClaim := { program := "ytcfchfhdaggmpaagreatdoor", sum := "4ad2f988fa0b8a14ccd85584bf1a5bb9a8bf4d6cca471d5724e578baad7dd46f", func := "cooperage/cooperagelaw25.StateHoles", spec := "stateHoles", inPlace := ["internal/bytealg.IndexByteString", "internal/bytealg.IndexString", "internal/bytealg.abigen_runtime_cmpstring", "slices.overlaps[cooperage/api.Entry]", "slices.overlaps[cooperage/api.Kept]", "slices.overlaps[cooperage/api.Reply]"], unfollowed := true, recurses := true, named := ["cooperage/cooperagelaw25.root", "internal/bytealg.MaxLen"], apart := false, laid := [("cooperage/cooperagelaw25.root", laid_cooperage_cooperagelaw25_root)] }
def StateHolesSaid : Prop := stateHolesRow.holds Tryz.pinned (OpenSpec.ofChange stateHolesSpec)

/-- ITS FALSE NEIGHBOUR: 'it returns false'. Refute it at one input. -/
def stateHolesWrong : ChangeSpec := { name := "stateHoles", fn := fun _ => fun
  | [d1, d2, d3, d4] => { results := [.lit (.bool false)], args := [d1, d2, d3, d4] }
  | _ => none }
def StateHolesWrongFalsely : Prop := stateHolesRow.holds Tryz.pinned (OpenSpec.ofChange stateHolesWrong)

/- THE SECOND FORM. 'bulk': how many values and letters a reading holds, each counted each time it is reached (what is shared counts as often as it is met; a slice's spare places count too). A statement '..UptoSaid' is the law's where the arguments, and the package variables that the reading takes, are together of bulk at most 1048576: NARROWER than '..Said'. Prove '..Said' where nothing that the law and all that it calls make is longer than what came in: it says more and counts as full. Else prove '..UptoSaid'. A law counts once. -/
mutual
def uptoBulk {H : Type} : DataW H → Nat
  | .lit (.string bytes) => bytes.length + 1
  | .lit _ => 1
  | .nil => 1
  | .ptr d => uptoBulk d + 1
  | .slice elems spare => uptoBulkAll elems + uptoBulkAll spare + 1
  | .agg parts => uptoBulkAll parts + 1
  | .iface _ d => uptoBulk d + 1
  | .map entries => uptoBulkEntries entries + 1
  | .held _ => 1
def uptoBulkAll {H : Type} : List (DataW H) → Nat
  | [] => 0
  | d :: r => uptoBulk d + uptoBulkAll r
def uptoBulkEntries {H : Type} : List (Lit × DataW H) → Nat
  | [] => 0
  | x :: r => uptoBulkEntry x + uptoBulkEntries r
def uptoBulkEntry {H : Type} : Lit × DataW H → Nat
  | (.string bytes, d) => bytes.length + uptoBulk d + 1
  | (_, d) => uptoBulk d + 1
 end
def uptoSmall : (H : Type) → List (DataW H) → Bool := fun _ ds => decide (uptoBulkAll ds ≤ 1048576)
def OpenSpec.upto (s : _root_.Go.ChangeSpec) : _root_.Go.OpenSpec := { _root_.Go.OpenSpec.ofChange s with cond := some uptoSmall }

/-- 'cooperagelaw25.StateHoles', WHERE WHAT IT READS IS OF BULK AT MOST 1048576: true; the input reads as it did. -/
def stateHolesUptoRow : OpenClaim := { program := "ytcfchfhdaggmpaagreatdoor", sum := "4ad2f988fa0b8a14ccd85584bf1a5bb9a8bf4d6cca471d5724e578baad7dd46f", func := "cooperage/cooperagelaw25.StateHoles", spec := "stateHoles", inPlace := ["internal/bytealg.IndexByteString", "internal/bytealg.IndexString", "internal/bytealg.abigen_runtime_cmpstring", "slices.overlaps[cooperage/api.Entry]", "slices.overlaps[cooperage/api.Kept]", "slices.overlaps[cooperage/api.Reply]"], unfollowed := true, recurses := true, named := ["cooperage/cooperagelaw25.root", "internal/bytealg.MaxLen"], apart := false, laid := [("cooperage/cooperagelaw25.root", laid_cooperage_cooperagelaw25_root)], narrowed := true }
def StateHolesUptoSaid : Prop := stateHolesUptoRow.holds Tryz.pinned (OpenSpec.upto stateHolesSpec)

end Rows
end Go.Proofs.YtcfchfhdaggmpaaGreatDoor
