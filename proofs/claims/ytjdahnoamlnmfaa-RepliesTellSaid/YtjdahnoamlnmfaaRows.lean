/-
  No cell of these rows narrows 'for every input' (looked for: loops, veiled, ifaces, maps, wideKeys, modest, calm, conditions, laid).
  DERIVED. THE GIVEN ROWS OF THIS SEAT. 3 by the template 'for every input the law returns true; each argument reads behind the call as it read before'; 0 by the template 'total and deterministic' (their statements: YtjdahnoamlnmfaaTotals.lean).
  GIVEN WITH THE SEED: the statements are not yours to turn. If you find one false, say at which input.
  Laid BY PROGRAM, IN A SANDBOX (cutbox-rows.mjs): the forced cells as the released guide's own fill.sh prints them over the translation a6968de77efac637… (all of the seat's roots in one cut). By AI agents, Wed Nov 11 2026. No macro, syntax, notation, axiom, sorry.
-/
import Derived.Test.YtjdahnoamlnmfaaChecked
import GoSem.Claim
import GoSem.ClaimJoined
import GoSem.ClaimMapViews
import Derived.JoinedTies
import Derived.KernelRfl
namespace Go.Proofs.Ytjdahnoamlnmfaa
/- THE CELL 'sum', in the pinned program and in every row, IS THE sha256 OF THE DUMP (.gsa) THAT YtjdahnoamlnmfaaProg.lean LOADS. Nothing in Lean hashes anything: it is a label: what it is worth is what the hold of that sum in a sandbox is worth. -/
noncomputable def Try.pinned : Pinned := { name := "ytjdahnoamlnmfaa", sum := "a6968de77efac6374ea9d1beabb0197ec5741a32d3247cac361f6112bdddf978", checked := Try.checked }
namespace Rows
def none {H : Type} : Left H := { results := [], args := [] }

/-- 'cooperagelaw23.RepliesTell': WHATEVER THE INPUT: true; the input reads as it did. -/
def repliesTellSpec : ChangeSpec := { name := "repliesTell", fn := fun _ => fun
  | [d1, d2, d3] => { results := [.lit (.bool true)], args := [d1, d2, d3] }
  | _ => none }
def repliesTellRow : OpenClaim := { program := "ytjdahnoamlnmfaa", sum := "a6968de77efac6374ea9d1beabb0197ec5741a32d3247cac361f6112bdddf978", func := "cooperage/cooperagelaw23.RepliesTell", spec := "repliesTell", inPlace := ["slices.overlaps[cooperage/api.Kept]", "slices.overlaps[cooperage/api.Reply]"], unfollowed := true, recurses := true, plainKeys := false, apart := false }
def RepliesTellSaid : Prop := repliesTellRow.holds Try.pinned (OpenSpec.ofChange repliesTellSpec)

/-- ITS FALSE NEIGHBOUR: 'it returns false'. Refute it at one input. -/
def repliesTellWrong : ChangeSpec := { name := "repliesTell", fn := fun _ => fun
  | [d1, d2, d3] => { results := [.lit (.bool false)], args := [d1, d2, d3] }
  | _ => none }
def RepliesTellWrongFalsely : Prop := repliesTellRow.holds Try.pinned (OpenSpec.ofChange repliesTellWrong)

/-- 'cooperagelaw23.RepliesOnce': WHATEVER THE INPUT: true; the input reads as it did. -/
def repliesOnceSpec : ChangeSpec := { name := "repliesOnce", fn := fun _ => fun
  | [d1, d2] => { results := [.lit (.bool true)], args := [d1, d2] }
  | _ => none }
def repliesOnceRow : OpenClaim := { program := "ytjdahnoamlnmfaa", sum := "a6968de77efac6374ea9d1beabb0197ec5741a32d3247cac361f6112bdddf978", func := "cooperage/cooperagelaw23.RepliesOnce", spec := "repliesOnce", inPlace := ["slices.overlaps[cooperage/api.Kept]", "slices.overlaps[cooperage/api.Reply]"], unfollowed := true, recurses := true, plainKeys := false, apart := false }
def RepliesOnceSaid : Prop := repliesOnceRow.holds Try.pinned (OpenSpec.ofChange repliesOnceSpec)

/-- ITS FALSE NEIGHBOUR: 'it returns false'. Refute it at one input. -/
def repliesOnceWrong : ChangeSpec := { name := "repliesOnce", fn := fun _ => fun
  | [d1, d2] => { results := [.lit (.bool false)], args := [d1, d2] }
  | _ => none }
def RepliesOnceWrongFalsely : Prop := repliesOnceRow.holds Try.pinned (OpenSpec.ofChange repliesOnceWrong)

/-- 'cooperagelaw23.RepliesApart': WHATEVER THE INPUT: true; the input reads as it did. -/
def repliesApartSpec : ChangeSpec := { name := "repliesApart", fn := fun _ => fun
  | [d1, d2] => { results := [.lit (.bool true)], args := [d1, d2] }
  | _ => none }
def repliesApartRow : OpenClaim := { program := "ytjdahnoamlnmfaa", sum := "a6968de77efac6374ea9d1beabb0197ec5741a32d3247cac361f6112bdddf978", func := "cooperage/cooperagelaw23.RepliesApart", spec := "repliesApart", inPlace := ["slices.overlaps[cooperage/api.Kept]", "slices.overlaps[cooperage/api.Reply]"], unfollowed := true, recurses := true, plainKeys := false, apart := false }
def RepliesApartSaid : Prop := repliesApartRow.holds Try.pinned (OpenSpec.ofChange repliesApartSpec)

/-- ITS FALSE NEIGHBOUR: 'it returns false'. Refute it at one input. -/
def repliesApartWrong : ChangeSpec := { name := "repliesApart", fn := fun _ => fun
  | [d1, d2] => { results := [.lit (.bool false)], args := [d1, d2] }
  | _ => none }
def RepliesApartWrongFalsely : Prop := repliesApartRow.holds Try.pinned (OpenSpec.ofChange repliesApartWrong)

/- THE SECOND FORM. 'bulk': how many values and letters a reading holds, each counted each time it is reached (what is shared counts as often as it is met; a slice's spare places count too). A statement '..UptoSaid' is the law's where the arguments, and the package variables that the reading takes, are together of bulk at most 1048576: NARROWER than '..Said'. Prove '..Said' where nothing that the law and all that it calls make is longer than what came in: it says more and counts as full. Else prove '..UptoSaid'. A law counts once. -/
mutual
def uptoBulk {H : Type} : DataW H → Nat
  | .lit (.string bytes) => bytes.length + 1
  | .lit _ => 1
  | .nil => 1
  | .ptr d => uptoBulk d + 1
  | .slice elems spare => uptoBulkAll elems + uptoBulkAll spare + 1
  | .agg parts => uptoBulkAll parts + 1
  | .iface _ d => uptoBulk d + 1
  | .map entries => uptoBulkEntries entries + 1
  | .held _ => 1
def uptoBulkAll {H : Type} : List (DataW H) → Nat
  | [] => 0
  | d :: r => uptoBulk d + uptoBulkAll r
def uptoBulkEntries {H : Type} : List (Lit × DataW H) → Nat
  | [] => 0
  | x :: r => uptoBulkEntry x + uptoBulkEntries r
def uptoBulkEntry {H : Type} : Lit × DataW H → Nat
  | (.string bytes, d) => bytes.length + uptoBulk d + 1
  | (_, d) => uptoBulk d + 1
 end
def uptoSmall : (H : Type) → List (DataW H) → Bool := fun _ ds => decide (uptoBulkAll ds ≤ 1048576)
def OpenSpec.upto (s : _root_.Go.ChangeSpec) : _root_.Go.OpenSpec := { _root_.Go.OpenSpec.ofChange s with cond := some uptoSmall }

/-- 'cooperagelaw23.RepliesTell', WHERE WHAT IT READS IS OF BULK AT MOST 1048576: true; the input reads as it did. -/
def repliesTellUptoRow : OpenClaim := { program := "ytjdahnoamlnmfaa", sum := "a6968de77efac6374ea9d1beabb0197ec5741a32d3247cac361f6112bdddf978", func := "cooperage/cooperagelaw23.RepliesTell", spec := "repliesTell", inPlace := ["slices.overlaps[cooperage/api.Kept]", "slices.overlaps[cooperage/api.Reply]"], unfollowed := true, recurses := true, plainKeys := false, apart := false, narrowed := true }
def RepliesTellUptoSaid : Prop := repliesTellUptoRow.holds Try.pinned (OpenSpec.upto repliesTellSpec)

/-- 'cooperagelaw23.RepliesOnce', WHERE WHAT IT READS IS OF BULK AT MOST 1048576: true; the input reads as it did. -/
def repliesOnceUptoRow : OpenClaim := { program := "ytjdahnoamlnmfaa", sum := "a6968de77efac6374ea9d1beabb0197ec5741a32d3247cac361f6112bdddf978", func := "cooperage/cooperagelaw23.RepliesOnce", spec := "repliesOnce", inPlace := ["slices.overlaps[cooperage/api.Kept]", "slices.overlaps[cooperage/api.Reply]"], unfollowed := true, recurses := true, plainKeys := false, apart := false, narrowed := true }
def RepliesOnceUptoSaid : Prop := repliesOnceUptoRow.holds Try.pinned (OpenSpec.upto repliesOnceSpec)

/-- 'cooperagelaw23.RepliesApart', WHERE WHAT IT READS IS OF BULK AT MOST 1048576: true; the input reads as it did. -/
def repliesApartUptoRow : OpenClaim := { program := "ytjdahnoamlnmfaa", sum := "a6968de77efac6374ea9d1beabb0197ec5741a32d3247cac361f6112bdddf978", func := "cooperage/cooperagelaw23.RepliesApart", spec := "repliesApart", inPlace := ["slices.overlaps[cooperage/api.Kept]", "slices.overlaps[cooperage/api.Reply]"], unfollowed := true, recurses := true, plainKeys := false, apart := false, narrowed := true }
def RepliesApartUptoSaid : Prop := repliesApartUptoRow.holds Try.pinned (OpenSpec.upto repliesApartSpec)

end Rows
end Go.Proofs.Ytjdahnoamlnmfaa
