/-
  No cell of these rows narrows 'for every input' (looked for: loops, veiled, ifaces, maps, wideKeys, modest, calm, conditions, laid).
  DERIVED. THE GIVEN ROWS OF THIS SEAT. 5 by the template 'for every input the law returns true; each argument reads behind the call as it read before'; 0 by the template 'total and deterministic' (their statements: YtdngccokjijgeaaTotals.lean).
  GIVEN WITH THE SEED: the statements are not yours to turn. If you find one false, say at which input.
  Laid BY PROGRAM, IN A SANDBOX (cutbox-rows.mjs): the forced cells as the released guide's own fill.sh prints them over the translation d7108dbf2651fb06… (all of the seat's roots in one cut). By AI agents, Wed Nov 11 2026. No macro, syntax, notation, axiom, sorry.
-/
import Derived.Test.YtdngccokjijgeaaChecked
import GoSem.Claim
import GoSem.ClaimJoined
import GoSem.ClaimMapViews
import Derived.JoinedTies
import Derived.KernelRfl
namespace Go.Proofs.Ytdngccokjijgeaa
/- THE CELL 'sum', in the pinned program and in every row, IS THE sha256 OF THE DUMP (.gsa) THAT YtdngccokjijgeaaProg.lean LOADS. Nothing in Lean hashes anything: it is a label: what it is worth is what the hold of that sum in a sandbox is worth. -/
noncomputable def Try.pinned : Pinned := { name := "ytdngccokjijgeaa", sum := "d7108dbf2651fb06e1aa81c35f492b7f5bbb3282bf869419dd0a74f66dd2495a", checked := Try.checked }
namespace Rows
def none {H : Type} : Left H := { results := [], args := [] }

/-- 'cooperagelaw18.InodeMany': WHATEVER THE INPUT: true; the input reads as it did. -/
def inodeManySpec : ChangeSpec := { name := "inodeMany", fn := fun _ => fun
  | [d] => { results := [.lit (.bool true)], args := [d] }
  | _ => none }
def inodeManyRow : OpenClaim := { program := "ytdngccokjijgeaa", sum := "d7108dbf2651fb06e1aa81c35f492b7f5bbb3282bf869419dd0a74f66dd2495a", func := "cooperage/cooperagelaw18.InodeMany", spec := "inodeMany", unfollowed := true, recurses := true, plainKeys := false, apart := false }
def InodeManySaid : Prop := inodeManyRow.holds Try.pinned (OpenSpec.ofChange inodeManySpec)

/-- ITS FALSE NEIGHBOUR: 'it returns false'. Refute it at one input. -/
def inodeManyWrong : ChangeSpec := { name := "inodeMany", fn := fun _ => fun
  | [d] => { results := [.lit (.bool false)], args := [d] }
  | _ => none }
def InodeManyWrongFalsely : Prop := inodeManyRow.holds Try.pinned (OpenSpec.ofChange inodeManyWrong)

/-- 'cooperagelaw18.InodeTells': WHATEVER THE INPUT: true; the input reads as it did. -/
def inodeTellsSpec : ChangeSpec := { name := "inodeTells", fn := fun _ => fun
  | [d1, d2] => { results := [.lit (.bool true)], args := [d1, d2] }
  | _ => none }
def inodeTellsRow : OpenClaim := { program := "ytdngccokjijgeaa", sum := "d7108dbf2651fb06e1aa81c35f492b7f5bbb3282bf869419dd0a74f66dd2495a", func := "cooperage/cooperagelaw18.InodeTells", spec := "inodeTells", unfollowed := true, recurses := true, plainKeys := false, apart := false }
def InodeTellsSaid : Prop := inodeTellsRow.holds Try.pinned (OpenSpec.ofChange inodeTellsSpec)

/-- ITS FALSE NEIGHBOUR: 'it returns false'. Refute it at one input. -/
def inodeTellsWrong : ChangeSpec := { name := "inodeTells", fn := fun _ => fun
  | [d1, d2] => { results := [.lit (.bool false)], args := [d1, d2] }
  | _ => none }
def InodeTellsWrongFalsely : Prop := inodeTellsRow.holds Try.pinned (OpenSpec.ofChange inodeTellsWrong)

/-- 'cooperagelaw18.InodeStale': WHATEVER THE INPUT: true; the input reads as it did. -/
def inodeStaleSpec : ChangeSpec := { name := "inodeStale", fn := fun _ => fun
  | [d] => { results := [.lit (.bool true)], args := [d] }
  | _ => none }
def inodeStaleRow : OpenClaim := { program := "ytdngccokjijgeaa", sum := "d7108dbf2651fb06e1aa81c35f492b7f5bbb3282bf869419dd0a74f66dd2495a", func := "cooperage/cooperagelaw18.InodeStale", spec := "inodeStale", unfollowed := true, recurses := true, plainKeys := false, apart := false }
def InodeStaleSaid : Prop := inodeStaleRow.holds Try.pinned (OpenSpec.ofChange inodeStaleSpec)

/-- ITS FALSE NEIGHBOUR: 'it returns false'. Refute it at one input. -/
def inodeStaleWrong : ChangeSpec := { name := "inodeStale", fn := fun _ => fun
  | [d] => { results := [.lit (.bool false)], args := [d] }
  | _ => none }
def InodeStaleWrongFalsely : Prop := inodeStaleRow.holds Try.pinned (OpenSpec.ofChange inodeStaleWrong)

/-- 'cooperagelaw18.InodeFresh': WHATEVER THE INPUT: true; the input reads as it did. -/
def inodeFreshSpec : ChangeSpec := { name := "inodeFresh", fn := fun _ => fun
  | [d] => { results := [.lit (.bool true)], args := [d] }
  | _ => none }
def inodeFreshRow : OpenClaim := { program := "ytdngccokjijgeaa", sum := "d7108dbf2651fb06e1aa81c35f492b7f5bbb3282bf869419dd0a74f66dd2495a", func := "cooperage/cooperagelaw18.InodeFresh", spec := "inodeFresh", unfollowed := true, recurses := true, plainKeys := false, apart := false }
def InodeFreshSaid : Prop := inodeFreshRow.holds Try.pinned (OpenSpec.ofChange inodeFreshSpec)

/-- ITS FALSE NEIGHBOUR: 'it returns false'. Refute it at one input. -/
def inodeFreshWrong : ChangeSpec := { name := "inodeFresh", fn := fun _ => fun
  | [d] => { results := [.lit (.bool false)], args := [d] }
  | _ => none }
def InodeFreshWrongFalsely : Prop := inodeFreshRow.holds Try.pinned (OpenSpec.ofChange inodeFreshWrong)

/-- 'cooperagelaw18.InodeParts': WHATEVER THE INPUT: true; the input reads as it did. -/
def inodePartsSpec : ChangeSpec := { name := "inodeParts", fn := fun _ => fun
  | [d1, d2] => { results := [.lit (.bool true)], args := [d1, d2] }
  | _ => none }
def inodePartsRow : OpenClaim := { program := "ytdngccokjijgeaa", sum := "d7108dbf2651fb06e1aa81c35f492b7f5bbb3282bf869419dd0a74f66dd2495a", func := "cooperage/cooperagelaw18.InodeParts", spec := "inodeParts", unfollowed := true, recurses := true, plainKeys := false, apart := false }
def InodePartsSaid : Prop := inodePartsRow.holds Try.pinned (OpenSpec.ofChange inodePartsSpec)

/-- ITS FALSE NEIGHBOUR: 'it returns false'. Refute it at one input. -/
def inodePartsWrong : ChangeSpec := { name := "inodeParts", fn := fun _ => fun
  | [d1, d2] => { results := [.lit (.bool false)], args := [d1, d2] }
  | _ => none }
def InodePartsWrongFalsely : Prop := inodePartsRow.holds Try.pinned (OpenSpec.ofChange inodePartsWrong)

/- THE SECOND FORM. 'bulk': how many values and letters a reading holds, each counted each time it is reached (what is shared counts as often as it is met; a slice's spare places count too). A statement '..UptoSaid' is the law's where the arguments, and the package variables that the reading takes, are together of bulk at most 1048576: NARROWER than '..Said'. Prove '..Said' where nothing that the law and all that it calls make is longer than what came in: it says more and counts as full. Else prove '..UptoSaid'. A law counts once. -/
mutual
def uptoBulk {H : Type} : DataW H → Nat
  | .lit (.string bytes) => bytes.length + 1
  | .lit _ => 1
  | .nil => 1
  | .ptr d => uptoBulk d + 1
  | .slice elems spare => uptoBulkAll elems + uptoBulkAll spare + 1
  | .agg parts => uptoBulkAll parts + 1
  | .iface _ d => uptoBulk d + 1
  | .map entries => uptoBulkEntries entries + 1
  | .held _ => 1
def uptoBulkAll {H : Type} : List (DataW H) → Nat
  | [] => 0
  | d :: r => uptoBulk d + uptoBulkAll r
def uptoBulkEntries {H : Type} : List (Lit × DataW H) → Nat
  | [] => 0
  | x :: r => uptoBulkEntry x + uptoBulkEntries r
def uptoBulkEntry {H : Type} : Lit × DataW H → Nat
  | (.string bytes, d) => bytes.length + uptoBulk d + 1
  | (_, d) => uptoBulk d + 1
 end
def uptoSmall : (H : Type) → List (DataW H) → Bool := fun _ ds => decide (uptoBulkAll ds ≤ 1048576)
def OpenSpec.upto (s : _root_.Go.ChangeSpec) : _root_.Go.OpenSpec := { _root_.Go.OpenSpec.ofChange s with cond := some uptoSmall }

/-- 'cooperagelaw18.InodeMany', WHERE WHAT IT READS IS OF BULK AT MOST 1048576: true; the input reads as it did. -/
def inodeManyUptoRow : OpenClaim := { program := "ytdngccokjijgeaa", sum := "d7108dbf2651fb06e1aa81c35f492b7f5bbb3282bf869419dd0a74f66dd2495a", func := "cooperage/cooperagelaw18.InodeMany", spec := "inodeMany", unfollowed := true, recurses := true, plainKeys := false, apart := false, narrowed := true }
def InodeManyUptoSaid : Prop := inodeManyUptoRow.holds Try.pinned (OpenSpec.upto inodeManySpec)

/-- 'cooperagelaw18.InodeTells', WHERE WHAT IT READS IS OF BULK AT MOST 1048576: true; the input reads as it did. -/
def inodeTellsUptoRow : OpenClaim := { program := "ytdngccokjijgeaa", sum := "d7108dbf2651fb06e1aa81c35f492b7f5bbb3282bf869419dd0a74f66dd2495a", func := "cooperage/cooperagelaw18.InodeTells", spec := "inodeTells", unfollowed := true, recurses := true, plainKeys := false, apart := false, narrowed := true }
def InodeTellsUptoSaid : Prop := inodeTellsUptoRow.holds Try.pinned (OpenSpec.upto inodeTellsSpec)

/-- 'cooperagelaw18.InodeStale', WHERE WHAT IT READS IS OF BULK AT MOST 1048576: true; the input reads as it did. -/
def inodeStaleUptoRow : OpenClaim := { program := "ytdngccokjijgeaa", sum := "d7108dbf2651fb06e1aa81c35f492b7f5bbb3282bf869419dd0a74f66dd2495a", func := "cooperage/cooperagelaw18.InodeStale", spec := "inodeStale", unfollowed := true, recurses := true, plainKeys := false, apart := false, narrowed := true }
def InodeStaleUptoSaid : Prop := inodeStaleUptoRow.holds Try.pinned (OpenSpec.upto inodeStaleSpec)

/-- 'cooperagelaw18.InodeFresh', WHERE WHAT IT READS IS OF BULK AT MOST 1048576: true; the input reads as it did. -/
def inodeFreshUptoRow : OpenClaim := { program := "ytdngccokjijgeaa", sum := "d7108dbf2651fb06e1aa81c35f492b7f5bbb3282bf869419dd0a74f66dd2495a", func := "cooperage/cooperagelaw18.InodeFresh", spec := "inodeFresh", unfollowed := true, recurses := true, plainKeys := false, apart := false, narrowed := true }
def InodeFreshUptoSaid : Prop := inodeFreshUptoRow.holds Try.pinned (OpenSpec.upto inodeFreshSpec)

/-- 'cooperagelaw18.InodeParts', WHERE WHAT IT READS IS OF BULK AT MOST 1048576: true; the input reads as it did. -/
def inodePartsUptoRow : OpenClaim := { program := "ytdngccokjijgeaa", sum := "d7108dbf2651fb06e1aa81c35f492b7f5bbb3282bf869419dd0a74f66dd2495a", func := "cooperage/cooperagelaw18.InodeParts", spec := "inodeParts", unfollowed := true, recurses := true, plainKeys := false, apart := false, narrowed := true }
def InodePartsUptoSaid : Prop := inodePartsUptoRow.holds Try.pinned (OpenSpec.upto inodePartsSpec)

end Rows
end Go.Proofs.Ytdngccokjijgeaa
