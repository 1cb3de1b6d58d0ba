/-
  No cell of these rows narrows 'for every input' (looked for: loops, veiled, ifaces, maps, wideKeys, modest, calm, conditions, laid).
  DERIVED. THE GIVEN ROWS OF THIS SEAT. 4 by the template 'for every input the law returns true; each argument reads behind the call as it read before'; 0 by the template 'total and deterministic' (their statements: YtnlofelalmefnaaTotals.lean).
  GIVEN WITH THE SEED: the statements are not yours to turn. If you find one false, say at which input.
  Laid BY PROGRAM, IN A SANDBOX (cutbox-rows.mjs): the forced cells as the released guide's own fill.sh prints them over the translation 825b56eec097b38b… (all of the seat's roots in one cut). By AI agents, Wed Nov 11 2026. No macro, syntax, notation, axiom, sorry.
-/
import Derived.Test.YtnlofelalmefnaaChecked
import GoSem.Claim
import GoSem.ClaimJoined
import GoSem.ClaimMapViews
import Derived.JoinedTies
import Derived.KernelRfl
namespace Go.Proofs.Ytnlofelalmefnaa
/- THE CELL 'sum', in the pinned program and in every row, IS THE sha256 OF THE DUMP (.gsa) THAT YtnlofelalmefnaaProg.lean LOADS. Nothing in Lean hashes anything: it is a label: what it is worth is what the hold of that sum in a sandbox is worth. -/
noncomputable def Try.pinned : Pinned := { name := "ytnlofelalmefnaa", sum := "825b56eec097b38b1ae82afaf751b1884d0498ec8d4e548003670954fd5617ca", checked := Try.checked }
namespace Rows
def none {H : Type} : Left H := { results := [], args := [] }

/-- 'cooperagelaw21.CallOdd': WHATEVER THE INPUT: true; the input reads as it did. -/
def callOddSpec : ChangeSpec := { name := "callOdd", fn := fun _ => fun
  | [d1, d2] => { results := [.lit (.bool true)], args := [d1, d2] }
  | _ => none }
def callOddRow : OpenClaim := { program := "ytnlofelalmefnaa", sum := "825b56eec097b38b1ae82afaf751b1884d0498ec8d4e548003670954fd5617ca", func := "cooperage/cooperagelaw21.CallOdd", spec := "callOdd", unfollowed := true, recurses := true, apart := false }
def CallOddSaid : Prop := callOddRow.holds Try.pinned (OpenSpec.ofChange callOddSpec)

/-- ITS FALSE NEIGHBOUR: 'it returns false'. Refute it at one input. -/
def callOddWrong : ChangeSpec := { name := "callOdd", fn := fun _ => fun
  | [d1, d2] => { results := [.lit (.bool false)], args := [d1, d2] }
  | _ => none }
def CallOddWrongFalsely : Prop := callOddRow.holds Try.pinned (OpenSpec.ofChange callOddWrong)

/-- 'cooperagelaw21.CallCuts': WHATEVER THE INPUT: true; the input reads as it did. -/
def callCutsSpec : ChangeSpec := { name := "callCuts", fn := fun _ => fun
  | [d1, d2] => { results := [.lit (.bool true)], args := [d1, d2] }
  | _ => none }
def callCutsRow : OpenClaim := { program := "ytnlofelalmefnaa", sum := "825b56eec097b38b1ae82afaf751b1884d0498ec8d4e548003670954fd5617ca", func := "cooperage/cooperagelaw21.CallCuts", spec := "callCuts", unfollowed := true, recurses := true, apart := false }
def CallCutsSaid : Prop := callCutsRow.holds Try.pinned (OpenSpec.ofChange callCutsSpec)

/-- ITS FALSE NEIGHBOUR: 'it returns false'. Refute it at one input. -/
def callCutsWrong : ChangeSpec := { name := "callCuts", fn := fun _ => fun
  | [d1, d2] => { results := [.lit (.bool false)], args := [d1, d2] }
  | _ => none }
def CallCutsWrongFalsely : Prop := callCutsRow.holds Try.pinned (OpenSpec.ofChange callCutsWrong)

/-- 'cooperagelaw21.CallTells': WHATEVER THE INPUT: true; the input reads as it did. -/
def callTellsSpec : ChangeSpec := { name := "callTells", fn := fun _ => fun
  | [d1, d2, d3] => { results := [.lit (.bool true)], args := [d1, d2, d3] }
  | _ => none }
def callTellsRow : OpenClaim := { program := "ytnlofelalmefnaa", sum := "825b56eec097b38b1ae82afaf751b1884d0498ec8d4e548003670954fd5617ca", func := "cooperage/cooperagelaw21.CallTells", spec := "callTells", unfollowed := true, recurses := true, apart := false }
def CallTellsSaid : Prop := callTellsRow.holds Try.pinned (OpenSpec.ofChange callTellsSpec)

/-- ITS FALSE NEIGHBOUR: 'it returns false'. Refute it at one input. -/
def callTellsWrong : ChangeSpec := { name := "callTells", fn := fun _ => fun
  | [d1, d2, d3] => { results := [.lit (.bool false)], args := [d1, d2, d3] }
  | _ => none }
def CallTellsWrongFalsely : Prop := callTellsRow.holds Try.pinned (OpenSpec.ofChange callTellsWrong)

/-- 'cooperagelaw21.CallBack': WHATEVER THE INPUT: true; the input reads as it did. -/
def callBackSpec : ChangeSpec := { name := "callBack", fn := fun _ => fun
  | [d1, d2, d3] => { results := [.lit (.bool true)], args := [d1, d2, d3] }
  | _ => none }
def callBackRow : OpenClaim := { program := "ytnlofelalmefnaa", sum := "825b56eec097b38b1ae82afaf751b1884d0498ec8d4e548003670954fd5617ca", func := "cooperage/cooperagelaw21.CallBack", spec := "callBack", unfollowed := true, recurses := true, apart := false }
def CallBackSaid : Prop := callBackRow.holds Try.pinned (OpenSpec.ofChange callBackSpec)

/-- ITS FALSE NEIGHBOUR: 'it returns false'. Refute it at one input. -/
def callBackWrong : ChangeSpec := { name := "callBack", fn := fun _ => fun
  | [d1, d2, d3] => { results := [.lit (.bool false)], args := [d1, d2, d3] }
  | _ => none }
def CallBackWrongFalsely : Prop := callBackRow.holds Try.pinned (OpenSpec.ofChange callBackWrong)

/- THE SECOND FORM. 'bulk': how many values and letters a reading holds, each counted each time it is reached (what is shared counts as often as it is met; a slice's spare places count too). A statement '..UptoSaid' is the law's where the arguments, and the package variables that the reading takes, are together of bulk at most 1048576: NARROWER than '..Said'. Prove '..Said' where nothing that the law and all that it calls make is longer than what came in: it says more and counts as full. Else prove '..UptoSaid'. A law counts once. -/
mutual
def uptoBulk {H : Type} : DataW H → Nat
  | .lit (.string bytes) => bytes.length + 1
  | .lit _ => 1
  | .nil => 1
  | .ptr d => uptoBulk d + 1
  | .slice elems spare => uptoBulkAll elems + uptoBulkAll spare + 1
  | .agg parts => uptoBulkAll parts + 1
  | .iface _ d => uptoBulk d + 1
  | .map entries => uptoBulkEntries entries + 1
  | .held _ => 1
def uptoBulkAll {H : Type} : List (DataW H) → Nat
  | [] => 0
  | d :: r => uptoBulk d + uptoBulkAll r
def uptoBulkEntries {H : Type} : List (Lit × DataW H) → Nat
  | [] => 0
  | x :: r => uptoBulkEntry x + uptoBulkEntries r
def uptoBulkEntry {H : Type} : Lit × DataW H → Nat
  | (.string bytes, d) => bytes.length + uptoBulk d + 1
  | (_, d) => uptoBulk d + 1
 end
def uptoSmall : (H : Type) → List (DataW H) → Bool := fun _ ds => decide (uptoBulkAll ds ≤ 1048576)
def OpenSpec.upto (s : _root_.Go.ChangeSpec) : _root_.Go.OpenSpec := { _root_.Go.OpenSpec.ofChange s with cond := some uptoSmall }

/-- 'cooperagelaw21.CallOdd', WHERE WHAT IT READS IS OF BULK AT MOST 1048576: true; the input reads as it did. -/
def callOddUptoRow : OpenClaim := { program := "ytnlofelalmefnaa", sum := "825b56eec097b38b1ae82afaf751b1884d0498ec8d4e548003670954fd5617ca", func := "cooperage/cooperagelaw21.CallOdd", spec := "callOdd", unfollowed := true, recurses := true, apart := false, narrowed := true }
def CallOddUptoSaid : Prop := callOddUptoRow.holds Try.pinned (OpenSpec.upto callOddSpec)

/-- 'cooperagelaw21.CallCuts', WHERE WHAT IT READS IS OF BULK AT MOST 1048576: true; the input reads as it did. -/
def callCutsUptoRow : OpenClaim := { program := "ytnlofelalmefnaa", sum := "825b56eec097b38b1ae82afaf751b1884d0498ec8d4e548003670954fd5617ca", func := "cooperage/cooperagelaw21.CallCuts", spec := "callCuts", unfollowed := true, recurses := true, apart := false, narrowed := true }
def CallCutsUptoSaid : Prop := callCutsUptoRow.holds Try.pinned (OpenSpec.upto callCutsSpec)

/-- 'cooperagelaw21.CallTells', WHERE WHAT IT READS IS OF BULK AT MOST 1048576: true; the input reads as it did. -/
def callTellsUptoRow : OpenClaim := { program := "ytnlofelalmefnaa", sum := "825b56eec097b38b1ae82afaf751b1884d0498ec8d4e548003670954fd5617ca", func := "cooperage/cooperagelaw21.CallTells", spec := "callTells", unfollowed := true, recurses := true, apart := false, narrowed := true }
def CallTellsUptoSaid : Prop := callTellsUptoRow.holds Try.pinned (OpenSpec.upto callTellsSpec)

/-- 'cooperagelaw21.CallBack', WHERE WHAT IT READS IS OF BULK AT MOST 1048576: true; the input reads as it did. -/
def callBackUptoRow : OpenClaim := { program := "ytnlofelalmefnaa", sum := "825b56eec097b38b1ae82afaf751b1884d0498ec8d4e548003670954fd5617ca", func := "cooperage/cooperagelaw21.CallBack", spec := "callBack", unfollowed := true, recurses := true, apart := false, narrowed := true }
def CallBackUptoSaid : Prop := callBackUptoRow.holds Try.pinned (OpenSpec.upto callBackSpec)

end Rows
end Go.Proofs.Ytnlofelalmefnaa
