/-
  No cell of these rows narrows 'for every input' (looked for: loops, veiled, ifaces, maps, wideKeys, modest, calm, conditions, laid).
  DERIVED. THE GIVEN ROWS OF THIS SEAT. 8 by the template 'for every input the law returns true; each argument reads behind the call as it read before'; 0 by the template 'total and deterministic' (their statements: YtndinkcemkfpdaaTotals.lean).
  GIVEN WITH THE SEED: the statements are not yours to turn. If you find one false, say at which input.
  Laid BY PROGRAM, IN A SANDBOX (cutbox-rows.mjs): the forced cells as the released guide's own fill.sh prints them over the translation be08ee66f4799e57… (all of the seat's roots in one cut). By AI agents, Wed Nov 11 2026. No macro, syntax, notation, axiom, sorry.
-/
import Derived.Test.YtndinkcemkfpdaaChecked
import GoSem.Claim
import GoSem.ClaimJoined
import GoSem.ClaimMapViews
import Derived.JoinedTies
import Derived.KernelRfl
namespace Go.Proofs.Ytndinkcemkfpdaa
/- THE CELL 'sum', in the pinned program and in every row, IS THE sha256 OF THE DUMP (.gsa) THAT YtndinkcemkfpdaaProg.lean LOADS. Nothing in Lean hashes anything: it is a label: what it is worth is what the hold of that sum in a sandbox is worth. -/
noncomputable def Try.pinned : Pinned := { name := "ytndinkcemkfpdaa", sum := "be08ee66f4799e57158a2dc7da6b6e0580e9d422989d5d68186ab60abe5b3707", checked := Try.checked }
namespace Rows
def none {H : Type} : Left H := { results := [], args := [] }

/-- 'cooperagelaw07.NetNumbers': WHATEVER THE INPUT: true; the input reads as it did. -/
def netNumbersSpec : ChangeSpec := { name := "netNumbers", fn := fun _ => fun
  | [] => { results := [.lit (.bool true)], args := [] }
  | _ => none }
def netNumbersRow : OpenClaim := { program := "ytndinkcemkfpdaa", sum := "be08ee66f4799e57158a2dc7da6b6e0580e9d422989d5d68186ab60abe5b3707", func := "cooperage/cooperagelaw07.NetNumbers", spec := "netNumbers", unfollowed := true, recurses := true, apart := false }
def NetNumbersSaid : Prop := netNumbersRow.holds Try.pinned (OpenSpec.ofChange netNumbersSpec)

/-- ITS FALSE NEIGHBOUR: 'it returns false'. Refute it at one input. -/
def netNumbersWrong : ChangeSpec := { name := "netNumbers", fn := fun _ => fun
  | [] => { results := [.lit (.bool false)], args := [] }
  | _ => none }
def NetNumbersWrongFalsely : Prop := netNumbersRow.holds Try.pinned (OpenSpec.ofChange netNumbersWrong)

/-- 'cooperagelaw07.NetTells': WHATEVER THE INPUT: true; the input reads as it did. -/
def netTellsSpec : ChangeSpec := { name := "netTells", fn := fun _ => fun
  | [d1, d2, d3] => { results := [.lit (.bool true)], args := [d1, d2, d3] }
  | _ => none }
def netTellsRow : OpenClaim := { program := "ytndinkcemkfpdaa", sum := "be08ee66f4799e57158a2dc7da6b6e0580e9d422989d5d68186ab60abe5b3707", func := "cooperage/cooperagelaw07.NetTells", spec := "netTells", unfollowed := true, recurses := true, apart := false }
def NetTellsSaid : Prop := netTellsRow.holds Try.pinned (OpenSpec.ofChange netTellsSpec)

/-- ITS FALSE NEIGHBOUR: 'it returns false'. Refute it at one input. -/
def netTellsWrong : ChangeSpec := { name := "netTells", fn := fun _ => fun
  | [d1, d2, d3] => { results := [.lit (.bool false)], args := [d1, d2, d3] }
  | _ => none }
def NetTellsWrongFalsely : Prop := netTellsRow.holds Try.pinned (OpenSpec.ofChange netTellsWrong)

/-- 'cooperagelaw07.NetNone': WHATEVER THE INPUT: true; the input reads as it did. -/
def netNoneSpec : ChangeSpec := { name := "netNone", fn := fun _ => fun
  | [d] => { results := [.lit (.bool true)], args := [d] }
  | _ => none }
def netNoneRow : OpenClaim := { program := "ytndinkcemkfpdaa", sum := "be08ee66f4799e57158a2dc7da6b6e0580e9d422989d5d68186ab60abe5b3707", func := "cooperage/cooperagelaw07.NetNone", spec := "netNone", unfollowed := true, recurses := true, apart := false }
def NetNoneSaid : Prop := netNoneRow.holds Try.pinned (OpenSpec.ofChange netNoneSpec)

/-- ITS FALSE NEIGHBOUR: 'it returns false'. Refute it at one input. -/
def netNoneWrong : ChangeSpec := { name := "netNone", fn := fun _ => fun
  | [d] => { results := [.lit (.bool false)], args := [d] }
  | _ => none }
def NetNoneWrongFalsely : Prop := netNoneRow.holds Try.pinned (OpenSpec.ofChange netNoneWrong)

/-- 'cooperagelaw07.NetLedger': WHATEVER THE INPUT: true; the input reads as it did. -/
def netLedgerSpec : ChangeSpec := { name := "netLedger", fn := fun _ => fun
  | [d] => { results := [.lit (.bool true)], args := [d] }
  | _ => none }
def netLedgerRow : OpenClaim := { program := "ytndinkcemkfpdaa", sum := "be08ee66f4799e57158a2dc7da6b6e0580e9d422989d5d68186ab60abe5b3707", func := "cooperage/cooperagelaw07.NetLedger", spec := "netLedger", unfollowed := true, recurses := true, apart := false }
def NetLedgerSaid : Prop := netLedgerRow.holds Try.pinned (OpenSpec.ofChange netLedgerSpec)

/-- ITS FALSE NEIGHBOUR: 'it returns false'. Refute it at one input. -/
def netLedgerWrong : ChangeSpec := { name := "netLedger", fn := fun _ => fun
  | [d] => { results := [.lit (.bool false)], args := [d] }
  | _ => none }
def NetLedgerWrongFalsely : Prop := netLedgerRow.holds Try.pinned (OpenSpec.ofChange netLedgerWrong)

/-- 'cooperagelaw07.NetQueue': WHATEVER THE INPUT: true; the input reads as it did. -/
def netQueueSpec : ChangeSpec := { name := "netQueue", fn := fun _ => fun
  | [d1, d2] => { results := [.lit (.bool true)], args := [d1, d2] }
  | _ => none }
def netQueueRow : OpenClaim := { program := "ytndinkcemkfpdaa", sum := "be08ee66f4799e57158a2dc7da6b6e0580e9d422989d5d68186ab60abe5b3707", func := "cooperage/cooperagelaw07.NetQueue", spec := "netQueue", unfollowed := true, recurses := true, apart := false }
def NetQueueSaid : Prop := netQueueRow.holds Try.pinned (OpenSpec.ofChange netQueueSpec)

/-- ITS FALSE NEIGHBOUR: 'it returns false'. Refute it at one input. -/
def netQueueWrong : ChangeSpec := { name := "netQueue", fn := fun _ => fun
  | [d1, d2] => { results := [.lit (.bool false)], args := [d1, d2] }
  | _ => none }
def NetQueueWrongFalsely : Prop := netQueueRow.holds Try.pinned (OpenSpec.ofChange netQueueWrong)

/-- 'cooperagelaw07.NetOthers': WHATEVER THE INPUT: true; the input reads as it did. -/
def netOthersSpec : ChangeSpec := { name := "netOthers", fn := fun _ => fun
  | [d1, d2] => { results := [.lit (.bool true)], args := [d1, d2] }
  | _ => none }
def netOthersRow : OpenClaim := { program := "ytndinkcemkfpdaa", sum := "be08ee66f4799e57158a2dc7da6b6e0580e9d422989d5d68186ab60abe5b3707", func := "cooperage/cooperagelaw07.NetOthers", spec := "netOthers", unfollowed := true, recurses := true, apart := false }
def NetOthersSaid : Prop := netOthersRow.holds Try.pinned (OpenSpec.ofChange netOthersSpec)

/-- ITS FALSE NEIGHBOUR: 'it returns false'. Refute it at one input. -/
def netOthersWrong : ChangeSpec := { name := "netOthers", fn := fun _ => fun
  | [d1, d2] => { results := [.lit (.bool false)], args := [d1, d2] }
  | _ => none }
def NetOthersWrongFalsely : Prop := netOthersRow.holds Try.pinned (OpenSpec.ofChange netOthersWrong)

/-- 'cooperagelaw07.NetMost': WHATEVER THE INPUT: true; the input reads as it did. -/
def netMostSpec : ChangeSpec := { name := "netMost", fn := fun _ => fun
  | [d1, d2] => { results := [.lit (.bool true)], args := [d1, d2] }
  | _ => none }
def netMostRow : OpenClaim := { program := "ytndinkcemkfpdaa", sum := "be08ee66f4799e57158a2dc7da6b6e0580e9d422989d5d68186ab60abe5b3707", func := "cooperage/cooperagelaw07.NetMost", spec := "netMost", unfollowed := true, recurses := true, apart := false }
def NetMostSaid : Prop := netMostRow.holds Try.pinned (OpenSpec.ofChange netMostSpec)

/-- ITS FALSE NEIGHBOUR: 'it returns false'. Refute it at one input. -/
def netMostWrong : ChangeSpec := { name := "netMost", fn := fun _ => fun
  | [d1, d2] => { results := [.lit (.bool false)], args := [d1, d2] }
  | _ => none }
def NetMostWrongFalsely : Prop := netMostRow.holds Try.pinned (OpenSpec.ofChange netMostWrong)

/-- 'cooperagelaw07.NetOwn': WHATEVER THE INPUT: true; the input reads as it did. -/
def netOwnSpec : ChangeSpec := { name := "netOwn", fn := fun _ => fun
  | [d] => { results := [.lit (.bool true)], args := [d] }
  | _ => none }
def netOwnRow : OpenClaim := { program := "ytndinkcemkfpdaa", sum := "be08ee66f4799e57158a2dc7da6b6e0580e9d422989d5d68186ab60abe5b3707", func := "cooperage/cooperagelaw07.NetOwn", spec := "netOwn", unfollowed := true, recurses := true, apart := false }
def NetOwnSaid : Prop := netOwnRow.holds Try.pinned (OpenSpec.ofChange netOwnSpec)

/-- ITS FALSE NEIGHBOUR: 'it returns false'. Refute it at one input. -/
def netOwnWrong : ChangeSpec := { name := "netOwn", fn := fun _ => fun
  | [d] => { results := [.lit (.bool false)], args := [d] }
  | _ => none }
def NetOwnWrongFalsely : Prop := netOwnRow.holds Try.pinned (OpenSpec.ofChange netOwnWrong)

/- THE SECOND FORM. 'bulk': how many values and letters a reading holds, each counted each time it is reached (what is shared counts as often as it is met; a slice's spare places count too). A statement '..UptoSaid' is the law's where the arguments, and the package variables that the reading takes, are together of bulk at most 1048576: NARROWER than '..Said'. Prove '..Said' where nothing that the law and all that it calls make is longer than what came in: it says more and counts as full. Else prove '..UptoSaid'. A law counts once. -/
mutual
def uptoBulk {H : Type} : DataW H → Nat
  | .lit (.string bytes) => bytes.length + 1
  | .lit _ => 1
  | .nil => 1
  | .ptr d => uptoBulk d + 1
  | .slice elems spare => uptoBulkAll elems + uptoBulkAll spare + 1
  | .agg parts => uptoBulkAll parts + 1
  | .iface _ d => uptoBulk d + 1
  | .map entries => uptoBulkEntries entries + 1
  | .held _ => 1
def uptoBulkAll {H : Type} : List (DataW H) → Nat
  | [] => 0
  | d :: r => uptoBulk d + uptoBulkAll r
def uptoBulkEntries {H : Type} : List (Lit × DataW H) → Nat
  | [] => 0
  | x :: r => uptoBulkEntry x + uptoBulkEntries r
def uptoBulkEntry {H : Type} : Lit × DataW H → Nat
  | (.string bytes, d) => bytes.length + uptoBulk d + 1
  | (_, d) => uptoBulk d + 1
 end
def uptoSmall : (H : Type) → List (DataW H) → Bool := fun _ ds => decide (uptoBulkAll ds ≤ 1048576)
def OpenSpec.upto (s : _root_.Go.ChangeSpec) : _root_.Go.OpenSpec := { _root_.Go.OpenSpec.ofChange s with cond := some uptoSmall }

/-- 'cooperagelaw07.NetNumbers', WHERE WHAT IT READS IS OF BULK AT MOST 1048576: true; the input reads as it did. -/
def netNumbersUptoRow : OpenClaim := { program := "ytndinkcemkfpdaa", sum := "be08ee66f4799e57158a2dc7da6b6e0580e9d422989d5d68186ab60abe5b3707", func := "cooperage/cooperagelaw07.NetNumbers", spec := "netNumbers", unfollowed := true, recurses := true, apart := false, narrowed := true }
def NetNumbersUptoSaid : Prop := netNumbersUptoRow.holds Try.pinned (OpenSpec.upto netNumbersSpec)

/-- 'cooperagelaw07.NetTells', WHERE WHAT IT READS IS OF BULK AT MOST 1048576: true; the input reads as it did. -/
def netTellsUptoRow : OpenClaim := { program := "ytndinkcemkfpdaa", sum := "be08ee66f4799e57158a2dc7da6b6e0580e9d422989d5d68186ab60abe5b3707", func := "cooperage/cooperagelaw07.NetTells", spec := "netTells", unfollowed := true, recurses := true, apart := false, narrowed := true }
def NetTellsUptoSaid : Prop := netTellsUptoRow.holds Try.pinned (OpenSpec.upto netTellsSpec)

/-- 'cooperagelaw07.NetNone', WHERE WHAT IT READS IS OF BULK AT MOST 1048576: true; the input reads as it did. -/
def netNoneUptoRow : OpenClaim := { program := "ytndinkcemkfpdaa", sum := "be08ee66f4799e57158a2dc7da6b6e0580e9d422989d5d68186ab60abe5b3707", func := "cooperage/cooperagelaw07.NetNone", spec := "netNone", unfollowed := true, recurses := true, apart := false, narrowed := true }
def NetNoneUptoSaid : Prop := netNoneUptoRow.holds Try.pinned (OpenSpec.upto netNoneSpec)

/-- 'cooperagelaw07.NetLedger', WHERE WHAT IT READS IS OF BULK AT MOST 1048576: true; the input reads as it did. -/
def netLedgerUptoRow : OpenClaim := { program := "ytndinkcemkfpdaa", sum := "be08ee66f4799e57158a2dc7da6b6e0580e9d422989d5d68186ab60abe5b3707", func := "cooperage/cooperagelaw07.NetLedger", spec := "netLedger", unfollowed := true, recurses := true, apart := false, narrowed := true }
def NetLedgerUptoSaid : Prop := netLedgerUptoRow.holds Try.pinned (OpenSpec.upto netLedgerSpec)

/-- 'cooperagelaw07.NetQueue', WHERE WHAT IT READS IS OF BULK AT MOST 1048576: true; the input reads as it did. -/
def netQueueUptoRow : OpenClaim := { program := "ytndinkcemkfpdaa", sum := "be08ee66f4799e57158a2dc7da6b6e0580e9d422989d5d68186ab60abe5b3707", func := "cooperage/cooperagelaw07.NetQueue", spec := "netQueue", unfollowed := true, recurses := true, apart := false, narrowed := true }
def NetQueueUptoSaid : Prop := netQueueUptoRow.holds Try.pinned (OpenSpec.upto netQueueSpec)

/-- 'cooperagelaw07.NetOthers', WHERE WHAT IT READS IS OF BULK AT MOST 1048576: true; the input reads as it did. -/
def netOthersUptoRow : OpenClaim := { program := "ytndinkcemkfpdaa", sum := "be08ee66f4799e57158a2dc7da6b6e0580e9d422989d5d68186ab60abe5b3707", func := "cooperage/cooperagelaw07.NetOthers", spec := "netOthers", unfollowed := true, recurses := true, apart := false, narrowed := true }
def NetOthersUptoSaid : Prop := netOthersUptoRow.holds Try.pinned (OpenSpec.upto netOthersSpec)

/-- 'cooperagelaw07.NetMost', WHERE WHAT IT READS IS OF BULK AT MOST 1048576: true; the input reads as it did. -/
def netMostUptoRow : OpenClaim := { program := "ytndinkcemkfpdaa", sum := "be08ee66f4799e57158a2dc7da6b6e0580e9d422989d5d68186ab60abe5b3707", func := "cooperage/cooperagelaw07.NetMost", spec := "netMost", unfollowed := true, recurses := true, apart := false, narrowed := true }
def NetMostUptoSaid : Prop := netMostUptoRow.holds Try.pinned (OpenSpec.upto netMostSpec)

/-- 'cooperagelaw07.NetOwn', WHERE WHAT IT READS IS OF BULK AT MOST 1048576: true; the input reads as it did. -/
def netOwnUptoRow : OpenClaim := { program := "ytndinkcemkfpdaa", sum := "be08ee66f4799e57158a2dc7da6b6e0580e9d422989d5d68186ab60abe5b3707", func := "cooperage/cooperagelaw07.NetOwn", spec := "netOwn", unfollowed := true, recurses := true, apart := false, narrowed := true }
def NetOwnUptoSaid : Prop := netOwnUptoRow.holds Try.pinned (OpenSpec.upto netOwnSpec)

end Rows
end Go.Proofs.Ytndinkcemkfpdaa
