/-
  No cell of these rows narrows 'for every input' (looked for: loops, veiled, ifaces, maps, wideKeys, modest, calm, conditions, laid).
  DERIVED. THE GIVEN ROWS OF THIS SEAT. 7 by the template 'for every input the law returns true; each argument reads behind the call as it read before'; 0 by the template 'total and deterministic' (their statements: YtecodhbbobhidaaTotals.lean).
  GIVEN WITH THE SEED: the statements are not yours to turn. If you find one false, say at which input.
  Laid BY PROGRAM, IN A SANDBOX (cutbox-rows.mjs): the forced cells as the released guide's own fill.sh prints them over the translation ff40cfda65ec0688… (all of the seat's roots in one cut). By AI agents, Wed Nov 11 2026. No macro, syntax, notation, axiom, sorry.
-/
import Derived.Test.YtecodhbbobhidaaChecked
import GoSem.Claim
import GoSem.ClaimJoined
import GoSem.ClaimMapViews
import Derived.JoinedTies
import Derived.KernelRfl
namespace Go.Proofs.Ytecodhbbobhidaa
/- THE CELL 'sum', in the pinned program and in every row, IS THE sha256 OF THE DUMP (.gsa) THAT YtecodhbbobhidaaProg.lean LOADS. Nothing in Lean hashes anything: it is a label: what it is worth is what the hold of that sum in a sandbox is worth. -/
noncomputable def Try.pinned : Pinned := { name := "ytecodhbbobhidaa", sum := "ff40cfda65ec068813fa70eb005d9c8e4de67eab40c60b6a7e23567c9bf9f028", checked := Try.checked }
namespace Rows
def none {H : Type} : Left H := { results := [], args := [] }

/-- 'cooperagelaw08.ClockNumbers': WHATEVER THE INPUT: true; the input reads as it did. -/
def clockNumbersSpec : ChangeSpec := { name := "clockNumbers", fn := fun _ => fun
  | [] => { results := [.lit (.bool true)], args := [] }
  | _ => none }
def clockNumbersRow : OpenClaim := { program := "ytecodhbbobhidaa", sum := "ff40cfda65ec068813fa70eb005d9c8e4de67eab40c60b6a7e23567c9bf9f028", func := "cooperage/cooperagelaw08.ClockNumbers", spec := "clockNumbers", unfollowed := true, recurses := true, apart := false }
def ClockNumbersSaid : Prop := clockNumbersRow.holds Try.pinned (OpenSpec.ofChange clockNumbersSpec)

/-- ITS FALSE NEIGHBOUR: 'it returns false'. Refute it at one input. -/
def clockNumbersWrong : ChangeSpec := { name := "clockNumbers", fn := fun _ => fun
  | [] => { results := [.lit (.bool false)], args := [] }
  | _ => none }
def ClockNumbersWrongFalsely : Prop := clockNumbersRow.holds Try.pinned (OpenSpec.ofChange clockNumbersWrong)

/-- 'cooperagelaw08.ClockPlays': WHATEVER THE INPUT: true; the input reads as it did. -/
def clockPlaysSpec : ChangeSpec := { name := "clockPlays", fn := fun _ => fun
  | [d1, d2] => { results := [.lit (.bool true)], args := [d1, d2] }
  | _ => none }
def clockPlaysRow : OpenClaim := { program := "ytecodhbbobhidaa", sum := "ff40cfda65ec068813fa70eb005d9c8e4de67eab40c60b6a7e23567c9bf9f028", func := "cooperage/cooperagelaw08.ClockPlays", spec := "clockPlays", unfollowed := true, recurses := true, apart := false }
def ClockPlaysSaid : Prop := clockPlaysRow.holds Try.pinned (OpenSpec.ofChange clockPlaysSpec)

/-- ITS FALSE NEIGHBOUR: 'it returns false'. Refute it at one input. -/
def clockPlaysWrong : ChangeSpec := { name := "clockPlays", fn := fun _ => fun
  | [d1, d2] => { results := [.lit (.bool false)], args := [d1, d2] }
  | _ => none }
def ClockPlaysWrongFalsely : Prop := clockPlaysRow.holds Try.pinned (OpenSpec.ofChange clockPlaysWrong)

/-- 'cooperagelaw08.ClockNone': WHATEVER THE INPUT: true; the input reads as it did. -/
def clockNoneSpec : ChangeSpec := { name := "clockNone", fn := fun _ => fun
  | [d1, d2] => { results := [.lit (.bool true)], args := [d1, d2] }
  | _ => none }
def clockNoneRow : OpenClaim := { program := "ytecodhbbobhidaa", sum := "ff40cfda65ec068813fa70eb005d9c8e4de67eab40c60b6a7e23567c9bf9f028", func := "cooperage/cooperagelaw08.ClockNone", spec := "clockNone", unfollowed := true, recurses := true, apart := false }
def ClockNoneSaid : Prop := clockNoneRow.holds Try.pinned (OpenSpec.ofChange clockNoneSpec)

/-- ITS FALSE NEIGHBOUR: 'it returns false'. Refute it at one input. -/
def clockNoneWrong : ChangeSpec := { name := "clockNone", fn := fun _ => fun
  | [d1, d2] => { results := [.lit (.bool false)], args := [d1, d2] }
  | _ => none }
def ClockNoneWrongFalsely : Prop := clockNoneRow.holds Try.pinned (OpenSpec.ofChange clockNoneWrong)

/-- 'cooperagelaw08.ClockOnce': WHATEVER THE INPUT: true; the input reads as it did. -/
def clockOnceSpec : ChangeSpec := { name := "clockOnce", fn := fun _ => fun
  | [d] => { results := [.lit (.bool true)], args := [d] }
  | _ => none }
def clockOnceRow : OpenClaim := { program := "ytecodhbbobhidaa", sum := "ff40cfda65ec068813fa70eb005d9c8e4de67eab40c60b6a7e23567c9bf9f028", func := "cooperage/cooperagelaw08.ClockOnce", spec := "clockOnce", unfollowed := true, recurses := true, apart := false }
def ClockOnceSaid : Prop := clockOnceRow.holds Try.pinned (OpenSpec.ofChange clockOnceSpec)

/-- ITS FALSE NEIGHBOUR: 'it returns false'. Refute it at one input. -/
def clockOnceWrong : ChangeSpec := { name := "clockOnce", fn := fun _ => fun
  | [d] => { results := [.lit (.bool false)], args := [d] }
  | _ => none }
def ClockOnceWrongFalsely : Prop := clockOnceRow.holds Try.pinned (OpenSpec.ofChange clockOnceWrong)

/-- 'cooperagelaw08.ClockSkips': WHATEVER THE INPUT: true; the input reads as it did. -/
def clockSkipsSpec : ChangeSpec := { name := "clockSkips", fn := fun _ => fun
  | [d] => { results := [.lit (.bool true)], args := [d] }
  | _ => none }
def clockSkipsRow : OpenClaim := { program := "ytecodhbbobhidaa", sum := "ff40cfda65ec068813fa70eb005d9c8e4de67eab40c60b6a7e23567c9bf9f028", func := "cooperage/cooperagelaw08.ClockSkips", spec := "clockSkips", unfollowed := true, recurses := true, apart := false }
def ClockSkipsSaid : Prop := clockSkipsRow.holds Try.pinned (OpenSpec.ofChange clockSkipsSpec)

/-- ITS FALSE NEIGHBOUR: 'it returns false'. Refute it at one input. -/
def clockSkipsWrong : ChangeSpec := { name := "clockSkips", fn := fun _ => fun
  | [d] => { results := [.lit (.bool false)], args := [d] }
  | _ => none }
def ClockSkipsWrongFalsely : Prop := clockSkipsRow.holds Try.pinned (OpenSpec.ofChange clockSkipsWrong)

/-- 'cooperagelaw08.ClockAnew': WHATEVER THE INPUT: true; the input reads as it did. -/
def clockAnewSpec : ChangeSpec := { name := "clockAnew", fn := fun _ => fun
  | [d1, d2, d3, d4] => { results := [.lit (.bool true)], args := [d1, d2, d3, d4] }
  | _ => none }
def clockAnewRow : OpenClaim := { program := "ytecodhbbobhidaa", sum := "ff40cfda65ec068813fa70eb005d9c8e4de67eab40c60b6a7e23567c9bf9f028", func := "cooperage/cooperagelaw08.ClockAnew", spec := "clockAnew", unfollowed := true, recurses := true, apart := false }
def ClockAnewSaid : Prop := clockAnewRow.holds Try.pinned (OpenSpec.ofChange clockAnewSpec)

/-- ITS FALSE NEIGHBOUR: 'it returns false'. Refute it at one input. -/
def clockAnewWrong : ChangeSpec := { name := "clockAnew", fn := fun _ => fun
  | [d1, d2, d3, d4] => { results := [.lit (.bool false)], args := [d1, d2, d3, d4] }
  | _ => none }
def ClockAnewWrongFalsely : Prop := clockAnewRow.holds Try.pinned (OpenSpec.ofChange clockAnewWrong)

/-- 'cooperagelaw08.ClockApart': WHATEVER THE INPUT: true; the input reads as it did. -/
def clockApartSpec : ChangeSpec := { name := "clockApart", fn := fun _ => fun
  | [d1, d2] => { results := [.lit (.bool true)], args := [d1, d2] }
  | _ => none }
def clockApartRow : OpenClaim := { program := "ytecodhbbobhidaa", sum := "ff40cfda65ec068813fa70eb005d9c8e4de67eab40c60b6a7e23567c9bf9f028", func := "cooperage/cooperagelaw08.ClockApart", spec := "clockApart", unfollowed := true, recurses := true, apart := false }
def ClockApartSaid : Prop := clockApartRow.holds Try.pinned (OpenSpec.ofChange clockApartSpec)

/-- ITS FALSE NEIGHBOUR: 'it returns false'. Refute it at one input. -/
def clockApartWrong : ChangeSpec := { name := "clockApart", fn := fun _ => fun
  | [d1, d2] => { results := [.lit (.bool false)], args := [d1, d2] }
  | _ => none }
def ClockApartWrongFalsely : Prop := clockApartRow.holds Try.pinned (OpenSpec.ofChange clockApartWrong)

/- THE SECOND FORM. 'bulk': how many values and letters a reading holds, each counted each time it is reached (what is shared counts as often as it is met; a slice's spare places count too). A statement '..UptoSaid' is the law's where the arguments, and the package variables that the reading takes, are together of bulk at most 1048576: NARROWER than '..Said'. Prove '..Said' where nothing that the law and all that it calls make is longer than what came in: it says more and counts as full. Else prove '..UptoSaid'. A law counts once. -/
mutual
def uptoBulk {H : Type} : DataW H → Nat
  | .lit (.string bytes) => bytes.length + 1
  | .lit _ => 1
  | .nil => 1
  | .ptr d => uptoBulk d + 1
  | .slice elems spare => uptoBulkAll elems + uptoBulkAll spare + 1
  | .agg parts => uptoBulkAll parts + 1
  | .iface _ d => uptoBulk d + 1
  | .map entries => uptoBulkEntries entries + 1
  | .held _ => 1
def uptoBulkAll {H : Type} : List (DataW H) → Nat
  | [] => 0
  | d :: r => uptoBulk d + uptoBulkAll r
def uptoBulkEntries {H : Type} : List (Lit × DataW H) → Nat
  | [] => 0
  | x :: r => uptoBulkEntry x + uptoBulkEntries r
def uptoBulkEntry {H : Type} : Lit × DataW H → Nat
  | (.string bytes, d) => bytes.length + uptoBulk d + 1
  | (_, d) => uptoBulk d + 1
 end
def uptoSmall : (H : Type) → List (DataW H) → Bool := fun _ ds => decide (uptoBulkAll ds ≤ 1048576)
def OpenSpec.upto (s : _root_.Go.ChangeSpec) : _root_.Go.OpenSpec := { _root_.Go.OpenSpec.ofChange s with cond := some uptoSmall }

/-- 'cooperagelaw08.ClockNumbers', WHERE WHAT IT READS IS OF BULK AT MOST 1048576: true; the input reads as it did. -/
def clockNumbersUptoRow : OpenClaim := { program := "ytecodhbbobhidaa", sum := "ff40cfda65ec068813fa70eb005d9c8e4de67eab40c60b6a7e23567c9bf9f028", func := "cooperage/cooperagelaw08.ClockNumbers", spec := "clockNumbers", unfollowed := true, recurses := true, apart := false, narrowed := true }
def ClockNumbersUptoSaid : Prop := clockNumbersUptoRow.holds Try.pinned (OpenSpec.upto clockNumbersSpec)

/-- 'cooperagelaw08.ClockPlays', WHERE WHAT IT READS IS OF BULK AT MOST 1048576: true; the input reads as it did. -/
def clockPlaysUptoRow : OpenClaim := { program := "ytecodhbbobhidaa", sum := "ff40cfda65ec068813fa70eb005d9c8e4de67eab40c60b6a7e23567c9bf9f028", func := "cooperage/cooperagelaw08.ClockPlays", spec := "clockPlays", unfollowed := true, recurses := true, apart := false, narrowed := true }
def ClockPlaysUptoSaid : Prop := clockPlaysUptoRow.holds Try.pinned (OpenSpec.upto clockPlaysSpec)

/-- 'cooperagelaw08.ClockNone', WHERE WHAT IT READS IS OF BULK AT MOST 1048576: true; the input reads as it did. -/
def clockNoneUptoRow : OpenClaim := { program := "ytecodhbbobhidaa", sum := "ff40cfda65ec068813fa70eb005d9c8e4de67eab40c60b6a7e23567c9bf9f028", func := "cooperage/cooperagelaw08.ClockNone", spec := "clockNone", unfollowed := true, recurses := true, apart := false, narrowed := true }
def ClockNoneUptoSaid : Prop := clockNoneUptoRow.holds Try.pinned (OpenSpec.upto clockNoneSpec)

/-- 'cooperagelaw08.ClockOnce', WHERE WHAT IT READS IS OF BULK AT MOST 1048576: true; the input reads as it did. -/
def clockOnceUptoRow : OpenClaim := { program := "ytecodhbbobhidaa", sum := "ff40cfda65ec068813fa70eb005d9c8e4de67eab40c60b6a7e23567c9bf9f028", func := "cooperage/cooperagelaw08.ClockOnce", spec := "clockOnce", unfollowed := true, recurses := true, apart := false, narrowed := true }
def ClockOnceUptoSaid : Prop := clockOnceUptoRow.holds Try.pinned (OpenSpec.upto clockOnceSpec)

/-- 'cooperagelaw08.ClockSkips', WHERE WHAT IT READS IS OF BULK AT MOST 1048576: true; the input reads as it did. -/
def clockSkipsUptoRow : OpenClaim := { program := "ytecodhbbobhidaa", sum := "ff40cfda65ec068813fa70eb005d9c8e4de67eab40c60b6a7e23567c9bf9f028", func := "cooperage/cooperagelaw08.ClockSkips", spec := "clockSkips", unfollowed := true, recurses := true, apart := false, narrowed := true }
def ClockSkipsUptoSaid : Prop := clockSkipsUptoRow.holds Try.pinned (OpenSpec.upto clockSkipsSpec)

/-- 'cooperagelaw08.ClockAnew', WHERE WHAT IT READS IS OF BULK AT MOST 1048576: true; the input reads as it did. -/
def clockAnewUptoRow : OpenClaim := { program := "ytecodhbbobhidaa", sum := "ff40cfda65ec068813fa70eb005d9c8e4de67eab40c60b6a7e23567c9bf9f028", func := "cooperage/cooperagelaw08.ClockAnew", spec := "clockAnew", unfollowed := true, recurses := true, apart := false, narrowed := true }
def ClockAnewUptoSaid : Prop := clockAnewUptoRow.holds Try.pinned (OpenSpec.upto clockAnewSpec)

/-- 'cooperagelaw08.ClockApart', WHERE WHAT IT READS IS OF BULK AT MOST 1048576: true; the input reads as it did. -/
def clockApartUptoRow : OpenClaim := { program := "ytecodhbbobhidaa", sum := "ff40cfda65ec068813fa70eb005d9c8e4de67eab40c60b6a7e23567c9bf9f028", func := "cooperage/cooperagelaw08.ClockApart", spec := "clockApart", unfollowed := true, recurses := true, apart := false, narrowed := true }
def ClockApartUptoSaid : Prop := clockApartUptoRow.holds Try.pinned (OpenSpec.upto clockApartSpec)

end Rows
end Go.Proofs.Ytecodhbbobhidaa
