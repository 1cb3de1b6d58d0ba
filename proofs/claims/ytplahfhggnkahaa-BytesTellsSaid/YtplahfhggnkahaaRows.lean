/-
  No cell of these rows narrows 'for every input' (looked for: loops, veiled, ifaces, maps, wideKeys, modest, calm, conditions, laid).
  DERIVED. THE GIVEN ROWS OF THIS SEAT. 7 by the template 'for every input the law returns true; each argument reads behind the call as it read before'; 0 by the template 'total and deterministic' (their statements: YtplahfhggnkahaaTotals.lean).
  GIVEN WITH THE SEED: the statements are not yours to turn. If you find one false, say at which input.
  Laid BY PROGRAM, IN A SANDBOX (cutbox-rows.mjs): the forced cells as the released guide's own fill.sh prints them over the translation 14d62ca9f6c13ae3… (all of the seat's roots in one cut). By AI agents, Wed Nov 11 2026. No macro, syntax, notation, axiom, sorry.
-/
import Derived.Test.YtplahfhggnkahaaChecked
import GoSem.Claim
import GoSem.ClaimJoined
import GoSem.ClaimMapViews
import Derived.JoinedTies
import Derived.KernelRfl
namespace Go.Proofs.Ytplahfhggnkahaa
/- THE CELL 'sum', in the pinned program and in every row, IS THE sha256 OF THE DUMP (.gsa) THAT YtplahfhggnkahaaProg.lean LOADS. Nothing in Lean hashes anything: it is a label: what it is worth is what the hold of that sum in a sandbox is worth. -/
noncomputable def Try.pinned : Pinned := { name := "ytplahfhggnkahaa", sum := "14d62ca9f6c13ae3de9de3982bc4f565cffc53dac36697b33c63f58e7dfec28a", checked := Try.checked }
namespace Rows
def none {H : Type} : Left H := { results := [], args := [] }

/-- 'cooperagelaw01.BytesEcho': WHATEVER THE INPUT: true; the input reads as it did. -/
def bytesEchoSpec : ChangeSpec := { name := "bytesEcho", fn := fun _ => fun
  | [d1, d2, d3] => { results := [.lit (.bool true)], args := [d1, d2, d3] }
  | _ => none }
def bytesEchoRow : OpenClaim := { program := "ytplahfhggnkahaa", sum := "14d62ca9f6c13ae3de9de3982bc4f565cffc53dac36697b33c63f58e7dfec28a", func := "cooperage/cooperagelaw01.BytesEcho", spec := "bytesEcho", apart := false }
def BytesEchoSaid : Prop := bytesEchoRow.holds Try.pinned (OpenSpec.ofChange bytesEchoSpec)

/-- ITS FALSE NEIGHBOUR: 'it returns false'. Refute it at one input. -/
def bytesEchoWrong : ChangeSpec := { name := "bytesEcho", fn := fun _ => fun
  | [d1, d2, d3] => { results := [.lit (.bool false)], args := [d1, d2, d3] }
  | _ => none }
def BytesEchoWrongFalsely : Prop := bytesEchoRow.holds Try.pinned (OpenSpec.ofChange bytesEchoWrong)

/-- 'cooperagelaw01.BytesWeigh': WHATEVER THE INPUT: true; the input reads as it did. -/
def bytesWeighSpec : ChangeSpec := { name := "bytesWeigh", fn := fun _ => fun
  | [d] => { results := [.lit (.bool true)], args := [d] }
  | _ => none }
def bytesWeighRow : OpenClaim := { program := "ytplahfhggnkahaa", sum := "14d62ca9f6c13ae3de9de3982bc4f565cffc53dac36697b33c63f58e7dfec28a", func := "cooperage/cooperagelaw01.BytesWeigh", spec := "bytesWeigh", apart := false }
def BytesWeighSaid : Prop := bytesWeighRow.holds Try.pinned (OpenSpec.ofChange bytesWeighSpec)

/-- ITS FALSE NEIGHBOUR: 'it returns false'. Refute it at one input. -/
def bytesWeighWrong : ChangeSpec := { name := "bytesWeigh", fn := fun _ => fun
  | [d] => { results := [.lit (.bool false)], args := [d] }
  | _ => none }
def BytesWeighWrongFalsely : Prop := bytesWeighRow.holds Try.pinned (OpenSpec.ofChange bytesWeighWrong)

/-- 'cooperagelaw01.BytesPairs': WHATEVER THE INPUT: true; the input reads as it did. -/
def bytesPairsSpec : ChangeSpec := { name := "bytesPairs", fn := fun _ => fun
  | [d1, d2, d3, d4, d5] => { results := [.lit (.bool true)], args := [d1, d2, d3, d4, d5] }
  | _ => none }
def bytesPairsRow : OpenClaim := { program := "ytplahfhggnkahaa", sum := "14d62ca9f6c13ae3de9de3982bc4f565cffc53dac36697b33c63f58e7dfec28a", func := "cooperage/cooperagelaw01.BytesPairs", spec := "bytesPairs", apart := false }
def BytesPairsSaid : Prop := bytesPairsRow.holds Try.pinned (OpenSpec.ofChange bytesPairsSpec)

/-- ITS FALSE NEIGHBOUR: 'it returns false'. Refute it at one input. -/
def bytesPairsWrong : ChangeSpec := { name := "bytesPairs", fn := fun _ => fun
  | [d1, d2, d3, d4, d5] => { results := [.lit (.bool false)], args := [d1, d2, d3, d4, d5] }
  | _ => none }
def BytesPairsWrongFalsely : Prop := bytesPairsRow.holds Try.pinned (OpenSpec.ofChange bytesPairsWrong)

/-- 'cooperagelaw01.BytesTails': WHATEVER THE INPUT: true; the input reads as it did. -/
def bytesTailsSpec : ChangeSpec := { name := "bytesTails", fn := fun _ => fun
  | [d1, d2, d3] => { results := [.lit (.bool true)], args := [d1, d2, d3] }
  | _ => none }
def bytesTailsRow : OpenClaim := { program := "ytplahfhggnkahaa", sum := "14d62ca9f6c13ae3de9de3982bc4f565cffc53dac36697b33c63f58e7dfec28a", func := "cooperage/cooperagelaw01.BytesTails", spec := "bytesTails", apart := false }
def BytesTailsSaid : Prop := bytesTailsRow.holds Try.pinned (OpenSpec.ofChange bytesTailsSpec)

/-- ITS FALSE NEIGHBOUR: 'it returns false'. Refute it at one input. -/
def bytesTailsWrong : ChangeSpec := { name := "bytesTails", fn := fun _ => fun
  | [d1, d2, d3] => { results := [.lit (.bool false)], args := [d1, d2, d3] }
  | _ => none }
def BytesTailsWrongFalsely : Prop := bytesTailsRow.holds Try.pinned (OpenSpec.ofChange bytesTailsWrong)

/-- 'cooperagelaw01.BytesNumbers': WHATEVER THE INPUT: true; the input reads as it did. -/
def bytesNumbersSpec : ChangeSpec := { name := "bytesNumbers", fn := fun _ => fun
  | [] => { results := [.lit (.bool true)], args := [] }
  | _ => none }
def bytesNumbersRow : OpenClaim := { program := "ytplahfhggnkahaa", sum := "14d62ca9f6c13ae3de9de3982bc4f565cffc53dac36697b33c63f58e7dfec28a", func := "cooperage/cooperagelaw01.BytesNumbers", spec := "bytesNumbers", apart := false }
def BytesNumbersSaid : Prop := bytesNumbersRow.holds Try.pinned (OpenSpec.ofChange bytesNumbersSpec)

/-- ITS FALSE NEIGHBOUR: 'it returns false'. Refute it at one input. -/
def bytesNumbersWrong : ChangeSpec := { name := "bytesNumbers", fn := fun _ => fun
  | [] => { results := [.lit (.bool false)], args := [] }
  | _ => none }
def BytesNumbersWrongFalsely : Prop := bytesNumbersRow.holds Try.pinned (OpenSpec.ofChange bytesNumbersWrong)

/-- 'cooperagelaw01.BytesTells': WHATEVER THE INPUT: true; the input reads as it did. -/
def bytesTellsSpec : ChangeSpec := { name := "bytesTells", fn := fun _ => fun
  | [d1, d2, d3, d4, d5] => { results := [.lit (.bool true)], args := [d1, d2, d3, d4, d5] }
  | _ => none }
def bytesTellsRow : OpenClaim := { program := "ytplahfhggnkahaa", sum := "14d62ca9f6c13ae3de9de3982bc4f565cffc53dac36697b33c63f58e7dfec28a", func := "cooperage/cooperagelaw01.BytesTells", spec := "bytesTells", apart := false }
def BytesTellsSaid : Prop := bytesTellsRow.holds Try.pinned (OpenSpec.ofChange bytesTellsSpec)

/-- ITS FALSE NEIGHBOUR: 'it returns false'. Refute it at one input. -/
def bytesTellsWrong : ChangeSpec := { name := "bytesTells", fn := fun _ => fun
  | [d1, d2, d3, d4, d5] => { results := [.lit (.bool false)], args := [d1, d2, d3, d4, d5] }
  | _ => none }
def BytesTellsWrongFalsely : Prop := bytesTellsRow.holds Try.pinned (OpenSpec.ofChange bytesTellsWrong)

/-- 'cooperagelaw01.BytesParcels': WHATEVER THE INPUT: true; the input reads as it did. -/
def bytesParcelsSpec : ChangeSpec := { name := "bytesParcels", fn := fun _ => fun
  | [d1, d2, d3] => { results := [.lit (.bool true)], args := [d1, d2, d3] }
  | _ => none }
def bytesParcelsRow : OpenClaim := { program := "ytplahfhggnkahaa", sum := "14d62ca9f6c13ae3de9de3982bc4f565cffc53dac36697b33c63f58e7dfec28a", func := "cooperage/cooperagelaw01.BytesParcels", spec := "bytesParcels", apart := false }
def BytesParcelsSaid : Prop := bytesParcelsRow.holds Try.pinned (OpenSpec.ofChange bytesParcelsSpec)

/-- ITS FALSE NEIGHBOUR: 'it returns false'. Refute it at one input. -/
def bytesParcelsWrong : ChangeSpec := { name := "bytesParcels", fn := fun _ => fun
  | [d1, d2, d3] => { results := [.lit (.bool false)], args := [d1, d2, d3] }
  | _ => none }
def BytesParcelsWrongFalsely : Prop := bytesParcelsRow.holds Try.pinned (OpenSpec.ofChange bytesParcelsWrong)

/- THE SECOND FORM. 'bulk': how many values and letters a reading holds, each counted each time it is reached (what is shared counts as often as it is met; a slice's spare places count too). A statement '..UptoSaid' is the law's where the arguments, and the package variables that the reading takes, are together of bulk at most 1048576: NARROWER than '..Said'. Prove '..Said' where nothing that the law and all that it calls make is longer than what came in: it says more and counts as full. Else prove '..UptoSaid'. A law counts once. -/
mutual
def uptoBulk {H : Type} : DataW H → Nat
  | .lit (.string bytes) => bytes.length + 1
  | .lit _ => 1
  | .nil => 1
  | .ptr d => uptoBulk d + 1
  | .slice elems spare => uptoBulkAll elems + uptoBulkAll spare + 1
  | .agg parts => uptoBulkAll parts + 1
  | .iface _ d => uptoBulk d + 1
  | .map entries => uptoBulkEntries entries + 1
  | .held _ => 1
def uptoBulkAll {H : Type} : List (DataW H) → Nat
  | [] => 0
  | d :: r => uptoBulk d + uptoBulkAll r
def uptoBulkEntries {H : Type} : List (Lit × DataW H) → Nat
  | [] => 0
  | x :: r => uptoBulkEntry x + uptoBulkEntries r
def uptoBulkEntry {H : Type} : Lit × DataW H → Nat
  | (.string bytes, d) => bytes.length + uptoBulk d + 1
  | (_, d) => uptoBulk d + 1
 end
def uptoSmall : (H : Type) → List (DataW H) → Bool := fun _ ds => decide (uptoBulkAll ds ≤ 1048576)
def OpenSpec.upto (s : _root_.Go.ChangeSpec) : _root_.Go.OpenSpec := { _root_.Go.OpenSpec.ofChange s with cond := some uptoSmall }

/-- 'cooperagelaw01.BytesEcho', WHERE WHAT IT READS IS OF BULK AT MOST 1048576: true; the input reads as it did. -/
def bytesEchoUptoRow : OpenClaim := { program := "ytplahfhggnkahaa", sum := "14d62ca9f6c13ae3de9de3982bc4f565cffc53dac36697b33c63f58e7dfec28a", func := "cooperage/cooperagelaw01.BytesEcho", spec := "bytesEcho", apart := false, narrowed := true }
def BytesEchoUptoSaid : Prop := bytesEchoUptoRow.holds Try.pinned (OpenSpec.upto bytesEchoSpec)

/-- 'cooperagelaw01.BytesWeigh', WHERE WHAT IT READS IS OF BULK AT MOST 1048576: true; the input reads as it did. -/
def bytesWeighUptoRow : OpenClaim := { program := "ytplahfhggnkahaa", sum := "14d62ca9f6c13ae3de9de3982bc4f565cffc53dac36697b33c63f58e7dfec28a", func := "cooperage/cooperagelaw01.BytesWeigh", spec := "bytesWeigh", apart := false, narrowed := true }
def BytesWeighUptoSaid : Prop := bytesWeighUptoRow.holds Try.pinned (OpenSpec.upto bytesWeighSpec)

/-- 'cooperagelaw01.BytesPairs', WHERE WHAT IT READS IS OF BULK AT MOST 1048576: true; the input reads as it did. -/
def bytesPairsUptoRow : OpenClaim := { program := "ytplahfhggnkahaa", sum := "14d62ca9f6c13ae3de9de3982bc4f565cffc53dac36697b33c63f58e7dfec28a", func := "cooperage/cooperagelaw01.BytesPairs", spec := "bytesPairs", apart := false, narrowed := true }
def BytesPairsUptoSaid : Prop := bytesPairsUptoRow.holds Try.pinned (OpenSpec.upto bytesPairsSpec)

/-- 'cooperagelaw01.BytesTails', WHERE WHAT IT READS IS OF BULK AT MOST 1048576: true; the input reads as it did. -/
def bytesTailsUptoRow : OpenClaim := { program := "ytplahfhggnkahaa", sum := "14d62ca9f6c13ae3de9de3982bc4f565cffc53dac36697b33c63f58e7dfec28a", func := "cooperage/cooperagelaw01.BytesTails", spec := "bytesTails", apart := false, narrowed := true }
def BytesTailsUptoSaid : Prop := bytesTailsUptoRow.holds Try.pinned (OpenSpec.upto bytesTailsSpec)

/-- 'cooperagelaw01.BytesNumbers', WHERE WHAT IT READS IS OF BULK AT MOST 1048576: true; the input reads as it did. -/
def bytesNumbersUptoRow : OpenClaim := { program := "ytplahfhggnkahaa", sum := "14d62ca9f6c13ae3de9de3982bc4f565cffc53dac36697b33c63f58e7dfec28a", func := "cooperage/cooperagelaw01.BytesNumbers", spec := "bytesNumbers", apart := false, narrowed := true }
def BytesNumbersUptoSaid : Prop := bytesNumbersUptoRow.holds Try.pinned (OpenSpec.upto bytesNumbersSpec)

/-- 'cooperagelaw01.BytesTells', WHERE WHAT IT READS IS OF BULK AT MOST 1048576: true; the input reads as it did. -/
def bytesTellsUptoRow : OpenClaim := { program := "ytplahfhggnkahaa", sum := "14d62ca9f6c13ae3de9de3982bc4f565cffc53dac36697b33c63f58e7dfec28a", func := "cooperage/cooperagelaw01.BytesTells", spec := "bytesTells", apart := false, narrowed := true }
def BytesTellsUptoSaid : Prop := bytesTellsUptoRow.holds Try.pinned (OpenSpec.upto bytesTellsSpec)

/-- 'cooperagelaw01.BytesParcels', WHERE WHAT IT READS IS OF BULK AT MOST 1048576: true; the input reads as it did. -/
def bytesParcelsUptoRow : OpenClaim := { program := "ytplahfhggnkahaa", sum := "14d62ca9f6c13ae3de9de3982bc4f565cffc53dac36697b33c63f58e7dfec28a", func := "cooperage/cooperagelaw01.BytesParcels", spec := "bytesParcels", apart := false, narrowed := true }
def BytesParcelsUptoSaid : Prop := bytesParcelsUptoRow.holds Try.pinned (OpenSpec.upto bytesParcelsSpec)

end Rows
end Go.Proofs.Ytplahfhggnkahaa
