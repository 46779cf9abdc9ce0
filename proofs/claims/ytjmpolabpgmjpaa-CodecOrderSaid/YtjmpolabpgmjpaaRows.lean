/-
  No cell of these rows narrows 'for every input' (looked for: loops, veiled, ifaces, maps, wideKeys, modest, calm, conditions, laid).
  DERIVED. THE GIVEN ROWS OF THIS SEAT. 8 by the template 'for every input the law returns true; each argument reads behind the call as it read before'; 0 by the template 'total and deterministic' (their statements: YtjmpolabpgmjpaaTotals.lean).
  GIVEN WITH THE SEED: the statements are not yours to turn. If you find one false, say at which input.
  Laid BY PROGRAM, IN A SANDBOX (cutbox-rows.mjs): the forced cells as the released guide's own fill.sh prints them over the translation d3db578b6fdafed3… (all of the seat's roots in one cut). By AI agents, Wed Nov 11 2026. No macro, syntax, notation, axiom, sorry.
-/
import Derived.Test.YtjmpolabpgmjpaaChecked
import GoSem.Claim
import GoSem.ClaimJoined
import GoSem.ClaimMapViews
import Derived.JoinedTies
import Derived.KernelRfl
namespace Go.Proofs.Ytjmpolabpgmjpaa
/- THE CELL 'sum', in the pinned program and in every row, IS THE sha256 OF THE DUMP (.gsa) THAT YtjmpolabpgmjpaaProg.lean LOADS. Nothing in Lean hashes anything: it is a label: what it is worth is what the hold of that sum in a sandbox is worth. -/
noncomputable def Try.pinned : Pinned := { name := "ytjmpolabpgmjpaa", sum := "d3db578b6fdafed3b47e0873732fcbabe2d9c3203f0c376443d76d2b6be1a9b9", checked := Try.checked }
namespace Rows
def none {H : Type} : Left H := { results := [], args := [] }

/-- 'pantilelaw7.CodecWrites': WHATEVER THE INPUT: true; the input reads as it did. -/
def codecWritesSpec : ChangeSpec := { name := "codecWrites", fn := fun _ => fun
  | [d] => { results := [.lit (.bool true)], args := [d] }
  | _ => none }
def codecWritesRow : OpenClaim := { program := "ytjmpolabpgmjpaa", sum := "d3db578b6fdafed3b47e0873732fcbabe2d9c3203f0c376443d76d2b6be1a9b9", func := "pantile/pantilelaw7.CodecWrites", spec := "codecWrites", inPlace := ["internal/bytealg.IndexByteString"], apart := false }
def CodecWritesSaid : Prop := codecWritesRow.holds Try.pinned (OpenSpec.ofChange codecWritesSpec)

/-- ITS FALSE NEIGHBOUR: 'it returns false'. Refute it at one input. -/
def codecWritesWrong : ChangeSpec := { name := "codecWrites", fn := fun _ => fun
  | [d] => { results := [.lit (.bool false)], args := [d] }
  | _ => none }
def CodecWritesWrongFalsely : Prop := codecWritesRow.holds Try.pinned (OpenSpec.ofChange codecWritesWrong)

/-- 'pantilelaw7.CodecOrder': WHATEVER THE INPUT: true; the input reads as it did. -/
def codecOrderSpec : ChangeSpec := { name := "codecOrder", fn := fun _ => fun
  | [d1, d2, d3] => { results := [.lit (.bool true)], args := [d1, d2, d3] }
  | _ => none }
def codecOrderRow : OpenClaim := { program := "ytjmpolabpgmjpaa", sum := "d3db578b6fdafed3b47e0873732fcbabe2d9c3203f0c376443d76d2b6be1a9b9", func := "pantile/pantilelaw7.CodecOrder", spec := "codecOrder", inPlace := ["internal/bytealg.IndexByteString"], apart := false }
def CodecOrderSaid : Prop := codecOrderRow.holds Try.pinned (OpenSpec.ofChange codecOrderSpec)

/-- ITS FALSE NEIGHBOUR: 'it returns false'. Refute it at one input. -/
def codecOrderWrong : ChangeSpec := { name := "codecOrder", fn := fun _ => fun
  | [d1, d2, d3] => { results := [.lit (.bool false)], args := [d1, d2, d3] }
  | _ => none }
def CodecOrderWrongFalsely : Prop := codecOrderRow.holds Try.pinned (OpenSpec.ofChange codecOrderWrong)

/-- 'pantilelaw7.CodecNumbers': WHATEVER THE INPUT: true; the input reads as it did. -/
def codecNumbersSpec : ChangeSpec := { name := "codecNumbers", fn := fun _ => fun
  | [d1, d2] => { results := [.lit (.bool true)], args := [d1, d2] }
  | _ => none }
def codecNumbersRow : OpenClaim := { program := "ytjmpolabpgmjpaa", sum := "d3db578b6fdafed3b47e0873732fcbabe2d9c3203f0c376443d76d2b6be1a9b9", func := "pantile/pantilelaw7.CodecNumbers", spec := "codecNumbers", inPlace := ["internal/bytealg.IndexByteString"], apart := false }
def CodecNumbersSaid : Prop := codecNumbersRow.holds Try.pinned (OpenSpec.ofChange codecNumbersSpec)

/-- ITS FALSE NEIGHBOUR: 'it returns false'. Refute it at one input. -/
def codecNumbersWrong : ChangeSpec := { name := "codecNumbers", fn := fun _ => fun
  | [d1, d2] => { results := [.lit (.bool false)], args := [d1, d2] }
  | _ => none }
def CodecNumbersWrongFalsely : Prop := codecNumbersRow.holds Try.pinned (OpenSpec.ofChange codecNumbersWrong)

/-- 'pantilelaw7.CodecAfter': WHATEVER THE INPUT: true; the input reads as it did. -/
def codecAfterSpec : ChangeSpec := { name := "codecAfter", fn := fun _ => fun
  | [d1, d2, d3] => { results := [.lit (.bool true)], args := [d1, d2, d3] }
  | _ => none }
def codecAfterRow : OpenClaim := { program := "ytjmpolabpgmjpaa", sum := "d3db578b6fdafed3b47e0873732fcbabe2d9c3203f0c376443d76d2b6be1a9b9", func := "pantile/pantilelaw7.CodecAfter", spec := "codecAfter", inPlace := ["internal/bytealg.IndexByteString"], apart := false }
def CodecAfterSaid : Prop := codecAfterRow.holds Try.pinned (OpenSpec.ofChange codecAfterSpec)

/-- ITS FALSE NEIGHBOUR: 'it returns false'. Refute it at one input. -/
def codecAfterWrong : ChangeSpec := { name := "codecAfter", fn := fun _ => fun
  | [d1, d2, d3] => { results := [.lit (.bool false)], args := [d1, d2, d3] }
  | _ => none }
def CodecAfterWrongFalsely : Prop := codecAfterRow.holds Try.pinned (OpenSpec.ofChange codecAfterWrong)

/-- 'pantilelaw7.CodecSpans': WHATEVER THE INPUT: true; the input reads as it did. -/
def codecSpansSpec : ChangeSpec := { name := "codecSpans", fn := fun _ => fun
  | [d1, d2, d3] => { results := [.lit (.bool true)], args := [d1, d2, d3] }
  | _ => none }
def codecSpansRow : OpenClaim := { program := "ytjmpolabpgmjpaa", sum := "d3db578b6fdafed3b47e0873732fcbabe2d9c3203f0c376443d76d2b6be1a9b9", func := "pantile/pantilelaw7.CodecSpans", spec := "codecSpans", inPlace := ["internal/bytealg.IndexByteString"], apart := false }
def CodecSpansSaid : Prop := codecSpansRow.holds Try.pinned (OpenSpec.ofChange codecSpansSpec)

/-- ITS FALSE NEIGHBOUR: 'it returns false'. Refute it at one input. -/
def codecSpansWrong : ChangeSpec := { name := "codecSpans", fn := fun _ => fun
  | [d1, d2, d3] => { results := [.lit (.bool false)], args := [d1, d2, d3] }
  | _ => none }
def CodecSpansWrongFalsely : Prop := codecSpansRow.holds Try.pinned (OpenSpec.ofChange codecSpansWrong)

/-- 'pantilelaw7.CodecCuts': WHATEVER THE INPUT: true; the input reads as it did. -/
def codecCutsSpec : ChangeSpec := { name := "codecCuts", fn := fun _ => fun
  | [d1, d2, d3] => { results := [.lit (.bool true)], args := [d1, d2, d3] }
  | _ => none }
def codecCutsRow : OpenClaim := { program := "ytjmpolabpgmjpaa", sum := "d3db578b6fdafed3b47e0873732fcbabe2d9c3203f0c376443d76d2b6be1a9b9", func := "pantile/pantilelaw7.CodecCuts", spec := "codecCuts", inPlace := ["internal/bytealg.IndexByteString"], apart := false }
def CodecCutsSaid : Prop := codecCutsRow.holds Try.pinned (OpenSpec.ofChange codecCutsSpec)

/-- ITS FALSE NEIGHBOUR: 'it returns false'. Refute it at one input. -/
def codecCutsWrong : ChangeSpec := { name := "codecCuts", fn := fun _ => fun
  | [d1, d2, d3] => { results := [.lit (.bool false)], args := [d1, d2, d3] }
  | _ => none }
def CodecCutsWrongFalsely : Prop := codecCutsRow.holds Try.pinned (OpenSpec.ofChange codecCutsWrong)

/-- 'pantilelaw7.CodecBack': WHATEVER THE INPUT: true; the input reads as it did. -/
def codecBackSpec : ChangeSpec := { name := "codecBack", fn := fun _ => fun
  | [d1, d2] => { results := [.lit (.bool true)], args := [d1, d2] }
  | _ => none }
def codecBackRow : OpenClaim := { program := "ytjmpolabpgmjpaa", sum := "d3db578b6fdafed3b47e0873732fcbabe2d9c3203f0c376443d76d2b6be1a9b9", func := "pantile/pantilelaw7.CodecBack", spec := "codecBack", inPlace := ["internal/bytealg.IndexByteString", "internal/bytealg.IndexByte"], apart := false }
def CodecBackSaid : Prop := codecBackRow.holds Try.pinned (OpenSpec.ofChange codecBackSpec)

/-- ITS FALSE NEIGHBOUR: 'it returns false'. Refute it at one input. -/
def codecBackWrong : ChangeSpec := { name := "codecBack", fn := fun _ => fun
  | [d1, d2] => { results := [.lit (.bool false)], args := [d1, d2] }
  | _ => none }
def CodecBackWrongFalsely : Prop := codecBackRow.holds Try.pinned (OpenSpec.ofChange codecBackWrong)

/-- 'pantilelaw7.CodecReads': WHATEVER THE INPUT: true; the input reads as it did. -/
def codecReadsSpec : ChangeSpec := { name := "codecReads", fn := fun _ => fun
  | [d] => { results := [.lit (.bool true)], args := [d] }
  | _ => none }
def codecReadsRow : OpenClaim := { program := "ytjmpolabpgmjpaa", sum := "d3db578b6fdafed3b47e0873732fcbabe2d9c3203f0c376443d76d2b6be1a9b9", func := "pantile/pantilelaw7.CodecReads", spec := "codecReads", inPlace := ["internal/bytealg.IndexByteString", "internal/bytealg.IndexByte"], apart := false }
def CodecReadsSaid : Prop := codecReadsRow.holds Try.pinned (OpenSpec.ofChange codecReadsSpec)

/-- ITS FALSE NEIGHBOUR: 'it returns false'. Refute it at one input. -/
def codecReadsWrong : ChangeSpec := { name := "codecReads", fn := fun _ => fun
  | [d] => { results := [.lit (.bool false)], args := [d] }
  | _ => none }
def CodecReadsWrongFalsely : Prop := codecReadsRow.holds Try.pinned (OpenSpec.ofChange codecReadsWrong)

/- THE SECOND FORM. 'bulk': how many values and letters a reading holds, each counted each time it is reached (what is shared counts as often as it is met; a slice's spare places count too). A statement '..UptoSaid' is the law's where the arguments, and the package variables that the reading takes, are together of bulk at most 1048576: NARROWER than '..Said'. Prove '..Said' where nothing that the law and all that it calls make is longer than what came in: it says more and counts as full. Else prove '..UptoSaid'. A law counts once. -/
mutual
def uptoBulk {H : Type} : DataW H → Nat
  | .lit (.string bytes) => bytes.length + 1
  | .lit _ => 1
  | .nil => 1
  | .ptr d => uptoBulk d + 1
  | .slice elems spare => uptoBulkAll elems + uptoBulkAll spare + 1
  | .agg parts => uptoBulkAll parts + 1
  | .iface _ d => uptoBulk d + 1
  | .map entries => uptoBulkEntries entries + 1
  | .held _ => 1
def uptoBulkAll {H : Type} : List (DataW H) → Nat
  | [] => 0
  | d :: r => uptoBulk d + uptoBulkAll r
def uptoBulkEntries {H : Type} : List (Lit × DataW H) → Nat
  | [] => 0
  | x :: r => uptoBulkEntry x + uptoBulkEntries r
def uptoBulkEntry {H : Type} : Lit × DataW H → Nat
  | (.string bytes, d) => bytes.length + uptoBulk d + 1
  | (_, d) => uptoBulk d + 1
 end
def uptoSmall : (H : Type) → List (DataW H) → Bool := fun _ ds => decide (uptoBulkAll ds ≤ 1048576)
def OpenSpec.upto (s : _root_.Go.ChangeSpec) : _root_.Go.OpenSpec := { _root_.Go.OpenSpec.ofChange s with cond := some uptoSmall }

/-- 'pantilelaw7.CodecWrites', WHERE WHAT IT READS IS OF BULK AT MOST 1048576: true; the input reads as it did. -/
def codecWritesUptoRow : OpenClaim := { program := "ytjmpolabpgmjpaa", sum := "d3db578b6fdafed3b47e0873732fcbabe2d9c3203f0c376443d76d2b6be1a9b9", func := "pantile/pantilelaw7.CodecWrites", spec := "codecWrites", inPlace := ["internal/bytealg.IndexByteString"], apart := false, narrowed := true }
def CodecWritesUptoSaid : Prop := codecWritesUptoRow.holds Try.pinned (OpenSpec.upto codecWritesSpec)

/-- 'pantilelaw7.CodecOrder', WHERE WHAT IT READS IS OF BULK AT MOST 1048576: true; the input reads as it did. -/
def codecOrderUptoRow : OpenClaim := { program := "ytjmpolabpgmjpaa", sum := "d3db578b6fdafed3b47e0873732fcbabe2d9c3203f0c376443d76d2b6be1a9b9", func := "pantile/pantilelaw7.CodecOrder", spec := "codecOrder", inPlace := ["internal/bytealg.IndexByteString"], apart := false, narrowed := true }
def CodecOrderUptoSaid : Prop := codecOrderUptoRow.holds Try.pinned (OpenSpec.upto codecOrderSpec)

/-- 'pantilelaw7.CodecNumbers', WHERE WHAT IT READS IS OF BULK AT MOST 1048576: true; the input reads as it did. -/
def codecNumbersUptoRow : OpenClaim := { program := "ytjmpolabpgmjpaa", sum := "d3db578b6fdafed3b47e0873732fcbabe2d9c3203f0c376443d76d2b6be1a9b9", func := "pantile/pantilelaw7.CodecNumbers", spec := "codecNumbers", inPlace := ["internal/bytealg.IndexByteString"], apart := false, narrowed := true }
def CodecNumbersUptoSaid : Prop := codecNumbersUptoRow.holds Try.pinned (OpenSpec.upto codecNumbersSpec)

/-- 'pantilelaw7.CodecAfter', WHERE WHAT IT READS IS OF BULK AT MOST 1048576: true; the input reads as it did. -/
def codecAfterUptoRow : OpenClaim := { program := "ytjmpolabpgmjpaa", sum := "d3db578b6fdafed3b47e0873732fcbabe2d9c3203f0c376443d76d2b6be1a9b9", func := "pantile/pantilelaw7.CodecAfter", spec := "codecAfter", inPlace := ["internal/bytealg.IndexByteString"], apart := false, narrowed := true }
def CodecAfterUptoSaid : Prop := codecAfterUptoRow.holds Try.pinned (OpenSpec.upto codecAfterSpec)

/-- 'pantilelaw7.CodecSpans', WHERE WHAT IT READS IS OF BULK AT MOST 1048576: true; the input reads as it did. -/
def codecSpansUptoRow : OpenClaim := { program := "ytjmpolabpgmjpaa", sum := "d3db578b6fdafed3b47e0873732fcbabe2d9c3203f0c376443d76d2b6be1a9b9", func := "pantile/pantilelaw7.CodecSpans", spec := "codecSpans", inPlace := ["internal/bytealg.IndexByteString"], apart := false, narrowed := true }
def CodecSpansUptoSaid : Prop := codecSpansUptoRow.holds Try.pinned (OpenSpec.upto codecSpansSpec)

/-- 'pantilelaw7.CodecCuts', WHERE WHAT IT READS IS OF BULK AT MOST 1048576: true; the input reads as it did. -/
def codecCutsUptoRow : OpenClaim := { program := "ytjmpolabpgmjpaa", sum := "d3db578b6fdafed3b47e0873732fcbabe2d9c3203f0c376443d76d2b6be1a9b9", func := "pantile/pantilelaw7.CodecCuts", spec := "codecCuts", inPlace := ["internal/bytealg.IndexByteString"], apart := false, narrowed := true }
def CodecCutsUptoSaid : Prop := codecCutsUptoRow.holds Try.pinned (OpenSpec.upto codecCutsSpec)

/-- 'pantilelaw7.CodecBack', WHERE WHAT IT READS IS OF BULK AT MOST 1048576: true; the input reads as it did. -/
def codecBackUptoRow : OpenClaim := { program := "ytjmpolabpgmjpaa", sum := "d3db578b6fdafed3b47e0873732fcbabe2d9c3203f0c376443d76d2b6be1a9b9", func := "pantile/pantilelaw7.CodecBack", spec := "codecBack", inPlace := ["internal/bytealg.IndexByteString", "internal/bytealg.IndexByte"], apart := false, narrowed := true }
def CodecBackUptoSaid : Prop := codecBackUptoRow.holds Try.pinned (OpenSpec.upto codecBackSpec)

/-- 'pantilelaw7.CodecReads', WHERE WHAT IT READS IS OF BULK AT MOST 1048576: true; the input reads as it did. -/
def codecReadsUptoRow : OpenClaim := { program := "ytjmpolabpgmjpaa", sum := "d3db578b6fdafed3b47e0873732fcbabe2d9c3203f0c376443d76d2b6be1a9b9", func := "pantile/pantilelaw7.CodecReads", spec := "codecReads", inPlace := ["internal/bytealg.IndexByteString", "internal/bytealg.IndexByte"], apart := false, narrowed := true }
def CodecReadsUptoSaid : Prop := codecReadsUptoRow.holds Try.pinned (OpenSpec.upto codecReadsSpec)

end Rows
end Go.Proofs.Ytjmpolabpgmjpaa
