/-
  No cell of these rows narrows 'for every input' (looked for: loops, veiled, ifaces, maps, wideKeys, modest, calm, conditions, laid).
  DERIVED. THE GIVEN ROWS OF THIS SEAT. 9 by the template 'for every input the law returns true; each argument reads behind the call as it read before'; 0 by the template 'total and deterministic' (their statements: YtbcijglbinaioaaTotals.lean).
  GIVEN WITH THE SEED: the statements are not yours to turn. If you find one false, say at which input.
  Laid BY PROGRAM, IN A SANDBOX (cutbox-rows.mjs): the forced cells as the released guide's own fill.sh prints them over the translation 03ee1fa1a0291297… (all of the seat's roots in one cut). By AI agents, Wed Nov 11 2026. No macro, syntax, notation, axiom, sorry.
-/
import Derived.Test.YtbcijglbinaioaaChecked
import GoSem.Claim
import GoSem.ClaimJoined
import GoSem.ClaimMapViews
import Derived.JoinedTies
import Derived.KernelRfl
namespace Go.Proofs.Ytbcijglbinaioaa
/- THE CELL 'sum', in the pinned program and in every row, IS THE sha256 OF THE DUMP (.gsa) THAT YtbcijglbinaioaaProg.lean LOADS. Nothing in Lean hashes anything: it is a label: what it is worth is what the hold of that sum in a sandbox is worth. -/
noncomputable def Try.pinned : Pinned := { name := "ytbcijglbinaioaa", sum := "03ee1fa1a02912975f4b84425032c6ca2f622bf5f813cde451f31448f8c93944", checked := Try.checked }
namespace Rows
def none {H : Type} : Left H := { results := [], args := [] }

/-- 'spiritlevellaw38.QueueChains': WHATEVER THE INPUT: true; the input reads as it did. -/
def queueChainsSpec : ChangeSpec := { name := "queueChains", fn := fun _ => fun
  | [d1, d2, d3, d4, d5] => { results := [.lit (.bool true)], args := [d1, d2, d3, d4, d5] }
  | _ => none }
def queueChainsRow : OpenClaim := { program := "ytbcijglbinaioaa", sum := "03ee1fa1a02912975f4b84425032c6ca2f622bf5f813cde451f31448f8c93944", func := "spiritlevel/spiritlevellaw38.QueueChains", spec := "queueChains", unfollowed := true, recurses := true, apart := false }
def QueueChainsSaid : Prop := queueChainsRow.holds Try.pinned (OpenSpec.ofChange queueChainsSpec)

/-- ITS FALSE NEIGHBOUR: 'it returns false'. Refute it at one input. -/
def queueChainsWrong : ChangeSpec := { name := "queueChains", fn := fun _ => fun
  | [d1, d2, d3, d4, d5] => { results := [.lit (.bool false)], args := [d1, d2, d3, d4, d5] }
  | _ => none }
def QueueChainsWrongFalsely : Prop := queueChainsRow.holds Try.pinned (OpenSpec.ofChange queueChainsWrong)

/-- 'spiritlevellaw37.FramesTells': WHATEVER THE INPUT: true; the input reads as it did. -/
def framesTellsSpec : ChangeSpec := { name := "framesTells", fn := fun _ => fun
  | [d1, d2, d3, d4, d5] => { results := [.lit (.bool true)], args := [d1, d2, d3, d4, d5] }
  | _ => none }
def framesTellsRow : OpenClaim := { program := "ytbcijglbinaioaa", sum := "03ee1fa1a02912975f4b84425032c6ca2f622bf5f813cde451f31448f8c93944", func := "spiritlevel/spiritlevellaw37.FramesTells", spec := "framesTells", unfollowed := true, recurses := true, apart := false }
def FramesTellsSaid : Prop := framesTellsRow.holds Try.pinned (OpenSpec.ofChange framesTellsSpec)

/-- ITS FALSE NEIGHBOUR: 'it returns false'. Refute it at one input. -/
def framesTellsWrong : ChangeSpec := { name := "framesTells", fn := fun _ => fun
  | [d1, d2, d3, d4, d5] => { results := [.lit (.bool false)], args := [d1, d2, d3, d4, d5] }
  | _ => none }
def FramesTellsWrongFalsely : Prop := framesTellsRow.holds Try.pinned (OpenSpec.ofChange framesTellsWrong)

/-- 'spiritlevellaw38.QueueTells': WHATEVER THE INPUT: true; the input reads as it did. -/
def queueTellsSpec : ChangeSpec := { name := "queueTells", fn := fun _ => fun
  | [d1, d2] => { results := [.lit (.bool true)], args := [d1, d2] }
  | _ => none }
def queueTellsRow : OpenClaim := { program := "ytbcijglbinaioaa", sum := "03ee1fa1a02912975f4b84425032c6ca2f622bf5f813cde451f31448f8c93944", func := "spiritlevel/spiritlevellaw38.QueueTells", spec := "queueTells", inPlace := ["slices.overlaps[spiritlevel/api.Wait]"], unfollowed := true, recurses := true, apart := false }
def QueueTellsSaid : Prop := queueTellsRow.holds Try.pinned (OpenSpec.ofChange queueTellsSpec)

/-- ITS FALSE NEIGHBOUR: 'it returns false'. Refute it at one input. -/
def queueTellsWrong : ChangeSpec := { name := "queueTells", fn := fun _ => fun
  | [d1, d2] => { results := [.lit (.bool false)], args := [d1, d2] }
  | _ => none }
def QueueTellsWrongFalsely : Prop := queueTellsRow.holds Try.pinned (OpenSpec.ofChange queueTellsWrong)

/-- 'spiritlevellaw39.ShrinkStates': WHATEVER THE INPUT: true; the input reads as it did. -/
def shrinkStatesSpec : ChangeSpec := { name := "shrinkStates", fn := fun _ => fun
  | [d1, d2, d3, d4] => { results := [.lit (.bool true)], args := [d1, d2, d3, d4] }
  | _ => none }
def shrinkStatesRow : OpenClaim := { program := "ytbcijglbinaioaa", sum := "03ee1fa1a02912975f4b84425032c6ca2f622bf5f813cde451f31448f8c93944", func := "spiritlevel/spiritlevellaw39.ShrinkStates", spec := "shrinkStates", unfollowed := true, recurses := true, apart := false }
def ShrinkStatesSaid : Prop := shrinkStatesRow.holds Try.pinned (OpenSpec.ofChange shrinkStatesSpec)

/-- ITS FALSE NEIGHBOUR: 'it returns false'. Refute it at one input. -/
def shrinkStatesWrong : ChangeSpec := { name := "shrinkStates", fn := fun _ => fun
  | [d1, d2, d3, d4] => { results := [.lit (.bool false)], args := [d1, d2, d3, d4] }
  | _ => none }
def ShrinkStatesWrongFalsely : Prop := shrinkStatesRow.holds Try.pinned (OpenSpec.ofChange shrinkStatesWrong)

/-- 'spiritlevellaw38.QueueFirst': WHATEVER THE INPUT: true; the input reads as it did. -/
def queueFirstSpec : ChangeSpec := { name := "queueFirst", fn := fun _ => fun
  | [d1, d2] => { results := [.lit (.bool true)], args := [d1, d2] }
  | _ => none }
def queueFirstRow : OpenClaim := { program := "ytbcijglbinaioaa", sum := "03ee1fa1a02912975f4b84425032c6ca2f622bf5f813cde451f31448f8c93944", func := "spiritlevel/spiritlevellaw38.QueueFirst", spec := "queueFirst", inPlace := ["slices.overlaps[spiritlevel/api.Wait]"], unfollowed := true, recurses := true, apart := false }
def QueueFirstSaid : Prop := queueFirstRow.holds Try.pinned (OpenSpec.ofChange queueFirstSpec)

/-- ITS FALSE NEIGHBOUR: 'it returns false'. Refute it at one input. -/
def queueFirstWrong : ChangeSpec := { name := "queueFirst", fn := fun _ => fun
  | [d1, d2] => { results := [.lit (.bool false)], args := [d1, d2] }
  | _ => none }
def QueueFirstWrongFalsely : Prop := queueFirstRow.holds Try.pinned (OpenSpec.ofChange queueFirstWrong)

/-- 'spiritlevellaw38.QueueBack': WHATEVER THE INPUT: true; the input reads as it did. -/
def queueBackSpec : ChangeSpec := { name := "queueBack", fn := fun _ => fun
  | [d1, d2] => { results := [.lit (.bool true)], args := [d1, d2] }
  | _ => none }
def queueBackRow : OpenClaim := { program := "ytbcijglbinaioaa", sum := "03ee1fa1a02912975f4b84425032c6ca2f622bf5f813cde451f31448f8c93944", func := "spiritlevel/spiritlevellaw38.QueueBack", spec := "queueBack", inPlace := ["slices.overlaps[spiritlevel/api.Wait]"], unfollowed := true, recurses := true, apart := false }
def QueueBackSaid : Prop := queueBackRow.holds Try.pinned (OpenSpec.ofChange queueBackSpec)

/-- ITS FALSE NEIGHBOUR: 'it returns false'. Refute it at one input. -/
def queueBackWrong : ChangeSpec := { name := "queueBack", fn := fun _ => fun
  | [d1, d2] => { results := [.lit (.bool false)], args := [d1, d2] }
  | _ => none }
def QueueBackWrongFalsely : Prop := queueBackRow.holds Try.pinned (OpenSpec.ofChange queueBackWrong)

/-- 'spiritlevellaw38.QueueRest': WHATEVER THE INPUT: true; the input reads as it did. -/
def queueRestSpec : ChangeSpec := { name := "queueRest", fn := fun _ => fun
  | [d1, d2, d3] => { results := [.lit (.bool true)], args := [d1, d2, d3] }
  | _ => none }
def queueRestRow : OpenClaim := { program := "ytbcijglbinaioaa", sum := "03ee1fa1a02912975f4b84425032c6ca2f622bf5f813cde451f31448f8c93944", func := "spiritlevel/spiritlevellaw38.QueueRest", spec := "queueRest", inPlace := ["slices.overlaps[spiritlevel/api.Wait]"], unfollowed := true, recurses := true, apart := false }
def QueueRestSaid : Prop := queueRestRow.holds Try.pinned (OpenSpec.ofChange queueRestSpec)

/-- ITS FALSE NEIGHBOUR: 'it returns false'. Refute it at one input. -/
def queueRestWrong : ChangeSpec := { name := "queueRest", fn := fun _ => fun
  | [d1, d2, d3] => { results := [.lit (.bool false)], args := [d1, d2, d3] }
  | _ => none }
def QueueRestWrongFalsely : Prop := queueRestRow.holds Try.pinned (OpenSpec.ofChange queueRestWrong)

/-- 'spiritlevellaw38.QueueNames': WHATEVER THE INPUT: true; the input reads as it did. -/
def queueNamesSpec : ChangeSpec := { name := "queueNames", fn := fun _ => fun
  | [] => { results := [.lit (.bool true)], args := [] }
  | _ => none }
def queueNamesRow : OpenClaim := { program := "ytbcijglbinaioaa", sum := "03ee1fa1a02912975f4b84425032c6ca2f622bf5f813cde451f31448f8c93944", func := "spiritlevel/spiritlevellaw38.QueueNames", spec := "queueNames", inPlace := ["slices.overlaps[spiritlevel/api.Wait]"], unfollowed := true, recurses := true, apart := false }
def QueueNamesSaid : Prop := queueNamesRow.holds Try.pinned (OpenSpec.ofChange queueNamesSpec)

/-- ITS FALSE NEIGHBOUR: 'it returns false'. Refute it at one input. -/
def queueNamesWrong : ChangeSpec := { name := "queueNames", fn := fun _ => fun
  | [] => { results := [.lit (.bool false)], args := [] }
  | _ => none }
def QueueNamesWrongFalsely : Prop := queueNamesRow.holds Try.pinned (OpenSpec.ofChange queueNamesWrong)

/-- 'spiritlevellaw38.QueueWitness': WHATEVER THE INPUT: true; the input reads as it did. -/
def queueWitnessSpec : ChangeSpec := { name := "queueWitness", fn := fun _ => fun
  | [d1, d2, d3, d4, d5] => { results := [.lit (.bool true)], args := [d1, d2, d3, d4, d5] }
  | _ => none }
def queueWitnessRow : OpenClaim := { program := "ytbcijglbinaioaa", sum := "03ee1fa1a02912975f4b84425032c6ca2f622bf5f813cde451f31448f8c93944", func := "spiritlevel/spiritlevellaw38.QueueWitness", spec := "queueWitness", inPlace := ["slices.overlaps[spiritlevel/api.Wait]"], unfollowed := true, recurses := true, apart := false }
def QueueWitnessSaid : Prop := queueWitnessRow.holds Try.pinned (OpenSpec.ofChange queueWitnessSpec)

/-- ITS FALSE NEIGHBOUR: 'it returns false'. Refute it at one input. -/
def queueWitnessWrong : ChangeSpec := { name := "queueWitness", fn := fun _ => fun
  | [d1, d2, d3, d4, d5] => { results := [.lit (.bool false)], args := [d1, d2, d3, d4, d5] }
  | _ => none }
def QueueWitnessWrongFalsely : Prop := queueWitnessRow.holds Try.pinned (OpenSpec.ofChange queueWitnessWrong)

/- THE SECOND FORM. 'bulk': how many values and letters a reading holds, each counted each time it is reached (what is shared counts as often as it is met; a slice's spare places count too). A statement '..UptoSaid' is the law's where the arguments, and the package variables that the reading takes, are together of bulk at most 1048576: NARROWER than '..Said'. Prove '..Said' where nothing that the law and all that it calls make is longer than what came in: it says more and counts as full. Else prove '..UptoSaid'. A law counts once. -/
mutual
def uptoBulk {H : Type} : DataW H → Nat
  | .lit (.string bytes) => bytes.length + 1
  | .lit _ => 1
  | .nil => 1
  | .ptr d => uptoBulk d + 1
  | .slice elems spare => uptoBulkAll elems + uptoBulkAll spare + 1
  | .agg parts => uptoBulkAll parts + 1
  | .iface _ d => uptoBulk d + 1
  | .map entries => uptoBulkEntries entries + 1
  | .held _ => 1
def uptoBulkAll {H : Type} : List (DataW H) → Nat
  | [] => 0
  | d :: r => uptoBulk d + uptoBulkAll r
def uptoBulkEntries {H : Type} : List (Lit × DataW H) → Nat
  | [] => 0
  | x :: r => uptoBulkEntry x + uptoBulkEntries r
def uptoBulkEntry {H : Type} : Lit × DataW H → Nat
  | (.string bytes, d) => bytes.length + uptoBulk d + 1
  | (_, d) => uptoBulk d + 1
 end
def uptoSmall : (H : Type) → List (DataW H) → Bool := fun _ ds => decide (uptoBulkAll ds ≤ 1048576)
def OpenSpec.upto (s : _root_.Go.ChangeSpec) : _root_.Go.OpenSpec := { _root_.Go.OpenSpec.ofChange s with cond := some uptoSmall }

/-- 'spiritlevellaw38.QueueChains', WHERE WHAT IT READS IS OF BULK AT MOST 1048576: true; the input reads as it did. -/
def queueChainsUptoRow : OpenClaim := { program := "ytbcijglbinaioaa", sum := "03ee1fa1a02912975f4b84425032c6ca2f622bf5f813cde451f31448f8c93944", func := "spiritlevel/spiritlevellaw38.QueueChains", spec := "queueChains", unfollowed := true, recurses := true, apart := false, narrowed := true }
def QueueChainsUptoSaid : Prop := queueChainsUptoRow.holds Try.pinned (OpenSpec.upto queueChainsSpec)

/-- 'spiritlevellaw37.FramesTells', WHERE WHAT IT READS IS OF BULK AT MOST 1048576: true; the input reads as it did. -/
def framesTellsUptoRow : OpenClaim := { program := "ytbcijglbinaioaa", sum := "03ee1fa1a02912975f4b84425032c6ca2f622bf5f813cde451f31448f8c93944", func := "spiritlevel/spiritlevellaw37.FramesTells", spec := "framesTells", unfollowed := true, recurses := true, apart := false, narrowed := true }
def FramesTellsUptoSaid : Prop := framesTellsUptoRow.holds Try.pinned (OpenSpec.upto framesTellsSpec)

/-- 'spiritlevellaw38.QueueTells', WHERE WHAT IT READS IS OF BULK AT MOST 1048576: true; the input reads as it did. -/
def queueTellsUptoRow : OpenClaim := { program := "ytbcijglbinaioaa", sum := "03ee1fa1a02912975f4b84425032c6ca2f622bf5f813cde451f31448f8c93944", func := "spiritlevel/spiritlevellaw38.QueueTells", spec := "queueTells", inPlace := ["slices.overlaps[spiritlevel/api.Wait]"], unfollowed := true, recurses := true, apart := false, narrowed := true }
def QueueTellsUptoSaid : Prop := queueTellsUptoRow.holds Try.pinned (OpenSpec.upto queueTellsSpec)

/-- 'spiritlevellaw39.ShrinkStates', WHERE WHAT IT READS IS OF BULK AT MOST 1048576: true; the input reads as it did. -/
def shrinkStatesUptoRow : OpenClaim := { program := "ytbcijglbinaioaa", sum := "03ee1fa1a02912975f4b84425032c6ca2f622bf5f813cde451f31448f8c93944", func := "spiritlevel/spiritlevellaw39.ShrinkStates", spec := "shrinkStates", unfollowed := true, recurses := true, apart := false, narrowed := true }
def ShrinkStatesUptoSaid : Prop := shrinkStatesUptoRow.holds Try.pinned (OpenSpec.upto shrinkStatesSpec)

/-- 'spiritlevellaw38.QueueFirst', WHERE WHAT IT READS IS OF BULK AT MOST 1048576: true; the input reads as it did. -/
def queueFirstUptoRow : OpenClaim := { program := "ytbcijglbinaioaa", sum := "03ee1fa1a02912975f4b84425032c6ca2f622bf5f813cde451f31448f8c93944", func := "spiritlevel/spiritlevellaw38.QueueFirst", spec := "queueFirst", inPlace := ["slices.overlaps[spiritlevel/api.Wait]"], unfollowed := true, recurses := true, apart := false, narrowed := true }
def QueueFirstUptoSaid : Prop := queueFirstUptoRow.holds Try.pinned (OpenSpec.upto queueFirstSpec)

/-- 'spiritlevellaw38.QueueBack', WHERE WHAT IT READS IS OF BULK AT MOST 1048576: true; the input reads as it did. -/
def queueBackUptoRow : OpenClaim := { program := "ytbcijglbinaioaa", sum := "03ee1fa1a02912975f4b84425032c6ca2f622bf5f813cde451f31448f8c93944", func := "spiritlevel/spiritlevellaw38.QueueBack", spec := "queueBack", inPlace := ["slices.overlaps[spiritlevel/api.Wait]"], unfollowed := true, recurses := true, apart := false, narrowed := true }
def QueueBackUptoSaid : Prop := queueBackUptoRow.holds Try.pinned (OpenSpec.upto queueBackSpec)

/-- 'spiritlevellaw38.QueueRest', WHERE WHAT IT READS IS OF BULK AT MOST 1048576: true; the input reads as it did. -/
def queueRestUptoRow : OpenClaim := { program := "ytbcijglbinaioaa", sum := "03ee1fa1a02912975f4b84425032c6ca2f622bf5f813cde451f31448f8c93944", func := "spiritlevel/spiritlevellaw38.QueueRest", spec := "queueRest", inPlace := ["slices.overlaps[spiritlevel/api.Wait]"], unfollowed := true, recurses := true, apart := false, narrowed := true }
def QueueRestUptoSaid : Prop := queueRestUptoRow.holds Try.pinned (OpenSpec.upto queueRestSpec)

/-- 'spiritlevellaw38.QueueNames', WHERE WHAT IT READS IS OF BULK AT MOST 1048576: true; the input reads as it did. -/
def queueNamesUptoRow : OpenClaim := { program := "ytbcijglbinaioaa", sum := "03ee1fa1a02912975f4b84425032c6ca2f622bf5f813cde451f31448f8c93944", func := "spiritlevel/spiritlevellaw38.QueueNames", spec := "queueNames", inPlace := ["slices.overlaps[spiritlevel/api.Wait]"], unfollowed := true, recurses := true, apart := false, narrowed := true }
def QueueNamesUptoSaid : Prop := queueNamesUptoRow.holds Try.pinned (OpenSpec.upto queueNamesSpec)

/-- 'spiritlevellaw38.QueueWitness', WHERE WHAT IT READS IS OF BULK AT MOST 1048576: true; the input reads as it did. -/
def queueWitnessUptoRow : OpenClaim := { program := "ytbcijglbinaioaa", sum := "03ee1fa1a02912975f4b84425032c6ca2f622bf5f813cde451f31448f8c93944", func := "spiritlevel/spiritlevellaw38.QueueWitness", spec := "queueWitness", inPlace := ["slices.overlaps[spiritlevel/api.Wait]"], unfollowed := true, recurses := true, apart := false, narrowed := true }
def QueueWitnessUptoSaid : Prop := queueWitnessUptoRow.holds Try.pinned (OpenSpec.upto queueWitnessSpec)

end Rows
end Go.Proofs.Ytbcijglbinaioaa
