/-
  No cell of these rows narrows 'for every input' (looked for: loops, veiled, ifaces, maps, wideKeys, modest, calm, conditions, laid).
  DERIVED. THE GIVEN ROWS OF THIS SEAT. 11 by the template 'for every input the law returns true; each argument reads behind the call as it read before'; 0 by the template 'total and deterministic' (their statements: YtaddgbalnhpllaaTotals.lean).
  GIVEN WITH THE SEED: the statements are not yours to turn. If you find one false, say at which input.
  Laid BY PROGRAM, IN A SANDBOX (cutbox-rows.mjs): the forced cells as the released guide's own fill.sh prints them over the translation 2ed3045b12e644ec… (all of the seat's roots in one cut). By AI agents, Wed Nov 11 2026. No macro, syntax, notation, axiom, sorry.
-/
import Derived.Test.YtaddgbalnhpllaaChecked
import GoSem.Claim
import GoSem.ClaimJoined
import GoSem.ClaimMapViews
import Derived.JoinedTies
import Derived.KernelRfl
namespace Go.Proofs.Ytaddgbalnhpllaa
/- THE CELL 'sum', in the pinned program and in every row, IS THE sha256 OF THE DUMP (.gsa) THAT YtaddgbalnhpllaaProg.lean LOADS. Nothing in Lean hashes anything: it is a label: what it is worth is what the hold of that sum in a sandbox is worth. -/
noncomputable def Try.pinned : Pinned := { name := "ytaddgbalnhpllaa", sum := "2ed3045b12e644ec07922e911c42bb412bddf8ebc926a3766b6e85e2ea9898a2", checked := Try.checked }
namespace Rows
def none {H : Type} : Left H := { results := [], args := [] }

/-- 'laws.FnVertexValid': WHATEVER THE INPUT: true; the input reads as it did. -/
def fnVertexValidSpec : ChangeSpec := { name := "fnVertexValid", fn := fun _ => fun
  | [d] => { results := [.lit (.bool true)], args := [d] }
  | _ => none }
def fnVertexValidRow : OpenClaim := { program := "ytaddgbalnhpllaa", sum := "2ed3045b12e644ec07922e911c42bb412bddf8ebc926a3766b6e85e2ea9898a2", func := "loop.example/dagconsensus/laws.FnVertexValid", spec := "fnVertexValid", apart := false }
def FnVertexValidSaid : Prop := fnVertexValidRow.holds Try.pinned (OpenSpec.ofChange fnVertexValidSpec)

/-- ITS FALSE NEIGHBOUR: 'it returns false'. Refute it at one input. -/
def fnVertexValidWrong : ChangeSpec := { name := "fnVertexValid", fn := fun _ => fun
  | [d] => { results := [.lit (.bool false)], args := [d] }
  | _ => none }
def FnVertexValidWrongFalsely : Prop := fnVertexValidRow.holds Try.pinned (OpenSpec.ofChange fnVertexValidWrong)

/-- 'laws.FnExactGraphValid': WHATEVER THE INPUT: true; the input reads as it did. -/
def fnExactGraphValidSpec : ChangeSpec := { name := "fnExactGraphValid", fn := fun _ => fun
  | [d1, d2] => { results := [.lit (.bool true)], args := [d1, d2] }
  | _ => none }
def fnExactGraphValidRow : OpenClaim := { program := "ytaddgbalnhpllaa", sum := "2ed3045b12e644ec07922e911c42bb412bddf8ebc926a3766b6e85e2ea9898a2", func := "loop.example/dagconsensus/laws.FnExactGraphValid", spec := "fnExactGraphValid", apart := false }
def FnExactGraphValidSaid : Prop := fnExactGraphValidRow.holds Try.pinned (OpenSpec.ofChange fnExactGraphValidSpec)

/-- ITS FALSE NEIGHBOUR: 'it returns false'. Refute it at one input. -/
def fnExactGraphValidWrong : ChangeSpec := { name := "fnExactGraphValid", fn := fun _ => fun
  | [d1, d2] => { results := [.lit (.bool false)], args := [d1, d2] }
  | _ => none }
def FnExactGraphValidWrongFalsely : Prop := fnExactGraphValidRow.holds Try.pinned (OpenSpec.ofChange fnExactGraphValidWrong)

/-- 'laws.FnExactGraphFind': WHATEVER THE INPUT: true; the input reads as it did. -/
def fnExactGraphFindSpec : ChangeSpec := { name := "fnExactGraphFind", fn := fun _ => fun
  | [d1, d2, d3, d4] => { results := [.lit (.bool true)], args := [d1, d2, d3, d4] }
  | _ => none }
def fnExactGraphFindRow : OpenClaim := { program := "ytaddgbalnhpllaa", sum := "2ed3045b12e644ec07922e911c42bb412bddf8ebc926a3766b6e85e2ea9898a2", func := "loop.example/dagconsensus/laws.FnExactGraphFind", spec := "fnExactGraphFind", apart := false }
def FnExactGraphFindSaid : Prop := fnExactGraphFindRow.holds Try.pinned (OpenSpec.ofChange fnExactGraphFindSpec)

/-- ITS FALSE NEIGHBOUR: 'it returns false'. Refute it at one input. -/
def fnExactGraphFindWrong : ChangeSpec := { name := "fnExactGraphFind", fn := fun _ => fun
  | [d1, d2, d3, d4] => { results := [.lit (.bool false)], args := [d1, d2, d3, d4] }
  | _ => none }
def FnExactGraphFindWrongFalsely : Prop := fnExactGraphFindRow.holds Try.pinned (OpenSpec.ofChange fnExactGraphFindWrong)

/-- 'laws.FnGraphPrefix': WHATEVER THE INPUT: true; the input reads as it did. -/
def fnGraphPrefixSpec : ChangeSpec := { name := "fnGraphPrefix", fn := fun _ => fun
  | [d1, d2] => { results := [.lit (.bool true)], args := [d1, d2] }
  | _ => none }
def fnGraphPrefixRow : OpenClaim := { program := "ytaddgbalnhpllaa", sum := "2ed3045b12e644ec07922e911c42bb412bddf8ebc926a3766b6e85e2ea9898a2", func := "loop.example/dagconsensus/laws.FnGraphPrefix", spec := "fnGraphPrefix", apart := false }
def FnGraphPrefixSaid : Prop := fnGraphPrefixRow.holds Try.pinned (OpenSpec.ofChange fnGraphPrefixSpec)

/-- ITS FALSE NEIGHBOUR: 'it returns false'. Refute it at one input. -/
def fnGraphPrefixWrong : ChangeSpec := { name := "fnGraphPrefix", fn := fun _ => fun
  | [d1, d2] => { results := [.lit (.bool false)], args := [d1, d2] }
  | _ => none }
def FnGraphPrefixWrongFalsely : Prop := fnGraphPrefixRow.holds Try.pinned (OpenSpec.ofChange fnGraphPrefixWrong)

/-- 'laws.FnGraphClosed': WHATEVER THE INPUT: true; the input reads as it did. -/
def fnGraphClosedSpec : ChangeSpec := { name := "fnGraphClosed", fn := fun _ => fun
  | [d] => { results := [.lit (.bool true)], args := [d] }
  | _ => none }
def fnGraphClosedRow : OpenClaim := { program := "ytaddgbalnhpllaa", sum := "2ed3045b12e644ec07922e911c42bb412bddf8ebc926a3766b6e85e2ea9898a2", func := "loop.example/dagconsensus/laws.FnGraphClosed", spec := "fnGraphClosed", apart := false }
def FnGraphClosedSaid : Prop := fnGraphClosedRow.holds Try.pinned (OpenSpec.ofChange fnGraphClosedSpec)

/-- ITS FALSE NEIGHBOUR: 'it returns false'. Refute it at one input. -/
def fnGraphClosedWrong : ChangeSpec := { name := "fnGraphClosed", fn := fun _ => fun
  | [d] => { results := [.lit (.bool false)], args := [d] }
  | _ => none }
def FnGraphClosedWrongFalsely : Prop := fnGraphClosedRow.holds Try.pinned (OpenSpec.ofChange fnGraphClosedWrong)

/-- 'laws.FnGraphFind': WHATEVER THE INPUT: true; the input reads as it did. -/
def fnGraphFindSpec : ChangeSpec := { name := "fnGraphFind", fn := fun _ => fun
  | [d] => { results := [.lit (.bool true)], args := [d] }
  | _ => none }
def fnGraphFindRow : OpenClaim := { program := "ytaddgbalnhpllaa", sum := "2ed3045b12e644ec07922e911c42bb412bddf8ebc926a3766b6e85e2ea9898a2", func := "loop.example/dagconsensus/laws.FnGraphFind", spec := "fnGraphFind", apart := false }
def FnGraphFindSaid : Prop := fnGraphFindRow.holds Try.pinned (OpenSpec.ofChange fnGraphFindSpec)

/-- ITS FALSE NEIGHBOUR: 'it returns false'. Refute it at one input. -/
def fnGraphFindWrong : ChangeSpec := { name := "fnGraphFind", fn := fun _ => fun
  | [d] => { results := [.lit (.bool false)], args := [d] }
  | _ => none }
def FnGraphFindWrongFalsely : Prop := fnGraphFindRow.holds Try.pinned (OpenSpec.ofChange fnGraphFindWrong)

/-- 'laws.FnGraphAddCodes': WHATEVER THE INPUT: true; the input reads as it did. -/
def fnGraphAddCodesSpec : ChangeSpec := { name := "fnGraphAddCodes", fn := fun _ => fun
  | [d] => { results := [.lit (.bool true)], args := [d] }
  | _ => none }
def fnGraphAddCodesRow : OpenClaim := { program := "ytaddgbalnhpllaa", sum := "2ed3045b12e644ec07922e911c42bb412bddf8ebc926a3766b6e85e2ea9898a2", func := "loop.example/dagconsensus/laws.FnGraphAddCodes", spec := "fnGraphAddCodes", inPlace := ["slices.overlaps[loop.example/dagconsensus/impl.Vertex]"], apart := false }
def FnGraphAddCodesSaid : Prop := fnGraphAddCodesRow.holds Try.pinned (OpenSpec.ofChange fnGraphAddCodesSpec)

/-- ITS FALSE NEIGHBOUR: 'it returns false'. Refute it at one input. -/
def fnGraphAddCodesWrong : ChangeSpec := { name := "fnGraphAddCodes", fn := fun _ => fun
  | [d] => { results := [.lit (.bool false)], args := [d] }
  | _ => none }
def FnGraphAddCodesWrongFalsely : Prop := fnGraphAddCodesRow.holds Try.pinned (OpenSpec.ofChange fnGraphAddCodesWrong)

/-- 'laws.FnGraphAdd': WHATEVER THE INPUT: true; the input reads as it did. -/
def fnGraphAddSpec : ChangeSpec := { name := "fnGraphAdd", fn := fun _ => fun
  | [d] => { results := [.lit (.bool true)], args := [d] }
  | _ => none }
def fnGraphAddRow : OpenClaim := { program := "ytaddgbalnhpllaa", sum := "2ed3045b12e644ec07922e911c42bb412bddf8ebc926a3766b6e85e2ea9898a2", func := "loop.example/dagconsensus/laws.FnGraphAdd", spec := "fnGraphAdd", inPlace := ["slices.overlaps[loop.example/dagconsensus/impl.Vertex]"], apart := false }
def FnGraphAddSaid : Prop := fnGraphAddRow.holds Try.pinned (OpenSpec.ofChange fnGraphAddSpec)

/-- ITS FALSE NEIGHBOUR: 'it returns false'. Refute it at one input. -/
def fnGraphAddWrong : ChangeSpec := { name := "fnGraphAdd", fn := fun _ => fun
  | [d] => { results := [.lit (.bool false)], args := [d] }
  | _ => none }
def FnGraphAddWrongFalsely : Prop := fnGraphAddRow.holds Try.pinned (OpenSpec.ofChange fnGraphAddWrong)

/-- 'laws.FnGraphAddOrder': WHATEVER THE INPUT: true; the input reads as it did. -/
def fnGraphAddOrderSpec : ChangeSpec := { name := "fnGraphAddOrder", fn := fun _ => fun
  | [d1, d2] => { results := [.lit (.bool true)], args := [d1, d2] }
  | _ => none }
def fnGraphAddOrderRow : OpenClaim := { program := "ytaddgbalnhpllaa", sum := "2ed3045b12e644ec07922e911c42bb412bddf8ebc926a3766b6e85e2ea9898a2", func := "loop.example/dagconsensus/laws.FnGraphAddOrder", spec := "fnGraphAddOrder", inPlace := ["slices.overlaps[loop.example/dagconsensus/impl.Vertex]"], apart := false }
def FnGraphAddOrderSaid : Prop := fnGraphAddOrderRow.holds Try.pinned (OpenSpec.ofChange fnGraphAddOrderSpec)

/-- ITS FALSE NEIGHBOUR: 'it returns false'. Refute it at one input. -/
def fnGraphAddOrderWrong : ChangeSpec := { name := "fnGraphAddOrder", fn := fun _ => fun
  | [d1, d2] => { results := [.lit (.bool false)], args := [d1, d2] }
  | _ => none }
def FnGraphAddOrderWrongFalsely : Prop := fnGraphAddOrderRow.holds Try.pinned (OpenSpec.ofChange fnGraphAddOrderWrong)

/-- 'laws.FnGraphAddTwice': WHATEVER THE INPUT: true; the input reads as it did. -/
def fnGraphAddTwiceSpec : ChangeSpec := { name := "fnGraphAddTwice", fn := fun _ => fun
  | [d1, d2] => { results := [.lit (.bool true)], args := [d1, d2] }
  | _ => none }
def fnGraphAddTwiceRow : OpenClaim := { program := "ytaddgbalnhpllaa", sum := "2ed3045b12e644ec07922e911c42bb412bddf8ebc926a3766b6e85e2ea9898a2", func := "loop.example/dagconsensus/laws.FnGraphAddTwice", spec := "fnGraphAddTwice", inPlace := ["slices.overlaps[loop.example/dagconsensus/impl.Vertex]"], apart := false }
def FnGraphAddTwiceSaid : Prop := fnGraphAddTwiceRow.holds Try.pinned (OpenSpec.ofChange fnGraphAddTwiceSpec)

/-- ITS FALSE NEIGHBOUR: 'it returns false'. Refute it at one input. -/
def fnGraphAddTwiceWrong : ChangeSpec := { name := "fnGraphAddTwice", fn := fun _ => fun
  | [d1, d2] => { results := [.lit (.bool false)], args := [d1, d2] }
  | _ => none }
def FnGraphAddTwiceWrongFalsely : Prop := fnGraphAddTwiceRow.holds Try.pinned (OpenSpec.ofChange fnGraphAddTwiceWrong)

/-- 'laws.FnExactGraphAdd': WHATEVER THE INPUT: true; the input reads as it did. -/
def fnExactGraphAddSpec : ChangeSpec := { name := "fnExactGraphAdd", fn := fun _ => fun
  | [d1, d2, d3] => { results := [.lit (.bool true)], args := [d1, d2, d3] }
  | _ => none }
def fnExactGraphAddRow : OpenClaim := { program := "ytaddgbalnhpllaa", sum := "2ed3045b12e644ec07922e911c42bb412bddf8ebc926a3766b6e85e2ea9898a2", func := "loop.example/dagconsensus/laws.FnExactGraphAdd", spec := "fnExactGraphAdd", inPlace := ["slices.overlaps[loop.example/dagconsensus/impl.Vertex]"], apart := false }
def FnExactGraphAddSaid : Prop := fnExactGraphAddRow.holds Try.pinned (OpenSpec.ofChange fnExactGraphAddSpec)

/-- ITS FALSE NEIGHBOUR: 'it returns false'. Refute it at one input. -/
def fnExactGraphAddWrong : ChangeSpec := { name := "fnExactGraphAdd", fn := fun _ => fun
  | [d1, d2, d3] => { results := [.lit (.bool false)], args := [d1, d2, d3] }
  | _ => none }
def FnExactGraphAddWrongFalsely : Prop := fnExactGraphAddRow.holds Try.pinned (OpenSpec.ofChange fnExactGraphAddWrong)

/- THE SECOND FORM. 'bulk': how many values and letters a reading holds, each counted each time it is reached (what is shared counts as often as it is met; a slice's spare places count too). A statement '..UptoSaid' is the law's where the arguments, and the package variables that the reading takes, are together of bulk at most 1048576: NARROWER than '..Said'. Prove '..Said' where nothing that the law and all that it calls make is longer than what came in: it says more and counts as full. Else prove '..UptoSaid'. A law counts once. -/
mutual
def uptoBulk {H : Type} : DataW H → Nat
  | .lit (.string bytes) => bytes.length + 1
  | .lit _ => 1
  | .nil => 1
  | .ptr d => uptoBulk d + 1
  | .slice elems spare => uptoBulkAll elems + uptoBulkAll spare + 1
  | .agg parts => uptoBulkAll parts + 1
  | .iface _ d => uptoBulk d + 1
  | .map entries => uptoBulkEntries entries + 1
  | .held _ => 1
def uptoBulkAll {H : Type} : List (DataW H) → Nat
  | [] => 0
  | d :: r => uptoBulk d + uptoBulkAll r
def uptoBulkEntries {H : Type} : List (Lit × DataW H) → Nat
  | [] => 0
  | x :: r => uptoBulkEntry x + uptoBulkEntries r
def uptoBulkEntry {H : Type} : Lit × DataW H → Nat
  | (.string bytes, d) => bytes.length + uptoBulk d + 1
  | (_, d) => uptoBulk d + 1
 end
def uptoSmall : (H : Type) → List (DataW H) → Bool := fun _ ds => decide (uptoBulkAll ds ≤ 1048576)
def OpenSpec.upto (s : _root_.Go.ChangeSpec) : _root_.Go.OpenSpec := { _root_.Go.OpenSpec.ofChange s with cond := some uptoSmall }

/-- 'laws.FnVertexValid', WHERE WHAT IT READS IS OF BULK AT MOST 1048576: true; the input reads as it did. -/
def fnVertexValidUptoRow : OpenClaim := { program := "ytaddgbalnhpllaa", sum := "2ed3045b12e644ec07922e911c42bb412bddf8ebc926a3766b6e85e2ea9898a2", func := "loop.example/dagconsensus/laws.FnVertexValid", spec := "fnVertexValid", apart := false, narrowed := true }
def FnVertexValidUptoSaid : Prop := fnVertexValidUptoRow.holds Try.pinned (OpenSpec.upto fnVertexValidSpec)

/-- 'laws.FnExactGraphValid', WHERE WHAT IT READS IS OF BULK AT MOST 1048576: true; the input reads as it did. -/
def fnExactGraphValidUptoRow : OpenClaim := { program := "ytaddgbalnhpllaa", sum := "2ed3045b12e644ec07922e911c42bb412bddf8ebc926a3766b6e85e2ea9898a2", func := "loop.example/dagconsensus/laws.FnExactGraphValid", spec := "fnExactGraphValid", apart := false, narrowed := true }
def FnExactGraphValidUptoSaid : Prop := fnExactGraphValidUptoRow.holds Try.pinned (OpenSpec.upto fnExactGraphValidSpec)

/-- 'laws.FnExactGraphFind', WHERE WHAT IT READS IS OF BULK AT MOST 1048576: true; the input reads as it did. -/
def fnExactGraphFindUptoRow : OpenClaim := { program := "ytaddgbalnhpllaa", sum := "2ed3045b12e644ec07922e911c42bb412bddf8ebc926a3766b6e85e2ea9898a2", func := "loop.example/dagconsensus/laws.FnExactGraphFind", spec := "fnExactGraphFind", apart := false, narrowed := true }
def FnExactGraphFindUptoSaid : Prop := fnExactGraphFindUptoRow.holds Try.pinned (OpenSpec.upto fnExactGraphFindSpec)

/-- 'laws.FnGraphPrefix', WHERE WHAT IT READS IS OF BULK AT MOST 1048576: true; the input reads as it did. -/
def fnGraphPrefixUptoRow : OpenClaim := { program := "ytaddgbalnhpllaa", sum := "2ed3045b12e644ec07922e911c42bb412bddf8ebc926a3766b6e85e2ea9898a2", func := "loop.example/dagconsensus/laws.FnGraphPrefix", spec := "fnGraphPrefix", apart := false, narrowed := true }
def FnGraphPrefixUptoSaid : Prop := fnGraphPrefixUptoRow.holds Try.pinned (OpenSpec.upto fnGraphPrefixSpec)

/-- 'laws.FnGraphClosed', WHERE WHAT IT READS IS OF BULK AT MOST 1048576: true; the input reads as it did. -/
def fnGraphClosedUptoRow : OpenClaim := { program := "ytaddgbalnhpllaa", sum := "2ed3045b12e644ec07922e911c42bb412bddf8ebc926a3766b6e85e2ea9898a2", func := "loop.example/dagconsensus/laws.FnGraphClosed", spec := "fnGraphClosed", apart := false, narrowed := true }
def FnGraphClosedUptoSaid : Prop := fnGraphClosedUptoRow.holds Try.pinned (OpenSpec.upto fnGraphClosedSpec)

/-- 'laws.FnGraphFind', WHERE WHAT IT READS IS OF BULK AT MOST 1048576: true; the input reads as it did. -/
def fnGraphFindUptoRow : OpenClaim := { program := "ytaddgbalnhpllaa", sum := "2ed3045b12e644ec07922e911c42bb412bddf8ebc926a3766b6e85e2ea9898a2", func := "loop.example/dagconsensus/laws.FnGraphFind", spec := "fnGraphFind", apart := false, narrowed := true }
def FnGraphFindUptoSaid : Prop := fnGraphFindUptoRow.holds Try.pinned (OpenSpec.upto fnGraphFindSpec)

/-- 'laws.FnGraphAddCodes', WHERE WHAT IT READS IS OF BULK AT MOST 1048576: true; the input reads as it did. -/
def fnGraphAddCodesUptoRow : OpenClaim := { program := "ytaddgbalnhpllaa", sum := "2ed3045b12e644ec07922e911c42bb412bddf8ebc926a3766b6e85e2ea9898a2", func := "loop.example/dagconsensus/laws.FnGraphAddCodes", spec := "fnGraphAddCodes", inPlace := ["slices.overlaps[loop.example/dagconsensus/impl.Vertex]"], apart := false, narrowed := true }
def FnGraphAddCodesUptoSaid : Prop := fnGraphAddCodesUptoRow.holds Try.pinned (OpenSpec.upto fnGraphAddCodesSpec)

/-- 'laws.FnGraphAdd', WHERE WHAT IT READS IS OF BULK AT MOST 1048576: true; the input reads as it did. -/
def fnGraphAddUptoRow : OpenClaim := { program := "ytaddgbalnhpllaa", sum := "2ed3045b12e644ec07922e911c42bb412bddf8ebc926a3766b6e85e2ea9898a2", func := "loop.example/dagconsensus/laws.FnGraphAdd", spec := "fnGraphAdd", inPlace := ["slices.overlaps[loop.example/dagconsensus/impl.Vertex]"], apart := false, narrowed := true }
def FnGraphAddUptoSaid : Prop := fnGraphAddUptoRow.holds Try.pinned (OpenSpec.upto fnGraphAddSpec)

/-- 'laws.FnGraphAddOrder', WHERE WHAT IT READS IS OF BULK AT MOST 1048576: true; the input reads as it did. -/
def fnGraphAddOrderUptoRow : OpenClaim := { program := "ytaddgbalnhpllaa", sum := "2ed3045b12e644ec07922e911c42bb412bddf8ebc926a3766b6e85e2ea9898a2", func := "loop.example/dagconsensus/laws.FnGraphAddOrder", spec := "fnGraphAddOrder", inPlace := ["slices.overlaps[loop.example/dagconsensus/impl.Vertex]"], apart := false, narrowed := true }
def FnGraphAddOrderUptoSaid : Prop := fnGraphAddOrderUptoRow.holds Try.pinned (OpenSpec.upto fnGraphAddOrderSpec)

/-- 'laws.FnGraphAddTwice', WHERE WHAT IT READS IS OF BULK AT MOST 1048576: true; the input reads as it did. -/
def fnGraphAddTwiceUptoRow : OpenClaim := { program := "ytaddgbalnhpllaa", sum := "2ed3045b12e644ec07922e911c42bb412bddf8ebc926a3766b6e85e2ea9898a2", func := "loop.example/dagconsensus/laws.FnGraphAddTwice", spec := "fnGraphAddTwice", inPlace := ["slices.overlaps[loop.example/dagconsensus/impl.Vertex]"], apart := false, narrowed := true }
def FnGraphAddTwiceUptoSaid : Prop := fnGraphAddTwiceUptoRow.holds Try.pinned (OpenSpec.upto fnGraphAddTwiceSpec)

/-- 'laws.FnExactGraphAdd', WHERE WHAT IT READS IS OF BULK AT MOST 1048576: true; the input reads as it did. -/
def fnExactGraphAddUptoRow : OpenClaim := { program := "ytaddgbalnhpllaa", sum := "2ed3045b12e644ec07922e911c42bb412bddf8ebc926a3766b6e85e2ea9898a2", func := "loop.example/dagconsensus/laws.FnExactGraphAdd", spec := "fnExactGraphAdd", inPlace := ["slices.overlaps[loop.example/dagconsensus/impl.Vertex]"], apart := false, narrowed := true }
def FnExactGraphAddUptoSaid : Prop := fnExactGraphAddUptoRow.holds Try.pinned (OpenSpec.upto fnExactGraphAddSpec)

end Rows
end Go.Proofs.Ytaddgbalnhpllaa
