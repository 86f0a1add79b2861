/-
  No cell of these rows narrows 'for every input' (looked for: loops, veiled, ifaces, maps, wideKeys, modest, calm, conditions, laid).
  DERIVED. THE GIVEN ROWS OF THIS SEAT. 8 by the template 'for every input the law returns true; each argument reads behind the call as it read before'; 0 by the template 'total and deterministic' (their statements: YthajlhmebkjbbaaTotals.lean).
  GIVEN WITH THE SEED: the statements are not yours to turn. If you find one false, say at which input.
  Laid BY PROGRAM, IN A SANDBOX (cutbox-rows.mjs): the forced cells as the released guide's own fill.sh prints them over the translation 53d1bc017fa53e50… (all of the seat's roots in one cut). By AI agents, Wed Nov 11 2026. No macro, syntax, notation, axiom, sorry.
-/
import Derived.Test.YthajlhmebkjbbaaChecked
import GoSem.Claim
import GoSem.ClaimJoined
import GoSem.ClaimMapViews
import Derived.JoinedTies
import Derived.KernelRfl
namespace Go.Proofs.Ythajlhmebkjbbaa
/- THE CELL 'sum', in the pinned program and in every row, IS THE sha256 OF THE DUMP (.gsa) THAT YthajlhmebkjbbaaProg.lean LOADS. Nothing in Lean hashes anything: it is a label: what it is worth is what the hold of that sum in a sandbox is worth. -/
noncomputable def Try.pinned : Pinned := { name := "ythajlhmebkjbbaa", sum := "53d1bc017fa53e505d2d3c8c0395f2faae4a08ca092fed0b43d20b680374631c", checked := Try.checked }
namespace Rows
def none {H : Type} : Left H := { results := [], args := [] }

/-- 'laws.FnExactGraphPast': WHATEVER THE INPUT: true; the input reads as it did. -/
def fnExactGraphPastSpec : ChangeSpec := { name := "fnExactGraphPast", fn := fun _ => fun
  | [d1, d2, d3, d4] => { results := [.lit (.bool true)], args := [d1, d2, d3, d4] }
  | _ => none }
def fnExactGraphPastRow : OpenClaim := { program := "ythajlhmebkjbbaa", sum := "53d1bc017fa53e505d2d3c8c0395f2faae4a08ca092fed0b43d20b680374631c", func := "loop.example/dagconsensus/laws.FnExactGraphPast", spec := "fnExactGraphPast", apart := false }
def FnExactGraphPastSaid : Prop := fnExactGraphPastRow.holds Try.pinned (OpenSpec.ofChange fnExactGraphPastSpec)

/-- ITS FALSE NEIGHBOUR: 'it returns false'. Refute it at one input. -/
def fnExactGraphPastWrong : ChangeSpec := { name := "fnExactGraphPast", fn := fun _ => fun
  | [d1, d2, d3, d4] => { results := [.lit (.bool false)], args := [d1, d2, d3, d4] }
  | _ => none }
def FnExactGraphPastWrongFalsely : Prop := fnExactGraphPastRow.holds Try.pinned (OpenSpec.ofChange fnExactGraphPastWrong)

/-- 'laws.FnGraphPastRounds': WHATEVER THE INPUT: true; the input reads as it did. -/
def fnGraphPastRoundsSpec : ChangeSpec := { name := "fnGraphPastRounds", fn := fun _ => fun
  | [d] => { results := [.lit (.bool true)], args := [d] }
  | _ => none }
def fnGraphPastRoundsRow : OpenClaim := { program := "ythajlhmebkjbbaa", sum := "53d1bc017fa53e505d2d3c8c0395f2faae4a08ca092fed0b43d20b680374631c", func := "loop.example/dagconsensus/laws.FnGraphPastRounds", spec := "fnGraphPastRounds", apart := false }
def FnGraphPastRoundsSaid : Prop := fnGraphPastRoundsRow.holds Try.pinned (OpenSpec.ofChange fnGraphPastRoundsSpec)

/-- ITS FALSE NEIGHBOUR: 'it returns false'. Refute it at one input. -/
def fnGraphPastRoundsWrong : ChangeSpec := { name := "fnGraphPastRounds", fn := fun _ => fun
  | [d] => { results := [.lit (.bool false)], args := [d] }
  | _ => none }
def FnGraphPastRoundsWrongFalsely : Prop := fnGraphPastRoundsRow.holds Try.pinned (OpenSpec.ofChange fnGraphPastRoundsWrong)

/-- 'laws.FnGraphPastLeast': WHATEVER THE INPUT: true; the input reads as it did. -/
def fnGraphPastLeastSpec : ChangeSpec := { name := "fnGraphPastLeast", fn := fun _ => fun
  | [d] => { results := [.lit (.bool true)], args := [d] }
  | _ => none }
def fnGraphPastLeastRow : OpenClaim := { program := "ythajlhmebkjbbaa", sum := "53d1bc017fa53e505d2d3c8c0395f2faae4a08ca092fed0b43d20b680374631c", func := "loop.example/dagconsensus/laws.FnGraphPastLeast", spec := "fnGraphPastLeast", apart := false }
def FnGraphPastLeastSaid : Prop := fnGraphPastLeastRow.holds Try.pinned (OpenSpec.ofChange fnGraphPastLeastSpec)

/-- ITS FALSE NEIGHBOUR: 'it returns false'. Refute it at one input. -/
def fnGraphPastLeastWrong : ChangeSpec := { name := "fnGraphPastLeast", fn := fun _ => fun
  | [d] => { results := [.lit (.bool false)], args := [d] }
  | _ => none }
def FnGraphPastLeastWrongFalsely : Prop := fnGraphPastLeastRow.holds Try.pinned (OpenSpec.ofChange fnGraphPastLeastWrong)

/-- 'laws.FnGraphPast': WHATEVER THE INPUT: true; the input reads as it did. -/
def fnGraphPastSpec : ChangeSpec := { name := "fnGraphPast", fn := fun _ => fun
  | [d] => { results := [.lit (.bool true)], args := [d] }
  | _ => none }
def fnGraphPastRow : OpenClaim := { program := "ythajlhmebkjbbaa", sum := "53d1bc017fa53e505d2d3c8c0395f2faae4a08ca092fed0b43d20b680374631c", func := "loop.example/dagconsensus/laws.FnGraphPast", spec := "fnGraphPast", apart := false }
def FnGraphPastSaid : Prop := fnGraphPastRow.holds Try.pinned (OpenSpec.ofChange fnGraphPastSpec)

/-- ITS FALSE NEIGHBOUR: 'it returns false'. Refute it at one input. -/
def fnGraphPastWrong : ChangeSpec := { name := "fnGraphPast", fn := fun _ => fun
  | [d] => { results := [.lit (.bool false)], args := [d] }
  | _ => none }
def FnGraphPastWrongFalsely : Prop := fnGraphPastRow.holds Try.pinned (OpenSpec.ofChange fnGraphPastWrong)

/-- 'laws.FnExactGraphMerge': WHATEVER THE INPUT: true; the input reads as it did. -/
def fnExactGraphMergeSpec : ChangeSpec := { name := "fnExactGraphMerge", fn := fun _ => fun
  | [d1, d2, d3] => { results := [.lit (.bool true)], args := [d1, d2, d3] }
  | _ => none }
def fnExactGraphMergeRow : OpenClaim := { program := "ythajlhmebkjbbaa", sum := "53d1bc017fa53e505d2d3c8c0395f2faae4a08ca092fed0b43d20b680374631c", func := "loop.example/dagconsensus/laws.FnExactGraphMerge", spec := "fnExactGraphMerge", apart := false }
def FnExactGraphMergeSaid : Prop := fnExactGraphMergeRow.holds Try.pinned (OpenSpec.ofChange fnExactGraphMergeSpec)

/-- ITS FALSE NEIGHBOUR: 'it returns false'. Refute it at one input. -/
def fnExactGraphMergeWrong : ChangeSpec := { name := "fnExactGraphMerge", fn := fun _ => fun
  | [d1, d2, d3] => { results := [.lit (.bool false)], args := [d1, d2, d3] }
  | _ => none }
def FnExactGraphMergeWrongFalsely : Prop := fnExactGraphMergeRow.holds Try.pinned (OpenSpec.ofChange fnExactGraphMergeWrong)

/-- 'laws.FnGraphMergeFail': WHATEVER THE INPUT: true; the input reads as it did. -/
def fnGraphMergeFailSpec : ChangeSpec := { name := "fnGraphMergeFail", fn := fun _ => fun
  | [d] => { results := [.lit (.bool true)], args := [d] }
  | _ => none }
def fnGraphMergeFailRow : OpenClaim := { program := "ythajlhmebkjbbaa", sum := "53d1bc017fa53e505d2d3c8c0395f2faae4a08ca092fed0b43d20b680374631c", func := "loop.example/dagconsensus/laws.FnGraphMergeFail", spec := "fnGraphMergeFail", apart := false }
def FnGraphMergeFailSaid : Prop := fnGraphMergeFailRow.holds Try.pinned (OpenSpec.ofChange fnGraphMergeFailSpec)

/-- ITS FALSE NEIGHBOUR: 'it returns false'. Refute it at one input. -/
def fnGraphMergeFailWrong : ChangeSpec := { name := "fnGraphMergeFail", fn := fun _ => fun
  | [d] => { results := [.lit (.bool false)], args := [d] }
  | _ => none }
def FnGraphMergeFailWrongFalsely : Prop := fnGraphMergeFailRow.holds Try.pinned (OpenSpec.ofChange fnGraphMergeFailWrong)

/-- 'laws.FnGraphMergeOrder': WHATEVER THE INPUT: true; the input reads as it did. -/
def fnGraphMergeOrderSpec : ChangeSpec := { name := "fnGraphMergeOrder", fn := fun _ => fun
  | [d] => { results := [.lit (.bool true)], args := [d] }
  | _ => none }
def fnGraphMergeOrderRow : OpenClaim := { program := "ythajlhmebkjbbaa", sum := "53d1bc017fa53e505d2d3c8c0395f2faae4a08ca092fed0b43d20b680374631c", func := "loop.example/dagconsensus/laws.FnGraphMergeOrder", spec := "fnGraphMergeOrder", apart := false }
def FnGraphMergeOrderSaid : Prop := fnGraphMergeOrderRow.holds Try.pinned (OpenSpec.ofChange fnGraphMergeOrderSpec)

/-- ITS FALSE NEIGHBOUR: 'it returns false'. Refute it at one input. -/
def fnGraphMergeOrderWrong : ChangeSpec := { name := "fnGraphMergeOrder", fn := fun _ => fun
  | [d] => { results := [.lit (.bool false)], args := [d] }
  | _ => none }
def FnGraphMergeOrderWrongFalsely : Prop := fnGraphMergeOrderRow.holds Try.pinned (OpenSpec.ofChange fnGraphMergeOrderWrong)

/-- 'laws.FnGraphMerge': WHATEVER THE INPUT: true; the input reads as it did. -/
def fnGraphMergeSpec : ChangeSpec := { name := "fnGraphMerge", fn := fun _ => fun
  | [d] => { results := [.lit (.bool true)], args := [d] }
  | _ => none }
def fnGraphMergeRow : OpenClaim := { program := "ythajlhmebkjbbaa", sum := "53d1bc017fa53e505d2d3c8c0395f2faae4a08ca092fed0b43d20b680374631c", func := "loop.example/dagconsensus/laws.FnGraphMerge", spec := "fnGraphMerge", apart := false }
def FnGraphMergeSaid : Prop := fnGraphMergeRow.holds Try.pinned (OpenSpec.ofChange fnGraphMergeSpec)

/-- ITS FALSE NEIGHBOUR: 'it returns false'. Refute it at one input. -/
def fnGraphMergeWrong : ChangeSpec := { name := "fnGraphMerge", fn := fun _ => fun
  | [d] => { results := [.lit (.bool false)], args := [d] }
  | _ => none }
def FnGraphMergeWrongFalsely : Prop := fnGraphMergeRow.holds Try.pinned (OpenSpec.ofChange fnGraphMergeWrong)

/- THE SECOND FORM. 'bulk': how many values and letters a reading holds, each counted each time it is reached (what is shared counts as often as it is met; a slice's spare places count too). A statement '..UptoSaid' is the law's where the arguments, and the package variables that the reading takes, are together of bulk at most 1048576: NARROWER than '..Said'. Prove '..Said' where nothing that the law and all that it calls make is longer than what came in: it says more and counts as full. Else prove '..UptoSaid'. A law counts once. -/
mutual
def uptoBulk {H : Type} : DataW H → Nat
  | .lit (.string bytes) => bytes.length + 1
  | .lit _ => 1
  | .nil => 1
  | .ptr d => uptoBulk d + 1
  | .slice elems spare => uptoBulkAll elems + uptoBulkAll spare + 1
  | .agg parts => uptoBulkAll parts + 1
  | .iface _ d => uptoBulk d + 1
  | .map entries => uptoBulkEntries entries + 1
  | .held _ => 1
def uptoBulkAll {H : Type} : List (DataW H) → Nat
  | [] => 0
  | d :: r => uptoBulk d + uptoBulkAll r
def uptoBulkEntries {H : Type} : List (Lit × DataW H) → Nat
  | [] => 0
  | x :: r => uptoBulkEntry x + uptoBulkEntries r
def uptoBulkEntry {H : Type} : Lit × DataW H → Nat
  | (.string bytes, d) => bytes.length + uptoBulk d + 1
  | (_, d) => uptoBulk d + 1
 end
def uptoSmall : (H : Type) → List (DataW H) → Bool := fun _ ds => decide (uptoBulkAll ds ≤ 1048576)
def OpenSpec.upto (s : _root_.Go.ChangeSpec) : _root_.Go.OpenSpec := { _root_.Go.OpenSpec.ofChange s with cond := some uptoSmall }

/-- 'laws.FnExactGraphPast', WHERE WHAT IT READS IS OF BULK AT MOST 1048576: true; the input reads as it did. -/
def fnExactGraphPastUptoRow : OpenClaim := { program := "ythajlhmebkjbbaa", sum := "53d1bc017fa53e505d2d3c8c0395f2faae4a08ca092fed0b43d20b680374631c", func := "loop.example/dagconsensus/laws.FnExactGraphPast", spec := "fnExactGraphPast", apart := false, narrowed := true }
def FnExactGraphPastUptoSaid : Prop := fnExactGraphPastUptoRow.holds Try.pinned (OpenSpec.upto fnExactGraphPastSpec)

/-- 'laws.FnGraphPastRounds', WHERE WHAT IT READS IS OF BULK AT MOST 1048576: true; the input reads as it did. -/
def fnGraphPastRoundsUptoRow : OpenClaim := { program := "ythajlhmebkjbbaa", sum := "53d1bc017fa53e505d2d3c8c0395f2faae4a08ca092fed0b43d20b680374631c", func := "loop.example/dagconsensus/laws.FnGraphPastRounds", spec := "fnGraphPastRounds", apart := false, narrowed := true }
def FnGraphPastRoundsUptoSaid : Prop := fnGraphPastRoundsUptoRow.holds Try.pinned (OpenSpec.upto fnGraphPastRoundsSpec)

/-- 'laws.FnGraphPastLeast', WHERE WHAT IT READS IS OF BULK AT MOST 1048576: true; the input reads as it did. -/
def fnGraphPastLeastUptoRow : OpenClaim := { program := "ythajlhmebkjbbaa", sum := "53d1bc017fa53e505d2d3c8c0395f2faae4a08ca092fed0b43d20b680374631c", func := "loop.example/dagconsensus/laws.FnGraphPastLeast", spec := "fnGraphPastLeast", apart := false, narrowed := true }
def FnGraphPastLeastUptoSaid : Prop := fnGraphPastLeastUptoRow.holds Try.pinned (OpenSpec.upto fnGraphPastLeastSpec)

/-- 'laws.FnGraphPast', WHERE WHAT IT READS IS OF BULK AT MOST 1048576: true; the input reads as it did. -/
def fnGraphPastUptoRow : OpenClaim := { program := "ythajlhmebkjbbaa", sum := "53d1bc017fa53e505d2d3c8c0395f2faae4a08ca092fed0b43d20b680374631c", func := "loop.example/dagconsensus/laws.FnGraphPast", spec := "fnGraphPast", apart := false, narrowed := true }
def FnGraphPastUptoSaid : Prop := fnGraphPastUptoRow.holds Try.pinned (OpenSpec.upto fnGraphPastSpec)

/-- 'laws.FnExactGraphMerge', WHERE WHAT IT READS IS OF BULK AT MOST 1048576: true; the input reads as it did. -/
def fnExactGraphMergeUptoRow : OpenClaim := { program := "ythajlhmebkjbbaa", sum := "53d1bc017fa53e505d2d3c8c0395f2faae4a08ca092fed0b43d20b680374631c", func := "loop.example/dagconsensus/laws.FnExactGraphMerge", spec := "fnExactGraphMerge", apart := false, narrowed := true }
def FnExactGraphMergeUptoSaid : Prop := fnExactGraphMergeUptoRow.holds Try.pinned (OpenSpec.upto fnExactGraphMergeSpec)

/-- 'laws.FnGraphMergeFail', WHERE WHAT IT READS IS OF BULK AT MOST 1048576: true; the input reads as it did. -/
def fnGraphMergeFailUptoRow : OpenClaim := { program := "ythajlhmebkjbbaa", sum := "53d1bc017fa53e505d2d3c8c0395f2faae4a08ca092fed0b43d20b680374631c", func := "loop.example/dagconsensus/laws.FnGraphMergeFail", spec := "fnGraphMergeFail", apart := false, narrowed := true }
def FnGraphMergeFailUptoSaid : Prop := fnGraphMergeFailUptoRow.holds Try.pinned (OpenSpec.upto fnGraphMergeFailSpec)

/-- 'laws.FnGraphMergeOrder', WHERE WHAT IT READS IS OF BULK AT MOST 1048576: true; the input reads as it did. -/
def fnGraphMergeOrderUptoRow : OpenClaim := { program := "ythajlhmebkjbbaa", sum := "53d1bc017fa53e505d2d3c8c0395f2faae4a08ca092fed0b43d20b680374631c", func := "loop.example/dagconsensus/laws.FnGraphMergeOrder", spec := "fnGraphMergeOrder", apart := false, narrowed := true }
def FnGraphMergeOrderUptoSaid : Prop := fnGraphMergeOrderUptoRow.holds Try.pinned (OpenSpec.upto fnGraphMergeOrderSpec)

/-- 'laws.FnGraphMerge', WHERE WHAT IT READS IS OF BULK AT MOST 1048576: true; the input reads as it did. -/
def fnGraphMergeUptoRow : OpenClaim := { program := "ythajlhmebkjbbaa", sum := "53d1bc017fa53e505d2d3c8c0395f2faae4a08ca092fed0b43d20b680374631c", func := "loop.example/dagconsensus/laws.FnGraphMerge", spec := "fnGraphMerge", apart := false, narrowed := true }
def FnGraphMergeUptoSaid : Prop := fnGraphMergeUptoRow.holds Try.pinned (OpenSpec.upto fnGraphMergeSpec)

end Rows
end Go.Proofs.Ythajlhmebkjbbaa
