/-
  No cell of these rows narrows 'for every input' (looked for: loops, veiled, ifaces, maps, wideKeys, modest, calm, conditions, laid).
  DERIVED. THE GIVEN ROWS OF THIS SEAT. 4 by the template 'for every input the law returns true; each argument reads behind the call as it read before'; 0 by the template 'total and deterministic' (their statements: YtcagfmbboliohaaTotals.lean).
  GIVEN WITH THE SEED: the statements are not yours to turn. If you find one false, say at which input.
  Laid BY PROGRAM, IN A SANDBOX (cutbox-rows.mjs): the forced cells as the released guide's own fill.sh prints them over the translation fef6db325dff1553… (all of the seat's roots in one cut). By AI agents, Wed Nov 11 2026. No macro, syntax, notation, axiom, sorry.
-/
import Derived.Test.YtcagfmbboliohaaChecked
import GoSem.Claim
import GoSem.ClaimJoined
import GoSem.ClaimMapViews
import Derived.JoinedTies
import Derived.KernelRfl
namespace Go.Proofs.Ytcagfmbboliohaa
/- THE CELL 'sum', in the pinned program and in every row, IS THE sha256 OF THE DUMP (.gsa) THAT YtcagfmbboliohaaProg.lean LOADS. Nothing in Lean hashes anything: it is a label: what it is worth is what the hold of that sum in a sandbox is worth. -/
noncomputable def Try.pinned : Pinned := { name := "ytcagfmbboliohaa", sum := "fef6db325dff1553b47a19311950d634358c1347760e045d1fd556ef4ce7f31a", checked := Try.checked }
namespace Rows
def none {H : Type} : Left H := { results := [], args := [] }

/-- 'laws.FnReceiptCheck': WHATEVER THE INPUT: true; the input reads as it did. -/
def fnReceiptCheckSpec : ChangeSpec := { name := "fnReceiptCheck", fn := fun _ => fun
  | [d] => { results := [.lit (.bool true)], args := [d] }
  | _ => none }
def fnReceiptCheckRow : OpenClaim := { program := "ytcagfmbboliohaa", sum := "fef6db325dff1553b47a19311950d634358c1347760e045d1fd556ef4ce7f31a", func := "loop.example/dagconsensus/laws.FnReceiptCheck", spec := "fnReceiptCheck", unfollowed := true, recurses := true, apart := false }
def FnReceiptCheckSaid : Prop := fnReceiptCheckRow.holds Try.pinned (OpenSpec.ofChange fnReceiptCheckSpec)

/-- ITS FALSE NEIGHBOUR: 'it returns false'. Refute it at one input. -/
def fnReceiptCheckWrong : ChangeSpec := { name := "fnReceiptCheck", fn := fun _ => fun
  | [d] => { results := [.lit (.bool false)], args := [d] }
  | _ => none }
def FnReceiptCheckWrongFalsely : Prop := fnReceiptCheckRow.holds Try.pinned (OpenSpec.ofChange fnReceiptCheckWrong)

/-- 'laws.FnExactReceiptProof': WHATEVER THE INPUT: true; the input reads as it did. -/
def fnExactReceiptProofSpec : ChangeSpec := { name := "fnExactReceiptProof", fn := fun _ => fun
  | [d1, d2] => { results := [.lit (.bool true)], args := [d1, d2] }
  | _ => none }
def fnExactReceiptProofRow : OpenClaim := { program := "ytcagfmbboliohaa", sum := "fef6db325dff1553b47a19311950d634358c1347760e045d1fd556ef4ce7f31a", func := "loop.example/dagconsensus/laws.FnExactReceiptProof", spec := "fnExactReceiptProof", unfollowed := true, recurses := true, apart := false }
def FnExactReceiptProofSaid : Prop := fnExactReceiptProofRow.holds Try.pinned (OpenSpec.ofChange fnExactReceiptProofSpec)

/-- ITS FALSE NEIGHBOUR: 'it returns false'. Refute it at one input. -/
def fnExactReceiptProofWrong : ChangeSpec := { name := "fnExactReceiptProof", fn := fun _ => fun
  | [d1, d2] => { results := [.lit (.bool false)], args := [d1, d2] }
  | _ => none }
def FnExactReceiptProofWrongFalsely : Prop := fnExactReceiptProofRow.holds Try.pinned (OpenSpec.ofChange fnExactReceiptProofWrong)

/-- 'laws.FnReceiptProof': WHATEVER THE INPUT: true; the input reads as it did. -/
def fnReceiptProofSpec : ChangeSpec := { name := "fnReceiptProof", fn := fun _ => fun
  | [d] => { results := [.lit (.bool true)], args := [d] }
  | _ => none }
def fnReceiptProofRow : OpenClaim := { program := "ytcagfmbboliohaa", sum := "fef6db325dff1553b47a19311950d634358c1347760e045d1fd556ef4ce7f31a", func := "loop.example/dagconsensus/laws.FnReceiptProof", spec := "fnReceiptProof", unfollowed := true, recurses := true, apart := false }
def FnReceiptProofSaid : Prop := fnReceiptProofRow.holds Try.pinned (OpenSpec.ofChange fnReceiptProofSpec)

/-- ITS FALSE NEIGHBOUR: 'it returns false'. Refute it at one input. -/
def fnReceiptProofWrong : ChangeSpec := { name := "fnReceiptProof", fn := fun _ => fun
  | [d] => { results := [.lit (.bool false)], args := [d] }
  | _ => none }
def FnReceiptProofWrongFalsely : Prop := fnReceiptProofRow.holds Try.pinned (OpenSpec.ofChange fnReceiptProofWrong)

/-- 'laws.FnReceiptFalse': WHATEVER THE INPUT: true; the input reads as it did. -/
def fnReceiptFalseSpec : ChangeSpec := { name := "fnReceiptFalse", fn := fun _ => fun
  | [d1, d2] => { results := [.lit (.bool true)], args := [d1, d2] }
  | _ => none }
def fnReceiptFalseRow : OpenClaim := { program := "ytcagfmbboliohaa", sum := "fef6db325dff1553b47a19311950d634358c1347760e045d1fd556ef4ce7f31a", func := "loop.example/dagconsensus/laws.FnReceiptFalse", spec := "fnReceiptFalse", unfollowed := true, recurses := true, apart := false }
def FnReceiptFalseSaid : Prop := fnReceiptFalseRow.holds Try.pinned (OpenSpec.ofChange fnReceiptFalseSpec)

/-- ITS FALSE NEIGHBOUR: 'it returns false'. Refute it at one input. -/
def fnReceiptFalseWrong : ChangeSpec := { name := "fnReceiptFalse", fn := fun _ => fun
  | [d1, d2] => { results := [.lit (.bool false)], args := [d1, d2] }
  | _ => none }
def FnReceiptFalseWrongFalsely : Prop := fnReceiptFalseRow.holds Try.pinned (OpenSpec.ofChange fnReceiptFalseWrong)

/- THE SECOND FORM. 'bulk': how many values and letters a reading holds, each counted each time it is reached (what is shared counts as often as it is met; a slice's spare places count too). A statement '..UptoSaid' is the law's where the arguments, and the package variables that the reading takes, are together of bulk at most 1048576: NARROWER than '..Said'. Prove '..Said' where nothing that the law and all that it calls make is longer than what came in: it says more and counts as full. Else prove '..UptoSaid'. A law counts once. -/
mutual
def uptoBulk {H : Type} : DataW H → Nat
  | .lit (.string bytes) => bytes.length + 1
  | .lit _ => 1
  | .nil => 1
  | .ptr d => uptoBulk d + 1
  | .slice elems spare => uptoBulkAll elems + uptoBulkAll spare + 1
  | .agg parts => uptoBulkAll parts + 1
  | .iface _ d => uptoBulk d + 1
  | .map entries => uptoBulkEntries entries + 1
  | .held _ => 1
def uptoBulkAll {H : Type} : List (DataW H) → Nat
  | [] => 0
  | d :: r => uptoBulk d + uptoBulkAll r
def uptoBulkEntries {H : Type} : List (Lit × DataW H) → Nat
  | [] => 0
  | x :: r => uptoBulkEntry x + uptoBulkEntries r
def uptoBulkEntry {H : Type} : Lit × DataW H → Nat
  | (.string bytes, d) => bytes.length + uptoBulk d + 1
  | (_, d) => uptoBulk d + 1
 end
def uptoSmall : (H : Type) → List (DataW H) → Bool := fun _ ds => decide (uptoBulkAll ds ≤ 1048576)
def OpenSpec.upto (s : _root_.Go.ChangeSpec) : _root_.Go.OpenSpec := { _root_.Go.OpenSpec.ofChange s with cond := some uptoSmall }

/-- 'laws.FnReceiptCheck', WHERE WHAT IT READS IS OF BULK AT MOST 1048576: true; the input reads as it did. -/
def fnReceiptCheckUptoRow : OpenClaim := { program := "ytcagfmbboliohaa", sum := "fef6db325dff1553b47a19311950d634358c1347760e045d1fd556ef4ce7f31a", func := "loop.example/dagconsensus/laws.FnReceiptCheck", spec := "fnReceiptCheck", unfollowed := true, recurses := true, apart := false, narrowed := true }
def FnReceiptCheckUptoSaid : Prop := fnReceiptCheckUptoRow.holds Try.pinned (OpenSpec.upto fnReceiptCheckSpec)

/-- 'laws.FnExactReceiptProof', WHERE WHAT IT READS IS OF BULK AT MOST 1048576: true; the input reads as it did. -/
def fnExactReceiptProofUptoRow : OpenClaim := { program := "ytcagfmbboliohaa", sum := "fef6db325dff1553b47a19311950d634358c1347760e045d1fd556ef4ce7f31a", func := "loop.example/dagconsensus/laws.FnExactReceiptProof", spec := "fnExactReceiptProof", unfollowed := true, recurses := true, apart := false, narrowed := true }
def FnExactReceiptProofUptoSaid : Prop := fnExactReceiptProofUptoRow.holds Try.pinned (OpenSpec.upto fnExactReceiptProofSpec)

/-- 'laws.FnReceiptProof', WHERE WHAT IT READS IS OF BULK AT MOST 1048576: true; the input reads as it did. -/
def fnReceiptProofUptoRow : OpenClaim := { program := "ytcagfmbboliohaa", sum := "fef6db325dff1553b47a19311950d634358c1347760e045d1fd556ef4ce7f31a", func := "loop.example/dagconsensus/laws.FnReceiptProof", spec := "fnReceiptProof", unfollowed := true, recurses := true, apart := false, narrowed := true }
def FnReceiptProofUptoSaid : Prop := fnReceiptProofUptoRow.holds Try.pinned (OpenSpec.upto fnReceiptProofSpec)

/-- 'laws.FnReceiptFalse', WHERE WHAT IT READS IS OF BULK AT MOST 1048576: true; the input reads as it did. -/
def fnReceiptFalseUptoRow : OpenClaim := { program := "ytcagfmbboliohaa", sum := "fef6db325dff1553b47a19311950d634358c1347760e045d1fd556ef4ce7f31a", func := "loop.example/dagconsensus/laws.FnReceiptFalse", spec := "fnReceiptFalse", unfollowed := true, recurses := true, apart := false, narrowed := true }
def FnReceiptFalseUptoSaid : Prop := fnReceiptFalseUptoRow.holds Try.pinned (OpenSpec.upto fnReceiptFalseSpec)

end Rows
end Go.Proofs.Ytcagfmbboliohaa
