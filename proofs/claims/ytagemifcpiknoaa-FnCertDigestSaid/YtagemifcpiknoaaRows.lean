/-
  No cell of these rows narrows 'for every input' (looked for: loops, veiled, ifaces, maps, wideKeys, modest, calm, conditions, laid).
  DERIVED. THE GIVEN ROWS OF THIS SEAT. 5 by the template 'for every input the law returns true; each argument reads behind the call as it read before'; 0 by the template 'total and deterministic' (their statements: YtagemifcpiknoaaTotals.lean).
  GIVEN WITH THE SEED: the statements are not yours to turn. If you find one false, say at which input.
  Laid BY PROGRAM, IN A SANDBOX (cutbox-rows.mjs): the forced cells as the released guide's own fill.sh prints them over the translation 50c2765dc0a53b1d… (all of the seat's roots in one cut). By AI agents, Wed Nov 11 2026. No macro, syntax, notation, axiom, sorry.
-/
import Derived.Test.YtagemifcpiknoaaChecked
import GoSem.Claim
import GoSem.ClaimJoined
import GoSem.ClaimMapViews
import Derived.JoinedTies
import Derived.KernelRfl
namespace Go.Proofs.Ytagemifcpiknoaa
/- THE CELL 'sum', in the pinned program and in every row, IS THE sha256 OF THE DUMP (.gsa) THAT YtagemifcpiknoaaProg.lean LOADS. Nothing in Lean hashes anything: it is a label: what it is worth is what the hold of that sum in a sandbox is worth. -/
noncomputable def Try.pinned : Pinned := { name := "ytagemifcpiknoaa", sum := "50c2765dc0a53b1d2f0e5a3f772184d06557ec959c795e71f212a7128f2d1237", checked := Try.checked }
namespace Rows
def none {H : Type} : Left H := { results := [], args := [] }

/-- 'laws.FnCertQuorum': WHATEVER THE INPUT: true; the input reads as it did. -/
def fnCertQuorumSpec : ChangeSpec := { name := "fnCertQuorum", fn := fun _ => fun
  | [d1, d2] => { results := [.lit (.bool true)], args := [d1, d2] }
  | _ => none }
def fnCertQuorumRow : OpenClaim := { program := "ytagemifcpiknoaa", sum := "50c2765dc0a53b1d2f0e5a3f772184d06557ec959c795e71f212a7128f2d1237", func := "loop.example/dagconsensus/laws.FnCertQuorum", spec := "fnCertQuorum", apart := false }
def FnCertQuorumSaid : Prop := fnCertQuorumRow.holds Try.pinned (OpenSpec.ofChange fnCertQuorumSpec)

/-- ITS FALSE NEIGHBOUR: 'it returns false'. Refute it at one input. -/
def fnCertQuorumWrong : ChangeSpec := { name := "fnCertQuorum", fn := fun _ => fun
  | [d1, d2] => { results := [.lit (.bool false)], args := [d1, d2] }
  | _ => none }
def FnCertQuorumWrongFalsely : Prop := fnCertQuorumRow.holds Try.pinned (OpenSpec.ofChange fnCertQuorumWrong)

/-- 'laws.FnCertWrong': WHATEVER THE INPUT: true; the input reads as it did. -/
def fnCertWrongSpec : ChangeSpec := { name := "fnCertWrong", fn := fun _ => fun
  | [d1, d2] => { results := [.lit (.bool true)], args := [d1, d2] }
  | _ => none }
def fnCertWrongRow : OpenClaim := { program := "ytagemifcpiknoaa", sum := "50c2765dc0a53b1d2f0e5a3f772184d06557ec959c795e71f212a7128f2d1237", func := "loop.example/dagconsensus/laws.FnCertWrong", spec := "fnCertWrong", apart := false }
def FnCertWrongSaid : Prop := fnCertWrongRow.holds Try.pinned (OpenSpec.ofChange fnCertWrongSpec)

/-- ITS FALSE NEIGHBOUR: 'it returns false'. Refute it at one input. -/
def fnCertWrongWrong : ChangeSpec := { name := "fnCertWrong", fn := fun _ => fun
  | [d1, d2] => { results := [.lit (.bool false)], args := [d1, d2] }
  | _ => none }
def FnCertWrongWrongFalsely : Prop := fnCertWrongRow.holds Try.pinned (OpenSpec.ofChange fnCertWrongWrong)

/-- 'laws.FnCertSigners': WHATEVER THE INPUT: true; the input reads as it did. -/
def fnCertSignersSpec : ChangeSpec := { name := "fnCertSigners", fn := fun _ => fun
  | [d] => { results := [.lit (.bool true)], args := [d] }
  | _ => none }
def fnCertSignersRow : OpenClaim := { program := "ytagemifcpiknoaa", sum := "50c2765dc0a53b1d2f0e5a3f772184d06557ec959c795e71f212a7128f2d1237", func := "loop.example/dagconsensus/laws.FnCertSigners", spec := "fnCertSigners", apart := false }
def FnCertSignersSaid : Prop := fnCertSignersRow.holds Try.pinned (OpenSpec.ofChange fnCertSignersSpec)

/-- ITS FALSE NEIGHBOUR: 'it returns false'. Refute it at one input. -/
def fnCertSignersWrong : ChangeSpec := { name := "fnCertSigners", fn := fun _ => fun
  | [d] => { results := [.lit (.bool false)], args := [d] }
  | _ => none }
def FnCertSignersWrongFalsely : Prop := fnCertSignersRow.holds Try.pinned (OpenSpec.ofChange fnCertSignersWrong)

/-- 'laws.FnCertRoundTrip': WHATEVER THE INPUT: true; the input reads as it did. -/
def fnCertRoundTripSpec : ChangeSpec := { name := "fnCertRoundTrip", fn := fun _ => fun
  | [d] => { results := [.lit (.bool true)], args := [d] }
  | _ => none }
def fnCertRoundTripRow : OpenClaim := { program := "ytagemifcpiknoaa", sum := "50c2765dc0a53b1d2f0e5a3f772184d06557ec959c795e71f212a7128f2d1237", func := "loop.example/dagconsensus/laws.FnCertRoundTrip", spec := "fnCertRoundTrip", apart := false }
def FnCertRoundTripSaid : Prop := fnCertRoundTripRow.holds Try.pinned (OpenSpec.ofChange fnCertRoundTripSpec)

/-- ITS FALSE NEIGHBOUR: 'it returns false'. Refute it at one input. -/
def fnCertRoundTripWrong : ChangeSpec := { name := "fnCertRoundTrip", fn := fun _ => fun
  | [d] => { results := [.lit (.bool false)], args := [d] }
  | _ => none }
def FnCertRoundTripWrongFalsely : Prop := fnCertRoundTripRow.holds Try.pinned (OpenSpec.ofChange fnCertRoundTripWrong)

/-- 'laws.FnCertDigest': WHATEVER THE INPUT: true; the input reads as it did. -/
def fnCertDigestSpec : ChangeSpec := { name := "fnCertDigest", fn := fun _ => fun
  | [d1, d2] => { results := [.lit (.bool true)], args := [d1, d2] }
  | _ => none }
def fnCertDigestRow : OpenClaim := { program := "ytagemifcpiknoaa", sum := "50c2765dc0a53b1d2f0e5a3f772184d06557ec959c795e71f212a7128f2d1237", func := "loop.example/dagconsensus/laws.FnCertDigest", spec := "fnCertDigest", apart := false }
def FnCertDigestSaid : Prop := fnCertDigestRow.holds Try.pinned (OpenSpec.ofChange fnCertDigestSpec)

/-- ITS FALSE NEIGHBOUR: 'it returns false'. Refute it at one input. -/
def fnCertDigestWrong : ChangeSpec := { name := "fnCertDigest", fn := fun _ => fun
  | [d1, d2] => { results := [.lit (.bool false)], args := [d1, d2] }
  | _ => none }
def FnCertDigestWrongFalsely : Prop := fnCertDigestRow.holds Try.pinned (OpenSpec.ofChange fnCertDigestWrong)

/- THE SECOND FORM. 'bulk': how many values and letters a reading holds, each counted each time it is reached (what is shared counts as often as it is met; a slice's spare places count too). A statement '..UptoSaid' is the law's where the arguments, and the package variables that the reading takes, are together of bulk at most 1048576: NARROWER than '..Said'. Prove '..Said' where nothing that the law and all that it calls make is longer than what came in: it says more and counts as full. Else prove '..UptoSaid'. A law counts once. -/
mutual
def uptoBulk {H : Type} : DataW H → Nat
  | .lit (.string bytes) => bytes.length + 1
  | .lit _ => 1
  | .nil => 1
  | .ptr d => uptoBulk d + 1
  | .slice elems spare => uptoBulkAll elems + uptoBulkAll spare + 1
  | .agg parts => uptoBulkAll parts + 1
  | .iface _ d => uptoBulk d + 1
  | .map entries => uptoBulkEntries entries + 1
  | .held _ => 1
def uptoBulkAll {H : Type} : List (DataW H) → Nat
  | [] => 0
  | d :: r => uptoBulk d + uptoBulkAll r
def uptoBulkEntries {H : Type} : List (Lit × DataW H) → Nat
  | [] => 0
  | x :: r => uptoBulkEntry x + uptoBulkEntries r
def uptoBulkEntry {H : Type} : Lit × DataW H → Nat
  | (.string bytes, d) => bytes.length + uptoBulk d + 1
  | (_, d) => uptoBulk d + 1
 end
def uptoSmall : (H : Type) → List (DataW H) → Bool := fun _ ds => decide (uptoBulkAll ds ≤ 1048576)
def OpenSpec.upto (s : _root_.Go.ChangeSpec) : _root_.Go.OpenSpec := { _root_.Go.OpenSpec.ofChange s with cond := some uptoSmall }

/-- 'laws.FnCertQuorum', WHERE WHAT IT READS IS OF BULK AT MOST 1048576: true; the input reads as it did. -/
def fnCertQuorumUptoRow : OpenClaim := { program := "ytagemifcpiknoaa", sum := "50c2765dc0a53b1d2f0e5a3f772184d06557ec959c795e71f212a7128f2d1237", func := "loop.example/dagconsensus/laws.FnCertQuorum", spec := "fnCertQuorum", apart := false, narrowed := true }
def FnCertQuorumUptoSaid : Prop := fnCertQuorumUptoRow.holds Try.pinned (OpenSpec.upto fnCertQuorumSpec)

/-- 'laws.FnCertWrong', WHERE WHAT IT READS IS OF BULK AT MOST 1048576: true; the input reads as it did. -/
def fnCertWrongUptoRow : OpenClaim := { program := "ytagemifcpiknoaa", sum := "50c2765dc0a53b1d2f0e5a3f772184d06557ec959c795e71f212a7128f2d1237", func := "loop.example/dagconsensus/laws.FnCertWrong", spec := "fnCertWrong", apart := false, narrowed := true }
def FnCertWrongUptoSaid : Prop := fnCertWrongUptoRow.holds Try.pinned (OpenSpec.upto fnCertWrongSpec)

/-- 'laws.FnCertSigners', WHERE WHAT IT READS IS OF BULK AT MOST 1048576: true; the input reads as it did. -/
def fnCertSignersUptoRow : OpenClaim := { program := "ytagemifcpiknoaa", sum := "50c2765dc0a53b1d2f0e5a3f772184d06557ec959c795e71f212a7128f2d1237", func := "loop.example/dagconsensus/laws.FnCertSigners", spec := "fnCertSigners", apart := false, narrowed := true }
def FnCertSignersUptoSaid : Prop := fnCertSignersUptoRow.holds Try.pinned (OpenSpec.upto fnCertSignersSpec)

/-- 'laws.FnCertRoundTrip', WHERE WHAT IT READS IS OF BULK AT MOST 1048576: true; the input reads as it did. -/
def fnCertRoundTripUptoRow : OpenClaim := { program := "ytagemifcpiknoaa", sum := "50c2765dc0a53b1d2f0e5a3f772184d06557ec959c795e71f212a7128f2d1237", func := "loop.example/dagconsensus/laws.FnCertRoundTrip", spec := "fnCertRoundTrip", apart := false, narrowed := true }
def FnCertRoundTripUptoSaid : Prop := fnCertRoundTripUptoRow.holds Try.pinned (OpenSpec.upto fnCertRoundTripSpec)

/-- 'laws.FnCertDigest', WHERE WHAT IT READS IS OF BULK AT MOST 1048576: true; the input reads as it did. -/
def fnCertDigestUptoRow : OpenClaim := { program := "ytagemifcpiknoaa", sum := "50c2765dc0a53b1d2f0e5a3f772184d06557ec959c795e71f212a7128f2d1237", func := "loop.example/dagconsensus/laws.FnCertDigest", spec := "fnCertDigest", apart := false, narrowed := true }
def FnCertDigestUptoSaid : Prop := fnCertDigestUptoRow.holds Try.pinned (OpenSpec.upto fnCertDigestSpec)

end Rows
end Go.Proofs.Ytagemifcpiknoaa
