/-
  No cell of these rows narrows 'for every input' (looked for: loops, veiled, ifaces, maps, wideKeys, modest, calm, conditions, laid).
  DERIVED. THE GIVEN ROWS OF THIS SEAT. 10 by the template 'for every input the law returns true; each argument reads behind the call as it read before'; 0 by the template 'total and deterministic' (their statements: YtbcmpfhemangpaaTotals.lean).
  GIVEN WITH THE SEED: the statements are not yours to turn. If you find one false, say at which input.
  Laid BY PROGRAM, IN A SANDBOX (cutbox-rows.mjs): the forced cells as the released guide's own fill.sh prints them over the translation 0458ee96a8dd536c… (all of the seat's roots in one cut). By AI agents, Wed Nov 11 2026. No macro, syntax, notation, axiom, sorry.
-/
import Derived.Test.YtbcmpfhemangpaaChecked
import GoSem.Claim
import GoSem.ClaimJoined
import GoSem.ClaimMapViews
import Derived.JoinedTies
import Derived.KernelRfl
namespace Go.Proofs.Ytbcmpfhemangpaa
/- THE CELL 'sum', in the pinned program and in every row, IS THE sha256 OF THE DUMP (.gsa) THAT YtbcmpfhemangpaaProg.lean LOADS. Nothing in Lean hashes anything: it is a label: what it is worth is what the hold of that sum in a sandbox is worth. -/
noncomputable def Try.pinned : Pinned := { name := "ytbcmpfhemangpaa", sum := "0458ee96a8dd536c5fc2f0615bfca61bffcb04462830f02294bb9dcedc64fb4c", checked := Try.checked }
namespace Rows
def none {H : Type} : Left H := { results := [], args := [] }

/-- 'laws.FnTallyGuilty': WHATEVER THE INPUT: true; the input reads as it did. -/
def fnTallyGuiltySpec : ChangeSpec := { name := "fnTallyGuilty", fn := fun _ => fun
  | [d] => { results := [.lit (.bool true)], args := [d] }
  | _ => none }
def fnTallyGuiltyRow : OpenClaim := { program := "ytbcmpfhemangpaa", sum := "0458ee96a8dd536c5fc2f0615bfca61bffcb04462830f02294bb9dcedc64fb4c", func := "loop.example/dagconsensus/laws.FnTallyGuilty", spec := "fnTallyGuilty", unfollowed := true, recurses := true, plainKeys := false, apart := false }
def FnTallyGuiltySaid : Prop := fnTallyGuiltyRow.holds Try.pinned (OpenSpec.ofChange fnTallyGuiltySpec)

/-- ITS FALSE NEIGHBOUR: 'it returns false'. Refute it at one input. -/
def fnTallyGuiltyWrong : ChangeSpec := { name := "fnTallyGuilty", fn := fun _ => fun
  | [d] => { results := [.lit (.bool false)], args := [d] }
  | _ => none }
def FnTallyGuiltyWrongFalsely : Prop := fnTallyGuiltyRow.holds Try.pinned (OpenSpec.ofChange fnTallyGuiltyWrong)

/-- 'laws.FnVoterForget': WHATEVER THE INPUT: true; the input reads as it did. -/
def fnVoterForgetSpec : ChangeSpec := { name := "fnVoterForget", fn := fun _ => fun
  | [d1, d2] => { results := [.lit (.bool true)], args := [d1, d2] }
  | _ => none }
def fnVoterForgetRow : OpenClaim := { program := "ytbcmpfhemangpaa", sum := "0458ee96a8dd536c5fc2f0615bfca61bffcb04462830f02294bb9dcedc64fb4c", func := "loop.example/dagconsensus/laws.FnVoterForget", spec := "fnVoterForget", unfollowed := true, recurses := true, plainKeys := false, apart := false }
def FnVoterForgetSaid : Prop := fnVoterForgetRow.holds Try.pinned (OpenSpec.ofChange fnVoterForgetSpec)

/-- ITS FALSE NEIGHBOUR: 'it returns false'. Refute it at one input. -/
def fnVoterForgetWrong : ChangeSpec := { name := "fnVoterForget", fn := fun _ => fun
  | [d1, d2] => { results := [.lit (.bool false)], args := [d1, d2] }
  | _ => none }
def FnVoterForgetWrongFalsely : Prop := fnVoterForgetRow.holds Try.pinned (OpenSpec.ofChange fnVoterForgetWrong)

/-- 'laws.FnExactTallyAdd': WHATEVER THE INPUT: true; the input reads as it did. -/
def fnExactTallyAddSpec : ChangeSpec := { name := "fnExactTallyAdd", fn := fun _ => fun
  | [d1, d2, d3] => { results := [.lit (.bool true)], args := [d1, d2, d3] }
  | _ => none }
def fnExactTallyAddRow : OpenClaim := { program := "ytbcmpfhemangpaa", sum := "0458ee96a8dd536c5fc2f0615bfca61bffcb04462830f02294bb9dcedc64fb4c", func := "loop.example/dagconsensus/laws.FnExactTallyAdd", spec := "fnExactTallyAdd", inPlace := ["slices.overlaps[int]"], plainKeys := false, apart := false }
def FnExactTallyAddSaid : Prop := fnExactTallyAddRow.holds Try.pinned (OpenSpec.ofChange fnExactTallyAddSpec)

/-- ITS FALSE NEIGHBOUR: 'it returns false'. Refute it at one input. -/
def fnExactTallyAddWrong : ChangeSpec := { name := "fnExactTallyAdd", fn := fun _ => fun
  | [d1, d2, d3] => { results := [.lit (.bool false)], args := [d1, d2, d3] }
  | _ => none }
def FnExactTallyAddWrongFalsely : Prop := fnExactTallyAddRow.holds Try.pinned (OpenSpec.ofChange fnExactTallyAddWrong)

/-- 'laws.FnTallyAdd': WHATEVER THE INPUT: true; the input reads as it did. -/
def fnTallyAddSpec : ChangeSpec := { name := "fnTallyAdd", fn := fun _ => fun
  | [d] => { results := [.lit (.bool true)], args := [d] }
  | _ => none }
def fnTallyAddRow : OpenClaim := { program := "ytbcmpfhemangpaa", sum := "0458ee96a8dd536c5fc2f0615bfca61bffcb04462830f02294bb9dcedc64fb4c", func := "loop.example/dagconsensus/laws.FnTallyAdd", spec := "fnTallyAdd", inPlace := ["slices.overlaps[int]"], plainKeys := false, apart := false }
def FnTallyAddSaid : Prop := fnTallyAddRow.holds Try.pinned (OpenSpec.ofChange fnTallyAddSpec)

/-- ITS FALSE NEIGHBOUR: 'it returns false'. Refute it at one input. -/
def fnTallyAddWrong : ChangeSpec := { name := "fnTallyAdd", fn := fun _ => fun
  | [d] => { results := [.lit (.bool false)], args := [d] }
  | _ => none }
def FnTallyAddWrongFalsely : Prop := fnTallyAddRow.holds Try.pinned (OpenSpec.ofChange fnTallyAddWrong)

/-- 'laws.FnTallyDone': WHATEVER THE INPUT: true; the input reads as it did. -/
def fnTallyDoneSpec : ChangeSpec := { name := "fnTallyDone", fn := fun _ => fun
  | [d1, d2] => { results := [.lit (.bool true)], args := [d1, d2] }
  | _ => none }
def fnTallyDoneRow : OpenClaim := { program := "ytbcmpfhemangpaa", sum := "0458ee96a8dd536c5fc2f0615bfca61bffcb04462830f02294bb9dcedc64fb4c", func := "loop.example/dagconsensus/laws.FnTallyDone", spec := "fnTallyDone", inPlace := ["slices.overlaps[int]"], plainKeys := false, apart := false }
def FnTallyDoneSaid : Prop := fnTallyDoneRow.holds Try.pinned (OpenSpec.ofChange fnTallyDoneSpec)

/-- ITS FALSE NEIGHBOUR: 'it returns false'. Refute it at one input. -/
def fnTallyDoneWrong : ChangeSpec := { name := "fnTallyDone", fn := fun _ => fun
  | [d1, d2] => { results := [.lit (.bool false)], args := [d1, d2] }
  | _ => none }
def FnTallyDoneWrongFalsely : Prop := fnTallyDoneRow.holds Try.pinned (OpenSpec.ofChange fnTallyDoneWrong)

/-- 'laws.FnVoterFull': WHATEVER THE INPUT: true; the input reads as it did. -/
def fnVoterFullSpec : ChangeSpec := { name := "fnVoterFull", fn := fun _ => fun
  | [d] => { results := [.lit (.bool true)], args := [d] }
  | _ => none }
def fnVoterFullRow : OpenClaim := { program := "ytbcmpfhemangpaa", sum := "0458ee96a8dd536c5fc2f0615bfca61bffcb04462830f02294bb9dcedc64fb4c", func := "loop.example/dagconsensus/laws.FnVoterFull", spec := "fnVoterFull", unfollowed := true, recurses := true, plainKeys := false, apart := false }
def FnVoterFullSaid : Prop := fnVoterFullRow.holds Try.pinned (OpenSpec.ofChange fnVoterFullSpec)

/-- ITS FALSE NEIGHBOUR: 'it returns false'. Refute it at one input. -/
def fnVoterFullWrong : ChangeSpec := { name := "fnVoterFull", fn := fun _ => fun
  | [d] => { results := [.lit (.bool false)], args := [d] }
  | _ => none }
def FnVoterFullWrongFalsely : Prop := fnVoterFullRow.holds Try.pinned (OpenSpec.ofChange fnVoterFullWrong)

/-- 'laws.FnVoterKeeps': WHATEVER THE INPUT: true; the input reads as it did. -/
def fnVoterKeepsSpec : ChangeSpec := { name := "fnVoterKeeps", fn := fun _ => fun
  | [d] => { results := [.lit (.bool true)], args := [d] }
  | _ => none }
def fnVoterKeepsRow : OpenClaim := { program := "ytbcmpfhemangpaa", sum := "0458ee96a8dd536c5fc2f0615bfca61bffcb04462830f02294bb9dcedc64fb4c", func := "loop.example/dagconsensus/laws.FnVoterKeeps", spec := "fnVoterKeeps", unfollowed := true, recurses := true, plainKeys := false, apart := false }
def FnVoterKeepsSaid : Prop := fnVoterKeepsRow.holds Try.pinned (OpenSpec.ofChange fnVoterKeepsSpec)

/-- ITS FALSE NEIGHBOUR: 'it returns false'. Refute it at one input. -/
def fnVoterKeepsWrong : ChangeSpec := { name := "fnVoterKeeps", fn := fun _ => fun
  | [d] => { results := [.lit (.bool false)], args := [d] }
  | _ => none }
def FnVoterKeepsWrongFalsely : Prop := fnVoterKeepsRow.holds Try.pinned (OpenSpec.ofChange fnVoterKeepsWrong)

/-- 'laws.FnVoterOnce': WHATEVER THE INPUT: true; the input reads as it did. -/
def fnVoterOnceSpec : ChangeSpec := { name := "fnVoterOnce", fn := fun _ => fun
  | [d1, d2] => { results := [.lit (.bool true)], args := [d1, d2] }
  | _ => none }
def fnVoterOnceRow : OpenClaim := { program := "ytbcmpfhemangpaa", sum := "0458ee96a8dd536c5fc2f0615bfca61bffcb04462830f02294bb9dcedc64fb4c", func := "loop.example/dagconsensus/laws.FnVoterOnce", spec := "fnVoterOnce", unfollowed := true, recurses := true, plainKeys := false, apart := false }
def FnVoterOnceSaid : Prop := fnVoterOnceRow.holds Try.pinned (OpenSpec.ofChange fnVoterOnceSpec)

/-- ITS FALSE NEIGHBOUR: 'it returns false'. Refute it at one input. -/
def fnVoterOnceWrong : ChangeSpec := { name := "fnVoterOnce", fn := fun _ => fun
  | [d1, d2] => { results := [.lit (.bool false)], args := [d1, d2] }
  | _ => none }
def FnVoterOnceWrongFalsely : Prop := fnVoterOnceRow.holds Try.pinned (OpenSpec.ofChange fnVoterOnceWrong)

/-- 'laws.FnVoterOrder': WHATEVER THE INPUT: true; the input reads as it did. -/
def fnVoterOrderSpec : ChangeSpec := { name := "fnVoterOrder", fn := fun _ => fun
  | [d1, d2] => { results := [.lit (.bool true)], args := [d1, d2] }
  | _ => none }
def fnVoterOrderRow : OpenClaim := { program := "ytbcmpfhemangpaa", sum := "0458ee96a8dd536c5fc2f0615bfca61bffcb04462830f02294bb9dcedc64fb4c", func := "loop.example/dagconsensus/laws.FnVoterOrder", spec := "fnVoterOrder", unfollowed := true, recurses := true, plainKeys := false, apart := false }
def FnVoterOrderSaid : Prop := fnVoterOrderRow.holds Try.pinned (OpenSpec.ofChange fnVoterOrderSpec)

/-- ITS FALSE NEIGHBOUR: 'it returns false'. Refute it at one input. -/
def fnVoterOrderWrong : ChangeSpec := { name := "fnVoterOrder", fn := fun _ => fun
  | [d1, d2] => { results := [.lit (.bool false)], args := [d1, d2] }
  | _ => none }
def FnVoterOrderWrongFalsely : Prop := fnVoterOrderRow.holds Try.pinned (OpenSpec.ofChange fnVoterOrderWrong)

/-- 'laws.FnVoterRepeat': WHATEVER THE INPUT: true; the input reads as it did. -/
def fnVoterRepeatSpec : ChangeSpec := { name := "fnVoterRepeat", fn := fun _ => fun
  | [d] => { results := [.lit (.bool true)], args := [d] }
  | _ => none }
def fnVoterRepeatRow : OpenClaim := { program := "ytbcmpfhemangpaa", sum := "0458ee96a8dd536c5fc2f0615bfca61bffcb04462830f02294bb9dcedc64fb4c", func := "loop.example/dagconsensus/laws.FnVoterRepeat", spec := "fnVoterRepeat", unfollowed := true, recurses := true, plainKeys := false, apart := false }
def FnVoterRepeatSaid : Prop := fnVoterRepeatRow.holds Try.pinned (OpenSpec.ofChange fnVoterRepeatSpec)

/-- ITS FALSE NEIGHBOUR: 'it returns false'. Refute it at one input. -/
def fnVoterRepeatWrong : ChangeSpec := { name := "fnVoterRepeat", fn := fun _ => fun
  | [d] => { results := [.lit (.bool false)], args := [d] }
  | _ => none }
def FnVoterRepeatWrongFalsely : Prop := fnVoterRepeatRow.holds Try.pinned (OpenSpec.ofChange fnVoterRepeatWrong)

/- THE SECOND FORM. 'bulk': how many values and letters a reading holds, each counted each time it is reached (what is shared counts as often as it is met; a slice's spare places count too). A statement '..UptoSaid' is the law's where the arguments, and the package variables that the reading takes, are together of bulk at most 1048576: NARROWER than '..Said'. Prove '..Said' where nothing that the law and all that it calls make is longer than what came in: it says more and counts as full. Else prove '..UptoSaid'. A law counts once. -/
mutual
def uptoBulk {H : Type} : DataW H → Nat
  | .lit (.string bytes) => bytes.length + 1
  | .lit _ => 1
  | .nil => 1
  | .ptr d => uptoBulk d + 1
  | .slice elems spare => uptoBulkAll elems + uptoBulkAll spare + 1
  | .agg parts => uptoBulkAll parts + 1
  | .iface _ d => uptoBulk d + 1
  | .map entries => uptoBulkEntries entries + 1
  | .held _ => 1
def uptoBulkAll {H : Type} : List (DataW H) → Nat
  | [] => 0
  | d :: r => uptoBulk d + uptoBulkAll r
def uptoBulkEntries {H : Type} : List (Lit × DataW H) → Nat
  | [] => 0
  | x :: r => uptoBulkEntry x + uptoBulkEntries r
def uptoBulkEntry {H : Type} : Lit × DataW H → Nat
  | (.string bytes, d) => bytes.length + uptoBulk d + 1
  | (_, d) => uptoBulk d + 1
 end
def uptoSmall : (H : Type) → List (DataW H) → Bool := fun _ ds => decide (uptoBulkAll ds ≤ 1048576)
def OpenSpec.upto (s : _root_.Go.ChangeSpec) : _root_.Go.OpenSpec := { _root_.Go.OpenSpec.ofChange s with cond := some uptoSmall }

/-- 'laws.FnTallyGuilty', WHERE WHAT IT READS IS OF BULK AT MOST 1048576: true; the input reads as it did. -/
def fnTallyGuiltyUptoRow : OpenClaim := { program := "ytbcmpfhemangpaa", sum := "0458ee96a8dd536c5fc2f0615bfca61bffcb04462830f02294bb9dcedc64fb4c", func := "loop.example/dagconsensus/laws.FnTallyGuilty", spec := "fnTallyGuilty", unfollowed := true, recurses := true, plainKeys := false, apart := false, narrowed := true }
def FnTallyGuiltyUptoSaid : Prop := fnTallyGuiltyUptoRow.holds Try.pinned (OpenSpec.upto fnTallyGuiltySpec)

/-- 'laws.FnVoterForget', WHERE WHAT IT READS IS OF BULK AT MOST 1048576: true; the input reads as it did. -/
def fnVoterForgetUptoRow : OpenClaim := { program := "ytbcmpfhemangpaa", sum := "0458ee96a8dd536c5fc2f0615bfca61bffcb04462830f02294bb9dcedc64fb4c", func := "loop.example/dagconsensus/laws.FnVoterForget", spec := "fnVoterForget", unfollowed := true, recurses := true, plainKeys := false, apart := false, narrowed := true }
def FnVoterForgetUptoSaid : Prop := fnVoterForgetUptoRow.holds Try.pinned (OpenSpec.upto fnVoterForgetSpec)

/-- 'laws.FnExactTallyAdd', WHERE WHAT IT READS IS OF BULK AT MOST 1048576: true; the input reads as it did. -/
def fnExactTallyAddUptoRow : OpenClaim := { program := "ytbcmpfhemangpaa", sum := "0458ee96a8dd536c5fc2f0615bfca61bffcb04462830f02294bb9dcedc64fb4c", func := "loop.example/dagconsensus/laws.FnExactTallyAdd", spec := "fnExactTallyAdd", inPlace := ["slices.overlaps[int]"], plainKeys := false, apart := false, narrowed := true }
def FnExactTallyAddUptoSaid : Prop := fnExactTallyAddUptoRow.holds Try.pinned (OpenSpec.upto fnExactTallyAddSpec)

/-- 'laws.FnTallyAdd', WHERE WHAT IT READS IS OF BULK AT MOST 1048576: true; the input reads as it did. -/
def fnTallyAddUptoRow : OpenClaim := { program := "ytbcmpfhemangpaa", sum := "0458ee96a8dd536c5fc2f0615bfca61bffcb04462830f02294bb9dcedc64fb4c", func := "loop.example/dagconsensus/laws.FnTallyAdd", spec := "fnTallyAdd", inPlace := ["slices.overlaps[int]"], plainKeys := false, apart := false, narrowed := true }
def FnTallyAddUptoSaid : Prop := fnTallyAddUptoRow.holds Try.pinned (OpenSpec.upto fnTallyAddSpec)

/-- 'laws.FnTallyDone', WHERE WHAT IT READS IS OF BULK AT MOST 1048576: true; the input reads as it did. -/
def fnTallyDoneUptoRow : OpenClaim := { program := "ytbcmpfhemangpaa", sum := "0458ee96a8dd536c5fc2f0615bfca61bffcb04462830f02294bb9dcedc64fb4c", func := "loop.example/dagconsensus/laws.FnTallyDone", spec := "fnTallyDone", inPlace := ["slices.overlaps[int]"], plainKeys := false, apart := false, narrowed := true }
def FnTallyDoneUptoSaid : Prop := fnTallyDoneUptoRow.holds Try.pinned (OpenSpec.upto fnTallyDoneSpec)

/-- 'laws.FnVoterFull', WHERE WHAT IT READS IS OF BULK AT MOST 1048576: true; the input reads as it did. -/
def fnVoterFullUptoRow : OpenClaim := { program := "ytbcmpfhemangpaa", sum := "0458ee96a8dd536c5fc2f0615bfca61bffcb04462830f02294bb9dcedc64fb4c", func := "loop.example/dagconsensus/laws.FnVoterFull", spec := "fnVoterFull", unfollowed := true, recurses := true, plainKeys := false, apart := false, narrowed := true }
def FnVoterFullUptoSaid : Prop := fnVoterFullUptoRow.holds Try.pinned (OpenSpec.upto fnVoterFullSpec)

/-- 'laws.FnVoterKeeps', WHERE WHAT IT READS IS OF BULK AT MOST 1048576: true; the input reads as it did. -/
def fnVoterKeepsUptoRow : OpenClaim := { program := "ytbcmpfhemangpaa", sum := "0458ee96a8dd536c5fc2f0615bfca61bffcb04462830f02294bb9dcedc64fb4c", func := "loop.example/dagconsensus/laws.FnVoterKeeps", spec := "fnVoterKeeps", unfollowed := true, recurses := true, plainKeys := false, apart := false, narrowed := true }
def FnVoterKeepsUptoSaid : Prop := fnVoterKeepsUptoRow.holds Try.pinned (OpenSpec.upto fnVoterKeepsSpec)

/-- 'laws.FnVoterOnce', WHERE WHAT IT READS IS OF BULK AT MOST 1048576: true; the input reads as it did. -/
def fnVoterOnceUptoRow : OpenClaim := { program := "ytbcmpfhemangpaa", sum := "0458ee96a8dd536c5fc2f0615bfca61bffcb04462830f02294bb9dcedc64fb4c", func := "loop.example/dagconsensus/laws.FnVoterOnce", spec := "fnVoterOnce", unfollowed := true, recurses := true, plainKeys := false, apart := false, narrowed := true }
def FnVoterOnceUptoSaid : Prop := fnVoterOnceUptoRow.holds Try.pinned (OpenSpec.upto fnVoterOnceSpec)

/-- 'laws.FnVoterOrder', WHERE WHAT IT READS IS OF BULK AT MOST 1048576: true; the input reads as it did. -/
def fnVoterOrderUptoRow : OpenClaim := { program := "ytbcmpfhemangpaa", sum := "0458ee96a8dd536c5fc2f0615bfca61bffcb04462830f02294bb9dcedc64fb4c", func := "loop.example/dagconsensus/laws.FnVoterOrder", spec := "fnVoterOrder", unfollowed := true, recurses := true, plainKeys := false, apart := false, narrowed := true }
def FnVoterOrderUptoSaid : Prop := fnVoterOrderUptoRow.holds Try.pinned (OpenSpec.upto fnVoterOrderSpec)

/-- 'laws.FnVoterRepeat', WHERE WHAT IT READS IS OF BULK AT MOST 1048576: true; the input reads as it did. -/
def fnVoterRepeatUptoRow : OpenClaim := { program := "ytbcmpfhemangpaa", sum := "0458ee96a8dd536c5fc2f0615bfca61bffcb04462830f02294bb9dcedc64fb4c", func := "loop.example/dagconsensus/laws.FnVoterRepeat", spec := "fnVoterRepeat", unfollowed := true, recurses := true, plainKeys := false, apart := false, narrowed := true }
def FnVoterRepeatUptoSaid : Prop := fnVoterRepeatUptoRow.holds Try.pinned (OpenSpec.upto fnVoterRepeatSpec)

end Rows
end Go.Proofs.Ytbcmpfhemangpaa
