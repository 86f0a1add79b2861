/-
  NARROWER THAN 'FOR EVERY INPUT', by the rows' own cells (each row's printed sentence says how): FnExactWaveLeader: ifaces, laid · FnExactWaveDirect: ifaces, laid · FnWaveLeader: ifaces, laid · FnExactWaveVotes: ifaces, laid · FnWaveVotes: ifaces, laid · FnWaveDirect: ifaces, laid · FnExactCommitWaves: ifaces, laid.
  DERIVED. THE GIVEN ROWS OF THIS SEAT. 7 by the template 'for every input the law returns true; each argument reads behind the call as it read before'; 0 by the template 'total and deterministic' (their statements: YtpmhikdefbcofaaDoorTotals.lean).
  GIVEN WITH THE SEED: the statements are not yours to turn. If you find one false, say at which input.
  Laid BY PROGRAM, IN A SANDBOX (cutbox-rows.mjs): the forced cells as the released guide's own fill.sh prints them over the translation 31dcafe8524c8c2d… (all of the seat's roots in one cut). By AI agents, Wed Nov 11 2026. No macro, syntax, notation, axiom, sorry.
-/
import Derived.Test.YtpmhikdefbcofaaDoorChecked
import GoSem.Claim
import GoSem.ClaimJoined
import GoSem.ClaimMapViews
import Derived.JoinedTies
import Derived.KernelRfl
namespace Go.Proofs.YtpmhikdefbcofaaDoor
/- THE CELL 'sum', in the pinned program and in every row, IS THE sha256 OF THE DUMP (.gsa) THAT YtpmhikdefbcofaaDoorProg.lean LOADS. Nothing in Lean hashes anything: it is a label: what it is worth is what the hold of that sum in a sandbox is worth. -/
noncomputable def Tryd.pinned : Pinned := { name := "ytpmhikdefbcofaadoor", sum := "31dcafe8524c8c2dce9cb51446209bd663ffdd8d89db7f31f7d0ffa4775bd7b8", checked := Tryd.checked }
namespace Rows
def none {H : Type} : Left H := { results := [], args := [] }

/- WHAT THE LISTED PACKAGE-LEVEL VARIABLES READ AS WHEN THE CALL BEGINS. Each datum BY PROGRAM (the guide's laid-datum.mjs) off the statement by which the dump's own 'gosem.cut.vars' lays the variable. In a bare row this is a premise. The card (YtpmhikdefbcofaaDoorCards.lean) ties it to the program's text. -/
def laid_loop_example_dagconsensus_impl_errInvalid {H : Type} : DataW H := .iface "*errors.errorString" (.ptr (.agg [.lit (.string [116, 104, 101, 32, 103, 114, 97, 112, 104, 32, 111, 114, 32, 116, 104, 101, 32, 108, 101, 97, 100, 101, 114, 115, 32, 97, 114, 101, 32, 105, 110, 118, 97, 108, 105, 100])]))
def laid_loop_example_dagconsensus_impl_errNoWave {H : Type} : DataW H := .iface "*errors.errorString" (.ptr (.agg [.lit (.string [116, 104, 101, 114, 101, 32, 105, 115, 32, 110, 111, 32, 115, 117, 99, 104, 32, 119, 97, 118, 101])]))
def laid_loop_example_dagconsensus_impl_errNoVertex {H : Type} : DataW H := .iface "*errors.errorString" (.ptr (.agg [.lit (.string [116, 104, 101, 32, 108, 101, 97, 100, 101, 114, 32, 104, 97, 115, 32, 110, 111, 32, 118, 101, 114, 116, 101, 120, 32, 105, 110, 32, 116, 104, 105, 115, 32, 119, 97, 118, 101])]))

/-- 'laws.FnExactWaveLeader': WHATEVER THE INPUT: true; the input reads as it did. -/
def fnExactWaveLeaderSpec : ChangeSpec := { name := "fnExactWaveLeader", vars := ["loop.example/dagconsensus/impl.errInvalid", "loop.example/dagconsensus/impl.errNoWave", "loop.example/dagconsensus/impl.errNoVertex"], fn := fun _ => fun
  | [d1, d2, d3, d4, g1, g2, g3] => { results := [.lit (.bool true)], args := [d1, d2, d3, d4], vars := [g1, g2, g3] }
  | _ => none }
def fnExactWaveLeaderRow : OpenClaim := { program := "ytpmhikdefbcofaadoor", sum := "31dcafe8524c8c2dce9cb51446209bd663ffdd8d89db7f31f7d0ffa4775bd7b8", func := "loop.example/dagconsensus/laws.FnExactWaveLeader", spec := "fnExactWaveLeader", named := ["loop.example/dagconsensus/impl.errInvalid", "loop.example/dagconsensus/impl.errNoWave", "loop.example/dagconsensus/impl.errNoVertex"], ifaces := true, apart := false, laid := [("loop.example/dagconsensus/impl.errInvalid", laid_loop_example_dagconsensus_impl_errInvalid), ("loop.example/dagconsensus/impl.errNoWave", laid_loop_example_dagconsensus_impl_errNoWave), ("loop.example/dagconsensus/impl.errNoVertex", laid_loop_example_dagconsensus_impl_errNoVertex)] }
def FnExactWaveLeaderSaid : Prop := fnExactWaveLeaderRow.holds Tryd.pinned (OpenSpec.ofChange fnExactWaveLeaderSpec)

/-- ITS FALSE NEIGHBOUR: 'it returns false'. Refute it at one input. -/
def fnExactWaveLeaderWrong : ChangeSpec := { name := "fnExactWaveLeader", vars := ["loop.example/dagconsensus/impl.errInvalid", "loop.example/dagconsensus/impl.errNoWave", "loop.example/dagconsensus/impl.errNoVertex"], fn := fun _ => fun
  | [d1, d2, d3, d4, g1, g2, g3] => { results := [.lit (.bool false)], args := [d1, d2, d3, d4], vars := [g1, g2, g3] }
  | _ => none }
def FnExactWaveLeaderWrongFalsely : Prop := fnExactWaveLeaderRow.holds Tryd.pinned (OpenSpec.ofChange fnExactWaveLeaderWrong)

/-- 'laws.FnExactWaveDirect': WHATEVER THE INPUT: true; the input reads as it did. -/
def fnExactWaveDirectSpec : ChangeSpec := { name := "fnExactWaveDirect", vars := ["loop.example/dagconsensus/impl.errInvalid", "loop.example/dagconsensus/impl.errNoWave", "loop.example/dagconsensus/impl.errNoVertex"], fn := fun _ => fun
  | [d1, d2, d3, d4, g1, g2, g3] => { results := [.lit (.bool true)], args := [d1, d2, d3, d4], vars := [g1, g2, g3] }
  | _ => none }
def fnExactWaveDirectRow : OpenClaim := { program := "ytpmhikdefbcofaadoor", sum := "31dcafe8524c8c2dce9cb51446209bd663ffdd8d89db7f31f7d0ffa4775bd7b8", func := "loop.example/dagconsensus/laws.FnExactWaveDirect", spec := "fnExactWaveDirect", named := ["loop.example/dagconsensus/impl.errInvalid", "loop.example/dagconsensus/impl.errNoWave", "loop.example/dagconsensus/impl.errNoVertex"], ifaces := true, apart := false, laid := [("loop.example/dagconsensus/impl.errInvalid", laid_loop_example_dagconsensus_impl_errInvalid), ("loop.example/dagconsensus/impl.errNoWave", laid_loop_example_dagconsensus_impl_errNoWave), ("loop.example/dagconsensus/impl.errNoVertex", laid_loop_example_dagconsensus_impl_errNoVertex)] }
def FnExactWaveDirectSaid : Prop := fnExactWaveDirectRow.holds Tryd.pinned (OpenSpec.ofChange fnExactWaveDirectSpec)

/-- ITS FALSE NEIGHBOUR: 'it returns false'. Refute it at one input. -/
def fnExactWaveDirectWrong : ChangeSpec := { name := "fnExactWaveDirect", vars := ["loop.example/dagconsensus/impl.errInvalid", "loop.example/dagconsensus/impl.errNoWave", "loop.example/dagconsensus/impl.errNoVertex"], fn := fun _ => fun
  | [d1, d2, d3, d4, g1, g2, g3] => { results := [.lit (.bool false)], args := [d1, d2, d3, d4], vars := [g1, g2, g3] }
  | _ => none }
def FnExactWaveDirectWrongFalsely : Prop := fnExactWaveDirectRow.holds Tryd.pinned (OpenSpec.ofChange fnExactWaveDirectWrong)

/-- 'laws.FnWaveLeader': WHATEVER THE INPUT: true; the input reads as it did. -/
def fnWaveLeaderSpec : ChangeSpec := { name := "fnWaveLeader", vars := ["loop.example/dagconsensus/impl.errInvalid", "loop.example/dagconsensus/impl.errNoWave", "loop.example/dagconsensus/impl.errNoVertex"], fn := fun _ => fun
  | [d, g1, g2, g3] => { results := [.lit (.bool true)], args := [d], vars := [g1, g2, g3] }
  | _ => none }
def fnWaveLeaderRow : OpenClaim := { program := "ytpmhikdefbcofaadoor", sum := "31dcafe8524c8c2dce9cb51446209bd663ffdd8d89db7f31f7d0ffa4775bd7b8", func := "loop.example/dagconsensus/laws.FnWaveLeader", spec := "fnWaveLeader", named := ["loop.example/dagconsensus/impl.errInvalid", "loop.example/dagconsensus/impl.errNoWave", "loop.example/dagconsensus/impl.errNoVertex"], ifaces := true, apart := false, laid := [("loop.example/dagconsensus/impl.errInvalid", laid_loop_example_dagconsensus_impl_errInvalid), ("loop.example/dagconsensus/impl.errNoWave", laid_loop_example_dagconsensus_impl_errNoWave), ("loop.example/dagconsensus/impl.errNoVertex", laid_loop_example_dagconsensus_impl_errNoVertex)] }
def FnWaveLeaderSaid : Prop := fnWaveLeaderRow.holds Tryd.pinned (OpenSpec.ofChange fnWaveLeaderSpec)

/-- ITS FALSE NEIGHBOUR: 'it returns false'. Refute it at one input. -/
def fnWaveLeaderWrong : ChangeSpec := { name := "fnWaveLeader", vars := ["loop.example/dagconsensus/impl.errInvalid", "loop.example/dagconsensus/impl.errNoWave", "loop.example/dagconsensus/impl.errNoVertex"], fn := fun _ => fun
  | [d, g1, g2, g3] => { results := [.lit (.bool false)], args := [d], vars := [g1, g2, g3] }
  | _ => none }
def FnWaveLeaderWrongFalsely : Prop := fnWaveLeaderRow.holds Tryd.pinned (OpenSpec.ofChange fnWaveLeaderWrong)

/-- 'laws.FnExactWaveVotes': WHATEVER THE INPUT: true; the input reads as it did. -/
def fnExactWaveVotesSpec : ChangeSpec := { name := "fnExactWaveVotes", vars := ["loop.example/dagconsensus/impl.errInvalid", "loop.example/dagconsensus/impl.errNoWave", "loop.example/dagconsensus/impl.errNoVertex"], fn := fun _ => fun
  | [d1, d2, d3, d4, g1, g2, g3] => { results := [.lit (.bool true)], args := [d1, d2, d3, d4], vars := [g1, g2, g3] }
  | _ => none }
def fnExactWaveVotesRow : OpenClaim := { program := "ytpmhikdefbcofaadoor", sum := "31dcafe8524c8c2dce9cb51446209bd663ffdd8d89db7f31f7d0ffa4775bd7b8", func := "loop.example/dagconsensus/laws.FnExactWaveVotes", spec := "fnExactWaveVotes", inPlace := ["internal/reflectlite.TypeOf"], unfollowed := true, recurses := true, named := ["loop.example/dagconsensus/impl.errInvalid", "loop.example/dagconsensus/impl.errNoWave", "loop.example/dagconsensus/impl.errNoVertex"], ifaces := true, apart := false, laid := [("loop.example/dagconsensus/impl.errInvalid", laid_loop_example_dagconsensus_impl_errInvalid), ("loop.example/dagconsensus/impl.errNoWave", laid_loop_example_dagconsensus_impl_errNoWave), ("loop.example/dagconsensus/impl.errNoVertex", laid_loop_example_dagconsensus_impl_errNoVertex)] }
def FnExactWaveVotesSaid : Prop := fnExactWaveVotesRow.holds Tryd.pinned (OpenSpec.ofChange fnExactWaveVotesSpec)

/-- ITS FALSE NEIGHBOUR: 'it returns false'. Refute it at one input. -/
def fnExactWaveVotesWrong : ChangeSpec := { name := "fnExactWaveVotes", vars := ["loop.example/dagconsensus/impl.errInvalid", "loop.example/dagconsensus/impl.errNoWave", "loop.example/dagconsensus/impl.errNoVertex"], fn := fun _ => fun
  | [d1, d2, d3, d4, g1, g2, g3] => { results := [.lit (.bool false)], args := [d1, d2, d3, d4], vars := [g1, g2, g3] }
  | _ => none }
def FnExactWaveVotesWrongFalsely : Prop := fnExactWaveVotesRow.holds Tryd.pinned (OpenSpec.ofChange fnExactWaveVotesWrong)

/-- 'laws.FnWaveVotes': WHATEVER THE INPUT: true; the input reads as it did. -/
def fnWaveVotesSpec : ChangeSpec := { name := "fnWaveVotes", vars := ["loop.example/dagconsensus/impl.errInvalid", "loop.example/dagconsensus/impl.errNoWave", "loop.example/dagconsensus/impl.errNoVertex"], fn := fun _ => fun
  | [d, g1, g2, g3] => { results := [.lit (.bool true)], args := [d], vars := [g1, g2, g3] }
  | _ => none }
def fnWaveVotesRow : OpenClaim := { program := "ytpmhikdefbcofaadoor", sum := "31dcafe8524c8c2dce9cb51446209bd663ffdd8d89db7f31f7d0ffa4775bd7b8", func := "loop.example/dagconsensus/laws.FnWaveVotes", spec := "fnWaveVotes", inPlace := ["internal/reflectlite.TypeOf"], unfollowed := true, recurses := true, named := ["loop.example/dagconsensus/impl.errInvalid", "loop.example/dagconsensus/impl.errNoWave", "loop.example/dagconsensus/impl.errNoVertex"], ifaces := true, apart := false, laid := [("loop.example/dagconsensus/impl.errInvalid", laid_loop_example_dagconsensus_impl_errInvalid), ("loop.example/dagconsensus/impl.errNoWave", laid_loop_example_dagconsensus_impl_errNoWave), ("loop.example/dagconsensus/impl.errNoVertex", laid_loop_example_dagconsensus_impl_errNoVertex)] }
def FnWaveVotesSaid : Prop := fnWaveVotesRow.holds Tryd.pinned (OpenSpec.ofChange fnWaveVotesSpec)

/-- ITS FALSE NEIGHBOUR: 'it returns false'. Refute it at one input. -/
def fnWaveVotesWrong : ChangeSpec := { name := "fnWaveVotes", vars := ["loop.example/dagconsensus/impl.errInvalid", "loop.example/dagconsensus/impl.errNoWave", "loop.example/dagconsensus/impl.errNoVertex"], fn := fun _ => fun
  | [d, g1, g2, g3] => { results := [.lit (.bool false)], args := [d], vars := [g1, g2, g3] }
  | _ => none }
def FnWaveVotesWrongFalsely : Prop := fnWaveVotesRow.holds Tryd.pinned (OpenSpec.ofChange fnWaveVotesWrong)

/-- 'laws.FnWaveDirect': WHATEVER THE INPUT: true; the input reads as it did. -/
def fnWaveDirectSpec : ChangeSpec := { name := "fnWaveDirect", vars := ["loop.example/dagconsensus/impl.errInvalid", "loop.example/dagconsensus/impl.errNoWave", "loop.example/dagconsensus/impl.errNoVertex"], fn := fun _ => fun
  | [d, g1, g2, g3] => { results := [.lit (.bool true)], args := [d], vars := [g1, g2, g3] }
  | _ => none }
def fnWaveDirectRow : OpenClaim := { program := "ytpmhikdefbcofaadoor", sum := "31dcafe8524c8c2dce9cb51446209bd663ffdd8d89db7f31f7d0ffa4775bd7b8", func := "loop.example/dagconsensus/laws.FnWaveDirect", spec := "fnWaveDirect", inPlace := ["internal/reflectlite.TypeOf"], unfollowed := true, recurses := true, named := ["loop.example/dagconsensus/impl.errInvalid", "loop.example/dagconsensus/impl.errNoWave", "loop.example/dagconsensus/impl.errNoVertex"], ifaces := true, apart := false, laid := [("loop.example/dagconsensus/impl.errInvalid", laid_loop_example_dagconsensus_impl_errInvalid), ("loop.example/dagconsensus/impl.errNoWave", laid_loop_example_dagconsensus_impl_errNoWave), ("loop.example/dagconsensus/impl.errNoVertex", laid_loop_example_dagconsensus_impl_errNoVertex)] }
def FnWaveDirectSaid : Prop := fnWaveDirectRow.holds Tryd.pinned (OpenSpec.ofChange fnWaveDirectSpec)

/-- ITS FALSE NEIGHBOUR: 'it returns false'. Refute it at one input. -/
def fnWaveDirectWrong : ChangeSpec := { name := "fnWaveDirect", vars := ["loop.example/dagconsensus/impl.errInvalid", "loop.example/dagconsensus/impl.errNoWave", "loop.example/dagconsensus/impl.errNoVertex"], fn := fun _ => fun
  | [d, g1, g2, g3] => { results := [.lit (.bool false)], args := [d], vars := [g1, g2, g3] }
  | _ => none }
def FnWaveDirectWrongFalsely : Prop := fnWaveDirectRow.holds Tryd.pinned (OpenSpec.ofChange fnWaveDirectWrong)

/-- 'laws.FnExactCommitWaves': WHATEVER THE INPUT: true; the input reads as it did. -/
def fnExactCommitWavesSpec : ChangeSpec := { name := "fnExactCommitWaves", vars := ["loop.example/dagconsensus/impl.errInvalid", "loop.example/dagconsensus/impl.errNoWave", "loop.example/dagconsensus/impl.errNoVertex"], fn := fun _ => fun
  | [d1, d2, d3, g1, g2, g3] => { results := [.lit (.bool true)], args := [d1, d2, d3], vars := [g1, g2, g3] }
  | _ => none }
def fnExactCommitWavesRow : OpenClaim := { program := "ytpmhikdefbcofaadoor", sum := "31dcafe8524c8c2dce9cb51446209bd663ffdd8d89db7f31f7d0ffa4775bd7b8", func := "loop.example/dagconsensus/laws.FnExactCommitWaves", spec := "fnExactCommitWaves", inPlace := ["internal/reflectlite.TypeOf"], unfollowed := true, recurses := true, named := ["loop.example/dagconsensus/impl.errInvalid", "loop.example/dagconsensus/impl.errNoWave", "loop.example/dagconsensus/impl.errNoVertex"], ifaces := true, apart := false, laid := [("loop.example/dagconsensus/impl.errInvalid", laid_loop_example_dagconsensus_impl_errInvalid), ("loop.example/dagconsensus/impl.errNoWave", laid_loop_example_dagconsensus_impl_errNoWave), ("loop.example/dagconsensus/impl.errNoVertex", laid_loop_example_dagconsensus_impl_errNoVertex)] }
def FnExactCommitWavesSaid : Prop := fnExactCommitWavesRow.holds Tryd.pinned (OpenSpec.ofChange fnExactCommitWavesSpec)

/-- ITS FALSE NEIGHBOUR: 'it returns false'. Refute it at one input. -/
def fnExactCommitWavesWrong : ChangeSpec := { name := "fnExactCommitWaves", vars := ["loop.example/dagconsensus/impl.errInvalid", "loop.example/dagconsensus/impl.errNoWave", "loop.example/dagconsensus/impl.errNoVertex"], fn := fun _ => fun
  | [d1, d2, d3, g1, g2, g3] => { results := [.lit (.bool false)], args := [d1, d2, d3], vars := [g1, g2, g3] }
  | _ => none }
def FnExactCommitWavesWrongFalsely : Prop := fnExactCommitWavesRow.holds Tryd.pinned (OpenSpec.ofChange fnExactCommitWavesWrong)

/- THE SECOND FORM. 'bulk': how many values and letters a reading holds, each counted each time it is reached (what is shared counts as often as it is met; a slice's spare places count too). A statement '..UptoSaid' is the law's where the arguments, and the package variables that the reading takes, are together of bulk at most 1048576: NARROWER than '..Said'. Prove '..Said' where nothing that the law and all that it calls make is longer than what came in: it says more and counts as full. Else prove '..UptoSaid'. A law counts once. -/
mutual
def uptoBulk {H : Type} : DataW H → Nat
  | .lit (.string bytes) => bytes.length + 1
  | .lit _ => 1
  | .nil => 1
  | .ptr d => uptoBulk d + 1
  | .slice elems spare => uptoBulkAll elems + uptoBulkAll spare + 1
  | .agg parts => uptoBulkAll parts + 1
  | .iface _ d => uptoBulk d + 1
  | .map entries => uptoBulkEntries entries + 1
  | .held _ => 1
def uptoBulkAll {H : Type} : List (DataW H) → Nat
  | [] => 0
  | d :: r => uptoBulk d + uptoBulkAll r
def uptoBulkEntries {H : Type} : List (Lit × DataW H) → Nat
  | [] => 0
  | x :: r => uptoBulkEntry x + uptoBulkEntries r
def uptoBulkEntry {H : Type} : Lit × DataW H → Nat
  | (.string bytes, d) => bytes.length + uptoBulk d + 1
  | (_, d) => uptoBulk d + 1
 end
def uptoSmall : (H : Type) → List (DataW H) → Bool := fun _ ds => decide (uptoBulkAll ds ≤ 1048576)
def OpenSpec.upto (s : _root_.Go.ChangeSpec) : _root_.Go.OpenSpec := { _root_.Go.OpenSpec.ofChange s with cond := some uptoSmall }

/-- 'laws.FnExactWaveLeader', WHERE WHAT IT READS IS OF BULK AT MOST 1048576: true; the input reads as it did. -/
def fnExactWaveLeaderUptoRow : OpenClaim := { program := "ytpmhikdefbcofaadoor", sum := "31dcafe8524c8c2dce9cb51446209bd663ffdd8d89db7f31f7d0ffa4775bd7b8", func := "loop.example/dagconsensus/laws.FnExactWaveLeader", spec := "fnExactWaveLeader", named := ["loop.example/dagconsensus/impl.errInvalid", "loop.example/dagconsensus/impl.errNoWave", "loop.example/dagconsensus/impl.errNoVertex"], ifaces := true, apart := false, laid := [("loop.example/dagconsensus/impl.errInvalid", laid_loop_example_dagconsensus_impl_errInvalid), ("loop.example/dagconsensus/impl.errNoWave", laid_loop_example_dagconsensus_impl_errNoWave), ("loop.example/dagconsensus/impl.errNoVertex", laid_loop_example_dagconsensus_impl_errNoVertex)], narrowed := true }
def FnExactWaveLeaderUptoSaid : Prop := fnExactWaveLeaderUptoRow.holds Tryd.pinned (OpenSpec.upto fnExactWaveLeaderSpec)

/-- 'laws.FnExactWaveDirect', WHERE WHAT IT READS IS OF BULK AT MOST 1048576: true; the input reads as it did. -/
def fnExactWaveDirectUptoRow : OpenClaim := { program := "ytpmhikdefbcofaadoor", sum := "31dcafe8524c8c2dce9cb51446209bd663ffdd8d89db7f31f7d0ffa4775bd7b8", func := "loop.example/dagconsensus/laws.FnExactWaveDirect", spec := "fnExactWaveDirect", named := ["loop.example/dagconsensus/impl.errInvalid", "loop.example/dagconsensus/impl.errNoWave", "loop.example/dagconsensus/impl.errNoVertex"], ifaces := true, apart := false, laid := [("loop.example/dagconsensus/impl.errInvalid", laid_loop_example_dagconsensus_impl_errInvalid), ("loop.example/dagconsensus/impl.errNoWave", laid_loop_example_dagconsensus_impl_errNoWave), ("loop.example/dagconsensus/impl.errNoVertex", laid_loop_example_dagconsensus_impl_errNoVertex)], narrowed := true }
def FnExactWaveDirectUptoSaid : Prop := fnExactWaveDirectUptoRow.holds Tryd.pinned (OpenSpec.upto fnExactWaveDirectSpec)

/-- 'laws.FnWaveLeader', WHERE WHAT IT READS IS OF BULK AT MOST 1048576: true; the input reads as it did. -/
def fnWaveLeaderUptoRow : OpenClaim := { program := "ytpmhikdefbcofaadoor", sum := "31dcafe8524c8c2dce9cb51446209bd663ffdd8d89db7f31f7d0ffa4775bd7b8", func := "loop.example/dagconsensus/laws.FnWaveLeader", spec := "fnWaveLeader", named := ["loop.example/dagconsensus/impl.errInvalid", "loop.example/dagconsensus/impl.errNoWave", "loop.example/dagconsensus/impl.errNoVertex"], ifaces := true, apart := false, laid := [("loop.example/dagconsensus/impl.errInvalid", laid_loop_example_dagconsensus_impl_errInvalid), ("loop.example/dagconsensus/impl.errNoWave", laid_loop_example_dagconsensus_impl_errNoWave), ("loop.example/dagconsensus/impl.errNoVertex", laid_loop_example_dagconsensus_impl_errNoVertex)], narrowed := true }
def FnWaveLeaderUptoSaid : Prop := fnWaveLeaderUptoRow.holds Tryd.pinned (OpenSpec.upto fnWaveLeaderSpec)

/-- 'laws.FnExactWaveVotes', WHERE WHAT IT READS IS OF BULK AT MOST 1048576: true; the input reads as it did. -/
def fnExactWaveVotesUptoRow : OpenClaim := { program := "ytpmhikdefbcofaadoor", sum := "31dcafe8524c8c2dce9cb51446209bd663ffdd8d89db7f31f7d0ffa4775bd7b8", func := "loop.example/dagconsensus/laws.FnExactWaveVotes", spec := "fnExactWaveVotes", inPlace := ["internal/reflectlite.TypeOf"], unfollowed := true, recurses := true, named := ["loop.example/dagconsensus/impl.errInvalid", "loop.example/dagconsensus/impl.errNoWave", "loop.example/dagconsensus/impl.errNoVertex"], ifaces := true, apart := false, laid := [("loop.example/dagconsensus/impl.errInvalid", laid_loop_example_dagconsensus_impl_errInvalid), ("loop.example/dagconsensus/impl.errNoWave", laid_loop_example_dagconsensus_impl_errNoWave), ("loop.example/dagconsensus/impl.errNoVertex", laid_loop_example_dagconsensus_impl_errNoVertex)], narrowed := true }
def FnExactWaveVotesUptoSaid : Prop := fnExactWaveVotesUptoRow.holds Tryd.pinned (OpenSpec.upto fnExactWaveVotesSpec)

/-- 'laws.FnWaveVotes', WHERE WHAT IT READS IS OF BULK AT MOST 1048576: true; the input reads as it did. -/
def fnWaveVotesUptoRow : OpenClaim := { program := "ytpmhikdefbcofaadoor", sum := "31dcafe8524c8c2dce9cb51446209bd663ffdd8d89db7f31f7d0ffa4775bd7b8", func := "loop.example/dagconsensus/laws.FnWaveVotes", spec := "fnWaveVotes", inPlace := ["internal/reflectlite.TypeOf"], unfollowed := true, recurses := true, named := ["loop.example/dagconsensus/impl.errInvalid", "loop.example/dagconsensus/impl.errNoWave", "loop.example/dagconsensus/impl.errNoVertex"], ifaces := true, apart := false, laid := [("loop.example/dagconsensus/impl.errInvalid", laid_loop_example_dagconsensus_impl_errInvalid), ("loop.example/dagconsensus/impl.errNoWave", laid_loop_example_dagconsensus_impl_errNoWave), ("loop.example/dagconsensus/impl.errNoVertex", laid_loop_example_dagconsensus_impl_errNoVertex)], narrowed := true }
def FnWaveVotesUptoSaid : Prop := fnWaveVotesUptoRow.holds Tryd.pinned (OpenSpec.upto fnWaveVotesSpec)

/-- 'laws.FnWaveDirect', WHERE WHAT IT READS IS OF BULK AT MOST 1048576: true; the input reads as it did. -/
def fnWaveDirectUptoRow : OpenClaim := { program := "ytpmhikdefbcofaadoor", sum := "31dcafe8524c8c2dce9cb51446209bd663ffdd8d89db7f31f7d0ffa4775bd7b8", func := "loop.example/dagconsensus/laws.FnWaveDirect", spec := "fnWaveDirect", inPlace := ["internal/reflectlite.TypeOf"], unfollowed := true, recurses := true, named := ["loop.example/dagconsensus/impl.errInvalid", "loop.example/dagconsensus/impl.errNoWave", "loop.example/dagconsensus/impl.errNoVertex"], ifaces := true, apart := false, laid := [("loop.example/dagconsensus/impl.errInvalid", laid_loop_example_dagconsensus_impl_errInvalid), ("loop.example/dagconsensus/impl.errNoWave", laid_loop_example_dagconsensus_impl_errNoWave), ("loop.example/dagconsensus/impl.errNoVertex", laid_loop_example_dagconsensus_impl_errNoVertex)], narrowed := true }
def FnWaveDirectUptoSaid : Prop := fnWaveDirectUptoRow.holds Tryd.pinned (OpenSpec.upto fnWaveDirectSpec)

/-- 'laws.FnExactCommitWaves', WHERE WHAT IT READS IS OF BULK AT MOST 1048576: true; the input reads as it did. -/
def fnExactCommitWavesUptoRow : OpenClaim := { program := "ytpmhikdefbcofaadoor", sum := "31dcafe8524c8c2dce9cb51446209bd663ffdd8d89db7f31f7d0ffa4775bd7b8", func := "loop.example/dagconsensus/laws.FnExactCommitWaves", spec := "fnExactCommitWaves", inPlace := ["internal/reflectlite.TypeOf"], unfollowed := true, recurses := true, named := ["loop.example/dagconsensus/impl.errInvalid", "loop.example/dagconsensus/impl.errNoWave", "loop.example/dagconsensus/impl.errNoVertex"], ifaces := true, apart := false, laid := [("loop.example/dagconsensus/impl.errInvalid", laid_loop_example_dagconsensus_impl_errInvalid), ("loop.example/dagconsensus/impl.errNoWave", laid_loop_example_dagconsensus_impl_errNoWave), ("loop.example/dagconsensus/impl.errNoVertex", laid_loop_example_dagconsensus_impl_errNoVertex)], narrowed := true }
def FnExactCommitWavesUptoSaid : Prop := fnExactCommitWavesUptoRow.holds Tryd.pinned (OpenSpec.upto fnExactCommitWavesSpec)

end Rows
end Go.Proofs.YtpmhikdefbcofaaDoor
