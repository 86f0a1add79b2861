/-
  No cell of these rows narrows 'for every input' (looked for: loops, veiled, ifaces, maps, wideKeys, modest, calm, conditions, laid).
  DERIVED. THE GIVEN ROWS OF THIS SEAT. 3 by the template 'for every input the law returns true; each argument reads behind the call as it read before'; 0 by the template 'total and deterministic' (their statements: YtjkeapkpdgfhcaaTotals.lean).
  GIVEN WITH THE SEED: the statements are not yours to turn. If you find one false, say at which input.
  Laid BY PROGRAM, IN A SANDBOX (cutbox-rows.mjs): the forced cells as the released guide's own fill.sh prints them over the translation 5d57612ecfb14bc6… (all of the seat's roots in one cut). By AI agents, Wed Nov 11 2026. No macro, syntax, notation, axiom, sorry.
-/
import Derived.Test.YtjkeapkpdgfhcaaChecked
import GoSem.Claim
import GoSem.ClaimJoined
import GoSem.ClaimMapViews
import Derived.JoinedTies
import Derived.KernelRfl
namespace Go.Proofs.Ytjkeapkpdgfhcaa
/- THE CELL 'sum', in the pinned program and in every row, IS THE sha256 OF THE DUMP (.gsa) THAT YtjkeapkpdgfhcaaProg.lean LOADS. Nothing in Lean hashes anything: it is a label: what it is worth is what the hold of that sum in a sandbox is worth. -/
noncomputable def Try.pinned : Pinned := { name := "ytjkeapkpdgfhcaa", sum := "5d57612ecfb14bc6244cc221272f1ee725552e0cbcc3c4dc172b90fb18508061", checked := Try.checked }
namespace Rows
def none {H : Type} : Left H := { results := [], args := [] }

/-- 'laws.FnStoreCodes': WHATEVER THE INPUT: true; the input reads as it did. -/
def fnStoreCodesSpec : ChangeSpec := { name := "fnStoreCodes", fn := fun _ => fun
  | [d] => { results := [.lit (.bool true)], args := [d] }
  | _ => none }
def fnStoreCodesRow : OpenClaim := { program := "ytjkeapkpdgfhcaa", sum := "5d57612ecfb14bc6244cc221272f1ee725552e0cbcc3c4dc172b90fb18508061", func := "loop.example/dagconsensus/laws.FnStoreCodes", spec := "fnStoreCodes", apart := false }
def FnStoreCodesSaid : Prop := fnStoreCodesRow.holds Try.pinned (OpenSpec.ofChange fnStoreCodesSpec)

/-- ITS FALSE NEIGHBOUR: 'it returns false'. Refute it at one input. -/
def fnStoreCodesWrong : ChangeSpec := { name := "fnStoreCodes", fn := fun _ => fun
  | [d] => { results := [.lit (.bool false)], args := [d] }
  | _ => none }
def FnStoreCodesWrongFalsely : Prop := fnStoreCodesRow.holds Try.pinned (OpenSpec.ofChange fnStoreCodesWrong)

/-- 'laws.FnStorePut': WHATEVER THE INPUT: true; the input reads as it did. -/
def fnStorePutSpec : ChangeSpec := { name := "fnStorePut", fn := fun _ => fun
  | [d] => { results := [.lit (.bool true)], args := [d] }
  | _ => none }
def fnStorePutRow : OpenClaim := { program := "ytjkeapkpdgfhcaa", sum := "5d57612ecfb14bc6244cc221272f1ee725552e0cbcc3c4dc172b90fb18508061", func := "loop.example/dagconsensus/laws.FnStorePut", spec := "fnStorePut", apart := false }
def FnStorePutSaid : Prop := fnStorePutRow.holds Try.pinned (OpenSpec.ofChange fnStorePutSpec)

/-- ITS FALSE NEIGHBOUR: 'it returns false'. Refute it at one input. -/
def fnStorePutWrong : ChangeSpec := { name := "fnStorePut", fn := fun _ => fun
  | [d] => { results := [.lit (.bool false)], args := [d] }
  | _ => none }
def FnStorePutWrongFalsely : Prop := fnStorePutRow.holds Try.pinned (OpenSpec.ofChange fnStorePutWrong)

/-- 'laws.FnExactStorePut': WHATEVER THE INPUT: true; the input reads as it did. -/
def fnExactStorePutSpec : ChangeSpec := { name := "fnExactStorePut", fn := fun _ => fun
  | [d1, d2] => { results := [.lit (.bool true)], args := [d1, d2] }
  | _ => none }
def fnExactStorePutRow : OpenClaim := { program := "ytjkeapkpdgfhcaa", sum := "5d57612ecfb14bc6244cc221272f1ee725552e0cbcc3c4dc172b90fb18508061", func := "loop.example/dagconsensus/laws.FnExactStorePut", spec := "fnExactStorePut", apart := false }
def FnExactStorePutSaid : Prop := fnExactStorePutRow.holds Try.pinned (OpenSpec.ofChange fnExactStorePutSpec)

/-- ITS FALSE NEIGHBOUR: 'it returns false'. Refute it at one input. -/
def fnExactStorePutWrong : ChangeSpec := { name := "fnExactStorePut", fn := fun _ => fun
  | [d1, d2] => { results := [.lit (.bool false)], args := [d1, d2] }
  | _ => none }
def FnExactStorePutWrongFalsely : Prop := fnExactStorePutRow.holds Try.pinned (OpenSpec.ofChange fnExactStorePutWrong)

/- THE SECOND FORM. 'bulk': how many values and letters a reading holds, each counted each time it is reached (what is shared counts as often as it is met; a slice's spare places count too). A statement '..UptoSaid' is the law's where the arguments, and the package variables that the reading takes, are together of bulk at most 1048576: NARROWER than '..Said'. Prove '..Said' where nothing that the law and all that it calls make is longer than what came in: it says more and counts as full. Else prove '..UptoSaid'. A law counts once. -/
mutual
def uptoBulk {H : Type} : DataW H → Nat
  | .lit (.string bytes) => bytes.length + 1
  | .lit _ => 1
  | .nil => 1
  | .ptr d => uptoBulk d + 1
  | .slice elems spare => uptoBulkAll elems + uptoBulkAll spare + 1
  | .agg parts => uptoBulkAll parts + 1
  | .iface _ d => uptoBulk d + 1
  | .map entries => uptoBulkEntries entries + 1
  | .held _ => 1
def uptoBulkAll {H : Type} : List (DataW H) → Nat
  | [] => 0
  | d :: r => uptoBulk d + uptoBulkAll r
def uptoBulkEntries {H : Type} : List (Lit × DataW H) → Nat
  | [] => 0
  | x :: r => uptoBulkEntry x + uptoBulkEntries r
def uptoBulkEntry {H : Type} : Lit × DataW H → Nat
  | (.string bytes, d) => bytes.length + uptoBulk d + 1
  | (_, d) => uptoBulk d + 1
 end
def uptoSmall : (H : Type) → List (DataW H) → Bool := fun _ ds => decide (uptoBulkAll ds ≤ 1048576)
def OpenSpec.upto (s : _root_.Go.ChangeSpec) : _root_.Go.OpenSpec := { _root_.Go.OpenSpec.ofChange s with cond := some uptoSmall }

/-- 'laws.FnStoreCodes', WHERE WHAT IT READS IS OF BULK AT MOST 1048576: true; the input reads as it did. -/
def fnStoreCodesUptoRow : OpenClaim := { program := "ytjkeapkpdgfhcaa", sum := "5d57612ecfb14bc6244cc221272f1ee725552e0cbcc3c4dc172b90fb18508061", func := "loop.example/dagconsensus/laws.FnStoreCodes", spec := "fnStoreCodes", apart := false, narrowed := true }
def FnStoreCodesUptoSaid : Prop := fnStoreCodesUptoRow.holds Try.pinned (OpenSpec.upto fnStoreCodesSpec)

/-- 'laws.FnStorePut', WHERE WHAT IT READS IS OF BULK AT MOST 1048576: true; the input reads as it did. -/
def fnStorePutUptoRow : OpenClaim := { program := "ytjkeapkpdgfhcaa", sum := "5d57612ecfb14bc6244cc221272f1ee725552e0cbcc3c4dc172b90fb18508061", func := "loop.example/dagconsensus/laws.FnStorePut", spec := "fnStorePut", apart := false, narrowed := true }
def FnStorePutUptoSaid : Prop := fnStorePutUptoRow.holds Try.pinned (OpenSpec.upto fnStorePutSpec)

/-- 'laws.FnExactStorePut', WHERE WHAT IT READS IS OF BULK AT MOST 1048576: true; the input reads as it did. -/
def fnExactStorePutUptoRow : OpenClaim := { program := "ytjkeapkpdgfhcaa", sum := "5d57612ecfb14bc6244cc221272f1ee725552e0cbcc3c4dc172b90fb18508061", func := "loop.example/dagconsensus/laws.FnExactStorePut", spec := "fnExactStorePut", apart := false, narrowed := true }
def FnExactStorePutUptoSaid : Prop := fnExactStorePutUptoRow.holds Try.pinned (OpenSpec.upto fnExactStorePutSpec)

end Rows
end Go.Proofs.Ytjkeapkpdgfhcaa
