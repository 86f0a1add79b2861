/- Committees: the contracts of both sides. -/
import Derived.Test.YtjkeapkpdgfhcaaGen
import Derived.Test.YtjkeapkpdgfhcaaCmPure
set_option linter.all false
namespace Go.Proofs.Ytjkeapkpdgfhcaa
open Go.RowKit

abbrev isl (l : List Int) : SV := .sl 1 l.length (rowF intF l)

theorem cm_no {c : List Int} {k : Nat} (hk : k < c.length) (h : inB (c.getD k default) 1 9 = false) : false = cmOk c := by
  unfold cmOk
  rw [dall_false hk (by rw [h]; simp), Bool.and_false]
theorem cm_yes {c : List Int} {k : Nat} (hk : c.length ≤ k) (h : ∀ j, j < k → inB (c.getD j default) 1 9 = true) : inB c.length 1 7 = cmOk c := by
  unfold cmOk
  rw [dall_true fun j hj => h j (by omega), Bool.and_true]
theorem cm_len {c : List Int} (h : c.length < 1 ∨ 7 < c.length) : false = cmOk c := by
  unfold cmOk
  rw [inB_false.2 (by omega), Bool.false_and]
theorem ms_no {n : Nat} {ms : List Int} {k : Nat} (hk : k < ms.length) (h : ¬ ((0 ≤ ms.getD k default ∧ ms.getD k default < n) ∧ (0 < k → ms.getD (k - 1) default < ms.getD k default))) : false = msOk n ms := (dall_false hk h).symm
theorem ms_yes {n : Nat} {ms : List Int} {k : Nat} (hk : ms.length ≤ k) (h : ∀ i, i < k → (0 ≤ ms.getD i default ∧ ms.getD i default < n) ∧ (0 < i → ms.getD (i - 1) default < ms.getD i default)) : true = msOk n ms := (dall_true fun i hi => h i (by omega)).symm
def MsAll (n : Nat) (ms : List Int) (k : Nat) : Prop := ∀ i, i < k → (0 ≤ ms.getD i default ∧ ms.getD i default < n) ∧ (0 < i → ms.getD (i - 1) default < ms.getD i default)
theorem MsAll.next {n : Nat} {ms : List Int} {k : Nat} (h : MsAll n ms k) (h1 : 0 ≤ ms.getD k default ∧ ms.getD k default < n) (h2 : 0 < k → ms.getD (k - 1) default < ms.getD k default) : MsAll n ms (k + 1) := all_lt_succ ⟨h1, h2⟩ h
theorem toNat_sub1 (k : Nat) : ((k : Int) - 1).toNat = k - 1 := by omega

theorem tdiv3 {a : Int} (h : 0 ≤ a) : a.tdiv 3 = a / 3 := Int.tdiv_eq_ediv_of_nonneg h

/-- what MembersWeight gives -/
def mw (c ms : List Int) : Int := if cmOk c && msOk c.length ms then wt c ms else -1
end Go.Proofs.Ytjkeapkpdgfhcaa
