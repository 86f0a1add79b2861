/- Vertices copied; a vertex inserted. -/
import Derived.Test.YtpmhikdefbcofaaDoorGi
set_option linter.all false
namespace Go.Proofs.YtpmhikdefbcofaaDoor
open Go.RowKit


/-- vertices in a row of their own, that has no room for more -/
def MadeV (vs : List Vx) (r : SV) (N : List Hp) : Prop := ∃ g n, n = vs.length ∧ r = .own 0 (.slice (some ⟨g, 0, none⟩) n n) ∧ N = [.row (.slice (some ⟨g, 0, none⟩) n n) 37 4 vs.length (rowF vxF vs)]
/-- the vertices with one more at place p -/
def insAt (vs : List Vx) (p : Nat) (v : Vx) : List Vx := vs.take p ++ v :: vs.drop p
theorem insAt_len {vs : List Vx} {p : Nat} {v : Vx} (h : p ≤ vs.length) : (insAt vs p v).length = vs.length + 1 := by
  unfold insAt; simp; omega
theorem insAt_get {vs : List Vx} {p i : Nat} {v : Vx} (h : p ≤ vs.length) : vg (insAt vs p v) i = if i < p then vg vs i else if i = p then v else vg vs (i - 1) := by
  unfold insAt vg
  rw [List.getD_eq_getElem?_getD, List.getElem?_append, List.length_take, Nat.min_eq_left h]
  by_cases h1 : i < p
  · rw [if_pos h1, if_pos h1, List.getElem?_take, if_pos h1, ← List.getD_eq_getElem?_getD]
  · rw [if_neg h1, if_neg h1]
    by_cases h2 : i = p
    · subst h2; simp
    · rw [if_neg h2, show i - p = (i - p - 1) + 1 by omega, List.getElem?_cons_succ, List.getElem?_drop, show p + (i - p - 1) = i - 1 by omega, ← List.getD_eq_getElem?_getD]
end Go.Proofs.YtpmhikdefbcofaaDoor
