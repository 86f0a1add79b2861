/- Vertices compared, cloned, inserted. -/
import Derived.Test.YtpmhikdefbcofaaDoorGv
import Derived.Test.YtpmhikdefbcofaaDoorVs
set_option linter.all false
namespace Go.Proofs.YtpmhikdefbcofaaDoor
open Go.RowKit

/-! ### lists of ints compared -/
theorem list_ext {α : Type} [Inhabited α] {a b : List α} (hl : a.length = b.length) (h : ∀ i, i < a.length → a.getD i default = b.getD i default) : a = b := by
  apply List.ext_getElem hl
  intro i h1 h2
  have := h i h1
  simpa [List.getD_eq_getElem?_getD, h1, h2] using this
theorem list_ne {α : Type} [Inhabited α] {a b : List α} {i : Nat} (h : a.getD i default ≠ b.getD i default) : a ≠ b := fun e => h (by rw [e])
theorem vx_ext {u v : Vx} (h0 : u.r = v.r) (h1 : u.a = v.a) (h2 : u.ps = v.ps) (h3 : u.d = v.d) : u = v := by
  cases u; cases v; simp at *; exact ⟨h0, h1, h2, h3⟩
instance : DecidableEq Vx := fun u v => if h : u.r = v.r ∧ u.a = v.a ∧ u.ps = v.ps ∧ u.d = v.d then .isTrue (vx_ext h.1 h.2.1 h.2.2.1 h.2.2.2) else .isFalse fun e => h (by rw [e]; simp)

def sameV (u v : Vx) : Bool := decide (u = v)
theorem sameV_eq {u v : Vx} : sameV u v = (decide (u.r = v.r) && (decide (u.a = v.a) && (decide (u.d = v.d) && decide (u.ps = v.ps)))) := by
  unfold sameV
  rw [Bool.eq_iff_iff]
  simp only [Bool.and_eq_true, decide_eq_true_eq]
  constructor
  · rintro rfl; exact ⟨rfl, rfl, rfl, rfl⟩
  · rintro ⟨h0, h1, h2, h3⟩; exact vx_ext h0 h1 h3 h2

end Go.Proofs.YtpmhikdefbcofaaDoor
