/- The laws of what a vertex depends on, as they are given. -/
import Derived.Test.YthajlhmebkjbbaaPl
set_option linter.all false
namespace Go.Proofs.Ythajlhmebkjbbaa
open Go.RowKit

set_option maxRecDepth 100000 in
theorem fnGraphPast_holds : Rows.FnGraphPastSaid := by
  refine OpenClaim.holds_of_wide 6 Try.f6 rfl rfl rfl rfl rfl rfl rfl ⟨rfl, rfl, rfl, rfl, rfl⟩ rfl rfl rfl rfl rfl (by kernel_rfl) Try.func6 (by kernel_rfl)
    (of_decide_eq_true (by kernel_rfl)) (by unfold Func.isWrapper; rw [if_neg (of_decide_eq_false (by kernel_rfl))]; exact ⟨rfl, rfl⟩)
    (fun os started H enc _ => ?_)
  refine law_lifted (s := Rows.fnGraphPastSpec) started Try.func6 (by kernel_rfl) Try.underlying4 rfl (by kernel_rfl) rfl (fun ds hl => ?_)
    (ChangeSpec.witness6 (enc := enc) (C := Try.checked) false ⟨#[], #[.slice none 0 0], []⟩ 8 (by kernel_rfl) (by kernel_rfl) (by kernel_rfl) (by kernel_rfl)) ?_
  · match ds, hl with
    | [d0], _ => exact ⟨rfl, rfl, rfl⟩
  · intro W base args ds ps hval hA
    obtain ⟨v0, d0, rfl, rfl, h0⟩ := Go.ChangeShapes.trodAll_one hA
    obtain ⟨zs0, a0, b0⟩ := code_has Try.underlying34 Try.underlying5 (by kernel_rfl) (hval 0 _ v0 rfl rfl) h0
    exact law_calls (FnGraphPast_c zs0 b0) ⟨a0, trivial⟩
set_option maxRecDepth 100000 in
theorem fnGraphPastLeast_holds : Rows.FnGraphPastLeastSaid := by
  refine OpenClaim.holds_of_wide 5 Try.f5 rfl rfl rfl rfl rfl rfl rfl ⟨rfl, rfl, rfl, rfl, rfl⟩ rfl rfl rfl rfl rfl (by kernel_rfl) Try.func5 (by kernel_rfl)
    (of_decide_eq_true (by kernel_rfl)) (by unfold Func.isWrapper; rw [if_neg (of_decide_eq_false (by kernel_rfl))]; exact ⟨rfl, rfl⟩)
    (fun os started H enc _ => ?_)
  refine law_lifted (s := Rows.fnGraphPastLeastSpec) started Try.func5 (by kernel_rfl) Try.underlying4 rfl (by kernel_rfl) rfl (fun ds hl => ?_)
    (ChangeSpec.witness6 (enc := enc) (C := Try.checked) false ⟨#[], #[.slice none 0 0], []⟩ 8 (by kernel_rfl) (by kernel_rfl) (by kernel_rfl) (by kernel_rfl)) ?_
  · match ds, hl with
    | [d0], _ => exact ⟨rfl, rfl, rfl⟩
  · intro W base args ds ps hval hA
    obtain ⟨v0, d0, rfl, rfl, h0⟩ := Go.ChangeShapes.trodAll_one hA
    obtain ⟨zs0, a0, b0⟩ := code_has Try.underlying34 Try.underlying5 (by kernel_rfl) (hval 0 _ v0 rfl rfl) h0
    exact law_calls (FnGraphPastLeast_c zs0 b0) ⟨a0, trivial⟩
set_option maxRecDepth 100000 in
theorem fnGraphPastRounds_holds : Rows.FnGraphPastRoundsSaid := by
  refine OpenClaim.holds_of_wide 4 Try.f4 rfl rfl rfl rfl rfl rfl rfl ⟨rfl, rfl, rfl, rfl, rfl⟩ rfl rfl rfl rfl rfl (by kernel_rfl) Try.func4 (by kernel_rfl)
    (of_decide_eq_true (by kernel_rfl)) (by unfold Func.isWrapper; rw [if_neg (of_decide_eq_false (by kernel_rfl))]; exact ⟨rfl, rfl⟩)
    (fun os started H enc _ => ?_)
  refine law_lifted (s := Rows.fnGraphPastRoundsSpec) started Try.func4 (by kernel_rfl) Try.underlying4 rfl (by kernel_rfl) rfl (fun ds hl => ?_)
    (ChangeSpec.witness6 (enc := enc) (C := Try.checked) false ⟨#[], #[.slice none 0 0], []⟩ 8 (by kernel_rfl) (by kernel_rfl) (by kernel_rfl) (by kernel_rfl)) ?_
  · match ds, hl with
    | [d0], _ => exact ⟨rfl, rfl, rfl⟩
  · intro W base args ds ps hval hA
    obtain ⟨v0, d0, rfl, rfl, h0⟩ := Go.ChangeShapes.trodAll_one hA
    obtain ⟨zs0, a0, b0⟩ := code_has Try.underlying34 Try.underlying5 (by kernel_rfl) (hval 0 _ v0 rfl rfl) h0
    exact law_calls (FnGraphPastRounds_c zs0 b0) ⟨a0, trivial⟩
end Go.Proofs.Ythajlhmebkjbbaa
