/- The exact law of a member counted, as it is given. -/
import Derived.Test.YtbcmpfhemangpaaTo
set_option linter.all false
namespace Go.Proofs.Ytbcmpfhemangpaa
open Go.RowKit Go.ChangeShapes Go.WideShapes

set_option maxRecDepth 100000 in
theorem fnExactTallyAdd_holds : Rows.FnExactTallyAddSaid := by
  refine OpenClaim.holds_of_wide 5 Try.f5 rfl rfl rfl rfl rfl rfl rfl ⟨rfl, rfl, rfl, rfl, rfl⟩ rfl rfl rfl rfl rfl (by kernel_rfl) Try.func5 (by kernel_rfl)
    (of_decide_eq_true (by kernel_rfl)) (by unfold Func.isWrapper; rw [if_neg (of_decide_eq_false (by kernel_rfl))]; exact ⟨rfl, rfl⟩)
    (fun os started H enc _ => ?_)
  refine law_lifted (s := Rows.fnExactTallyAddSpec) started Try.func5 (by kernel_rfl) Try.underlying4 rfl (by kernel_rfl) rfl (fun ds hl => ?_)
    (ChangeSpec.witness6 (enc := enc) (C := Try.checked) false ⟨#[], #[.slice none 0 0, .agg #[.int .i64 0, .int .i64 0, .int .i64 0, .slice none 0 0], .int .i64 0], []⟩ 12 (by kernel_rfl) (by kernel_rfl) (by kernel_rfl) (by kernel_rfl)) ?_
  · match ds, hl with
    | [d0, d1, d2], _ => exact ⟨rfl, rfl, rfl⟩
  · intro W base args ds ps hval hA
    have hlen : ds.length = 3 := by
      have := trodAll_len hA
      simpa using this
    match ds, hlen with
    | [d0, d1, d2], _ =>
      obtain ⟨v0, v1, v2, p0, p1, p2, hvs, h0, h1, h2⟩ := trodAll_three hA
      obtain rfl : args = #[v0, v1, v2] := by
        obtain ⟨al⟩ := args
        exact congrArg Array.mk hvs
      obtain ⟨l0, i0, b0, a0⟩ := arg_ints Try.underlying23 Try.underlying3 (by kernel_rfl) (hval 0 _ v0 rfl rfl) h0
      obtain ⟨l1, i1, a1⟩ := arg_struct (sz := 4) tyF okTy Try.underlying49 (fun cs h => td_ty h) (hval 1 _ v1 rfl rfl) h1
      obtain ⟨l2, i2, a2⟩ := arg_int Try.underlying3 (hval 2 _ v2 rfl rfl) h2
      exact law_calls (FnExactTallyAdd_c l0 l1 l2 b0 i1) ⟨a0, a1, a2, trivial⟩
end Go.Proofs.Ytbcmpfhemangpaa
