/- The exact law of a stored batch, as it is given. -/
import Derived.Test.YtjkeapkpdgfhcaaEx
import Derived.Test.YtjkeapkpdgfhcaaExB
set_option linter.all false
namespace Go.Proofs.Ytjkeapkpdgfhcaa
open Go.RowKit Go.ChangeShapes Go.WideShapes

theorem td_bt {H : Type} {enc : TypeId × Value → H} {W : World} {cs : List Value} (h : Td enc W 41 cs) : ∃ b : Bt, True ∧ Cls W 4 (btF b) cs := by
  have hl : cs.length = 4 := (td_field Try.underlying41 h).1.trans (by kernel_rfl)
  have c3 : Try.prog.cellsOf 3 = 1 := by kernel_rfl
  obtain ⟨d, _, e0⟩ := td_int (t := 3) Try.underlying3 (td_at Try.underlying41 h 0 rfl 0 1 3 rfl rfl c3)
  obtain ⟨a, _, e1⟩ := td_int (t := 3) Try.underlying3 (td_at Try.underlying41 h 1 rfl 1 1 3 rfl rfl c3)
  obtain ⟨r, _, e2⟩ := td_int (t := 3) Try.underlying3 (td_at Try.underlying41 h 2 rfl 2 1 3 rfl rfl c3)
  obtain ⟨s, _, e3⟩ := td_int (t := 3) Try.underlying3 (td_at Try.underlying41 h 3 rfl 3 1 3 rfl rfl c3)
  match cs, hl with
  | [c0, c1, c2, c3], _ =>
    have q0 : c0 = .int .i64 d := (List.cons.inj (show [c0] = [_] from e0)).1
    have q1 : c1 = .int .i64 a := (List.cons.inj (show [c1] = [_] from e1)).1
    have q2 : c2 = .int .i64 r := (List.cons.inj (show [c2] = [_] from e2)).1
    have q3 : c3 = .int .i64 s := (List.cons.inj (show [c3] = [_] from e3)).1
    clear e0 e1 e2 e3
    subst q0 q1 q2 q3
    exact ⟨⟨d, a, r, s⟩, trivial, rfl, fun j hj => by
      rcases (by omega : j = 0 ∨ j = 1 ∨ j = 2 ∨ j = 3) with rfl | rfl | rfl | rfl <;> exact ⟨rfl, rfl⟩⟩
theorem td_st {H : Type} {enc : TypeId × Value → H} {W : World} {cs : List Value} (h : Td enc W 40 cs) : ∃ p : Int × List Bt, p.2.length ≤ 9223372036854775807 ∧ Cls W 2 (stF p.1 p.2) cs := by
  have hl : cs.length = 2 := (td_field Try.underlying40 h).1.trans (by kernel_rfl)
  have c3 : Try.prog.cellsOf 3 = 1 := by kernel_rfl
  have c23 : Try.prog.cellsOf 38 = 1 := by kernel_rfl
  have c4 : Try.prog.cellsOf 41 = 4 := by kernel_rfl
  obtain ⟨f, _, e0⟩ := td_int (t := 3) Try.underlying3 (td_at Try.underlying40 h 0 rfl 0 1 3 rfl rfl c3)
  obtain ⟨l, v, _, hlen, e1, h21, h22⟩ := td_slice (W := W) btF (fun _ => True) (t := 38) (e := 41) Try.underlying38 c4 (by omega) (fun cs h => td_bt h) (td_at Try.underlying40 h 1 rfl 1 1 38 rfl rfl c23)
  match cs, hl with
  | [c0, c1], _ =>
    have q0 : c0 = .int .i64 f := (List.cons.inj (show [c0] = [_] from e0)).1
    have q1 : c1 = v := (List.cons.inj (show [c1] = [_] from e1)).1
    clear e0 e1
    subst q0 q1
    exact ⟨(f, l), hlen, rfl, fun j hj => by
      rcases (by omega : j = 0 ∨ j = 1) with rfl | rfl
      · exact ⟨rfl, rfl⟩
      · exact ⟨h21, h22⟩⟩
set_option maxRecDepth 100000 in
theorem fnExactStorePut_holds : Rows.FnExactStorePutSaid := by
  refine OpenClaim.holds_of_wide 5 Try.f5 rfl rfl rfl rfl rfl rfl rfl ⟨rfl, rfl, rfl, rfl, rfl⟩ rfl rfl rfl rfl rfl (by kernel_rfl) Try.func5 (by kernel_rfl)
    (of_decide_eq_true (by kernel_rfl)) (by unfold Func.isWrapper; rw [if_neg (of_decide_eq_false (by kernel_rfl))]; exact ⟨rfl, rfl⟩)
    (fun os started H enc _ => ?_)
  refine law_lifted (s := Rows.fnExactStorePutSpec) started Try.func5 (by kernel_rfl) Try.underlying4 rfl (by kernel_rfl) rfl (fun ds hl => ?_)
    (ChangeSpec.witness6 (enc := enc) (C := Try.checked) false ⟨#[], #[.agg #[.int .i64 0, .slice none 0 0], .agg #[.int .i64 0, .int .i64 0, .int .i64 0, .int .i64 0]], []⟩ 12 (by kernel_rfl) (by kernel_rfl) (by kernel_rfl) (by kernel_rfl)) ?_
  · match ds, hl with
    | [d0, d1], _ => exact ⟨rfl, rfl, rfl⟩
  · intro W base args ds ps hval hA
    · skip
      obtain ⟨v0, v1, d0, d1, p0, p1, rfl, rfl, rfl, h0, h1⟩ := Go.ChangeShapes.trodAll_two hA
      obtain ⟨l0, b0, a0⟩ := arg_struct (sz := 2) (fun p : Int × List Bt => stF p.1 p.2) (fun p => p.2.length ≤ 9223372036854775807) Try.underlying40 (fun cs h => td_st h) (hval 0 _ v0 rfl rfl) h0
      obtain ⟨l1, b1, a1⟩ := arg_struct (sz := 4) btF (fun _ => True) Try.underlying41 (fun cs h => td_bt h) (hval 1 _ v1 rfl rfl) h1
      exact law_calls (FnExactStorePut_c l0.1 l0.2 l1 b0) ⟨a0, a1, trivial⟩
end Go.Proofs.Ytjkeapkpdgfhcaa
