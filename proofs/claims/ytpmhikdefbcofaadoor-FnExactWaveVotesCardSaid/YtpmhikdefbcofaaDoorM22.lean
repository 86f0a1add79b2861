/- Texts of this proof put together: EwD. -/
import Derived.Test.YtpmhikdefbcofaaDoorCards
import Derived.Test.YtpmhikdefbcofaaDoorTie
import Derived.SevenTiedAt
import Derived.Test.YtpmhikdefbcofaaDoorM01
import Derived.Test.YtpmhikdefbcofaaDoorM02
import Derived.Test.YtpmhikdefbcofaaDoorM03
import Derived.Test.YtpmhikdefbcofaaDoorM04
import Derived.Test.YtpmhikdefbcofaaDoorM05
import Derived.Test.YtpmhikdefbcofaaDoorM06
import Derived.Test.YtpmhikdefbcofaaDoorM07
import Derived.Test.YtpmhikdefbcofaaDoorM08
import Derived.Test.YtpmhikdefbcofaaDoorM09
import Derived.Test.YtpmhikdefbcofaaDoorM10
import Derived.Test.YtpmhikdefbcofaaDoorM11
import Derived.Test.YtpmhikdefbcofaaDoorM12
import Derived.Test.YtpmhikdefbcofaaDoorM13
import Derived.Test.YtpmhikdefbcofaaDoorM14
import Derived.Test.YtpmhikdefbcofaaDoorM15
import Derived.Test.YtpmhikdefbcofaaDoorM16
import Derived.Test.YtpmhikdefbcofaaDoorM17
import Derived.Test.YtpmhikdefbcofaaDoorM18
import Derived.Test.YtpmhikdefbcofaaDoorM19
import Derived.Test.YtpmhikdefbcofaaDoorM20
import Derived.Test.YtpmhikdefbcofaaDoorM21
/-! YtpmhikdefbcofaaDoorEwD -/
set_option linter.all false
namespace Go.Proofs.YtpmhikdefbcofaaDoor
open Go Go.RowKit Go.ChangeShapes Go.WideShapes

set_option maxRecDepth 100000 in
theorem fnExactWaveVotes_met (os : Os) : laidMet Tryd.prog laid3 (({ World.holding Tryd.prog os ⟨#[.cells #[.string { data := #[116, 104, 101, 32, 103, 114, 97, 112, 104, 32, 111, 114, 32, 116, 104, 101, 32, 108, 101, 97, 100, 101, 114, 115, 32, 97, 114, 101, 32, 105, 110, 118, 97, 108, 105, 100] }] 155, .cells #[.string { data := #[116, 104, 101, 114, 101, 32, 105, 115, 32, 110, 111, 32, 115, 117, 99, 104, 32, 119, 97, 118, 101] }] 155, .cells #[.string { data := #[116, 104, 101, 32, 108, 101, 97, 100, 101, 114, 32, 104, 97, 115, 32, 110, 111, 32, 118, 101, 114, 116, 101, 120, 32, 105, 110, 32, 116, 104, 105, 115, 32, 119, 97, 118, 101] }] 155], #[], []⟩ with heap := (((((((World.holding Tryd.prog os ⟨#[.cells #[.string { data := #[116, 104, 101, 32, 103, 114, 97, 112, 104, 32, 111, 114, 32, 116, 104, 101, 32, 108, 101, 97, 100, 101, 114, 115, 32, 97, 114, 101, 32, 105, 110, 118, 97, 108, 105, 100] }] 155, .cells #[.string { data := #[116, 104, 101, 114, 101, 32, 105, 115, 32, 110, 111, 32, 115, 117, 99, 104, 32, 119, 97, 118, 101] }] 155, .cells #[.string { data := #[116, 104, 101, 32, 108, 101, 97, 100, 101, 114, 32, 104, 97, 115, 32, 110, 111, 32, 118, 101, 114, 116, 101, 120, 32, 105, 110, 32, 116, 104, 105, 115, 32, 119, 97, 118, 101] }] 155], #[], []⟩).heap).modify 0 fun | .cells _ t fr => .cells #[.iface 129 (.pointer (some ⟨(World.holding Tryd.prog default ⟨#[], #[], []⟩).heap.size + 0, 0, none⟩))] t fr | o => o)).modify 1 fun | .cells _ t fr => .cells #[.iface 129 (.pointer (some ⟨(World.holding Tryd.prog default ⟨#[], #[], []⟩).heap.size + 1, 0, none⟩))] t fr | o => o)).modify 2 fun | .cells _ t fr => .cells #[.iface 129 (.pointer (some ⟨(World.holding Tryd.prog default ⟨#[], #[], []⟩).heap.size + 2, 0, none⟩))] t fr | o => o) } : World).forCall (fun _ _ => 0) ⟨#[], #[.slice none 0 0, .slice none 0 0, .slice none 0 0, .int .i64 0], []⟩).memory :=
  laidMet_of_run (ps := [.cell 0 0, .cell ((World.holding Tryd.prog default ⟨#[], #[], []⟩).heap.size + 0) 0, .cell 1 0, .cell ((World.holding Tryd.prog default ⟨#[], #[], []⟩).heap.size + 1) 0, .cell 2 0, .cell ((World.holding Tryd.prog default ⟨#[], #[], []⟩).heap.size + 2) 0]) 8 (by kernel_rfl) (by kernel_rfl) (by kernel_rfl)
set_option maxRecDepth 100000 in
theorem fnExactWaveVotes_holds : Rows.FnExactWaveVotesSaid := by
  refine OpenClaim.holds_of_wide 6 Tryd.f6 rfl rfl rfl rfl rfl rfl rfl ⟨rfl, rfl, rfl, rfl, rfl⟩ rfl rfl rfl rfl rfl (by kernel_rfl) Tryd.func6 (by kernel_rfl)
    (of_decide_eq_true (by kernel_rfl)) (by unfold Func.isWrapper; rw [if_neg (of_decide_eq_false (by kernel_rfl))]; exact ⟨rfl, rfl⟩)
    (fun os started H enc _ => ?_)
  refine law_liftedX (s := Rows.fnExactWaveVotesSpec) started Tryd.func6 (by kernel_rfl) Tryd.underlying4 rfl (by kernel_rfl) rfl (fun ds g0 g1 g2 hl => ?_)
    (ChangeSpec.witness_at (enc := enc) (C := Tryd.checked) (os := os) (X := fun w _ => laidMet Tryd.prog laid3 w) false ({ World.holding Tryd.prog os ⟨#[.cells #[.string { data := #[116, 104, 101, 32, 103, 114, 97, 112, 104, 32, 111, 114, 32, 116, 104, 101, 32, 108, 101, 97, 100, 101, 114, 115, 32, 97, 114, 101, 32, 105, 110, 118, 97, 108, 105, 100] }] 155, .cells #[.string { data := #[116, 104, 101, 114, 101, 32, 105, 115, 32, 110, 111, 32, 115, 117, 99, 104, 32, 119, 97, 118, 101] }] 155, .cells #[.string { data := #[116, 104, 101, 32, 108, 101, 97, 100, 101, 114, 32, 104, 97, 115, 32, 110, 111, 32, 118, 101, 114, 116, 101, 120, 32, 105, 110, 32, 116, 104, 105, 115, 32, 119, 97, 118, 101] }] 155], #[], []⟩ with heap := (((((((World.holding Tryd.prog os ⟨#[.cells #[.string { data := #[116, 104, 101, 32, 103, 114, 97, 112, 104, 32, 111, 114, 32, 116, 104, 101, 32, 108, 101, 97, 100, 101, 114, 115, 32, 97, 114, 101, 32, 105, 110, 118, 97, 108, 105, 100] }] 155, .cells #[.string { data := #[116, 104, 101, 114, 101, 32, 105, 115, 32, 110, 111, 32, 115, 117, 99, 104, 32, 119, 97, 118, 101] }] 155, .cells #[.string { data := #[116, 104, 101, 32, 108, 101, 97, 100, 101, 114, 32, 104, 97, 115, 32, 110, 111, 32, 118, 101, 114, 116, 101, 120, 32, 105, 110, 32, 116, 104, 105, 115, 32, 119, 97, 118, 101] }] 155], #[], []⟩).heap).modify 0 fun | .cells _ t fr => .cells #[.iface 129 (.pointer (some ⟨(World.holding Tryd.prog default ⟨#[], #[], []⟩).heap.size + 0, 0, none⟩))] t fr | o => o)).modify 1 fun | .cells _ t fr => .cells #[.iface 129 (.pointer (some ⟨(World.holding Tryd.prog default ⟨#[], #[], []⟩).heap.size + 1, 0, none⟩))] t fr | o => o)).modify 2 fun | .cells _ t fr => .cells #[.iface 129 (.pointer (some ⟨(World.holding Tryd.prog default ⟨#[], #[], []⟩).heap.size + 2, 0, none⟩))] t fr | o => o) } : World) #[.slice none 0 0, .slice none 0 0, .slice none 0 0, .int .i64 0] 12 rfl (by kernel_rfl) (by kernel_rfl) (by kernel_rfl) (by kernel_rfl) (by kernel_rfl) (fnExactWaveVotes_met os)) ?_
  · match ds, hl with
    | [d0, d1, d2, d3], _ => exact ⟨rfl, rfl, rfl⟩
  · intro W base args ds ps u g gk hval hA
    have hlen : ds.length = 4 := by
      have := trodAll_len hA
      simpa using this
    match ds, hlen with
    | [d0, d1, d2, d3], _ =>
      obtain ⟨v0, v1, v2, v3, p0, p1, p2, p3, hvs, h0, h1, h2, h3⟩ := trodAll_four hA
      obtain rfl : args = #[v0, v1, v2, v3] := by
        obtain ⟨al⟩ := args
        exact congrArg Array.mk hvs
      obtain ⟨l0, i0, b0, a0⟩ := arg_ints Tryd.underlying22 Tryd.underlying3 (by kernel_rfl) (hval 0 _ v0 rfl rfl) h0
      obtain ⟨l1, i1, b1, a1⟩ := arg_slice vxF okVx Tryd.underlying23 (by kernel_rfl) (by decide) (fun cs h => td_vx h) (hval 1 _ v1 rfl rfl) h1
      obtain ⟨l2, i2, b2, a2⟩ := arg_ints Tryd.underlying22 Tryd.underlying3 (by kernel_rfl) (hval 2 _ v2 rfl rfl) h2
      obtain ⟨l3, i3, a3⟩ := arg_int Tryd.underlying3 (hval 3 _ v3 rfl rfl) h3
      exact law_callsX (fun u => FnExactWaveVotes_c u l0 l1 l2 l3 b1 b0 b2 i1) g gk ⟨isl_out g a0, vsl_out g a1, isl_out g a2, a3, trivial⟩
theorem fnExactWaveVotesCard_holds : Rows.FnExactWaveVotesCardSaid :=
  Claim7.holds_tied_plain_at .later [] [.sentinel, .sentinel, .sentinel] true (true, "1129c18850a65897b594c0531a1d11247b34bd3f40ada531a1dd26bb9c318587") true
    fnExactWaveVotes_holds (fun _ h => by cases h) (by kernel_rfl) (fun _ h => by cases h) fnExactWaveVotes_row_tie rfl ⟨rfl, rfl⟩ (by kernel_rfl) rfl
    (fun f fn hf hfn => by
      obtain rfl : f = 6 := Option.some.inj ((show Tryd.prog.funcNamed "loop.example/dagconsensus/laws.FnExactWaveVotes" = some 6 by kernel_rfl).symm.trans hf) |>.symm
      obtain rfl : fn = Tryd.f6 := (Option.some.inj (Tryd.func6.symm.trans hfn)).symm
      exact ⟨by kernel_rfl, fun j t ht => by
        rw [Tryd.params6] at ht
        have hm : t ∈ [22, 23, 22, 3] := by simpa using Array.mem_of_getElem? ht
        have hall : ([22, 23, 22, 3].all fun u => !Tryd.prog.wantsStandIn u) = true := by kernel_rfl
        exact (show Tryd.prog.wantsStandIn t = false by simpa using List.all_eq_true.1 hall t hm)⟩)
    (by kernel_rfl)
end Go.Proofs.YtpmhikdefbcofaaDoor
