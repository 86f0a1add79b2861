/- Texts of this proof put together: EwC. -/
import Derived.Test.YtpmhikdefbcofaaDoorCards
import Derived.Test.YtpmhikdefbcofaaDoorTie
import Derived.SevenTiedAt
import Derived.Test.YtpmhikdefbcofaaDoorM01
import Derived.Test.YtpmhikdefbcofaaDoorM02
import Derived.Test.YtpmhikdefbcofaaDoorM03
import Derived.Test.YtpmhikdefbcofaaDoorM04
import Derived.Test.YtpmhikdefbcofaaDoorM05
import Derived.Test.YtpmhikdefbcofaaDoorM06
import Derived.Test.YtpmhikdefbcofaaDoorM07
import Derived.Test.YtpmhikdefbcofaaDoorM08
import Derived.Test.YtpmhikdefbcofaaDoorM09
import Derived.Test.YtpmhikdefbcofaaDoorM10
import Derived.Test.YtpmhikdefbcofaaDoorM11
import Derived.Test.YtpmhikdefbcofaaDoorM12
import Derived.Test.YtpmhikdefbcofaaDoorM13
import Derived.Test.YtpmhikdefbcofaaDoorM14
import Derived.Test.YtpmhikdefbcofaaDoorM15
import Derived.Test.YtpmhikdefbcofaaDoorM16
import Derived.Test.YtpmhikdefbcofaaDoorM17
import Derived.Test.YtpmhikdefbcofaaDoorM18
import Derived.Test.YtpmhikdefbcofaaDoorM19
import Derived.Test.YtpmhikdefbcofaaDoorM20
import Derived.Test.YtpmhikdefbcofaaDoorM21
/-! YtpmhikdefbcofaaDoorEwC -/
set_option linter.all false
namespace Go.Proofs.YtpmhikdefbcofaaDoor
open Go Go.RowKit Go.ChangeShapes Go.WideShapes

set_option maxRecDepth 100000 in
theorem fnWaveVotes_met (os : Os) : laidMet Tryd.prog laid3 (({ World.holding Tryd.prog os ⟨#[.cells #[.string { data := #[116, 104, 101, 32, 103, 114, 97, 112, 104, 32, 111, 114, 32, 116, 104, 101, 32, 108, 101, 97, 100, 101, 114, 115, 32, 97, 114, 101, 32, 105, 110, 118, 97, 108, 105, 100] }] 155, .cells #[.string { data := #[116, 104, 101, 114, 101, 32, 105, 115, 32, 110, 111, 32, 115, 117, 99, 104, 32, 119, 97, 118, 101] }] 155, .cells #[.string { data := #[116, 104, 101, 32, 108, 101, 97, 100, 101, 114, 32, 104, 97, 115, 32, 110, 111, 32, 118, 101, 114, 116, 101, 120, 32, 105, 110, 32, 116, 104, 105, 115, 32, 119, 97, 118, 101] }] 155], #[], []⟩ with heap := (((((((World.holding Tryd.prog os ⟨#[.cells #[.string { data := #[116, 104, 101, 32, 103, 114, 97, 112, 104, 32, 111, 114, 32, 116, 104, 101, 32, 108, 101, 97, 100, 101, 114, 115, 32, 97, 114, 101, 32, 105, 110, 118, 97, 108, 105, 100] }] 155, .cells #[.string { data := #[116, 104, 101, 114, 101, 32, 105, 115, 32, 110, 111, 32, 115, 117, 99, 104, 32, 119, 97, 118, 101] }] 155, .cells #[.string { data := #[116, 104, 101, 32, 108, 101, 97, 100, 101, 114, 32, 104, 97, 115, 32, 110, 111, 32, 118, 101, 114, 116, 101, 120, 32, 105, 110, 32, 116, 104, 105, 115, 32, 119, 97, 118, 101] }] 155], #[], []⟩).heap).modify 0 fun | .cells _ t fr => .cells #[.iface 129 (.pointer (some ⟨(World.holding Tryd.prog default ⟨#[], #[], []⟩).heap.size + 0, 0, none⟩))] t fr | o => o)).modify 1 fun | .cells _ t fr => .cells #[.iface 129 (.pointer (some ⟨(World.holding Tryd.prog default ⟨#[], #[], []⟩).heap.size + 1, 0, none⟩))] t fr | o => o)).modify 2 fun | .cells _ t fr => .cells #[.iface 129 (.pointer (some ⟨(World.holding Tryd.prog default ⟨#[], #[], []⟩).heap.size + 2, 0, none⟩))] t fr | o => o) } : World).forCall (fun _ _ => 0) ⟨#[], #[.slice none 0 0], []⟩).memory :=
  laidMet_of_run (ps := [.cell 0 0, .cell ((World.holding Tryd.prog default ⟨#[], #[], []⟩).heap.size + 0) 0, .cell 1 0, .cell ((World.holding Tryd.prog default ⟨#[], #[], []⟩).heap.size + 1) 0, .cell 2 0, .cell ((World.holding Tryd.prog default ⟨#[], #[], []⟩).heap.size + 2) 0]) 8 (by kernel_rfl) (by kernel_rfl) (by kernel_rfl)
set_option maxRecDepth 100000 in
theorem fnWaveVotes_holds : Rows.FnWaveVotesSaid := by
  refine OpenClaim.holds_of_wide 7 Tryd.f7 rfl rfl rfl rfl rfl rfl rfl ⟨rfl, rfl, rfl, rfl, rfl⟩ rfl rfl rfl rfl rfl (by kernel_rfl) Tryd.func7 (by kernel_rfl)
    (of_decide_eq_true (by kernel_rfl)) (by unfold Func.isWrapper; rw [if_neg (of_decide_eq_false (by kernel_rfl))]; exact ⟨rfl, rfl⟩)
    (fun os started H enc _ => ?_)
  refine law_liftedX (s := Rows.fnWaveVotesSpec) started Tryd.func7 (by kernel_rfl) Tryd.underlying4 rfl (by kernel_rfl) rfl (fun ds g0 g1 g2 hl => ?_)
    (ChangeSpec.witness_at (enc := enc) (C := Tryd.checked) (os := os) (X := fun w _ => laidMet Tryd.prog laid3 w) false ({ World.holding Tryd.prog os ⟨#[.cells #[.string { data := #[116, 104, 101, 32, 103, 114, 97, 112, 104, 32, 111, 114, 32, 116, 104, 101, 32, 108, 101, 97, 100, 101, 114, 115, 32, 97, 114, 101, 32, 105, 110, 118, 97, 108, 105, 100] }] 155, .cells #[.string { data := #[116, 104, 101, 114, 101, 32, 105, 115, 32, 110, 111, 32, 115, 117, 99, 104, 32, 119, 97, 118, 101] }] 155, .cells #[.string { data := #[116, 104, 101, 32, 108, 101, 97, 100, 101, 114, 32, 104, 97, 115, 32, 110, 111, 32, 118, 101, 114, 116, 101, 120, 32, 105, 110, 32, 116, 104, 105, 115, 32, 119, 97, 118, 101] }] 155], #[], []⟩ with heap := (((((((World.holding Tryd.prog os ⟨#[.cells #[.string { data := #[116, 104, 101, 32, 103, 114, 97, 112, 104, 32, 111, 114, 32, 116, 104, 101, 32, 108, 101, 97, 100, 101, 114, 115, 32, 97, 114, 101, 32, 105, 110, 118, 97, 108, 105, 100] }] 155, .cells #[.string { data := #[116, 104, 101, 114, 101, 32, 105, 115, 32, 110, 111, 32, 115, 117, 99, 104, 32, 119, 97, 118, 101] }] 155, .cells #[.string { data := #[116, 104, 101, 32, 108, 101, 97, 100, 101, 114, 32, 104, 97, 115, 32, 110, 111, 32, 118, 101, 114, 116, 101, 120, 32, 105, 110, 32, 116, 104, 105, 115, 32, 119, 97, 118, 101] }] 155], #[], []⟩).heap).modify 0 fun | .cells _ t fr => .cells #[.iface 129 (.pointer (some ⟨(World.holding Tryd.prog default ⟨#[], #[], []⟩).heap.size + 0, 0, none⟩))] t fr | o => o)).modify 1 fun | .cells _ t fr => .cells #[.iface 129 (.pointer (some ⟨(World.holding Tryd.prog default ⟨#[], #[], []⟩).heap.size + 1, 0, none⟩))] t fr | o => o)).modify 2 fun | .cells _ t fr => .cells #[.iface 129 (.pointer (some ⟨(World.holding Tryd.prog default ⟨#[], #[], []⟩).heap.size + 2, 0, none⟩))] t fr | o => o) } : World) #[.slice none 0 0] 12 rfl (by kernel_rfl) (by kernel_rfl) (by kernel_rfl) (by kernel_rfl) (by kernel_rfl) (fnWaveVotes_met os)) ?_
  · match ds, hl with
    | [d0], _ => exact ⟨rfl, rfl, rfl⟩
  · intro W base args ds ps u g gk hval hA
    · skip
      obtain ⟨v0, d0, rfl, rfl, h0⟩ := Go.ChangeShapes.trodAll_one hA
      obtain ⟨l0, a0, b0⟩ := code_has Tryd.underlying33 Tryd.underlying5 (by kernel_rfl) (hval 0 _ v0 rfl rfl) h0
      exact law_callsX (fun u => FnWaveVotes_c u l0 b0) g gk ⟨u8_out g a0, trivial⟩
theorem fnWaveVotesCard_holds : Rows.FnWaveVotesCardSaid :=
  Claim7.holds_tied_plain_at .later [] [.sentinel, .sentinel, .sentinel] true (true, "1129c18850a65897b594c0531a1d11247b34bd3f40ada531a1dd26bb9c318587") true
    fnWaveVotes_holds (fun _ h => by cases h) (by kernel_rfl) (fun _ h => by cases h) fnWaveVotes_row_tie rfl ⟨rfl, rfl⟩ (by kernel_rfl) rfl
    (fun f fn hf hfn => by
      obtain rfl : f = 7 := Option.some.inj ((show Tryd.prog.funcNamed "loop.example/dagconsensus/laws.FnWaveVotes" = some 7 by kernel_rfl).symm.trans hf) |>.symm
      obtain rfl : fn = Tryd.f7 := (Option.some.inj (Tryd.func7.symm.trans hfn)).symm
      exact ⟨by kernel_rfl, fun j t ht => by
        rw [Tryd.params7] at ht
        have hm : t ∈ [33] := by simpa using Array.mem_of_getElem? ht
        have hall : ([33].all fun u => !Tryd.prog.wantsStandIn u) = true := by kernel_rfl
        exact (show Tryd.prog.wantsStandIn t = false by simpa using List.all_eq_true.1 hall t hm)⟩)
    (by kernel_rfl)
end Go.Proofs.YtpmhikdefbcofaaDoor
