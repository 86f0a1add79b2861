/- Texts of this proof put together: SxT, SxK, Rd, SxP, Leaf, Lf. -/
import Derived.Laws.BitsAllLaws
import Derived.Laws.BitsLemmas
import Derived.IntWalk
import Derived.Test.YtcagfmbboliohaaDoorQ01
import Derived.Test.YtcagfmbboliohaaDoorQ02
import Derived.Test.YtcagfmbboliohaaDoorQ03
import Derived.Test.YtcagfmbboliohaaDoorQ04
import Derived.Test.YtcagfmbboliohaaDoorQ05
import Derived.Test.YtcagfmbboliohaaDoorQ06
import Derived.Test.YtcagfmbboliohaaDoorQ07
/-! YtcagfmbboliohaaDoorSxT -/
set_option linter.all false

namespace Go.Proofs.YtcagfmbboliohaaDoor

theorem fl_ok {P : Program} {fl : List (Nat × Nat)} (h : (fl.all fun p => match P.info? p.2 with | some i => Nat.blt 0 i.size | none => false) = true) : ∀ p ∈ fl, ∃ i, P.info? p.2 = some i ∧ 0 < i.size := fun p hp => by
  have := List.all_eq_true.1 h p hp
  split at this
  · rename_i i hi
    exact ⟨i, hi, Nat.le_of_ble_eq_true this⟩
  · cases this
theorem flq_ok {fs : Array Field} (h : (fs.toList.all fun f => f.name != "_") = true) : ∀ f ∈ fs.toList, f.name ≠ "_" := fun f hf => by
  have := List.all_eq_true.1 h f hf
  simpa using this
theorem kds_ok {zs : List Value} (h : (zs.all fun z => (kindV z).isSome) = true) : ∀ z ∈ zs, kindV z ≠ none := fun z hz e => by
  have := List.all_eq_true.1 h z hz
  rw [e] at this
  cases this
theorem zs_ok {zs : List Value} (h : zs.all Value.oneCell' = true) : ∀ z ∈ zs, z.oneCell' = true := List.all_eq_true.1 h

def tt : List (Nat × TI) := [
  (2, .sc (.int IntKind.i64) (Value.int IntKind.i64 0)),
  (3, .sc (.int IntKind.i64) (Value.int IntKind.i64 0)),
  (4, .sc (.bool) (Value.bool false)),
  (5, .sc (.int IntKind.u8) (Value.int IntKind.u8 0)),
  (9, .sc (.string) (Value.string { data := #[] })),
  (12, .sc (.int IntKind.u64) (Value.int IntKind.u64 0)),
  (13, .st 2 [(0, 9), (1, 12)] [Value.string { data := #[] }, Value.int IntKind.u64 0] false),
  (20, .sc (.interface #[]) (Value.nilIface)),
  (21, .sc (.int IntKind.i32) (Value.int IntKind.i32 0)),
  (22, .st 4 [(0, 3), (1, 3), (2, 3), (3, 3)] [Value.int IntKind.i64 0, Value.int IntKind.i64 0, Value.int IntKind.i64 0, Value.int IntKind.i64 0] true),
  (23, .st 4 [(0, 3), (1, 3), (2, 3), (3, 3)] [Value.int IntKind.i64 0, Value.int IntKind.i64 0, Value.int IntKind.i64 0, Value.int IntKind.i64 0] true),
  (25, .st 4 [(0, 3), (1, 3), (2, 3), (3, 3)] [Value.int IntKind.i64 0, Value.int IntKind.i64 0, Value.int IntKind.i64 0, Value.int IntKind.i64 0] true),
  (28, .slc 5 1 1 [Value.int IntKind.u8 0]),
  (31, .slc 25 4 32 [Value.int IntKind.i64 0, Value.int IntKind.i64 0, Value.int IntKind.i64 0, Value.int IntKind.i64 0]),
  (32, .slc 4 1 1 [Value.bool false]),
  (35, .slc 39 3 24 [Value.int IntKind.i64 0, Value.bool false, Value.int IntKind.i64 0]),
  (38, .st 3 [(0, 3), (1, 4), (2, 3)] [Value.int IntKind.i64 0, Value.bool false, Value.int IntKind.i64 0] true),
  (39, .st 3 [(0, 3), (1, 4), (2, 3)] [Value.int IntKind.i64 0, Value.bool false, Value.int IntKind.i64 0] true),
  (40, .slc 23 4 32 [Value.int IntKind.i64 0, Value.int IntKind.i64 0, Value.int IntKind.i64 0, Value.int IntKind.i64 0]),
  (54, .sc (.pointer 65) (Value.pointer none)),
  (64, .st 2 [(0, 28), (1, 3)] [Value.slice none 0 0, Value.int IntKind.i64 0] false),
  (65, .st 2 [(0, 28), (1, 3)] [Value.slice none 0 0, Value.int IntKind.i64 0] false),
  (67, .ar 24 1 24 [Value.int IntKind.u8 0, Value.int IntKind.u8 0, Value.int IntKind.u8 0, Value.int IntKind.u8 0, Value.int IntKind.u8 0, Value.int IntKind.u8 0, Value.int IntKind.u8 0, Value.int IntKind.u8 0, Value.int IntKind.u8 0, Value.int IntKind.u8 0, Value.int IntKind.u8 0, Value.int IntKind.u8 0, Value.int IntKind.u8 0, Value.int IntKind.u8 0, Value.int IntKind.u8 0, Value.int IntKind.u8 0, Value.int IntKind.u8 0, Value.int IntKind.u8 0, Value.int IntKind.u8 0, Value.int IntKind.u8 0, Value.int IntKind.u8 0, Value.int IntKind.u8 0, Value.int IntKind.u8 0, Value.int IntKind.u8 0]),
  (68, .sc (.int IntKind.u64) (Value.int IntKind.u64 0)),
  (74, .ar 20 1 20 [Value.int IntKind.u64 0, Value.int IntKind.u64 0, Value.int IntKind.u64 0, Value.int IntKind.u64 0, Value.int IntKind.u64 0, Value.int IntKind.u64 0, Value.int IntKind.u64 0, Value.int IntKind.u64 0, Value.int IntKind.u64 0, Value.int IntKind.u64 0, Value.int IntKind.u64 0, Value.int IntKind.u64 0, Value.int IntKind.u64 0, Value.int IntKind.u64 0, Value.int IntKind.u64 0, Value.int IntKind.u64 0, Value.int IntKind.u64 0, Value.int IntKind.u64 0, Value.int IntKind.u64 0, Value.int IntKind.u64 0]),
  (75, .sc (.int IntKind.u32) (Value.int IntKind.u32 0)),
  (77, .sc (.int IntKind.u64) (Value.int IntKind.u64 0)),
  (80, .ar 32 1 32 [Value.int IntKind.u8 0, Value.int IntKind.u8 0, Value.int IntKind.u8 0, Value.int IntKind.u8 0, Value.int IntKind.u8 0, Value.int IntKind.u8 0, Value.int IntKind.u8 0, Value.int IntKind.u8 0, Value.int IntKind.u8 0, Value.int IntKind.u8 0, Value.int IntKind.u8 0, Value.int IntKind.u8 0, Value.int IntKind.u8 0, Value.int IntKind.u8 0, Value.int IntKind.u8 0, Value.int IntKind.u8 0, Value.int IntKind.u8 0, Value.int IntKind.u8 0, Value.int IntKind.u8 0, Value.int IntKind.u8 0, Value.int IntKind.u8 0, Value.int IntKind.u8 0, Value.int IntKind.u8 0, Value.int IntKind.u8 0, Value.int IntKind.u8 0, Value.int IntKind.u8 0, Value.int IntKind.u8 0, Value.int IntKind.u8 0, Value.int IntKind.u8 0, Value.int IntKind.u8 0, Value.int IntKind.u8 0, Value.int IntKind.u8 0]),
  (81, .ar 64 1 64 [Value.int IntKind.u8 0, Value.int IntKind.u8 0, Value.int IntKind.u8 0, Value.int IntKind.u8 0, Value.int IntKind.u8 0, Value.int IntKind.u8 0, Value.int IntKind.u8 0, Value.int IntKind.u8 0, Value.int IntKind.u8 0, Value.int IntKind.u8 0, Value.int IntKind.u8 0, Value.int IntKind.u8 0, Value.int IntKind.u8 0, Value.int IntKind.u8 0, Value.int IntKind.u8 0, Value.int IntKind.u8 0, Value.int IntKind.u8 0, Value.int IntKind.u8 0, Value.int IntKind.u8 0, Value.int IntKind.u8 0, Value.int IntKind.u8 0, Value.int IntKind.u8 0, Value.int IntKind.u8 0, Value.int IntKind.u8 0, Value.int IntKind.u8 0, Value.int IntKind.u8 0, Value.int IntKind.u8 0, Value.int IntKind.u8 0, Value.int IntKind.u8 0, Value.int IntKind.u8 0, Value.int IntKind.u8 0, Value.int IntKind.u8 0, Value.int IntKind.u8 0, Value.int IntKind.u8 0, Value.int IntKind.u8 0, Value.int IntKind.u8 0, Value.int IntKind.u8 0, Value.int IntKind.u8 0, Value.int IntKind.u8 0, Value.int IntKind.u8 0, Value.int IntKind.u8 0, Value.int IntKind.u8 0, Value.int IntKind.u8 0, Value.int IntKind.u8 0, Value.int IntKind.u8 0, Value.int IntKind.u8 0, Value.int IntKind.u8 0, Value.int IntKind.u8 0, Value.int IntKind.u8 0, Value.int IntKind.u8 0, Value.int IntKind.u8 0, Value.int IntKind.u8 0, Value.int IntKind.u8 0, Value.int IntKind.u8 0, Value.int IntKind.u8 0, Value.int IntKind.u8 0, Value.int IntKind.u8 0, Value.int IntKind.u8 0, Value.int IntKind.u8 0, Value.int IntKind.u8 0, Value.int IntKind.u8 0, Value.int IntKind.u8 0, Value.int IntKind.u8 0, Value.int IntKind.u8 0]),
  (92, .sc (.pointer 5) (Value.pointer none))
]
theorem ti2 : TIok Tryd.prog 2 (.sc (.int IntKind.i64) (Value.int IntKind.i64 0)) :=
  ⟨Tryd.t2, Tryd.underlying2, rfl, (by kernel_rfl : Tryd.prog.info? 2 = some Tryd.t2), rfl, rfl, rfl⟩
theorem ti3 : TIok Tryd.prog 3 (.sc (.int IntKind.i64) (Value.int IntKind.i64 0)) :=
  ⟨Tryd.t3, Tryd.underlying3, rfl, (by kernel_rfl : Tryd.prog.info? 3 = some Tryd.t3), rfl, rfl, rfl⟩
theorem ti4 : TIok Tryd.prog 4 (.sc (.bool) (Value.bool false)) :=
  ⟨Tryd.t4, Tryd.underlying4, rfl, (by kernel_rfl : Tryd.prog.info? 4 = some Tryd.t4), rfl, rfl, rfl⟩
theorem ti5 : TIok Tryd.prog 5 (.sc (.int IntKind.u8) (Value.int IntKind.u8 0)) :=
  ⟨Tryd.t5, Tryd.underlying5, rfl, (by kernel_rfl : Tryd.prog.info? 5 = some Tryd.t5), rfl, rfl, rfl⟩
theorem ti9 : TIok Tryd.prog 9 (.sc (.string) (Value.string { data := #[] })) :=
  ⟨Tryd.t9, Tryd.underlying9, rfl, (by kernel_rfl : Tryd.prog.info? 9 = some Tryd.t9), rfl, rfl, rfl⟩
theorem ti12 : TIok Tryd.prog 12 (.sc (.int IntKind.u64) (Value.int IntKind.u64 0)) :=
  ⟨Tryd.t12, Tryd.underlying12, rfl, (by kernel_rfl : Tryd.prog.info? 12 = some Tryd.t12), rfl, rfl, rfl⟩
theorem ti13 : TIok Tryd.prog 13 (.st 2 [(0, 9), (1, 12)] [Value.string { data := #[] }, Value.int IntKind.u64 0] false) :=
  ⟨rfl, _, Tryd.t13, Tryd.underlying13, (by kernel_rfl : Tryd.prog.info? 13 = some Tryd.t13), rfl, rfl, rfl, fl_ok (by kernel_rfl), zs_ok (by kernel_rfl), (fun h => by cases h)⟩
theorem ti20 : TIok Tryd.prog 20 (.sc (.interface #[]) (Value.nilIface)) :=
  ⟨Tryd.t20, Tryd.underlying20, rfl, (by kernel_rfl : Tryd.prog.info? 20 = some Tryd.t20), rfl, rfl, rfl⟩
theorem ti21 : TIok Tryd.prog 21 (.sc (.int IntKind.i32) (Value.int IntKind.i32 0)) :=
  ⟨Tryd.t21, Tryd.underlying21, rfl, (by kernel_rfl : Tryd.prog.info? 21 = some Tryd.t21), rfl, rfl, rfl⟩
theorem ti22 : TIok Tryd.prog 22 (.st 4 [(0, 3), (1, 3), (2, 3), (3, 3)] [Value.int IntKind.i64 0, Value.int IntKind.i64 0, Value.int IntKind.i64 0, Value.int IntKind.i64 0] true) :=
  ⟨rfl, _, Tryd.t22, Tryd.underlying22, (by kernel_rfl : Tryd.prog.info? 22 = some Tryd.t22), rfl, rfl, rfl, fl_ok (by kernel_rfl), zs_ok (by kernel_rfl), fun _ => ⟨by kernel_rfl, by kernel_rfl, by kernel_rfl, flq_ok (by kernel_rfl), by kernel_rfl, kds_ok (by kernel_rfl)⟩⟩
theorem ti23 : TIok Tryd.prog 23 (.st 4 [(0, 3), (1, 3), (2, 3), (3, 3)] [Value.int IntKind.i64 0, Value.int IntKind.i64 0, Value.int IntKind.i64 0, Value.int IntKind.i64 0] true) :=
  ⟨rfl, _, Tryd.t23, Tryd.underlying23, (by kernel_rfl : Tryd.prog.info? 23 = some Tryd.t23), rfl, rfl, rfl, fl_ok (by kernel_rfl), zs_ok (by kernel_rfl), fun _ => ⟨by kernel_rfl, by kernel_rfl, by kernel_rfl, flq_ok (by kernel_rfl), by kernel_rfl, kds_ok (by kernel_rfl)⟩⟩
theorem ti25 : TIok Tryd.prog 25 (.st 4 [(0, 3), (1, 3), (2, 3), (3, 3)] [Value.int IntKind.i64 0, Value.int IntKind.i64 0, Value.int IntKind.i64 0, Value.int IntKind.i64 0] true) :=
  ⟨rfl, _, Tryd.t25, Tryd.underlying25, (by kernel_rfl : Tryd.prog.info? 25 = some Tryd.t25), rfl, rfl, rfl, fl_ok (by kernel_rfl), zs_ok (by kernel_rfl), fun _ => ⟨by kernel_rfl, by kernel_rfl, by kernel_rfl, flq_ok (by kernel_rfl), by kernel_rfl, kds_ok (by kernel_rfl)⟩⟩
theorem ti28 : TIok Tryd.prog 28 (.slc 5 1 1 [Value.int IntKind.u8 0]) :=
  ⟨Tryd.t5, Tryd.t28, _, Tryd.underlying28, (by kernel_rfl : Tryd.prog.info? 5 = some Tryd.t5), rfl, rfl, rfl, rfl, rfl, by decide, by decide, zs_ok (by kernel_rfl), (by kernel_rfl : Tryd.prog.info? 28 = some Tryd.t28), rfl, rfl⟩
theorem ti31 : TIok Tryd.prog 31 (.slc 25 4 32 [Value.int IntKind.i64 0, Value.int IntKind.i64 0, Value.int IntKind.i64 0, Value.int IntKind.i64 0]) :=
  ⟨Tryd.t25, Tryd.t31, _, Tryd.underlying31, (by kernel_rfl : Tryd.prog.info? 25 = some Tryd.t25), rfl, rfl, rfl, rfl, rfl, by decide, by decide, zs_ok (by kernel_rfl), (by kernel_rfl : Tryd.prog.info? 31 = some Tryd.t31), rfl, rfl⟩
theorem ti32 : TIok Tryd.prog 32 (.slc 4 1 1 [Value.bool false]) :=
  ⟨Tryd.t4, Tryd.t32, _, Tryd.underlying32, (by kernel_rfl : Tryd.prog.info? 4 = some Tryd.t4), rfl, rfl, rfl, rfl, rfl, by decide, by decide, zs_ok (by kernel_rfl), (by kernel_rfl : Tryd.prog.info? 32 = some Tryd.t32), rfl, rfl⟩
theorem ti35 : TIok Tryd.prog 35 (.slc 39 3 24 [Value.int IntKind.i64 0, Value.bool false, Value.int IntKind.i64 0]) :=
  ⟨Tryd.t39, Tryd.t35, _, Tryd.underlying35, (by kernel_rfl : Tryd.prog.info? 39 = some Tryd.t39), rfl, rfl, rfl, rfl, rfl, by decide, by decide, zs_ok (by kernel_rfl), (by kernel_rfl : Tryd.prog.info? 35 = some Tryd.t35), rfl, rfl⟩
theorem ti38 : TIok Tryd.prog 38 (.st 3 [(0, 3), (1, 4), (2, 3)] [Value.int IntKind.i64 0, Value.bool false, Value.int IntKind.i64 0] true) :=
  ⟨rfl, _, Tryd.t38, Tryd.underlying38, (by kernel_rfl : Tryd.prog.info? 38 = some Tryd.t38), rfl, rfl, rfl, fl_ok (by kernel_rfl), zs_ok (by kernel_rfl), fun _ => ⟨by kernel_rfl, by kernel_rfl, by kernel_rfl, flq_ok (by kernel_rfl), by kernel_rfl, kds_ok (by kernel_rfl)⟩⟩
theorem ti39 : TIok Tryd.prog 39 (.st 3 [(0, 3), (1, 4), (2, 3)] [Value.int IntKind.i64 0, Value.bool false, Value.int IntKind.i64 0] true) :=
  ⟨rfl, _, Tryd.t39, Tryd.underlying39, (by kernel_rfl : Tryd.prog.info? 39 = some Tryd.t39), rfl, rfl, rfl, fl_ok (by kernel_rfl), zs_ok (by kernel_rfl), fun _ => ⟨by kernel_rfl, by kernel_rfl, by kernel_rfl, flq_ok (by kernel_rfl), by kernel_rfl, kds_ok (by kernel_rfl)⟩⟩
theorem ti40 : TIok Tryd.prog 40 (.slc 23 4 32 [Value.int IntKind.i64 0, Value.int IntKind.i64 0, Value.int IntKind.i64 0, Value.int IntKind.i64 0]) :=
  ⟨Tryd.t23, Tryd.t40, _, Tryd.underlying40, (by kernel_rfl : Tryd.prog.info? 23 = some Tryd.t23), rfl, rfl, rfl, rfl, rfl, by decide, by decide, zs_ok (by kernel_rfl), (by kernel_rfl : Tryd.prog.info? 40 = some Tryd.t40), rfl, rfl⟩
theorem ti54 : TIok Tryd.prog 54 (.sc (.pointer 65) (Value.pointer none)) :=
  ⟨Tryd.t54, Tryd.underlying54, rfl, (by kernel_rfl : Tryd.prog.info? 54 = some Tryd.t54), rfl, rfl, rfl⟩
theorem ti64 : TIok Tryd.prog 64 (.st 2 [(0, 28), (1, 3)] [Value.slice none 0 0, Value.int IntKind.i64 0] false) :=
  ⟨rfl, _, Tryd.t64, Tryd.underlying64, (by kernel_rfl : Tryd.prog.info? 64 = some Tryd.t64), rfl, rfl, rfl, fl_ok (by kernel_rfl), zs_ok (by kernel_rfl), (fun h => by cases h)⟩
theorem ti65 : TIok Tryd.prog 65 (.st 2 [(0, 28), (1, 3)] [Value.slice none 0 0, Value.int IntKind.i64 0] false) :=
  ⟨rfl, _, Tryd.t65, Tryd.underlying65, (by kernel_rfl : Tryd.prog.info? 65 = some Tryd.t65), rfl, rfl, rfl, fl_ok (by kernel_rfl), zs_ok (by kernel_rfl), (fun h => by cases h)⟩
theorem ti67 : TIok Tryd.prog 67 (.ar 24 1 24 [Value.int IntKind.u8 0, Value.int IntKind.u8 0, Value.int IntKind.u8 0, Value.int IntKind.u8 0, Value.int IntKind.u8 0, Value.int IntKind.u8 0, Value.int IntKind.u8 0, Value.int IntKind.u8 0, Value.int IntKind.u8 0, Value.int IntKind.u8 0, Value.int IntKind.u8 0, Value.int IntKind.u8 0, Value.int IntKind.u8 0, Value.int IntKind.u8 0, Value.int IntKind.u8 0, Value.int IntKind.u8 0, Value.int IntKind.u8 0, Value.int IntKind.u8 0, Value.int IntKind.u8 0, Value.int IntKind.u8 0, Value.int IntKind.u8 0, Value.int IntKind.u8 0, Value.int IntKind.u8 0, Value.int IntKind.u8 0]) :=
  ⟨rfl, _, Tryd.t67, Tryd.t5, Tryd.underlying67, (by kernel_rfl : Tryd.prog.info? 5 = some Tryd.t5), rfl, (by kernel_rfl : Tryd.prog.info? 67 = some Tryd.t67), rfl, rfl, zs_ok (by kernel_rfl), by decide⟩
theorem ti68 : TIok Tryd.prog 68 (.sc (.int IntKind.u64) (Value.int IntKind.u64 0)) :=
  ⟨Tryd.t68, Tryd.underlying68, rfl, (by kernel_rfl : Tryd.prog.info? 68 = some Tryd.t68), rfl, rfl, rfl⟩
theorem ti74 : TIok Tryd.prog 74 (.ar 20 1 20 [Value.int IntKind.u64 0, Value.int IntKind.u64 0, Value.int IntKind.u64 0, Value.int IntKind.u64 0, Value.int IntKind.u64 0, Value.int IntKind.u64 0, Value.int IntKind.u64 0, Value.int IntKind.u64 0, Value.int IntKind.u64 0, Value.int IntKind.u64 0, Value.int IntKind.u64 0, Value.int IntKind.u64 0, Value.int IntKind.u64 0, Value.int IntKind.u64 0, Value.int IntKind.u64 0, Value.int IntKind.u64 0, Value.int IntKind.u64 0, Value.int IntKind.u64 0, Value.int IntKind.u64 0, Value.int IntKind.u64 0]) :=
  ⟨rfl, _, Tryd.t74, Tryd.t68, Tryd.underlying74, (by kernel_rfl : Tryd.prog.info? 68 = some Tryd.t68), rfl, (by kernel_rfl : Tryd.prog.info? 74 = some Tryd.t74), rfl, rfl, zs_ok (by kernel_rfl), by decide⟩
theorem ti75 : TIok Tryd.prog 75 (.sc (.int IntKind.u32) (Value.int IntKind.u32 0)) :=
  ⟨Tryd.t75, Tryd.underlying75, rfl, (by kernel_rfl : Tryd.prog.info? 75 = some Tryd.t75), rfl, rfl, rfl⟩
theorem ti77 : TIok Tryd.prog 77 (.sc (.int IntKind.u64) (Value.int IntKind.u64 0)) :=
  ⟨Tryd.t77, Tryd.underlying77, rfl, (by kernel_rfl : Tryd.prog.info? 77 = some Tryd.t77), rfl, rfl, rfl⟩
theorem ti80 : TIok Tryd.prog 80 (.ar 32 1 32 [Value.int IntKind.u8 0, Value.int IntKind.u8 0, Value.int IntKind.u8 0, Value.int IntKind.u8 0, Value.int IntKind.u8 0, Value.int IntKind.u8 0, Value.int IntKind.u8 0, Value.int IntKind.u8 0, Value.int IntKind.u8 0, Value.int IntKind.u8 0, Value.int IntKind.u8 0, Value.int IntKind.u8 0, Value.int IntKind.u8 0, Value.int IntKind.u8 0, Value.int IntKind.u8 0, Value.int IntKind.u8 0, Value.int IntKind.u8 0, Value.int IntKind.u8 0, Value.int IntKind.u8 0, Value.int IntKind.u8 0, Value.int IntKind.u8 0, Value.int IntKind.u8 0, Value.int IntKind.u8 0, Value.int IntKind.u8 0, Value.int IntKind.u8 0, Value.int IntKind.u8 0, Value.int IntKind.u8 0, Value.int IntKind.u8 0, Value.int IntKind.u8 0, Value.int IntKind.u8 0, Value.int IntKind.u8 0, Value.int IntKind.u8 0]) :=
  ⟨rfl, _, Tryd.t80, Tryd.t5, Tryd.underlying80, (by kernel_rfl : Tryd.prog.info? 5 = some Tryd.t5), rfl, (by kernel_rfl : Tryd.prog.info? 80 = some Tryd.t80), rfl, rfl, zs_ok (by kernel_rfl), by decide⟩
theorem ti81 : TIok Tryd.prog 81 (.ar 64 1 64 [Value.int IntKind.u8 0, Value.int IntKind.u8 0, Value.int IntKind.u8 0, Value.int IntKind.u8 0, Value.int IntKind.u8 0, Value.int IntKind.u8 0, Value.int IntKind.u8 0, Value.int IntKind.u8 0, Value.int IntKind.u8 0, Value.int IntKind.u8 0, Value.int IntKind.u8 0, Value.int IntKind.u8 0, Value.int IntKind.u8 0, Value.int IntKind.u8 0, Value.int IntKind.u8 0, Value.int IntKind.u8 0, Value.int IntKind.u8 0, Value.int IntKind.u8 0, Value.int IntKind.u8 0, Value.int IntKind.u8 0, Value.int IntKind.u8 0, Value.int IntKind.u8 0, Value.int IntKind.u8 0, Value.int IntKind.u8 0, Value.int IntKind.u8 0, Value.int IntKind.u8 0, Value.int IntKind.u8 0, Value.int IntKind.u8 0, Value.int IntKind.u8 0, Value.int IntKind.u8 0, Value.int IntKind.u8 0, Value.int IntKind.u8 0, Value.int IntKind.u8 0, Value.int IntKind.u8 0, Value.int IntKind.u8 0, Value.int IntKind.u8 0, Value.int IntKind.u8 0, Value.int IntKind.u8 0, Value.int IntKind.u8 0, Value.int IntKind.u8 0, Value.int IntKind.u8 0, Value.int IntKind.u8 0, Value.int IntKind.u8 0, Value.int IntKind.u8 0, Value.int IntKind.u8 0, Value.int IntKind.u8 0, Value.int IntKind.u8 0, Value.int IntKind.u8 0, Value.int IntKind.u8 0, Value.int IntKind.u8 0, Value.int IntKind.u8 0, Value.int IntKind.u8 0, Value.int IntKind.u8 0, Value.int IntKind.u8 0, Value.int IntKind.u8 0, Value.int IntKind.u8 0, Value.int IntKind.u8 0, Value.int IntKind.u8 0, Value.int IntKind.u8 0, Value.int IntKind.u8 0, Value.int IntKind.u8 0, Value.int IntKind.u8 0, Value.int IntKind.u8 0, Value.int IntKind.u8 0]) :=
  ⟨rfl, _, Tryd.t81, Tryd.t5, Tryd.underlying81, (by kernel_rfl : Tryd.prog.info? 5 = some Tryd.t5), rfl, (by kernel_rfl : Tryd.prog.info? 81 = some Tryd.t81), rfl, rfl, zs_ok (by kernel_rfl), by decide⟩
theorem ti92 : TIok Tryd.prog 92 (.sc (.pointer 5) (Value.pointer none)) :=
  ⟨Tryd.t92, Tryd.underlying92, rfl, (by kernel_rfl : Tryd.prog.info? 92 = some Tryd.t92), rfl, rfl, rfl⟩
theorem tt_ok : TTok Tryd.prog tt := by
  intro p hp
  simp only [tt, List.mem_cons, List.not_mem_nil, or_false] at hp
  rcases hp with rfl | rfl | rfl | rfl | rfl | rfl | rfl | rfl | rfl | rfl | rfl | rfl | rfl | rfl | rfl | rfl | rfl | rfl | rfl | rfl | rfl | rfl | rfl | rfl | rfl | rfl | rfl | rfl | rfl | rfl
  · exact ti2
  · exact ti3
  · exact ti4
  · exact ti5
  · exact ti9
  · exact ti12
  · exact ti13
  · exact ti20
  · exact ti21
  · exact ti22
  · exact ti23
  · exact ti25
  · exact ti28
  · exact ti31
  · exact ti32
  · exact ti35
  · exact ti38
  · exact ti39
  · exact ti40
  · exact ti54
  · exact ti64
  · exact ti65
  · exact ti67
  · exact ti68
  · exact ti74
  · exact ti75
  · exact ti77
  · exact ti80
  · exact ti81
  · exact ti92

theorem CallN.ret1 {P : Program} {f : FuncId} {ss : List SV} {L : Hpl} {nx : Nat} {K : KK} {r0 : SV} (h : SRet P f ss (· = r0)) (k : K (r0.lift nx) L (nx + 10)) : CallN P f ss L nx K := .ret _ h fun r e => e ▸ k
theorem Br.tt {X Y : Prop} (h : X) : Br true X Y := ⟨fun _ => h, (fun h => by cases h)⟩
theorem Br.ff {X Y : Prop} (h : Y) : Br false X Y := ⟨(fun h => by cases h), fun _ => h⟩
theorem Br.ttE {b : Bool} {X Y : Prop} (e : b = true) (h : X) : Br b X Y := e ▸ Br.tt h
theorem Br.ffE {b : Bool} {X Y : Prop} (e : b = false) (h : Y) : Br b X Y := e ▸ Br.ff h
theorem Br.dec {p : Prop} [Decidable p] {X Y : Prop} (h1 : p → X) (h2 : ¬ p → Y) : Br (decide p) X Y := ⟨fun h => h1 (of_decide_eq_true h), fun h => h2 (of_decide_eq_false h)⟩
theorem Br.eq {a b : Int} {X Y : Prop} (h1 : a = b → X) (h2 : a ≠ b → Y) : Br (a == b) X Y := ⟨fun h => h1 (by simpa using h), fun h => h2 (by simpa using h)⟩
theorem Br.ne {a b : Int} {X Y : Prop} (h1 : a ≠ b → X) (h2 : a = b → Y) : Br (a != b) X Y := ⟨fun h => h1 (by simpa using h), fun h => h2 (by simpa using h)⟩
theorem Br.not {b : Bool} {X Y : Prop} (h : Br b Y X) : Br (!b) X Y := ⟨fun e => h.f (by simpa using e), fun e => h.t (by simpa using e)⟩
theorem Ar.fit {z : Int} {K : Int → Prop} (h1 : -9223372036854775808 ≤ z ∧ z ≤ 9223372036854775807) (h2 : K z) : Ar .i64 z K :=
  ⟨⟨z, by rw [IntKind.wrap_i64]; omega, h2⟩⟩
theorem Ar.wrap {k : IntKind} {z : Int} {K : Int → Prop} (h2 : K (k.wrap z)) : Ar k z K := ⟨⟨_, rfl, h2⟩⟩
theorem Ar.div {a b : Int} {K : Int → Prop} (h0 : 0 ≤ a) (h1 : 0 < b) (h : a ≤ 9223372036854775807) (h2 : K (a / b)) : Ar .i64 (a.tdiv b) K :=
  ⟨⟨a / b, by
    have h3 : 0 ≤ a / b := Int.ediv_nonneg h0 (by omega)
    have h4 : a / b ≤ a := Int.ediv_le_self _ h0
    rw [Int.tdiv_eq_ediv_of_nonneg h0, IntKind.wrap_i64]; omega, h2⟩⟩
theorem Eqv.any {z : Int} {K : Int → Prop} (h : K z) : Eqv z K := ⟨⟨_, rfl, h⟩⟩
theorem Eqv.shr1 {a : Int} {K : Int → Prop} (h : K (a / 2)) : Eqv (a / 2 ^ min (Int.toNat 1) (IntKind.bits .u64)) K := ⟨⟨a / 2, by simp [IntKind.bits], h⟩⟩
theorem Ar.u64 {z : Int} {K : Int → Prop} (h1 : 0 ≤ z ∧ z ≤ 18446744073709551615) (h2 : K z) : Ar .u64 z K :=
  ⟨⟨z, by simp [IntKind.wrap, IntKind.bits, IntKind.signed]; omega, h2⟩⟩
theorem rem_intro {a b : Int} {K : Int → Prop} (h0 : 0 ≤ a) (h1 : 0 < b) (h2 : K (a % b)) : ∀ z, a.tmod b = z → K z := fun z e => by
  rw [Int.tmod_eq_emod_of_nonneg h0] at e
  subst e
  exact h2

theorem Ent.refl (r : SV) (H : List Hp) : Ent r H r H := fun w F v hs hv => ⟨F, fun _ h => h, hs, hv⟩
theorem HSat.dropN {w : World} {F : Nat → Prop} : ∀ {A H : List Hp}, HSat w F (A ++ H) → HSat w F H
  | [], _, h => h
  | a :: A, H, h => HSat.dropN (A := A) h.tail
theorem Ent.drop (A : List Hp) (r : SV) (H : List Hp) : Ent r (A ++ H) r H := fun w F v hs hv => ⟨F, fun _ h => h, hs.dropN, hv⟩
/-- a plain result, all that was made is left behind -/
theorem Fin.pure {r : SV} {A : List Hp} {R : Heaplet} {Φ : SV → Prop} (h : Φ r) : Fin r (A ++ [.cust R]) (fun r H' => H' = [.cust R] ∧ Φ r) := ⟨⟨r, _, Ent.drop A r _, rfl, h⟩⟩
/-! ### loops -/
def keepF (ks : List Nat) (σ : Fr) : Fr := fun k => bif elemB k ks then σ k else .any
def updL : Fr → List (Nat × SV) → Fr
  | σ, [] => σ
  | σ, (k, v) :: l => upd (updL σ l) k v
def KeepL (σ' σ : Fr) : List Nat → Prop
  | [] => True
  | k :: ks => σ' k = σ k ∧ KeepL σ' σ ks
def MatchL (σ : Fr) : List (Nat × SV) → Prop
  | [] => True
  | (k, v) :: l => σ k = v ∧ MatchL σ l
/-- one heap told by another -/
def HLe (L L' : Hpl) : Prop := ∀ w F, HSat w F (L.map Prod.snd) → ∃ F', (∀ b, F b → F' b) ∧ HSat w F' (L'.map Prod.snd)
theorem HLe.refl (L : Hpl) : HLe L L := fun w F h => ⟨F, fun _ h => h, h⟩
theorem HLe.drop (A L : Hpl) : HLe (A ++ L) L := fun w F h => ⟨F, fun _ h => h, (by rw [List.map_append] at h; exact h.dropN)⟩
theorem HLe.trans {L L' L'' : Hpl} (h : HLe L L') (h' : HLe L' L'') : HLe L L'' := fun w F hs => by
  obtain ⟨F1, a, b⟩ := h w F hs
  obtain ⟨F2, c, d⟩ := h' w F1 b
  exact ⟨F2, fun x hx => c x (a x hx), d⟩
theorem HLe.box {k g n : Nat} {t : TypeId} {f f' : Nat → SV} {L : Hpl} (h : ∀ j, j < n → f j = f' j) : HLe ((k, .box g t n f) :: L) ((k, .box g t n f') :: L) := fun w F hs =>
  ⟨F, fun _ h => h, hs.turn (Nat.le_refl _) (fun _ _ _ => rfl) (by
    obtain ⟨cs, a, b, c⟩ := hs.holds _ List.mem_cons_self
    exact ⟨cs, a, b, fun j hj => by have := c j hj; rw [h j hj] at this; exact this⟩) fun b hb => ⟨(hs.fp _ List.mem_cons_self b hb).1, .inl hb⟩⟩
theorem HLe.row {k sz n : Nat} {v : Value} {e : TypeId} {f f' : Nat → Nat → SV} {L : Hpl} (h : ∀ i j, i < n → j < sz → f i j = f' i j) : HLe ((k, .row v e sz n f) :: L) ((k, .row v e sz n f') :: L) := fun w F hs =>
  ⟨F, fun _ h => h, hs.turn (Nat.le_refl _) (fun _ _ _ => rfl) (by
    obtain ⟨xs, a, c⟩ := hs.holds _ List.mem_cons_self
    exact ⟨xs, a, fun i j hi hj => by have := c i j hi hj; rw [h i j hi hj] at this; exact this⟩) fun b hb => ⟨(hs.fp _ List.mem_cons_self b hb).1, .inl hb⟩⟩
theorem HLe.cons (x : Nat × Hp) {L L' : Hpl} (h : ∀ w F, HSat w F (L.map Prod.snd) → HSat w F (L'.map Prod.snd)) (hp : ∀ b, (∃ p ∈ L'.map Prod.snd, p.fp b) → ∃ p ∈ L.map Prod.snd, p.fp b) : HLe (x :: L) (x :: L') := fun w F hs => by
  have ht := h w F hs.tail
  have hap := List.pairwise_cons.1 hs.apart
  refine ⟨F, fun _ h => h, ⟨fun q hq => ?_, fun q hq b hb => ?_, List.pairwise_cons.2 ⟨fun q hq b hb hbq => ?_, ht.apart⟩, hs.lt⟩⟩
  · rcases List.mem_cons.1 hq with rfl | hq
    · exact hs.holds _ List.mem_cons_self
    · exact ht.holds q hq
  · rcases List.mem_cons.1 hq with rfl | hq
    · exact hs.fp _ List.mem_cons_self b hb
    · exact ht.fp q hq b hb
  · obtain ⟨q', hq', hb'⟩ := hp b ⟨q, hq, hbq⟩
    exact hap.1 q' hq' b hb hb'
theorem putF_self (o m : Nat) (fv f : Nat → SV) (hm : 0 < m) : putF o m fv f o = fv 0 := by
  unfold putF
  have : (Nat.ble o o && Nat.ble (o + 1) (o + m)) = true := by simp [Nat.ble_eq]; omega
  rw [this, cond_true, Nat.sub_self]
theorem putF_one (o : Nat) (fv f : Nat → SV) (j : Nat) : putF o 1 fv f j = if j = o then fv 0 else f j := by
  unfold putF
  by_cases h : j = o
  · subst h
    rw [if_pos rfl]
    have : (Nat.ble j j && Nat.ble (j + 1) (j + 1)) = true := by simp [Nat.ble_eq]
    rw [this, cond_true, Nat.sub_self]
  · rw [if_neg h]
    have : (Nat.ble o j && Nat.ble (j + 1) (o + 1)) = false := by rw [Bool.eq_false_iff]; simp [Nat.ble_eq]; omega
    rw [this, cond_false]
theorem KeepL.get {σ' σ : Fr} {k : Nat} : ∀ {ks : List Nat}, KeepL σ' σ ks → elemB k ks = true → σ' k = σ k
  | [], _, h => by cases h
  | j :: ks, h, e => by
    unfold elemB at e
    cases e1 : Nat.beq k j
    · rw [e1] at e; exact KeepL.get h.2 e
    · have := Nat.eq_of_beq_eq_true e1
      subst this
      exact h.1
theorem SLe.mk {σ' σ : Fr} {ks : List Nat} {chg : List (Nat × SV)} {L' L : Hpl} {nx nx' : Nat} (h1 : KeepL σ' σ ks) (h2 : MatchL σ' chg) (h3 : HLe L' L) : SLe ⟨σ', L', nx⟩ ⟨updL (keepF ks σ) chg, L, nx'⟩ := fun n _ F a w hs => by
  obtain ⟨F', hF, hh⟩ := h3 w F hs.heap
  refine ⟨F', hF, hs.size, hs.defers, ?_, hh⟩
  have hf : FrHas w F' σ' a := fun k => (hs.fr k).mono hF
  have base : FrHas w F' (keepF ks σ) a := fun k => by
    unfold keepF
    cases e : elemB k ks
    · trivial
    · have := hf k
      rw [h1.get e] at this
      exact this
  have : ∀ l : List (Nat × SV), MatchL σ' l → FrHas w F' (updL (keepF ks σ) l) a := by
    intro l
    induction l with
    | nil => intro _; exact base
    | cons p l ih =>
      intro hm k
      obtain ⟨q, v⟩ := p
      show Has w F' (upd _ q v k) _
      unfold upd
      cases e : Nat.beq k q
      · exact ih hm.2 k
      · have := Nat.eq_of_beq_eq_true e
        subst this
        have h := hf k
        rw [hm.1] at h
        exact h
  exact this chg h2

/-- what a round hands on -/
structure Hand {ι : Type} (ks : List Nat) (σ : Fr) (chg : ι → List (Nat × SV)) (LL : ι → Hpl) (J : ι → Prop) (μ : ι → Nat) (i : ι) (s' : St) : Prop where
  h : ∃ j, J j ∧ μ j < μ i ∧ KeepL s'.σ σ ks ∧ MatchL s'.σ (chg j) ∧ HLe s'.L (LL j)
def Qloop {ι : Type} (ks : List Nat) (σ : Fr) (chg : ι → List (Nat × SV)) (LL : ι → Hpl) (J : ι → Prop) (μ : ι → Nat) (i : ι) (Q : Exit → St → Prop) : Exit → St → Prop
  | .normal, s' => Hand ks σ chg LL J μ i s'
  | e, s' => Q e s'
theorem KeepL.rfl (σ : Fr) : ∀ ks, KeepL σ σ ks
  | [] => trivial
  | k :: ks => ⟨Eq.refl _, KeepL.rfl σ ks⟩
theorem HT.loopK {P : Program} {n : Nat} {c : Code} {Q : Exit → St → Prop} {s : St} {ι : Type} (ks : List Nat) (chg : ι → List (Nat × SV)) (LL : ι → Hpl) (nx' : Nat) (J : ι → Prop) (μ : ι → Nat) (i0 : ι) (hJ : J i0) (h0 : MatchL s.σ (chg i0)) (h0' : HLe s.L (LL i0))
    (h : ∀ i, J i → HT P n c (Qloop ks s.σ chg LL J μ i Q) ⟨updL (keepF ks s.σ) (chg i), LL i, nx'⟩) : HT P n (.loop c) Q s :=
  HT.loop (ι := {i : ι // J i}) (fun i => ⟨updL (keepF ks s.σ) (chg i.1), LL i.1, nx'⟩) (fun i => μ i.1) ⟨i0, hJ⟩ (SLe.mk (KeepL.rfl _ _) h0 h0') fun ⟨i, hi⟩ => (h i hi).mono fun e s' hq => by
    cases e
    case normal =>
      obtain ⟨⟨j, hj, hμ, h1, h2, h3⟩⟩ := hq
      exact ⟨⟨j, hj⟩, SLe.mk h1 h2 h3, hμ⟩
    all_goals exact hq

theorem sv_b {a b : Bool} (h : a = b) : SV.val (.bool a) = SV.val (.bool b) := by rw [h]
theorem sv_i {a b : Int} (h : a = b) : SV.val (.int .i64 a) = SV.val (.int .i64 b) := by rw [h]
end Go.Proofs.YtcagfmbboliohaaDoor
/-! YtcagfmbboliohaaDoorSxK -/
set_option linter.all false

namespace Go.Proofs.YtcagfmbboliohaaDoor
open Go.RowKit

theorem row_sl {w : World} {F F' : Nat → Prop} {v : Value} {e : TypeId} {sz n : Nat} {f : Nat → Nat → SV} (h : (Hp.row v e sz n f).holds w F) (hF : ∀ b, F b → F' b) (hv : ∀ b, v.ownBlock = some b → F' b) : Has w F' (.sl sz n f) v := by
  obtain ⟨xs, ho, hc⟩ := h
  rcases ho.2 with ⟨rfl, rfl⟩ | ⟨g, cap, cur, rfl, _, hg, hnc, hcm, _⟩
  · exact ⟨none, 0, rfl, Nat.le_refl _, Nat.zero_le _, fun h => absurd h (by omega)⟩
  · refine ⟨_, cap, rfl, hnc, hcm, fun hp => ⟨g, 0, rfl, hv g rfl, fun i k hi hk => ?_⟩⟩
    have hcell := row_cells (w := w) (F := F) (g := g) ⟨xs, ho, hc⟩ rfl hi k hk
    obtain ⟨u, h1, h2, h3⟩ := hcell
    exact ⟨u, by rw [Nat.zero_add]; exact h1, h2, h3.mono hF⟩
theorem row_all {w : World} {F : Nat → Prop} {H : List Hp} {v : Value} {e : TypeId} {sz n : Nat} {f : Nat → Nat → SV} (hs : HSat w F H) (h : Hp.row v e sz n f ∈ H) : Has w (fun b => b < w.heap.size) (.sl sz n f) v :=
  row_sl (hs.holds _ h) hs.lt fun b hb => (hs.fp _ h b hb).1

/-! ### freezing -/
theorem HSat.freeze {w : World} {F : Nat → Prop} {h : Hp} {l : List Hp} (hs : HSat w F (h :: l)) : HSat w (fun b => F b ∨ h.fp b) l := by
  have hap := List.pairwise_cons.1 hs.apart
  refine ⟨fun x hx => Hp.mono (fun b => .inl) (hs.holds x (List.mem_cons_of_mem _ hx)), fun x hx b hb => ?_, hap.2, fun b hb => hb.elim (hs.lt b) fun hb => (hs.fp h List.mem_cons_self b hb).1⟩
  have := hs.fp x (List.mem_cons_of_mem _ hx) b hb
  exact ⟨this.1, fun h1 => h1.elim this.2 fun h1 => hap.1 x hx b h1 hb⟩
theorem Ent.trans {r r' r'' : SV} {H H' H'' : List Hp} (h1 : Ent r H r' H') (h2 : Ent r' H' r'' H'') : Ent r H r'' H'' := fun w F v hs hv => by
  obtain ⟨F1, a1, a2, a3⟩ := h1 w F v hs hv
  obtain ⟨F2, b1, b2, b3⟩ := h2 w F1 v a2 a3
  exact ⟨F2, fun b hb => b1 b (a1 b hb), b2, b3⟩
theorem Ent.perm {r : SV} {H H' : List Hp} (h : H.Perm H') : Ent r H r H' := fun w F v hs hv => ⟨F, fun _ h => h, hs.perm h, hv⟩
/-- the first piece, a row, stands still from here on: what was owned reads -/
theorem Ent.row {r r' : SV} {v : Value} {e : TypeId} {sz n : Nat} {f : Nat → Nat → SV} {H : List Hp} (h : ∀ w F x, Has w F (.sl sz n f) v → Has w F r x → Has w F r' x) : Ent r (.row v e sz n f :: H) r' H := fun w F x hs hx =>
  ⟨_, fun _ => .inl, hs.freeze, h w _ x (row_sl (hs.holds _ List.mem_cons_self) (fun b => .inl) fun b hb => .inr hb) (hx.mono fun b => .inl)⟩
theorem all_lt_succ {p : Nat → Prop} {n : Nat} (h1 : p n) (h2 : ∀ k, k < n → p k) : ∀ k, k < n + 1 → p k := fun k hk => by
  rcases Nat.lt_succ_iff_lt_or_eq.1 hk with h | rfl
  · exact h2 k h
  · exact h1
theorem all_lt_zero {p : Nat → Prop} : ∀ k, k < 0 → p k := fun k hk => absurd hk (by omega)
theorem Has.agg {w : World} {F : Nat → Prop} {n : Nat} {f g : Nat → SV} {x : Value} (h : ∀ k, k < n → ∀ v, Has w F (f k) v → Has w F (g k) v) (hx : Has w F (.agg n f) x) : Has w F (.agg n g) x := by
  obtain ⟨vs, e, hn, hc⟩ := hx
  exact ⟨vs, e, hn, fun k hk => h k hk _ (hc k hk)⟩
theorem Has.tup {w : World} {F : Nat → Prop} {n : Nat} {f g : Nat → SV} {x : Value} (h : ∀ k, k < n → ∀ v, Has w F (f k) v → Has w F (g k) v) (hx : Has w F (.tup n f) x) : Has w F (.tup n g) x := by
  obtain ⟨vs, e, hn, hc⟩ := hx
  exact ⟨vs, e, hn, fun k hk => h k hk _ (hc k hk)⟩

/-! ### contracts of the older form -/
theorem HSat.below {w w' : World} {F : Nat → Prop} {H : List Hp} (hs : HSat w F H) (hb : Below w.heap.size w w') (hd : w.drawn ≤ w'.drawn) : HSat w' F H ∧ Keep F w w' :=
  ⟨hs.same hb.size hb.block, ⟨hb.os, hb.tape, hb.output, hb.size, fun b hF => hb.block b (hs.lt b hF), hd⟩⟩
theorem HasL.all {w : World} {F : Nat → Prop} {H : List Hp} (hs : HSat w F H) : ∀ {ss : List SV} {vs : List Value}, HasL w F ss vs → HasL w (fun b => b < w.heap.size) ss vs
  | [], [], _ => trivial
  | s :: ss, v :: vs, h => ⟨h.1.mono hs.lt, HasL.all hs h.2⟩
  | [], _ :: _, h => h.elim
  | _ :: _, [], h => h.elim
theorem SRet.of_val {P : Program} {f : FuncId} {ss : List SV} {v : Value} (hc : callable P f) (h : ∀ w vs, HasL w (fun b => b < w.heap.size) ss vs → Calls P f vs.toArray w fun e w' => e = .returned v ∧ Below w.heap.size w w' ∧ w.drawn ≤ w'.drawn) : SRet P f ss (· = .val v) :=
  ⟨fun R => ⟨hc, fun w F vs hs hv => (h w vs (hv.all hs)).mono fun e w' ⟨he, hb, hd⟩ => ⟨v, he, .val v, F, _, ⟨rfl, rfl⟩, (hs.below hb hd).2, fun _ h => h, (hs.below hb hd).1, rfl⟩⟩⟩
end Go.Proofs.YtcagfmbboliohaaDoor
/-! YtcagfmbboliohaaDoorRd -/
set_option linter.all false
namespace Go.Proofs.YtcagfmbboliohaaDoor
open Go.RowKit

/-- what pick leaves: a number below n (or 0), the reader one step on, nothing else turned -/
def Picked (n : Int) (B g : Nat) (A : Option Addr) (m c : Nat) (zs : List Int) (p : Int) (w : World) (e : Ending) (w' : World) : Prop :=
  ∃ k : Int, 0 ≤ k ∧ (k < n ∨ k = 0) ∧ e = .returned (.int .i64 k) ∧ Rd w' B g A m c zs (p + 1) ∧ Touch g w w' ∧ w.drawn ≤ w'.drawn

theorem Rd.step {w w' : World} {B g : Nat} {A : Option Addr} {m c : Nat} {zs : List Int} {p p' : Int} (h : Rd w B g A m c zs p) (hp' : 0 ≤ p') (hw : ∀ b, b ≠ g → w'.heap[b]? = w.heap[b]?) (hb : ∀ cs, Box w g 65 cs → Box w' g 65 (cs.setIfInBounds 1 (.int .i64 p'))) : Rd w' B g A m c zs p' := by
  obtain ⟨hbox, hn, hr, hz, hp, hB⟩ := h
  refine ⟨hb _ hbox, hn, ⟨hr.1, fun hn => ?_⟩, hz, hp', hB⟩
  obtain ⟨b, off, e, hbB, hc⟩ := hr.2 hn
  exact ⟨b, off, e, hbB, fun j u hu => (World.cell?_of_block (w := w) (a := ⟨b, off + j, none⟩) (hw b (hB hn _ e))).trans (hc j u hu)⟩

theorem i64_xor_ok (x y : Int) (hx : 0 ≤ x) (hx1 : x < 4611686018427387904) (hy : 0 ≤ y) (hy1 : y < 4611686018427387904) : 0 ≤ bits .xor .i64 x y := by
  obtain ⟨a, rfl⟩ := Int.eq_ofNat_of_zero_le hx
  obtain ⟨b, rfl⟩ := Int.eq_ofNat_of_zero_le hy
  have e1 : (BitVec.ofInt 64 (a : Int)).toNat = a := by
    rw [BitVec.ofInt_natCast, BitVec.toNat_ofNat]; exact Nat.mod_eq_of_lt (by omega)
  have e2 : (BitVec.ofInt 64 (b : Int)).toNat = b := by
    rw [BitVec.ofInt_natCast, BitVec.toNat_ofNat]; exact Nat.mod_eq_of_lt (by omega)
  have hlt : a ^^^ b < 2 ^ 63 := Nat.xor_lt_two_pow (by omega) (by omega)
  show 0 ≤ IntKind.i64.wrap ((BitVec.ofInt 64 (a : Int) ^^^ BitVec.ofInt 64 (b : Int)).toNat : Int)
  rw [BitVec.toNat_xor, e1, e2, IntKind.wrap_i64]
  omega

theorem xor_pick (X n : Int) (hX : 0 ≤ X) (hX1 : X < 4611686018427387904) (hn : 1 ≤ n) :
    0 ≤ (bits .xor .i64 X (wrap64 (X.tdiv 64))).tmod n ∧ (bits .xor .i64 X (wrap64 (X.tdiv 64))).tmod n < n := by
  have e : X.tdiv 64 = X / 64 := Int.tdiv_eq_ediv_of_nonneg hX
  have e2 : wrap64 (X.tdiv 64) = X / 64 := by rw [e]; exact IntWalk.wrap64_in _ ⟨by omega, by omega⟩
  rw [e2]
  have h := i64_xor_ok X (X / 64) hX hX1 (by omega) (by omega)
  rw [Int.tmod_eq_emod_of_nonneg h]
  exact ⟨Int.emod_nonneg _ (by omega), Int.emod_lt_of_pos _ (by omega)⟩

theorem pick_sum (q m : Nat) (z y : Int) (hq : (q : Int) ≤ 1000000000000) (hz0 : 0 ≤ z) (hz1 : z ≤ 255) (hy0 : 0 ≤ y) (hy1 : y ≤ 255) :
    0 ≤ wrap64 (z * 131 + y * 1117 + ↑q * 29 + wrap64 (wrap64 ((q : Int) / (m : Int)) * 53)) ∧ wrap64 (z * 131 + y * 1117 + ↑q * 29 + wrap64 (wrap64 ((q : Int) / (m : Int)) * 53)) < 4611686018427387904 := by
  have h1 : 0 ≤ (q : Int) / (m : Int) := Int.ediv_nonneg (by omega) (by omega)
  have h2 : (q : Int) / (m : Int) ≤ q := Int.ediv_le_self _ (by omega)
  rw [IntWalk.wrap64_in ((q : Int) / (m : Int)) ⟨by omega, by omega⟩]
  generalize (q : Int) / (m : Int) = d at *
  rw [IntWalk.wrap64_in (d * 53) ⟨by omega, by omega⟩, IntWalk.wrap64_in _ ⟨by omega, by omega⟩]
  omega

theorem Rd.setp {w : World} {B g : Nat} {A : Option Addr} {m c : Nat} {zs : List Int} {p p' : Int} (h : Rd w B g A m c zs p) (hp' : 0 ≤ p') : Rd (w.setCell ⟨g, 1, none⟩ (.int .i64 p')) B g A m c zs p' :=
  h.step hp' (fun b hb => Below.heap_setCell w ⟨g, 1, none⟩ _ b hb) fun _ hb => hb.put 1 _
theorem Rd.drewN {w : World} {B g : Nat} {A : Option Addr} {m c : Nat} {zs : List Int} {p : Int} (h : Rd w B g A m c zs p) (k : Nat) : Rd (w.drewN k) B g A m c zs p := by
  obtain ⟨hbox, hn, hr, hz, hp, hB⟩ := h
  exact ⟨hbox.drewN k, hn, hr.drewN k, hz, hp, hB⟩

set_option maxHeartbeats 400000 in
theorem pick_any (w : World) (B g : Nat) (A : Option Addr) (m c : Nat) (zs : List Int) (p n : Int) (hr : Rd w B g A m c zs p) (hp : p ≤ 1000000000000) (hn : n ≤ 1000000000000) :
    Calls Tryd.prog 34 #[.pointer (some ⟨g, 0, none⟩), .int .i64 n] w (Picked n B g A m c zs p w) := by
  have hr0 := hr
  obtain ⟨hbox, hm, hrd, hz, hp0, hBg⟩ := hr
  have HBG := hide hBg
  clear hBg
  obtain ⟨q, rfl⟩ := Int.eq_ofNat_of_zero_le hp0
  have hc0 := hbox.cell 0
  have hc1 := hbox.cell 1
  have hf1 := hbox.frozen 1
  simp at hc0 hc1
  have hlen : zs.length = m := by have := hrd.1; simpa using this
  clear hbox
  have HR := hide (hr0.setp (p' := (q : Int) + 1) (by omega))
  have HT : Touch g w (w.setCell ⟨g, 1, none⟩ (.int .i64 ((q : Int) + 1))) := (Touch.refl w).setCell (.inl rfl) _
  have HTT := hide HT
  clear hr0 HT
  by_cases h1 : n < 1
  · have Hl := hide hlen
    clear hlen hrd hz
    go_enter Tryd.func34, Tryd.ntmps34
    go_wp2
    go_ret
    exact ⟨0, by omega, .inr rfl, rfl, HR.out, HTT.out, Nat.le_refl _⟩
  · by_cases hm0 : m = 0
    · have Hl := hide hlen
      clear hlen hrd hz
      have hm1 : ((m : Int) == 0) = true := by simp; omega
      clear hm0
      go_enter Tryd.func34, Tryd.ntmps34
      go_wp2
      go_ret
      exact ⟨0, by omega, .inr rfl, rfl, HR.out, HTT.out, Nat.le_refl _⟩
    · obtain ⟨b, off, rfl, hbg, hcs⟩ := hrd.2 (by omega)
      have hne : b ≠ g := HBG.out (by omega) _ rfl
      have hne' : g ≠ b := fun e => hne e.symm
      have hcz : ∀ j, j < m → ∃ z, 0 ≤ z ∧ z ≤ 255 ∧ w.cell? ⟨b, off + j, none⟩ = some (.int .u8 z) := fun j hj => by
        have hj' : zs[j]? = some zs[j] := List.getElem?_eq_getElem (by omega)
        have := hz zs[j] (List.getElem_mem _)
        exact ⟨zs[j], this.1, this.2, hcs j _ (by rw [List.getElem?_map, hj']; rfl)⟩
      have hm1 : ((m : Int) == 0) = false := by simp; omega
      have Hl := hide hlen
      clear hlen hrd hz hcs
      by_cases hpm : q < m
      · obtain ⟨z, hz0, hz1, hz⟩ := hcz q hpm
        clear hcz
        go_enter Tryd.func34, Tryd.ntmps34
        go_wp2
        go_ret
        exact ⟨z % n, Int.emod_nonneg _ (by omega), .inl (Int.emod_lt_of_pos _ (by omega)), rfl, HR.out, HTT.out, Nat.le_refl _⟩
      · obtain ⟨z, hz0, hz1, hz⟩ := hcz (q % m) (Nat.mod_lt _ (by omega))
        obtain ⟨y, hy0, hy1, hy⟩ := hcz ((q * 7 + 3) % m) (Nat.mod_lt _ (by omega))
        clear hcz
        have a1 : 0 ≤ (q : Int) % (m : Int) := by omega
        have a2 : (q : Int) % (m : Int) < m := Int.emod_lt_of_pos _ (by omega)
        have a3 : ((q : Int) % (m : Int)).toNat = q % m := by omega
        have b1 : 0 ≤ ((q : Int) * 7 + 3) % (m : Int) := Int.emod_nonneg _ (by omega)
        have b2 : ((q : Int) * 7 + 3) % (m : Int) < m := Int.emod_lt_of_pos _ (by omega)
        have b3 : (((q : Int) * 7 + 3) % (m : Int)).toNat = (q * 7 + 3) % m := by
          have : ((q : Int) * 7 + 3) % (m : Int) = (((q * 7 + 3) % m : Nat) : Int) := by simp
          omega
        go_enter Tryd.func34, Tryd.ntmps34
        go_wp2
        go_quiet (fail)
        clear a1 a2 a3 b1 b2 b3
        go_wp2
        go_ret
        have hs := pick_sum q m z y hp hz0 hz1 hy0 hy1
        have hx := xor_pick _ n hs.1 hs.2 (by omega)
        exact ⟨_, hx.1, .inl hx.2, rfl, HR.out.drewN nq, HTT.out.drewN nq, Nat.le_add_right _ _⟩

end Go.Proofs.YtcagfmbboliohaaDoor
/-! YtcagfmbboliohaaDoorSxP -/
set_option linter.all false

namespace Go.Proofs.YtcagfmbboliohaaDoor
open Go.RowKit

/-- the reader at block g, at most m steps on -/
def rdH (g : Nat) (m : Int) : Heaplet where
  fp b := b = g
  holds w F := ∃ B A n c zs p, Rd w B g A n c zs p ∧ p ≤ m ∧ (0 < n → ∃ b off, A = some ⟨b, off, none⟩ ∧ F b)
  mono hF h := by
    obtain ⟨B, A, n, c, zs, p, h1, h2, h3⟩ := h
    exact ⟨B, A, n, c, zs, p, h1, h2, fun hn => by obtain ⟨b, off, e, hb⟩ := h3 hn; exact ⟨b, off, e, hF b hb⟩⟩
  stable hk h := by
    obtain ⟨B, A, n, c, zs, p, ⟨q1, q2, q3, q4⟩, h2, h3⟩ := h
    refine ⟨B, A, n, c, zs, p, ⟨(hk g (.inl rfl)).trans q1, q2, ⟨q3.1, fun hn => ?_⟩, q4⟩, h2, h3⟩
    obtain ⟨b, off, e, hb, hc⟩ := q3.2 hn
    obtain ⟨b', off', e', hb'⟩ := h3 hn
    rw [e] at e'
    injection e' with e'
    injection e' with e1 e2
    subst e1
    exact ⟨b, off, e, hb, fun j u hu => (World.cell?_of_block (hk b (.inr hb'))).trans (hc j u hu)⟩

theorem callable_of {P : Program} {f : FuncId} {fn : Func} (hf : P.funcs[f]? = some fn) (hn : (fn.name == "runtime.NumGoroutine") = false) (hb : fn.body.isNone = false) : callable P f := ⟨fn, hf, hn, hb⟩

/-- what pick leaves -/
def PickPost (n : Int) (g : Nat) (m : Int) (r : SV) (N : List Hp) (p' : Hp) : Prop := (∃ k : Int, 0 ≤ k ∧ (k < n ∨ k = 0) ∧ r = .i k) ∧ N = [] ∧ p' = .cust (rdH g (m + 1))

theorem pick_c (g : Nat) (m n : Int) (hm : m ≤ 1000000000000) (hn : n ≤ 1000000000000) : SMut Tryd.prog 34 [.val (.pointer (some ⟨g, 0, none⟩)), .i n] (.cust (rdH g m)) (PickPost n g m) := ⟨fun R => by
  refine ⟨callable_of Tryd.func34 (by kernel_rfl) (by kernel_rfl), fun w F vs hs hv => ?_⟩
  match vs, hv with
  | [v1, v2], ⟨h1, h2, _⟩ =>
    simp only [Has] at h1 h2
    subst h1
    subst h2
    obtain ⟨B, A, k, c, zs, p, hR, hp, hA⟩ := hs.holds _ List.mem_cons_self
    refine (pick_any w B g A k c zs p n hR (by omega) hn).mono ?_
    rintro e w' ⟨q, hq0, hq1, rfl, hR', hT, hdr⟩
    have hb : ∀ b, b < w.heap.size → ¬ (Hp.cust (rdH g m)).fp b → w'.heap[b]? = w.heap[b]? := fun b hb hne => hT.block b hb fun e => hne (by injection e)
    refine ⟨_, rfl, .i q, F, [.cust (rdH g (m + 1)), .cust R], ⟨[], _, rfl, ⟨q, hq0, hq1, rfl⟩, rfl, rfl⟩, ⟨hT.os, hT.tape, hT.output, hT.size, fun b hF => hb b (hs.lt b hF) fun hf => (hs.fp _ List.mem_cons_self b hf).2 hF, hdr⟩, fun _ h => h, ?_, rfl⟩
    refine hs.turn hT.size hb ⟨B, A, k, c, zs, p + 1, hR', by omega, hA⟩ fun b hb' => ?_
    have := (hs.fp _ List.mem_cons_self b hb').1
    exact ⟨Nat.lt_of_lt_of_le this hT.size, .inl hb'⟩⟩

theorem rd_weak {w : World} {F : Nat → Prop} {g : Nat} {m m' : Int} (hm : m ≤ m') (h : (Hp.cust (rdH g m)).holds w F) : (Hp.cust (rdH g m')).holds w F := by
  obtain ⟨B, A, n, c, zs, p, h1, h2, h3⟩ := h
  exact ⟨B, A, n, c, zs, p, h1, by omega, h3⟩
theorem Fin.rd {r : SV} {A : List Hp} {g : Nat} {m1 m2 : Int} {R : Heaplet} {Φ : SV → List Hp → Hp → Prop} (hm : m1 ≤ m2) (h : Φ r [] (.cust (rdH g m2))) :
    Fin r (A ++ [.cust (rdH g m1), .cust R]) (fun r H' => ∃ N p', H' = N ++ [p', .cust R] ∧ Φ r N p') :=
  ⟨⟨r, [.cust (rdH g m2), .cust R], fun w F v hs hv => ⟨F, fun _ h => h, (hs.dropN (A := A)).turn (Nat.le_refl _) (fun _ _ _ => rfl) (rd_weak hm ((hs.dropN (A := A)).holds _ List.mem_cons_self)) fun b hb => ⟨((hs.dropN (A := A)).fp _ List.mem_cons_self b hb).1, .inl hb⟩, hv⟩, [], _, rfl, h⟩⟩
theorem Fin.rdA {n : Nat} {f f' : Nat → SV} {A : List Hp} {g : Nat} {m1 m2 : Int} {R : Heaplet} {Φ : SV → List Hp → Hp → Prop} (hf : ∀ k, k < n → f k = f' k) (hm : m1 ≤ m2) (h : Φ (.agg n f') [] (.cust (rdH g m2))) :
    Fin (.agg n f) (A ++ [.cust (rdH g m1), .cust R]) (fun r H' => ∃ N p', H' = N ++ [p', .cust R] ∧ Φ r N p') := by
  obtain ⟨r', H', he, hK⟩ := (Fin.rd (A := A) (R := R) hm h).h
  exact ⟨⟨r', H', fun w F v hs hv => he w F v hs (hv.agg fun k hk v hv => by rw [← hf k hk]; exact hv), hK⟩⟩
theorem eq2 {f g : Nat → SV} (h0 : f 0 = g 0) (h1 : f 1 = g 1) : ∀ k, k < 2 → f k = g k := all_lt_succ h1 (all_lt_succ h0 all_lt_zero)
theorem eq3 {f g : Nat → SV} (h0 : f 0 = g 0) (h1 : f 1 = g 1) (h2 : f 2 = g 2) : ∀ k, k < 3 → f k = g k := all_lt_succ h2 (eq2 h0 h1)
theorem eq4 {f g : Nat → SV} (h0 : f 0 = g 0) (h1 : f 1 = g 1) (h2 : f 2 = g 2) (h3 : f 3 = g 3) : ∀ k, k < 4 → f k = g k := all_lt_succ h3 (eq3 h0 h1 h2)
/-- a number between lo and hi was drawn, in at most d steps -/
def DrewI (lo hi d : Int) (g : Nat) (m : Int) (r : SV) (N : List Hp) (p' : Hp) : Prop := (∃ k : Int, lo ≤ k ∧ k ≤ hi ∧ r = .i k) ∧ N = [] ∧ p' = .cust (rdH g (m + d))
theorem pick3_c (g : Nat) (m : Int) (hm : m ≤ 1000000000000) : SMut Tryd.prog 34 [.val (.pointer (some ⟨g, 0, none⟩)), .i 3] (.cust (rdH g m)) fun r N p' => (r = .i 0 ∨ r = .i 1 ∨ r = .i 2) ∧ N = [] ∧ p' = .cust (rdH g (m + 1)) :=
  ⟨fun R => ((pick_c g m 3 hm (by omega)).h R).mono fun r H' ⟨N, p', e, ⟨k, h0, h1, hr⟩, hN, hp⟩ => ⟨N, p', e, by
    rcases (by omega : k = 0 ∨ k = 1 ∨ k = 2) with rfl | rfl | rfl
    · exact .inl hr
    · exact .inr (.inl hr)
    · exact .inr (.inr hr), hN, hp⟩⟩
theorem pick4_c (g : Nat) (m : Int) (hm : m ≤ 1000000000000) : SMut Tryd.prog 34 [.val (.pointer (some ⟨g, 0, none⟩)), .i 4] (.cust (rdH g m)) fun r N p' => (r = .i 0 ∨ r = .i 1 ∨ r = .i 2 ∨ r = .i 3) ∧ N = [] ∧ p' = .cust (rdH g (m + 1)) :=
  ⟨fun R => ((pick_c g m 4 hm (by omega)).h R).mono fun r H' ⟨N, p', e, ⟨k, h0, h1, hr⟩, hN, hp⟩ => ⟨N, p', e, by
    rcases (by omega : k = 0 ∨ k = 1 ∨ k = 2 ∨ k = 3) with rfl | rfl | rfl | rfl
    · exact .inl hr
    · exact .inr (.inl hr)
    · exact .inr (.inr (.inl hr))
    · exact .inr (.inr (.inr hr)), hN, hp⟩⟩
def u8F (z : Int) : Nat → SV := fun _ => .val (.int .u8 z)
end Go.Proofs.YtcagfmbboliohaaDoor
/-! YtcagfmbboliohaaDoorLeaf -/
set_option linter.all false
namespace Go.Proofs.YtcagfmbboliohaaDoor
open Go.RowKit

/-- n lies between lo and hi -/
def inB (n lo hi : Int) : Bool := decide (lo ≤ n) && decide (n ≤ hi)
theorem inB_true {n lo hi : Int} : inB n lo hi = true ↔ lo ≤ n ∧ n ≤ hi := by simp [inB]
theorem inB_false {n lo hi : Int} : inB n lo hi = false ↔ n < lo ∨ hi < n := by
  rw [← Bool.not_eq_true, inB_true]; omega

set_option maxHeartbeats 400000 in
theorem l6In_any (n lo hi : Int) (w : World) :
    Calls Tryd.prog 39 #[.int .i64 n, .int .i64 lo, .int .i64 hi] w fun e w' => e = .returned (.bool (inB n lo hi)) ∧ w = w' := by
  go_enter Tryd.func39, Tryd.ntmps39
  go_wp2
  all_goals
    go_ret
    refine ⟨?_, rfl⟩
    unfold inB
    simp_all <;> omega

set_option maxHeartbeats 400000 in
theorem isAccount_any (n : Int) (w : World) :
    Calls Tryd.prog 40 #[.int .i64 n] w fun e w' => e = .returned (.bool (inB n 0 5)) ∧ w = w' := by
  go_enter Tryd.func40, Tryd.ntmps40
  go_wp2
  all_goals
    go_ret
    refine ⟨?_, rfl⟩
    unfold inB
    simp_all <;> omega

end Go.Proofs.YtcagfmbboliohaaDoor
/-! YtcagfmbboliohaaDoorLf -/
set_option linter.all false
namespace Go.Proofs.YtcagfmbboliohaaDoor
open Go.RowKit

theorem isAccount_c (n : Int) : SRet Tryd.prog 40 [.i n] (· = .b (inB n 0 5)) := ⟨fun R => by
  refine SCalls.enter tt_ok Tryd.func40 (by kernel_rfl) rfl [(900, .cust R)] rfl (argF _) (fun w F v k h => h) (by simp) ?_
  repeat' (first | (with_reducible first | refine HT.seq ?_ | refine HT.block ?_ | refine Br.not ?_) | ((with_reducible first | refine HT.region tt_ok ?_ | refine HT.drawn tt_ok (by kernel_rfl) (by decide +kernel) ?_ | refine HT.drawnL tt_ok (by kernel_rfl) (by decide +kernel) ?_ | refine HT.cond ?_ | refine HT.ret ?_ | refine HT.skip ?_ | refine HT.exit ?_ | refine Br.tt ?_ | refine Br.ff ?_); conv => whnf) | ((with_reducible first | refine Br.dec (fun hc => ?_) (fun hc => ?_) | refine Br.eq (fun hc => ?_) (fun hc => ?_) | refine Br.ne (fun hc => ?_) (fun hc => ?_)) <;> (first | (exfalso; omega) | conv => whnf)) | ((with_reducible first | refine Br.ttE (by decide) ?_ | refine Br.ffE (by decide) ?_ | refine Br.mk (fun hc => ?_) (fun hc => ?_) | refine Chk.mk (by first | omega | with_reducible rfl | (refine ⟨rfl, ?_⟩; omega) | decide | exact ⟨rfl, by omega, by omega, rfl⟩ | exact ⟨by assumption, rfl, by omega, by omega⟩) ?_ | refine Ar.fit (by omega) ?_ | refine Eqv.shr1 ?_ | refine Ar.u64 (by omega) ?_) <;> conv => whnf) | (with_reducible exact trivial) | ((with_reducible refine And.intro ?_ ?_) <;> conv => whnf) | (intro gn; conv => whnf))
  all_goals refine Fin.pure (A := []) (sv_b ?_)
  all_goals (rw [Bool.eq_iff_iff]; simp only [inB, Bool.and_eq_true, decide_eq_true_eq, Bool.false_eq_true, false_iff]; omega)⟩
theorem l6In_c (n lo hi : Int) : SRet Tryd.prog 39 [.i n, .i lo, .i hi] (· = .b (inB n lo hi)) := ⟨fun R => by
  refine SCalls.enter tt_ok Tryd.func39 (by kernel_rfl) rfl [(900, .cust R)] rfl (argF _) (fun w F v k h => h) (by simp) ?_
  repeat' (first | (with_reducible first | refine HT.seq ?_ | refine HT.block ?_ | refine Br.not ?_) | ((with_reducible first | refine HT.region tt_ok ?_ | refine HT.drawn tt_ok (by kernel_rfl) (by decide +kernel) ?_ | refine HT.drawnL tt_ok (by kernel_rfl) (by decide +kernel) ?_ | refine HT.cond ?_ | refine HT.ret ?_ | refine HT.skip ?_ | refine HT.exit ?_ | refine Br.tt ?_ | refine Br.ff ?_); conv => whnf) | ((with_reducible first | refine Br.dec (fun hc => ?_) (fun hc => ?_) | refine Br.eq (fun hc => ?_) (fun hc => ?_) | refine Br.ne (fun hc => ?_) (fun hc => ?_)) <;> (first | (exfalso; omega) | conv => whnf)) | ((with_reducible first | refine Br.ttE (by decide) ?_ | refine Br.ffE (by decide) ?_ | refine Br.mk (fun hc => ?_) (fun hc => ?_) | refine Chk.mk (by first | omega | with_reducible rfl | (refine ⟨rfl, ?_⟩; omega) | decide | exact ⟨rfl, by omega, by omega, rfl⟩ | exact ⟨by assumption, rfl, by omega, by omega⟩) ?_ | refine Ar.fit (by omega) ?_ | refine Eqv.shr1 ?_ | refine Ar.u64 (by omega) ?_) <;> conv => whnf) | (with_reducible exact trivial) | ((with_reducible refine And.intro ?_ ?_) <;> conv => whnf) | (intro gn; conv => whnf))
  all_goals refine Fin.pure (A := []) (sv_b ?_)
  all_goals (rw [Bool.eq_iff_iff]; simp only [inB, Bool.and_eq_true, decide_eq_true_eq, Bool.false_eq_true, false_iff]; omega)⟩

/-! ### small laws -/
theorem dall_true {n : Nat} {p : Nat → Prop} [DecidablePred p] (h : ∀ j, j < n → p j) : decide (∀ j, j < n → p j) = true := decide_eq_true h
theorem dall_false {n k : Nat} {p : Nat → Prop} [DecidablePred p] (hk : k < n) (hp : ¬ p k) : decide (∀ j, j < n → p j) = false := decide_eq_false fun h => hp (h k hk)
theorem Fin.pureS {r : SV} {H : List Hp} {R : Heaplet} {Φ : SV → Prop} (hs : List.Sublist [.cust R] H) (h : Φ r) : Fin r H (fun r H' => H' = [.cust R] ∧ Φ r) :=
  ⟨⟨r, [.cust R], fun w F v hw hv => ⟨F, fun _ h => h, ⟨fun p hp => hw.holds p (hs.subset hp), fun p hp => hw.fp p (hs.subset hp), hw.apart.sublist hs, hw.lt⟩, hv⟩, rfl, h⟩⟩
theorem SRet.bt {P : Program} {f : FuncId} {ss : List SV} {β : Bool} (h : SRet P f ss (· = .b β)) (hb : β = true) : SRet P f ss (· = .b true) := hb ▸ h
theorem SRet.bf {P : Program} {f : FuncId} {ss : List SV} {β : Bool} (h : SRet P f ss (· = .b β)) (hb : β = false) : SRet P f ss (· = .b false) := hb ▸ h
theorem SRet.imp {P : Program} {f : FuncId} {ss : List SV} {Φ Ψ : SV → Prop} (h : SRet P f ss Φ) (hi : ∀ r, Φ r → Ψ r) : SRet P f ss Ψ := ⟨fun R => (h.h R).mono fun r H' ⟨e, hΦ⟩ => ⟨e, hi r hΦ⟩⟩
end Go.Proofs.YtcagfmbboliohaaDoor
