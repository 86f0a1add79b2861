/- The library's sort of votes, off the kit's shelf. -/
import Derived.Shelf.SlSortCmp.NoneTotal
import Derived.Test.YtbcmpfhemangpaaVoA
import Derived.Test.YtbcmpfhemangpaaTl
set_option linter.all false
namespace Go.Proofs.Ytbcmpfhemangpaa
open Go.RowKit Go.Shelf Go.Sort

def rnV : Ren :=
  { f := fun x => match x with
      | 6 => 94
      | 14 => 104
      | 15 => 105
      | 20 => 108
      | 21 => 109
      | 22 => 110
      | 23 => 111
      | 24 => 112
      | 25 => 113
      | 26 => 114
      | 27 => 115
      | 28 => 116
      | 29 => 117
      | 46 => 119
      | 47 => 120
      | 48 => 121
      | 49 => 122
      | 50 => 123
      | 57 => 124
      | n => n
    t := fun x => match x with
      | 0 => 0
      | 3 => 3
      | 4 => 4
      | 5 => 5
      | 9 => 9
      | 22 => 36
      | 24 => 25
      | 25 => 88
      | 39 => 103
      | 45 => 110
      | 46 => 111
      | 50 => 82
      | 53 => 117
      | 55 => 119
      | 66 => 121
      | 70 => 125
      | 76 => 127
      | 77 => 128
      | n => n
    g := fun n => n }
set_option maxRecDepth 100000 in
theorem laysV : SlLaysF0.n6 Try.prog rnV where
  mixed := rfl
  f6 := ⟨_, by kernel_rfl, Try.func94.trans (congrArg some rfl)⟩
  f14 := ⟨_, by kernel_rfl, Try.func104.trans (congrArg some rfl)⟩
  f15 := Try.func105.trans (congrArg some rfl)
  f20 := ⟨_, by kernel_rfl, Try.func108.trans (congrArg some rfl)⟩
  f21 := ⟨_, by kernel_rfl, Try.func109.trans (congrArg some rfl)⟩
  f22 := ⟨_, by kernel_rfl, Try.func110.trans (congrArg some rfl)⟩
  f23 := ⟨_, by kernel_rfl, Try.func111.trans (congrArg some rfl)⟩
  f24 := ⟨_, by kernel_rfl, Try.func112.trans (congrArg some rfl)⟩
  f25 := ⟨_, by kernel_rfl, Try.func113.trans (congrArg some rfl)⟩
  f26 := ⟨_, by kernel_rfl, Try.func114.trans (congrArg some rfl)⟩
  f27 := ⟨_, by kernel_rfl, Try.func115.trans (congrArg some rfl)⟩
  f28 := Try.func116.trans (congrArg some rfl)
  f29 := Try.func117.trans (congrArg some rfl)
  f46 := ⟨_, by kernel_rfl, Try.func119.trans (congrArg some rfl)⟩
  f47 := Try.func120.trans (congrArg some rfl)
  f48 := Try.func121.trans (congrArg some rfl)
  f49 := ⟨_, by kernel_rfl, Try.func122.trans (congrArg some rfl)⟩
  f50 := ⟨_, by kernel_rfl, Try.func123.trans (congrArg some rfl)⟩
  f57 := ⟨_, by kernel_rfl, Try.func124.trans (congrArg some rfl)⟩
  t0 := Try.underlying0
  a0 := Try.isAgg0
  z0 := Try.sizeOf0
  v0 := Try.zeroValue0
  t3 := Try.underlying3
  a3 := Try.isAgg3
  z3 := Try.sizeOf3
  v3 := Try.zeroValue3
  t4 := Try.underlying4
  a4 := Try.isAgg4
  z4 := Try.sizeOf4
  v4 := Try.zeroValue4
  t5 := Try.underlying5
  a5 := Try.isAgg5
  z5 := Try.sizeOf5
  v5 := Try.zeroValue5
  t9 := Try.underlying9
  a9 := Try.isAgg9
  z9 := Try.sizeOf9
  v9 := Try.zeroValue9
  t22 := Try.underlying36
  a22 := Try.isAgg36
  z22 := Try.sizeOf36
  v22 := Try.zeroValue36
  t25 := Try.underlying88
  a25 := Try.isAgg88
  z25 := Try.sizeOf88
  v25 := Try.zeroValue88
  t39 := Try.underlying103
  a39 := Try.isAgg103
  z39 := Try.sizeOf103
  v39 := Try.zeroValue103
  t45 := Try.underlying110
  a45 := Try.isAgg110
  z45 := Try.sizeOf110
  v45 := Try.zeroValue110
  t46 := Try.underlying111
  a46 := Try.isAgg111
  z46 := Try.sizeOf111
  v46 := Try.zeroValue111
  t50 := Try.underlying82
  a50 := Try.isAgg82
  z50 := Try.sizeOf82
  v50 := Try.zeroValue82
  t53 := Try.underlying117
  a53 := Try.isAgg117
  z53 := Try.sizeOf117
  v53 := Try.zeroValue117
  t55 := Try.underlying119
  a55 := Try.isAgg119
  z55 := Try.sizeOf119
  v55 := Try.zeroValue119
  t66 := Try.underlying121
  a66 := Try.isAgg121
  z66 := Try.sizeOf121
  v66 := Try.zeroValue121
  t70 := Try.underlying125
  a70 := Try.isAgg125
  z70 := Try.sizeOf125
  v70 := Try.zeroValue125
  t76 := Try.underlying127
  a76 := Try.isAgg127
  z76 := Try.sizeOf127
  v76 := Try.zeroValue127
  t77 := Try.underlying128
  a77 := Try.isAgg128
  z77 := Try.sizeOf128
  v77 := Try.zeroValue128
theorem grow_of_keep {w w' : World} (h : Keep (fun b => b < w.heap.size) w w') : ∃ q os', w' = grow (w.drewN q) os' := by
  refine ⟨w'.drawn - w.drawn, w'.heap.extract w.heap.size w'.heap.size, ?_⟩
  have h1 : w.heap ++ w'.heap.extract w.heap.size w'.heap.size = w'.heap := by
    have hs := h.size
    apply Array.ext_getElem?
    intro i
    rw [Array.getElem?_append]
    split
    · rename_i hi; exact (h.blk i hi).symm
    · rename_i hi
      rw [Array.getElem?_extract]
      split
      · congr 1; omega
      · rw [Array.getElem?_eq_none (by omega)]
  obtain ⟨a1, a2, a3, a4, a5⟩ := w
  obtain ⟨b1, b2, b3, b4, b5⟩ := w'
  have e1 := h.os
  have e2 := h.tape
  have e3 := h.output
  have e4 := h.drawn
  simp only at e1 e2 e3 e4 h1
  subst e1 e2 e3
  unfold grow World.drewN
  simp only [h1]
  congr 1
  omega
abbrev encV (v : Vo) : List Value := [.int .i64 v.r, .int .i64 v.a, .int .i64 v.d]
theorem cmpLV (blk off size : Nat) (w : World) : CmpLays Try.prog 67 #[] encV 3 cmpV blk off size w := fun m os dk _ x y => by
  generalize sortWorldK encV 3 w blk off m dk os = W
  let R0 : Heaplet := ⟨fun _ => False, fun _ _ => True, fun _ _ => trivial, fun _ _ => trivial⟩
  have hs0 : HSat W (fun b => b < W.heap.size) [.cust R0] := ⟨fun x hx => by rw [List.mem_singleton.1 hx]; trivial, fun x hx b hb => by rw [List.mem_singleton.1 hx] at hb; exact hb.elim, by simp, fun b hb => hb⟩
  have hv : ∀ v : Vo, Has W (fun b => b < W.heap.size) (vtV v) (.agg (encV v).toArray) := fun v => ⟨_, rfl, rfl, fun j hj => by
    rcases (by omega : j = 0 ∨ j = 1 ∨ j = 2) with rfl | rfl | rfl <;> rfl⟩
  refine (((cmpVo_c x y).h R0).2 W _ [.agg (encV x).toArray, .agg (encV y).toArray] hs0 ⟨hv x, hv y, trivial⟩).mono ?_
  rintro e w' ⟨v, rfl, r, F', H', ⟨rfl, rfl⟩, hk, hF, hs', hr⟩
  have hr : v = .int .i64 (cmpV x y) := hr
  subst hr
  exact ⟨rfl, grow_of_keep hk⟩
theorem ltV (x y : Vo) : ltOf cmpV x y = bfo x y := by
  unfold ltOf
  rw [Bool.eq_iff_iff, decide_eq_true_eq]
  exact cmpV_neg
theorem swoV : SWO (ltOf cmpV) where
  irrefl x := by rw [ltV]; exact bfo_irr
  trans x y z h1 h2 := by rw [ltV] at *; exact bfo_trans h1 h2
  ntrans x y z h1 h2 := by rw [ltV] at *; rw [bfo_false] at *; omega
end Go.Proofs.Ytbcmpfhemangpaa
