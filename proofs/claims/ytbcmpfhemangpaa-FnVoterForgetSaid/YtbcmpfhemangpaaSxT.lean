/- The type table of this dump; the tactics' small laws. -/
import Derived.Test.YtbcmpfhemangpaaSxJ
set_option linter.all false

namespace Go.Proofs.Ytbcmpfhemangpaa

theorem fl_ok {P : Program} {fl : List (Nat × Nat)} (h : (fl.all fun p => match P.info? p.2 with | some i => Nat.blt 0 i.size | none => false) = true) : ∀ p ∈ fl, ∃ i, P.info? p.2 = some i ∧ 0 < i.size := fun p hp => by
  have := List.all_eq_true.1 h p hp
  split at this
  · rename_i i hi
    exact ⟨i, hi, Nat.le_of_ble_eq_true this⟩
  · cases this
theorem flq_ok {P : Program} {fs : Array Field} (h : (fs.toList.all fun f => (f.name != "_") && match P.underlying f.type with | some (.int .i64) => true | _ => false) = true) : ∀ f ∈ fs.toList, f.name ≠ "_" ∧ P.underlying f.type = some (.int .i64) := fun f hf => by
  have := List.all_eq_true.1 h f hf
  rw [Bool.and_eq_true] at this
  refine ⟨by simpa using this.1, ?_⟩
  have h2 := this.2
  split at h2
  · assumption
  · cases h2
theorem zs_ok {zs : List Value} (h : zs.all Value.oneCell' = true) : ∀ z ∈ zs, z.oneCell' = true := List.all_eq_true.1 h

def tt : List (Nat × TI) := [
  (2, .sc (.int IntKind.i64) (Value.int IntKind.i64 0)),
  (3, .sc (.int IntKind.i64) (Value.int IntKind.i64 0)),
  (4, .sc (.bool) (Value.bool false)),
  (5, .sc (.int IntKind.u8) (Value.int IntKind.u8 0)),
  (9, .sc (.string) (Value.string { data := #[] })),
  (12, .sc (.int IntKind.u64) (Value.int IntKind.u64 0)),
  (13, .st 2 [(0, 9), (1, 12)] [Value.string { data := #[] }, Value.int IntKind.u64 0] false),
  (20, .sc (.interface #[]) (Value.nilIface)),
  (21, .sc (.int IntKind.i32) (Value.int IntKind.i32 0)),
  (22, .slc 5 1 1 [Value.int IntKind.u8 0]),
  (23, .slc 3 1 8 [Value.int IntKind.i64 0]),
  (24, .st 3 [(0, 3), (1, 3), (2, 3)] [Value.int IntKind.i64 0, Value.int IntKind.i64 0, Value.int IntKind.i64 0] true),
  (25, .st 3 [(0, 3), (1, 3), (2, 3)] [Value.int IntKind.i64 0, Value.int IntKind.i64 0, Value.int IntKind.i64 0] true),
  (26, .st 4 [(0, 25), (3, 23)] [Value.int IntKind.i64 0, Value.int IntKind.i64 0, Value.int IntKind.i64 0, Value.slice none 0 0] false),
  (27, .st 4 [(0, 25), (3, 23)] [Value.int IntKind.i64 0, Value.int IntKind.i64 0, Value.int IntKind.i64 0, Value.slice none 0 0] false),
  (36, .slc 25 3 24 [Value.int IntKind.i64 0, Value.int IntKind.i64 0, Value.int IntKind.i64 0]),
  (37, .st 2 [(0, 3), (1, 36)] [Value.int IntKind.i64 0, Value.slice none 0 0] false),
  (38, .st 2 [(0, 3), (1, 36)] [Value.int IntKind.i64 0, Value.slice none 0 0] false),
  (47, .st 3 [(0, 3), (1, 3), (2, 3)] [Value.int IntKind.i64 0, Value.int IntKind.i64 0, Value.int IntKind.i64 0] true),
  (48, .st 4 [(0, 47), (3, 23)] [Value.int IntKind.i64 0, Value.int IntKind.i64 0, Value.int IntKind.i64 0, Value.slice none 0 0] false),
  (49, .st 4 [(0, 47), (3, 23)] [Value.int IntKind.i64 0, Value.int IntKind.i64 0, Value.int IntKind.i64 0, Value.slice none 0 0] false),
  (66, .sc (.pointer 96) (Value.pointer none)),
  (73, .slc 3 1 8 [Value.int IntKind.i64 0]),
  (83, .st 2 [(0, 3), (1, 3)] [Value.int IntKind.i64 0, Value.int IntKind.i64 0] true),
  (84, .st 2 [(0, 3), (1, 3)] [Value.int IntKind.i64 0, Value.int IntKind.i64 0] true),
  (95, .st 2 [(0, 22), (1, 3)] [Value.slice none 0 0, Value.int IntKind.i64 0] false),
  (96, .st 2 [(0, 22), (1, 3)] [Value.slice none 0 0, Value.int IntKind.i64 0] false),
  (103, .sc (.int IntKind.u64) (Value.int IntKind.u64 0)),
  (110, .sc (.int IntKind.i64) (Value.int IntKind.i64 0)),
  (117, .sc (.int IntKind.u32) (Value.int IntKind.u32 0)),
  (119, .sc (.int IntKind.u64) (Value.int IntKind.u64 0)),
  (121, .sc (.int IntKind.u64) (Value.int IntKind.u64 0)),
  (125, .sc (.pointer 3) (Value.pointer none)),
  (127, .sc (.pointer 121) (Value.pointer none)),
  (139, .sc (.pointer 5) (Value.pointer none))
]
theorem ti2 : TIok Try.prog 2 (.sc (.int IntKind.i64) (Value.int IntKind.i64 0)) :=
  ⟨Try.t2, Try.underlying2, rfl, (by kernel_rfl : Try.prog.info? 2 = some Try.t2), rfl, rfl, rfl⟩
theorem ti3 : TIok Try.prog 3 (.sc (.int IntKind.i64) (Value.int IntKind.i64 0)) :=
  ⟨Try.t3, Try.underlying3, rfl, (by kernel_rfl : Try.prog.info? 3 = some Try.t3), rfl, rfl, rfl⟩
theorem ti4 : TIok Try.prog 4 (.sc (.bool) (Value.bool false)) :=
  ⟨Try.t4, Try.underlying4, rfl, (by kernel_rfl : Try.prog.info? 4 = some Try.t4), rfl, rfl, rfl⟩
theorem ti5 : TIok Try.prog 5 (.sc (.int IntKind.u8) (Value.int IntKind.u8 0)) :=
  ⟨Try.t5, Try.underlying5, rfl, (by kernel_rfl : Try.prog.info? 5 = some Try.t5), rfl, rfl, rfl⟩
theorem ti9 : TIok Try.prog 9 (.sc (.string) (Value.string { data := #[] })) :=
  ⟨Try.t9, Try.underlying9, rfl, (by kernel_rfl : Try.prog.info? 9 = some Try.t9), rfl, rfl, rfl⟩
theorem ti12 : TIok Try.prog 12 (.sc (.int IntKind.u64) (Value.int IntKind.u64 0)) :=
  ⟨Try.t12, Try.underlying12, rfl, (by kernel_rfl : Try.prog.info? 12 = some Try.t12), rfl, rfl, rfl⟩
theorem ti13 : TIok Try.prog 13 (.st 2 [(0, 9), (1, 12)] [Value.string { data := #[] }, Value.int IntKind.u64 0] false) :=
  ⟨rfl, _, Try.t13, Try.underlying13, (by kernel_rfl : Try.prog.info? 13 = some Try.t13), rfl, rfl, rfl, fl_ok (by kernel_rfl), zs_ok (by kernel_rfl), (fun h => by cases h)⟩
theorem ti20 : TIok Try.prog 20 (.sc (.interface #[]) (Value.nilIface)) :=
  ⟨Try.t20, Try.underlying20, rfl, (by kernel_rfl : Try.prog.info? 20 = some Try.t20), rfl, rfl, rfl⟩
theorem ti21 : TIok Try.prog 21 (.sc (.int IntKind.i32) (Value.int IntKind.i32 0)) :=
  ⟨Try.t21, Try.underlying21, rfl, (by kernel_rfl : Try.prog.info? 21 = some Try.t21), rfl, rfl, rfl⟩
theorem ti22 : TIok Try.prog 22 (.slc 5 1 1 [Value.int IntKind.u8 0]) :=
  ⟨Try.t5, Try.t22, _, Try.underlying22, (by kernel_rfl : Try.prog.info? 5 = some Try.t5), rfl, rfl, rfl, rfl, rfl, by decide, by decide, zs_ok (by kernel_rfl), (by kernel_rfl : Try.prog.info? 22 = some Try.t22), rfl, rfl⟩
theorem ti23 : TIok Try.prog 23 (.slc 3 1 8 [Value.int IntKind.i64 0]) :=
  ⟨Try.t3, Try.t23, _, Try.underlying23, (by kernel_rfl : Try.prog.info? 3 = some Try.t3), rfl, rfl, rfl, rfl, rfl, by decide, by decide, zs_ok (by kernel_rfl), (by kernel_rfl : Try.prog.info? 23 = some Try.t23), rfl, rfl⟩
theorem ti24 : TIok Try.prog 24 (.st 3 [(0, 3), (1, 3), (2, 3)] [Value.int IntKind.i64 0, Value.int IntKind.i64 0, Value.int IntKind.i64 0] true) :=
  ⟨rfl, _, Try.t24, Try.underlying24, (by kernel_rfl : Try.prog.info? 24 = some Try.t24), rfl, rfl, rfl, fl_ok (by kernel_rfl), zs_ok (by kernel_rfl), fun _ => ⟨by kernel_rfl, by kernel_rfl, by kernel_rfl, flq_ok (by kernel_rfl)⟩⟩
theorem ti25 : TIok Try.prog 25 (.st 3 [(0, 3), (1, 3), (2, 3)] [Value.int IntKind.i64 0, Value.int IntKind.i64 0, Value.int IntKind.i64 0] true) :=
  ⟨rfl, _, Try.t25, Try.underlying25, (by kernel_rfl : Try.prog.info? 25 = some Try.t25), rfl, rfl, rfl, fl_ok (by kernel_rfl), zs_ok (by kernel_rfl), fun _ => ⟨by kernel_rfl, by kernel_rfl, by kernel_rfl, flq_ok (by kernel_rfl)⟩⟩
theorem ti26 : TIok Try.prog 26 (.st 4 [(0, 25), (3, 23)] [Value.int IntKind.i64 0, Value.int IntKind.i64 0, Value.int IntKind.i64 0, Value.slice none 0 0] false) :=
  ⟨rfl, _, Try.t26, Try.underlying26, (by kernel_rfl : Try.prog.info? 26 = some Try.t26), rfl, rfl, rfl, fl_ok (by kernel_rfl), zs_ok (by kernel_rfl), (fun h => by cases h)⟩
theorem ti27 : TIok Try.prog 27 (.st 4 [(0, 25), (3, 23)] [Value.int IntKind.i64 0, Value.int IntKind.i64 0, Value.int IntKind.i64 0, Value.slice none 0 0] false) :=
  ⟨rfl, _, Try.t27, Try.underlying27, (by kernel_rfl : Try.prog.info? 27 = some Try.t27), rfl, rfl, rfl, fl_ok (by kernel_rfl), zs_ok (by kernel_rfl), (fun h => by cases h)⟩
theorem ti36 : TIok Try.prog 36 (.slc 25 3 24 [Value.int IntKind.i64 0, Value.int IntKind.i64 0, Value.int IntKind.i64 0]) :=
  ⟨Try.t25, Try.t36, _, Try.underlying36, (by kernel_rfl : Try.prog.info? 25 = some Try.t25), rfl, rfl, rfl, rfl, rfl, by decide, by decide, zs_ok (by kernel_rfl), (by kernel_rfl : Try.prog.info? 36 = some Try.t36), rfl, rfl⟩
theorem ti37 : TIok Try.prog 37 (.st 2 [(0, 3), (1, 36)] [Value.int IntKind.i64 0, Value.slice none 0 0] false) :=
  ⟨rfl, _, Try.t37, Try.underlying37, (by kernel_rfl : Try.prog.info? 37 = some Try.t37), rfl, rfl, rfl, fl_ok (by kernel_rfl), zs_ok (by kernel_rfl), (fun h => by cases h)⟩
theorem ti38 : TIok Try.prog 38 (.st 2 [(0, 3), (1, 36)] [Value.int IntKind.i64 0, Value.slice none 0 0] false) :=
  ⟨rfl, _, Try.t38, Try.underlying38, (by kernel_rfl : Try.prog.info? 38 = some Try.t38), rfl, rfl, rfl, fl_ok (by kernel_rfl), zs_ok (by kernel_rfl), (fun h => by cases h)⟩
theorem ti47 : TIok Try.prog 47 (.st 3 [(0, 3), (1, 3), (2, 3)] [Value.int IntKind.i64 0, Value.int IntKind.i64 0, Value.int IntKind.i64 0] true) :=
  ⟨rfl, _, Try.t47, Try.underlying47, (by kernel_rfl : Try.prog.info? 47 = some Try.t47), rfl, rfl, rfl, fl_ok (by kernel_rfl), zs_ok (by kernel_rfl), fun _ => ⟨by kernel_rfl, by kernel_rfl, by kernel_rfl, flq_ok (by kernel_rfl)⟩⟩
theorem ti48 : TIok Try.prog 48 (.st 4 [(0, 47), (3, 23)] [Value.int IntKind.i64 0, Value.int IntKind.i64 0, Value.int IntKind.i64 0, Value.slice none 0 0] false) :=
  ⟨rfl, _, Try.t48, Try.underlying48, (by kernel_rfl : Try.prog.info? 48 = some Try.t48), rfl, rfl, rfl, fl_ok (by kernel_rfl), zs_ok (by kernel_rfl), (fun h => by cases h)⟩
theorem ti49 : TIok Try.prog 49 (.st 4 [(0, 47), (3, 23)] [Value.int IntKind.i64 0, Value.int IntKind.i64 0, Value.int IntKind.i64 0, Value.slice none 0 0] false) :=
  ⟨rfl, _, Try.t49, Try.underlying49, (by kernel_rfl : Try.prog.info? 49 = some Try.t49), rfl, rfl, rfl, fl_ok (by kernel_rfl), zs_ok (by kernel_rfl), (fun h => by cases h)⟩
theorem ti66 : TIok Try.prog 66 (.sc (.pointer 96) (Value.pointer none)) :=
  ⟨Try.t66, Try.underlying66, rfl, (by kernel_rfl : Try.prog.info? 66 = some Try.t66), rfl, rfl, rfl⟩
theorem ti73 : TIok Try.prog 73 (.slc 3 1 8 [Value.int IntKind.i64 0]) :=
  ⟨Try.t3, Try.t73, _, Try.underlying73, (by kernel_rfl : Try.prog.info? 3 = some Try.t3), rfl, rfl, rfl, rfl, rfl, by decide, by decide, zs_ok (by kernel_rfl), (by kernel_rfl : Try.prog.info? 73 = some Try.t73), rfl, rfl⟩
theorem ti83 : TIok Try.prog 83 (.st 2 [(0, 3), (1, 3)] [Value.int IntKind.i64 0, Value.int IntKind.i64 0] true) :=
  ⟨rfl, _, Try.t83, Try.underlying83, (by kernel_rfl : Try.prog.info? 83 = some Try.t83), rfl, rfl, rfl, fl_ok (by kernel_rfl), zs_ok (by kernel_rfl), fun _ => ⟨by kernel_rfl, by kernel_rfl, by kernel_rfl, flq_ok (by kernel_rfl)⟩⟩
theorem ti84 : TIok Try.prog 84 (.st 2 [(0, 3), (1, 3)] [Value.int IntKind.i64 0, Value.int IntKind.i64 0] true) :=
  ⟨rfl, _, Try.t84, Try.underlying84, (by kernel_rfl : Try.prog.info? 84 = some Try.t84), rfl, rfl, rfl, fl_ok (by kernel_rfl), zs_ok (by kernel_rfl), fun _ => ⟨by kernel_rfl, by kernel_rfl, by kernel_rfl, flq_ok (by kernel_rfl)⟩⟩
theorem ti95 : TIok Try.prog 95 (.st 2 [(0, 22), (1, 3)] [Value.slice none 0 0, Value.int IntKind.i64 0] false) :=
  ⟨rfl, _, Try.t95, Try.underlying95, (by kernel_rfl : Try.prog.info? 95 = some Try.t95), rfl, rfl, rfl, fl_ok (by kernel_rfl), zs_ok (by kernel_rfl), (fun h => by cases h)⟩
theorem ti96 : TIok Try.prog 96 (.st 2 [(0, 22), (1, 3)] [Value.slice none 0 0, Value.int IntKind.i64 0] false) :=
  ⟨rfl, _, Try.t96, Try.underlying96, (by kernel_rfl : Try.prog.info? 96 = some Try.t96), rfl, rfl, rfl, fl_ok (by kernel_rfl), zs_ok (by kernel_rfl), (fun h => by cases h)⟩
theorem ti103 : TIok Try.prog 103 (.sc (.int IntKind.u64) (Value.int IntKind.u64 0)) :=
  ⟨Try.t103, Try.underlying103, rfl, (by kernel_rfl : Try.prog.info? 103 = some Try.t103), rfl, rfl, rfl⟩
theorem ti110 : TIok Try.prog 110 (.sc (.int IntKind.i64) (Value.int IntKind.i64 0)) :=
  ⟨Try.t110, Try.underlying110, rfl, (by kernel_rfl : Try.prog.info? 110 = some Try.t110), rfl, rfl, rfl⟩
theorem ti117 : TIok Try.prog 117 (.sc (.int IntKind.u32) (Value.int IntKind.u32 0)) :=
  ⟨Try.t117, Try.underlying117, rfl, (by kernel_rfl : Try.prog.info? 117 = some Try.t117), rfl, rfl, rfl⟩
theorem ti119 : TIok Try.prog 119 (.sc (.int IntKind.u64) (Value.int IntKind.u64 0)) :=
  ⟨Try.t119, Try.underlying119, rfl, (by kernel_rfl : Try.prog.info? 119 = some Try.t119), rfl, rfl, rfl⟩
theorem ti121 : TIok Try.prog 121 (.sc (.int IntKind.u64) (Value.int IntKind.u64 0)) :=
  ⟨Try.t121, Try.underlying121, rfl, (by kernel_rfl : Try.prog.info? 121 = some Try.t121), rfl, rfl, rfl⟩
theorem ti125 : TIok Try.prog 125 (.sc (.pointer 3) (Value.pointer none)) :=
  ⟨Try.t125, Try.underlying125, rfl, (by kernel_rfl : Try.prog.info? 125 = some Try.t125), rfl, rfl, rfl⟩
theorem ti127 : TIok Try.prog 127 (.sc (.pointer 121) (Value.pointer none)) :=
  ⟨Try.t127, Try.underlying127, rfl, (by kernel_rfl : Try.prog.info? 127 = some Try.t127), rfl, rfl, rfl⟩
theorem ti139 : TIok Try.prog 139 (.sc (.pointer 5) (Value.pointer none)) :=
  ⟨Try.t139, Try.underlying139, rfl, (by kernel_rfl : Try.prog.info? 139 = some Try.t139), rfl, rfl, rfl⟩
theorem tt_ok : TTok Try.prog tt := by
  intro p hp
  simp only [tt, List.mem_cons, List.not_mem_nil, or_false] at hp
  rcases hp with rfl | rfl | rfl | rfl | rfl | rfl | rfl | rfl | rfl | rfl | rfl | rfl | rfl | rfl | rfl | rfl | rfl | rfl | rfl | rfl | rfl | rfl | rfl | rfl | rfl | rfl | rfl | rfl | rfl | rfl | rfl | rfl | rfl | rfl | rfl
  · exact ti2
  · exact ti3
  · exact ti4
  · exact ti5
  · exact ti9
  · exact ti12
  · exact ti13
  · exact ti20
  · exact ti21
  · exact ti22
  · exact ti23
  · exact ti24
  · exact ti25
  · exact ti26
  · exact ti27
  · exact ti36
  · exact ti37
  · exact ti38
  · exact ti47
  · exact ti48
  · exact ti49
  · exact ti66
  · exact ti73
  · exact ti83
  · exact ti84
  · exact ti95
  · exact ti96
  · exact ti103
  · exact ti110
  · exact ti117
  · exact ti119
  · exact ti121
  · exact ti125
  · exact ti127
  · exact ti139

theorem CallN.ret1 {P : Program} {f : FuncId} {ss : List SV} {L : Hpl} {nx : Nat} {K : KK} {r0 : SV} (h : SRet P f ss (· = r0)) (k : K (r0.lift nx) L (nx + 10)) : CallN P f ss L nx K := .ret _ h fun r e => e ▸ k
theorem Br.tt {X Y : Prop} (h : X) : Br true X Y := ⟨fun _ => h, (fun h => by cases h)⟩
theorem Br.ff {X Y : Prop} (h : Y) : Br false X Y := ⟨(fun h => by cases h), fun _ => h⟩
theorem Br.ttE {b : Bool} {X Y : Prop} (e : b = true) (h : X) : Br b X Y := e ▸ Br.tt h
theorem Br.ffE {b : Bool} {X Y : Prop} (e : b = false) (h : Y) : Br b X Y := e ▸ Br.ff h
theorem Br.dec {p : Prop} [Decidable p] {X Y : Prop} (h1 : p → X) (h2 : ¬ p → Y) : Br (decide p) X Y := ⟨fun h => h1 (of_decide_eq_true h), fun h => h2 (of_decide_eq_false h)⟩
theorem Br.eq {a b : Int} {X Y : Prop} (h1 : a = b → X) (h2 : a ≠ b → Y) : Br (a == b) X Y := ⟨fun h => h1 (by simpa using h), fun h => h2 (by simpa using h)⟩
theorem Br.ne {a b : Int} {X Y : Prop} (h1 : a ≠ b → X) (h2 : a = b → Y) : Br (a != b) X Y := ⟨fun h => h1 (by simpa using h), fun h => h2 (by simpa using h)⟩
theorem Br.not {b : Bool} {X Y : Prop} (h : Br b Y X) : Br (!b) X Y := ⟨fun e => h.f (by simpa using e), fun e => h.t (by simpa using e)⟩
theorem Ar.fit {z : Int} {K : Int → Prop} (h1 : -9223372036854775808 ≤ z ∧ z ≤ 9223372036854775807) (h2 : K z) : Ar .i64 z K :=
  ⟨⟨z, by rw [IntKind.wrap_i64]; omega, h2⟩⟩
theorem Ar.wrap {k : IntKind} {z : Int} {K : Int → Prop} (h2 : K (k.wrap z)) : Ar k z K := ⟨⟨_, rfl, h2⟩⟩
theorem Ar.div {a b : Int} {K : Int → Prop} (h0 : 0 ≤ a) (h1 : 0 < b) (h : a ≤ 9223372036854775807) (h2 : K (a / b)) : Ar .i64 (a.tdiv b) K :=
  ⟨⟨a / b, by
    have h3 : 0 ≤ a / b := Int.ediv_nonneg h0 (by omega)
    have h4 : a / b ≤ a := Int.ediv_le_self _ h0
    rw [Int.tdiv_eq_ediv_of_nonneg h0, IntKind.wrap_i64]; omega, h2⟩⟩
theorem Eqv.any {z : Int} {K : Int → Prop} (h : K z) : Eqv z K := ⟨⟨_, rfl, h⟩⟩
theorem Eqv.shr1 {a : Int} {K : Int → Prop} (h : K (a / 2)) : Eqv (a / 2 ^ min (Int.toNat 1) (IntKind.bits .u64)) K := ⟨⟨a / 2, by simp [IntKind.bits], h⟩⟩
theorem Ar.u64 {z : Int} {K : Int → Prop} (h1 : 0 ≤ z ∧ z ≤ 18446744073709551615) (h2 : K z) : Ar .u64 z K :=
  ⟨⟨z, by simp [IntKind.wrap, IntKind.bits, IntKind.signed]; omega, h2⟩⟩
theorem rem_intro {a b : Int} {K : Int → Prop} (h0 : 0 ≤ a) (h1 : 0 < b) (h2 : K (a % b)) : ∀ z, a.tmod b = z → K z := fun z e => by
  rw [Int.tmod_eq_emod_of_nonneg h0] at e
  subst e
  exact h2

theorem Ent.refl (r : SV) (H : List Hp) : Ent r H r H := fun w F v hs hv => ⟨F, fun _ h => h, hs, hv⟩
theorem HSat.dropN {w : World} {F : Nat → Prop} : ∀ {A H : List Hp}, HSat w F (A ++ H) → HSat w F H
  | [], _, h => h
  | a :: A, H, h => HSat.dropN (A := A) h.tail
theorem Ent.drop (A : List Hp) (r : SV) (H : List Hp) : Ent r (A ++ H) r H := fun w F v hs hv => ⟨F, fun _ h => h, hs.dropN, hv⟩
/-- a plain result, all that was made is left behind -/
theorem Fin.pure {r : SV} {A : List Hp} {R : Heaplet} {Φ : SV → Prop} (h : Φ r) : Fin r (A ++ [.cust R]) (fun r H' => H' = [.cust R] ∧ Φ r) := ⟨⟨r, _, Ent.drop A r _, rfl, h⟩⟩
/-! ### loops -/
def keepF (ks : List Nat) (σ : Fr) : Fr := fun k => bif elemB k ks then σ k else .any
def updL : Fr → List (Nat × SV) → Fr
  | σ, [] => σ
  | σ, (k, v) :: l => upd (updL σ l) k v
def KeepL (σ' σ : Fr) : List Nat → Prop
  | [] => True
  | k :: ks => σ' k = σ k ∧ KeepL σ' σ ks
def MatchL (σ : Fr) : List (Nat × SV) → Prop
  | [] => True
  | (k, v) :: l => σ k = v ∧ MatchL σ l
/-- one heap told by another -/
def HLe (L L' : Hpl) : Prop := ∀ w F, HSat w F (L.map Prod.snd) → ∃ F', (∀ b, F b → F' b) ∧ HSat w F' (L'.map Prod.snd)
theorem HLe.refl (L : Hpl) : HLe L L := fun w F h => ⟨F, fun _ h => h, h⟩
theorem HLe.drop (A L : Hpl) : HLe (A ++ L) L := fun w F h => ⟨F, fun _ h => h, (by rw [List.map_append] at h; exact h.dropN)⟩
theorem HLe.trans {L L' L'' : Hpl} (h : HLe L L') (h' : HLe L' L'') : HLe L L'' := fun w F hs => by
  obtain ⟨F1, a, b⟩ := h w F hs
  obtain ⟨F2, c, d⟩ := h' w F1 b
  exact ⟨F2, fun x hx => c x (a x hx), d⟩
theorem HLe.box {k g n : Nat} {t : TypeId} {f f' : Nat → SV} {L : Hpl} (h : ∀ j, j < n → f j = f' j) : HLe ((k, .box g t n f) :: L) ((k, .box g t n f') :: L) := fun w F hs =>
  ⟨F, fun _ h => h, hs.turn (Nat.le_refl _) (fun _ _ _ => rfl) (by
    obtain ⟨cs, a, b, c⟩ := hs.holds _ List.mem_cons_self
    exact ⟨cs, a, b, fun j hj => by have := c j hj; rw [h j hj] at this; exact this⟩) fun b hb => ⟨(hs.fp _ List.mem_cons_self b hb).1, .inl hb⟩⟩
theorem HLe.row {k sz n : Nat} {v : Value} {e : TypeId} {f f' : Nat → Nat → SV} {L : Hpl} (h : ∀ i j, i < n → j < sz → f i j = f' i j) : HLe ((k, .row v e sz n f) :: L) ((k, .row v e sz n f') :: L) := fun w F hs =>
  ⟨F, fun _ h => h, hs.turn (Nat.le_refl _) (fun _ _ _ => rfl) (by
    obtain ⟨xs, a, c⟩ := hs.holds _ List.mem_cons_self
    exact ⟨xs, a, fun i j hi hj => by have := c i j hi hj; rw [h i j hi hj] at this; exact this⟩) fun b hb => ⟨(hs.fp _ List.mem_cons_self b hb).1, .inl hb⟩⟩
theorem HLe.cons (x : Nat × Hp) {L L' : Hpl} (h : ∀ w F, HSat w F (L.map Prod.snd) → HSat w F (L'.map Prod.snd)) (hp : ∀ b, (∃ p ∈ L'.map Prod.snd, p.fp b) → ∃ p ∈ L.map Prod.snd, p.fp b) : HLe (x :: L) (x :: L') := fun w F hs => by
  have ht := h w F hs.tail
  have hap := List.pairwise_cons.1 hs.apart
  refine ⟨F, fun _ h => h, ⟨fun q hq => ?_, fun q hq b hb => ?_, List.pairwise_cons.2 ⟨fun q hq b hb hbq => ?_, ht.apart⟩, hs.lt⟩⟩
  · rcases List.mem_cons.1 hq with rfl | hq
    · exact hs.holds _ List.mem_cons_self
    · exact ht.holds q hq
  · rcases List.mem_cons.1 hq with rfl | hq
    · exact hs.fp _ List.mem_cons_self b hb
    · exact ht.fp q hq b hb
  · obtain ⟨q', hq', hb'⟩ := hp b ⟨q, hq, hbq⟩
    exact hap.1 q' hq' b hb hb'
theorem putF_self (o m : Nat) (fv f : Nat → SV) (hm : 0 < m) : putF o m fv f o = fv 0 := by
  unfold putF
  have : (Nat.ble o o && Nat.ble (o + 1) (o + m)) = true := by simp [Nat.ble_eq]; omega
  rw [this, cond_true, Nat.sub_self]
theorem putF_one (o : Nat) (fv f : Nat → SV) (j : Nat) : putF o 1 fv f j = if j = o then fv 0 else f j := by
  unfold putF
  by_cases h : j = o
  · subst h
    rw [if_pos rfl]
    have : (Nat.ble j j && Nat.ble (j + 1) (j + 1)) = true := by simp [Nat.ble_eq]
    rw [this, cond_true, Nat.sub_self]
  · rw [if_neg h]
    have : (Nat.ble o j && Nat.ble (j + 1) (o + 1)) = false := by rw [Bool.eq_false_iff]; simp [Nat.ble_eq]; omega
    rw [this, cond_false]
theorem KeepL.get {σ' σ : Fr} {k : Nat} : ∀ {ks : List Nat}, KeepL σ' σ ks → elemB k ks = true → σ' k = σ k
  | [], _, h => by cases h
  | j :: ks, h, e => by
    unfold elemB at e
    cases e1 : Nat.beq k j
    · rw [e1] at e; exact KeepL.get h.2 e
    · have := Nat.eq_of_beq_eq_true e1
      subst this
      exact h.1
theorem SLe.mk {σ' σ : Fr} {ks : List Nat} {chg : List (Nat × SV)} {L' L : Hpl} {nx nx' : Nat} (h1 : KeepL σ' σ ks) (h2 : MatchL σ' chg) (h3 : HLe L' L) : SLe ⟨σ', L', nx⟩ ⟨updL (keepF ks σ) chg, L, nx'⟩ := fun n F a w hs => by
  obtain ⟨F', hF, hh⟩ := h3 w F hs.heap
  refine ⟨F', hF, hs.size, hs.defers, ?_, hh⟩
  have hf : FrHas w F' σ' a := fun k => (hs.fr k).mono hF
  have base : FrHas w F' (keepF ks σ) a := fun k => by
    unfold keepF
    cases e : elemB k ks
    · trivial
    · have := hf k
      rw [h1.get e] at this
      exact this
  have : ∀ l : List (Nat × SV), MatchL σ' l → FrHas w F' (updL (keepF ks σ) l) a := by
    intro l
    induction l with
    | nil => intro _; exact base
    | cons p l ih =>
      intro hm k
      obtain ⟨q, v⟩ := p
      show Has w F' (upd _ q v k) _
      unfold upd
      cases e : Nat.beq k q
      · exact ih hm.2 k
      · have := Nat.eq_of_beq_eq_true e
        subst this
        have h := hf k
        rw [hm.1] at h
        exact h
  exact this chg h2

/-- what a round hands on -/
structure Hand {ι : Type} (ks : List Nat) (σ : Fr) (chg : ι → List (Nat × SV)) (LL : ι → Hpl) (J : ι → Prop) (μ : ι → Nat) (i : ι) (s' : St) : Prop where
  h : ∃ j, J j ∧ μ j < μ i ∧ KeepL s'.σ σ ks ∧ MatchL s'.σ (chg j) ∧ HLe s'.L (LL j)
def Qloop {ι : Type} (ks : List Nat) (σ : Fr) (chg : ι → List (Nat × SV)) (LL : ι → Hpl) (J : ι → Prop) (μ : ι → Nat) (i : ι) (Q : Exit → St → Prop) : Exit → St → Prop
  | .normal, s' => Hand ks σ chg LL J μ i s'
  | e, s' => Q e s'
theorem KeepL.rfl (σ : Fr) : ∀ ks, KeepL σ σ ks
  | [] => trivial
  | k :: ks => ⟨Eq.refl _, KeepL.rfl σ ks⟩
theorem HT.loopK {P : Program} {n : Nat} {c : Code} {Q : Exit → St → Prop} {s : St} {ι : Type} (ks : List Nat) (chg : ι → List (Nat × SV)) (LL : ι → Hpl) (nx' : Nat) (J : ι → Prop) (μ : ι → Nat) (i0 : ι) (hJ : J i0) (h0 : MatchL s.σ (chg i0)) (h0' : HLe s.L (LL i0))
    (h : ∀ i, J i → HT P n c (Qloop ks s.σ chg LL J μ i Q) ⟨updL (keepF ks s.σ) (chg i), LL i, nx'⟩) : HT P n (.loop c) Q s :=
  HT.loop (ι := {i : ι // J i}) (fun i => ⟨updL (keepF ks s.σ) (chg i.1), LL i.1, nx'⟩) (fun i => μ i.1) ⟨i0, hJ⟩ (SLe.mk (KeepL.rfl _ _) h0 h0') fun ⟨i, hi⟩ => (h i hi).mono fun e s' hq => by
    cases e
    case normal =>
      obtain ⟨⟨j, hj, hμ, h1, h2, h3⟩⟩ := hq
      exact ⟨⟨j, hj⟩, SLe.mk h1 h2 h3, hμ⟩
    all_goals exact hq

theorem sv_b {a b : Bool} (h : a = b) : SV.val (.bool a) = SV.val (.bool b) := by rw [h]
theorem sv_i {a b : Int} (h : a = b) : SV.val (.int .i64 a) = SV.val (.int .i64 b) := by rw [h]
end Go.Proofs.Ytbcmpfhemangpaa
