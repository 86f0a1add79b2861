/- Texts of this proof put together: Fw, TxL. -/
import Derived.RowKitTokens
import Derived.LaidLaws
import Derived.ChangeVars
import Derived.Deep.DeepLaidRun
import Derived.Test.YtcagfmbboliohaaDoorCards
import Derived.Test.YtcagfmbboliohaaDoorTie
import Derived.SevenTiedAt
import Derived.Test.YtcagfmbboliohaaDoorQ01
import Derived.Test.YtcagfmbboliohaaDoorQ02
import Derived.Test.YtcagfmbboliohaaDoorQ03
import Derived.Test.YtcagfmbboliohaaDoorQ04
import Derived.Test.YtcagfmbboliohaaDoorQ05
import Derived.Test.YtcagfmbboliohaaDoorQ06
import Derived.Test.YtcagfmbboliohaaDoorQ07
import Derived.Test.YtcagfmbboliohaaDoorQ08
import Derived.Test.YtcagfmbboliohaaDoorQ09
import Derived.Test.YtcagfmbboliohaaDoorQ10
import Derived.Test.YtcagfmbboliohaaDoorQ11
import Derived.Test.YtcagfmbboliohaaDoorQ12
import Derived.Test.YtcagfmbboliohaaDoorQ13
import Derived.Test.YtcagfmbboliohaaDoorQ14
/-! YtcagfmbboliohaaDoorFw -/
set_option linter.all false
set_option maxRecDepth 100000
namespace Go.Proofs.YtcagfmbboliohaaDoor
open Go.ChangeShapes Go.WideShapes Go.ChangeAt Go.RowKit

abbrev laid3 : List (String × DataW Unit) := [("math/bits.deBruijn32tab", Rows.laid_math_bits_deBruijn32tab), ("math/bits.deBruijn64tab", Rows.laid_math_bits_deBruijn64tab), ("internal/strconv.uint64pow10", Rows.laid_internal_strconv_uint64pow10)]
theorem law_liftedW {H : Type} {enc : TypeId × Value → H} {f : FuncId} {fn : Func} {s : ChangeSpec} {os : Os} (started : os.Started) (hfn : Tryd.checked.prog.funcs[f]? = some fn) (hno : Tryd.checked.prog.inits.idxOf? f = none) {bt : TypeId} (hbt : Tryd.prog.underlying bt = some .bool) (hrt : fn.resultTypes = #[bt])
    (hpr : (fn.params.toList.all fun t => Tryd.prog.readableRec t && Nat.blt t Tryd.prog.types.size) = true) (hv : s.vars = []) (hs : ∀ ds : List (DataW H), ds.length = fn.params.size → (s.fn H (ds ++ [])).results = [.lit (.bool true)] ∧ (s.fn H (ds ++ [])).args = ds ∧ (s.fn H (ds ++ [])).vars = [])
    (wit : ∃ (w : World) (tape : Tape) (i : Input), w.os = os ∧ (w.forCall tape i).Shaped Tryd.checked.prog ∧ i.vars = [] ∧ Input.okWide Tryd.checked.prog (w.forCall tape i) .any w.heap.size f i ∧
      ((s.pre enc Tryd.checked.prog fn [] false (w.forCall tape i).memory i.args ∧ laidMet Tryd.prog laid3 (w.forCall tape i).memory) ∧ sizedMet enc Tryd.checked.prog fn (OpenSpec.ofChange s) false (w.forCall tape i).memory i.args) ∧ ({} : Assume).holds Tryd.checked.prog (lone (Frame.enter Tryd.checked.prog f i.args .normal) [] (w.forCall tape i)))
    (hc : ∀ (W : World) (base : Nat) (args : Array Value) (ds : List (DataW H)) (ps : List MemPlace), (∀ (j : Nat) t v, fn.params[j]? = some t → args[j]? = some v → Value.okWide Tryd.prog W .any base t v) →
      DataW.TrodAll enc Tryd.prog W 0 (fun _ => true) true fn.params.toList args.toList ds ps → Calls Tryd.prog f args W fun e W' => e = .returned (.bool true) ∧ Below W.heap.size W W') :
    ReturnsInHanded {} Tryd.checked os f .any (fun w args => (s.pre enc Tryd.checked.prog fn [] false w args ∧ laidMet Tryd.prog laid3 w) ∧ sizedMet enc Tryd.checked.prog fn (OpenSpec.ofChange s) false w args) (s.post enc Tryd.checked.prog fn false true false false) := by
  refine returnsInHanded_of_change_and (C := Tryd.checked) (X := fun w _ => laidMet Tryd.prog laid3 w) (fun _ _ _ hh h => h.of_heap hh) Tryd.own started hno hfn wit ?_
  intro W base args ds gs before hval hW _ _ _ _
  have hW' := hW
  obtain ⟨p, q, hA0, hV, rfl, hfz, hnd⟩ := hW
  have hA : DataW.TrodAll enc Tryd.prog W 0 (fun _ => true) true fn.params.toList args.toList ds p := hA0
  have hl : ds.length = fn.params.size := by
    have : ∀ (ts : List TypeId) (vs : List Value) (ds : List (DataW H)) (p : List MemPlace), DataW.TrodAll enc Tryd.prog W 0 (fun _ => true) true ts vs ds p → ds.length = ts.length := by
      intro ts
      induction ts with
      | nil => intro vs ds p h; cases vs <;> cases ds <;> simp [DataW.TrodAll] at h ⊢
      | cons t ts ih => intro vs ds p h; cases vs <;> cases ds <;> simp [DataW.TrodAll] at h ⊢; obtain ⟨_, _, _, h, _⟩ := h; exact ih _ _ _ h
    have := this _ _ _ _ hA
    simpa using this
  rw [hv] at hV
  have hg : gs = [] ∧ q = [] := by cases gs <;> simp [DataW.TrodVars] at hV; exact ⟨rfl, hV⟩
  obtain ⟨rfl, rfl⟩ := hg
  obtain ⟨hs1, hs2, hs3⟩ := hs ds hl
  refine (hc W base args ds p hval hA).mono fun e W' ⟨he, hb⟩ => ⟨_, he, ds, [], _, [], p, [], hW', ?_, ?_, ?_, hb.frame _, fun h => by cases h⟩
  · rw [hs1, hrt]
    exact trodAll_mk1 (shut_bool hbt true)
  · rw [hs2]
    exact trodAll_below hb (readable_ok hpr) hA fun x hx => hW'.lt x (by simpa using hx)
  · rw [hs3, hv]
    exact rfl
def tab_internal_strconv_uint64pow10 : List Int := [1, 10, 100, 1000, 10000, 100000, 1000000, 10000000, 100000000, 1000000000, 10000000000, 100000000000, 1000000000000, 10000000000000, 100000000000000, 1000000000000000, 10000000000000000, 100000000000000000, 1000000000000000000, 10000000000000000000]
def tabV_internal_strconv_uint64pow10 : Array Value := (tab_internal_strconv_uint64pow10.map fun z => Value.int .u64 z).toArray
def tab_math_bits_deBruijn32tab : List Int := [0, 1, 28, 2, 29, 14, 24, 3, 30, 22, 20, 15, 25, 17, 4, 8, 31, 27, 13, 23, 21, 19, 16, 7, 26, 12, 18, 6, 11, 5, 10, 9]
def tabV_math_bits_deBruijn32tab : Array Value := (tab_math_bits_deBruijn32tab.map fun z => Value.int .u8 z).toArray
def tab_math_bits_deBruijn64tab : List Int := [0, 1, 56, 2, 57, 49, 28, 3, 61, 58, 42, 50, 38, 29, 17, 4, 62, 47, 59, 36, 45, 43, 51, 22, 53, 39, 33, 30, 24, 18, 12, 5, 63, 55, 48, 27, 60, 41, 37, 16, 46, 35, 44, 21, 52, 32, 23, 11, 54, 26, 40, 15, 34, 20, 31, 10, 25, 14, 19, 9, 13, 8, 7, 6]
def tabV_math_bits_deBruijn64tab : Array Value := (tab_math_bits_deBruijn64tab.map fun z => Value.int .u8 z).toArray
/-- a world where the tables are laid -/
noncomputable def laidW (os : Os) : World := ({ World.holding Tryd.prog os ⟨#[], #[], []⟩ with heap := (((((((World.holding Tryd.prog os ⟨#[], #[], []⟩).heap).modify 0 fun | .cells _ t fr => .cells tabV_internal_strconv_uint64pow10 t fr | o => o)).modify 1 fun | .cells _ t fr => .cells tabV_math_bits_deBruijn32tab t fr | o => o)).modify 2 fun | .cells _ t fr => .cells tabV_math_bits_deBruijn64tab t fr | o => o) } : World)
end Go.Proofs.YtcagfmbboliohaaDoor
/-! YtcagfmbboliohaaDoorTxL -/
set_option linter.all false
namespace Go.Proofs.YtcagfmbboliohaaDoor
open Go Go.RowKit Go.ChangeShapes Go.WideShapes

theorem td_tx {H : Type} {enc : TypeId × Value → H} {W : World} {cs : List Value} (h : Td enc W 23 cs) : ∃ x : Tx, True ∧ Cls W 4 (txF x) cs := by
  have hl : cs.length = 4 := (td_field Tryd.underlying23 h).1.trans (by kernel_rfl)
  have c3 : Tryd.prog.cellsOf 3 = 1 := by kernel_rfl
  obtain ⟨a, _, e0⟩ := td_int (t := 3) Tryd.underlying3 (td_at Tryd.underlying23 h 0 rfl 0 1 3 rfl rfl c3)
  obtain ⟨b, _, e1⟩ := td_int (t := 3) Tryd.underlying3 (td_at Tryd.underlying23 h 1 rfl 1 1 3 rfl rfl c3)
  obtain ⟨c, _, e2⟩ := td_int (t := 3) Tryd.underlying3 (td_at Tryd.underlying23 h 2 rfl 2 1 3 rfl rfl c3)
  obtain ⟨d, _, e3⟩ := td_int (t := 3) Tryd.underlying3 (td_at Tryd.underlying23 h 3 rfl 3 1 3 rfl rfl c3)
  match cs, hl with
  | [c0, c1, c2, c3], _ =>
    have q0 : c0 = .int .i64 a := (List.cons.inj (show [c0] = [_] from e0)).1
    have q1 : c1 = .int .i64 b := (List.cons.inj (show [c1] = [_] from e1)).1
    have q2 : c2 = .int .i64 c := (List.cons.inj (show [c2] = [_] from e2)).1
    have q3 : c3 = .int .i64 d := (List.cons.inj (show [c3] = [_] from e3)).1
    clear e0 e1 e2 e3
    subst q0 q1 q2 q3
    exact ⟨⟨a, b, c, d⟩, trivial, rfl, fun j hj => by
      rcases (by omega : j = 0 ∨ j = 1 ∨ j = 2 ∨ j = 3) with rfl | rfl | rfl | rfl <;> exact ⟨rfl, rfl⟩⟩
theorem td_bo {H : Type} {enc : TypeId × Value → H} {W : World} {cs : List Value} (h : Td enc W 4 cs) : ∃ b : Bool, True ∧ Cls W 1 (bqF b) cs := by
  obtain ⟨b, rfl⟩ := td_bool (t := 4) Tryd.underlying4 h
  exact ⟨b, trivial, Cls.one rfl rfl⟩
set_option maxRecDepth 100000 in
theorem fnExactReceiptsOf_met (os : Os) : laidMet Tryd.prog laid3 ((laidW os).forCall (fun _ _ => 0) ⟨#[], #[.slice none 0 0, .slice none 0 0], []⟩).memory :=
  laidMet_of_run3 8 (by kernel_rfl) (by kernel_rfl) (by kernel_rfl)
set_option maxRecDepth 100000 in
theorem fnExactReceiptsOf_holds : Rows.FnExactReceiptsOfSaid := by
  refine OpenClaim.holds_of_wide 6 Tryd.f6 rfl rfl rfl rfl rfl rfl rfl ⟨rfl, rfl, rfl, rfl, rfl⟩ rfl rfl rfl rfl rfl (by kernel_rfl) Tryd.func6 (by kernel_rfl)
    (of_decide_eq_true (by kernel_rfl)) (by unfold Func.isWrapper; rw [if_neg (of_decide_eq_false (by kernel_rfl))]; exact ⟨rfl, rfl⟩)
    (fun os started H enc _ => ?_)
  refine law_liftedW (s := Rows.fnExactReceiptsOfSpec) started Tryd.func6 (by kernel_rfl) Tryd.underlying4 rfl (by kernel_rfl) rfl (fun ds hl => ?_)
    (ChangeSpec.witness_at (enc := enc) (C := Tryd.checked) (os := os) (X := fun w _ => laidMet Tryd.prog laid3 w) false (laidW os) #[.slice none 0 0, .slice none 0 0] 12 rfl (by kernel_rfl) (by kernel_rfl) (by kernel_rfl) (by kernel_rfl) (by kernel_rfl) (fnExactReceiptsOf_met os)) ?_
  · match ds, hl with
    | [d0, d1], _ => exact ⟨rfl, rfl, rfl⟩
  · intro W base args ds ps hval hA
    obtain ⟨v0, v1, d0, d1, p0, p1, rfl, rfl, rfl, h0, h1⟩ := Go.ChangeShapes.trodAll_two hA
    obtain ⟨l0, i0, b0, a0⟩ := arg_slice txF (fun _ => True) Tryd.underlying40 (by kernel_rfl) (by decide) (fun cs h => td_tx h) (hval 0 _ v0 rfl rfl) h0
    obtain ⟨l1, i1, b1, a1⟩ := arg_slice bqF (fun _ => True) Tryd.underlying32 (by kernel_rfl) (by decide) (fun cs h => td_bo h) (hval 1 _ v1 rfl rfl) h1
    exact law_calls (FnExactReceiptsOf_c l0 l1 b0 b1) ⟨a0, a1, trivial⟩
theorem fnExactReceiptsOfCard_holds : Rows.FnExactReceiptsOfCardSaid :=
  Claim7.holds_tied_plain_at .later [] [.data, .data, .data] true (true, "7e673cf6f8b83784bdf6bd5a880dc45217a49f0f2cb9b666a5afe4a332f3ef78") false
    fnExactReceiptsOf_holds (fun _ h => by cases h) (by kernel_rfl) (fun _ h => by cases h) fnExactReceiptsOf_row_tie rfl ⟨rfl, rfl⟩ (by kernel_rfl) rfl
    (fun f fn hf hfn => by
      obtain rfl : f = 6 := Option.some.inj ((show Tryd.prog.funcNamed "loop.example/dagconsensus/laws.FnExactReceiptsOf" = some 6 by kernel_rfl).symm.trans hf) |>.symm
      obtain rfl : fn = Tryd.f6 := (Option.some.inj (Tryd.func6.symm.trans hfn)).symm
      exact ⟨by kernel_rfl, fun j t ht => by
        rw [Tryd.params6] at ht
        have hm : t ∈ [40, 32] := by simpa using Array.mem_of_getElem? ht
        have hall : ([40, 32].all fun u => !Tryd.prog.wantsStandIn u) = true := by kernel_rfl
        exact (show Tryd.prog.wantsStandIn t = false by simpa using List.all_eq_true.1 hall t hm)⟩)
    (by kernel_rfl)
end Go.Proofs.YtcagfmbboliohaaDoor
