/- Texts of this proof put together: Wf, Wg, Ns, Nt, Nu. -/
import Derived.RowKitTokens
import Derived.LaidLaws
import Derived.ChangeVars
import Derived.Stop.ErrReads
import Derived.Test.YtpmhikdefbcofaaDoorM01
import Derived.Test.YtpmhikdefbcofaaDoorM02
import Derived.Test.YtpmhikdefbcofaaDoorM03
import Derived.Test.YtpmhikdefbcofaaDoorM04
import Derived.Test.YtpmhikdefbcofaaDoorM05
import Derived.Test.YtpmhikdefbcofaaDoorM06
import Derived.Test.YtpmhikdefbcofaaDoorM07
import Derived.Test.YtpmhikdefbcofaaDoorM08
import Derived.Test.YtpmhikdefbcofaaDoorM09
import Derived.Test.YtpmhikdefbcofaaDoorM10
import Derived.Test.YtpmhikdefbcofaaDoorM11
import Derived.Test.YtpmhikdefbcofaaDoorM12
import Derived.Test.YtpmhikdefbcofaaDoorM13
import Derived.Test.YtpmhikdefbcofaaDoorM14
import Derived.Test.YtpmhikdefbcofaaDoorM15
import Derived.Test.YtpmhikdefbcofaaDoorM16
import Derived.Test.YtpmhikdefbcofaaDoorM17
import Derived.Test.YtpmhikdefbcofaaDoorM18
import Derived.Test.YtpmhikdefbcofaaDoorM19
import Derived.Test.YtpmhikdefbcofaaDoorM20
import Derived.Test.YtpmhikdefbcofaaDoorM21
/-! YtpmhikdefbcofaaDoorWf -/
set_option linter.all false
set_option maxRecDepth 100000
namespace Go.Proofs.YtpmhikdefbcofaaDoor
open Go.ChangeShapes Go.WideShapes Go.ChangeAt Go.RowKit

theorem Tryd.gn0 : Tryd.prog.globalNamed "loop.example/dagconsensus/impl.errInvalid" = some 0 := by kernel_rfl
theorem Tryd.gt0 : (Tryd.prog.globals[0]?).map (·.type) = some 56 := by kernel_rfl
theorem Tryd.gn1 : Tryd.prog.globalNamed "loop.example/dagconsensus/impl.errNoWave" = some 1 := by kernel_rfl
theorem Tryd.gt1 : (Tryd.prog.globals[1]?).map (·.type) = some 56 := by kernel_rfl
theorem Tryd.gn2 : Tryd.prog.globalNamed "loop.example/dagconsensus/impl.errNoVertex" = some 2 := by kernel_rfl
theorem Tryd.gt2 : (Tryd.prog.globals[2]?).map (·.type) = some 56 := by kernel_rfl
abbrev laid3 : List (String × DataW Unit) := [("loop.example/dagconsensus/impl.errInvalid", Rows.laid_loop_example_dagconsensus_impl_errInvalid), ("loop.example/dagconsensus/impl.errNoWave", Rows.laid_loop_example_dagconsensus_impl_errNoWave), ("loop.example/dagconsensus/impl.errNoVertex", Rows.laid_loop_example_dagconsensus_impl_errNoVertex)]
abbrev vars3 : List String := ["loop.example/dagconsensus/impl.errInvalid", "loop.example/dagconsensus/impl.errNoWave", "loop.example/dagconsensus/impl.errNoVertex"]
theorem Tryd.nameE : Tryd.prog.typeName? 3 129 = some "*errors.errorString" := by kernel_rfl
theorem Tryd.cellsE : Tryd.prog.cellsOf 155 = 1 := by kernel_rfl
theorem Tryd.cellsS : Tryd.prog.cellsOf 9 = 1 := by kernel_rfl
theorem Tryd.starE : "*" ++ "errors.errorString" = "*errors.errorString" := by decide
theorem Tryd.rowE (u : TypeId) (h : Tryd.prog.typeName? 3 u = some "*errors.errorString") : u = 129 :=
  typeName_ptr_named (nm := "errors.errorString") (by rw [Tryd.starE]; kernel_rfl) (by kernel_rfl) (by decide) u (by rw [Tryd.starE]; exact h)
/-- what one of the variables holds -/
theorem var_row {W : World} {n : String} {g : Nat} {cs : Array Value} (hg : Tryd.prog.globalNamed n = some g) (h : W.var? Tryd.prog n = some cs) {c : Array Value} {y : TypeId} (hb : W.heap[g]? = some (.cells c y (0, 0))) : c = cs := by
  simp only [World.var?, hg, Option.bind_some, hb, Option.some.injEq] at h
  exact h
theorem sent3_of_laid {W : World} (h : laidMet Tryd.prog laid3 W) :
    ∃ (a0 a1 a2 : Addr) (y0 y1 y2 : TypeId), W.heap[0]? = some (.cells #[.iface 129 (.pointer (some a0))] y0 (0, 0)) ∧ W.heap[1]? = some (.cells #[.iface 129 (.pointer (some a1))] y1 (0, 0)) ∧ W.heap[2]? = some (.cells #[.iface 129 (.pointer (some a2))] y2 (0, 0)) ∧ a0 ≠ a1 ∧ a0 ≠ a2 ∧ a1 ≠ a2 := by
  obtain ⟨ps, ⟨g0, t0, cs0, f0, p0, q0, hg0, ht0, hv0, hd0, ⟨g1, t1, cs1, f1, p1, q1, hg1, ht1, hv1, hd1, ⟨g2, t2, cs2, f2, p2, q2, hg2, ht2, hv2, hd2, hq2, e2⟩, e1⟩, e0⟩, hnd, hrows⟩ := h
  obtain rfl := Option.some.inj (Tryd.gn0.symm.trans hg0)
  obtain rfl := Option.some.inj (Tryd.gn1.symm.trans hg1)
  obtain rfl := Option.some.inj (Tryd.gn2.symm.trans hg2)
  obtain rfl := Option.some.inj (Tryd.gt0.symm.trans ht0)
  obtain rfl := Option.some.inj (Tryd.gt1.symm.trans ht1)
  obtain rfl := Option.some.inj (Tryd.gt2.symm.trans ht2)
  have hq2' : q2 = [] := hq2
  subst hq2'
  subst e2
  subst e1
  subst e0
  obtain ⟨l0⟩ := cs0
  obtain ⟨l1⟩ := cs1
  obtain ⟨l2⟩ := cs2
  have ok0 : ∀ u v, l0 = [.iface u v] → Value.okWide Tryd.prog W .any 0 u v := fun u v e => by
    subst e
    exact (hrows 0 0 (by simp [MemPlace.row])).2 u v (by simpa using World.var?_cell hg0 hv0 0)
  have ok1 : ∀ u v, l1 = [.iface u v] → Value.okWide Tryd.prog W .any 0 u v := fun u v e => by
    subst e
    exact (hrows 1 0 (by simp [MemPlace.row])).2 u v (by simpa using World.var?_cell hg1 hv1 0)
  have ok2 : ∀ u v, l2 = [.iface u v] → Value.okWide Tryd.prog W .any 0 u v := fun u v e => by
    subst e
    exact (hrows 2 0 (by simp [MemPlace.row])).2 u v (by simpa using World.var?_cell hg2 hv2 0)
  obtain ⟨a0, s0, rfl, hc0, hs0, hz0, rfl⟩ := errorString_of_trod Tryd.underlying56 Tryd.rowE Tryd.underlying129 Tryd.underlying155 rfl rfl Tryd.underlying9 Tryd.cellsE Tryd.cellsS hd0 ok0
  obtain ⟨a1, s1, rfl, hc1, hs1, hz1, rfl⟩ := errorString_of_trod Tryd.underlying56 Tryd.rowE Tryd.underlying129 Tryd.underlying155 rfl rfl Tryd.underlying9 Tryd.cellsE Tryd.cellsS hd1 ok1
  obtain ⟨a2, s2, rfl, hc2, hs2, hz2, rfl⟩ := errorString_of_trod Tryd.underlying56 Tryd.rowE Tryd.underlying129 Tryd.underlying155 rfl rfl Tryd.underlying9 Tryd.cellsE Tryd.cellsS hd2 ok2
  obtain ⟨c0, y0, hb0⟩ := (hrows 0 0 (by simp [MemPlace.row])).1
  obtain ⟨c1, y1, hb1⟩ := (hrows 1 0 (by simp [MemPlace.row])).1
  obtain ⟨c2, y2, hb2⟩ := (hrows 2 0 (by simp [MemPlace.row])).1
  obtain rfl := var_row hg0 hv0 hb0
  obtain rfl := var_row hg1 hv1 hb1
  obtain rfl := var_row hg2 hv2 hb2
  refine ⟨a0, a1, a2, y0, y1, y2, hb0, hb1, hb2, ?_, ?_, ?_⟩
  all_goals
    rintro rfl
    simp [MemPlace.row] at hnd
/-- all old blocks but those of the three variables -/
def GF (W : World) : Nat → Prop := fun b => b < W.heap.size ∧ b ≠ 0 ∧ b ≠ 1 ∧ b ≠ 2
/-- the three variables lie in blocks 0, 1, 2 -/
structure GAt (W : World) (u : Ers) : Prop where
  b0 : W.heap[0]? = some (.cells #[.iface u.t0 u.v0] u.y0 (0, 0))
  b1 : W.heap[1]? = some (.cells #[.iface u.t1 u.v1] u.y1 (0, 0))
  b2 : W.heap[2]? = some (.cells #[.iface u.t2 u.v2] u.y2 (0, 0))
theorem not_gl {W : World} {b off : Nat} {t y : TypeId} {v u : Value} {z : Int} (h : W.heap[b]? = some (.cells #[.iface t v] y (0, 0))) (hu : W.cell? ⟨b, off, none⟩ = some u) (hz : u = .int .i64 z) : False := by
  subst hz
  simp only [World.cell?, h] at hu
  have hu' : (#[Value.iface t v] : Array Value)[off]? = some (.int .i64 z) := by simpa using hu
  obtain ⟨hlt, e⟩ := Array.getElem?_eq_some_iff.1 hu'
  have h0 : off = 0 := by simp at hlt; omega
  subst h0
  cases e
theorem isl_out {W : World} {u : Ers} (g : GAt W u) {l : List Int} {v : Value} (h : Has W (allF W) (isl l) v) : Has W (GF W) (isl l) v := by
  obtain ⟨A, c, e, h1, h2, h⟩ := h
  refine ⟨A, c, e, h1, h2, fun hp => ?_⟩
  obtain ⟨b, off, eA, hb, hc⟩ := h hp
  obtain ⟨x, hx, _, hz⟩ := hc 0 0 hp (by omega)
  refine ⟨b, off, eA, ⟨hb, ?_, ?_, ?_⟩, fun i k hi hk => ?_⟩
  · rintro rfl; exact not_gl g.b0 hx hz
  · rintro rfl; exact not_gl g.b1 hx hz
  · rintro rfl; exact not_gl g.b2 hx hz
  · obtain ⟨y, hy, ho, hyz⟩ := hc i k hi hk
    exact ⟨y, hy, ho, hyz⟩
theorem vsl_out {W : World} {u : Ers} (g : GAt W u) {l : List Vx} {v : Value} (h : Has W (allF W) (vsl l) v) : Has W (GF W) (vsl l) v := by
  obtain ⟨A, c, e, h1, h2, h⟩ := h
  refine ⟨A, c, e, h1, h2, fun hp => ?_⟩
  obtain ⟨b, off, eA, hb, hc⟩ := h hp
  obtain ⟨x, hx, _, hz⟩ := hc 0 0 hp (by omega)
  refine ⟨b, off, eA, ⟨hb, ?_, ?_, ?_⟩, fun i k hi hk => ?_⟩
  · rintro rfl; exact not_gl g.b0 hx hz
  · rintro rfl; exact not_gl g.b1 hx hz
  · rintro rfl; exact not_gl g.b2 hx hz
  · obtain ⟨y, hy, ho, hyz⟩ := hc i k hi hk
    refine ⟨y, hy, ho, ?_⟩
    rcases (by omega : k = 0 ∨ k = 1 ∨ k = 2 ∨ k = 3) with rfl | rfl | rfl | rfl
    · exact hyz
    · exact hyz
    · exact isl_out g hyz
    · exact hyz
theorem law_callsV {f : FuncId} {ss : List SV} (h : ∀ u, SGl Tryd.prog u f ss (· = .b true)) {W : World} {u : Ers} (g : GAt W u) {args : Array Value} (ha : HasL W (GF W) ss args.toList) : Calls Tryd.prog f args W fun e W' => e = .returned (.bool true) ∧ Below W.heap.size W W' := by
  let R0 : Heaplet := ⟨fun _ => False, fun _ _ => True, fun _ _ => trivial, fun _ _ => trivial⟩
  have lt : ∀ {k : Nat} {o : Obj}, W.heap[k]? = some o → k < W.heap.size := fun h => (Array.getElem?_eq_some_iff.1 h).1
  have hbx : ∀ {k y t : Nat} {v : Value}, W.heap[k]? = some (.cells #[.iface t v] y (0, 0)) → (erH k y t v).holds W (GF W) := fun h => ⟨_, h, rfl, fun j hj => by
    obtain rfl : j = 0 := by omega
    exact ⟨rfl, rfl⟩⟩
  have hs0 : HSat W (GF W) [erH 0 u.y0 u.t0 u.v0, erH 1 u.y1 u.t1 u.v1, erH 2 u.y2 u.t2 u.v2, .cust R0] := by
    refine ⟨fun x hx => ?_, fun x hx b hb => ?_, ?_, fun b hb => hb.1⟩
    · simp only [List.mem_cons, List.not_mem_nil, or_false] at hx
      rcases hx with rfl | rfl | rfl | rfl
      · exact hbx g.b0
      · exact hbx g.b1
      · exact hbx g.b2
      · trivial
    · simp only [List.mem_cons, List.not_mem_nil, or_false] at hx
      rcases hx with rfl | rfl | rfl | rfl
      · obtain rfl : b = 0 := hb
        exact ⟨lt g.b0, fun h => h.2.1 rfl⟩
      · obtain rfl : b = 1 := hb
        exact ⟨lt g.b1, fun h => h.2.2.1 rfl⟩
      · obtain rfl : b = 2 := hb
        exact ⟨lt g.b2, fun h => h.2.2.2 rfl⟩
      · exact hb.elim
    · refine List.pairwise_cons.2 ⟨fun x hx b hb hbx => ?_, List.pairwise_cons.2 ⟨fun x hx b hb hbx => ?_, List.pairwise_cons.2 ⟨fun x hx b hb hbx => ?_, List.pairwise_singleton _ _⟩⟩⟩
      · obtain rfl : b = 0 := hb
        simp only [List.mem_cons, List.not_mem_nil, or_false] at hx
        rcases hx with rfl | rfl | rfl
        · cases (show (0 : Nat) = 1 from hbx)
        · cases (show (0 : Nat) = 2 from hbx)
        · exact hbx
      · obtain rfl : b = 1 := hb
        simp only [List.mem_cons, List.not_mem_nil, or_false] at hx
        rcases hx with rfl | rfl
        · cases (show (1 : Nat) = 2 from hbx)
        · exact hbx
      · simp only [List.mem_cons, List.not_mem_nil, or_false] at hx
        subst hx
        exact hbx
  refine (((h u).h R0).2 W _ args.toList hs0 ha).mono ?_
  rintro e W' ⟨v, rfl, r, F', H', ⟨rfl, rfl⟩, hk, hF, hs', hr⟩
  have hr : v = .bool true := hr
  subst hr
  have back : ∀ {k y t : Nat} {v : Value}, (erH k y t v).holds W' F' → W'.heap[k]? = some (.cells #[.iface t v] y (0, 0)) := fun ⟨cs, e, hn, hc⟩ => by
    have h0 : cs.getD 0 undef = _ := (hc 0 (by omega)).2
    obtain ⟨l⟩ := cs
    match l, hn with
    | [x], _ =>
      have : x = _ := h0
      rw [e, this]
  refine ⟨rfl, hk.os, hk.tape, hk.output, hk.size, fun b hb => ?_⟩
  by_cases c0 : b = 0
  · subst c0; exact (back (hs'.holds _ List.mem_cons_self)).trans g.b0.symm
  by_cases c1 : b = 1
  · subst c1; exact (back (hs'.holds _ (by simp))).trans g.b1.symm
  by_cases c2 : b = 2
  · subst c2; exact (back (hs'.holds _ (by simp))).trans g.b2.symm
  exact hk.blk b ⟨hb, c0, c1, c2⟩
theorem vars3_read {H : Type} (enc : TypeId × Value → H) {W : World} {u : Ers} (g : GAt W u) (sp : Nat → Bool) :
    DataW.TrodVars enc Tryd.prog W sp vars3 [tok enc (.iface u.t0 u.v0), tok enc (.iface u.t1 u.v1), tok enc (.iface u.t2 u.v2)] [.cell 0 0, .cell 1 0, .cell 2 0] := by
  have h0 : W.var? Tryd.prog "loop.example/dagconsensus/impl.errInvalid" = some #[.iface u.t0 u.v0] := by simp only [World.var?, Tryd.gn0, Option.bind_some, g.b0]
  have h1 : W.var? Tryd.prog "loop.example/dagconsensus/impl.errNoWave" = some #[.iface u.t1 u.v1] := by simp only [World.var?, Tryd.gn1, Option.bind_some, g.b1]
  have h2 : W.var? Tryd.prog "loop.example/dagconsensus/impl.errNoVertex" = some #[.iface u.t2 u.v2] := by simp only [World.var?, Tryd.gn2, Option.bind_some, g.b2]
  exact ⟨0, 56, #[.iface u.t0 u.v0], 1, [], [.cell 1 0, .cell 2 0], Tryd.gn0, Tryd.gt0, h0, trod_held (v := .iface u.t0 u.v0) Tryd.underlying56 trivial 0, ⟨1, 56, #[.iface u.t1 u.v1], 1, [], [.cell 2 0], Tryd.gn1, Tryd.gt1, h1, trod_held (v := .iface u.t1 u.v1) Tryd.underlying56 trivial 0, ⟨2, 56, #[.iface u.t2 u.v2], 1, [], [], Tryd.gn2, Tryd.gt2, h2, trod_held (v := .iface u.t2 u.v2) Tryd.underlying56 trivial 0, rfl, rfl⟩, rfl⟩, rfl⟩
theorem GAt.below {W W' : World} {u : Ers} (g : GAt W u) (hb : Below W.heap.size W W') : GAt W' u :=
  ⟨(hb.block 0 (Array.getElem?_eq_some_iff.1 g.b0).1).trans g.b0, (hb.block 1 (Array.getElem?_eq_some_iff.1 g.b1).1).trans g.b1, (hb.block 2 (Array.getElem?_eq_some_iff.1 g.b2).1).trans g.b2⟩
theorem law_liftedV {H : Type} {enc : TypeId × Value → H} {f : FuncId} {fn : Func} {s : ChangeSpec} {os : Os} (started : os.Started) (hfn : Tryd.checked.prog.funcs[f]? = some fn) (hno : Tryd.checked.prog.inits.idxOf? f = none) {bt : TypeId} (hbt : Tryd.prog.underlying bt = some .bool) (hrt : fn.resultTypes = #[bt])
    (hpr : (fn.params.toList.all fun t => Tryd.prog.readableRec t && Nat.blt t Tryd.prog.types.size) = true) (hv : s.vars = vars3) (hs : ∀ (ds : List (DataW H)) (g0 g1 g2 : DataW H), ds.length = fn.params.size → (s.fn H (ds ++ [g0, g1, g2])).results = [.lit (.bool true)] ∧ (s.fn H (ds ++ [g0, g1, g2])).args = ds ∧ (s.fn H (ds ++ [g0, g1, g2])).vars = [g0, g1, g2])
    (wit : ∃ (w : World) (tape : Tape) (i : Input), w.os = os ∧ (w.forCall tape i).Shaped Tryd.checked.prog ∧ i.vars = [] ∧ Input.okWide Tryd.checked.prog (w.forCall tape i) .any w.heap.size f i ∧
      ((s.pre enc Tryd.checked.prog fn [] false (w.forCall tape i).memory i.args ∧ laidMet Tryd.prog laid3 (w.forCall tape i).memory) ∧ sizedMet enc Tryd.checked.prog fn (OpenSpec.ofChange s) false (w.forCall tape i).memory i.args) ∧ ({} : Assume).holds Tryd.checked.prog (lone (Frame.enter Tryd.checked.prog f i.args .normal) [] (w.forCall tape i)))
    (hc : ∀ (W : World) (base : Nat) (args : Array Value) (ds : List (DataW H)) (ps : List MemPlace) (u : Ers), GAt W u → (∀ (j : Nat) t v, fn.params[j]? = some t → args[j]? = some v → Value.okWide Tryd.prog W .any base t v) →
      DataW.TrodAll enc Tryd.prog W 0 (fun _ => true) true fn.params.toList args.toList ds ps → Calls Tryd.prog f args W fun e W' => e = .returned (.bool true) ∧ Below W.heap.size W W') :
    ReturnsInHanded {} Tryd.checked os f .any (fun w args => (s.pre enc Tryd.checked.prog fn [] false w args ∧ laidMet Tryd.prog laid3 w) ∧ sizedMet enc Tryd.checked.prog fn (OpenSpec.ofChange s) false w args) (s.post enc Tryd.checked.prog fn false true false false) := by
  refine returnsInHanded_of_change_and (C := Tryd.checked) (X := fun w _ => laidMet Tryd.prog laid3 w) (fun _ _ _ hh h => h.of_heap hh) Tryd.own started hno hfn wit ?_
  intro W base args ds gs before hval hW _ _ hL _
  have hW' := hW
  obtain ⟨p, q, hA0, hV, rfl, hfz, hnd⟩ := hW
  have hA : DataW.TrodAll enc Tryd.prog W 0 (fun _ => true) true fn.params.toList args.toList ds p := hA0
  have hl : ds.length = fn.params.size := by
    have := trodAll_len hA
    simpa using this
  rw [hv] at hV
  obtain ⟨a0, a1, a2, y0, y1, y2, hb0, hb1, hb2, _⟩ := sent3_of_laid hL
  let u : Ers := ⟨y0, y1, y2, 129, 129, 129, .pointer (some a0), .pointer (some a1), .pointer (some a2)⟩
  have g : GAt W u := ⟨hb0, hb1, hb2⟩
  obtain ⟨rfl, rfl⟩ := hV.unique (vars3_read enc g _)
  obtain ⟨hs1, hs2, hs3⟩ := hs ds _ _ _ hl
  refine (hc W base args ds p u g hval hA).mono fun e W' ⟨he, hb⟩ => ⟨_, he, ds, _, _, [], p, [.cell 0 0, .cell 1 0, .cell 2 0], hW', ?_, ?_, ?_, hb.frame _, fun h => by cases h⟩
  · rw [hs1, hrt]
    exact trodAll_mk1 (shut_bool hbt true)
  · rw [hs2]
    exact trodAll_below hb (readable_ok hpr) hA fun x hx => hW'.lt x (by simp [hx])
  · rw [hs3, hv]
    exact vars3_read enc (g.below hb) _
end Go.Proofs.YtpmhikdefbcofaaDoor
/-! YtpmhikdefbcofaaDoorWg -/
set_option linter.all false
set_option maxRecDepth 100000
namespace Go.Proofs.YtpmhikdefbcofaaDoor
open Go.ChangeShapes Go.WideShapes Go.ChangeAt Go.RowKit

theorem not_str {W : World} {b : Nat} {t y : TypeId} {v : Value} {a : Addr} {s : ByteArray} (h : W.heap[b]? = some (.cells #[.iface t v] y (0, 0))) (hu : W.cell? a = some (.string s)) (e : a.block = b) : False := by
  subst e
  simp only [World.cell?, h] at hu
  split at hu
  · cases hu
  · have hu' : (#[Value.iface t v] : Array Value)[a.off]? = some (.string s) := hu
    obtain ⟨hlt, e⟩ := Array.getElem?_eq_some_iff.1 hu'
    have h0 : a.off = 0 := by simp at hlt; omega
    simp only [h0] at e
    cases e
theorem u8_out {W : World} {u : Ers} (g : GAt W u) {l : List Int} {v : Value} (h : Has W (allF W) (.sl 1 l.length (rowF u8F l)) v) : Has W (GF W) (.sl 1 l.length (rowF u8F l)) v := by
  obtain ⟨A, c, e, h1, h2, h⟩ := h
  refine ⟨A, c, e, h1, h2, fun hp => ?_⟩
  obtain ⟨b, off, eA, hb, hc⟩ := h hp
  obtain ⟨x, hx, _, hz⟩ := hc 0 0 hp (by omega)
  have ng : ∀ {b off : Nat} {t y : TypeId} {v u : Value} {z : Int}, W.heap[b]? = some (.cells #[.iface t v] y (0, 0)) → W.cell? ⟨b, off, none⟩ = some u → u = .int .u8 z → False := fun {b off t y v u z} h hu hz => by
    subst hz
    simp only [World.cell?, h] at hu
    have hu' : (#[Value.iface t v] : Array Value)[off]? = some (.int .u8 z) := by simpa using hu
    obtain ⟨hlt, e⟩ := Array.getElem?_eq_some_iff.1 hu'
    have h0 : off = 0 := by simp at hlt; omega
    subst h0
    cases e
  refine ⟨b, off, eA, ⟨hb, ?_, ?_, ?_⟩, fun i k hi hk => ?_⟩
  · rintro rfl; exact ng g.b0 hx hz
  · rintro rfl; exact ng g.b1 hx hz
  · rintro rfl; exact ng g.b2 hx hz
  · obtain ⟨y, hy, ho, hyz⟩ := hc i k hi hk
    refine ⟨y, hy, ho, ?_⟩
    obtain rfl : k = 0 := by omega
    exact hyz
theorem sentX_of_laid {W : World} (h : laidMet Tryd.prog laid3 W) :
    ∃ (a0 a1 a2 : Addr) (y0 y1 y2 : TypeId), W.heap[0]? = some (.cells #[.iface 129 (.pointer (some a0))] y0 (0, 0)) ∧ W.heap[1]? = some (.cells #[.iface 129 (.pointer (some a1))] y1 (0, 0)) ∧ W.heap[2]? = some (.cells #[.iface 129 (.pointer (some a2))] y2 (0, 0)) ∧ (a0 ≠ a1 ∧ a0 ≠ a2 ∧ a1 ≠ a2) ∧ (GF W a0.block ∧ GF W a1.block ∧ GF W a2.block) ∧ (∃ c t, W.heap[a0.block]? = some (.cells c t (0, 0))) ∧ (∃ c t, W.heap[a1.block]? = some (.cells c t (0, 0))) ∧ (∃ c t, W.heap[a2.block]? = some (.cells c t (0, 0))) := by
  obtain ⟨ps, ⟨g0, t0, cs0, f0, p0, q0, hg0, ht0, hv0, hd0, ⟨g1, t1, cs1, f1, p1, q1, hg1, ht1, hv1, hd1, ⟨g2, t2, cs2, f2, p2, q2, hg2, ht2, hv2, hd2, hq2, e2⟩, e1⟩, e0⟩, hnd, hrows⟩ := h
  obtain rfl := Option.some.inj (Tryd.gn0.symm.trans hg0)
  obtain rfl := Option.some.inj (Tryd.gn1.symm.trans hg1)
  obtain rfl := Option.some.inj (Tryd.gn2.symm.trans hg2)
  obtain rfl := Option.some.inj (Tryd.gt0.symm.trans ht0)
  obtain rfl := Option.some.inj (Tryd.gt1.symm.trans ht1)
  obtain rfl := Option.some.inj (Tryd.gt2.symm.trans ht2)
  have hq2' : q2 = [] := hq2
  subst hq2'
  subst e2
  subst e1
  subst e0
  obtain ⟨l0⟩ := cs0
  obtain ⟨l1⟩ := cs1
  obtain ⟨l2⟩ := cs2
  have ok0 : ∀ u v, l0 = [.iface u v] → Value.okWide Tryd.prog W .any 0 u v := fun u v e => by
    subst e
    exact (hrows 0 0 (by simp [MemPlace.row])).2 u v (by simpa using World.var?_cell hg0 hv0 0)
  have ok1 : ∀ u v, l1 = [.iface u v] → Value.okWide Tryd.prog W .any 0 u v := fun u v e => by
    subst e
    exact (hrows 1 0 (by simp [MemPlace.row])).2 u v (by simpa using World.var?_cell hg1 hv1 0)
  have ok2 : ∀ u v, l2 = [.iface u v] → Value.okWide Tryd.prog W .any 0 u v := fun u v e => by
    subst e
    exact (hrows 2 0 (by simp [MemPlace.row])).2 u v (by simpa using World.var?_cell hg2 hv2 0)
  obtain ⟨a0, s0, rfl, hc0, hs0, hz0, rfl⟩ := errorString_of_trod Tryd.underlying56 Tryd.rowE Tryd.underlying129 Tryd.underlying155 rfl rfl Tryd.underlying9 Tryd.cellsE Tryd.cellsS hd0 ok0
  obtain ⟨a1, s1, rfl, hc1, hs1, hz1, rfl⟩ := errorString_of_trod Tryd.underlying56 Tryd.rowE Tryd.underlying129 Tryd.underlying155 rfl rfl Tryd.underlying9 Tryd.cellsE Tryd.cellsS hd1 ok1
  obtain ⟨a2, s2, rfl, hc2, hs2, hz2, rfl⟩ := errorString_of_trod Tryd.underlying56 Tryd.rowE Tryd.underlying129 Tryd.underlying155 rfl rfl Tryd.underlying9 Tryd.cellsE Tryd.cellsS hd2 ok2
  obtain ⟨c0, y0, hb0⟩ := (hrows 0 0 (by simp [MemPlace.row])).1
  obtain ⟨c1, y1, hb1⟩ := (hrows 1 0 (by simp [MemPlace.row])).1
  obtain ⟨c2, y2, hb2⟩ := (hrows 2 0 (by simp [MemPlace.row])).1
  obtain rfl := var_row hg0 hv0 hb0
  obtain rfl := var_row hg1 hv1 hb1
  obtain rfl := var_row hg2 hv2 hb2
  have k0 := (hrows a0.block a0.off (by simp [MemPlace.row])).1
  have k1 := (hrows a1.block a1.off (by simp [MemPlace.row])).1
  have k2 := (hrows a2.block a2.off (by simp [MemPlace.row])).1
  have gf : ∀ {a : Addr} {s : ByteArray}, W.cell? a = some (.string s) → (∃ c t, W.heap[a.block]? = some (.cells c t (0, 0))) → GF W a.block := fun {a s} hc ⟨c, t, hk⟩ =>
    ⟨(Array.getElem?_eq_some_iff.1 hk).1, fun e => not_str hb0 hc e, fun e => not_str hb1 hc e, fun e => not_str hb2 hc e⟩
  refine ⟨a0, a1, a2, y0, y1, y2, hb0, hb1, hb2, ⟨?_, ?_, ?_⟩, ⟨gf hc0 k0, gf hc1 k1, gf hc2 k2⟩, k0, k1, k2⟩
  all_goals
    rintro rfl
    simp [MemPlace.row] at hnd
theorem law_callsX {f : FuncId} {ss : List SV} (h : ∀ u, SGx Tryd.prog u f ss (· = .b true)) {W : World} {u : Ers} (g : GAt W u) (gk : ErK u W (GF W)) {args : Array Value} (ha : HasL W (GF W) ss args.toList) : Calls Tryd.prog f args W fun e W' => e = .returned (.bool true) ∧ Below W.heap.size W W' := by
  let R0 : Heaplet := ⟨fun _ => False, fun _ _ => True, fun _ _ => trivial, fun _ _ => trivial⟩
  have lt : ∀ {k : Nat} {o : Obj}, W.heap[k]? = some o → k < W.heap.size := fun h => (Array.getElem?_eq_some_iff.1 h).1
  have hbx : ∀ {k y t : Nat} {v : Value}, W.heap[k]? = some (.cells #[.iface t v] y (0, 0)) → (erH k y t v).holds W (GF W) := fun h => ⟨_, h, rfl, fun j hj => by
    obtain rfl : j = 0 := by omega
    exact ⟨rfl, rfl⟩⟩
  have hs0 : HSat W (GF W) (erL u R0) := by
    refine ⟨fun x hx => ?_, fun x hx b hb => ?_, ?_, fun b hb => hb.1⟩
    · simp only [List.mem_cons, List.not_mem_nil, or_false] at hx
      rcases hx with rfl | rfl | rfl | rfl | rfl
      · exact hbx g.b0
      · exact hbx g.b1
      · exact hbx g.b2
      · exact gk
      · trivial
    · simp only [List.mem_cons, List.not_mem_nil, or_false] at hx
      rcases hx with rfl | rfl | rfl | rfl | rfl
      · obtain rfl : b = 0 := hb
        exact ⟨lt g.b0, fun h => h.2.1 rfl⟩
      · obtain rfl : b = 1 := hb
        exact ⟨lt g.b1, fun h => h.2.2.1 rfl⟩
      · obtain rfl : b = 2 := hb
        exact ⟨lt g.b2, fun h => h.2.2.2 rfl⟩
      · exact hb.elim
      · exact hb.elim
    · refine List.pairwise_cons.2 ⟨fun x hx b hb hbx => ?_, List.pairwise_cons.2 ⟨fun x hx b hb hbx => ?_, List.pairwise_cons.2 ⟨fun x hx b hb hbx => ?_, List.pairwise_cons.2 ⟨fun x hx b hb hbx => hb.elim, List.pairwise_singleton _ _⟩⟩⟩⟩
      · obtain rfl : b = 0 := hb
        simp only [List.mem_cons, List.not_mem_nil, or_false] at hx
        rcases hx with rfl | rfl | rfl | rfl
        · cases (show (0 : Nat) = 1 from hbx)
        · cases (show (0 : Nat) = 2 from hbx)
        · exact hbx
        · exact hbx
      · obtain rfl : b = 1 := hb
        simp only [List.mem_cons, List.not_mem_nil, or_false] at hx
        rcases hx with rfl | rfl | rfl
        · cases (show (1 : Nat) = 2 from hbx)
        · exact hbx
        · exact hbx
      · simp only [List.mem_cons, List.not_mem_nil, or_false] at hx
        rcases hx with rfl | rfl
        · exact hbx
        · exact hbx
  refine (((h u).h R0).2 W _ args.toList hs0 ha).mono ?_
  rintro e W' ⟨v, rfl, r, F', H', ⟨rfl, rfl⟩, hk, hF, hs', hr⟩
  have hr : v = .bool true := hr
  subst hr
  have back : ∀ {k y t : Nat} {v : Value}, (erH k y t v).holds W' F' → W'.heap[k]? = some (.cells #[.iface t v] y (0, 0)) := fun ⟨cs, e, hn, hc⟩ => by
    have h0 : cs.getD 0 undef = _ := (hc 0 (by omega)).2
    obtain ⟨l⟩ := cs
    match l, hn with
    | [x], _ =>
      have : x = _ := h0
      rw [e, this]
  refine ⟨rfl, hk.os, hk.tape, hk.output, hk.size, fun b hb => ?_⟩
  by_cases c0 : b = 0
  · subst c0; exact (back (hs'.holds _ List.mem_cons_self)).trans g.b0.symm
  by_cases c1 : b = 1
  · subst c1; exact (back (hs'.holds _ (by simp))).trans g.b1.symm
  by_cases c2 : b = 2
  · subst c2; exact (back (hs'.holds _ (by simp))).trans g.b2.symm
  exact hk.blk b ⟨hb, c0, c1, c2⟩
theorem law_liftedX {H : Type} {enc : TypeId × Value → H} {f : FuncId} {fn : Func} {s : ChangeSpec} {os : Os} (started : os.Started) (hfn : Tryd.checked.prog.funcs[f]? = some fn) (hno : Tryd.checked.prog.inits.idxOf? f = none) {bt : TypeId} (hbt : Tryd.prog.underlying bt = some .bool) (hrt : fn.resultTypes = #[bt])
    (hpr : (fn.params.toList.all fun t => Tryd.prog.readableRec t && Nat.blt t Tryd.prog.types.size) = true) (hv : s.vars = vars3) (hs : ∀ (ds : List (DataW H)) (g0 g1 g2 : DataW H), ds.length = fn.params.size → (s.fn H (ds ++ [g0, g1, g2])).results = [.lit (.bool true)] ∧ (s.fn H (ds ++ [g0, g1, g2])).args = ds ∧ (s.fn H (ds ++ [g0, g1, g2])).vars = [g0, g1, g2])
    (wit : ∃ (w : World) (tape : Tape) (i : Input), w.os = os ∧ (w.forCall tape i).Shaped Tryd.checked.prog ∧ i.vars = [] ∧ Input.okWide Tryd.checked.prog (w.forCall tape i) .any w.heap.size f i ∧
      ((s.pre enc Tryd.checked.prog fn [] false (w.forCall tape i).memory i.args ∧ laidMet Tryd.prog laid3 (w.forCall tape i).memory) ∧ sizedMet enc Tryd.checked.prog fn (OpenSpec.ofChange s) false (w.forCall tape i).memory i.args) ∧ ({} : Assume).holds Tryd.checked.prog (lone (Frame.enter Tryd.checked.prog f i.args .normal) [] (w.forCall tape i)))
    (hc : ∀ (W : World) (base : Nat) (args : Array Value) (ds : List (DataW H)) (ps : List MemPlace) (u : Ers), GAt W u → ErK u W (GF W) → (∀ (j : Nat) t v, fn.params[j]? = some t → args[j]? = some v → Value.okWide Tryd.prog W .any base t v) →
      DataW.TrodAll enc Tryd.prog W 0 (fun _ => true) true fn.params.toList args.toList ds ps → Calls Tryd.prog f args W fun e W' => e = .returned (.bool true) ∧ Below W.heap.size W W') :
    ReturnsInHanded {} Tryd.checked os f .any (fun w args => (s.pre enc Tryd.checked.prog fn [] false w args ∧ laidMet Tryd.prog laid3 w) ∧ sizedMet enc Tryd.checked.prog fn (OpenSpec.ofChange s) false w args) (s.post enc Tryd.checked.prog fn false true false false) := by
  refine returnsInHanded_of_change_and (C := Tryd.checked) (X := fun w _ => laidMet Tryd.prog laid3 w) (fun _ _ _ hh h => h.of_heap hh) Tryd.own started hno hfn wit ?_
  intro W base args ds gs before hval hW _ _ hL _
  have hW' := hW
  obtain ⟨p, q, hA0, hV, rfl, hfz, hnd⟩ := hW
  have hA : DataW.TrodAll enc Tryd.prog W 0 (fun _ => true) true fn.params.toList args.toList ds p := hA0
  have hl : ds.length = fn.params.size := by
    have := trodAll_len hA
    simpa using this
  rw [hv] at hV
  obtain ⟨a0, a1, a2, y0, y1, y2, hb0, hb1, hb2, hne, hgf, hk0, hk1, hk2⟩ := sentX_of_laid hL
  let u : Ers := ⟨y0, y1, y2, 129, 129, 129, .pointer (some a0), .pointer (some a1), .pointer (some a2)⟩
  have g : GAt W u := ⟨hb0, hb1, hb2⟩
  have gk : ErK u W (GF W) := ⟨⟨rfl, rfl, rfl⟩, a0, a1, a2, ⟨rfl, rfl, rfl⟩, hne, hgf, hk0, hk1, hk2⟩
  obtain ⟨rfl, rfl⟩ := hV.unique (vars3_read enc g _)
  obtain ⟨hs1, hs2, hs3⟩ := hs ds _ _ _ hl
  refine (hc W base args ds p u g gk hval hA).mono fun e W' ⟨he, hb⟩ => ⟨_, he, ds, _, _, [], p, [.cell 0 0, .cell 1 0, .cell 2 0], hW', ?_, ?_, ?_, hb.frame _, fun h => by cases h⟩
  · rw [hs1, hrt]
    exact trodAll_mk1 (shut_bool hbt true)
  · rw [hs2]
    exact trodAll_below hb (readable_ok hpr) hA fun x hx => hW'.lt x (by simp [hx])
  · rw [hs3, hv]
    exact vars3_read enc (g.below hb) _
end Go.Proofs.YtpmhikdefbcofaaDoor
/-! YtpmhikdefbcofaaDoorNs -/
set_option linter.all false
namespace Go.Proofs.YtpmhikdefbcofaaDoor
open Go.RowKit

abbrev vgx (vs : List Vx) (i : Nat) : Vx := vs.getD i default
/-- where the inner lists lie -/
abbrev Ow := Nat → Option Addr × Nat
def inV (O : Ow) (v : Vx) (i : Nat) : Value := .slice (O i).1 v.ps.length (O i).2
def vxC (O : Ow) (v : Vx) (i : Nat) : Nat → SV := litF [.i v.r, .i v.a, .val (inV O v i), .i v.d]
/-- the cells of the outer row -/
def vxO (O : Ow) (l : List Vx) : Nat → Nat → SV := fun i => vxC O (vgx l i) i
def prow (O : Ow) (l : List Vx) (i : Nat) : Hp := .row (inV O (vgx l i) i) 3 1 (vgx l i).ps.length (rowF intF (vgx l i).ps)
/-- the inner rows -/
def psH (O : Ow) (l : List Vx) (k : Nat) : List Hp := (List.range k).map (prow O l)
theorem psH_succ {O : Ow} {l : List Vx} {k : Nat} : psH O l (k + 1) = psH O l k ++ [prow O l k] := by simp [psH, List.range_succ]
theorem psH_get {O : Ow} {l : List Vx} {n k : Nat} (h : k < n) : (psH O l n)[k]? = some (prow O l k) := by simp [psH, h]
theorem psH_congr {O O' : Ow} {l l' : List Vx} {k : Nat} (h : ∀ i, i < k → prow O l i = prow O' l' i) : psH O l k = psH O' l' k := by
  unfold psH
  exact List.map_congr_left fun i hi => h i (List.mem_range.1 hi)
theorem psH_erase {O : Ow} {l l' : List Vx} {n k : Nat} (h : ∀ i, i < n → i ≠ k → prow O l i = prow O l' i) : (psH O l n).eraseIdx k = (psH O l' n).eraseIdx k := by
  apply List.ext_getElem?
  intro i
  rw [List.getElem?_eraseIdx, List.getElem?_eraseIdx]
  have key : ∀ j, j ≠ k → (psH O l n)[j]? = (psH O l' n)[j]? := fun j hj => by
    by_cases hn : j < n
    · rw [psH_get hn, psH_get hn, h j hn hj]
    · simp [psH, hn]
  split
  · exact key i (by omega)
  · exact key (i + 1) (by omega)

theorem HSat.push {w : World} {F : Nat → Prop} {A B Z : List Hp} {p : Hp} (h : HSat w F (A ++ .cust (Proofs.YtpmhikdefbcofaaDoor.bundle Z) :: p :: B)) : HSat w F (A ++ .cust (Proofs.YtpmhikdefbcofaaDoor.bundle (Z ++ [p])) :: B) :=
  HSat.bundleK (by
    have h1 := HSat.unbundleK (A := A) (B := p :: B) h
    rwa [show A ++ (Z ++ [p]) ++ B = A ++ Z ++ p :: B by simp])
theorem HSat.pull {w : World} {F : Nat → Prop} {B Z : List Hp} {p : Hp} {k : Nat} (hk : Z[k]? = some p) (h : HSat w F (.cust (Proofs.YtpmhikdefbcofaaDoor.bundle Z) :: B)) : HSat w F (p :: .cust (Proofs.YtpmhikdefbcofaaDoor.bundle (Z.eraseIdx k)) :: B) :=
  HSat.bundleK (A := [p]) (by
    have h1 := HSat.unbundleK (A := []) (B := B) h
    exact h1.perm ((perm_erase hk).append_right B))
theorem HSat.back {w : World} {F : Nat → Prop} {B Z : List Hp} {p : Hp} {k : Nat} (hk : Z[k]? = some p) (h : HSat w F (p :: .cust (Proofs.YtpmhikdefbcofaaDoor.bundle (Z.eraseIdx k)) :: B)) : HSat w F (.cust (Proofs.YtpmhikdefbcofaaDoor.bundle Z) :: B) :=
  HSat.bundleK (A := []) (by
    have h1 := HSat.unbundleK (A := [p]) (B := B) h
    exact h1.perm ((perm_erase hk).symm.append_right B))
theorem HLe.via {L L' : Hpl} (H1 : List Hp) (hp : fcH (L.map Prod.snd) fun H => PPick H H1) (h : ∀ w F, HSat w F H1 → HSat w F (L'.map Prod.snd)) : HLe L L' := fun w F hs => by
  rw [fcH_eq] at hp
  exact ⟨F, fun _ h => h, h w F (hp.sat hs)⟩
/-- the heap of a walk, told anew -/
theorem HT.heap {P : Program} {n : Nat} {c : Code} {Q : Exit → St → Prop} {s : St} (L' : Hpl) (h : ∀ w F, HSat w F (s.L.map Prod.snd) → HSat w F (L'.map Prod.snd)) (k : HT P n c Q ⟨s.σ, L', s.nx⟩) : HT P n c Q s :=
  HT.le (s' := ⟨s.σ, L', s.nx⟩) (fun n F a w hs => ⟨F, fun _ h => h, hs.size, hs.defers, hs.fr, h w F hs.heap⟩) k
/-- vertices, all of whose memory is new -/
def MadeVs (l : List Vx) (r : SV) (N : List Hp) : Prop := ∃ A n c O, n = l.length ∧ r = .own 0 (.slice A n c) ∧ N = [.row (.slice A n c) 37 4 l.length (vxO O l), .cust (bundle (psH O l l.length))]
/-- what is owned so reads as vertices -/
theorem Lends.vs {L : Hpl} {v : Value} {O : Ow} {l : List Vx} (hm : Hp.row v 37 4 l.length (vxO O l) ∈ L.map Prod.snd) (hb : Hp.cust (bundle (psH O l l.length)) ∈ L.map Prod.snd) : Lends L (.val v) (vsl l) := fun w F x hs hx => by
  have e : x = v := hx
  subst e
  have h1 := row_all hs hm
  have h2 := hs.holds _ hb
  have hfp : ∀ b, (Hp.cust (bundle (psH O l l.length))).fp b → b < w.heap.size := fun b h => (hs.fp _ hb b h).1
  refine Has.slL (fun i j hi hj u hu => ?_) h1
  rcases (by omega : j = 0 ∨ j = 1 ∨ j = 2 ∨ j = 3) with rfl | rfl | rfl | rfl
  · exact hu
  · exact hu
  · have e : u = inV O (vgx l i) i := hu
    subst e
    have hmem : prow O l i ∈ psH O l l.length := List.mem_of_getElem? (psH_get hi)
    exact row_sl (h2.1 _ hmem) (fun b hb => hs.lt b hb) (fun b h => hfp b ⟨_, hmem, h⟩)
  · exact hu
end Go.Proofs.YtpmhikdefbcofaaDoor
/-! YtpmhikdefbcofaaDoorNt -/
set_option linter.all false
namespace Go.Proofs.YtpmhikdefbcofaaDoor
open Go.RowKit

/-- a vertex whose parents are owned -/
def MadeVx (v : Vx) (r : SV) (N : List Hp) : Prop := ∃ A n c, n = v.ps.length ∧ r = .agg 4 (litF [.i v.r, .i v.a, .own 0 (.slice A n c), .i v.d]) ∧ N = [.row (.slice A n c) 3 1 v.ps.length (rowF intF v.ps)]
theorem toVertex_o (v : Vx) (hv : v.ps.length ≤ 1000000000) : SNew Tryd.prog 36 [vxV v] (MadeVx v) := ⟨fun R => by
  refine SCalls.enter tt_ok Tryd.func36 (by kernel_rfl) rfl [(900, .cust R)] rfl (argF _) (fun w F v k h => h) (by simp) ?_
  repeat' (first | (with_reducible first | refine HT.seq ?_ | refine HT.block ?_ | refine Br.not ?_) | ((with_reducible first | refine HT.region tt_ok ?_ | refine HT.drawn tt_ok (by kernel_rfl) (by decide +kernel) ?_ | refine HT.drawnL tt_ok (by kernel_rfl) (by decide +kernel) ?_ | refine HT.cond ?_ | refine HT.ret ?_ | refine HT.skip ?_ | refine HT.exit ?_ | refine Br.tt ?_ | refine Br.ff ?_); conv => whnf) | ((with_reducible first | refine Br.dec (fun hc => ?_) (fun hc => ?_) | refine Br.eq (fun hc => ?_) (fun hc => ?_) | refine Br.ne (fun hc => ?_) (fun hc => ?_)) <;> (first | (exfalso; omega) | conv => whnf)) | ((with_reducible first | refine Br.ttE (by decide) ?_ | refine Br.ffE (by decide) ?_ | refine Br.mk (fun hc => ?_) (fun hc => ?_) | refine Chk.mk (by first | omega | with_reducible rfl | (refine ⟨rfl, ?_⟩; omega) | decide | exact ⟨rfl, by omega, by omega, rfl⟩ | exact ⟨by assumption, rfl, by omega, by omega⟩) ?_ | refine Ar.fit (by omega) ?_ | refine Eqv.shr1 ?_ | refine Ar.u64 (by omega) ?_) <;> conv => whnf) | ((first | (refine CallN.new _ (toIntS_o v.ps hv) ?_; rintro r N ⟨l, A, n, c, rfl, hn, rfl, rfl⟩)) <;> conv => whnf) | (with_reducible exact trivial) | ((with_reducible refine And.intro ?_ ?_) <;> conv => whnf) | (intro gn; conv => whnf))
  exact Fin.news [_] (fun _ => 0) (by refine PP.start ?_; repeat (first | exact PP.nil | refine PP.take (by first | with_reducible exact Hp.Sub.refl _ | exact Hp.Sub.rd (by omega) | exact Hp.Sub.rowA rfl (fun i j hi hj => rfl) | exact Hp.Sub.boxA (by (repeat (first | exact all_lt_zero | refine all_lt_succ (p := fun j => CellLe _ _) (by first | with_reducible exact CellLe.refl _ | exact CellLe.own | exact CellLe.i (by omega) | exact CellLe.nil | exact CellLe.slNil | exact CellLe.refl _) ?_))) | exact Hp.Sub.refl _) ?_ | refine PP.skip ?_)) ⟨_, _, _, hn, rfl, rfl⟩⟩
/-- one more place -/
def owS (O : Ow) (k : Nat) (a : Option Addr × Nat) : Ow := fun i => if i = k then a else O i
theorem owS_ne {O : Ow} {k i : Nat} {a : Option Addr × Nat} (h : i ≠ k) : owS O k a i = O i := if_neg h
theorem owS_eq {O : Ow} {k : Nat} {a : Option Addr × Nat} : owS O k a k = a := if_pos rfl
theorem vxO_ow {O : Ow} {l : List Vx} {k i j : Nat} {a : Option Addr × Nat} (h : i ≠ k) : vxO (owS O k a) l i j = vxO O l i j := by
  unfold vxO vxC inV
  rw [owS_ne h]
theorem psH_ow {O : Ow} {l : List Vx} {k : Nat} {a : Option Addr × Nat} : psH (owS O k a) l k = psH O l k := psH_congr fun i hi => by
  unfold prow inV
  rw [owS_ne (by omega)]
set_option maxRecDepth 100000 in
theorem toVertexS_o (vs : List Vx) (hl : vs.length ≤ 100000000) (hv : ∀ v ∈ vs, v.ps.length ≤ 1000000000) : SNew Tryd.prog 13 [vsl vs] (MadeVs vs) := ⟨fun R => by
  refine SCalls.enter tt_ok Tryd.func13 (by kernel_rfl) rfl [(900, .cust R)] rfl (argF _) (fun w F v k h => h) (by simp) ?_
  repeat' (first | (with_reducible first | refine HT.seq ?_ | refine HT.block ?_ | refine Br.not ?_) | ((with_reducible first | refine HT.region tt_ok ?_ | refine HT.drawn tt_ok (by kernel_rfl) (by decide +kernel) ?_ | refine HT.drawnL tt_ok (by kernel_rfl) (by decide +kernel) ?_ | refine HT.cond ?_ | refine HT.ret ?_ | refine HT.skip ?_ | refine HT.exit ?_ | refine Br.tt ?_ | refine Br.ff ?_); conv => whnf) | ((with_reducible first | refine Br.dec (fun hc => ?_) (fun hc => ?_) | refine Br.eq (fun hc => ?_) (fun hc => ?_) | refine Br.ne (fun hc => ?_) (fun hc => ?_)) <;> (first | (exfalso; omega) | conv => whnf)) | ((with_reducible first | refine Br.ttE (by decide) ?_ | refine Br.ffE (by decide) ?_ | refine Br.mk (fun hc => ?_) (fun hc => ?_) | refine Chk.mk (by first | omega | with_reducible rfl | (refine ⟨rfl, ?_⟩; omega) | decide | exact ⟨rfl, by omega, by omega, rfl⟩ | exact ⟨by assumption, rfl, by omega, by omega⟩) ?_ | refine Ar.fit (by omega) ?_ | refine Eqv.shr1 ?_ | refine Ar.u64 (by omega) ?_) <;> conv => whnf) | (with_reducible exact trivial) | ((with_reducible refine And.intro ?_ ?_) <;> conv => whnf) | (intro gn; conv => whnf))
  revert gn; intro gb
  refine HT.bundleN 110 [] (L' := [(100, .row (.slice (some ⟨gb, 0, none⟩) (vs.length : Int).toNat (vs.length : Int).toNat) 37 4 (vs.length : Int).toNat (fun _ => (zF [.int .i64 0, .int .i64 0, .slice none 0 0, .int .i64 0]))), (900, .cust R)]) (fun w F hs => hs) ?_
  refine HT.loopC [0, 2, 3] (fun x : Nat × Ow => [(4, .i x.1)]) (fun x : Nat × Ow => [(110, .cust (bundle (psH x.2 vs x.1))), (100, .cells (part (vxO x.2 vs) (zF [.int .i64 0, .int .i64 0, .slice none 0 0, .int .i64 0]) x.1))]) (fun x : Nat × Ow => x.1 ≤ vs.length) (fun x : Nat × Ow => vs.length - x.1) (0, fun _ => (none, 0)) (Nat.zero_le _) ⟨(by first | with_reducible exact CellLe.refl _ | exact CellLe.own | exact CellLe.i (by omega) | exact CellLe.nil | exact CellLe.slNil | exact CellLe.refl _), trivial⟩ ?_ ?_
  · conv => whnf
    refine PP.start ?_; repeat (first | exact PP.nil | refine PP.take (by first | with_reducible exact Hp.Sub.refl _ | exact Hp.Sub.rd (by omega) | exact Hp.Sub.rowL rfl (fun w F i j hi hj => LeW.of_eq (part_ge (Nat.zero_le _)).symm) | exact Hp.Sub.boxA (by (repeat (first | exact all_lt_zero | refine all_lt_succ (p := fun j => CellLe _ _) (by first | with_reducible exact CellLe.refl _ | exact CellLe.own | exact CellLe.i (by omega) | exact CellLe.nil | exact CellLe.slNil | exact CellLe.refl _) ?_))) | exact Hp.Sub.refl _) ?_ | refine PP.skip ?_)
  conv => whnf
  rintro ⟨k, O⟩ hk
  dsimp only at hk ⊢
  have hvk : k < vs.length → (vs.getD k default).ps.length ≤ 1000000000 := fun h => hv _ (by rw [show vs.getD k default = vs[k] by simp [h]]; exact List.getElem_mem _)
  conv => whnf
  repeat' (first | (with_reducible first | refine HT.seq ?_ | refine HT.block ?_ | refine Br.not ?_) | ((with_reducible first | refine HT.region tt_ok ?_ | refine HT.drawn tt_ok (by kernel_rfl) (by decide +kernel) ?_ | refine HT.drawnL tt_ok (by kernel_rfl) (by decide +kernel) ?_ | refine HT.cond ?_ | refine HT.ret ?_ | refine HT.skip ?_ | refine HT.exit ?_ | refine Br.tt ?_ | refine Br.ff ?_); conv => whnf) | ((with_reducible first | refine Br.dec (fun hc => ?_) (fun hc => ?_) | refine Br.eq (fun hc => ?_) (fun hc => ?_) | refine Br.ne (fun hc => ?_) (fun hc => ?_)) <;> (first | (exfalso; omega) | conv => whnf)) | ((with_reducible first | refine Br.ttE (by decide) ?_ | refine Br.ffE (by decide) ?_ | refine Br.mk (fun hc => ?_) (fun hc => ?_) | refine Chk.mk (by first | omega | with_reducible rfl | (refine ⟨rfl, ?_⟩; omega) | decide | exact ⟨rfl, by omega, by omega, rfl⟩ | exact ⟨by assumption, rfl, by omega, by omega⟩) ?_ | refine Ar.fit (by omega) ?_ | refine Eqv.shr1 ?_ | refine Ar.u64 (by omega) ?_) <;> conv => whnf) | ((first | (refine CallN.new _ (toVertex_o (vs.getD k default) (hvk (by omega))) ?_; rintro r N ⟨A, n, c, hn, rfl, rfl⟩; subst hn)) <;> conv => whnf) | (with_reducible exact trivial) | ((with_reducible refine And.intro ?_ ?_) <;> conv => whnf) | (intro gn; conv => whnf))
  all_goals (try simp only [Int.toNat_natCast] at *)
  · refine ⟨⟨(k + 1, owS O k (A, c)), by dsimp only; omega, by dsimp only; omega, (by repeat' (first | exact trivial | refine ⟨rfl, ?_⟩)), ⟨(by first | with_reducible exact CellLe.refl _ | exact CellLe.own | exact CellLe.i (by omega) | exact CellLe.nil | exact CellLe.slNil | exact CellLe.refl _), trivial⟩, ?_⟩⟩
    refine HLe.via [.cust (bundle (psH O vs k)), .row (.slice A (vs.getD k default).ps.length c) 3 1 (vs.getD k default).ps.length (rowF intF (vs.getD k default).ps), .row (.slice (some ⟨gb, 0, none⟩) vs.length vs.length) 37 4 vs.length (part (vxO (owS O k (A, c)) vs) (zF [.int .i64 0, .int .i64 0, .slice none 0 0, .int .i64 0]) (k + 1)), .cust R] (by
      conv => whnf
      refine PP.start ?_; repeat (first | exact PP.nil | refine PP.take (by first | with_reducible exact Hp.Sub.refl _ | exact Hp.Sub.rd (by omega) | exact Hp.Sub.rowA rfl (fun i j hi hj => rfl) | exact Hp.Sub.rowL (by omega) (fun w F i j hi hj => put_row (fun j hj => by rw [part_lt (Nat.lt_succ_self k)]; unfold vxO vxC inV; rw [owS_eq]; rcases (by omega : j = 0 ∨ j = 1 ∨ j = 2 ∨ j = 3) with rfl | rfl | rfl | rfl <;> exact fun _ h => h) (fun hne j hj => LeW.of_eq (by rw [part_next hne]; unfold part; split; exact (vxO_ow hne).symm; rfl)) hj) | exact Hp.Sub.boxA (by (repeat (first | exact all_lt_zero | refine all_lt_succ (p := fun j => CellLe _ _) (by first | with_reducible exact CellLe.refl _ | exact CellLe.own | exact CellLe.i (by omega) | exact CellLe.nil | exact CellLe.slNil | exact CellLe.refl _) ?_))) | exact Hp.Sub.refl _) ?_ | refine PP.skip ?_)) (fun w F hs => ?_)
    have h1 := HSat.push (A := []) hs
    show HSat w F [.cust (bundle (psH (owS O k (A, c)) vs (k + 1))), .row (.slice (some ⟨gb, 0, none⟩) (vs.length : Int).toNat (vs.length : Int).toNat) 37 4 (vs.length : Int).toNat (part (vxO (owS O k (A, c)) vs) (zF [.int .i64 0, .int .i64 0, .slice none 0 0, .int .i64 0]) (k + 1)), .cust R]
    rw [psH_succ, psH_ow]
    unfold prow inV
    rw [owS_eq]
    simpa using h1
  · obtain rfl : k = vs.length := by omega
    exact Fin.news [_, _] (fun _ => 0) (by refine PP.start ?_; repeat (first | exact PP.nil | refine PP.take (by first | with_reducible exact Hp.Sub.refl _ | exact Hp.Sub.rd (by omega) | exact Hp.Sub.rowA (by first | rfl | simp) (fun i j hi hj => part_lt (by omega)) | exact Hp.Sub.boxA (by (repeat (first | exact all_lt_zero | refine all_lt_succ (p := fun j => CellLe _ _) (by first | with_reducible exact CellLe.refl _ | exact CellLe.own | exact CellLe.i (by omega) | exact CellLe.nil | exact CellLe.slNil | exact CellLe.refl _) ?_))) | exact Hp.Sub.refl _) ?_ | refine PP.skip ?_)) ⟨_, _, _, O, (by first | rfl | simp), rfl, rfl⟩⟩
end Go.Proofs.YtpmhikdefbcofaaDoor
/-! YtpmhikdefbcofaaDoorNu -/
set_option linter.all false
namespace Go.Proofs.YtpmhikdefbcofaaDoor
open Go.RowKit

/-- how many marks stand ahead of vertex k -/
def off (l : List Vx) : Nat → Nat
  | 0 => 0
  | k + 1 => off l k + 3 + (vgx l k).ps.length
theorem off_succ (l : List Vx) (k : Nat) : off l (k + 1) = off l k + 3 + (vgx l k).ps.length := rfl
theorem off_mono {l : List Vx} : ∀ {n k : Nat}, k ≤ n → off l k ≤ off l n
  | 0, k, h => by rw [show k = 0 by omega]; exact Nat.le_refl _
  | n + 1, k, h => by
    rcases Nat.eq_or_lt_of_le h with h1 | h1
    · rw [h1]; exact Nat.le_refl _
    · have := off_mono (l := l) (n := n) (k := k) (by omega)
      rw [off_succ]; omega
theorem off_le {l : List Vx} {B : Nat} (h : ∀ v ∈ l, v.ps.length ≤ B) : ∀ {k : Nat}, k ≤ l.length → off l k ≤ k * (B + 3)
  | 0, _ => Nat.zero_le _
  | k + 1, hk => by
    have h1 := off_le h (k := k) (by omega)
    have h2 := h (vgx l k) (by rw [show vgx l k = l[k] by simp [vgx, show k < l.length by omega]]; exact List.getElem_mem _)
    rw [off_succ, Nat.add_mul, Nat.one_mul]
    omega
def mkV (z : Int) (l : List Vx) (i : Nat) : Vx := ⟨z + off l i, z + off l i + 1, mkL (fun j => z + off l i + 2 + j) (vgx l i).ps.length, z + off l i + 2 + (vgx l i).ps.length⟩
/-- the first k are marked -/
def mixV (z : Int) (l : List Vx) (k : Nat) : List Vx := mkL (fun j => if j < k then mkV z l j else vgx l j) l.length
theorem mixV_len {z : Int} {l : List Vx} {k : Nat} : (mixV z l k).length = l.length := mkL_len
theorem mixV_lt {z : Int} {l : List Vx} {k j : Nat} (hj : j < l.length) (h : j < k) : vgx (mixV z l k) j = mkV z l j := (mkL_get hj).trans (if_pos h)
theorem mixV_ge {z : Int} {l : List Vx} {k j : Nat} (hj : j < l.length) (h : k ≤ j) : vgx (mixV z l k) j = vgx l j := (mkL_get hj).trans (if_neg (by omega))
theorem mixV_ne {z : Int} {l : List Vx} {k j : Nat} (hj : j < l.length) (h : j ≠ k) : vgx (mixV z l k) j = vgx (mixV z l (k + 1)) j := by
  rcases Nat.lt_or_ge j k with h1 | h1
  · rw [mixV_lt hj h1, mixV_lt hj (by omega)]
  · rw [mixV_ge hj h1, mixV_ge hj (by omega)]
theorem mixV_0 {z : Int} {l : List Vx} : mixV z l 0 = l := by
  apply List.ext_getElem mixV_len
  intro i h1 h2
  have := mixV_ge (z := z) (k := 0) h2 (Nat.zero_le i)
  simpa [vgx, List.getD_eq_getElem?_getD, h1, h2] using this
theorem mixV_end {z : Int} {l : List Vx} : mixV z l l.length = mkL (mkV z l) l.length := by
  apply List.ext_getElem (by rw [mixV_len, mkL_len])
  intro i h1 h2
  have hi : i < l.length := by rwa [mixV_len] at h1
  have e1 := mixV_lt (z := z) (k := l.length) hi hi
  have e2 := mkL_get (m := mkV z l) hi
  simp only [vgx, List.getD_eq_getElem?_getD, List.getElem?_eq_getElem h1, Option.getD_some] at e1
  simp only [List.getD_eq_getElem?_getD, List.getElem?_eq_getElem h2, Option.getD_some] at e2
  rw [e1, e2]
/-- cell 2 is told apart -/
def two (X : Nat → Value) (f : Nat → Nat → SV) : Nat → Nat → SV := fun i j => bif Nat.beq j 2 then .val (X i) else f i j
theorem Hp.Sub.two {v : Value} {e : TypeId} {n : Nat} {X : Nat → Value} {f : Nat → Nat → SV} (h : ∀ i, i < n → f i 2 = .val (X i)) : (Hp.row v e 4 n f).Sub (.row v e 4 n (Proofs.YtpmhikdefbcofaaDoor.two X f)) :=
  Hp.Sub.row fun i j hi hj => by
    unfold Proofs.YtpmhikdefbcofaaDoor.two
    rcases (by omega : j = 0 ∨ j = 1 ∨ j = 2 ∨ j = 3) with rfl | rfl | rfl | rfl
    · rfl
    · rfl
    · exact h i hi
    · rfl
theorem HT.heapP {P : Program} {n : Nat} {c : Code} {Q : Exit → St → Prop} {s : St} (L' : Hpl) (h : fcH (s.L.map Prod.snd) fun H => PPick H (L'.map Prod.snd)) (k : HT P n c Q ⟨s.σ, L', s.nx⟩) : HT P n c Q s := by
  rw [fcH_eq] at h
  exact HT.heap L' (fun w F hs => h.sat hs) k
theorem inV_mix {O : Ow} {l : List Vx} {z : Int} {k i : Nat} (hi : i < l.length) : inV O (vgx (mixV z l k) i) i = inV O (vgx l i) i := by
  unfold inV
  rcases Nat.lt_or_ge i k with h | h
  · rw [mixV_lt hi h]; unfold mkV; rw [mkL_len]
  · rw [mixV_ge hi h]
theorem two_vx {O : Ow} {l : List Vx} {z : Int} {p i : Nat} {a0 a1 : SV} (hi : i < l.length) : putR p (0 + 1) 1 (fun _ => a1) (putR p (0 + 0) 1 (fun _ => a0) (vxO O (mixV z l p))) i 2 = .val (inV O (vgx l i) i) := by
  by_cases h : i = p
  · subst h
    rw [putR_eqf, putR_eqf]
    show SV.val (inV O (vgx (mixV z l i) i) i) = _
    rw [inV_mix hi]
  · rw [putR_ne h, putR_ne h]
    show SV.val (inV O (vgx (mixV z l p) i) i) = _
    rw [inV_mix hi]
theorem mark_vx {w : World} {F : Nat → Prop} {O : Ow} {l : List Vx} {z : Int} {p j c : Nat} {a0 a1 a3 : Int} (hp : p < l.length) (hj : j < l.length) (h0 : a0 = z + off l p) (h1 : a1 = z + off l p + 1) (h3 : a3 = z + off l p + 2 + (vgx l p).ps.length) (hc : c < 4) :
    LeW w F (putR p (0 + 3) 1 (fun _ => .i a3) (two (fun i => inV O (vgx l i) i) (putR p (0 + 1) 1 (fun _ => .i a1) (putR p (0 + 0) 1 (fun _ => .i a0) (vxO O (mixV z l p))))) j c) (vxO O (mixV z l (p + 1)) j c) := by
  refine LeW.of_eq ?_
  have h2 : two (fun i => inV O (vgx l i) i) (putR p (0 + 1) 1 (fun _ => .i a1) (putR p (0 + 0) 1 (fun _ => .i a0) (vxO O (mixV z l p)))) j c = putR p (0 + 1) 1 (fun _ => .i a1) (putR p (0 + 0) 1 (fun _ => .i a0) (vxO O (mixV z l p))) j c := by
    rcases (by omega : c = 0 ∨ c = 1 ∨ c = 2 ∨ c = 3) with rfl | rfl | rfl | rfl
    · rfl
    · rfl
    · exact (two_vx hj).symm
    · rfl
  by_cases h : j = p
  · subst h
    rw [putR_eqf] at h2 ⊢
    rw [putR_eqf] at h2
    rcases (by omega : c = 0 ∨ c = 1 ∨ c = 2 ∨ c = 3) with rfl | rfl | rfl | rfl
    · exact h2.trans (by
        show SV.i a0 = SV.i (vgx (mixV z l (j + 1)) j).r
        rw [mixV_lt hp (Nat.lt_succ_self j), h0]; rfl)
    · exact h2.trans (by
        show SV.i a1 = SV.i (vgx (mixV z l (j + 1)) j).a
        rw [mixV_lt hp (Nat.lt_succ_self j), h1]; rfl)
    · show SV.val (inV O (vgx l j) j) = .val (inV O (vgx (mixV z l (j + 1)) j) j)
      rw [inV_mix hp]
    · show SV.i a3 = SV.i (vgx (mixV z l (j + 1)) j).d
      rw [mixV_lt hp (Nat.lt_succ_self j), h3]; rfl
  · rw [putR_ne h, h2, putR_ne h, putR_ne h]
    unfold vxO
    rw [mixV_ne hj h]
theorem prow_mk {O : Ow} {l : List Vx} {z : Int} {k : Nat} (hk : k < l.length) : prow O (mixV z l (k + 1)) k = .row (.slice (O k).1 (vgx l k).ps.length (O k).2) 3 1 (vgx l k).ps.length (rowF intF (mkL (fun i => z + off l k + 2 + i) (vgx l k).ps.length)) := by
  unfold prow inV
  rw [mixV_lt hk (Nat.lt_succ_self k)]
  unfold mkV
  rw [mkL_len]
theorem prow_old {O : Ow} {l : List Vx} {z : Int} {k : Nat} (hk : k < l.length) : prow O (mixV z l k) k = .row (.slice (O k).1 (vgx l k).ps.length (O k).2) 3 1 (vgx l k).ps.length (rowF intF (vgx l k).ps) := by
  unfold prow inV
  rw [mixV_ge hk (Nat.le_refl _)]
theorem psH_mk {O : Ow} {l : List Vx} {z : Int} {k : Nat} : (psH O (mixV z l k) l.length).eraseIdx k = (psH O (mixV z l (k + 1)) l.length).eraseIdx k := psH_erase fun i hi hne => by
  unfold prow
  rw [mixV_ne hi hne]
abbrev vRow (A : Option Addr) (cp n : Nat) (f : Nat → Nat → SV) : Hp := .row (.slice A n cp) 37 4 n f
set_option maxRecDepth 100000 in
set_option maxHeartbeats 400000 in
theorem markVertexS_c (l : List Vx) (A : Option Addr) (cp : Nat) (O : Ow) (z : Int) (hl : l.length ≤ 100000000) (hp : ∀ v ∈ l, v.ps.length ≤ 100000000) (hz : 0 ≤ z) (hb : z + off l l.length ≤ 100000000000000) (R : Heaplet) :
    SCalls Tryd.prog 30 [.val (.slice A l.length cp), .i z] [.cust (bundle (psH O l l.length)), vRow A cp l.length (vxO O l), .cust R] fun r H' => ∃ N, H' = N ++ [.cust R] ∧ r = .i (z + off l l.length) ∧ N = [.cust (bundle (psH O (mkL (mkV z l) l.length) l.length)), vRow A cp l.length (vxO O (mkL (mkV z l) l.length))] := by
  refine SCalls.enter tt_ok Tryd.func30 (by kernel_rfl) rfl [(0, .cust (bundle (psH O l l.length))), (1, .row (.slice A l.length cp) 37 4 l.length (vxO O l)), (900, .cust R)] rfl (upd (argF [.val (.slice A l.length cp), .i z]) 0 (.own 1 (.slice A l.length cp))) (fun w F x k h => own_argK h) (by simp) ?_
  repeat' (first | (with_reducible first | refine HT.seq ?_ | refine HT.block ?_ | refine Br.not ?_) | ((with_reducible first | refine HT.region tt_ok ?_ | refine HT.drawn tt_ok (by kernel_rfl) (by decide +kernel) ?_ | refine HT.drawnL tt_ok (by kernel_rfl) (by decide +kernel) ?_ | refine HT.cond ?_ | refine HT.ret ?_ | refine HT.skip ?_ | refine HT.exit ?_ | refine Br.tt ?_ | refine Br.ff ?_); conv => whnf) | ((with_reducible first | refine Br.dec (fun hc => ?_) (fun hc => ?_) | refine Br.eq (fun hc => ?_) (fun hc => ?_) | refine Br.ne (fun hc => ?_) (fun hc => ?_)) <;> (first | (exfalso; omega) | conv => whnf)) | ((with_reducible first | refine Br.ttE (by decide) ?_ | refine Br.ffE (by decide) ?_ | refine Br.mk (fun hc => ?_) (fun hc => ?_) | refine Chk.mk (by first | omega | with_reducible rfl | (refine ⟨rfl, ?_⟩; omega) | decide | exact ⟨rfl, by omega, by omega, rfl⟩ | exact ⟨by assumption, rfl, by omega, by omega⟩) ?_ | refine Ar.fit (by omega) ?_ | refine Eqv.shr1 ?_ | refine Ar.u64 (by omega) ?_) <;> conv => whnf) | (with_reducible exact trivial) | ((with_reducible refine And.intro ?_ ?_) <;> conv => whnf) | (intro gn; conv => whnf))
  refine HT.loopC [0, 4] (fun k : Nat => [(5, .i k), (1, .i (z + off l k))]) (fun k : Nat => [(0, .cust (bundle (psH O (mixV z l k) l.length))), (1, .cells (vxO O (mixV z l k)))]) (fun k : Nat => k ≤ l.length) (fun k : Nat => l.length - k) 0 (Nat.zero_le _) ⟨(by first | with_reducible exact CellLe.refl _ | exact CellLe.own | exact CellLe.i (by omega) | exact CellLe.nil | exact CellLe.slNil | exact CellLe.refl _ | exact CellLe.i (by simp [off])), (by first | with_reducible exact CellLe.refl _ | exact CellLe.own | exact CellLe.i (by omega) | exact CellLe.nil | exact CellLe.slNil | exact CellLe.refl _ | exact CellLe.i (by simp [off])), trivial⟩ ?_ ?_
  · conv => whnf
    refine PP.start ?_; repeat (first | exact PP.nil | refine PP.take (by first | with_reducible exact Hp.Sub.refl _ | exact Hp.Sub.rd (by omega) | (rw [mixV_0]; exact Hp.Sub.refl _) | exact Hp.Sub.boxA (by (repeat (first | exact all_lt_zero | refine all_lt_succ (p := fun j => CellLe _ _) (by first | with_reducible exact CellLe.refl _ | exact CellLe.own | exact CellLe.i (by omega) | exact CellLe.nil | exact CellLe.slNil | exact CellLe.refl _ | exact CellLe.i (by simp [off])) ?_))) | exact Hp.Sub.refl _) ?_ | refine PP.skip ?_)
  conv => whnf
  intro k hk
  have hbk := off_mono (l := l) hk
  by_cases hkl : k < l.length
  rotate_left
  · obtain rfl : k = l.length := by omega
    conv => whnf
    repeat' (first | (with_reducible first | refine HT.seq ?_ | refine HT.block ?_ | refine Br.not ?_) | ((with_reducible first | refine HT.region tt_ok ?_ | refine HT.drawn tt_ok (by kernel_rfl) (by decide +kernel) ?_ | refine HT.drawnL tt_ok (by kernel_rfl) (by decide +kernel) ?_ | refine HT.cond ?_ | refine HT.ret ?_ | refine HT.skip ?_ | refine HT.exit ?_ | refine Br.tt ?_ | refine Br.ff ?_); conv => whnf) | ((with_reducible first | refine Br.dec (fun hc => ?_) (fun hc => ?_) | refine Br.eq (fun hc => ?_) (fun hc => ?_) | refine Br.ne (fun hc => ?_) (fun hc => ?_)) <;> (first | (exfalso; omega) | conv => whnf)) | ((with_reducible first | refine Br.ttE (by decide) ?_ | refine Br.ffE (by decide) ?_ | refine Br.mk (fun hc => ?_) (fun hc => ?_) | refine Chk.mk (by first | omega | with_reducible rfl | (refine ⟨rfl, ?_⟩; omega) | decide | exact ⟨rfl, by omega, by omega, rfl⟩ | exact ⟨by assumption, rfl, by omega, by omega⟩) ?_ | refine Ar.fit (by omega) ?_ | refine Eqv.shr1 ?_ | refine Ar.u64 (by omega) ?_) <;> conv => whnf) | (with_reducible exact trivial) | ((with_reducible refine And.intro ?_ ?_) <;> conv => whnf) | (intro gn; conv => whnf))
    exact Fin.pick (r' := .i (z + off l l.length)) (H' := [.cust (bundle (psH O (mkL (mkV z l) l.length) l.length)), vRow A cp l.length (vxO O (mkL (mkV z l) l.length)), .cust R]) (by rw [← mixV_end]; refine PP.start ?_; repeat (first | exact PP.nil | refine PP.take (by first | with_reducible exact Hp.Sub.refl _ | exact Hp.Sub.rd (by omega) | exact Hp.Sub.rowA rfl (fun i j hi hj => rfl) | exact Hp.Sub.boxA (by (repeat (first | exact all_lt_zero | refine all_lt_succ (p := fun j => CellLe _ _) (by first | with_reducible exact CellLe.refl _ | exact CellLe.own | exact CellLe.i (by omega) | exact CellLe.nil | exact CellLe.slNil | exact CellLe.refl _) ?_))) | exact Hp.Sub.refl _) ?_ | refine PP.skip ?_)) (fun w F v h => h) ⟨_, rfl, rfl, rfl⟩
  have hvk : (vgx l k).ps.length ≤ 100000000 := hp _ (by rw [show vgx l k = l[k] by simp [vgx, hkl]]; exact List.getElem_mem _)
  have hoff := off_succ l k
  have hbk1 := off_mono (l := l) (show k + 1 ≤ l.length from hkl)
  refine HT.heap [(50, .row (.slice (O k).1 (vgx l k).ps.length (O k).2) 3 1 (vgx l k).ps.length (rowF intF (vgx l k).ps)), (0, .cust (bundle ((psH O (mixV z l k) l.length).eraseIdx k))), (1, .row (.slice A l.length cp) 37 4 l.length (vxO O (mixV z l k))), (900, .cust R)] (fun w F hs => by rw [show (.row _ _ _ _ _ : Hp) = _ from (prow_old (O := O) (z := z) hkl).symm]; exact HSat.pull (psH_get hkl) hs) ?_
  have hval : vxO O (mixV z l k) ((k : Int)).toNat = vxC O (vgx l k) k := by rw [Int.toNat_natCast]; unfold vxO; rw [mixV_ge hkl (Nat.le_refl _)]
  conv => whnf
  repeat' (first | (with_reducible refine HT.stopR 8 ?_) | (with_reducible first | refine HT.seq ?_ | refine HT.block ?_ | refine Br.not ?_) | ((with_reducible first | refine HT.region tt_ok ?_ | refine HT.drawn tt_ok (by kernel_rfl) (by decide +kernel) ?_ | refine HT.drawnL tt_ok (by kernel_rfl) (by decide +kernel) ?_ | refine HT.cond ?_ | refine HT.ret ?_ | refine HT.skip ?_ | refine HT.exit ?_ | refine Br.tt ?_ | refine Br.ff ?_); conv => whnf) | ((with_reducible first | refine Br.dec (fun hc => ?_) (fun hc => ?_) | refine Br.eq (fun hc => ?_) (fun hc => ?_) | refine Br.ne (fun hc => ?_) (fun hc => ?_)) <;> (first | (exfalso; omega) | conv => whnf)) | ((with_reducible first | refine Br.ttE (by decide) ?_ | refine Br.ffE (by decide) ?_ | refine Br.mk (fun hc => ?_) (fun hc => ?_) | refine Chk.mk (by first | omega | with_reducible rfl | (refine ⟨rfl, ?_⟩; omega) | decide | exact ⟨rfl, by omega, by omega, rfl⟩ | exact ⟨by assumption, rfl, by omega, by omega⟩) ?_ | refine Ar.fit (by omega) ?_ | refine Eqv.shr1 ?_ | refine Ar.u64 (by omega) ?_) <;> conv => whnf) | (with_reducible exact trivial) | ((with_reducible refine And.intro ?_ ?_) <;> conv => whnf) | (intro gn; conv => whnf))
  refine ⟨HT.heapP [(50, _), (0, _), (1, .row _ _ _ _ (two (fun i => inV O (vgx l i) i) _)), (900, .cust R)] (by
    conv => whnf
    refine PP.start ?_; repeat (first | exact PP.nil | refine PP.take (by first | with_reducible exact Hp.Sub.refl _ | exact Hp.Sub.rd (by omega) | (rw [Int.toNat_natCast]; exact Hp.Sub.two (fun i hi => two_vx hi)) | exact Hp.Sub.boxA (by (repeat (first | exact all_lt_zero | refine all_lt_succ (p := fun j => CellLe _ _) (by first | with_reducible exact CellLe.refl _ | exact CellLe.own | exact CellLe.i (by omega) | exact CellLe.nil | exact CellLe.slNil | exact CellLe.refl _) ?_))) | exact Hp.Sub.refl _) ?_ | refine PP.skip ?_)) ?_⟩
  conv => whnf
  repeat' (first | (with_reducible first | refine HT.seq ?_ | refine HT.block ?_ | refine Br.not ?_) | ((with_reducible first | refine HT.region tt_ok ?_ | refine HT.drawn tt_ok (by kernel_rfl) (by decide +kernel) ?_ | refine HT.drawnL tt_ok (by kernel_rfl) (by decide +kernel) ?_ | refine HT.cond ?_ | refine HT.ret ?_ | refine HT.skip ?_ | refine HT.exit ?_ | refine Br.tt ?_ | refine Br.ff ?_); conv => whnf) | ((with_reducible first | refine Br.dec (fun hc => ?_) (fun hc => ?_) | refine Br.eq (fun hc => ?_) (fun hc => ?_) | refine Br.ne (fun hc => ?_) (fun hc => ?_)) <;> (first | (exfalso; omega) | conv => whnf)) | ((with_reducible first | refine Br.ttE (by decide) ?_ | refine Br.ffE (by decide) ?_ | refine Br.mk (fun hc => ?_) (fun hc => ?_) | refine Chk.mk (by first | omega | with_reducible rfl | (refine ⟨rfl, ?_⟩; omega) | decide | exact ⟨rfl, by omega, by omega, rfl⟩ | exact ⟨by assumption, rfl, by omega, by omega⟩) ?_ | refine Ar.fit (by omega) ?_ | refine Eqv.shr1 ?_ | refine Ar.u64 (by omega) ?_) <;> conv => whnf) | ((first | (refine CallN.turn1 50 _ _ rfl rfl (fun _ _ _ _ h => by cases h) (markIntS_c (vgx l k).ps (O k).1 (O k).2 _ hvk (by omega)) ?_; rintro r N p' ⟨rfl, rfl, rfl⟩)) <;> conv => whnf) | (with_reducible exact trivial) | ((with_reducible refine And.intro ?_ ?_) <;> conv => whnf) | (intro gn; conv => whnf))
  all_goals (try simp only [Int.toNat_natCast] at *)
  refine ⟨⟨k + 1, by omega, by omega, (by repeat' (first | exact trivial | refine ⟨rfl, ?_⟩)), ⟨(by first | with_reducible exact CellLe.refl _ | exact CellLe.own | exact CellLe.i (by omega) | exact CellLe.nil | exact CellLe.slNil | exact CellLe.refl _), (by first | with_reducible exact CellLe.refl _ | exact CellLe.own | exact CellLe.i (by omega) | exact CellLe.nil | exact CellLe.slNil | exact CellLe.refl _), trivial⟩, ?_⟩⟩
  refine HLe.via [.row (.slice (O k).1 (vgx l k).ps.length (O k).2) 3 1 (vgx l k).ps.length (rowF intF (mkL (fun i => z + off l k + 2 + i) (vgx l k).ps.length)), .cust (bundle ((psH O (mixV z l k) l.length).eraseIdx k)), .row (.slice A l.length cp) 37 4 l.length (vxO O (mixV z l (k + 1))), .cust R] (by
    conv => whnf
    refine PP.start ?_; repeat (first | exact PP.nil | refine PP.take (by first | with_reducible exact Hp.Sub.refl _ | exact Hp.Sub.rd (by omega) | exact Hp.Sub.rowA rfl (fun i j hi hj => by rw [show (fun i : Nat => z + (off l k : Int) + 1 + 1 + (i : Int)) = fun i : Nat => z + off l k + 2 + i from funext fun i => by omega]) | exact Hp.Sub.rowL rfl (fun w F i j hi hj => mark_vx hkl hi rfl rfl (by omega) hj) | exact Hp.Sub.rowL rfl (fun w F i j hi hj => mark_vx hkl hi (by omega) (by omega) (by omega) hj) | exact Hp.Sub.boxA (by (repeat (first | exact all_lt_zero | refine all_lt_succ (p := fun j => CellLe _ _) (by first | with_reducible exact CellLe.refl _ | exact CellLe.own | exact CellLe.i (by omega) | exact CellLe.nil | exact CellLe.slNil | exact CellLe.refl _) ?_))) | exact Hp.Sub.refl _) ?_ | refine PP.skip ?_)) (fun w F hs => ?_)
  rw [← prow_mk hkl, psH_mk] at hs
  exact HSat.back (psH_get hkl) hs
end Go.Proofs.YtpmhikdefbcofaaDoor
