/- The frame of a law with three laid package variables. -/
import Derived.Test.YtpmhikdefbcofaaDoorWb
import Derived.RowKitTokens
import Derived.LaidLaws
import Derived.ChangeVars
import Derived.Stop.ErrReads
set_option linter.all false
set_option maxRecDepth 100000
namespace Go.Proofs.YtpmhikdefbcofaaDoor
open Go.ChangeShapes Go.WideShapes Go.ChangeAt Go.RowKit

theorem Tryd.gn0 : Tryd.prog.globalNamed "loop.example/dagconsensus/impl.errInvalid" = some 0 := by kernel_rfl
theorem Tryd.gt0 : (Tryd.prog.globals[0]?).map (·.type) = some 56 := by kernel_rfl
theorem Tryd.gn1 : Tryd.prog.globalNamed "loop.example/dagconsensus/impl.errNoWave" = some 1 := by kernel_rfl
theorem Tryd.gt1 : (Tryd.prog.globals[1]?).map (·.type) = some 56 := by kernel_rfl
theorem Tryd.gn2 : Tryd.prog.globalNamed "loop.example/dagconsensus/impl.errNoVertex" = some 2 := by kernel_rfl
theorem Tryd.gt2 : (Tryd.prog.globals[2]?).map (·.type) = some 56 := by kernel_rfl
abbrev laid3 : List (String × DataW Unit) := [("loop.example/dagconsensus/impl.errInvalid", Rows.laid_loop_example_dagconsensus_impl_errInvalid), ("loop.example/dagconsensus/impl.errNoWave", Rows.laid_loop_example_dagconsensus_impl_errNoWave), ("loop.example/dagconsensus/impl.errNoVertex", Rows.laid_loop_example_dagconsensus_impl_errNoVertex)]
abbrev vars3 : List String := ["loop.example/dagconsensus/impl.errInvalid", "loop.example/dagconsensus/impl.errNoWave", "loop.example/dagconsensus/impl.errNoVertex"]
theorem Tryd.nameE : Tryd.prog.typeName? 3 129 = some "*errors.errorString" := by kernel_rfl
theorem Tryd.cellsE : Tryd.prog.cellsOf 155 = 1 := by kernel_rfl
theorem Tryd.cellsS : Tryd.prog.cellsOf 9 = 1 := by kernel_rfl
theorem Tryd.starE : "*" ++ "errors.errorString" = "*errors.errorString" := by decide
theorem Tryd.rowE (u : TypeId) (h : Tryd.prog.typeName? 3 u = some "*errors.errorString") : u = 129 :=
  typeName_ptr_named (nm := "errors.errorString") (by rw [Tryd.starE]; kernel_rfl) (by kernel_rfl) (by decide) u (by rw [Tryd.starE]; exact h)
/-- what one of the variables holds -/
theorem var_row {W : World} {n : String} {g : Nat} {cs : Array Value} (hg : Tryd.prog.globalNamed n = some g) (h : W.var? Tryd.prog n = some cs) {c : Array Value} {y : TypeId} (hb : W.heap[g]? = some (.cells c y (0, 0))) : c = cs := by
  simp only [World.var?, hg, Option.bind_some, hb, Option.some.injEq] at h
  exact h
theorem sent3_of_laid {W : World} (h : laidMet Tryd.prog laid3 W) :
    ∃ (a0 a1 a2 : Addr) (y0 y1 y2 : TypeId), W.heap[0]? = some (.cells #[.iface 129 (.pointer (some a0))] y0 (0, 0)) ∧ W.heap[1]? = some (.cells #[.iface 129 (.pointer (some a1))] y1 (0, 0)) ∧ W.heap[2]? = some (.cells #[.iface 129 (.pointer (some a2))] y2 (0, 0)) ∧ a0 ≠ a1 ∧ a0 ≠ a2 ∧ a1 ≠ a2 := by
  obtain ⟨ps, ⟨g0, t0, cs0, f0, p0, q0, hg0, ht0, hv0, hd0, ⟨g1, t1, cs1, f1, p1, q1, hg1, ht1, hv1, hd1, ⟨g2, t2, cs2, f2, p2, q2, hg2, ht2, hv2, hd2, hq2, e2⟩, e1⟩, e0⟩, hnd, hrows⟩ := h
  obtain rfl := Option.some.inj (Tryd.gn0.symm.trans hg0)
  obtain rfl := Option.some.inj (Tryd.gn1.symm.trans hg1)
  obtain rfl := Option.some.inj (Tryd.gn2.symm.trans hg2)
  obtain rfl := Option.some.inj (Tryd.gt0.symm.trans ht0)
  obtain rfl := Option.some.inj (Tryd.gt1.symm.trans ht1)
  obtain rfl := Option.some.inj (Tryd.gt2.symm.trans ht2)
  have hq2' : q2 = [] := hq2
  subst hq2'
  subst e2
  subst e1
  subst e0
  obtain ⟨l0⟩ := cs0
  obtain ⟨l1⟩ := cs1
  obtain ⟨l2⟩ := cs2
  have ok0 : ∀ u v, l0 = [.iface u v] → Value.okWide Tryd.prog W .any 0 u v := fun u v e => by
    subst e
    exact (hrows 0 0 (by simp [MemPlace.row])).2 u v (by simpa using World.var?_cell hg0 hv0 0)
  have ok1 : ∀ u v, l1 = [.iface u v] → Value.okWide Tryd.prog W .any 0 u v := fun u v e => by
    subst e
    exact (hrows 1 0 (by simp [MemPlace.row])).2 u v (by simpa using World.var?_cell hg1 hv1 0)
  have ok2 : ∀ u v, l2 = [.iface u v] → Value.okWide Tryd.prog W .any 0 u v := fun u v e => by
    subst e
    exact (hrows 2 0 (by simp [MemPlace.row])).2 u v (by simpa using World.var?_cell hg2 hv2 0)
  obtain ⟨a0, s0, rfl, hc0, hs0, hz0, rfl⟩ := errorString_of_trod Tryd.underlying56 Tryd.rowE Tryd.underlying129 Tryd.underlying155 rfl rfl Tryd.underlying9 Tryd.cellsE Tryd.cellsS hd0 ok0
  obtain ⟨a1, s1, rfl, hc1, hs1, hz1, rfl⟩ := errorString_of_trod Tryd.underlying56 Tryd.rowE Tryd.underlying129 Tryd.underlying155 rfl rfl Tryd.underlying9 Tryd.cellsE Tryd.cellsS hd1 ok1
  obtain ⟨a2, s2, rfl, hc2, hs2, hz2, rfl⟩ := errorString_of_trod Tryd.underlying56 Tryd.rowE Tryd.underlying129 Tryd.underlying155 rfl rfl Tryd.underlying9 Tryd.cellsE Tryd.cellsS hd2 ok2
  obtain ⟨c0, y0, hb0⟩ := (hrows 0 0 (by simp [MemPlace.row])).1
  obtain ⟨c1, y1, hb1⟩ := (hrows 1 0 (by simp [MemPlace.row])).1
  obtain ⟨c2, y2, hb2⟩ := (hrows 2 0 (by simp [MemPlace.row])).1
  obtain rfl := var_row hg0 hv0 hb0
  obtain rfl := var_row hg1 hv1 hb1
  obtain rfl := var_row hg2 hv2 hb2
  refine ⟨a0, a1, a2, y0, y1, y2, hb0, hb1, hb2, ?_, ?_, ?_⟩
  all_goals
    rintro rfl
    simp [MemPlace.row] at hnd
/-- all old blocks but those of the three variables -/
def GF (W : World) : Nat → Prop := fun b => b < W.heap.size ∧ b ≠ 0 ∧ b ≠ 1 ∧ b ≠ 2
/-- the three variables lie in blocks 0, 1, 2 -/
structure GAt (W : World) (u : Ers) : Prop where
  b0 : W.heap[0]? = some (.cells #[.iface u.t0 u.v0] u.y0 (0, 0))
  b1 : W.heap[1]? = some (.cells #[.iface u.t1 u.v1] u.y1 (0, 0))
  b2 : W.heap[2]? = some (.cells #[.iface u.t2 u.v2] u.y2 (0, 0))
theorem not_gl {W : World} {b off : Nat} {t y : TypeId} {v u : Value} {z : Int} (h : W.heap[b]? = some (.cells #[.iface t v] y (0, 0))) (hu : W.cell? ⟨b, off, none⟩ = some u) (hz : u = .int .i64 z) : False := by
  subst hz
  simp only [World.cell?, h] at hu
  have hu' : (#[Value.iface t v] : Array Value)[off]? = some (.int .i64 z) := by simpa using hu
  obtain ⟨hlt, e⟩ := Array.getElem?_eq_some_iff.1 hu'
  have h0 : off = 0 := by simp at hlt; omega
  subst h0
  cases e
theorem isl_out {W : World} {u : Ers} (g : GAt W u) {l : List Int} {v : Value} (h : Has W (allF W) (isl l) v) : Has W (GF W) (isl l) v := by
  obtain ⟨A, c, e, h1, h2, h⟩ := h
  refine ⟨A, c, e, h1, h2, fun hp => ?_⟩
  obtain ⟨b, off, eA, hb, hc⟩ := h hp
  obtain ⟨x, hx, _, hz⟩ := hc 0 0 hp (by omega)
  refine ⟨b, off, eA, ⟨hb, ?_, ?_, ?_⟩, fun i k hi hk => ?_⟩
  · rintro rfl; exact not_gl g.b0 hx hz
  · rintro rfl; exact not_gl g.b1 hx hz
  · rintro rfl; exact not_gl g.b2 hx hz
  · obtain ⟨y, hy, ho, hyz⟩ := hc i k hi hk
    exact ⟨y, hy, ho, hyz⟩
theorem vsl_out {W : World} {u : Ers} (g : GAt W u) {l : List Vx} {v : Value} (h : Has W (allF W) (vsl l) v) : Has W (GF W) (vsl l) v := by
  obtain ⟨A, c, e, h1, h2, h⟩ := h
  refine ⟨A, c, e, h1, h2, fun hp => ?_⟩
  obtain ⟨b, off, eA, hb, hc⟩ := h hp
  obtain ⟨x, hx, _, hz⟩ := hc 0 0 hp (by omega)
  refine ⟨b, off, eA, ⟨hb, ?_, ?_, ?_⟩, fun i k hi hk => ?_⟩
  · rintro rfl; exact not_gl g.b0 hx hz
  · rintro rfl; exact not_gl g.b1 hx hz
  · rintro rfl; exact not_gl g.b2 hx hz
  · obtain ⟨y, hy, ho, hyz⟩ := hc i k hi hk
    refine ⟨y, hy, ho, ?_⟩
    rcases (by omega : k = 0 ∨ k = 1 ∨ k = 2 ∨ k = 3) with rfl | rfl | rfl | rfl
    · exact hyz
    · exact hyz
    · exact isl_out g hyz
    · exact hyz
theorem law_callsV {f : FuncId} {ss : List SV} (h : ∀ u, SGl Tryd.prog u f ss (· = .b true)) {W : World} {u : Ers} (g : GAt W u) {args : Array Value} (ha : HasL W (GF W) ss args.toList) : Calls Tryd.prog f args W fun e W' => e = .returned (.bool true) ∧ Below W.heap.size W W' := by
  let R0 : Heaplet := ⟨fun _ => False, fun _ _ => True, fun _ _ => trivial, fun _ _ => trivial⟩
  have lt : ∀ {k : Nat} {o : Obj}, W.heap[k]? = some o → k < W.heap.size := fun h => (Array.getElem?_eq_some_iff.1 h).1
  have hbx : ∀ {k y t : Nat} {v : Value}, W.heap[k]? = some (.cells #[.iface t v] y (0, 0)) → (erH k y t v).holds W (GF W) := fun h => ⟨_, h, rfl, fun j hj => by
    obtain rfl : j = 0 := by omega
    exact ⟨rfl, rfl⟩⟩
  have hs0 : HSat W (GF W) [erH 0 u.y0 u.t0 u.v0, erH 1 u.y1 u.t1 u.v1, erH 2 u.y2 u.t2 u.v2, .cust R0] := by
    refine ⟨fun x hx => ?_, fun x hx b hb => ?_, ?_, fun b hb => hb.1⟩
    · simp only [List.mem_cons, List.not_mem_nil, or_false] at hx
      rcases hx with rfl | rfl | rfl | rfl
      · exact hbx g.b0
      · exact hbx g.b1
      · exact hbx g.b2
      · trivial
    · simp only [List.mem_cons, List.not_mem_nil, or_false] at hx
      rcases hx with rfl | rfl | rfl | rfl
      · obtain rfl : b = 0 := hb
        exact ⟨lt g.b0, fun h => h.2.1 rfl⟩
      · obtain rfl : b = 1 := hb
        exact ⟨lt g.b1, fun h => h.2.2.1 rfl⟩
      · obtain rfl : b = 2 := hb
        exact ⟨lt g.b2, fun h => h.2.2.2 rfl⟩
      · exact hb.elim
    · refine List.pairwise_cons.2 ⟨fun x hx b hb hbx => ?_, List.pairwise_cons.2 ⟨fun x hx b hb hbx => ?_, List.pairwise_cons.2 ⟨fun x hx b hb hbx => ?_, List.pairwise_singleton _ _⟩⟩⟩
      · obtain rfl : b = 0 := hb
        simp only [List.mem_cons, List.not_mem_nil, or_false] at hx
        rcases hx with rfl | rfl | rfl
        · cases (show (0 : Nat) = 1 from hbx)
        · cases (show (0 : Nat) = 2 from hbx)
        · exact hbx
      · obtain rfl : b = 1 := hb
        simp only [List.mem_cons, List.not_mem_nil, or_false] at hx
        rcases hx with rfl | rfl
        · cases (show (1 : Nat) = 2 from hbx)
        · exact hbx
      · simp only [List.mem_cons, List.not_mem_nil, or_false] at hx
        subst hx
        exact hbx
  refine (((h u).h R0).2 W _ args.toList hs0 ha).mono ?_
  rintro e W' ⟨v, rfl, r, F', H', ⟨rfl, rfl⟩, hk, hF, hs', hr⟩
  have hr : v = .bool true := hr
  subst hr
  have back : ∀ {k y t : Nat} {v : Value}, (erH k y t v).holds W' F' → W'.heap[k]? = some (.cells #[.iface t v] y (0, 0)) := fun ⟨cs, e, hn, hc⟩ => by
    have h0 : cs.getD 0 undef = _ := (hc 0 (by omega)).2
    obtain ⟨l⟩ := cs
    match l, hn with
    | [x], _ =>
      have : x = _ := h0
      rw [e, this]
  refine ⟨rfl, hk.os, hk.tape, hk.output, hk.size, fun b hb => ?_⟩
  by_cases c0 : b = 0
  · subst c0; exact (back (hs'.holds _ List.mem_cons_self)).trans g.b0.symm
  by_cases c1 : b = 1
  · subst c1; exact (back (hs'.holds _ (by simp))).trans g.b1.symm
  by_cases c2 : b = 2
  · subst c2; exact (back (hs'.holds _ (by simp))).trans g.b2.symm
  exact hk.blk b ⟨hb, c0, c1, c2⟩
theorem vars3_read {H : Type} (enc : TypeId × Value → H) {W : World} {u : Ers} (g : GAt W u) (sp : Nat → Bool) :
    DataW.TrodVars enc Tryd.prog W sp vars3 [tok enc (.iface u.t0 u.v0), tok enc (.iface u.t1 u.v1), tok enc (.iface u.t2 u.v2)] [.cell 0 0, .cell 1 0, .cell 2 0] := by
  have h0 : W.var? Tryd.prog "loop.example/dagconsensus/impl.errInvalid" = some #[.iface u.t0 u.v0] := by simp only [World.var?, Tryd.gn0, Option.bind_some, g.b0]
  have h1 : W.var? Tryd.prog "loop.example/dagconsensus/impl.errNoWave" = some #[.iface u.t1 u.v1] := by simp only [World.var?, Tryd.gn1, Option.bind_some, g.b1]
  have h2 : W.var? Tryd.prog "loop.example/dagconsensus/impl.errNoVertex" = some #[.iface u.t2 u.v2] := by simp only [World.var?, Tryd.gn2, Option.bind_some, g.b2]
  exact ⟨0, 56, #[.iface u.t0 u.v0], 1, [], [.cell 1 0, .cell 2 0], Tryd.gn0, Tryd.gt0, h0, trod_held (v := .iface u.t0 u.v0) Tryd.underlying56 trivial 0, ⟨1, 56, #[.iface u.t1 u.v1], 1, [], [.cell 2 0], Tryd.gn1, Tryd.gt1, h1, trod_held (v := .iface u.t1 u.v1) Tryd.underlying56 trivial 0, ⟨2, 56, #[.iface u.t2 u.v2], 1, [], [], Tryd.gn2, Tryd.gt2, h2, trod_held (v := .iface u.t2 u.v2) Tryd.underlying56 trivial 0, rfl, rfl⟩, rfl⟩, rfl⟩
theorem GAt.below {W W' : World} {u : Ers} (g : GAt W u) (hb : Below W.heap.size W W') : GAt W' u :=
  ⟨(hb.block 0 (Array.getElem?_eq_some_iff.1 g.b0).1).trans g.b0, (hb.block 1 (Array.getElem?_eq_some_iff.1 g.b1).1).trans g.b1, (hb.block 2 (Array.getElem?_eq_some_iff.1 g.b2).1).trans g.b2⟩
theorem law_liftedV {H : Type} {enc : TypeId × Value → H} {f : FuncId} {fn : Func} {s : ChangeSpec} {os : Os} (started : os.Started) (hfn : Tryd.checked.prog.funcs[f]? = some fn) (hno : Tryd.checked.prog.inits.idxOf? f = none) {bt : TypeId} (hbt : Tryd.prog.underlying bt = some .bool) (hrt : fn.resultTypes = #[bt])
    (hpr : (fn.params.toList.all fun t => Tryd.prog.readableRec t && Nat.blt t Tryd.prog.types.size) = true) (hv : s.vars = vars3) (hs : ∀ (ds : List (DataW H)) (g0 g1 g2 : DataW H), ds.length = fn.params.size → (s.fn H (ds ++ [g0, g1, g2])).results = [.lit (.bool true)] ∧ (s.fn H (ds ++ [g0, g1, g2])).args = ds ∧ (s.fn H (ds ++ [g0, g1, g2])).vars = [g0, g1, g2])
    (wit : ∃ (w : World) (tape : Tape) (i : Input), w.os = os ∧ (w.forCall tape i).Shaped Tryd.checked.prog ∧ i.vars = [] ∧ Input.okWide Tryd.checked.prog (w.forCall tape i) .any w.heap.size f i ∧
      ((s.pre enc Tryd.checked.prog fn [] false (w.forCall tape i).memory i.args ∧ laidMet Tryd.prog laid3 (w.forCall tape i).memory) ∧ sizedMet enc Tryd.checked.prog fn (OpenSpec.ofChange s) false (w.forCall tape i).memory i.args) ∧ ({} : Assume).holds Tryd.checked.prog (lone (Frame.enter Tryd.checked.prog f i.args .normal) [] (w.forCall tape i)))
    (hc : ∀ (W : World) (base : Nat) (args : Array Value) (ds : List (DataW H)) (ps : List MemPlace) (u : Ers), GAt W u → (∀ (j : Nat) t v, fn.params[j]? = some t → args[j]? = some v → Value.okWide Tryd.prog W .any base t v) →
      DataW.TrodAll enc Tryd.prog W 0 (fun _ => true) true fn.params.toList args.toList ds ps → Calls Tryd.prog f args W fun e W' => e = .returned (.bool true) ∧ Below W.heap.size W W') :
    ReturnsInHanded {} Tryd.checked os f .any (fun w args => (s.pre enc Tryd.checked.prog fn [] false w args ∧ laidMet Tryd.prog laid3 w) ∧ sizedMet enc Tryd.checked.prog fn (OpenSpec.ofChange s) false w args) (s.post enc Tryd.checked.prog fn false true false false) := by
  refine returnsInHanded_of_change_and (C := Tryd.checked) (X := fun w _ => laidMet Tryd.prog laid3 w) (fun _ _ _ hh h => h.of_heap hh) Tryd.own started hno hfn wit ?_
  intro W base args ds gs before hval hW _ _ hL _
  have hW' := hW
  obtain ⟨p, q, hA0, hV, rfl, hfz, hnd⟩ := hW
  have hA : DataW.TrodAll enc Tryd.prog W 0 (fun _ => true) true fn.params.toList args.toList ds p := hA0
  have hl : ds.length = fn.params.size := by
    have := trodAll_len hA
    simpa using this
  rw [hv] at hV
  obtain ⟨a0, a1, a2, y0, y1, y2, hb0, hb1, hb2, _⟩ := sent3_of_laid hL
  let u : Ers := ⟨y0, y1, y2, 129, 129, 129, .pointer (some a0), .pointer (some a1), .pointer (some a2)⟩
  have g : GAt W u := ⟨hb0, hb1, hb2⟩
  obtain ⟨rfl, rfl⟩ := hV.unique (vars3_read enc g _)
  obtain ⟨hs1, hs2, hs3⟩ := hs ds _ _ _ hl
  refine (hc W base args ds p u g hval hA).mono fun e W' ⟨he, hb⟩ => ⟨_, he, ds, _, _, [], p, [.cell 0 0, .cell 1 0, .cell 2 0], hW', ?_, ?_, ?_, hb.frame _, fun h => by cases h⟩
  · rw [hs1, hrt]
    exact trodAll_mk1 (shut_bool hbt true)
  · rw [hs2]
    exact trodAll_below hb (readable_ok hpr) hA fun x hx => hW'.lt x (by simp [hx])
  · rw [hs3, hv]
    exact vars3_read enc (g.below hb) _
end Go.Proofs.YtpmhikdefbcofaaDoor
