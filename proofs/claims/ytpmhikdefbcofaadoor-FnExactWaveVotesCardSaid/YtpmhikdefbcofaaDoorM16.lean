/- Texts of this proof put together: Wf, Hp, Ha, Hl. -/
import Derived.RowKitTokens
import Derived.LaidLaws
import Derived.ChangeVars
import Derived.Stop.ErrReads
import Derived.Test.YtpmhikdefbcofaaDoorM01
import Derived.Test.YtpmhikdefbcofaaDoorM02
import Derived.Test.YtpmhikdefbcofaaDoorM03
import Derived.Test.YtpmhikdefbcofaaDoorM04
import Derived.Test.YtpmhikdefbcofaaDoorM05
import Derived.Test.YtpmhikdefbcofaaDoorM06
import Derived.Test.YtpmhikdefbcofaaDoorM07
import Derived.Test.YtpmhikdefbcofaaDoorM08
import Derived.Test.YtpmhikdefbcofaaDoorM09
import Derived.Test.YtpmhikdefbcofaaDoorM10
import Derived.Test.YtpmhikdefbcofaaDoorM11
import Derived.Test.YtpmhikdefbcofaaDoorM12
import Derived.Test.YtpmhikdefbcofaaDoorM13
import Derived.Test.YtpmhikdefbcofaaDoorM14
import Derived.Test.YtpmhikdefbcofaaDoorM15
/-! YtpmhikdefbcofaaDoorWf -/
set_option linter.all false
set_option maxRecDepth 100000
namespace Go.Proofs.YtpmhikdefbcofaaDoor
open Go.ChangeShapes Go.WideShapes Go.ChangeAt Go.RowKit

theorem Tryd.gn0 : Tryd.prog.globalNamed "loop.example/dagconsensus/impl.errInvalid" = some 0 := by kernel_rfl
theorem Tryd.gt0 : (Tryd.prog.globals[0]?).map (·.type) = some 56 := by kernel_rfl
theorem Tryd.gn1 : Tryd.prog.globalNamed "loop.example/dagconsensus/impl.errNoWave" = some 1 := by kernel_rfl
theorem Tryd.gt1 : (Tryd.prog.globals[1]?).map (·.type) = some 56 := by kernel_rfl
theorem Tryd.gn2 : Tryd.prog.globalNamed "loop.example/dagconsensus/impl.errNoVertex" = some 2 := by kernel_rfl
theorem Tryd.gt2 : (Tryd.prog.globals[2]?).map (·.type) = some 56 := by kernel_rfl
abbrev laid3 : List (String × DataW Unit) := [("loop.example/dagconsensus/impl.errInvalid", Rows.laid_loop_example_dagconsensus_impl_errInvalid), ("loop.example/dagconsensus/impl.errNoWave", Rows.laid_loop_example_dagconsensus_impl_errNoWave), ("loop.example/dagconsensus/impl.errNoVertex", Rows.laid_loop_example_dagconsensus_impl_errNoVertex)]
abbrev vars3 : List String := ["loop.example/dagconsensus/impl.errInvalid", "loop.example/dagconsensus/impl.errNoWave", "loop.example/dagconsensus/impl.errNoVertex"]
theorem Tryd.nameE : Tryd.prog.typeName? 3 129 = some "*errors.errorString" := by kernel_rfl
theorem Tryd.cellsE : Tryd.prog.cellsOf 155 = 1 := by kernel_rfl
theorem Tryd.cellsS : Tryd.prog.cellsOf 9 = 1 := by kernel_rfl
theorem Tryd.starE : "*" ++ "errors.errorString" = "*errors.errorString" := by decide
theorem Tryd.rowE (u : TypeId) (h : Tryd.prog.typeName? 3 u = some "*errors.errorString") : u = 129 :=
  typeName_ptr_named (nm := "errors.errorString") (by rw [Tryd.starE]; kernel_rfl) (by kernel_rfl) (by decide) u (by rw [Tryd.starE]; exact h)
/-- what one of the variables holds -/
theorem var_row {W : World} {n : String} {g : Nat} {cs : Array Value} (hg : Tryd.prog.globalNamed n = some g) (h : W.var? Tryd.prog n = some cs) {c : Array Value} {y : TypeId} (hb : W.heap[g]? = some (.cells c y (0, 0))) : c = cs := by
  simp only [World.var?, hg, Option.bind_some, hb, Option.some.injEq] at h
  exact h
theorem sent3_of_laid {W : World} (h : laidMet Tryd.prog laid3 W) :
    ∃ (a0 a1 a2 : Addr) (y0 y1 y2 : TypeId), W.heap[0]? = some (.cells #[.iface 129 (.pointer (some a0))] y0 (0, 0)) ∧ W.heap[1]? = some (.cells #[.iface 129 (.pointer (some a1))] y1 (0, 0)) ∧ W.heap[2]? = some (.cells #[.iface 129 (.pointer (some a2))] y2 (0, 0)) ∧ a0 ≠ a1 ∧ a0 ≠ a2 ∧ a1 ≠ a2 := by
  obtain ⟨ps, ⟨g0, t0, cs0, f0, p0, q0, hg0, ht0, hv0, hd0, ⟨g1, t1, cs1, f1, p1, q1, hg1, ht1, hv1, hd1, ⟨g2, t2, cs2, f2, p2, q2, hg2, ht2, hv2, hd2, hq2, e2⟩, e1⟩, e0⟩, hnd, hrows⟩ := h
  obtain rfl := Option.some.inj (Tryd.gn0.symm.trans hg0)
  obtain rfl := Option.some.inj (Tryd.gn1.symm.trans hg1)
  obtain rfl := Option.some.inj (Tryd.gn2.symm.trans hg2)
  obtain rfl := Option.some.inj (Tryd.gt0.symm.trans ht0)
  obtain rfl := Option.some.inj (Tryd.gt1.symm.trans ht1)
  obtain rfl := Option.some.inj (Tryd.gt2.symm.trans ht2)
  have hq2' : q2 = [] := hq2
  subst hq2'
  subst e2
  subst e1
  subst e0
  obtain ⟨l0⟩ := cs0
  obtain ⟨l1⟩ := cs1
  obtain ⟨l2⟩ := cs2
  have ok0 : ∀ u v, l0 = [.iface u v] → Value.okWide Tryd.prog W .any 0 u v := fun u v e => by
    subst e
    exact (hrows 0 0 (by simp [MemPlace.row])).2 u v (by simpa using World.var?_cell hg0 hv0 0)
  have ok1 : ∀ u v, l1 = [.iface u v] → Value.okWide Tryd.prog W .any 0 u v := fun u v e => by
    subst e
    exact (hrows 1 0 (by simp [MemPlace.row])).2 u v (by simpa using World.var?_cell hg1 hv1 0)
  have ok2 : ∀ u v, l2 = [.iface u v] → Value.okWide Tryd.prog W .any 0 u v := fun u v e => by
    subst e
    exact (hrows 2 0 (by simp [MemPlace.row])).2 u v (by simpa using World.var?_cell hg2 hv2 0)
  obtain ⟨a0, s0, rfl, hc0, hs0, hz0, rfl⟩ := errorString_of_trod Tryd.underlying56 Tryd.rowE Tryd.underlying129 Tryd.underlying155 rfl rfl Tryd.underlying9 Tryd.cellsE Tryd.cellsS hd0 ok0
  obtain ⟨a1, s1, rfl, hc1, hs1, hz1, rfl⟩ := errorString_of_trod Tryd.underlying56 Tryd.rowE Tryd.underlying129 Tryd.underlying155 rfl rfl Tryd.underlying9 Tryd.cellsE Tryd.cellsS hd1 ok1
  obtain ⟨a2, s2, rfl, hc2, hs2, hz2, rfl⟩ := errorString_of_trod Tryd.underlying56 Tryd.rowE Tryd.underlying129 Tryd.underlying155 rfl rfl Tryd.underlying9 Tryd.cellsE Tryd.cellsS hd2 ok2
  obtain ⟨c0, y0, hb0⟩ := (hrows 0 0 (by simp [MemPlace.row])).1
  obtain ⟨c1, y1, hb1⟩ := (hrows 1 0 (by simp [MemPlace.row])).1
  obtain ⟨c2, y2, hb2⟩ := (hrows 2 0 (by simp [MemPlace.row])).1
  obtain rfl := var_row hg0 hv0 hb0
  obtain rfl := var_row hg1 hv1 hb1
  obtain rfl := var_row hg2 hv2 hb2
  refine ⟨a0, a1, a2, y0, y1, y2, hb0, hb1, hb2, ?_, ?_, ?_⟩
  all_goals
    rintro rfl
    simp [MemPlace.row] at hnd
/-- all old blocks but those of the three variables -/
def GF (W : World) : Nat → Prop := fun b => b < W.heap.size ∧ b ≠ 0 ∧ b ≠ 1 ∧ b ≠ 2
/-- the three variables lie in blocks 0, 1, 2 -/
structure GAt (W : World) (u : Ers) : Prop where
  b0 : W.heap[0]? = some (.cells #[.iface u.t0 u.v0] u.y0 (0, 0))
  b1 : W.heap[1]? = some (.cells #[.iface u.t1 u.v1] u.y1 (0, 0))
  b2 : W.heap[2]? = some (.cells #[.iface u.t2 u.v2] u.y2 (0, 0))
theorem not_gl {W : World} {b off : Nat} {t y : TypeId} {v u : Value} {z : Int} (h : W.heap[b]? = some (.cells #[.iface t v] y (0, 0))) (hu : W.cell? ⟨b, off, none⟩ = some u) (hz : u = .int .i64 z) : False := by
  subst hz
  simp only [World.cell?, h] at hu
  have hu' : (#[Value.iface t v] : Array Value)[off]? = some (.int .i64 z) := by simpa using hu
  obtain ⟨hlt, e⟩ := Array.getElem?_eq_some_iff.1 hu'
  have h0 : off = 0 := by simp at hlt; omega
  subst h0
  cases e
theorem isl_out {W : World} {u : Ers} (g : GAt W u) {l : List Int} {v : Value} (h : Has W (allF W) (isl l) v) : Has W (GF W) (isl l) v := by
  obtain ⟨A, c, e, h1, h2, h⟩ := h
  refine ⟨A, c, e, h1, h2, fun hp => ?_⟩
  obtain ⟨b, off, eA, hb, hc⟩ := h hp
  obtain ⟨x, hx, _, hz⟩ := hc 0 0 hp (by omega)
  refine ⟨b, off, eA, ⟨hb, ?_, ?_, ?_⟩, fun i k hi hk => ?_⟩
  · rintro rfl; exact not_gl g.b0 hx hz
  · rintro rfl; exact not_gl g.b1 hx hz
  · rintro rfl; exact not_gl g.b2 hx hz
  · obtain ⟨y, hy, ho, hyz⟩ := hc i k hi hk
    exact ⟨y, hy, ho, hyz⟩
theorem vsl_out {W : World} {u : Ers} (g : GAt W u) {l : List Vx} {v : Value} (h : Has W (allF W) (vsl l) v) : Has W (GF W) (vsl l) v := by
  obtain ⟨A, c, e, h1, h2, h⟩ := h
  refine ⟨A, c, e, h1, h2, fun hp => ?_⟩
  obtain ⟨b, off, eA, hb, hc⟩ := h hp
  obtain ⟨x, hx, _, hz⟩ := hc 0 0 hp (by omega)
  refine ⟨b, off, eA, ⟨hb, ?_, ?_, ?_⟩, fun i k hi hk => ?_⟩
  · rintro rfl; exact not_gl g.b0 hx hz
  · rintro rfl; exact not_gl g.b1 hx hz
  · rintro rfl; exact not_gl g.b2 hx hz
  · obtain ⟨y, hy, ho, hyz⟩ := hc i k hi hk
    refine ⟨y, hy, ho, ?_⟩
    rcases (by omega : k = 0 ∨ k = 1 ∨ k = 2 ∨ k = 3) with rfl | rfl | rfl | rfl
    · exact hyz
    · exact hyz
    · exact isl_out g hyz
    · exact hyz
theorem law_callsV {f : FuncId} {ss : List SV} (h : ∀ u, SGl Tryd.prog u f ss (· = .b true)) {W : World} {u : Ers} (g : GAt W u) {args : Array Value} (ha : HasL W (GF W) ss args.toList) : Calls Tryd.prog f args W fun e W' => e = .returned (.bool true) ∧ Below W.heap.size W W' := by
  let R0 : Heaplet := ⟨fun _ => False, fun _ _ => True, fun _ _ => trivial, fun _ _ => trivial⟩
  have lt : ∀ {k : Nat} {o : Obj}, W.heap[k]? = some o → k < W.heap.size := fun h => (Array.getElem?_eq_some_iff.1 h).1
  have hbx : ∀ {k y t : Nat} {v : Value}, W.heap[k]? = some (.cells #[.iface t v] y (0, 0)) → (erH k y t v).holds W (GF W) := fun h => ⟨_, h, rfl, fun j hj => by
    obtain rfl : j = 0 := by omega
    exact ⟨rfl, rfl⟩⟩
  have hs0 : HSat W (GF W) [erH 0 u.y0 u.t0 u.v0, erH 1 u.y1 u.t1 u.v1, erH 2 u.y2 u.t2 u.v2, .cust R0] := by
    refine ⟨fun x hx => ?_, fun x hx b hb => ?_, ?_, fun b hb => hb.1⟩
    · simp only [List.mem_cons, List.not_mem_nil, or_false] at hx
      rcases hx with rfl | rfl | rfl | rfl
      · exact hbx g.b0
      · exact hbx g.b1
      · exact hbx g.b2
      · trivial
    · simp only [List.mem_cons, List.not_mem_nil, or_false] at hx
      rcases hx with rfl | rfl | rfl | rfl
      · obtain rfl : b = 0 := hb
        exact ⟨lt g.b0, fun h => h.2.1 rfl⟩
      · obtain rfl : b = 1 := hb
        exact ⟨lt g.b1, fun h => h.2.2.1 rfl⟩
      · obtain rfl : b = 2 := hb
        exact ⟨lt g.b2, fun h => h.2.2.2 rfl⟩
      · exact hb.elim
    · refine List.pairwise_cons.2 ⟨fun x hx b hb hbx => ?_, List.pairwise_cons.2 ⟨fun x hx b hb hbx => ?_, List.pairwise_cons.2 ⟨fun x hx b hb hbx => ?_, List.pairwise_singleton _ _⟩⟩⟩
      · obtain rfl : b = 0 := hb
        simp only [List.mem_cons, List.not_mem_nil, or_false] at hx
        rcases hx with rfl | rfl | rfl
        · cases (show (0 : Nat) = 1 from hbx)
        · cases (show (0 : Nat) = 2 from hbx)
        · exact hbx
      · obtain rfl : b = 1 := hb
        simp only [List.mem_cons, List.not_mem_nil, or_false] at hx
        rcases hx with rfl | rfl
        · cases (show (1 : Nat) = 2 from hbx)
        · exact hbx
      · simp only [List.mem_cons, List.not_mem_nil, or_false] at hx
        subst hx
        exact hbx
  refine (((h u).h R0).2 W _ args.toList hs0 ha).mono ?_
  rintro e W' ⟨v, rfl, r, F', H', ⟨rfl, rfl⟩, hk, hF, hs', hr⟩
  have hr : v = .bool true := hr
  subst hr
  have back : ∀ {k y t : Nat} {v : Value}, (erH k y t v).holds W' F' → W'.heap[k]? = some (.cells #[.iface t v] y (0, 0)) := fun ⟨cs, e, hn, hc⟩ => by
    have h0 : cs.getD 0 undef = _ := (hc 0 (by omega)).2
    obtain ⟨l⟩ := cs
    match l, hn with
    | [x], _ =>
      have : x = _ := h0
      rw [e, this]
  refine ⟨rfl, hk.os, hk.tape, hk.output, hk.size, fun b hb => ?_⟩
  by_cases c0 : b = 0
  · subst c0; exact (back (hs'.holds _ List.mem_cons_self)).trans g.b0.symm
  by_cases c1 : b = 1
  · subst c1; exact (back (hs'.holds _ (by simp))).trans g.b1.symm
  by_cases c2 : b = 2
  · subst c2; exact (back (hs'.holds _ (by simp))).trans g.b2.symm
  exact hk.blk b ⟨hb, c0, c1, c2⟩
theorem vars3_read {H : Type} (enc : TypeId × Value → H) {W : World} {u : Ers} (g : GAt W u) (sp : Nat → Bool) :
    DataW.TrodVars enc Tryd.prog W sp vars3 [tok enc (.iface u.t0 u.v0), tok enc (.iface u.t1 u.v1), tok enc (.iface u.t2 u.v2)] [.cell 0 0, .cell 1 0, .cell 2 0] := by
  have h0 : W.var? Tryd.prog "loop.example/dagconsensus/impl.errInvalid" = some #[.iface u.t0 u.v0] := by simp only [World.var?, Tryd.gn0, Option.bind_some, g.b0]
  have h1 : W.var? Tryd.prog "loop.example/dagconsensus/impl.errNoWave" = some #[.iface u.t1 u.v1] := by simp only [World.var?, Tryd.gn1, Option.bind_some, g.b1]
  have h2 : W.var? Tryd.prog "loop.example/dagconsensus/impl.errNoVertex" = some #[.iface u.t2 u.v2] := by simp only [World.var?, Tryd.gn2, Option.bind_some, g.b2]
  exact ⟨0, 56, #[.iface u.t0 u.v0], 1, [], [.cell 1 0, .cell 2 0], Tryd.gn0, Tryd.gt0, h0, trod_held (v := .iface u.t0 u.v0) Tryd.underlying56 trivial 0, ⟨1, 56, #[.iface u.t1 u.v1], 1, [], [.cell 2 0], Tryd.gn1, Tryd.gt1, h1, trod_held (v := .iface u.t1 u.v1) Tryd.underlying56 trivial 0, ⟨2, 56, #[.iface u.t2 u.v2], 1, [], [], Tryd.gn2, Tryd.gt2, h2, trod_held (v := .iface u.t2 u.v2) Tryd.underlying56 trivial 0, rfl, rfl⟩, rfl⟩, rfl⟩
theorem GAt.below {W W' : World} {u : Ers} (g : GAt W u) (hb : Below W.heap.size W W') : GAt W' u :=
  ⟨(hb.block 0 (Array.getElem?_eq_some_iff.1 g.b0).1).trans g.b0, (hb.block 1 (Array.getElem?_eq_some_iff.1 g.b1).1).trans g.b1, (hb.block 2 (Array.getElem?_eq_some_iff.1 g.b2).1).trans g.b2⟩
theorem law_liftedV {H : Type} {enc : TypeId × Value → H} {f : FuncId} {fn : Func} {s : ChangeSpec} {os : Os} (started : os.Started) (hfn : Tryd.checked.prog.funcs[f]? = some fn) (hno : Tryd.checked.prog.inits.idxOf? f = none) {bt : TypeId} (hbt : Tryd.prog.underlying bt = some .bool) (hrt : fn.resultTypes = #[bt])
    (hpr : (fn.params.toList.all fun t => Tryd.prog.readableRec t && Nat.blt t Tryd.prog.types.size) = true) (hv : s.vars = vars3) (hs : ∀ (ds : List (DataW H)) (g0 g1 g2 : DataW H), ds.length = fn.params.size → (s.fn H (ds ++ [g0, g1, g2])).results = [.lit (.bool true)] ∧ (s.fn H (ds ++ [g0, g1, g2])).args = ds ∧ (s.fn H (ds ++ [g0, g1, g2])).vars = [g0, g1, g2])
    (wit : ∃ (w : World) (tape : Tape) (i : Input), w.os = os ∧ (w.forCall tape i).Shaped Tryd.checked.prog ∧ i.vars = [] ∧ Input.okWide Tryd.checked.prog (w.forCall tape i) .any w.heap.size f i ∧
      ((s.pre enc Tryd.checked.prog fn [] false (w.forCall tape i).memory i.args ∧ laidMet Tryd.prog laid3 (w.forCall tape i).memory) ∧ sizedMet enc Tryd.checked.prog fn (OpenSpec.ofChange s) false (w.forCall tape i).memory i.args) ∧ ({} : Assume).holds Tryd.checked.prog (lone (Frame.enter Tryd.checked.prog f i.args .normal) [] (w.forCall tape i)))
    (hc : ∀ (W : World) (base : Nat) (args : Array Value) (ds : List (DataW H)) (ps : List MemPlace) (u : Ers), GAt W u → (∀ (j : Nat) t v, fn.params[j]? = some t → args[j]? = some v → Value.okWide Tryd.prog W .any base t v) →
      DataW.TrodAll enc Tryd.prog W 0 (fun _ => true) true fn.params.toList args.toList ds ps → Calls Tryd.prog f args W fun e W' => e = .returned (.bool true) ∧ Below W.heap.size W W') :
    ReturnsInHanded {} Tryd.checked os f .any (fun w args => (s.pre enc Tryd.checked.prog fn [] false w args ∧ laidMet Tryd.prog laid3 w) ∧ sizedMet enc Tryd.checked.prog fn (OpenSpec.ofChange s) false w args) (s.post enc Tryd.checked.prog fn false true false false) := by
  refine returnsInHanded_of_change_and (C := Tryd.checked) (X := fun w _ => laidMet Tryd.prog laid3 w) (fun _ _ _ hh h => h.of_heap hh) Tryd.own started hno hfn wit ?_
  intro W base args ds gs before hval hW _ _ hL _
  have hW' := hW
  obtain ⟨p, q, hA0, hV, rfl, hfz, hnd⟩ := hW
  have hA : DataW.TrodAll enc Tryd.prog W 0 (fun _ => true) true fn.params.toList args.toList ds p := hA0
  have hl : ds.length = fn.params.size := by
    have := trodAll_len hA
    simpa using this
  rw [hv] at hV
  obtain ⟨a0, a1, a2, y0, y1, y2, hb0, hb1, hb2, _⟩ := sent3_of_laid hL
  let u : Ers := ⟨y0, y1, y2, 129, 129, 129, .pointer (some a0), .pointer (some a1), .pointer (some a2)⟩
  have g : GAt W u := ⟨hb0, hb1, hb2⟩
  obtain ⟨rfl, rfl⟩ := hV.unique (vars3_read enc g _)
  obtain ⟨hs1, hs2, hs3⟩ := hs ds _ _ _ hl
  refine (hc W base args ds p u g hval hA).mono fun e W' ⟨he, hb⟩ => ⟨_, he, ds, _, _, [], p, [.cell 0 0, .cell 1 0, .cell 2 0], hW', ?_, ?_, ?_, hb.frame _, fun h => by cases h⟩
  · rw [hs1, hrt]
    exact trodAll_mk1 (shut_bool hbt true)
  · rw [hs2]
    exact trodAll_below hb (readable_ok hpr) hA fun x hx => hW'.lt x (by simp [hx])
  · rw [hs3, hv]
    exact vars3_read enc (g.below hb) _
end Go.Proofs.YtpmhikdefbcofaaDoor
/-! YtpmhikdefbcofaaDoorHp -/
set_option linter.all false
namespace Go.Proofs.YtpmhikdefbcofaaDoor
open Go.RowKit

/-- the pointer to a node, at its address -/
def ndA (ad : Nat → Nat) (vs : List Vx) (i : Nat) : SV := .ref (ad i) 0 6 (ndC (vg vs i) i fun j => if h : j < (vg vs i).ps.length ∧ pix vs i j < i then ndA ad vs (pix vs i j) else .any)
termination_by i
decreasing_by exact h.2
def paA (ad : Nat → Nat) (vs : List Vx) (i : Nat) (j : Nat) : SV := if j < (vg vs i).ps.length ∧ pix vs i j < i then ndA ad vs (pix vs i j) else .any
abbrev nuA (ad : Nat → Nat) (vs : List Vx) (i : Nat) : SV := .ref (ad i) 0 6 (ndC (vg vs i) i (paA ad vs i))
theorem ndA_eq (ad : Nat → Nat) (vs : List Vx) (i : Nat) : ndA ad vs i = nuA ad vs i := by
  rw [ndA]
  unfold nuA
  congr 2
theorem paA_eq {ad : Nat → Nat} {c : List Int} {vs : List Vx} {n : Nat} (h : GoodN c vs n) {i j : Nat} (hi : i < n) (hn : n ≤ vs.length) (hj : j < (vg vs i).ps.length) : paA ad vs i j = nuA ad vs (pix vs i j) := by
  unfold paA
  rw [if_pos ⟨hj, (h.pix hi hn hj).2⟩, ndA_eq]
theorem ndA_app {ad ad' : Nat → Nat} {c : List Int} {vs : List Vx} {v : Vx} (h : GoodN c vs vs.length) (ha : ∀ j, j < vs.length → ad' j = ad j) : ∀ {i : Nat}, i < vs.length → ndA ad' (vs ++ [v]) i = ndA ad vs i := by
  intro i
  induction i using Nat.strongRecOn with
  | ind i ih =>
    intro hi
    rw [ndA_eq, ndA_eq]
    unfold nuA
    rw [vg_app hi, ha i hi]
    congr 2
    funext j
    unfold paA
    rw [vg_app hi]
    by_cases hj : j < (vg vs i).ps.length
    · rw [pix_app h hi hj]
      by_cases hp : pix vs i j < i
      · rw [if_pos ⟨hj, hp⟩, if_pos ⟨hj, hp⟩, ih _ hp (by omega)]
      · rw [if_neg (fun e => hp e.2), if_neg (fun e => hp e.2)]
    · rw [if_neg (fun e => hj e.1), if_neg (fun e => hj e.1)]
/-- what a place holds -/
def plA (ad : Nat → Nat) (vs : List Vx) (r a : Int) : SV := match fdV vs r a with
  | some i => ndA ad vs i
  | none => .val (.pointer none)
/-- the cells of a graph; x1 tells the list of nodes -/
def grA (ad : Nat → Nat) (c : List Int) (vs : List Vx) (x1 : SV) : Nat → SV := fun k => if k = 0 then isl c else if k = 1 then x1 else plA ad vs ((k - 2) / 7 : Nat) ((k - 2) % 7 : Nat)
theorem grA_pl {ad : Nat → Nat} {c : List Int} {vs : List Vx} {x1 : SV} {k r a : Nat} (hk : k = 2 + r * 7 + a) (ha : a < 7) : grA ad c vs x1 k = plA ad vs r a := by
  subst hk
  unfold grA
  rw [if_neg (by omega), if_neg (by omega), show (2 + r * 7 + a - 2) / 7 = r by omega, show (2 + r * 7 + a - 2) % 7 = a by omega]
/-- what stands at a round and an author -/
def AtA (ad : Nat → Nat) (vs : List Vx) (r a : Int) (x : SV) : Prop := (∃ i, fdV vs r a = some i ∧ x = nuA ad vs i) ∨ (fdV vs r a = none ∧ x = .val (.pointer none))
theorem plA_at (ad : Nat → Nat) (vs : List Vx) (r a : Int) : AtA ad vs r a (plA ad vs r a) := by
  unfold AtA plA
  cases fdV vs r a with
  | none => exact .inr ⟨rfl, rfl⟩
  | some i => exact .inl ⟨i, rfl, ndA_eq ad vs i⟩
/-- addresses forgotten -/
theorem nd_weak {w : World} {F : Nat → Prop} {ad : Nat → Nat} {vs : List Vx} : ∀ {i : Nat}, LeW w F (ndA ad vs i) (ndV vs i) := by
  intro i
  induction i using Nat.strongRecOn with
  | ind i ih =>
    intro x hx
    rw [ndA_eq] at hx
    rw [ndV_eq]
    refine Has.pp ?_ hx.ref_pp
    refine fun k hk u hu => ?_
    rcases (by omega : k = 0 ∨ k = 1 ∨ k = 2 ∨ k = 3 ∨ k = 4 ∨ k = 5) with rfl | rfl | rfl | rfl | rfl | rfl
    all_goals first
      | exact hu
      | (refine Has.slL (fun j q hj hq y hy => ?_) hu
         unfold paA at hy
         unfold parV
         by_cases hp : j < (vg vs i).ps.length ∧ pix vs i j < i
         · rw [if_pos hp] at hy ⊢; exact ih _ hp.2 y hy
         · rw [if_neg hp] at hy ⊢; exact hy)
theorem pl_weak {w : World} {F : Nat → Prop} {ad : Nat → Nat} {vs : List Vx} {r a : Int} : LeW w F (plA ad vs r a) (plV vs r a) := by
  unfold plA plV
  cases fdV vs r a with
  | none => exact fun _ h => h
  | some i => exact nd_weak
/-- the graph's linked form, with addresses -/
abbrev lkA (ad : Nat → Nat) (c : List Int) (vs : List Vx) : SV := .pp 219 (grA ad c vs (.sl 1 vs.length fun i _ => ndA ad vs i))
theorem gr_weak {w : World} {F : Nat → Prop} {ad : Nat → Nat} {c : List Int} {vs : List Vx} : LeW w F (lkA ad c vs) (.pp 219 (grF c vs (.sl 1 vs.length fun i _ => ndV vs i))) := fun x hx => by
  refine Has.pp (fun k hk u hu => ?_) hx
  unfold grA at hu
  unfold grF
  by_cases h0 : k = 0
  · rw [if_pos h0] at hu ⊢; exact hu
  · rw [if_neg h0] at hu ⊢
    by_cases h1 : k = 1
    · rw [if_pos h1] at hu ⊢
      exact Has.slL (fun j q hj hq y hy => nd_weak y hy) hu
    · rw [if_neg h1] at hu ⊢; exact pl_weak u hu
/-- different nodes lie at different addresses -/
theorem ad_inj {w : World} {F : Nat → Prop} {ad : Nat → Nat} {c : List Int} {vs : List Vx} {x : Value} (h : Has w F (lkA ad c vs) x) : ∀ i j, i < vs.length → j < vs.length → ad i = ad j → i = j := by
  obtain ⟨b, off, -, -, hc⟩ := h
  obtain ⟨u, -, -, hu⟩ := hc 1 (by omega)
  obtain ⟨A, cp, -, -, -, hu⟩ := hu
  intro i j hi hj e
  obtain ⟨b', off', -, -, hd⟩ := hu (by omega)
  obtain ⟨u1, -, -, h1⟩ := hd i 0 hi (by omega)
  obtain ⟨u2, -, -, h2⟩ := hd j 0 hj (by omega)
  dsimp only at h1 h2
  rw [ndA_eq] at h1 h2
  obtain ⟨-, -, -, h1⟩ := h1
  obtain ⟨-, -, -, h2⟩ := h2
  obtain ⟨y1, g1, -, k1⟩ := h1 4 (by omega)
  obtain ⟨y2, g2, -, k2⟩ := h2 4 (by omega)
  rw [e, g2] at g1
  injection g1 with g1
  have k1 : y1 = .int .i64 (i : Int) := k1
  have k2 : y2 = .int .i64 (j : Int) := k2
  rw [← g1, k2] at k1
  injection k1 with _ k1
  omega
end Go.Proofs.YtpmhikdefbcofaaDoor
/-! YtpmhikdefbcofaaDoorHa -/
set_option linter.all false
namespace Go.Proofs.YtpmhikdefbcofaaDoor
open Go.RowKit

/-- what stands at a place; the graph is as it was -/
def AtPA (ad : Nat → Nat) (c : List Int) (vs : List Vx) (x1 : SV) (g : Nat) (r a : Int) (q : SV) (N : List Hp) (p' : Hp) : Prop := N = [] ∧ p' = .box g 87 219 (grA ad c vs x1) ∧ AtA ad vs r a q
theorem atOA_c (ad : Nat → Nat) (c : List Int) (vs : List Vx) (x1 : SV) (g : Nat) (r a : Int) (hcm : cmOk c = true) (hg : GoodN c vs vs.length) : SMut Tryd.prog 47 [.val (.pointer (some ⟨g, 0, none⟩)), .i r, .i a] (.box g 87 219 (grA ad c vs x1)) (AtPA ad c vs x1 g r a) := ⟨fun R => by
  have h7 := (cmOk_iff.1 hcm).1
  refine SCalls.enter tt_ok Tryd.func47 (by kernel_rfl) rfl [(0, .box g 87 219 (grA ad c vs x1)), (900, .cust R)] rfl (upd (argF [.val (.pointer (some ⟨g, 0, none⟩)), .i r, .i a]) 0 (.ptr 0 g 0)) (fun w F v k h => at_arg h) (by simp) ?_
  by_cases hin : (0 ≤ r ∧ r ≤ 30) ∧ 0 ≤ a ∧ a < c.length
  · obtain ⟨q, hq, hA⟩ : ∃ q, plA ad vs r a = q ∧ AtA ad vs r a q := ⟨_, rfl, plA_at ad vs r a⟩
    have hld : ∀ k, k = 2 + r.toNat * 7 + a.toNat → grA ad c vs x1 k = q := fun k hk => by rw [grA_pl hk (by omega), ← hq]; congr 1 <;> omega
    have hR : inB r 0 30 = true := inB_true.2 hin.1
    rcases hA with ⟨i, h1, rfl⟩ | ⟨h1, rfl⟩
    all_goals (repeat' (first | (with_reducible first | refine HT.seq ?_ | refine HT.block ?_ | refine Br.not ?_) | ((with_reducible first | refine HT.region tt_ok ?_ | refine HT.drawn tt_ok (by kernel_rfl) (by decide +kernel) ?_ | refine HT.drawnL tt_ok (by kernel_rfl) (by decide +kernel) ?_ | refine HT.cond ?_ | refine HT.ret ?_ | refine HT.skip ?_ | refine HT.exit ?_ | refine Br.tt ?_ | refine Br.ff ?_); conv => whnf) | ((with_reducible first | refine Br.dec (fun hc => ?_) (fun hc => ?_) | refine Br.eq (fun hc => ?_) (fun hc => ?_) | refine Br.ne (fun hc => ?_) (fun hc => ?_)) <;> (first | (exfalso; omega) | conv => whnf)) | ((with_reducible first | refine Br.ttE (by decide) ?_ | refine Br.ffE (by decide) ?_ | refine Br.mk (fun hc => ?_) (fun hc => ?_) | refine Chk.mk (by first | omega | with_reducible rfl | (refine ⟨rfl, ?_⟩; omega) | decide | exact ⟨rfl, by omega, by omega, rfl⟩ | exact ⟨by assumption, rfl, by omega, by omega⟩) ?_ | refine Ar.fit (by omega) ?_ | refine Eqv.shr1 ?_ | refine Ar.u64 (by omega) ?_) <;> conv => whnf) | ((first | refine CallN.ret1 ((isRound_c _).bt hR) ?_ | refine CallN.ret1 (implHas_c c a) ?_ | (rw [hld (0 + 2 + r.toNat * 7 + a.toNat * 1) (by omega)])) <;> conv => whnf) | ((with_reducible refine Br.ttE (decide_eq_true hin.2) ?_); conv => whnf) | (with_reducible exact trivial) | ((with_reducible refine And.intro ?_ ?_) <;> conv => whnf) | (intro gn; conv => whnf)))
    · exact Fin.mut [] _ (fun _ => 0) (PPick.refl _) ⟨rfl, rfl, .inl ⟨i, h1, rfl⟩⟩
    · exact Fin.mut [] _ (fun _ => 0) (PPick.refl _) ⟨rfl, rfl, .inr ⟨h1, rfl⟩⟩
  · have h1 := hg.out hin
    by_cases hr : inB r 0 30 = true
    · have hr2 := inB_true.1 hr
      repeat' (first | (with_reducible first | refine HT.seq ?_ | refine HT.block ?_ | refine Br.not ?_) | ((with_reducible first | refine HT.region tt_ok ?_ | refine HT.drawn tt_ok (by kernel_rfl) (by decide +kernel) ?_ | refine HT.drawnL tt_ok (by kernel_rfl) (by decide +kernel) ?_ | refine HT.cond ?_ | refine HT.ret ?_ | refine HT.skip ?_ | refine HT.exit ?_ | refine Br.tt ?_ | refine Br.ff ?_); conv => whnf) | ((with_reducible first | refine Br.dec (fun hc => ?_) (fun hc => ?_) | refine Br.eq (fun hc => ?_) (fun hc => ?_) | refine Br.ne (fun hc => ?_) (fun hc => ?_)) <;> (first | (exfalso; omega) | conv => whnf)) | ((with_reducible first | refine Br.ttE (by decide) ?_ | refine Br.ffE (by decide) ?_ | refine Br.mk (fun hc => ?_) (fun hc => ?_) | refine Chk.mk (by first | omega | with_reducible rfl | (refine ⟨rfl, ?_⟩; omega) | decide | exact ⟨rfl, by omega, by omega, rfl⟩ | exact ⟨by assumption, rfl, by omega, by omega⟩) ?_ | refine Ar.fit (by omega) ?_ | refine Eqv.shr1 ?_ | refine Ar.u64 (by omega) ?_) <;> conv => whnf) | ((first | refine CallN.ret1 ((isRound_c _).bt hr) ?_ | refine CallN.ret1 (implHas_c c a) ?_) <;> conv => whnf) | (with_reducible exact trivial) | ((with_reducible refine And.intro ?_ ?_) <;> conv => whnf) | (intro gn; conv => whnf))
      exact Fin.mut [] _ (fun _ => 0) (PPick.refl _) ⟨rfl, rfl, .inr ⟨h1, rfl⟩⟩
    · repeat' (first | (with_reducible first | refine HT.seq ?_ | refine HT.block ?_ | refine Br.not ?_) | ((with_reducible first | refine HT.region tt_ok ?_ | refine HT.drawn tt_ok (by kernel_rfl) (by decide +kernel) ?_ | refine HT.drawnL tt_ok (by kernel_rfl) (by decide +kernel) ?_ | refine HT.cond ?_ | refine HT.ret ?_ | refine HT.skip ?_ | refine HT.exit ?_ | refine Br.tt ?_ | refine Br.ff ?_); conv => whnf) | ((with_reducible first | refine Br.dec (fun hc => ?_) (fun hc => ?_) | refine Br.eq (fun hc => ?_) (fun hc => ?_) | refine Br.ne (fun hc => ?_) (fun hc => ?_)) <;> (first | (exfalso; omega) | conv => whnf)) | ((with_reducible first | refine Br.ttE (by decide) ?_ | refine Br.ffE (by decide) ?_ | refine Br.mk (fun hc => ?_) (fun hc => ?_) | refine Chk.mk (by first | omega | with_reducible rfl | (refine ⟨rfl, ?_⟩; omega) | decide | exact ⟨rfl, by omega, by omega, rfl⟩ | exact ⟨by assumption, rfl, by omega, by omega⟩) ?_ | refine Ar.fit (by omega) ?_ | refine Eqv.shr1 ?_ | refine Ar.u64 (by omega) ?_) <;> conv => whnf) | ((first | refine CallN.ret1 ((isRound_c _).bf (by simpa using hr)) ?_) <;> conv => whnf) | (with_reducible exact trivial) | ((with_reducible refine And.intro ?_ ?_) <;> conv => whnf) | (intro gn; conv => whnf))
      exact Fin.mut [] _ (fun _ => 0) (PPick.refl _) ⟨rfl, rfl, .inr ⟨h1, rfl⟩⟩⟩
theorem atFA_c (ad : Nat → Nat) (c : List Int) (vs : List Vx) (x1 : SV) (r a : Int) (hcm : cmOk c = true) (hg : GoodN c vs vs.length) : SRet Tryd.prog 47 [.pp 219 (grA ad c vs x1), .i r, .i a] (AtA ad vs r a) := ⟨fun R => by
  have h7 := (cmOk_iff.1 hcm).1
  refine SCalls.enter tt_ok Tryd.func47 (by kernel_rfl) rfl [(900, .cust R)] rfl (argF _) (fun w F v k h => h) (by simp) ?_
  by_cases hin : (0 ≤ r ∧ r ≤ 30) ∧ 0 ≤ a ∧ a < c.length
  · obtain ⟨q, hq, hA⟩ : ∃ q, plA ad vs r a = q ∧ AtA ad vs r a q := ⟨_, rfl, plA_at ad vs r a⟩
    have hld : ∀ k, k = 2 + r.toNat * 7 + a.toNat → grA ad c vs x1 k = q := fun k hk => by rw [grA_pl hk (by omega), ← hq]; congr 1 <;> omega
    have hR : inB r 0 30 = true := inB_true.2 hin.1
    rcases hA with ⟨i, h1, rfl⟩ | ⟨h1, rfl⟩
    all_goals (repeat' (first | (with_reducible first | refine HT.seq ?_ | refine HT.block ?_ | refine Br.not ?_) | ((with_reducible first | refine HT.region tt_ok ?_ | refine HT.drawn tt_ok (by kernel_rfl) (by decide +kernel) ?_ | refine HT.drawnL tt_ok (by kernel_rfl) (by decide +kernel) ?_ | refine HT.cond ?_ | refine HT.ret ?_ | refine HT.skip ?_ | refine HT.exit ?_ | refine Br.tt ?_ | refine Br.ff ?_); conv => whnf) | ((with_reducible first | refine Br.dec (fun hc => ?_) (fun hc => ?_) | refine Br.eq (fun hc => ?_) (fun hc => ?_) | refine Br.ne (fun hc => ?_) (fun hc => ?_)) <;> (first | (exfalso; omega) | conv => whnf)) | ((with_reducible first | refine Br.ttE (by decide) ?_ | refine Br.ffE (by decide) ?_ | refine Br.mk (fun hc => ?_) (fun hc => ?_) | refine Chk.mk (by first | omega | with_reducible rfl | (refine ⟨rfl, ?_⟩; omega) | decide | exact ⟨rfl, by omega, by omega, rfl⟩ | exact ⟨by assumption, rfl, by omega, by omega⟩) ?_ | refine Ar.fit (by omega) ?_ | refine Eqv.shr1 ?_ | refine Ar.u64 (by omega) ?_) <;> conv => whnf) | ((first | refine CallN.ret1 ((isRound_c _).bt hR) ?_ | refine CallN.ret1 (implHas_c c a) ?_ | (dsimp only; rw [hld (2 + (r.toNat * 7 + (a.toNat * 1 + 0))) (by omega)])) <;> conv => whnf) | ((with_reducible refine Br.ttE (decide_eq_true hin.2) ?_); conv => whnf) | (with_reducible exact trivial) | ((with_reducible refine And.intro ?_ ?_) <;> conv => whnf) | (intro gn; conv => whnf)))
    · exact Fin.pureS (by repeat (first | exact List.Sublist.refl _ | refine List.Sublist.cons_cons _ ?_ | refine List.Sublist.cons _ ?_)) (.inl ⟨i, h1, rfl⟩)
    · exact Fin.pureS (by repeat (first | exact List.Sublist.refl _ | refine List.Sublist.cons_cons _ ?_ | refine List.Sublist.cons _ ?_)) (.inr ⟨h1, rfl⟩)
  · have h1 := hg.out hin
    by_cases hr : inB r 0 30 = true
    · have hr2 := inB_true.1 hr
      repeat' (first | (with_reducible first | refine HT.seq ?_ | refine HT.block ?_ | refine Br.not ?_) | ((with_reducible first | refine HT.region tt_ok ?_ | refine HT.drawn tt_ok (by kernel_rfl) (by decide +kernel) ?_ | refine HT.drawnL tt_ok (by kernel_rfl) (by decide +kernel) ?_ | refine HT.cond ?_ | refine HT.ret ?_ | refine HT.skip ?_ | refine HT.exit ?_ | refine Br.tt ?_ | refine Br.ff ?_); conv => whnf) | ((with_reducible first | refine Br.dec (fun hc => ?_) (fun hc => ?_) | refine Br.eq (fun hc => ?_) (fun hc => ?_) | refine Br.ne (fun hc => ?_) (fun hc => ?_)) <;> (first | (exfalso; omega) | conv => whnf)) | ((with_reducible first | refine Br.ttE (by decide) ?_ | refine Br.ffE (by decide) ?_ | refine Br.mk (fun hc => ?_) (fun hc => ?_) | refine Chk.mk (by first | omega | with_reducible rfl | (refine ⟨rfl, ?_⟩; omega) | decide | exact ⟨rfl, by omega, by omega, rfl⟩ | exact ⟨by assumption, rfl, by omega, by omega⟩) ?_ | refine Ar.fit (by omega) ?_ | refine Eqv.shr1 ?_ | refine Ar.u64 (by omega) ?_) <;> conv => whnf) | ((first | refine CallN.ret1 ((isRound_c _).bt hr) ?_ | refine CallN.ret1 (implHas_c c a) ?_) <;> conv => whnf) | (with_reducible exact trivial) | ((with_reducible refine And.intro ?_ ?_) <;> conv => whnf) | (intro gn; conv => whnf))
      exact Fin.pureS (by repeat (first | exact List.Sublist.refl _ | refine List.Sublist.cons_cons _ ?_ | refine List.Sublist.cons _ ?_)) (.inr ⟨h1, rfl⟩)
    · repeat' (first | (with_reducible first | refine HT.seq ?_ | refine HT.block ?_ | refine Br.not ?_) | ((with_reducible first | refine HT.region tt_ok ?_ | refine HT.drawn tt_ok (by kernel_rfl) (by decide +kernel) ?_ | refine HT.drawnL tt_ok (by kernel_rfl) (by decide +kernel) ?_ | refine HT.cond ?_ | refine HT.ret ?_ | refine HT.skip ?_ | refine HT.exit ?_ | refine Br.tt ?_ | refine Br.ff ?_); conv => whnf) | ((with_reducible first | refine Br.dec (fun hc => ?_) (fun hc => ?_) | refine Br.eq (fun hc => ?_) (fun hc => ?_) | refine Br.ne (fun hc => ?_) (fun hc => ?_)) <;> (first | (exfalso; omega) | conv => whnf)) | ((with_reducible first | refine Br.ttE (by decide) ?_ | refine Br.ffE (by decide) ?_ | refine Br.mk (fun hc => ?_) (fun hc => ?_) | refine Chk.mk (by first | omega | with_reducible rfl | (refine ⟨rfl, ?_⟩; omega) | decide | exact ⟨rfl, by omega, by omega, rfl⟩ | exact ⟨by assumption, rfl, by omega, by omega⟩) ?_ | refine Ar.fit (by omega) ?_ | refine Eqv.shr1 ?_ | refine Ar.u64 (by omega) ?_) <;> conv => whnf) | ((first | refine CallN.ret1 ((isRound_c _).bf (by simpa using hr)) ?_) <;> conv => whnf) | (with_reducible exact trivial) | ((with_reducible refine And.intro ?_ ?_) <;> conv => whnf) | (intro gn; conv => whnf))
      exact Fin.pureS (by repeat (first | exact List.Sublist.refl _ | refine List.Sublist.cons_cons _ ?_ | refine List.Sublist.cons _ ?_)) (.inr ⟨h1, rfl⟩)⟩
end Go.Proofs.YtpmhikdefbcofaaDoor
/-! YtpmhikdefbcofaaDoorHl -/
set_option linter.all false
namespace Go.Proofs.YtpmhikdefbcofaaDoor
open Go.RowKit

/-- one address more -/
def adU (ad : Nat → Nat) (n g : Nat) : Nat → Nat := fun j => if j = n then g else ad j
theorem adU_lt {ad : Nat → Nat} {n g : Nat} : ∀ j, j < n → adU ad n g j = ad j := fun j hj => if_neg (by omega)
theorem adU_eq {ad : Nat → Nat} {n g : Nat} : adU ad n g n = g := if_pos rfl
theorem par_newA {ad : Nat → Nat} {gb : Nat} {c : List Int} {vs : List Vx} {v : Vx} {j : Nat} (hg : GoodN c vs vs.length) (hj : j < v.ps.length) (hs : (fdV vs (v.r - 1) (v.ps.getD j default)).isSome = true) : paA (adU ad vs.length gb) (vs ++ [v]) vs.length j = plA ad vs (v.r - 1) (v.ps.getD j default) := by
  obtain ⟨i, hi⟩ := Option.isSome_iff_exists.1 hs
  have hp : pix (vs ++ [v]) vs.length j = i := by
    unfold pix
    rw [vg_last, fd_app hi]
    rfl
  have hl := (fd_some hi).1
  unfold paA
  rw [vg_last, hp, if_pos ⟨hj, hl⟩, ndA_app hg adU_lt hl]
  unfold plA
  rw [hi]
theorem nd_newA {ad : Nat → Nat} {gb : Nat} {vs : List Vx} {v : Vx} : nuA (adU ad vs.length gb) (vs ++ [v]) vs.length = .ref gb 0 6 (ndC v vs.length (paA (adU ad vs.length gb) (vs ++ [v]) vs.length)) := by
  unfold nuA
  rw [vg_last, adU_eq]
theorem pl_newA {ad : Nat → Nat} {c : List Int} {vs : List Vx} {v : Vx} (hg : GoodN c vs vs.length) (ho : 0 < vs.length → bef (vg vs (vs.length - 1)) v = true) : plA ad (vs ++ [v]) v.r v.a = nuA ad (vs ++ [v]) vs.length := by
  have := fd_app_none (v := v) (fd_new hg ho)
  rw [if_pos ⟨rfl, rfl⟩] at this
  unfold plA
  rw [this]
  exact ndA_eq _ _ _
theorem pl_oldA {ad : Nat → Nat} {gb : Nat} {c : List Int} {vs : List Vx} {v : Vx} {r a : Int} (hg : GoodN c vs vs.length) (h : ¬ (v.r = r ∧ v.a = a)) : plA (adU ad vs.length gb) (vs ++ [v]) r a = plA ad vs r a := by
  unfold plA
  cases e : fdV vs r a with
  | none =>
    rw [fd_app_none e, if_neg h]
  | some i =>
    rw [fd_app e]
    exact ndA_app hg adU_lt (fd_some e).1
/-- the graph's cells with one vertex more -/
theorem gr_putA {w : World} {F : Nat → Prop} {ad : Nat → Nat} {gb : Nat} {c : List Int} {vs : List Vx} {v : Vx} {x1 y : SV} {nd : SV} (hg : GoodN c vs vs.length) (hv : vxOk c v = true) (hc : c.length ≤ 7) (ho : 0 < vs.length → bef (vg vs (vs.length - 1)) v = true) {off : Nat} (hoff : off = 2 + v.r.toNat * 7 + v.a.toNat)
    (hnd : LeW w F nd (nuA (adU ad vs.length gb) (vs ++ [v]) vs.length)) {y' : SV} (hy : LeW w F y y') {j : Nat} : LeW w F (putF off 1 (fun _ => nd) (putF (0 + 1) 1 (fun _ => y) (grA ad c vs x1)) j) (grA (adU ad vs.length gb) c (vs ++ [v]) y' j) := by
  have hb := vxOk_iff hv
  rw [putF_one, putF_one]
  by_cases h1 : j = off
  · rw [if_pos h1, grA_pl (show j = 2 + v.r.toNat * 7 + v.a.toNat by omega) (by omega)]
    rw [show ((v.r.toNat : Int)) = v.r by omega, show ((v.a.toNat : Int)) = v.a by omega, pl_newA hg ho]
    exact hnd
  · rw [if_neg h1]
    by_cases h2 : j = 0 + 1
    · rw [if_pos h2]
      subst h2
      exact hy
    · rw [if_neg h2]
      unfold grA
      by_cases h3 : j = 0
      · rw [if_pos h3, if_pos h3]; exact fun _ h => h
      · rw [if_neg h3, if_neg h3, if_neg (by omega), if_neg (by omega), pl_oldA hg (by omega)]
        exact fun _ h => h
theorem pl_eqA {ad : Nat → Nat} {vs : List Vx} {r a : Int} {i : Nat} (h : fdV vs r a = some i) : plA ad vs r a = nuA ad vs i := by
  unfold plA
  rw [h]
  exact ndA_eq ad vs i

/-- the graph under construction: its cells, its list of nodes -/
def grLA (ad : Nat → Nat) (g : Nat) (c : List Int) (vs : List Vx) (k : Nat) (s : Value) : List Hp := [.box g 87 219 (grA ad c vs (.own k s)), .row s 59 1 vs.length (fun i _ => ndA ad vs i)]
def grHA (ad : Nat → Nat) (g : Nat) (c : List Int) (vs : List Vx) (s : Value) : Heaplet := bundle (grLA ad g c vs 1 s)
/-- what link leaves -/
def LinkPA (ad : Nat → Nat) (g : Nat) (c : List Int) (vs : List Vx) (v : Vx) (r : SV) (N : List Hp) (p' : Hp) : Prop :=
  N = [] ∧ ((parOk vs v = true ∧ r = .b true ∧ ∃ A cp gb, p' = .cust (grHA (adU ad vs.length gb) g c (vs ++ [v]) (.slice A (vs.length + 1) cp))) ∨ (parOk vs v = false ∧ r = .b false ∧ ∃ h, p' = .cust h))
theorem gr_nilA (ad : Nat → Nat) (c : List Int) : ∀ j, j < 219 → CellLe (putF 0 1 (fun _ => isl c) (zF (fetch 87 tt).zc) j) (grA ad c [] (.own 1 (.slice none 0 0)) j) := fun j hj => by
  rw [putF_one, gr_zc]
  unfold grA
  by_cases h0 : j = 0
  · rw [if_pos h0, if_pos h0]; exact .refl _
  · rw [if_neg h0, if_neg h0]
    by_cases h1 : j = 1
    · subst h1; exact .nil
    · rw [if_neg h1]
      obtain ⟨q, rfl⟩ : ∃ q, j = q + 2 := ⟨j - 2, by omega⟩
      refine CellLe.of_eq ?_
      show SV.val ((List.replicate 217 (Value.pointer none)).getD q undef) = .val (.pointer none)
      rw [List.getD_eq_getElem?_getD, List.getElem?_replicate, if_pos (by omega)]; rfl
set_option maxRecDepth 100000 in
theorem linkA_c (ad : Nat → Nat) (c : List Int) (vs : List Vx) (v : Vx) (g : Nat) (A : Option Addr) (cp : Nat) (hcm : cmOk c = true) (hg : GoodN c vs vs.length) (hv : vxOk c v = true) (ho : 0 < vs.length → bef (vg vs (vs.length - 1)) v = true) (hl : vs.length ≤ 10000000) : SMut Tryd.prog 66 [.val (.pointer (some ⟨g, 0, none⟩)), vxV v] (.cust (grHA ad g c vs (.slice A vs.length cp))) (LinkPA ad g c vs v) := ⟨fun R => by
  have h7 := (cmOk_iff.1 hcm).1
  have hb := vxOk_iff hv
  have hpl := ms_len hb.2.2.1
  refine SCalls.enter tt_ok Tryd.func66 (by kernel_rfl) rfl [(0, .cust (grHA ad g c vs (.slice A vs.length cp))), (900, .cust R)] rfl (upd (argF [.val (.pointer (some ⟨g, 0, none⟩)), vxV v]) 0 (.ptr 0 g 0)) (fun w F v k h => at_arg h) (by simp) ?_
  refine HT.open2 (k0 := 0) (k1 := 1) (a := .box g 87 219 (grA ad c vs (.own 1 (.slice A vs.length cp)))) ?_
  repeat' (first | (with_reducible first | refine HT.seq ?_ | refine HT.block ?_ | refine Br.not ?_) | ((with_reducible first | refine HT.region tt_ok ?_ | refine HT.drawn tt_ok (by kernel_rfl) (by decide +kernel) ?_ | refine HT.drawnL tt_ok (by kernel_rfl) (by decide +kernel) ?_ | refine HT.cond ?_ | refine HT.ret ?_ | refine HT.skip ?_ | refine HT.exit ?_ | refine Br.tt ?_ | refine Br.ff ?_); conv => whnf) | ((with_reducible first | refine Br.dec (fun hc => ?_) (fun hc => ?_) | refine Br.eq (fun hc => ?_) (fun hc => ?_) | refine Br.ne (fun hc => ?_) (fun hc => ?_)) <;> (first | (exfalso; omega) | conv => whnf)) | ((with_reducible first | refine Br.ttE (by decide) ?_ | refine Br.ffE (by decide) ?_ | refine Br.mk (fun hc => ?_) (fun hc => ?_) | refine Chk.mk (by first | omega | with_reducible rfl | (refine ⟨rfl, ?_⟩; omega) | decide | exact ⟨rfl, by omega, by omega, rfl⟩ | exact ⟨by assumption, rfl, by omega, by omega⟩) ?_ | refine Ar.fit (by omega) ?_ | refine Eqv.shr1 ?_ | refine Ar.u64 (by omega) ?_) <;> conv => whnf) | (with_reducible exact trivial) | ((with_reducible refine And.intro ?_ ?_) <;> conv => whnf) | (intro gn; conv => whnf))
  revert gn; intro gb
  refine HT.nilRow 50 59 1 (fun _ _ => .any) ?_
  refine HT.loopC [0, 1, 3, 5, 18, 19] (fun x : Nat × Option Addr × Nat => [(20, .i x.1)]) (fun x : Nat × Option Addr × Nat => [(101, .box (litF [.i v.r, .i v.a, isl v.ps, .i v.d, .i vs.length, .own 50 (.slice x.2.1 x.1 x.2.2)])), (50, .row (.slice x.2.1 x.1 x.2.2) x.1 (fun j _ => plA ad vs (v.r - 1) (v.ps.getD j default)))]) (fun x : Nat × Option Addr × Nat => x.1 ≤ v.ps.length ∧ ∀ j, j < x.1 → (fdV vs (v.r - 1) (v.ps.getD j default)).isSome = true) (fun x : Nat × Option Addr × Nat => v.ps.length - x.1) (0, none, 0) ⟨Nat.zero_le _, fun j hj => absurd hj (by omega)⟩ ⟨(by first | with_reducible exact CellLe.refl _ | exact CellLe.own | exact CellLe.i (by omega) | exact CellLe.nil | exact CellLe.slNil | exact CellLe.refl _), trivial⟩ ?_ ?_
  · conv => whnf
    refine PP.start ?_; repeat (first | exact PP.nil | refine PP.take (by first | with_reducible exact Hp.Sub.refl _ | exact Hp.Sub.rd (by omega) | exact Hp.Sub.rowA rfl (fun i j hi hj => absurd hi (by omega)) | exact Hp.Sub.boxA (by (repeat (first | exact all_lt_zero | refine all_lt_succ (p := fun j => CellLe _ _) (by first | with_reducible exact CellLe.refl _ | exact CellLe.own | exact CellLe.i (by omega) | exact CellLe.nil | exact CellLe.slNil | exact CellLe.refl _) ?_))) | exact Hp.Sub.refl _) ?_ | refine PP.skip ?_)
  conv => whnf
  rintro ⟨k, B, cq⟩ ⟨hk, hall⟩
  dsimp only at hk hall ⊢
  conv => whnf
  repeat' (first | (with_reducible first | refine HT.seq ?_ | refine HT.block ?_ | refine Br.not ?_) | ((with_reducible first | refine HT.region tt_ok ?_ | refine HT.drawn tt_ok (by kernel_rfl) (by decide +kernel) ?_ | refine HT.drawnL tt_ok (by kernel_rfl) (by decide +kernel) ?_ | refine HT.cond ?_ | refine HT.ret ?_ | refine HT.skip ?_ | refine HT.exit ?_ | refine Br.tt ?_ | refine Br.ff ?_); conv => whnf) | ((with_reducible first | refine Br.dec (fun hc => ?_) (fun hc => ?_) | refine Br.eq (fun hc => ?_) (fun hc => ?_) | refine Br.ne (fun hc => ?_) (fun hc => ?_)) <;> (first | (exfalso; omega) | conv => whnf)) | ((with_reducible first | refine Br.ttE (by decide) ?_ | refine Br.ffE (by decide) ?_ | refine Br.mk (fun hc => ?_) (fun hc => ?_) | refine Chk.mk (by first | omega | with_reducible rfl | (refine ⟨rfl, ?_⟩; omega) | decide | exact ⟨rfl, by omega, by omega, rfl⟩ | exact ⟨by assumption, rfl, by omega, by omega⟩) ?_ | refine Ar.fit (by omega) ?_ | refine Eqv.shr1 ?_ | refine Ar.u64 (by omega) ?_) <;> conv => whnf) | ((first | (refine CallN.keepL 0 _ _ rfl rfl (atOA_c ad c vs _ g _ _ hcm hg) ?_; rintro r (⟨i, hi, rfl⟩ | ⟨hi, rfl⟩))) <;> conv => whnf) | (with_reducible exact trivial) | ((with_reducible refine And.intro ?_ ?_) <;> conv => whnf) | (intro gn; conv => whnf))
  all_goals (try simp only [Int.toNat_natCast] at *)
  · rename_i A2
    exact ⟨⟨(k + 1, A2, gn), ⟨by dsimp only; omega, all_lt_succ (by rw [hi]; rfl) hall⟩, by dsimp only; omega, (by repeat' (first | exact trivial | refine ⟨rfl, ?_⟩)), ⟨(by first | with_reducible exact CellLe.refl _ | exact CellLe.own | exact CellLe.i (by omega) | exact CellLe.nil | exact CellLe.slNil | exact CellLe.refl _), trivial⟩, HLe.pk (by
      conv => whnf
      refine PP.start ?_; repeat (first | exact PP.nil | refine PP.take (by first | with_reducible exact Hp.Sub.refl _ | exact Hp.Sub.rd (by omega) | exact Hp.Sub.rowL rfl (fun w F i' j' hi' hj' => cat_one (f' := fun j _ => plA ad vs (v.r - 1) (v.ps.getD j default)) (fun _ _ _ h => h) (LeW.of_eq (pl_eqA hi).symm) hi' hj') | exact Hp.Sub.boxA (by (repeat (first | exact all_lt_zero | refine all_lt_succ (p := fun j => CellLe _ _) (by first | with_reducible exact CellLe.refl _ | exact CellLe.own | exact CellLe.i (by omega) | exact CellLe.nil | exact CellLe.slNil | exact CellLe.refl _) ?_))) | exact Hp.Sub.refl _) ?_ | refine PP.skip ?_))⟩⟩
  · refine Fin.bundle [] (by refine PP.start ?_; repeat (first | exact PP.nil | refine PP.take (by first | with_reducible exact Hp.Sub.refl _ | exact Hp.Sub.rd (by omega) | exact Hp.Sub.boxA (by (repeat (first | exact all_lt_zero | refine all_lt_succ (p := fun j => CellLe _ _) (by first | with_reducible exact CellLe.refl _ | exact CellLe.own | exact CellLe.i (by omega) | exact CellLe.nil | exact CellLe.slNil | exact CellLe.refl _) ?_))) | exact Hp.Sub.refl _) ?_ | refine PP.skip ?_)) ⟨rfl, .inr ⟨?_, rfl, _, rfl⟩⟩
    exact dall_false (k := k) (by omega) (by rw [hi]; simp)
  · obtain rfl : k = v.ps.length := by omega
    rename_i A2
    have hpo : parOk vs v = true := dall_true hall
    refine Fin.frzB (r' := .b true) [.row (.slice B v.ps.length cq) 59 1 v.ps.length (fun j _ => plA ad vs (v.r - 1) (v.ps.getD j default)), .box gb 64 6 (litF [.i v.r, .i v.a, isl v.ps, .i v.d, .i vs.length, .own 50 (.slice B v.ps.length cq)])]
      [.box g 87 219 (putF (0 + 2 + v.r.toNat * 7 + v.a.toNat * 1) 1 (fun _ => .ptr 101 gb 0) (putF (0 + 1) 1 (fun _ => .own _ (.slice A2 (vs.length + 1) gn)) (grA ad c vs (.own 1 (.slice A vs.length cp))))), .row (.slice A2 (vs.length + 1) gn) 59 1 (vs.length + 1) (fun i _ => if i < vs.length then ndA ad vs i else .ptr 101 gb 0)] (grLA (adU ad vs.length gb) g c (vs ++ [v]) 1 (.slice A2 (vs.length + 1) gn)) (by
      refine PP.start ?_; repeat (first | exact PP.nil | refine PP.take (by first | with_reducible exact Hp.Sub.refl _ | exact Hp.Sub.rd (by omega) | exact Hp.Sub.boxA (fun j hj w F => by exact fun _ h => h) | exact Hp.Sub.rowL rfl (fun w F i j hi hj => cat_one (f' := fun i _ => if i < vs.length then ndA ad vs i else .ptr 101 gb 0) (fun i hi => by rw [if_pos hi]; exact fun _ h => h) (by rw [if_neg (Nat.lt_irrefl _)]; exact fun _ h => h) hi hj) | exact Hp.Sub.boxA (by (repeat (first | exact all_lt_zero | refine all_lt_succ (p := fun j => CellLe _ _) (by first | with_reducible exact CellLe.refl _ | exact CellLe.own | exact CellLe.i (by omega) | exact CellLe.nil | exact CellLe.slNil | exact CellLe.refl _) ?_))) | exact Hp.Sub.refl _) ?_ | refine PP.skip ?_))
      ?_ ⟨rfl, .inl ⟨hpo, rfl, _, _, gb, rfl⟩⟩
    rintro w F ⟨hrow, hbox, -⟩
    have hnd : LeW w F (.ptr 101 gb 0) (nuA (adU ad vs.length gb) (vs ++ [v]) vs.length) := fun x hx => by
      have e : x = .pointer (some ⟨gb, 0, none⟩) := hx
      subst e
      rw [nd_newA]
      refine Has.refL ?_ hbox
      have h5 : Has w F (.sl 1 v.ps.length fun j _ => paA (adU ad vs.length gb) (vs ++ [v]) vs.length j) (.slice B v.ps.length cq) := Has.slL (fun i k hi hk x hx => by rw [par_newA hg hi (hall i hi)]; exact hx) hrow
      exact all_lt_succ (p := fun k => ∀ u, Has w F _ u → Has w F _ u) (fun u hu => (show u = _ from hu) ▸ h5) (fun k hk u hu => by rcases (by omega : k = 0 ∨ k = 1 ∨ k = 2 ∨ k = 3 ∨ k = 4) with rfl | rfl | rfl | rfl | rfl <;> exact hu)
    refine ⟨⟨SubW.box (fun j hj => gr_putA (off := 0 + 2 + v.r.toNat * 7 + v.a.toNat * 1) (y := .own (100 + 1 + 1 + 1) (.slice A2 (vs.length + 1) gn)) (y' := .own 1 (.slice A2 (vs.length + 1) gn)) hg hv h7.2 ho (by omega) hnd (fun _ h => h)), SubW.row (by simp) (fun i j hi hj => ?_), trivial⟩, fun _ h => h⟩
    by_cases h : i < vs.length
    · rw [if_pos h, ndA_app hg adU_lt h]; exact fun _ h => h
    · obtain rfl : i = vs.length := by omega
      rw [if_neg h, ndA_eq]; exact hnd⟩
/-- a linked graph, and whether it is valid -/
def LinkedPA (c : List Int) (vs : List Vx) (r : SV) : Prop := (grOk c vs = true ∧ ∃ ad, r = .tup 2 (litF [lkA ad c vs, .b true])) ∨ (grOk c vs = false ∧ r = .tup 2 (litF [.val (.pointer none), .b false]))
set_option maxRecDepth 100000 in
theorem linkGraphA_c (c : List Int) (vs : List Vx) (hl : c.length ≤ 10000000) (hv : vs.length ≤ 10000000) (hp : ∀ v ∈ vs, v.ps.length ≤ 10000000) : SRet Tryd.prog 46 [isl c, vsl vs] (LinkedPA c vs) := ⟨fun R => by
  refine SCalls.enter tt_ok Tryd.func46 (by kernel_rfl) rfl [(900, .cust R)] rfl (argF _) (fun w F v k h => h) (by simp) ?_
  by_cases hcm : cmOk c = true
  rotate_left
  · have hcm : cmOk c = false := by simpa using hcm
    repeat' (first | (with_reducible first | refine HT.seq ?_ | refine HT.block ?_ | refine Br.not ?_) | ((with_reducible first | refine HT.region tt_ok ?_ | refine HT.drawn tt_ok (by kernel_rfl) (by decide +kernel) ?_ | refine HT.drawnL tt_ok (by kernel_rfl) (by decide +kernel) ?_ | refine HT.cond ?_ | refine HT.ret ?_ | refine HT.skip ?_ | refine HT.exit ?_ | refine Br.tt ?_ | refine Br.ff ?_); conv => whnf) | ((with_reducible first | refine Br.dec (fun hc => ?_) (fun hc => ?_) | refine Br.eq (fun hc => ?_) (fun hc => ?_) | refine Br.ne (fun hc => ?_) (fun hc => ?_)) <;> (first | (exfalso; omega) | conv => whnf)) | ((with_reducible first | refine Br.ttE (by decide) ?_ | refine Br.ffE (by decide) ?_ | refine Br.mk (fun hc => ?_) (fun hc => ?_) | refine Chk.mk (by first | omega | with_reducible rfl | (refine ⟨rfl, ?_⟩; omega) | decide | exact ⟨rfl, by omega, by omega, rfl⟩ | exact ⟨by assumption, rfl, by omega, by omega⟩) ?_ | refine Ar.fit (by omega) ?_ | refine Eqv.shr1 ?_ | refine Ar.u64 (by omega) ?_) <;> conv => whnf) | ((first | refine CallN.ret1 ((implCmValid_c c (by omega)).bf hcm) ?_) <;> conv => whnf) | (with_reducible exact trivial) | ((with_reducible refine And.intro ?_ ?_) <;> conv => whnf) | (intro gn; conv => whnf))
    exact Fin.pureLe (r' := .tup 2 (litF [.val (.pointer none), .b false])) (by repeat (first | exact List.Sublist.refl _ | refine List.Sublist.cons_cons _ ?_ | refine List.Sublist.cons _ ?_)) (CellLe.of_eq rfl) (.inr ⟨by unfold grOk; rw [hcm]; rfl, rfl⟩)
  have h7 := (cmOk_iff.1 hcm).1
  repeat' (first | (with_reducible first | refine HT.seq ?_ | refine HT.block ?_ | refine Br.not ?_) | ((with_reducible first | refine HT.region tt_ok ?_ | refine HT.drawn tt_ok (by kernel_rfl) (by decide +kernel) ?_ | refine HT.drawnL tt_ok (by kernel_rfl) (by decide +kernel) ?_ | refine HT.cond ?_ | refine HT.ret ?_ | refine HT.skip ?_ | refine HT.exit ?_ | refine Br.tt ?_ | refine Br.ff ?_); conv => whnf) | ((with_reducible first | refine Br.dec (fun hc => ?_) (fun hc => ?_) | refine Br.eq (fun hc => ?_) (fun hc => ?_) | refine Br.ne (fun hc => ?_) (fun hc => ?_)) <;> (first | (exfalso; omega) | conv => whnf)) | ((with_reducible first | refine Br.ttE (by decide) ?_ | refine Br.ffE (by decide) ?_ | refine Br.mk (fun hc => ?_) (fun hc => ?_) | refine Chk.mk (by first | omega | with_reducible rfl | (refine ⟨rfl, ?_⟩; omega) | decide | exact ⟨rfl, by omega, by omega, rfl⟩ | exact ⟨by assumption, rfl, by omega, by omega⟩) ?_ | refine Ar.fit (by omega) ?_ | refine Eqv.shr1 ?_ | refine Ar.u64 (by omega) ?_) <;> conv => whnf) | ((first | refine CallN.ret1 ((implCmValid_c c (by omega)).bt hcm) ?_) <;> conv => whnf) | (with_reducible exact trivial) | ((with_reducible refine And.intro ?_ ?_) <;> conv => whnf) | (intro gn; conv => whnf))
  revert gn; intro gb
  obtain ⟨x0⟩ : Nonempty (Nat → Nat) := ⟨fun _ => 0⟩
  refine HT.bundleN 110 (grLA x0 gb c [] 1 (.slice none 0 0)) (L' := [(900, .cust R)]) (fun w F hs => ?_) ?_
  · have h1 := hs.nil 59 1 (fun i _ => ndA x0 [] i)
    refine PPick.sat ?_ h1
    refine PP.start ?_; repeat (first | exact PP.nil | refine PP.take (by first | with_reducible exact Hp.Sub.refl _ | exact Hp.Sub.rd (by omega) | exact Hp.Sub.boxA (gr_nilA x0 c) | exact Hp.Sub.boxA (by (repeat (first | exact all_lt_zero | refine all_lt_succ (p := fun j => CellLe _ _) (by first | with_reducible exact CellLe.refl _ | exact CellLe.own | exact CellLe.i (by omega) | exact CellLe.nil | exact CellLe.slNil | exact CellLe.refl _) ?_))) | exact Hp.Sub.refl _) ?_ | refine PP.skip ?_)
  refine HT.loopC [0, 1, 6, 11, 15, 16] (fun x : Nat × Option Addr × Nat × (Nat → Nat) => [(17, .i x.1)]) (fun x : Nat × Option Addr × Nat × (Nat → Nat) => [(110, .cust (grHA x.2.2.2 gb c (vs.take x.1) (.slice x.2.1 (vs.take x.1).length x.2.2.1)))]) (fun x : Nat × Option Addr × Nat × (Nat → Nat) => x.1 ≤ vs.length ∧ GoodN c vs x.1) (fun x : Nat × Option Addr × Nat × (Nat → Nat) => vs.length - x.1) (0, none, 0, x0) ⟨Nat.zero_le _, fun j hj => absurd hj (by omega)⟩ ⟨(by first | with_reducible exact CellLe.refl _ | exact CellLe.own | exact CellLe.i (by omega) | exact CellLe.nil | exact CellLe.slNil | exact CellLe.refl _), trivial⟩ ?_ ?_
  · conv => whnf
    refine PP.start ?_; repeat (first | exact PP.nil | refine PP.take (by first | with_reducible exact Hp.Sub.refl _ | exact Hp.Sub.rd (by omega) | exact Hp.Sub.boxA (by (repeat (first | exact all_lt_zero | refine all_lt_succ (p := fun j => CellLe _ _) (by first | with_reducible exact CellLe.refl _ | exact CellLe.own | exact CellLe.i (by omega) | exact CellLe.nil | exact CellLe.slNil | exact CellLe.refl _) ?_))) | exact Hp.Sub.refl _) ?_ | refine PP.skip ?_)
  conv => whnf
  rintro ⟨k, B, cq, ad⟩ ⟨hk, hall⟩
  dsimp only at hk hall ⊢
  by_cases hkl : k < vs.length
  rotate_left
  · obtain rfl : k = vs.length := by omega
    conv => whnf
    repeat' (first | (with_reducible first | refine HT.seq ?_ | refine HT.block ?_ | refine Br.not ?_) | ((with_reducible first | refine HT.region tt_ok ?_ | refine HT.drawn tt_ok (by kernel_rfl) (by decide +kernel) ?_ | refine HT.drawnL tt_ok (by kernel_rfl) (by decide +kernel) ?_ | refine HT.cond ?_ | refine HT.ret ?_ | refine HT.skip ?_ | refine HT.exit ?_ | refine Br.tt ?_ | refine Br.ff ?_); conv => whnf) | ((with_reducible first | refine Br.dec (fun hc => ?_) (fun hc => ?_) | refine Br.eq (fun hc => ?_) (fun hc => ?_) | refine Br.ne (fun hc => ?_) (fun hc => ?_)) <;> (first | (exfalso; omega) | conv => whnf)) | ((with_reducible first | refine Br.ttE (by decide) ?_ | refine Br.ffE (by decide) ?_ | refine Br.mk (fun hc => ?_) (fun hc => ?_) | refine Chk.mk (by first | omega | with_reducible rfl | (refine ⟨rfl, ?_⟩; omega) | decide | exact ⟨rfl, by omega, by omega, rfl⟩ | exact ⟨by assumption, rfl, by omega, by omega⟩) ?_ | refine Ar.fit (by omega) ?_ | refine Eqv.shr1 ?_ | refine Ar.u64 (by omega) ?_) <;> conv => whnf) | (with_reducible exact trivial) | ((with_reducible refine And.intro ?_ ?_) <;> conv => whnf) | (intro gn; conv => whnf))
    rw [List.take_length]
    refine Fin.open (Z := grLA ad gb c vs 1 (.slice B vs.length cq)) ?_
    refine Fin.frz (r' := .tup 2 (litF [lkA ad c vs, .b true])) (grLA ad gb c vs 1 (.slice B vs.length cq)) [.cust R] (PPick.refl _) ?_ ⟨rfl, .inl ⟨grOk_iff.2 ⟨hcm, hall⟩, ad, rfl⟩⟩
    rintro w F ⟨hbox, hrow, -⟩
    refine ⟨AllW.refl _ _ _, LeW.tup2 (fun u hu => ?_) (fun u hu => hu)⟩
    rw [show u = _ from hu]
    refine Has.pp (fun k hk u hu => ?_) hbox.ref_pp
    unfold grA at hu ⊢
    by_cases h0 : k = 0
    · rw [if_pos h0] at hu ⊢; exact hu
    · rw [if_neg h0] at hu ⊢
      by_cases h1 : k = 1
      · rw [if_pos h1] at hu ⊢; exact (show u = _ from hu) ▸ hrow
      · rw [if_neg h1] at hu ⊢; exact hu
  have hpk := hp _ (List.getElem_mem hkl)
  have hpk : (vg vs k).ps.length ≤ 10000000 := by rw [vg_eq hkl]; exact hpk
  conv => whnf
  by_cases hv1 : vxOkA c (vg vs k) = true
  rotate_left
  · have hv1 : vxOkA c (vg vs k) = false := by simpa using hv1
    repeat' (first | (with_reducible first | refine HT.seq ?_ | refine HT.block ?_ | refine Br.not ?_) | ((with_reducible first | refine HT.region tt_ok ?_ | refine HT.drawn tt_ok (by kernel_rfl) (by decide +kernel) ?_ | refine HT.drawnL tt_ok (by kernel_rfl) (by decide +kernel) ?_ | refine HT.cond ?_ | refine HT.ret ?_ | refine HT.skip ?_ | refine HT.exit ?_ | refine Br.tt ?_ | refine Br.ff ?_); conv => whnf) | ((with_reducible first | refine Br.dec (fun hc => ?_) (fun hc => ?_) | refine Br.eq (fun hc => ?_) (fun hc => ?_) | refine Br.ne (fun hc => ?_) (fun hc => ?_)) <;> (first | (exfalso; omega) | conv => whnf)) | ((with_reducible first | refine Br.ttE (by decide) ?_ | refine Br.ffE (by decide) ?_ | refine Br.mk (fun hc => ?_) (fun hc => ?_) | refine Chk.mk (by first | omega | with_reducible rfl | (refine ⟨rfl, ?_⟩; omega) | decide | exact ⟨rfl, by omega, by omega, rfl⟩ | exact ⟨by assumption, rfl, by omega, by omega⟩) ?_ | refine Ar.fit (by omega) ?_ | refine Eqv.shr1 ?_ | refine Ar.u64 (by omega) ?_) <;> conv => whnf) | ((first | (refine CallN.ret1 ((implVx_c c (vg vs k) (by omega) hpk).bf hv1) ?_)) <;> conv => whnf) | (with_reducible exact trivial) | ((with_reducible refine And.intro ?_ ?_) <;> conv => whnf) | (intro gn; conv => whnf))
    exact Fin.pureLe (r' := .tup 2 (litF [.val (.pointer none), .b false])) (by repeat (first | exact List.Sublist.refl _ | refine List.Sublist.cons_cons _ ?_ | refine List.Sublist.cons _ ?_)) (CellLe.of_eq rfl) (.inr ⟨(grOk_no hkl (by unfold vxOkA at hv1; rw [hcm, Bool.true_and] at hv1; unfold stI; rw [hv1]; rfl)).symm, rfl⟩)
  have hv2 := (vxA_iff hv1).2
  by_cases hord : 0 < k → bef (vg vs (k - 1)) (vg vs k) = true
  rotate_left
  · have hk0 : 0 < k := by omega
    have hbf : bef (vg vs (k - 1)) (vg vs k) = false := by rw [Bool.eq_false_iff]; exact fun h => hord fun _ => h
    have hpr : SRet Tryd.prog 65 [vxV (vg vs ((k : Int) - 1).toNat), vxV (vg vs k)] (· = .b false) := by rw [toNat_sub1]; exact (precedes_c _ _).bf hbf
    repeat' (first | (with_reducible first | refine HT.seq ?_ | refine HT.block ?_ | refine Br.not ?_) | ((with_reducible first | refine HT.region tt_ok ?_ | refine HT.drawn tt_ok (by kernel_rfl) (by decide +kernel) ?_ | refine HT.drawnL tt_ok (by kernel_rfl) (by decide +kernel) ?_ | refine HT.cond ?_ | refine HT.ret ?_ | refine HT.skip ?_ | refine HT.exit ?_ | refine Br.tt ?_ | refine Br.ff ?_); conv => whnf) | ((with_reducible first | refine Br.dec (fun hc => ?_) (fun hc => ?_) | refine Br.eq (fun hc => ?_) (fun hc => ?_) | refine Br.ne (fun hc => ?_) (fun hc => ?_)) <;> (first | (exfalso; omega) | conv => whnf)) | ((with_reducible first | refine Br.ttE (by decide) ?_ | refine Br.ffE (by decide) ?_ | refine Br.mk (fun hc => ?_) (fun hc => ?_) | refine Chk.mk (by first | omega | with_reducible rfl | (refine ⟨rfl, ?_⟩; omega) | decide | exact ⟨rfl, by omega, by omega, rfl⟩ | exact ⟨by assumption, rfl, by omega, by omega⟩) ?_ | refine Ar.fit (by omega) ?_ | refine Eqv.shr1 ?_ | refine Ar.u64 (by omega) ?_) <;> conv => whnf) | ((first | (refine CallN.ret1 ((implVx_c c (vg vs k) (by omega) hpk).bt hv1) ?_) | (refine CallN.ret1 hpr ?_)) <;> conv => whnf) | (with_reducible exact trivial) | ((with_reducible refine And.intro ?_ ?_) <;> conv => whnf) | (intro gn; conv => whnf))
    exact Fin.pureLe (r' := .tup 2 (litF [.val (.pointer none), .b false])) (by repeat (first | exact List.Sublist.refl _ | refine List.Sublist.cons_cons _ ?_ | refine List.Sublist.cons _ ?_)) (CellLe.of_eq rfl) (.inr ⟨(grOk_no hkl (by unfold stI; rw [hbf, decide_eq_false (show ¬ k = 0 by omega)]; simp)).symm, rfl⟩)
  have htl : (vs.take k).length = k := by simp; omega
  have hall2 : GoodN c (vs.take k) (vs.take k).length := by rw [htl]; exact hall.take
  have hord2 : 0 < (vs.take k).length → bef (vg (vs.take k) ((vs.take k).length - 1)) (vg vs k) = true := by rw [htl]; intro h; rw [vg_take (by omega)]; exact hord h
  have hpr : 0 < k → SRet Tryd.prog 65 [vxV (vg vs ((k : Int) - 1).toNat), vxV (vg vs k)] (· = .b true) := fun h => by rw [toNat_sub1]; exact (precedes_c _ _).bt (hord h)
  repeat' (first | (with_reducible first | refine HT.seq ?_ | refine HT.block ?_ | refine Br.not ?_) | ((with_reducible first | refine HT.region tt_ok ?_ | refine HT.drawn tt_ok (by kernel_rfl) (by decide +kernel) ?_ | refine HT.drawnL tt_ok (by kernel_rfl) (by decide +kernel) ?_ | refine HT.cond ?_ | refine HT.ret ?_ | refine HT.skip ?_ | refine HT.exit ?_ | refine Br.tt ?_ | refine Br.ff ?_); conv => whnf) | ((with_reducible first | refine Br.dec (fun hc => ?_) (fun hc => ?_) | refine Br.eq (fun hc => ?_) (fun hc => ?_) | refine Br.ne (fun hc => ?_) (fun hc => ?_)) <;> (first | (exfalso; omega) | conv => whnf)) | ((with_reducible first | refine Br.ttE (by decide) ?_ | refine Br.ffE (by decide) ?_ | refine Br.mk (fun hc => ?_) (fun hc => ?_) | refine Chk.mk (by first | omega | with_reducible rfl | (refine ⟨rfl, ?_⟩; omega) | decide | exact ⟨rfl, by omega, by omega, rfl⟩ | exact ⟨by assumption, rfl, by omega, by omega⟩) ?_ | refine Ar.fit (by omega) ?_ | refine Eqv.shr1 ?_ | refine Ar.u64 (by omega) ?_) <;> conv => whnf) | ((first | (refine CallN.ret1 ((implVx_c c (vg vs k) (by omega) hpk).bt hv1) ?_) | (refine CallN.ret1 (hpr (by omega)) ?_) | (refine CallN.turn 110 _ _ rfl (linkA_c ad c (vs.take k) (vg vs k) gb B cq hcm hall2 hv2 hord2 (by omega)) ?_; rintro r N p' ⟨rfl, (⟨hpo, rfl, A2, c2, gb2, rfl⟩ | ⟨hpo, rfl, h2, rfl⟩)⟩)) <;> conv => whnf) | (with_reducible exact trivial) | ((with_reducible refine And.intro ?_ ?_) <;> conv => whnf) | (intro gn; conv => whnf))
  all_goals (try exact Fin.pureLe (r' := .tup 2 (litF [.val (.pointer none), .b false])) (by repeat (first | exact List.Sublist.refl _ | refine List.Sublist.cons_cons _ ?_ | refine List.Sublist.cons _ ?_)) (CellLe.of_eq rfl) (.inr ⟨(grOk_no hkl (by unfold stI; rw [hpo, Bool.and_false, Bool.and_false])).symm, rfl⟩))
  all_goals have hcu : Hp.cust (grHA (adU ad (vs.take k).length gb2) gb c (vs.take k ++ [vg vs k]) (.slice A2 ((vs.take k).length + 1) c2)) = .cust (grHA (adU ad (vs.take k).length gb2) gb c (vs.take (k + 1)) (.slice A2 (vs.take (k + 1)).length c2)) := by rw [take_succ hkl, List.length_append]; rfl
  all_goals have hst : stI c vs k = true := by unfold stI; rw [hv2, hpo, Bool.and_true, Bool.true_and, Bool.or_eq_true]; rcases Nat.eq_zero_or_pos k with h | h; exact .inl (decide_eq_true h); exact .inr (hord h)
  all_goals (
    exact ⟨⟨(k + 1, A2, c2, adU ad (vs.take k).length gb2), ⟨by dsimp only; omega, all_lt_succ hst hall⟩, by dsimp only; omega, (by repeat' (first | exact trivial | refine ⟨rfl, ?_⟩)), ⟨(by first | with_reducible exact CellLe.refl _ | exact CellLe.own | exact CellLe.i (by omega) | exact CellLe.nil | exact CellLe.slNil | exact CellLe.refl _), trivial⟩, HLe.pk (by
      conv => whnf
      refine PP.start ?_; repeat (first | exact PP.nil | refine PP.take (by first | with_reducible exact Hp.Sub.refl _ | exact Hp.Sub.rd (by omega) | exact Hp.Sub.of_eq hcu | exact Hp.Sub.boxA (by (repeat (first | exact all_lt_zero | refine all_lt_succ (p := fun j => CellLe _ _) (by first | with_reducible exact CellLe.refl _ | exact CellLe.own | exact CellLe.i (by omega) | exact CellLe.nil | exact CellLe.slNil | exact CellLe.refl _) ?_))) | exact Hp.Sub.refl _) ?_ | refine PP.skip ?_))⟩⟩
  )⟩
end Go.Proofs.YtpmhikdefbcofaaDoor
