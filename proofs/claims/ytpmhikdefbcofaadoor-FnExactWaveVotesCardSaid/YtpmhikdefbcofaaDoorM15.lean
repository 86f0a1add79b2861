/- Texts of this proof put together: Frame, Ex, ExI, ExV, Wb. -/
import Derived.Test.YtpmhikdefbcofaaDoorRows
import Derived.ProofKit
import Derived.Carry
import Derived.DataReads
import Derived.Deep.Slices
import Derived.Test.YtpmhikdefbcofaaDoorM01
import Derived.Test.YtpmhikdefbcofaaDoorM02
import Derived.Test.YtpmhikdefbcofaaDoorM03
import Derived.Test.YtpmhikdefbcofaaDoorM04
import Derived.Test.YtpmhikdefbcofaaDoorM05
import Derived.Test.YtpmhikdefbcofaaDoorM06
import Derived.Test.YtpmhikdefbcofaaDoorM07
import Derived.Test.YtpmhikdefbcofaaDoorM08
import Derived.Test.YtpmhikdefbcofaaDoorM09
import Derived.Test.YtpmhikdefbcofaaDoorM10
import Derived.Test.YtpmhikdefbcofaaDoorM11
import Derived.Test.YtpmhikdefbcofaaDoorM12
import Derived.Test.YtpmhikdefbcofaaDoorM13
import Derived.Test.YtpmhikdefbcofaaDoorM14
/-! YtpmhikdefbcofaaDoorFrame -/
set_option linter.all false

set_option maxRecDepth 100000
namespace Go.Proofs.YtpmhikdefbcofaaDoor
open Go.ChangeShapes Go.WideShapes Go.ChangeAt Go.RowKit

theorem Tryd.own : ownKnob Tryd.prog.godebug = none := by kernel_rfl
theorem Tryd.laidOut : laidOutB Tryd.prog = true := by kernel_rfl

section
variable {H : Type} {enc : TypeId × Value → H}
theorem trodAll_below {W W' : World} (hb : Below W.heap.size W W') : ∀ {ts : List TypeId} {vs : List Value} {ds : List (DataW H)} {ps : List MemPlace}, (∀ t ∈ ts, Tryd.prog.readableRec t = true ∧ t < Tryd.prog.types.size) →
    DataW.TrodAll enc Tryd.prog W 0 (fun _ => true) true ts vs ds ps → (∀ x ∈ ps, x.block < W.heap.size) → DataW.TrodAll enc Tryd.prog W' 0 (fun b => decide (b < W.heap.size)) true ts vs ds ps
  | [], [], [], ps, _, h, _ => h
  | t :: ts, v :: vs, d :: ds, ps, hr, ⟨p, q, h1, h2, e⟩, hl => by
    subst e
    exact ⟨p, q, Below.trod Tryd.laidOut (hr t List.mem_cons_self).1 (hr t List.mem_cons_self).2 h1 hb fun x hx => hl x (List.mem_append_left _ hx),
      trodAll_below hb (fun t ht => hr t (List.mem_cons_of_mem _ ht)) h2 fun x hx => hl x (List.mem_append_right _ hx), rfl⟩
  | [], _ :: _, _, _, _, h, _ => h.elim
  | [], [], _ :: _, _, _, h, _ => h.elim
  | _ :: _, [], _, _, _, h, _ => h.elim
  | _ :: _, _ :: _, [], _, _, h, _ => h.elim

/-- the types of the parameters can be read -/
theorem readable_ok {ts : List TypeId} (h : (ts.all fun t => Tryd.prog.readableRec t && Nat.blt t Tryd.prog.types.size) = true) : ∀ t ∈ ts, Tryd.prog.readableRec t = true ∧ t < Tryd.prog.types.size := fun t ht => by
  have := List.all_eq_true.1 h t ht
  rw [Bool.and_eq_true] at this
  exact ⟨this.1, Nat.le_of_ble_eq_true this.2⟩


theorem law_lifted {f : FuncId} {fn : Func} {s : ChangeSpec} {os : Os} (started : os.Started) (hfn : Tryd.checked.prog.funcs[f]? = some fn) (hno : Tryd.checked.prog.inits.idxOf? f = none) {bt : TypeId} (hbt : Tryd.prog.underlying bt = some .bool) (hrt : fn.resultTypes = #[bt])
    (hpr : (fn.params.toList.all fun t => Tryd.prog.readableRec t && Nat.blt t Tryd.prog.types.size) = true) (hv : s.vars = []) (hs : ∀ ds : List (DataW H), ds.length = fn.params.size → (s.fn H (ds ++ [])).results = [.lit (.bool true)] ∧ (s.fn H (ds ++ [])).args = ds ∧ (s.fn H (ds ++ [])).vars = [])
    (wit : ∃ (w : World) (tape : Tape) (i : Input), w.os = os ∧ (w.forCall tape i).Shaped Tryd.checked.prog ∧ i.vars = [] ∧ Input.okWide Tryd.checked.prog (w.forCall tape i) .any w.heap.size f i ∧
      s.pre6 enc Tryd.checked.prog fn [] false (w.forCall tape i).memory i.args ∧ ({} : Assume).holds Tryd.checked.prog (lone (Frame.enter Tryd.checked.prog f i.args .normal) [] (w.forCall tape i)))
    (hc : ∀ (W : World) (base : Nat) (args : Array Value) (ds : List (DataW H)) (ps : List MemPlace), (∀ (j : Nat) t v, fn.params[j]? = some t → args[j]? = some v → Value.okWide Tryd.prog W .any base t v) →
      DataW.TrodAll enc Tryd.prog W 0 (fun _ => true) true fn.params.toList args.toList ds ps → Calls Tryd.prog f args W fun e W' => e = .returned (.bool true) ∧ Below W.heap.size W W') :
    ReturnsInHanded {} Tryd.checked os f .any (s.pre6 enc Tryd.checked.prog fn [] false) (s.post enc Tryd.checked.prog fn false true false false) := by
  refine returnsInHanded_of_change (C := Tryd.checked) Tryd.own started hno hfn wit ?_
  intro W base args ds gs before hval hW hcnd _
  have hW' := hW
  obtain ⟨p, q, hA0, hV, rfl, hfz, hnd⟩ := hW
  have hA : DataW.TrodAll enc Tryd.prog W 0 (fun _ => true) true fn.params.toList args.toList ds p := hA0
  have hl : ds.length = fn.params.size := by
    have : ∀ (ts : List TypeId) (vs : List Value) (ds : List (DataW H)) (p : List MemPlace), DataW.TrodAll enc Tryd.prog W 0 (fun _ => true) true ts vs ds p → ds.length = ts.length := by
      intro ts
      induction ts with
      | nil => intro vs ds p h; cases vs <;> cases ds <;> simp [DataW.TrodAll] at h ⊢
      | cons t ts ih => intro vs ds p h; cases vs <;> cases ds <;> simp [DataW.TrodAll] at h ⊢; obtain ⟨_, _, _, h, _⟩ := h; exact ih _ _ _ h
    have := this _ _ _ _ hA
    simpa using this
  rw [hv] at hV
  have hg : gs = [] ∧ q = [] := by cases gs <;> simp [DataW.TrodVars] at hV; exact ⟨rfl, hV⟩
  obtain ⟨rfl, rfl⟩ := hg
  obtain ⟨hs1, hs2, hs3⟩ := hs ds hl
  refine (hc W base args ds p hval hA).mono fun e W' ⟨he, hb⟩ => ⟨_, he, ds, [], _, [], p, [], hW', ?_, ?_, ?_, hb.frame _, fun h => by cases h⟩
  · rw [hs1, hrt]
    exact trodAll_mk1 (shut_bool hbt true)
  · rw [hs2]
    exact trodAll_below hb (readable_ok hpr) hA fun x hx => hW'.lt x (by simpa using hx)
  · rw [hs3, hv]
    exact rfl

/-- a code that came in, as data -/

theorem code_has {t e : TypeId} (ht : Tryd.prog.underlying t = some (.slice e)) (he : Tryd.prog.underlying e = some (.int .u8)) (hc : Tryd.prog.cellsOf e = 1) {W : World} {v : Value} {d : DataW H} {p : List MemPlace} {base : Nat} (hv : Value.okWide Tryd.prog W .any base t v) (h : DataW.Trod enc Tryd.prog W 0 (fun _ => true) true t v d p) :
    ∃ zs : List Int, Has W (fun b => b < W.heap.size) (.sl 1 zs.length (rowF u8F zs)) v ∧ (∀ z ∈ zs, 0 ≤ z ∧ z ≤ 255) := by
  obtain ⟨a0, len, cap, rfl⟩ := okWide_slice ht hv
  obtain ⟨fuel, hf⟩ := h
  rcases open_ints ht he hc hf with ⟨hcs, hx⟩ | ⟨a, len', cap', zs, hcs, _, hl, hm, hz, hx, hcell, hwz⟩
  · simp [Value.cells] at hcs
    obtain ⟨rfl, rfl, rfl⟩ := hcs
    exact ⟨[], ⟨none, 0, rfl, Nat.le_refl _, Nat.zero_le _, fun h => absurd h (by simp)⟩, by simp⟩
  · simp [Value.cells] at hcs
    obtain ⟨rfl, rfl, rfl⟩ := hcs
    have hz : zs.length = cap := by simpa using hz
    have hlen : (zs.take len).length = len := by simp; omega
    refine ⟨zs.take len, ?_, fun z hz' => ?_⟩
    · rw [hlen]
      refine ⟨some a, cap, rfl, hl, hm, fun hp => ?_⟩
      have h0 := hcell 0 (by omega)
      have hsp := World.cell?_spot h0
      have hsp : a.spot = none := hsp
      obtain ⟨b, off, spot⟩ := a
      simp only at hsp
      subst hsp
      refine ⟨b, off, rfl, ?_, fun i k hi hk => ?_⟩
      · rcases Nat.lt_or_ge b W.heap.size with hlt | hge
        · exact hlt
        · have h0 : W.cell? ⟨b, off, none⟩ = _ := h0
          simp [World.cell?, Array.getElem?_eq_none hge] at h0
      · have hk : k = 0 := by omega
        subst hk
        have h1 := hcell i (by omega)
        rw [addr_add'] at h1
        refine ⟨_, by simpa using h1, rfl, ?_⟩
        show Value.int .u8 _ = .int .u8 _
        congr 1
        simp [List.getD_eq_getElem?_getD, List.getElem?_take, hi]
    · have := hwz z (List.mem_of_mem_take hz')
      simpa [Lit.wf, IntKind.min, IntKind.max, IntKind.signed, IntKind.bits] using this
end

/-- a law's contract in the frame's words -/
theorem law_calls {f : FuncId} {ss : List SV} (h : SRet Tryd.prog f ss (· = .b true)) {W : World} {args : Array Value} (ha : HasL W (fun b => b < W.heap.size) ss args.toList) : Calls Tryd.prog f args W fun e W' => e = .returned (.bool true) ∧ Below W.heap.size W W' := by
  let R0 : Heaplet := ⟨fun _ => False, fun _ _ => True, fun _ _ => trivial, fun _ _ => trivial⟩
  have hs0 : HSat W (fun b => b < W.heap.size) [.cust R0] := ⟨fun x hx => by rw [List.mem_singleton.1 hx]; trivial, fun x hx b hb => by rw [List.mem_singleton.1 hx] at hb; exact hb.elim, by simp, fun b hb => hb⟩
  refine ((h.h R0).2 W _ args.toList hs0 ha).mono ?_
  rintro e W' ⟨v, rfl, r, F', H', ⟨_, rfl⟩, hk, hF, hs', hr⟩
  have hr : v = .bool true := hr
  subst hr
  exact ⟨rfl, hk.os, hk.tape, hk.output, hk.size, hk.blk⟩
end Go.Proofs.YtpmhikdefbcofaaDoor
/-! YtpmhikdefbcofaaDoorEx -/
set_option linter.all false
namespace Go.Proofs.YtpmhikdefbcofaaDoor
open Go.ChangeShapes Go.WideShapes Go.RowKit

section
variable {H : Type} {enc : TypeId × Value → H} {base : Nat}

/-- these cells read as data of this type -/
def Td (enc : TypeId × Value → H) (W : World) (t : TypeId) (cs : List Value) : Prop := ∃ fuel x, DataW.trod enc Tryd.prog W 0 (fun _ => true) true fuel t cs = some x
abbrev allF (W : World) : Nat → Prop := fun b => b < W.heap.size
/-- cells, told one by one -/
def Cls (W : World) (sz : Nat) (f : Nat → SV) (cs : List Value) : Prop := cs.length = sz ∧ ∀ j, j < sz → (cs.getD j undef).oneCell' = true ∧ Has W (allF W) (f j) (cs.getD j undef)
def IR (n : Int) : Prop := -9223372036854775808 ≤ n ∧ n ≤ 9223372036854775807

theorem td_int {W : World} {t : TypeId} {cs : List Value} (ht : Tryd.prog.underlying t = some (.int .i64)) (h : Td enc W t cs) : ∃ n, IR n ∧ cs = [.int .i64 n] := by
  obtain ⟨fuel, x, h⟩ := h
  obtain ⟨n, e, _, hw⟩ := DataW.trod_int ht h
  refine ⟨n, ?_, e⟩
  simp [Lit.wf, IntKind.min, IntKind.max, IntKind.signed, IntKind.bits] at hw
  exact hw
theorem td_bool {W : World} {t : TypeId} {cs : List Value} (ht : Tryd.prog.underlying t = some .bool) (h : Td enc W t cs) : ∃ b, cs = [.bool b] := by
  obtain ⟨fuel, x, h⟩ := h
  cases fuel with
  | zero => simp [DataW.trod] at h
  | succ n =>
    unfold DataW.trod at h
    rw [ht] at h
    split at h <;> simp_all
theorem Cls.one {W : World} {s : SV} {v : Value} (h1 : v.oneCell' = true) (h : Has W (allF W) s v) : Cls W 1 (fun _ => s) [v] := ⟨rfl, fun j hj => by
  obtain rfl : j = 0 := by omega
  exact ⟨h1, h⟩⟩
theorem td_slice {α : Type} [Inhabited α] {W : World} (en : α → Nat → SV) (ok : α → Prop) {t e : TypeId} {sz : Nat} (ht : Tryd.prog.underlying t = some (.slice e)) (hc : Tryd.prog.cellsOf e = sz) (h0 : 0 < sz)
    (hel : ∀ cs, Td enc W e cs → ∃ a, ok a ∧ Cls W sz (en a) cs) {cs : List Value} (h : Td enc W t cs) : ∃ (l : List α) (v : Value), (∀ a ∈ l, ok a) ∧ l.length ≤ 9223372036854775807 ∧ cs = [v] ∧ v.oneCell' = true ∧ Has W (allF W) (.sl sz l.length (rowF en l)) v := by
  obtain ⟨fuel, x, h⟩ := h
  rcases Deep.open_slice ht h with ⟨rfl, _⟩ | ⟨a, len, cap, m, n, D, Pl, rfl, hb, hl, hm, hmm, _, hx⟩
  · exact ⟨[], _, by simp, by simp, rfl, rfl, none, 0, rfl, Nat.le_refl _, Nat.zero_le _, fun h => absurd h (by simp)⟩
  · have hlm : len ≤ m := by rw [hmm]; simp; omega
    obtain ⟨F, hF⟩ := Deep.choose_lt (α := α) (n := len) (p := fun i y => ok y ∧ ∀ j, j < sz → ∃ u, W.cell? ((a.add (i * sz)).add j) = some u ∧ u.oneCell' = true ∧ Has W (allF W) (en y j) u) (fun i hi => by
      obtain ⟨cs', h1, h2⟩ := hx i (by omega)
      rw [hc] at h1
      obtain ⟨y, hy, hlen, hcl⟩ := hel cs' ⟨_, _, h2⟩
      refine ⟨y, hy, fun j hj => ?_⟩
      have := (World.cells?_some h1).2.2 j hj
      refine ⟨cs'.getD j undef, ?_, hcl j hj⟩
      rw [this, List.getD_eq_getElem?_getD, List.getElem?_eq_getElem (by omega)]
      rfl)
    have hlen : ((List.range len).map F).length = len := by simp
    have hget : ∀ i, i < len → ((List.range len).map F).getD i default = F i := fun i hi => by simp [List.getD_eq_getElem?_getD, hi]
    refine ⟨(List.range len).map F, _, fun y hy => ?_, by rw [hlen]; unfold maxLen at hm; omega, rfl, rfl, some a, cap, by rw [hlen], by rw [hlen]; exact hl, hm, fun hp => ?_⟩
    · obtain ⟨i, hi, rfl⟩ := List.mem_map.1 hy
      exact (hF i (List.mem_range.1 hi)).1
    · rw [hlen] at hp
      obtain ⟨u0, hu0, _, _⟩ := (hF 0 hp).2 0 h0
      have hs : a.spot = none := by
        have := World.cell?_spot hu0
        simpa [Addr.add] using this
      obtain ⟨b, off, sp⟩ := a
      simp only at hs
      subst hs
      refine ⟨b, off, rfl, ?_, fun i k hi hk => ?_⟩
      · rcases Nat.lt_or_ge b W.heap.size with hlt | hge
        · exact hlt
        · rw [addr_add', addr_add'] at hu0
          simp [World.cell?, Array.getElem?_eq_none hge] at hu0
      · rw [hlen] at hi
        obtain ⟨u, hu, h1, h2⟩ := (hF i hi).2 k hk
        rw [addr_add', addr_add', Nat.add_assoc] at hu
        refine ⟨u, hu, h1, ?_⟩
        show Has W (allF W) (en (((List.range len).map F).getD i default) k) u
        rw [hget i hi]
        exact h2
/-- a field of a struct -/
theorem td_field {W : World} {t : TypeId} {fs : Array Field} {cs : List Value} (ht : Tryd.prog.underlying t = some (.struct fs)) (h : Td enc W t cs) : cs.length = Tryd.prog.cellsOf t ∧ ∀ (i : Nat) (f : Field), fs[i]? = some f → Td enc W f.type ((cs.drop f.offset).take (Tryd.prog.cellsOf f.type)) := by
  obtain ⟨fuel, x, h⟩ := h
  obtain ⟨xs, n, _, _, hl, hx, hf⟩ := DataW.trod_struct ht h
  refine ⟨hl, fun i f hi => ?_⟩
  have hlt : i < fs.size := (Array.getElem?_eq_some_iff.1 hi).1
  have := hf i f hi
  rw [List.getElem?_eq_getElem (by omega)] at this
  exact ⟨n, _, this⟩
theorem td_at {W : World} {t : TypeId} {fs : Array Field} {cs : List Value} (ht : Tryd.prog.underlying t = some (.struct fs)) (h : Td enc W t cs) (i : Nat) {f : Field} (hi : fs[i]? = some f) (o n : Nat) (ft : TypeId) (ho : f.offset = o) (hft : f.type = ft) (hc : Tryd.prog.cellsOf ft = n) : Td enc W ft ((cs.drop o).take n) := by
  have := (td_field ht h).2 i f hi
  rwa [ho, hft, hc] at this
/-- a list of ints that came in -/
theorem td_ints {W : World} {t e : TypeId} {cs : List Value} (ht : Tryd.prog.underlying t = some (.slice e)) (he : Tryd.prog.underlying e = some (.int .i64)) (hc : Tryd.prog.cellsOf e = 1) (h : Td enc W t cs) : ∃ (l : List Int) (v : Value), (∀ a ∈ l, IR a) ∧ l.length ≤ 9223372036854775807 ∧ cs = [v] ∧ v.oneCell' = true ∧ Has W (allF W) (isl l) v :=
  td_slice (W := W) intF IR ht hc (by omega) (fun cs h => by
    obtain ⟨n, hn, rfl⟩ := td_int he h
    exact ⟨n, hn, Cls.one rfl rfl⟩) h
set_option maxRecDepth 100000 in
/-- arguments -/
theorem arg_ints {W : World} {t e : TypeId} {v : Value} {d : DataW H} {p : List MemPlace} (ht : Tryd.prog.underlying t = some (.slice e)) (he : Tryd.prog.underlying e = some (.int .i64)) (hc : Tryd.prog.cellsOf e = 1) (hv : Value.okWide Tryd.prog W .any base t v) (h : DataW.Trod enc Tryd.prog W 0 (fun _ => true) true t v d p) : ∃ (l : List Int), (∀ a ∈ l, IR a) ∧ l.length ≤ 9223372036854775807 ∧ Has W (allF W) (isl l) v := by
  obtain ⟨a0, len, cap, rfl⟩ := okWide_slice ht hv
  obtain ⟨fuel, h⟩ := h
  obtain ⟨l, v, h1, h2, h3, _, h4⟩ := td_ints ht he hc ⟨fuel, _, h⟩
  simp [Value.cells] at h3
  subst h3
  exact ⟨l, h1, h2, h4⟩
set_option maxRecDepth 100000 in
theorem arg_int {W : World} {t : TypeId} {v : Value} {d : DataW H} {p : List MemPlace} (ht : Tryd.prog.underlying t = some (.int .i64)) (hv : Value.okWide Tryd.prog W .any base t v) (h : DataW.Trod enc Tryd.prog W 0 (fun _ => true) true t v d p) : ∃ n, IR n ∧ Has W (allF W) (.i n) v := by
  obtain ⟨n, rfl⟩ := okWide_int ht hv
  obtain ⟨fuel, h⟩ := h
  obtain ⟨m, hm, e⟩ := td_int ht ⟨fuel, _, h⟩
  simp [Value.cells] at e
  subst e
  exact ⟨n, hm, rfl⟩
set_option maxRecDepth 100000 in
theorem arg_slice {α : Type} [Inhabited α] {W : World} (en : α → Nat → SV) (ok : α → Prop) {t e : TypeId} {sz : Nat} {v : Value} {d : DataW H} {p : List MemPlace} (ht : Tryd.prog.underlying t = some (.slice e)) (hc : Tryd.prog.cellsOf e = sz) (h0 : 0 < sz)
    (hel : ∀ cs, Td enc W e cs → ∃ a, ok a ∧ Cls W sz (en a) cs) (hv : Value.okWide Tryd.prog W .any base t v) (h : DataW.Trod enc Tryd.prog W 0 (fun _ => true) true t v d p) : ∃ (l : List α), (∀ a ∈ l, ok a) ∧ l.length ≤ 9223372036854775807 ∧ Has W (allF W) (.sl sz l.length (rowF en l)) v := by
  obtain ⟨a0, len, cap, rfl⟩ := okWide_slice ht hv
  obtain ⟨fuel, h⟩ := h
  obtain ⟨l, v, h1, h2, h3, _, h4⟩ := td_slice en ok ht hc h0 hel ⟨fuel, _, h⟩
  simp [Value.cells] at h3
  subst h3
  exact ⟨l, h1, h2, h4⟩
set_option maxRecDepth 100000 in
theorem arg_struct {α : Type} {W : World} (en : α → Nat → SV) (ok : α → Prop) {t : TypeId} {fs : Array Field} {sz : Nat} {v : Value} {d : DataW H} {p : List MemPlace} (ht : Tryd.prog.underlying t = some (.struct fs)) (hel : ∀ cs, Td enc W t cs → ∃ a, ok a ∧ Cls W sz (en a) cs) (hv : Value.okWide Tryd.prog W .any base t v) (h : DataW.Trod enc Tryd.prog W 0 (fun _ => true) true t v d p) :
    ∃ a : α, ok a ∧ Has W (allF W) (.agg sz (en a)) v := by
  obtain ⟨vs, rfl, _⟩ := okWide_struct ht hv
  obtain ⟨fuel, h⟩ := h
  obtain ⟨a, h1, h2, h3⟩ := hel _ ⟨fuel, _, h⟩
  refine ⟨a, h1, vs, rfl, by simpa [Value.cells] using h2, fun k hk => ?_⟩
  have := (h3 k hk).2
  simpa [Value.cells] using this
end
theorem trodAll_four {H : Type} {enc : TypeId × Value → H} {P : Program} {w : World} {base : Nat} {spare : Nat → Bool} {held : Bool} {t0 t1 t2 t3 : TypeId} {vs : List Value} {d0 d1 d2 d3 : DataW H} {ps : List MemPlace} (h : DataW.TrodAll enc P w base spare held [t0, t1, t2, t3] vs [d0, d1, d2, d3] ps) :
    ∃ v0 v1 v2 v3 p0 p1 p2 p3, vs = [v0, v1, v2, v3] ∧ DataW.Trod enc P w base spare held t0 v0 d0 p0 ∧ DataW.Trod enc P w base spare held t1 v1 d1 p1 ∧ DataW.Trod enc P w base spare held t2 v2 d2 p2 ∧ DataW.Trod enc P w base spare held t3 v3 d3 p3 := by
  match vs, h with
  | [], h => exact h.elim
  | v0 :: vs, ⟨p0, q0, h0, h, _⟩ =>
    match vs, h with
    | [], h => exact h.elim
    | v1 :: vs, ⟨p1, q1, h1, h, _⟩ =>
      match vs, h with
      | [], h => exact h.elim
      | v2 :: vs, ⟨p2, q2, h2, h, _⟩ =>
        match vs, h with
        | [], h => exact h.elim
        | v3 :: vs, ⟨p3, q3, h3, h, _⟩ =>
          match vs, h with
          | [], _ => exact ⟨v0, v1, v2, v3, p0, p1, p2, p3, rfl, h0, h1, h2, h3⟩
          | _ :: _, h => exact h.elim
theorem trodAll_three {H : Type} {enc : TypeId × Value → H} {P : Program} {w : World} {base : Nat} {spare : Nat → Bool} {held : Bool} {t0 t1 t2 : TypeId} {vs : List Value} {d0 d1 d2 : DataW H} {ps : List MemPlace} (h : DataW.TrodAll enc P w base spare held [t0, t1, t2] vs [d0, d1, d2] ps) :
    ∃ v0 v1 v2 p0 p1 p2, vs = [v0, v1, v2] ∧ DataW.Trod enc P w base spare held t0 v0 d0 p0 ∧ DataW.Trod enc P w base spare held t1 v1 d1 p1 ∧ DataW.Trod enc P w base spare held t2 v2 d2 p2 := by
  match vs, h with
  | [], h => exact h.elim
  | v0 :: vs, ⟨p0, q0, h0, h, _⟩ =>
    match vs, h with
    | [], h => exact h.elim
    | v1 :: vs, ⟨p1, q1, h1, h, _⟩ =>
      match vs, h with
      | [], h => exact h.elim
      | v2 :: vs, ⟨p2, q2, h2, h, _⟩ =>
        match vs, h with
        | [], _ => exact ⟨v0, v1, v2, p0, p1, p2, rfl, h0, h1, h2⟩
        | _ :: _, h => exact h.elim
theorem trodAll_len {H : Type} {enc : TypeId × Value → H} {P : Program} {w : World} {base : Nat} {spare : Nat → Bool} {held : Bool} : ∀ {ts : List TypeId} {vs : List Value} {ds : List (DataW H)} {ps : List MemPlace}, DataW.TrodAll enc P w base spare held ts vs ds ps → ds.length = ts.length
  | [], [], [], _, _ => rfl
  | _ :: _, _ :: _, _ :: _, _, ⟨_, _, _, h, _⟩ => congrArg (· + 1) (trodAll_len h)
  | [], _ :: _, _, _, h => h.elim
  | [], [], _ :: _, _, h => h.elim
  | _ :: _, [], _, _, h => h.elim
  | _ :: _, _ :: _, [], _, h => h.elim
end Go.Proofs.YtpmhikdefbcofaaDoor
/-! YtpmhikdefbcofaaDoorExI -/
set_option linter.all false
namespace Go.Proofs.YtpmhikdefbcofaaDoor
open Go.RowKit

theorem szIntS_c (l : List Int) (z : Int) (hl : l.length ≤ 9223372036854775807) (hz : 0 ≤ z ∧ z ≤ 1048576) : SRet Tryd.prog 54 [isl l, .i z] (fun r => (r = .i (-1) ∧ z < l.length) ∨ ((l.length : Int) ≤ z ∧ r = .i (z - l.length))) := ⟨fun R => by
  refine SCalls.enter tt_ok Tryd.func54 (by kernel_rfl) rfl [(900, .cust R)] rfl (argF _) (fun w F v k h => h) (by simp) ?_
  repeat' (first | (with_reducible first | refine HT.seq ?_ | refine HT.block ?_ | refine Br.not ?_) | ((with_reducible first | refine HT.region tt_ok ?_ | refine HT.drawn tt_ok (by kernel_rfl) (by decide +kernel) ?_ | refine HT.drawnL tt_ok (by kernel_rfl) (by decide +kernel) ?_ | refine HT.cond ?_ | refine HT.ret ?_ | refine HT.skip ?_ | refine HT.exit ?_ | refine Br.tt ?_ | refine Br.ff ?_); conv => whnf) | ((with_reducible first | refine Br.dec (fun hc => ?_) (fun hc => ?_) | refine Br.eq (fun hc => ?_) (fun hc => ?_) | refine Br.ne (fun hc => ?_) (fun hc => ?_)) <;> (first | (exfalso; omega) | conv => whnf)) | ((with_reducible first | refine Br.ttE (by decide) ?_ | refine Br.ffE (by decide) ?_ | refine Br.mk (fun hc => ?_) (fun hc => ?_) | refine Chk.mk (by first | omega | with_reducible rfl | (refine ⟨rfl, ?_⟩; omega) | decide | exact ⟨rfl, by omega, by omega, rfl⟩ | exact ⟨by assumption, rfl, by omega, by omega⟩) ?_ | refine Ar.fit (by omega) ?_ | refine Eqv.shr1 ?_ | refine Ar.u64 (by omega) ?_) <;> conv => whnf) | (with_reducible exact trivial) | ((with_reducible refine And.intro ?_ ?_) <;> conv => whnf) | (intro gn; conv => whnf))
  · exact Fin.pureS (by repeat (first | exact List.Sublist.refl _ | refine List.Sublist.cons_cons _ ?_ | refine List.Sublist.cons _ ?_)) (.inl ⟨rfl, by omega⟩)
  · exact Fin.pureS (by repeat (first | exact List.Sublist.refl _ | refine List.Sublist.cons_cons _ ?_ | refine List.Sublist.cons _ ?_)) (.inr ⟨by omega, rfl⟩)⟩
theorem eqIntS_c (l : List Int) (hl : l.length ≤ 9223372036854775800) : SRet Tryd.prog 15 [isl l, isl l] (· = .b true) := ⟨fun R => by
  refine SCalls.enter tt_ok Tryd.func15 (by kernel_rfl) rfl [(900, .cust R)] rfl (argF _) (fun w F v k h => h) (by simp) ?_
  repeat' (first | (with_reducible first | refine HT.seq ?_ | refine HT.block ?_ | refine Br.not ?_) | ((with_reducible first | refine HT.region tt_ok ?_ | refine HT.drawn tt_ok (by kernel_rfl) (by decide +kernel) ?_ | refine HT.drawnL tt_ok (by kernel_rfl) (by decide +kernel) ?_ | refine HT.cond ?_ | refine HT.ret ?_ | refine HT.skip ?_ | refine HT.exit ?_ | refine Br.tt ?_ | refine Br.ff ?_); conv => whnf) | ((with_reducible first | refine Br.dec (fun hc => ?_) (fun hc => ?_) | refine Br.eq (fun hc => ?_) (fun hc => ?_) | refine Br.ne (fun hc => ?_) (fun hc => ?_)) <;> (first | (exfalso; omega) | conv => whnf)) | ((with_reducible first | refine Br.ttE (by decide) ?_ | refine Br.ffE (by decide) ?_ | refine Br.mk (fun hc => ?_) (fun hc => ?_) | refine Chk.mk (by first | omega | with_reducible rfl | (refine ⟨rfl, ?_⟩; omega) | decide | exact ⟨rfl, by omega, by omega, rfl⟩ | exact ⟨by assumption, rfl, by omega, by omega⟩) ?_ | refine Ar.fit (by omega) ?_ | refine Eqv.shr1 ?_ | refine Ar.u64 (by omega) ?_) <;> conv => whnf) | (with_reducible exact trivial) | ((with_reducible refine And.intro ?_ ?_) <;> conv => whnf) | (intro gn; conv => whnf))
  refine HT.loopS [0, 1, 10] (fun k : Nat => [(5, .i k)]) (fun k : Nat => k ≤ l.length) (fun k : Nat => l.length - k) 0 (Nat.zero_le _) ⟨rfl, trivial⟩ ?_
  conv => whnf
  intro k hk
  repeat' (first | (with_reducible first | refine HT.seq ?_ | refine HT.block ?_ | refine Br.not ?_) | ((with_reducible first | refine HT.region tt_ok ?_ | refine HT.drawn tt_ok (by kernel_rfl) (by decide +kernel) ?_ | refine HT.drawnL tt_ok (by kernel_rfl) (by decide +kernel) ?_ | refine HT.cond ?_ | refine HT.ret ?_ | refine HT.skip ?_ | refine HT.exit ?_ | refine Br.tt ?_ | refine Br.ff ?_); conv => whnf) | ((with_reducible first | refine Br.dec (fun hc => ?_) (fun hc => ?_) | refine Br.eq (fun hc => ?_) (fun hc => ?_) | refine Br.ne (fun hc => ?_) (fun hc => ?_)) <;> (first | (exfalso; omega) | conv => whnf)) | ((with_reducible first | refine Br.ttE (by decide) ?_ | refine Br.ffE (by decide) ?_ | refine Br.mk (fun hc => ?_) (fun hc => ?_) | refine Chk.mk (by first | omega | with_reducible rfl | (refine ⟨rfl, ?_⟩; omega) | decide | exact ⟨rfl, by omega, by omega, rfl⟩ | exact ⟨by assumption, rfl, by omega, by omega⟩) ?_ | refine Ar.fit (by omega) ?_ | refine Eqv.shr1 ?_ | refine Ar.u64 (by omega) ?_) <;> conv => whnf) | (with_reducible exact trivial) | ((with_reducible refine And.intro ?_ ?_) <;> conv => whnf) | (intro gn; conv => whnf))
  · exact ⟨⟨k + 1, by omega, by omega, (by repeat' (first | exact trivial | refine ⟨rfl, ?_⟩)), ⟨sv_i (by omega), trivial⟩, (HLe.sub (by repeat (first | exact List.Sublist.refl _ | refine List.Sublist.cons_cons _ ?_ | refine List.Sublist.cons _ ?_)))⟩⟩
  · exact Fin.pureS (by repeat (first | exact List.Sublist.refl _ | refine List.Sublist.cons_cons _ ?_ | refine List.Sublist.cons _ ?_)) (rfl)⟩
theorem toIntS_o (l : List Int) (hl : l.length ≤ 1000000000) : SNew Tryd.prog 12 [isl l] (MadeL (fun x => x = l) 3) := ⟨fun R => by
  refine SCalls.enter tt_ok Tryd.func12 (by kernel_rfl) rfl [(900, .cust R)] rfl (argF _) (fun w F v k h => h) (by simp) ?_
  repeat' (first | (with_reducible first | refine HT.seq ?_ | refine HT.block ?_ | refine Br.not ?_) | ((with_reducible first | refine HT.region tt_ok ?_ | refine HT.drawn tt_ok (by kernel_rfl) (by decide +kernel) ?_ | refine HT.drawnL tt_ok (by kernel_rfl) (by decide +kernel) ?_ | refine HT.cond ?_ | refine HT.ret ?_ | refine HT.skip ?_ | refine HT.exit ?_ | refine Br.tt ?_ | refine Br.ff ?_); conv => whnf) | ((with_reducible first | refine Br.dec (fun hc => ?_) (fun hc => ?_) | refine Br.eq (fun hc => ?_) (fun hc => ?_) | refine Br.ne (fun hc => ?_) (fun hc => ?_)) <;> (first | (exfalso; omega) | conv => whnf)) | ((with_reducible first | refine Br.ttE (by decide) ?_ | refine Br.ffE (by decide) ?_ | refine Br.mk (fun hc => ?_) (fun hc => ?_) | refine Chk.mk (by first | omega | with_reducible rfl | (refine ⟨rfl, ?_⟩; omega) | decide | exact ⟨rfl, by omega, by omega, rfl⟩ | exact ⟨by assumption, rfl, by omega, by omega⟩) ?_ | refine Ar.fit (by omega) ?_ | refine Eqv.shr1 ?_ | refine Ar.u64 (by omega) ?_) <;> conv => whnf) | (with_reducible exact trivial) | ((with_reducible refine And.intro ?_ ?_) <;> conv => whnf) | (intro gn; conv => whnf))
  revert gn; intro gb
  refine HT.loopC [0, 2, 3] (fun k : Nat => [(4, .i k)]) (fun k : Nat => [(100, .cells (part (rowF intF l) (zF [.int .i64 0]) k))]) (fun k : Nat => k ≤ l.length) (fun k : Nat => l.length - k) 0 (Nat.zero_le _) ⟨(by first | with_reducible exact CellLe.refl _ | exact CellLe.own | exact CellLe.i (by omega) | exact CellLe.nil | exact CellLe.slNil | exact CellLe.refl _), trivial⟩ ?_ ?_
  · conv => whnf
    refine PP.start ?_; repeat (first | exact PP.nil | refine PP.take (by first | with_reducible exact Hp.Sub.refl _ | exact Hp.Sub.rd (by omega) | exact Hp.Sub.rowL rfl (fun w F i j hi hj => LeW.of_eq (part_ge (Nat.zero_le _)).symm) | exact Hp.Sub.boxA (by (repeat (first | exact all_lt_zero | refine all_lt_succ (p := fun j => CellLe _ _) (by first | with_reducible exact CellLe.refl _ | exact CellLe.own | exact CellLe.i (by omega) | exact CellLe.nil | exact CellLe.slNil | exact CellLe.refl _) ?_))) | exact Hp.Sub.refl _) ?_ | refine PP.skip ?_)
  conv => whnf
  intro k hk
  conv => whnf
  repeat' (first | (with_reducible first | refine HT.seq ?_ | refine HT.block ?_ | refine Br.not ?_) | ((with_reducible first | refine HT.region tt_ok ?_ | refine HT.drawn tt_ok (by kernel_rfl) (by decide +kernel) ?_ | refine HT.drawnL tt_ok (by kernel_rfl) (by decide +kernel) ?_ | refine HT.cond ?_ | refine HT.ret ?_ | refine HT.skip ?_ | refine HT.exit ?_ | refine Br.tt ?_ | refine Br.ff ?_); conv => whnf) | ((with_reducible first | refine Br.dec (fun hc => ?_) (fun hc => ?_) | refine Br.eq (fun hc => ?_) (fun hc => ?_) | refine Br.ne (fun hc => ?_) (fun hc => ?_)) <;> (first | (exfalso; omega) | conv => whnf)) | ((with_reducible first | refine Br.ttE (by decide) ?_ | refine Br.ffE (by decide) ?_ | refine Br.mk (fun hc => ?_) (fun hc => ?_) | refine Chk.mk (by first | omega | with_reducible rfl | (refine ⟨rfl, ?_⟩; omega) | decide | exact ⟨rfl, by omega, by omega, rfl⟩ | exact ⟨by assumption, rfl, by omega, by omega⟩) ?_ | refine Ar.fit (by omega) ?_ | refine Eqv.shr1 ?_ | refine Ar.u64 (by omega) ?_) <;> conv => whnf) | (with_reducible exact trivial) | ((with_reducible refine And.intro ?_ ?_) <;> conv => whnf) | (intro gn; conv => whnf))
  all_goals (try simp only [Int.toNat_natCast] at *)
  · exact ⟨⟨k + 1, by omega, by omega, (by repeat' (first | exact trivial | refine ⟨rfl, ?_⟩)), ⟨(by first | with_reducible exact CellLe.refl _ | exact CellLe.own | exact CellLe.i (by omega) | exact CellLe.nil | exact CellLe.slNil | exact CellLe.refl _), trivial⟩, HLe.pk (by
      conv => whnf
      refine PP.start ?_; repeat (first | exact PP.nil | refine PP.take (by first | with_reducible exact Hp.Sub.refl _ | exact Hp.Sub.rd (by omega) | exact Hp.Sub.rowL rfl (fun w F i j hi hj => put_one (by rw [part_lt (Nat.lt_succ_self k)]; exact fun _ h => h) (fun hne => LeW.of_eq (part_next hne)) hj) | exact Hp.Sub.boxA (by (repeat (first | exact all_lt_zero | refine all_lt_succ (p := fun j => CellLe _ _) (by first | with_reducible exact CellLe.refl _ | exact CellLe.own | exact CellLe.i (by omega) | exact CellLe.nil | exact CellLe.slNil | exact CellLe.refl _) ?_))) | exact Hp.Sub.refl _) ?_ | refine PP.skip ?_))⟩⟩
  · obtain rfl : k = l.length := by omega
    exact Fin.news [_] (fun _ => 0) (by refine PP.start ?_; repeat (first | exact PP.nil | refine PP.take (by first | with_reducible exact Hp.Sub.refl _ | exact Hp.Sub.rd (by omega) | exact Hp.Sub.rowA (by first | rfl | simp) (fun i j hi hj => part_lt hi) | exact Hp.Sub.boxA (by (repeat (first | exact all_lt_zero | refine all_lt_succ (p := fun j => CellLe _ _) (by first | with_reducible exact CellLe.refl _ | exact CellLe.own | exact CellLe.i (by omega) | exact CellLe.nil | exact CellLe.slNil | exact CellLe.refl _) ?_))) | exact Hp.Sub.refl _) ?_ | refine PP.skip ?_)) ⟨l, _, _, _, (by rfl), (by first | rfl | omega | (simp <;> omega)), rfl, rfl⟩⟩
theorem toIntS_c (l : List Int) (hl : l.length ≤ 1000000000) : SRet Tryd.prog 12 [isl l] (· = isl l) := (SNew.stillL (toIntS_o l hl)).imp fun r ⟨x, h1, h2⟩ => by rw [h2, h1]
end Go.Proofs.YtpmhikdefbcofaaDoor
/-! YtpmhikdefbcofaaDoorExV -/
set_option linter.all false
namespace Go.Proofs.YtpmhikdefbcofaaDoor
open Go.RowKit Go.ChangeShapes Go.WideShapes

def okVx (v : Vx) : Prop := v.ps.length ≤ 9223372036854775807 ∧ IR v.r ∧ IR v.a ∧ IR v.d
theorem td_vx {H : Type} {enc : TypeId × Value → H} {W : World} {cs : List Value} (h : Td enc W 47 cs) : ∃ v : Vx, okVx v ∧ Cls W 4 (vxF v) cs := by
  have hl : cs.length = 4 := (td_field Tryd.underlying47 h).1.trans (by kernel_rfl)
  have c3 : Tryd.prog.cellsOf 3 = 1 := by kernel_rfl
  have c23 : Tryd.prog.cellsOf 22 = 1 := by kernel_rfl
  obtain ⟨r, hr, e0⟩ := td_int (t := 3) Tryd.underlying3 (td_at Tryd.underlying47 h 0 rfl 0 1 3 rfl rfl c3)
  obtain ⟨a, ha, e1⟩ := td_int (t := 3) Tryd.underlying3 (td_at Tryd.underlying47 h 1 rfl 1 1 3 rfl rfl c3)
  obtain ⟨ps, v, _, hps, e2, h21, h22⟩ := td_ints (t := 22) (e := 3) Tryd.underlying22 Tryd.underlying3 c3 (td_at Tryd.underlying47 h 2 rfl 2 1 22 rfl rfl c23)
  obtain ⟨d, hd, e3⟩ := td_int (t := 3) Tryd.underlying3 (td_at Tryd.underlying47 h 3 rfl 3 1 3 rfl rfl c3)
  match cs, hl with
  | [c0, c1, c2, c3], _ =>
    have q0 : c0 = .int .i64 r := (List.cons.inj (show [c0] = [_] from e0)).1
    have q1 : c1 = .int .i64 a := (List.cons.inj (show [c1] = [_] from e1)).1
    have q2 : c2 = v := (List.cons.inj (show [c2] = [_] from e2)).1
    have q3 : c3 = .int .i64 d := (List.cons.inj (show [c3] = [_] from e3)).1
    clear e0 e1 e2 e3
    subst q0 q1 q2 q3
    exact ⟨⟨r, a, ps, d⟩, ⟨hps, hr, ha, hd⟩, rfl, fun j hj => by
      rcases (by omega : j = 0 ∨ j = 1 ∨ j = 2 ∨ j = 3) with rfl | rfl | rfl | rfl
      · exact ⟨rfl, rfl⟩
      · exact ⟨rfl, rfl⟩
      · exact ⟨h21, h22⟩
      · exact ⟨rfl, rfl⟩⟩
theorem szVertex_c (v : Vx) (z : Int) (hv : okVx v) (hz : 0 ≤ z ∧ z ≤ 1048576) : SRet Tryd.prog 32 [vxV v, .i z] (fun r => r = .i (-1) ∨ ((v.ps.length : Int) ≤ z ∧ r = .i (z - v.ps.length))) := ⟨fun R => by
  have hv1 := hv.1
  refine SCalls.enter tt_ok Tryd.func32 (by kernel_rfl) rfl [(900, .cust R)] rfl (argF _) (fun w F v k h => h) (by simp) ?_
  repeat' (first | (with_reducible first | refine HT.seq ?_ | refine HT.block ?_ | refine Br.not ?_) | ((with_reducible first | refine HT.region tt_ok ?_ | refine HT.drawn tt_ok (by kernel_rfl) (by decide +kernel) ?_ | refine HT.drawnL tt_ok (by kernel_rfl) (by decide +kernel) ?_ | refine HT.cond ?_ | refine HT.ret ?_ | refine HT.skip ?_ | refine HT.exit ?_ | refine Br.tt ?_ | refine Br.ff ?_); conv => whnf) | ((with_reducible first | refine Br.dec (fun hc => ?_) (fun hc => ?_) | refine Br.eq (fun hc => ?_) (fun hc => ?_) | refine Br.ne (fun hc => ?_) (fun hc => ?_)) <;> (first | (exfalso; omega) | conv => whnf)) | ((with_reducible first | refine Br.ttE (by decide) ?_ | refine Br.ffE (by decide) ?_ | refine Br.mk (fun hc => ?_) (fun hc => ?_) | refine Chk.mk (by first | omega | with_reducible rfl | (refine ⟨rfl, ?_⟩; omega) | decide | exact ⟨rfl, by omega, by omega, rfl⟩ | exact ⟨by assumption, rfl, by omega, by omega⟩) ?_ | refine Ar.fit (by omega) ?_ | refine Eqv.shr1 ?_ | refine Ar.u64 (by omega) ?_) <;> conv => whnf) | ((first | (refine CallN.ret _ (szIntS_c v.ps z hv1 hz) ?_; rintro r (⟨rfl, hzl⟩ | ⟨hzl, rfl⟩))) <;> conv => whnf) | (with_reducible exact trivial) | ((with_reducible refine And.intro ?_ ?_) <;> conv => whnf) | (intro gn; conv => whnf))
  · exact Fin.pureS (by repeat (first | exact List.Sublist.refl _ | refine List.Sublist.cons_cons _ ?_ | refine List.Sublist.cons _ ?_)) (.inl rfl)
  · exact Fin.pureS (by repeat (first | exact List.Sublist.refl _ | refine List.Sublist.cons_cons _ ?_ | refine List.Sublist.cons _ ?_)) (.inr ⟨hzl, rfl⟩)⟩
theorem szVertexS_c (vs : List Vx) (z : Int) (hl : vs.length ≤ 9223372036854775807) (hv : ∀ v ∈ vs, okVx v) (hz : 0 ≤ z ∧ z ≤ 1048576) : SRet Tryd.prog 10 [vsl vs, .i z] (fun r => r = .i (-1) ∨ ((vs.length : Int) ≤ z ∧ (∀ v ∈ vs, (v.ps.length : Int) ≤ z) ∧ ∃ y : Int, 0 ≤ y ∧ y ≤ z ∧ r = .i y)) := ⟨fun R => by
  refine SCalls.enter tt_ok Tryd.func10 (by kernel_rfl) rfl [(900, .cust R)] rfl (argF _) (fun w F v k h => h) (by simp) ?_
  repeat' (first | (with_reducible first | refine HT.seq ?_ | refine HT.block ?_ | refine Br.not ?_) | ((with_reducible first | refine HT.region tt_ok ?_ | refine HT.drawn tt_ok (by kernel_rfl) (by decide +kernel) ?_ | refine HT.drawnL tt_ok (by kernel_rfl) (by decide +kernel) ?_ | refine HT.cond ?_ | refine HT.ret ?_ | refine HT.skip ?_ | refine HT.exit ?_ | refine Br.tt ?_ | refine Br.ff ?_); conv => whnf) | ((with_reducible first | refine Br.dec (fun hc => ?_) (fun hc => ?_) | refine Br.eq (fun hc => ?_) (fun hc => ?_) | refine Br.ne (fun hc => ?_) (fun hc => ?_)) <;> (first | (exfalso; omega) | conv => whnf)) | ((with_reducible first | refine Br.ttE (by decide) ?_ | refine Br.ffE (by decide) ?_ | refine Br.mk (fun hc => ?_) (fun hc => ?_) | refine Chk.mk (by first | omega | with_reducible rfl | (refine ⟨rfl, ?_⟩; omega) | decide | exact ⟨rfl, by omega, by omega, rfl⟩ | exact ⟨by assumption, rfl, by omega, by omega⟩) ?_ | refine Ar.fit (by omega) ?_ | refine Eqv.shr1 ?_ | refine Ar.u64 (by omega) ?_) <;> conv => whnf) | (with_reducible exact trivial) | ((with_reducible refine And.intro ?_ ?_) <;> conv => whnf) | (intro gn; conv => whnf))
  · exact Fin.pureS (by repeat (first | exact List.Sublist.refl _ | refine List.Sublist.cons_cons _ ?_ | refine List.Sublist.cons _ ?_)) (.inl rfl)
  refine HT.loopS [0, 11] (fun x : Nat × Int => [(5, .i x.1), (1, .i x.2)]) (fun x : Nat × Int => x.1 ≤ vs.length ∧ (0 ≤ x.2 ∧ x.2 ≤ z) ∧ ∀ j, j < x.1 → ((vs.getD j default).ps.length : Int) ≤ z) (fun x : Nat × Int => vs.length - x.1) (0, z - vs.length) ⟨Nat.zero_le _, by dsimp only; omega, fun j hj => absurd hj (by simp)⟩ ⟨rfl, rfl, trivial⟩ ?_
  conv => whnf
  rintro ⟨k, y⟩ ⟨hk, hy, hall⟩
  dsimp only at hk hy hall ⊢
  have hvk : k < vs.length → okVx (vs.getD k default) := fun h => hv _ (by rw [show vs.getD k default = vs[k] by simp [h]]; exact List.getElem_mem _)
  conv => whnf
  repeat' (first | (with_reducible first | refine HT.seq ?_ | refine HT.block ?_ | refine Br.not ?_) | ((with_reducible first | refine HT.region tt_ok ?_ | refine HT.drawn tt_ok (by kernel_rfl) (by decide +kernel) ?_ | refine HT.drawnL tt_ok (by kernel_rfl) (by decide +kernel) ?_ | refine HT.cond ?_ | refine HT.ret ?_ | refine HT.skip ?_ | refine HT.exit ?_ | refine Br.tt ?_ | refine Br.ff ?_); conv => whnf) | ((with_reducible first | refine Br.dec (fun hc => ?_) (fun hc => ?_) | refine Br.eq (fun hc => ?_) (fun hc => ?_) | refine Br.ne (fun hc => ?_) (fun hc => ?_)) <;> (first | (exfalso; omega) | conv => whnf)) | ((with_reducible first | refine Br.ttE (by decide) ?_ | refine Br.ffE (by decide) ?_ | refine Br.mk (fun hc => ?_) (fun hc => ?_) | refine Chk.mk (by first | omega | with_reducible rfl | (refine ⟨rfl, ?_⟩; omega) | decide | exact ⟨rfl, by omega, by omega, rfl⟩ | exact ⟨by assumption, rfl, by omega, by omega⟩) ?_ | refine Ar.fit (by omega) ?_ | refine Eqv.shr1 ?_ | refine Ar.u64 (by omega) ?_) <;> conv => whnf) | ((first | (refine CallN.ret _ (szVertex_c (vs.getD k default) y (hvk (by omega)) (by omega)) ?_; rintro r (rfl | ⟨hzl, rfl⟩))) <;> conv => whnf) | (with_reducible exact trivial) | ((with_reducible refine And.intro ?_ ?_) <;> conv => whnf) | (intro gn; conv => whnf))
  · exact Fin.pureS (by repeat (first | exact List.Sublist.refl _ | refine List.Sublist.cons_cons _ ?_ | refine List.Sublist.cons _ ?_)) (.inl rfl)
  · exact ⟨⟨(k + 1, y - (vs.getD k default).ps.length), ⟨by omega, by dsimp only; omega, all_lt_succ (by omega) hall⟩, by omega, (by repeat' (first | exact trivial | refine ⟨rfl, ?_⟩)), ⟨sv_i (by omega), rfl, trivial⟩, (HLe.sub (by repeat (first | exact List.Sublist.refl _ | refine List.Sublist.cons_cons _ ?_ | refine List.Sublist.cons _ ?_)))⟩⟩
  · refine Fin.pureS (by repeat (first | exact List.Sublist.refl _ | refine List.Sublist.cons_cons _ ?_ | refine List.Sublist.cons _ ?_)) (.inr ⟨by omega, fun v hv => ?_, y, hy.1, hy.2, rfl⟩)
    obtain ⟨j, hj, rfl⟩ := List.getElem_of_mem hv
    have := hall j (by omega)
    rwa [show vs.getD j default = vs[j] by simp [hj]] at this⟩
theorem eqVertex_c (v : Vx) (hv : v.ps.length ≤ 9223372036854775800) : SRet Tryd.prog 39 [vxV v, vxV v] (· = .b true) := ⟨fun R => by
  refine SCalls.enter tt_ok Tryd.func39 (by kernel_rfl) rfl [(900, .cust R)] rfl (argF _) (fun w F v k h => h) (by simp) ?_
  repeat' (first | (with_reducible first | refine HT.seq ?_ | refine HT.block ?_ | refine Br.not ?_) | ((with_reducible first | refine HT.region tt_ok ?_ | refine HT.drawn tt_ok (by kernel_rfl) (by decide +kernel) ?_ | refine HT.drawnL tt_ok (by kernel_rfl) (by decide +kernel) ?_ | refine HT.cond ?_ | refine HT.ret ?_ | refine HT.skip ?_ | refine HT.exit ?_ | refine Br.tt ?_ | refine Br.ff ?_); conv => whnf) | ((with_reducible first | refine Br.dec (fun hc => ?_) (fun hc => ?_) | refine Br.eq (fun hc => ?_) (fun hc => ?_) | refine Br.ne (fun hc => ?_) (fun hc => ?_)) <;> (first | (exfalso; omega) | conv => whnf)) | ((with_reducible first | refine Br.ttE (by decide) ?_ | refine Br.ffE (by decide) ?_ | refine Br.mk (fun hc => ?_) (fun hc => ?_) | refine Chk.mk (by first | omega | with_reducible rfl | (refine ⟨rfl, ?_⟩; omega) | decide | exact ⟨rfl, by omega, by omega, rfl⟩ | exact ⟨by assumption, rfl, by omega, by omega⟩) ?_ | refine Ar.fit (by omega) ?_ | refine Eqv.shr1 ?_ | refine Ar.u64 (by omega) ?_) <;> conv => whnf) | ((first | refine CallN.ret1 (eqIntS_c v.ps hv) ?_) <;> conv => whnf) | (with_reducible exact trivial) | ((with_reducible refine And.intro ?_ ?_) <;> conv => whnf) | (intro gn; conv => whnf))
  · exact Fin.pureS (by repeat (first | exact List.Sublist.refl _ | refine List.Sublist.cons_cons _ ?_ | refine List.Sublist.cons _ ?_)) (rfl)⟩
theorem eqVertexS_c (vs : List Vx) (hl : vs.length ≤ 9223372036854775800) (hv : ∀ v ∈ vs, v.ps.length ≤ 9223372036854775800) : SRet Tryd.prog 16 [vsl vs, vsl vs] (· = .b true) := ⟨fun R => by
  refine SCalls.enter tt_ok Tryd.func16 (by kernel_rfl) rfl [(900, .cust R)] rfl (argF _) (fun w F v k h => h) (by simp) ?_
  repeat' (first | (with_reducible first | refine HT.seq ?_ | refine HT.block ?_ | refine Br.not ?_) | ((with_reducible first | refine HT.region tt_ok ?_ | refine HT.drawn tt_ok (by kernel_rfl) (by decide +kernel) ?_ | refine HT.drawnL tt_ok (by kernel_rfl) (by decide +kernel) ?_ | refine HT.cond ?_ | refine HT.ret ?_ | refine HT.skip ?_ | refine HT.exit ?_ | refine Br.tt ?_ | refine Br.ff ?_); conv => whnf) | ((with_reducible first | refine Br.dec (fun hc => ?_) (fun hc => ?_) | refine Br.eq (fun hc => ?_) (fun hc => ?_) | refine Br.ne (fun hc => ?_) (fun hc => ?_)) <;> (first | (exfalso; omega) | conv => whnf)) | ((with_reducible first | refine Br.ttE (by decide) ?_ | refine Br.ffE (by decide) ?_ | refine Br.mk (fun hc => ?_) (fun hc => ?_) | refine Chk.mk (by first | omega | with_reducible rfl | (refine ⟨rfl, ?_⟩; omega) | decide | exact ⟨rfl, by omega, by omega, rfl⟩ | exact ⟨by assumption, rfl, by omega, by omega⟩) ?_ | refine Ar.fit (by omega) ?_ | refine Eqv.shr1 ?_ | refine Ar.u64 (by omega) ?_) <;> conv => whnf) | (with_reducible exact trivial) | ((with_reducible refine And.intro ?_ ?_) <;> conv => whnf) | (intro gn; conv => whnf))
  refine HT.loopS [0, 1, 10] (fun k : Nat => [(5, .i k)]) (fun k : Nat => k ≤ vs.length) (fun k : Nat => vs.length - k) 0 (Nat.zero_le _) ⟨rfl, trivial⟩ ?_
  conv => whnf
  intro k hk
  have hvk : k < vs.length → (vs.getD k default).ps.length ≤ 9223372036854775800 := fun h => hv _ (by rw [show vs.getD k default = vs[k] by simp [h]]; exact List.getElem_mem _)
  repeat' (first | (with_reducible first | refine HT.seq ?_ | refine HT.block ?_ | refine Br.not ?_) | ((with_reducible first | refine HT.region tt_ok ?_ | refine HT.drawn tt_ok (by kernel_rfl) (by decide +kernel) ?_ | refine HT.drawnL tt_ok (by kernel_rfl) (by decide +kernel) ?_ | refine HT.cond ?_ | refine HT.ret ?_ | refine HT.skip ?_ | refine HT.exit ?_ | refine Br.tt ?_ | refine Br.ff ?_); conv => whnf) | ((with_reducible first | refine Br.dec (fun hc => ?_) (fun hc => ?_) | refine Br.eq (fun hc => ?_) (fun hc => ?_) | refine Br.ne (fun hc => ?_) (fun hc => ?_)) <;> (first | (exfalso; omega) | conv => whnf)) | ((with_reducible first | refine Br.ttE (by decide) ?_ | refine Br.ffE (by decide) ?_ | refine Br.mk (fun hc => ?_) (fun hc => ?_) | refine Chk.mk (by first | omega | with_reducible rfl | (refine ⟨rfl, ?_⟩; omega) | decide | exact ⟨rfl, by omega, by omega, rfl⟩ | exact ⟨by assumption, rfl, by omega, by omega⟩) ?_ | refine Ar.fit (by omega) ?_ | refine Eqv.shr1 ?_ | refine Ar.u64 (by omega) ?_) <;> conv => whnf) | ((first | (refine CallN.ret1 (eqVertex_c (vs.getD k default) (hvk (by omega))) ?_)) <;> conv => whnf) | (with_reducible exact trivial) | ((with_reducible refine And.intro ?_ ?_) <;> conv => whnf) | (intro gn; conv => whnf))
  · exact ⟨⟨k + 1, by omega, by omega, (by repeat' (first | exact trivial | refine ⟨rfl, ?_⟩)), ⟨sv_i (by omega), trivial⟩, (HLe.sub (by repeat (first | exact List.Sublist.refl _ | refine List.Sublist.cons_cons _ ?_ | refine List.Sublist.cons _ ?_)))⟩⟩
  · exact Fin.pureS (by repeat (first | exact List.Sublist.refl _ | refine List.Sublist.cons_cons _ ?_ | refine List.Sublist.cons _ ?_)) (rfl)⟩
theorem toVertex_c (v : Vx) (hv : v.ps.length ≤ 1000000000) : SRet Tryd.prog 36 [vxV v] (· = vxV v) := ⟨fun R => by
  refine SCalls.enter tt_ok Tryd.func36 (by kernel_rfl) rfl [(900, .cust R)] rfl (argF _) (fun w F v k h => h) (by simp) ?_
  repeat' (first | (with_reducible first | refine HT.seq ?_ | refine HT.block ?_ | refine Br.not ?_) | ((with_reducible first | refine HT.region tt_ok ?_ | refine HT.drawn tt_ok (by kernel_rfl) (by decide +kernel) ?_ | refine HT.drawnL tt_ok (by kernel_rfl) (by decide +kernel) ?_ | refine HT.cond ?_ | refine HT.ret ?_ | refine HT.skip ?_ | refine HT.exit ?_ | refine Br.tt ?_ | refine Br.ff ?_); conv => whnf) | ((with_reducible first | refine Br.dec (fun hc => ?_) (fun hc => ?_) | refine Br.eq (fun hc => ?_) (fun hc => ?_) | refine Br.ne (fun hc => ?_) (fun hc => ?_)) <;> (first | (exfalso; omega) | conv => whnf)) | ((with_reducible first | refine Br.ttE (by decide) ?_ | refine Br.ffE (by decide) ?_ | refine Br.mk (fun hc => ?_) (fun hc => ?_) | refine Chk.mk (by first | omega | with_reducible rfl | (refine ⟨rfl, ?_⟩; omega) | decide | exact ⟨rfl, by omega, by omega, rfl⟩ | exact ⟨by assumption, rfl, by omega, by omega⟩) ?_ | refine Ar.fit (by omega) ?_ | refine Eqv.shr1 ?_ | refine Ar.u64 (by omega) ?_) <;> conv => whnf) | ((first | refine CallN.ret1 (toIntS_c v.ps hv) ?_) <;> conv => whnf) | (with_reducible exact trivial) | ((with_reducible refine And.intro ?_ ?_) <;> conv => whnf) | (intro gn; conv => whnf))
  exact Fin.pureLe (r' := vxV v) (by repeat (first | exact List.Sublist.refl _ | refine List.Sublist.cons_cons _ ?_ | refine List.Sublist.cons _ ?_)) (CellLe.aggL (fun j hj => by rcases (by omega : j = 0 ∨ j = 1 ∨ j = 2 ∨ j = 3) with rfl | rfl | rfl | rfl <;> exact CellLe.refl _)) rfl⟩
theorem toVertexS_c (vs : List Vx) (hl : vs.length ≤ 100000000) (hv : ∀ v ∈ vs, v.ps.length ≤ 1000000000) : SRet Tryd.prog 13 [vsl vs] (· = vsl vs) := ⟨fun R => by
  refine SCalls.enter tt_ok Tryd.func13 (by kernel_rfl) rfl [(900, .cust R)] rfl (argF _) (fun w F v k h => h) (by simp) ?_
  repeat' (first | (with_reducible first | refine HT.seq ?_ | refine HT.block ?_ | refine Br.not ?_) | ((with_reducible first | refine HT.region tt_ok ?_ | refine HT.drawn tt_ok (by kernel_rfl) (by decide +kernel) ?_ | refine HT.drawnL tt_ok (by kernel_rfl) (by decide +kernel) ?_ | refine HT.cond ?_ | refine HT.ret ?_ | refine HT.skip ?_ | refine HT.exit ?_ | refine Br.tt ?_ | refine Br.ff ?_); conv => whnf) | ((with_reducible first | refine Br.dec (fun hc => ?_) (fun hc => ?_) | refine Br.eq (fun hc => ?_) (fun hc => ?_) | refine Br.ne (fun hc => ?_) (fun hc => ?_)) <;> (first | (exfalso; omega) | conv => whnf)) | ((with_reducible first | refine Br.ttE (by decide) ?_ | refine Br.ffE (by decide) ?_ | refine Br.mk (fun hc => ?_) (fun hc => ?_) | refine Chk.mk (by first | omega | with_reducible rfl | (refine ⟨rfl, ?_⟩; omega) | decide | exact ⟨rfl, by omega, by omega, rfl⟩ | exact ⟨by assumption, rfl, by omega, by omega⟩) ?_ | refine Ar.fit (by omega) ?_ | refine Eqv.shr1 ?_ | refine Ar.u64 (by omega) ?_) <;> conv => whnf) | (with_reducible exact trivial) | ((with_reducible refine And.intro ?_ ?_) <;> conv => whnf) | (intro gn; conv => whnf))
  revert gn; intro gb
  refine HT.loopC [0, 2, 3] (fun k : Nat => [(4, .i k)]) (fun k : Nat => [(100, .cells (part (rowF vxF vs) (zF [.int .i64 0, .int .i64 0, .slice none 0 0, .int .i64 0]) k))]) (fun k : Nat => k ≤ vs.length) (fun k : Nat => vs.length - k) 0 (Nat.zero_le _) ⟨(by first | with_reducible exact CellLe.refl _ | exact CellLe.own | exact CellLe.i (by omega) | exact CellLe.nil | exact CellLe.slNil | exact CellLe.refl _), trivial⟩ ?_ ?_
  · conv => whnf
    refine PP.start ?_; repeat (first | exact PP.nil | refine PP.take (by first | with_reducible exact Hp.Sub.refl _ | exact Hp.Sub.rd (by omega) | exact Hp.Sub.rowL rfl (fun w F i j hi hj => LeW.of_eq (part_ge (Nat.zero_le _)).symm) | exact Hp.Sub.boxA (by (repeat (first | exact all_lt_zero | refine all_lt_succ (p := fun j => CellLe _ _) (by first | with_reducible exact CellLe.refl _ | exact CellLe.own | exact CellLe.i (by omega) | exact CellLe.nil | exact CellLe.slNil | exact CellLe.refl _) ?_))) | exact Hp.Sub.refl _) ?_ | refine PP.skip ?_)
  conv => whnf
  intro k hk
  have hvk : k < vs.length → (vs.getD k default).ps.length ≤ 1000000000 := fun h => hv _ (by rw [show vs.getD k default = vs[k] by simp [h]]; exact List.getElem_mem _)
  conv => whnf
  repeat' (first | (with_reducible first | refine HT.seq ?_ | refine HT.block ?_ | refine Br.not ?_) | ((with_reducible first | refine HT.region tt_ok ?_ | refine HT.drawn tt_ok (by kernel_rfl) (by decide +kernel) ?_ | refine HT.drawnL tt_ok (by kernel_rfl) (by decide +kernel) ?_ | refine HT.cond ?_ | refine HT.ret ?_ | refine HT.skip ?_ | refine HT.exit ?_ | refine Br.tt ?_ | refine Br.ff ?_); conv => whnf) | ((with_reducible first | refine Br.dec (fun hc => ?_) (fun hc => ?_) | refine Br.eq (fun hc => ?_) (fun hc => ?_) | refine Br.ne (fun hc => ?_) (fun hc => ?_)) <;> (first | (exfalso; omega) | conv => whnf)) | ((with_reducible first | refine Br.ttE (by decide) ?_ | refine Br.ffE (by decide) ?_ | refine Br.mk (fun hc => ?_) (fun hc => ?_) | refine Chk.mk (by first | omega | with_reducible rfl | (refine ⟨rfl, ?_⟩; omega) | decide | exact ⟨rfl, by omega, by omega, rfl⟩ | exact ⟨by assumption, rfl, by omega, by omega⟩) ?_ | refine Ar.fit (by omega) ?_ | refine Eqv.shr1 ?_ | refine Ar.u64 (by omega) ?_) <;> conv => whnf) | ((first | (refine CallN.ret1 (toVertex_c (vs.getD k default) (hvk (by omega))) ?_)) <;> conv => whnf) | (with_reducible exact trivial) | ((with_reducible refine And.intro ?_ ?_) <;> conv => whnf) | (intro gn; conv => whnf))
  all_goals (try simp only [Int.toNat_natCast] at *)
  · exact ⟨⟨k + 1, by omega, by omega, (by repeat' (first | exact trivial | refine ⟨rfl, ?_⟩)), ⟨(by first | with_reducible exact CellLe.refl _ | exact CellLe.own | exact CellLe.i (by omega) | exact CellLe.nil | exact CellLe.slNil | exact CellLe.refl _), trivial⟩, HLe.pk (by
      conv => whnf
      refine PP.start ?_; repeat (first | exact PP.nil | refine PP.take (by first | with_reducible exact Hp.Sub.refl _ | exact Hp.Sub.rd (by omega) | exact Hp.Sub.rowL rfl (fun w F i j hi hj => put_row (fun j hj => by rw [part_lt (Nat.lt_succ_self k)]; rcases (by omega : j = 0 ∨ j = 1 ∨ j = 2 ∨ j = 3) with rfl | rfl | rfl | rfl <;> exact fun _ h => h) (fun hne j hj => LeW.of_eq (part_next hne)) hj) | exact Hp.Sub.boxA (by (repeat (first | exact all_lt_zero | refine all_lt_succ (p := fun j => CellLe _ _) (by first | with_reducible exact CellLe.refl _ | exact CellLe.own | exact CellLe.i (by omega) | exact CellLe.nil | exact CellLe.slNil | exact CellLe.refl _) ?_))) | exact Hp.Sub.refl _) ?_ | refine PP.skip ?_))⟩⟩
  · obtain rfl : k = vs.length := by omega
    refine Fin.sl (e := 37) (f' := rowF vxF vs) (by repeat (first | exact List.Sublist.refl _ | refine List.Sublist.cons_cons _ ?_ | refine List.Sublist.cons _ ?_)) (by first | rfl | simp) (fun i j hi hj => part_lt (by omega)) rfl⟩
end Go.Proofs.YtpmhikdefbcofaaDoor
/-! YtpmhikdefbcofaaDoorWb -/
set_option linter.all false
namespace Go.Proofs.YtpmhikdefbcofaaDoor
open Go.RowKit Go.ChangeShapes Go.WideShapes

set_option maxRecDepth 100000 in
set_option maxHeartbeats 2000000 in
theorem FnExactWaveLeader_c (u : Ers) (c : List Int) (a : List Vx) (ls : List Int) (wave : Int) (hla : a.length ≤ 9223372036854775807) (hcl : c.length ≤ 9223372036854775807) (hll : ls.length ≤ 9223372036854775807) (hva : ∀ v ∈ a, okVx v) : SGl Tryd.prog u 3 [isl c, vsl a, isl ls, .i wave] (· = .b true) := ⟨fun R => by
  refine SCalls.enter tt_ok Tryd.func3 (by kernel_rfl) rfl [(800, erH 0 u.y0 u.t0 u.v0), (801, erH 1 u.y1 u.t1 u.v1), (802, erH 2 u.y2 u.t2 u.v2), (900, .cust R)] rfl (argF _) (fun w F v k h => h) (by simp) ?_
  repeat' (first | (with_reducible first | refine HT.seq ?_ | refine HT.block ?_ | refine Br.not ?_) | ((with_reducible first | refine HT.region tt_ok ?_ | refine HT.drawn tt_ok (by kernel_rfl) (by decide +kernel) ?_ | refine HT.drawnL tt_ok (by kernel_rfl) (by decide +kernel) ?_ | refine HT.cond ?_ | refine HT.ret ?_ | refine HT.skip ?_ | refine HT.exit ?_ | refine Br.tt ?_ | refine Br.ff ?_); conv => whnf) | ((with_reducible first | refine Br.dec (fun hc => ?_) (fun hc => ?_) | refine Br.eq (fun hc => ?_) (fun hc => ?_) | refine Br.ne (fun hc => ?_) (fun hc => ?_)) <;> (first | (exfalso; omega) | conv => whnf)) | ((with_reducible first | refine Br.ttE (by decide) ?_ | refine Br.ffE (by decide) ?_ | refine Br.mk (fun hc => ?_) (fun hc => ?_) | refine Chk.mk (by first | omega | with_reducible rfl | (refine ⟨rfl, ?_⟩; omega) | decide | exact ⟨rfl, by omega, by omega, rfl⟩ | exact ⟨by assumption, rfl, by omega, by omega⟩) ?_ | refine Ar.fit (by omega) ?_ | refine Eqv.shr1 ?_ | refine Ar.u64 (by omega) ?_) <;> conv => whnf) | (with_reducible exact trivial) | ((with_reducible refine And.intro ?_ ?_) <;> conv => whnf) | (intro gn; conv => whnf))
  · exact Fin.gl (r' := .b true) (by refine PP.start ?_; repeat (first | exact PP.nil | refine PP.take (by first | with_reducible exact Hp.Sub.refl _ | exact Hp.Sub.rd (by omega) | exact Hp.Sub.boxA (by (repeat (first | exact all_lt_zero | refine all_lt_succ (p := fun j => CellLe _ _) (by first | with_reducible exact CellLe.refl _ | exact CellLe.own | exact CellLe.i (by omega) | exact CellLe.nil | exact CellLe.slNil | exact CellLe.refl _) ?_))) | exact Hp.Sub.refl _) ?_ | refine PP.skip ?_)) (CellLe.refl _) rfl
  · exact Fin.gl (r' := .b true) (by refine PP.start ?_; repeat (first | exact PP.nil | refine PP.take (by first | with_reducible exact Hp.Sub.refl _ | exact Hp.Sub.rd (by omega) | exact Hp.Sub.boxA (by (repeat (first | exact all_lt_zero | refine all_lt_succ (p := fun j => CellLe _ _) (by first | with_reducible exact CellLe.refl _ | exact CellLe.own | exact CellLe.i (by omega) | exact CellLe.nil | exact CellLe.slNil | exact CellLe.refl _) ?_))) | exact Hp.Sub.refl _) ?_ | refine PP.skip ?_)) (CellLe.refl _) rfl
  refine CallN.ret _ (szVertexS_c a 1048576 hla hva (by omega)) ?_
  rintro r (rfl | ⟨hza, hpa, y, hya, hxa, rfl⟩)
  · conv => whnf
    repeat' (first | (with_reducible first | refine HT.seq ?_ | refine HT.block ?_ | refine Br.not ?_) | ((with_reducible first | refine HT.region tt_ok ?_ | refine HT.drawn tt_ok (by kernel_rfl) (by decide +kernel) ?_ | refine HT.drawnL tt_ok (by kernel_rfl) (by decide +kernel) ?_ | refine HT.cond ?_ | refine HT.ret ?_ | refine HT.skip ?_ | refine HT.exit ?_ | refine Br.tt ?_ | refine Br.ff ?_); conv => whnf) | ((with_reducible first | refine Br.dec (fun hc => ?_) (fun hc => ?_) | refine Br.eq (fun hc => ?_) (fun hc => ?_) | refine Br.ne (fun hc => ?_) (fun hc => ?_)) <;> (first | (exfalso; omega) | conv => whnf)) | ((with_reducible first | refine Br.ttE (by decide) ?_ | refine Br.ffE (by decide) ?_ | refine Br.mk (fun hc => ?_) (fun hc => ?_) | refine Chk.mk (by first | omega | with_reducible rfl | (refine ⟨rfl, ?_⟩; omega) | decide | exact ⟨rfl, by omega, by omega, rfl⟩ | exact ⟨by assumption, rfl, by omega, by omega⟩) ?_ | refine Ar.fit (by omega) ?_ | refine Eqv.shr1 ?_ | refine Ar.u64 (by omega) ?_) <;> conv => whnf) | (with_reducible exact trivial) | ((with_reducible refine And.intro ?_ ?_) <;> conv => whnf) | (intro gn; conv => whnf))
    exact Fin.gl (r' := .b true) (by refine PP.start ?_; repeat (first | exact PP.nil | refine PP.take (by first | with_reducible exact Hp.Sub.refl _ | exact Hp.Sub.rd (by omega) | exact Hp.Sub.boxA (by (repeat (first | exact all_lt_zero | refine all_lt_succ (p := fun j => CellLe _ _) (by first | with_reducible exact CellLe.refl _ | exact CellLe.own | exact CellLe.i (by omega) | exact CellLe.nil | exact CellLe.slNil | exact CellLe.refl _) ?_))) | exact Hp.Sub.refl _) ?_ | refine PP.skip ?_)) (CellLe.refl _) rfl
  conv => whnf
  have hpa : ∀ v ∈ a, v.ps.length ≤ 1048576 := fun v hv => by have := hpa v hv; omega
  have p7 : ∀ v ∈ a, v.ps.length ≤ 10000000 := fun v hv => by have := hpa v hv; omega
  have p8 : ∀ v ∈ a, v.ps.length ≤ 100000000 := fun v hv => by have := hpa v hv; omega
  have p2 : ∀ v ∈ a, v.ps.length ≤ 1000000000 := fun v hv => by have := hpa v hv; omega
  have p3 : ∀ v ∈ a, v.ps.length ≤ 9223372036854775800 := fun v hv => by have := hpa v hv; omega
  have hal2 : a.length ≤ 1048576 := by omega
  have hcl2 : c.length ≤ 1048576 := by omega
  have hll2 : ls.length ≤ 1048576 := by omega
  repeat' (first | (with_reducible first | refine HT.seq ?_ | refine HT.block ?_ | refine Br.not ?_) | ((with_reducible first | refine HT.region tt_ok ?_ | refine HT.drawn tt_ok (by kernel_rfl) (by decide +kernel) ?_ | refine HT.drawnL tt_ok (by kernel_rfl) (by decide +kernel) ?_ | refine HT.cond ?_ | refine HT.ret ?_ | refine HT.skip ?_ | refine HT.exit ?_ | refine Br.tt ?_ | refine Br.ff ?_); conv => whnf) | ((with_reducible first | refine Br.dec (fun hc => ?_) (fun hc => ?_) | refine Br.eq (fun hc => ?_) (fun hc => ?_) | refine Br.ne (fun hc => ?_) (fun hc => ?_)) <;> (first | (exfalso; omega) | conv => whnf)) | ((with_reducible first | refine Br.ttE (by decide) ?_ | refine Br.ffE (by decide) ?_ | refine Br.mk (fun hc => ?_) (fun hc => ?_) | refine Chk.mk (by first | omega | with_reducible rfl | (refine ⟨rfl, ?_⟩; omega) | decide | exact ⟨rfl, by omega, by omega, rfl⟩ | exact ⟨by assumption, rfl, by omega, by omega⟩) ?_ | refine Ar.fit (by omega) ?_ | refine Eqv.shr1 ?_ | refine Ar.u64 (by omega) ?_) <;> conv => whnf) | ((first | refine CallN.ret1 (toIntS_c c (by omega)) ?_ | refine CallN.ret1 (toVertexS_c a (by omega) p2) ?_ | refine CallN.ret1 (toIntS_c ls (by omega)) ?_ | refine CallN.ret1 (specWL_c c a ls wave (by omega) (by omega) p7 (by omega)) ?_ | refine CallN.ret1 (eqIntS_c c (by omega)) ?_ | refine CallN.ret1 (eqIntS_c ls (by omega)) ?_ | refine CallN.ret1 (eqVertexS_c a (by omega) p3) ?_ | (refine CallN.gl rfl rfl rfl (implWL_c u c a ls wave (by omega) (by omega) p7 (by omega)) ?_; rintro r rfl)) <;> conv => whnf) | (with_reducible exact trivial) | ((with_reducible refine And.intro ?_ ?_) <;> conv => whnf) | (intro gn; conv => whnf))
  all_goals first | exact Fin.gl (r' := .b true) (by refine PP.start ?_; repeat (first | exact PP.nil | refine PP.take (by first | with_reducible exact Hp.Sub.refl _ | exact Hp.Sub.rd (by omega) | exact Hp.Sub.boxA (by (repeat (first | exact all_lt_zero | refine all_lt_succ (p := fun j => CellLe _ _) (by first | with_reducible exact CellLe.refl _ | exact CellLe.own | exact CellLe.i (by omega) | exact CellLe.nil | exact CellLe.slNil | exact CellLe.refl _) ?_))) | exact Hp.Sub.refl _) ?_ | refine PP.skip ?_)) (CellLe.refl _) rfl | (exfalso; simp_all; done)⟩
end Go.Proofs.YtpmhikdefbcofaaDoor
