/- Data that came in, as symbolic values: ints, lists, structs. -/
import Derived.Test.YtbcmpfhemangpaaCm
import Derived.Test.YtbcmpfhemangpaaFrame
import Derived.Deep.Slices
set_option linter.all false
namespace Go.Proofs.Ytbcmpfhemangpaa
open Go.ChangeShapes Go.WideShapes Go.RowKit

section
variable {H : Type} {enc : TypeId × Value → H} {base : Nat}

/-- these cells read as data of this type -/
def Td (enc : TypeId × Value → H) (W : World) (t : TypeId) (cs : List Value) : Prop := ∃ fuel x, DataW.trod enc Try.prog W 0 (fun _ => true) true fuel t cs = some x
abbrev allF (W : World) : Nat → Prop := fun b => b < W.heap.size
/-- cells, told one by one -/
def Cls (W : World) (sz : Nat) (f : Nat → SV) (cs : List Value) : Prop := cs.length = sz ∧ ∀ j, j < sz → (cs.getD j undef).oneCell' = true ∧ Has W (allF W) (f j) (cs.getD j undef)
def IR (n : Int) : Prop := -9223372036854775808 ≤ n ∧ n ≤ 9223372036854775807

theorem td_int {W : World} {t : TypeId} {cs : List Value} (ht : Try.prog.underlying t = some (.int .i64)) (h : Td enc W t cs) : ∃ n, IR n ∧ cs = [.int .i64 n] := by
  obtain ⟨fuel, x, h⟩ := h
  obtain ⟨n, e, _, hw⟩ := DataW.trod_int ht h
  refine ⟨n, ?_, e⟩
  simp [Lit.wf, IntKind.min, IntKind.max, IntKind.signed, IntKind.bits] at hw
  exact hw
theorem td_bool {W : World} {t : TypeId} {cs : List Value} (ht : Try.prog.underlying t = some .bool) (h : Td enc W t cs) : ∃ b, cs = [.bool b] := by
  obtain ⟨fuel, x, h⟩ := h
  cases fuel with
  | zero => simp [DataW.trod] at h
  | succ n =>
    unfold DataW.trod at h
    rw [ht] at h
    split at h <;> simp_all
theorem Cls.one {W : World} {s : SV} {v : Value} (h1 : v.oneCell' = true) (h : Has W (allF W) s v) : Cls W 1 (fun _ => s) [v] := ⟨rfl, fun j hj => by
  obtain rfl : j = 0 := by omega
  exact ⟨h1, h⟩⟩
theorem td_slice {α : Type} [Inhabited α] {W : World} (en : α → Nat → SV) (ok : α → Prop) {t e : TypeId} {sz : Nat} (ht : Try.prog.underlying t = some (.slice e)) (hc : Try.prog.cellsOf e = sz) (h0 : 0 < sz)
    (hel : ∀ cs, Td enc W e cs → ∃ a, ok a ∧ Cls W sz (en a) cs) {cs : List Value} (h : Td enc W t cs) : ∃ (l : List α) (v : Value), (∀ a ∈ l, ok a) ∧ l.length ≤ 9223372036854775807 ∧ cs = [v] ∧ v.oneCell' = true ∧ Has W (allF W) (.sl sz l.length (rowF en l)) v := by
  obtain ⟨fuel, x, h⟩ := h
  rcases Deep.open_slice ht h with ⟨rfl, _⟩ | ⟨a, len, cap, m, n, D, Pl, rfl, hb, hl, hm, hmm, _, hx⟩
  · exact ⟨[], _, by simp, by simp, rfl, rfl, none, 0, rfl, Nat.le_refl _, Nat.zero_le _, fun h => absurd h (by simp)⟩
  · have hlm : len ≤ m := by rw [hmm]; simp; omega
    obtain ⟨F, hF⟩ := Deep.choose_lt (α := α) (n := len) (p := fun i y => ok y ∧ ∀ j, j < sz → ∃ u, W.cell? ((a.add (i * sz)).add j) = some u ∧ u.oneCell' = true ∧ Has W (allF W) (en y j) u) (fun i hi => by
      obtain ⟨cs', h1, h2⟩ := hx i (by omega)
      rw [hc] at h1
      obtain ⟨y, hy, hlen, hcl⟩ := hel cs' ⟨_, _, h2⟩
      refine ⟨y, hy, fun j hj => ?_⟩
      have := (World.cells?_some h1).2.2 j hj
      refine ⟨cs'.getD j undef, ?_, hcl j hj⟩
      rw [this, List.getD_eq_getElem?_getD, List.getElem?_eq_getElem (by omega)]
      rfl)
    have hlen : ((List.range len).map F).length = len := by simp
    have hget : ∀ i, i < len → ((List.range len).map F).getD i default = F i := fun i hi => by simp [List.getD_eq_getElem?_getD, hi]
    refine ⟨(List.range len).map F, _, fun y hy => ?_, by rw [hlen]; unfold maxLen at hm; omega, rfl, rfl, some a, cap, by rw [hlen], by rw [hlen]; exact hl, hm, fun hp => ?_⟩
    · obtain ⟨i, hi, rfl⟩ := List.mem_map.1 hy
      exact (hF i (List.mem_range.1 hi)).1
    · rw [hlen] at hp
      obtain ⟨u0, hu0, _, _⟩ := (hF 0 hp).2 0 h0
      have hs : a.spot = none := by
        have := World.cell?_spot hu0
        simpa [Addr.add] using this
      obtain ⟨b, off, sp⟩ := a
      simp only at hs
      subst hs
      refine ⟨b, off, rfl, ?_, fun i k hi hk => ?_⟩
      · rcases Nat.lt_or_ge b W.heap.size with hlt | hge
        · exact hlt
        · rw [addr_add', addr_add'] at hu0
          simp [World.cell?, Array.getElem?_eq_none hge] at hu0
      · rw [hlen] at hi
        obtain ⟨u, hu, h1, h2⟩ := (hF i hi).2 k hk
        rw [addr_add', addr_add', Nat.add_assoc] at hu
        refine ⟨u, hu, h1, ?_⟩
        show Has W (allF W) (en (((List.range len).map F).getD i default) k) u
        rw [hget i hi]
        exact h2
/-- a field of a struct -/
theorem td_field {W : World} {t : TypeId} {fs : Array Field} {cs : List Value} (ht : Try.prog.underlying t = some (.struct fs)) (h : Td enc W t cs) : cs.length = Try.prog.cellsOf t ∧ ∀ (i : Nat) (f : Field), fs[i]? = some f → Td enc W f.type ((cs.drop f.offset).take (Try.prog.cellsOf f.type)) := by
  obtain ⟨fuel, x, h⟩ := h
  obtain ⟨xs, n, _, _, hl, hx, hf⟩ := DataW.trod_struct ht h
  refine ⟨hl, fun i f hi => ?_⟩
  have hlt : i < fs.size := (Array.getElem?_eq_some_iff.1 hi).1
  have := hf i f hi
  rw [List.getElem?_eq_getElem (by omega)] at this
  exact ⟨n, _, this⟩
theorem td_at {W : World} {t : TypeId} {fs : Array Field} {cs : List Value} (ht : Try.prog.underlying t = some (.struct fs)) (h : Td enc W t cs) (i : Nat) {f : Field} (hi : fs[i]? = some f) (o n : Nat) (ft : TypeId) (ho : f.offset = o) (hft : f.type = ft) (hc : Try.prog.cellsOf ft = n) : Td enc W ft ((cs.drop o).take n) := by
  have := (td_field ht h).2 i f hi
  rwa [ho, hft, hc] at this
/-- a list of ints that came in -/
theorem td_ints {W : World} {t e : TypeId} {cs : List Value} (ht : Try.prog.underlying t = some (.slice e)) (he : Try.prog.underlying e = some (.int .i64)) (hc : Try.prog.cellsOf e = 1) (h : Td enc W t cs) : ∃ (l : List Int) (v : Value), (∀ a ∈ l, IR a) ∧ l.length ≤ 9223372036854775807 ∧ cs = [v] ∧ v.oneCell' = true ∧ Has W (allF W) (isl l) v :=
  td_slice (W := W) intF IR ht hc (by omega) (fun cs h => by
    obtain ⟨n, hn, rfl⟩ := td_int he h
    exact ⟨n, hn, Cls.one rfl rfl⟩) h
set_option maxRecDepth 100000 in
/-- arguments -/
theorem arg_ints {W : World} {t e : TypeId} {v : Value} {d : DataW H} {p : List MemPlace} (ht : Try.prog.underlying t = some (.slice e)) (he : Try.prog.underlying e = some (.int .i64)) (hc : Try.prog.cellsOf e = 1) (hv : Value.okWide Try.prog W .any base t v) (h : DataW.Trod enc Try.prog W 0 (fun _ => true) true t v d p) : ∃ (l : List Int), (∀ a ∈ l, IR a) ∧ l.length ≤ 9223372036854775807 ∧ Has W (allF W) (isl l) v := by
  obtain ⟨a0, len, cap, rfl⟩ := okWide_slice ht hv
  obtain ⟨fuel, h⟩ := h
  obtain ⟨l, v, h1, h2, h3, _, h4⟩ := td_ints ht he hc ⟨fuel, _, h⟩
  simp [Value.cells] at h3
  subst h3
  exact ⟨l, h1, h2, h4⟩
set_option maxRecDepth 100000 in
theorem arg_int {W : World} {t : TypeId} {v : Value} {d : DataW H} {p : List MemPlace} (ht : Try.prog.underlying t = some (.int .i64)) (hv : Value.okWide Try.prog W .any base t v) (h : DataW.Trod enc Try.prog W 0 (fun _ => true) true t v d p) : ∃ n, IR n ∧ Has W (allF W) (.i n) v := by
  obtain ⟨n, rfl⟩ := okWide_int ht hv
  obtain ⟨fuel, h⟩ := h
  obtain ⟨m, hm, e⟩ := td_int ht ⟨fuel, _, h⟩
  simp [Value.cells] at e
  subst e
  exact ⟨n, hm, rfl⟩
set_option maxRecDepth 100000 in
theorem arg_slice {α : Type} [Inhabited α] {W : World} (en : α → Nat → SV) (ok : α → Prop) {t e : TypeId} {sz : Nat} {v : Value} {d : DataW H} {p : List MemPlace} (ht : Try.prog.underlying t = some (.slice e)) (hc : Try.prog.cellsOf e = sz) (h0 : 0 < sz)
    (hel : ∀ cs, Td enc W e cs → ∃ a, ok a ∧ Cls W sz (en a) cs) (hv : Value.okWide Try.prog W .any base t v) (h : DataW.Trod enc Try.prog W 0 (fun _ => true) true t v d p) : ∃ (l : List α), (∀ a ∈ l, ok a) ∧ l.length ≤ 9223372036854775807 ∧ Has W (allF W) (.sl sz l.length (rowF en l)) v := by
  obtain ⟨a0, len, cap, rfl⟩ := okWide_slice ht hv
  obtain ⟨fuel, h⟩ := h
  obtain ⟨l, v, h1, h2, h3, _, h4⟩ := td_slice en ok ht hc h0 hel ⟨fuel, _, h⟩
  simp [Value.cells] at h3
  subst h3
  exact ⟨l, h1, h2, h4⟩
set_option maxRecDepth 100000 in
theorem arg_struct {α : Type} {W : World} (en : α → Nat → SV) (ok : α → Prop) {t : TypeId} {fs : Array Field} {sz : Nat} {v : Value} {d : DataW H} {p : List MemPlace} (ht : Try.prog.underlying t = some (.struct fs)) (hel : ∀ cs, Td enc W t cs → ∃ a, ok a ∧ Cls W sz (en a) cs) (hv : Value.okWide Try.prog W .any base t v) (h : DataW.Trod enc Try.prog W 0 (fun _ => true) true t v d p) :
    ∃ a : α, ok a ∧ Has W (allF W) (.agg sz (en a)) v := by
  obtain ⟨vs, rfl, _⟩ := okWide_struct ht hv
  obtain ⟨fuel, h⟩ := h
  obtain ⟨a, h1, h2, h3⟩ := hel _ ⟨fuel, _, h⟩
  refine ⟨a, h1, vs, rfl, by simpa [Value.cells] using h2, fun k hk => ?_⟩
  have := (h3 k hk).2
  simpa [Value.cells] using this
end
theorem trodAll_four {H : Type} {enc : TypeId × Value → H} {P : Program} {w : World} {base : Nat} {spare : Nat → Bool} {held : Bool} {t0 t1 t2 t3 : TypeId} {vs : List Value} {d0 d1 d2 d3 : DataW H} {ps : List MemPlace} (h : DataW.TrodAll enc P w base spare held [t0, t1, t2, t3] vs [d0, d1, d2, d3] ps) :
    ∃ v0 v1 v2 v3 p0 p1 p2 p3, vs = [v0, v1, v2, v3] ∧ DataW.Trod enc P w base spare held t0 v0 d0 p0 ∧ DataW.Trod enc P w base spare held t1 v1 d1 p1 ∧ DataW.Trod enc P w base spare held t2 v2 d2 p2 ∧ DataW.Trod enc P w base spare held t3 v3 d3 p3 := by
  match vs, h with
  | [], h => exact h.elim
  | v0 :: vs, ⟨p0, q0, h0, h, _⟩ =>
    match vs, h with
    | [], h => exact h.elim
    | v1 :: vs, ⟨p1, q1, h1, h, _⟩ =>
      match vs, h with
      | [], h => exact h.elim
      | v2 :: vs, ⟨p2, q2, h2, h, _⟩ =>
        match vs, h with
        | [], h => exact h.elim
        | v3 :: vs, ⟨p3, q3, h3, h, _⟩ =>
          match vs, h with
          | [], _ => exact ⟨v0, v1, v2, v3, p0, p1, p2, p3, rfl, h0, h1, h2, h3⟩
          | _ :: _, h => exact h.elim
theorem trodAll_three {H : Type} {enc : TypeId × Value → H} {P : Program} {w : World} {base : Nat} {spare : Nat → Bool} {held : Bool} {t0 t1 t2 : TypeId} {vs : List Value} {d0 d1 d2 : DataW H} {ps : List MemPlace} (h : DataW.TrodAll enc P w base spare held [t0, t1, t2] vs [d0, d1, d2] ps) :
    ∃ v0 v1 v2 p0 p1 p2, vs = [v0, v1, v2] ∧ DataW.Trod enc P w base spare held t0 v0 d0 p0 ∧ DataW.Trod enc P w base spare held t1 v1 d1 p1 ∧ DataW.Trod enc P w base spare held t2 v2 d2 p2 := by
  match vs, h with
  | [], h => exact h.elim
  | v0 :: vs, ⟨p0, q0, h0, h, _⟩ =>
    match vs, h with
    | [], h => exact h.elim
    | v1 :: vs, ⟨p1, q1, h1, h, _⟩ =>
      match vs, h with
      | [], h => exact h.elim
      | v2 :: vs, ⟨p2, q2, h2, h, _⟩ =>
        match vs, h with
        | [], _ => exact ⟨v0, v1, v2, p0, p1, p2, rfl, h0, h1, h2⟩
        | _ :: _, h => exact h.elim
theorem trodAll_len {H : Type} {enc : TypeId × Value → H} {P : Program} {w : World} {base : Nat} {spare : Nat → Bool} {held : Bool} : ∀ {ts : List TypeId} {vs : List Value} {ds : List (DataW H)} {ps : List MemPlace}, DataW.TrodAll enc P w base spare held ts vs ds ps → ds.length = ts.length
  | [], [], [], _, _ => rfl
  | _ :: _, _ :: _, _ :: _, _, ⟨_, _, _, h, _⟩ => congrArg (· + 1) (trodAll_len h)
  | [], _ :: _, _, _, h => h.elim
  | [], [], _ :: _, _, h => h.elim
  | _ :: _, [], _, _, h => h.elim
  | _ :: _, _ :: _, [], _, h => h.elim
end Go.Proofs.Ytbcmpfhemangpaa
