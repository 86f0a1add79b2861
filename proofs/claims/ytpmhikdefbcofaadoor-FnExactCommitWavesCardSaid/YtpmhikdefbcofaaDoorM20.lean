/- Texts of this proof put together: Ex, ExI, ExM, Rv, Cw, Ey. -/
import Derived.Deep.Slices
import Derived.Test.YtpmhikdefbcofaaDoorM01
import Derived.Test.YtpmhikdefbcofaaDoorM02
import Derived.Test.YtpmhikdefbcofaaDoorM03
import Derived.Test.YtpmhikdefbcofaaDoorM04
import Derived.Test.YtpmhikdefbcofaaDoorM05
import Derived.Test.YtpmhikdefbcofaaDoorM06
import Derived.Test.YtpmhikdefbcofaaDoorM07
import Derived.Test.YtpmhikdefbcofaaDoorM08
import Derived.Test.YtpmhikdefbcofaaDoorM09
import Derived.Test.YtpmhikdefbcofaaDoorM10
import Derived.Test.YtpmhikdefbcofaaDoorM11
import Derived.Test.YtpmhikdefbcofaaDoorM12
import Derived.Test.YtpmhikdefbcofaaDoorM13
import Derived.Test.YtpmhikdefbcofaaDoorM14
import Derived.Test.YtpmhikdefbcofaaDoorM15
import Derived.Test.YtpmhikdefbcofaaDoorM16
import Derived.Test.YtpmhikdefbcofaaDoorM17
import Derived.Test.YtpmhikdefbcofaaDoorM18
import Derived.Test.YtpmhikdefbcofaaDoorM19
/-! YtpmhikdefbcofaaDoorEx -/
set_option linter.all false
namespace Go.Proofs.YtpmhikdefbcofaaDoor
open Go.ChangeShapes Go.WideShapes Go.RowKit

section
variable {H : Type} {enc : TypeId × Value → H} {base : Nat}

/-- these cells read as data of this type -/
def Td (enc : TypeId × Value → H) (W : World) (t : TypeId) (cs : List Value) : Prop := ∃ fuel x, DataW.trod enc Tryd.prog W 0 (fun _ => true) true fuel t cs = some x
abbrev allF (W : World) : Nat → Prop := fun b => b < W.heap.size
/-- cells, told one by one -/
def Cls (W : World) (sz : Nat) (f : Nat → SV) (cs : List Value) : Prop := cs.length = sz ∧ ∀ j, j < sz → (cs.getD j undef).oneCell' = true ∧ Has W (allF W) (f j) (cs.getD j undef)
def IR (n : Int) : Prop := -9223372036854775808 ≤ n ∧ n ≤ 9223372036854775807

theorem td_int {W : World} {t : TypeId} {cs : List Value} (ht : Tryd.prog.underlying t = some (.int .i64)) (h : Td enc W t cs) : ∃ n, IR n ∧ cs = [.int .i64 n] := by
  obtain ⟨fuel, x, h⟩ := h
  obtain ⟨n, e, _, hw⟩ := DataW.trod_int ht h
  refine ⟨n, ?_, e⟩
  simp [Lit.wf, IntKind.min, IntKind.max, IntKind.signed, IntKind.bits] at hw
  exact hw
theorem td_bool {W : World} {t : TypeId} {cs : List Value} (ht : Tryd.prog.underlying t = some .bool) (h : Td enc W t cs) : ∃ b, cs = [.bool b] := by
  obtain ⟨fuel, x, h⟩ := h
  cases fuel with
  | zero => simp [DataW.trod] at h
  | succ n =>
    unfold DataW.trod at h
    rw [ht] at h
    split at h <;> simp_all
theorem Cls.one {W : World} {s : SV} {v : Value} (h1 : v.oneCell' = true) (h : Has W (allF W) s v) : Cls W 1 (fun _ => s) [v] := ⟨rfl, fun j hj => by
  obtain rfl : j = 0 := by omega
  exact ⟨h1, h⟩⟩
theorem td_slice {α : Type} [Inhabited α] {W : World} (en : α → Nat → SV) (ok : α → Prop) {t e : TypeId} {sz : Nat} (ht : Tryd.prog.underlying t = some (.slice e)) (hc : Tryd.prog.cellsOf e = sz) (h0 : 0 < sz)
    (hel : ∀ cs, Td enc W e cs → ∃ a, ok a ∧ Cls W sz (en a) cs) {cs : List Value} (h : Td enc W t cs) : ∃ (l : List α) (v : Value), (∀ a ∈ l, ok a) ∧ l.length ≤ 9223372036854775807 ∧ cs = [v] ∧ v.oneCell' = true ∧ Has W (allF W) (.sl sz l.length (rowF en l)) v := by
  obtain ⟨fuel, x, h⟩ := h
  rcases Deep.open_slice ht h with ⟨rfl, _⟩ | ⟨a, len, cap, m, n, D, Pl, rfl, hb, hl, hm, hmm, _, hx⟩
  · exact ⟨[], _, by simp, by simp, rfl, rfl, none, 0, rfl, Nat.le_refl _, Nat.zero_le _, fun h => absurd h (by simp)⟩
  · have hlm : len ≤ m := by rw [hmm]; simp; omega
    obtain ⟨F, hF⟩ := Deep.choose_lt (α := α) (n := len) (p := fun i y => ok y ∧ ∀ j, j < sz → ∃ u, W.cell? ((a.add (i * sz)).add j) = some u ∧ u.oneCell' = true ∧ Has W (allF W) (en y j) u) (fun i hi => by
      obtain ⟨cs', h1, h2⟩ := hx i (by omega)
      rw [hc] at h1
      obtain ⟨y, hy, hlen, hcl⟩ := hel cs' ⟨_, _, h2⟩
      refine ⟨y, hy, fun j hj => ?_⟩
      have := (World.cells?_some h1).2.2 j hj
      refine ⟨cs'.getD j undef, ?_, hcl j hj⟩
      rw [this, List.getD_eq_getElem?_getD, List.getElem?_eq_getElem (by omega)]
      rfl)
    have hlen : ((List.range len).map F).length = len := by simp
    have hget : ∀ i, i < len → ((List.range len).map F).getD i default = F i := fun i hi => by simp [List.getD_eq_getElem?_getD, hi]
    refine ⟨(List.range len).map F, _, fun y hy => ?_, by rw [hlen]; unfold maxLen at hm; omega, rfl, rfl, some a, cap, by rw [hlen], by rw [hlen]; exact hl, hm, fun hp => ?_⟩
    · obtain ⟨i, hi, rfl⟩ := List.mem_map.1 hy
      exact (hF i (List.mem_range.1 hi)).1
    · rw [hlen] at hp
      obtain ⟨u0, hu0, _, _⟩ := (hF 0 hp).2 0 h0
      have hs : a.spot = none := by
        have := World.cell?_spot hu0
        simpa [Addr.add] using this
      obtain ⟨b, off, sp⟩ := a
      simp only at hs
      subst hs
      refine ⟨b, off, rfl, ?_, fun i k hi hk => ?_⟩
      · rcases Nat.lt_or_ge b W.heap.size with hlt | hge
        · exact hlt
        · rw [addr_add', addr_add'] at hu0
          simp [World.cell?, Array.getElem?_eq_none hge] at hu0
      · rw [hlen] at hi
        obtain ⟨u, hu, h1, h2⟩ := (hF i hi).2 k hk
        rw [addr_add', addr_add', Nat.add_assoc] at hu
        refine ⟨u, hu, h1, ?_⟩
        show Has W (allF W) (en (((List.range len).map F).getD i default) k) u
        rw [hget i hi]
        exact h2
/-- a field of a struct -/
theorem td_field {W : World} {t : TypeId} {fs : Array Field} {cs : List Value} (ht : Tryd.prog.underlying t = some (.struct fs)) (h : Td enc W t cs) : cs.length = Tryd.prog.cellsOf t ∧ ∀ (i : Nat) (f : Field), fs[i]? = some f → Td enc W f.type ((cs.drop f.offset).take (Tryd.prog.cellsOf f.type)) := by
  obtain ⟨fuel, x, h⟩ := h
  obtain ⟨xs, n, _, _, hl, hx, hf⟩ := DataW.trod_struct ht h
  refine ⟨hl, fun i f hi => ?_⟩
  have hlt : i < fs.size := (Array.getElem?_eq_some_iff.1 hi).1
  have := hf i f hi
  rw [List.getElem?_eq_getElem (by omega)] at this
  exact ⟨n, _, this⟩
theorem td_at {W : World} {t : TypeId} {fs : Array Field} {cs : List Value} (ht : Tryd.prog.underlying t = some (.struct fs)) (h : Td enc W t cs) (i : Nat) {f : Field} (hi : fs[i]? = some f) (o n : Nat) (ft : TypeId) (ho : f.offset = o) (hft : f.type = ft) (hc : Tryd.prog.cellsOf ft = n) : Td enc W ft ((cs.drop o).take n) := by
  have := (td_field ht h).2 i f hi
  rwa [ho, hft, hc] at this
/-- a list of ints that came in -/
theorem td_ints {W : World} {t e : TypeId} {cs : List Value} (ht : Tryd.prog.underlying t = some (.slice e)) (he : Tryd.prog.underlying e = some (.int .i64)) (hc : Tryd.prog.cellsOf e = 1) (h : Td enc W t cs) : ∃ (l : List Int) (v : Value), (∀ a ∈ l, IR a) ∧ l.length ≤ 9223372036854775807 ∧ cs = [v] ∧ v.oneCell' = true ∧ Has W (allF W) (isl l) v :=
  td_slice (W := W) intF IR ht hc (by omega) (fun cs h => by
    obtain ⟨n, hn, rfl⟩ := td_int he h
    exact ⟨n, hn, Cls.one rfl rfl⟩) h
set_option maxRecDepth 100000 in
/-- arguments -/
theorem arg_ints {W : World} {t e : TypeId} {v : Value} {d : DataW H} {p : List MemPlace} (ht : Tryd.prog.underlying t = some (.slice e)) (he : Tryd.prog.underlying e = some (.int .i64)) (hc : Tryd.prog.cellsOf e = 1) (hv : Value.okWide Tryd.prog W .any base t v) (h : DataW.Trod enc Tryd.prog W 0 (fun _ => true) true t v d p) : ∃ (l : List Int), (∀ a ∈ l, IR a) ∧ l.length ≤ 9223372036854775807 ∧ Has W (allF W) (isl l) v := by
  obtain ⟨a0, len, cap, rfl⟩ := okWide_slice ht hv
  obtain ⟨fuel, h⟩ := h
  obtain ⟨l, v, h1, h2, h3, _, h4⟩ := td_ints ht he hc ⟨fuel, _, h⟩
  simp [Value.cells] at h3
  subst h3
  exact ⟨l, h1, h2, h4⟩
set_option maxRecDepth 100000 in
theorem arg_int {W : World} {t : TypeId} {v : Value} {d : DataW H} {p : List MemPlace} (ht : Tryd.prog.underlying t = some (.int .i64)) (hv : Value.okWide Tryd.prog W .any base t v) (h : DataW.Trod enc Tryd.prog W 0 (fun _ => true) true t v d p) : ∃ n, IR n ∧ Has W (allF W) (.i n) v := by
  obtain ⟨n, rfl⟩ := okWide_int ht hv
  obtain ⟨fuel, h⟩ := h
  obtain ⟨m, hm, e⟩ := td_int ht ⟨fuel, _, h⟩
  simp [Value.cells] at e
  subst e
  exact ⟨n, hm, rfl⟩
set_option maxRecDepth 100000 in
theorem arg_slice {α : Type} [Inhabited α] {W : World} (en : α → Nat → SV) (ok : α → Prop) {t e : TypeId} {sz : Nat} {v : Value} {d : DataW H} {p : List MemPlace} (ht : Tryd.prog.underlying t = some (.slice e)) (hc : Tryd.prog.cellsOf e = sz) (h0 : 0 < sz)
    (hel : ∀ cs, Td enc W e cs → ∃ a, ok a ∧ Cls W sz (en a) cs) (hv : Value.okWide Tryd.prog W .any base t v) (h : DataW.Trod enc Tryd.prog W 0 (fun _ => true) true t v d p) : ∃ (l : List α), (∀ a ∈ l, ok a) ∧ l.length ≤ 9223372036854775807 ∧ Has W (allF W) (.sl sz l.length (rowF en l)) v := by
  obtain ⟨a0, len, cap, rfl⟩ := okWide_slice ht hv
  obtain ⟨fuel, h⟩ := h
  obtain ⟨l, v, h1, h2, h3, _, h4⟩ := td_slice en ok ht hc h0 hel ⟨fuel, _, h⟩
  simp [Value.cells] at h3
  subst h3
  exact ⟨l, h1, h2, h4⟩
set_option maxRecDepth 100000 in
theorem arg_struct {α : Type} {W : World} (en : α → Nat → SV) (ok : α → Prop) {t : TypeId} {fs : Array Field} {sz : Nat} {v : Value} {d : DataW H} {p : List MemPlace} (ht : Tryd.prog.underlying t = some (.struct fs)) (hel : ∀ cs, Td enc W t cs → ∃ a, ok a ∧ Cls W sz (en a) cs) (hv : Value.okWide Tryd.prog W .any base t v) (h : DataW.Trod enc Tryd.prog W 0 (fun _ => true) true t v d p) :
    ∃ a : α, ok a ∧ Has W (allF W) (.agg sz (en a)) v := by
  obtain ⟨vs, rfl, _⟩ := okWide_struct ht hv
  obtain ⟨fuel, h⟩ := h
  obtain ⟨a, h1, h2, h3⟩ := hel _ ⟨fuel, _, h⟩
  refine ⟨a, h1, vs, rfl, by simpa [Value.cells] using h2, fun k hk => ?_⟩
  have := (h3 k hk).2
  simpa [Value.cells] using this
end
theorem trodAll_four {H : Type} {enc : TypeId × Value → H} {P : Program} {w : World} {base : Nat} {spare : Nat → Bool} {held : Bool} {t0 t1 t2 t3 : TypeId} {vs : List Value} {d0 d1 d2 d3 : DataW H} {ps : List MemPlace} (h : DataW.TrodAll enc P w base spare held [t0, t1, t2, t3] vs [d0, d1, d2, d3] ps) :
    ∃ v0 v1 v2 v3 p0 p1 p2 p3, vs = [v0, v1, v2, v3] ∧ DataW.Trod enc P w base spare held t0 v0 d0 p0 ∧ DataW.Trod enc P w base spare held t1 v1 d1 p1 ∧ DataW.Trod enc P w base spare held t2 v2 d2 p2 ∧ DataW.Trod enc P w base spare held t3 v3 d3 p3 := by
  match vs, h with
  | [], h => exact h.elim
  | v0 :: vs, ⟨p0, q0, h0, h, _⟩ =>
    match vs, h with
    | [], h => exact h.elim
    | v1 :: vs, ⟨p1, q1, h1, h, _⟩ =>
      match vs, h with
      | [], h => exact h.elim
      | v2 :: vs, ⟨p2, q2, h2, h, _⟩ =>
        match vs, h with
        | [], h => exact h.elim
        | v3 :: vs, ⟨p3, q3, h3, h, _⟩ =>
          match vs, h with
          | [], _ => exact ⟨v0, v1, v2, v3, p0, p1, p2, p3, rfl, h0, h1, h2, h3⟩
          | _ :: _, h => exact h.elim
theorem trodAll_three {H : Type} {enc : TypeId × Value → H} {P : Program} {w : World} {base : Nat} {spare : Nat → Bool} {held : Bool} {t0 t1 t2 : TypeId} {vs : List Value} {d0 d1 d2 : DataW H} {ps : List MemPlace} (h : DataW.TrodAll enc P w base spare held [t0, t1, t2] vs [d0, d1, d2] ps) :
    ∃ v0 v1 v2 p0 p1 p2, vs = [v0, v1, v2] ∧ DataW.Trod enc P w base spare held t0 v0 d0 p0 ∧ DataW.Trod enc P w base spare held t1 v1 d1 p1 ∧ DataW.Trod enc P w base spare held t2 v2 d2 p2 := by
  match vs, h with
  | [], h => exact h.elim
  | v0 :: vs, ⟨p0, q0, h0, h, _⟩ =>
    match vs, h with
    | [], h => exact h.elim
    | v1 :: vs, ⟨p1, q1, h1, h, _⟩ =>
      match vs, h with
      | [], h => exact h.elim
      | v2 :: vs, ⟨p2, q2, h2, h, _⟩ =>
        match vs, h with
        | [], _ => exact ⟨v0, v1, v2, p0, p1, p2, rfl, h0, h1, h2⟩
        | _ :: _, h => exact h.elim
theorem trodAll_len {H : Type} {enc : TypeId × Value → H} {P : Program} {w : World} {base : Nat} {spare : Nat → Bool} {held : Bool} : ∀ {ts : List TypeId} {vs : List Value} {ds : List (DataW H)} {ps : List MemPlace}, DataW.TrodAll enc P w base spare held ts vs ds ps → ds.length = ts.length
  | [], [], [], _, _ => rfl
  | _ :: _, _ :: _, _ :: _, _, ⟨_, _, _, h, _⟩ => congrArg (· + 1) (trodAll_len h)
  | [], _ :: _, _, _, h => h.elim
  | [], [], _ :: _, _, h => h.elim
  | _ :: _, [], _, _, h => h.elim
  | _ :: _, _ :: _, [], _, h => h.elim
end Go.Proofs.YtpmhikdefbcofaaDoor
/-! YtpmhikdefbcofaaDoorExI -/
set_option linter.all false
namespace Go.Proofs.YtpmhikdefbcofaaDoor
open Go.RowKit

theorem szIntS_c (l : List Int) (z : Int) (hl : l.length ≤ 9223372036854775807) (hz : 0 ≤ z ∧ z ≤ 1048576) : SRet Tryd.prog 54 [isl l, .i z] (fun r => (r = .i (-1) ∧ z < l.length) ∨ ((l.length : Int) ≤ z ∧ r = .i (z - l.length))) := ⟨fun R => by
  refine SCalls.enter tt_ok Tryd.func54 (by kernel_rfl) rfl [(900, .cust R)] rfl (argF _) (fun w F v k h => h) (by simp) ?_
  repeat' (first | (with_reducible first | refine HT.seq ?_ | refine HT.block ?_ | refine Br.not ?_) | ((with_reducible first | refine HT.region tt_ok ?_ | refine HT.drawn tt_ok (by kernel_rfl) (by decide +kernel) ?_ | refine HT.drawnL tt_ok (by kernel_rfl) (by decide +kernel) ?_ | refine HT.cond ?_ | refine HT.ret ?_ | refine HT.skip ?_ | refine HT.exit ?_ | refine Br.tt ?_ | refine Br.ff ?_); conv => whnf) | ((with_reducible first | refine Br.dec (fun hc => ?_) (fun hc => ?_) | refine Br.eq (fun hc => ?_) (fun hc => ?_) | refine Br.ne (fun hc => ?_) (fun hc => ?_)) <;> (first | (exfalso; omega) | conv => whnf)) | ((with_reducible first | refine Br.ttE (by decide) ?_ | refine Br.ffE (by decide) ?_ | refine Br.mk (fun hc => ?_) (fun hc => ?_) | refine Chk.mk (by first | omega | with_reducible rfl | (refine ⟨rfl, ?_⟩; omega) | decide | exact ⟨rfl, by omega, by omega, rfl⟩ | exact ⟨by assumption, rfl, by omega, by omega⟩) ?_ | refine Ar.fit (by omega) ?_ | refine Eqv.shr1 ?_ | refine Ar.u64 (by omega) ?_) <;> conv => whnf) | (with_reducible exact trivial) | ((with_reducible refine And.intro ?_ ?_) <;> conv => whnf) | (intro gn; conv => whnf))
  · exact Fin.pureS (by repeat (first | exact List.Sublist.refl _ | refine List.Sublist.cons_cons _ ?_ | refine List.Sublist.cons _ ?_)) (.inl ⟨rfl, by omega⟩)
  · exact Fin.pureS (by repeat (first | exact List.Sublist.refl _ | refine List.Sublist.cons_cons _ ?_ | refine List.Sublist.cons _ ?_)) (.inr ⟨by omega, rfl⟩)⟩
theorem eqIntS_c (l : List Int) (hl : l.length ≤ 9223372036854775800) : SRet Tryd.prog 15 [isl l, isl l] (· = .b true) := ⟨fun R => by
  refine SCalls.enter tt_ok Tryd.func15 (by kernel_rfl) rfl [(900, .cust R)] rfl (argF _) (fun w F v k h => h) (by simp) ?_
  repeat' (first | (with_reducible first | refine HT.seq ?_ | refine HT.block ?_ | refine Br.not ?_) | ((with_reducible first | refine HT.region tt_ok ?_ | refine HT.drawn tt_ok (by kernel_rfl) (by decide +kernel) ?_ | refine HT.drawnL tt_ok (by kernel_rfl) (by decide +kernel) ?_ | refine HT.cond ?_ | refine HT.ret ?_ | refine HT.skip ?_ | refine HT.exit ?_ | refine Br.tt ?_ | refine Br.ff ?_); conv => whnf) | ((with_reducible first | refine Br.dec (fun hc => ?_) (fun hc => ?_) | refine Br.eq (fun hc => ?_) (fun hc => ?_) | refine Br.ne (fun hc => ?_) (fun hc => ?_)) <;> (first | (exfalso; omega) | conv => whnf)) | ((with_reducible first | refine Br.ttE (by decide) ?_ | refine Br.ffE (by decide) ?_ | refine Br.mk (fun hc => ?_) (fun hc => ?_) | refine Chk.mk (by first | omega | with_reducible rfl | (refine ⟨rfl, ?_⟩; omega) | decide | exact ⟨rfl, by omega, by omega, rfl⟩ | exact ⟨by assumption, rfl, by omega, by omega⟩) ?_ | refine Ar.fit (by omega) ?_ | refine Eqv.shr1 ?_ | refine Ar.u64 (by omega) ?_) <;> conv => whnf) | (with_reducible exact trivial) | ((with_reducible refine And.intro ?_ ?_) <;> conv => whnf) | (intro gn; conv => whnf))
  refine HT.loopS [0, 1, 10] (fun k : Nat => [(5, .i k)]) (fun k : Nat => k ≤ l.length) (fun k : Nat => l.length - k) 0 (Nat.zero_le _) ⟨rfl, trivial⟩ ?_
  conv => whnf
  intro k hk
  repeat' (first | (with_reducible first | refine HT.seq ?_ | refine HT.block ?_ | refine Br.not ?_) | ((with_reducible first | refine HT.region tt_ok ?_ | refine HT.drawn tt_ok (by kernel_rfl) (by decide +kernel) ?_ | refine HT.drawnL tt_ok (by kernel_rfl) (by decide +kernel) ?_ | refine HT.cond ?_ | refine HT.ret ?_ | refine HT.skip ?_ | refine HT.exit ?_ | refine Br.tt ?_ | refine Br.ff ?_); conv => whnf) | ((with_reducible first | refine Br.dec (fun hc => ?_) (fun hc => ?_) | refine Br.eq (fun hc => ?_) (fun hc => ?_) | refine Br.ne (fun hc => ?_) (fun hc => ?_)) <;> (first | (exfalso; omega) | conv => whnf)) | ((with_reducible first | refine Br.ttE (by decide) ?_ | refine Br.ffE (by decide) ?_ | refine Br.mk (fun hc => ?_) (fun hc => ?_) | refine Chk.mk (by first | omega | with_reducible rfl | (refine ⟨rfl, ?_⟩; omega) | decide | exact ⟨rfl, by omega, by omega, rfl⟩ | exact ⟨by assumption, rfl, by omega, by omega⟩) ?_ | refine Ar.fit (by omega) ?_ | refine Eqv.shr1 ?_ | refine Ar.u64 (by omega) ?_) <;> conv => whnf) | (with_reducible exact trivial) | ((with_reducible refine And.intro ?_ ?_) <;> conv => whnf) | (intro gn; conv => whnf))
  · exact ⟨⟨k + 1, by omega, by omega, (by repeat' (first | exact trivial | refine ⟨rfl, ?_⟩)), ⟨sv_i (by omega), trivial⟩, (HLe.sub (by repeat (first | exact List.Sublist.refl _ | refine List.Sublist.cons_cons _ ?_ | refine List.Sublist.cons _ ?_)))⟩⟩
  · exact Fin.pureS (by repeat (first | exact List.Sublist.refl _ | refine List.Sublist.cons_cons _ ?_ | refine List.Sublist.cons _ ?_)) (rfl)⟩
theorem toIntS_o (l : List Int) (hl : l.length ≤ 1000000000) : SNew Tryd.prog 12 [isl l] (MadeL (fun x => x = l) 3) := ⟨fun R => by
  refine SCalls.enter tt_ok Tryd.func12 (by kernel_rfl) rfl [(900, .cust R)] rfl (argF _) (fun w F v k h => h) (by simp) ?_
  repeat' (first | (with_reducible first | refine HT.seq ?_ | refine HT.block ?_ | refine Br.not ?_) | ((with_reducible first | refine HT.region tt_ok ?_ | refine HT.drawn tt_ok (by kernel_rfl) (by decide +kernel) ?_ | refine HT.drawnL tt_ok (by kernel_rfl) (by decide +kernel) ?_ | refine HT.cond ?_ | refine HT.ret ?_ | refine HT.skip ?_ | refine HT.exit ?_ | refine Br.tt ?_ | refine Br.ff ?_); conv => whnf) | ((with_reducible first | refine Br.dec (fun hc => ?_) (fun hc => ?_) | refine Br.eq (fun hc => ?_) (fun hc => ?_) | refine Br.ne (fun hc => ?_) (fun hc => ?_)) <;> (first | (exfalso; omega) | conv => whnf)) | ((with_reducible first | refine Br.ttE (by decide) ?_ | refine Br.ffE (by decide) ?_ | refine Br.mk (fun hc => ?_) (fun hc => ?_) | refine Chk.mk (by first | omega | with_reducible rfl | (refine ⟨rfl, ?_⟩; omega) | decide | exact ⟨rfl, by omega, by omega, rfl⟩ | exact ⟨by assumption, rfl, by omega, by omega⟩) ?_ | refine Ar.fit (by omega) ?_ | refine Eqv.shr1 ?_ | refine Ar.u64 (by omega) ?_) <;> conv => whnf) | (with_reducible exact trivial) | ((with_reducible refine And.intro ?_ ?_) <;> conv => whnf) | (intro gn; conv => whnf))
  revert gn; intro gb
  refine HT.loopC [0, 2, 3] (fun k : Nat => [(4, .i k)]) (fun k : Nat => [(100, .cells (part (rowF intF l) (zF [.int .i64 0]) k))]) (fun k : Nat => k ≤ l.length) (fun k : Nat => l.length - k) 0 (Nat.zero_le _) ⟨(by first | with_reducible exact CellLe.refl _ | exact CellLe.own | exact CellLe.i (by omega) | exact CellLe.nil | exact CellLe.slNil | exact CellLe.refl _), trivial⟩ ?_ ?_
  · conv => whnf
    refine PP.start ?_; repeat (first | exact PP.nil | refine PP.take (by first | with_reducible exact Hp.Sub.refl _ | exact Hp.Sub.rd (by omega) | exact Hp.Sub.rowL rfl (fun w F i j hi hj => LeW.of_eq (part_ge (Nat.zero_le _)).symm) | exact Hp.Sub.boxA (by (repeat (first | exact all_lt_zero | refine all_lt_succ (p := fun j => CellLe _ _) (by first | with_reducible exact CellLe.refl _ | exact CellLe.own | exact CellLe.i (by omega) | exact CellLe.nil | exact CellLe.slNil | exact CellLe.refl _) ?_))) | exact Hp.Sub.refl _) ?_ | refine PP.skip ?_)
  conv => whnf
  intro k hk
  conv => whnf
  repeat' (first | (with_reducible first | refine HT.seq ?_ | refine HT.block ?_ | refine Br.not ?_) | ((with_reducible first | refine HT.region tt_ok ?_ | refine HT.drawn tt_ok (by kernel_rfl) (by decide +kernel) ?_ | refine HT.drawnL tt_ok (by kernel_rfl) (by decide +kernel) ?_ | refine HT.cond ?_ | refine HT.ret ?_ | refine HT.skip ?_ | refine HT.exit ?_ | refine Br.tt ?_ | refine Br.ff ?_); conv => whnf) | ((with_reducible first | refine Br.dec (fun hc => ?_) (fun hc => ?_) | refine Br.eq (fun hc => ?_) (fun hc => ?_) | refine Br.ne (fun hc => ?_) (fun hc => ?_)) <;> (first | (exfalso; omega) | conv => whnf)) | ((with_reducible first | refine Br.ttE (by decide) ?_ | refine Br.ffE (by decide) ?_ | refine Br.mk (fun hc => ?_) (fun hc => ?_) | refine Chk.mk (by first | omega | with_reducible rfl | (refine ⟨rfl, ?_⟩; omega) | decide | exact ⟨rfl, by omega, by omega, rfl⟩ | exact ⟨by assumption, rfl, by omega, by omega⟩) ?_ | refine Ar.fit (by omega) ?_ | refine Eqv.shr1 ?_ | refine Ar.u64 (by omega) ?_) <;> conv => whnf) | (with_reducible exact trivial) | ((with_reducible refine And.intro ?_ ?_) <;> conv => whnf) | (intro gn; conv => whnf))
  all_goals (try simp only [Int.toNat_natCast] at *)
  · exact ⟨⟨k + 1, by omega, by omega, (by repeat' (first | exact trivial | refine ⟨rfl, ?_⟩)), ⟨(by first | with_reducible exact CellLe.refl _ | exact CellLe.own | exact CellLe.i (by omega) | exact CellLe.nil | exact CellLe.slNil | exact CellLe.refl _), trivial⟩, HLe.pk (by
      conv => whnf
      refine PP.start ?_; repeat (first | exact PP.nil | refine PP.take (by first | with_reducible exact Hp.Sub.refl _ | exact Hp.Sub.rd (by omega) | exact Hp.Sub.rowL rfl (fun w F i j hi hj => put_one (by rw [part_lt (Nat.lt_succ_self k)]; exact fun _ h => h) (fun hne => LeW.of_eq (part_next hne)) hj) | exact Hp.Sub.boxA (by (repeat (first | exact all_lt_zero | refine all_lt_succ (p := fun j => CellLe _ _) (by first | with_reducible exact CellLe.refl _ | exact CellLe.own | exact CellLe.i (by omega) | exact CellLe.nil | exact CellLe.slNil | exact CellLe.refl _) ?_))) | exact Hp.Sub.refl _) ?_ | refine PP.skip ?_))⟩⟩
  · obtain rfl : k = l.length := by omega
    exact Fin.news [_] (fun _ => 0) (by refine PP.start ?_; repeat (first | exact PP.nil | refine PP.take (by first | with_reducible exact Hp.Sub.refl _ | exact Hp.Sub.rd (by omega) | exact Hp.Sub.rowA (by first | rfl | simp) (fun i j hi hj => part_lt hi) | exact Hp.Sub.boxA (by (repeat (first | exact all_lt_zero | refine all_lt_succ (p := fun j => CellLe _ _) (by first | with_reducible exact CellLe.refl _ | exact CellLe.own | exact CellLe.i (by omega) | exact CellLe.nil | exact CellLe.slNil | exact CellLe.refl _) ?_))) | exact Hp.Sub.refl _) ?_ | refine PP.skip ?_)) ⟨l, _, _, _, (by rfl), (by first | rfl | omega | (simp <;> omega)), rfl, rfl⟩⟩
theorem toIntS_c (l : List Int) (hl : l.length ≤ 1000000000) : SRet Tryd.prog 12 [isl l] (· = isl l) := (SNew.stillL (toIntS_o l hl)).imp fun r ⟨x, h1, h2⟩ => by rw [h2, h1]
end Go.Proofs.YtpmhikdefbcofaaDoor
/-! YtpmhikdefbcofaaDoorExM -/
set_option linter.all false
namespace Go.Proofs.YtpmhikdefbcofaaDoor
open Go.RowKit

theorem putR_ne {i o m j k : Nat} {fv : Nat → SV} {f : Nat → Nat → SV} (h : j ≠ i) : putR i o m fv f j k = f j k := by
  unfold putR
  have e : Nat.beq j i = false := by rw [Bool.eq_false_iff]; exact fun hb => h (Nat.eq_of_beq_eq_true hb)
  rw [e, cond_false]
theorem putR_eqf (i o m : Nat) (fv : Nat → SV) (f : Nat → Nat → SV) : putR i o m fv f i = putF o m fv (f i) := by
  funext k
  unfold putR
  rw [Nat.beq_refl, cond_true]
/-- elements 0 .. n-1 -/
def mkL {α : Type} (m : Nat → α) (n : Nat) : List α := (List.range n).map m
theorem mkL_len {α : Type} {m : Nat → α} {n : Nat} : (mkL m n).length = n := by simp [mkL]
theorem mkL_get {α : Type} [Inhabited α] {m : Nat → α} {n i : Nat} (h : i < n) : (mkL m n).getD i default = m i := by simp [mkL, List.getD_eq_getElem?_getD, h]
/-- the first i elements are those of m -/
def mixF {α : Type} [Inhabited α] (en : α → Nat → SV) (m : Nat → α) (l : List α) (i : Nat) : Nat → Nat → SV := fun j c => if j < i then en (m j) c else en (l.getD j default) c
theorem mix_lt {α : Type} [Inhabited α] {en : α → Nat → SV} {m : Nat → α} {l : List α} {i j c : Nat} (h : j < i) : mixF en m l i j c = en (m j) c := if_pos h
theorem mix_ge {α : Type} [Inhabited α] {en : α → Nat → SV} {m : Nat → α} {l : List α} {i j c : Nat} (h : i ≤ j) : mixF en m l i j c = en (l.getD j default) c := if_neg (by omega)
theorem mix_next {α : Type} [Inhabited α] {en : α → Nat → SV} {m : Nat → α} {l : List α} {i j c : Nat} (h : j ≠ i) : mixF en m l i j c = mixF en m l (i + 1) j c := by
  unfold mixF
  by_cases h1 : j < i
  · rw [if_pos h1, if_pos (by omega)]
  · rw [if_neg h1, if_neg (by omega)]
theorem mix_end {α : Type} [Inhabited α] {en : α → Nat → SV} {m : Nat → α} {l : List α} {n j c : Nat} (h : j < n) : mixF en m l n j c = rowF en (mkL m n) j c := by
  rw [mix_lt h]
  show _ = en ((mkL m n).getD j default) c
  rw [mkL_get h]
/-- a call that turns one piece, that is no block -/
theorem CallN.turn1 {P : Program} {f : FuncId} {ss : List SV} {L : Hpl} {nx : Nat} {K : KK} (i : Nat) (p : Hp) (Φ : SV → List Hp → Hp → Prop) (hl : lk i L = p) (he : p.isEmp = false) (hb : ∀ g t n f, p ≠ .box g t n f) (h : SMut P f ss p Φ)
    (k : ∀ r N p', Φ r N p' → K (r.lift nx) (keyN nx N (setK i p' L)) (nx + 10)) : CallN P f ss L nx K := by
  obtain ⟨j, h1, h2⟩ := setK_idx (i := i) (p := .emp) (L := L) (hasK_of (by rw [hl]; exact Hp.ne_emp he))
  rw [hl] at h1
  refine .gen (h.call j h1 fun r N p' hr => ⟨_, by rw [keyN_snd, h2], fun q g t n f hlt hk => ?_, k r N p' hr⟩)
  have key : ∀ (N : List Hp) (m : Nat) (L' : Hpl) (k : Nat) (x : Hp), k < m → lk k L' = x → lk k (keyN m N L') = x := by
    intro N
    induction N with
    | nil => intro m L' k x _ h; exact h
    | cons y N ih =>
      intro m L' k x hkm h
      simp only [keyN, lk]
      have : Nat.beq m k = false := by rw [Bool.eq_false_iff]; intro hb; have := Nat.eq_of_beq_eq_true hb; omega
      rw [this, cond_false]
      exact ih (m + 1) L' k x (by omega) h
  refine key N nx _ q _ hlt ?_
  rw [lk_setK_ne (by rintro rfl; rw [hl] at hk; exact hb _ _ _ _ hk)]
  exact hk
/-- a state between two codes, told as the walk goes on from it -/
structure Cut {ι : Type} (S : ι → St) (s : St) : Prop where
  h : ∃ i, SLe s (S i)
def Qcut {ι : Type} (S : ι → St) (Q : Exit → St → Prop) : Exit → St → Prop
  | .normal, s => Cut S s
  | e, s => Q e s
theorem HT.cut {P : Program} {n : Nat} {x y : Code} {Q : Exit → St → Prop} {s : St} {ι : Type} (S : ι → St) (h1 : HT P n x (Qcut S Q) s) (h2 : ∀ i, HT P n y Q (S i)) : HT P n (.seq x y) Q s :=
  HT.seq (h1.mono fun e s' hq => by
    cases e
    case normal =>
      obtain ⟨i, hle⟩ := hq.h
      exact HT.le hle (h2 i)
    all_goals exact hq)
/-- the walk stops ahead of a region -/
structure Stop (p : Prop) : Prop where
  h : p
theorem HT.stopR {P : Program} {n : Nat} {o : Array Oper} {d : Bool} {y : Code} {Q : Exit → St → Prop} {s : St} (r : Nat) (h : Stop (HT P n (.seq (.region r o d) y) Q s)) : HT P n (.seq (.region r o d) y) Q s := h.h
theorem own_arg {v : Value} {l : List SV} {w : World} {F : Nat → Prop} {x : Value} {k : Nat} (h : Has w F ((SV.val v :: l).getD k (.val undef)) x) : Has w F (upd (argF (SV.val v :: l)) 0 (.own 0 v) k) x := by
  unfold upd
  cases e : Nat.beq k 0
  · exact h
  · have := Nat.eq_of_beq_eq_true e
    subst this
    exact h
theorem own_argK {v : Value} {q : Nat} {l : List SV} {w : World} {F : Nat → Prop} {x : Value} {k : Nat} (h : Has w F ((SV.val v :: l).getD k (.val undef)) x) : Has w F (upd (argF (SV.val v :: l)) 0 (.own q v) k) x := by
  unfold upd
  cases e : Nat.beq k 0
  · exact h
  · have := Nat.eq_of_beq_eq_true e
    subst this
    exact h

theorem markIntS_c (l : List Int) (A : Option Addr) (cp : Nat) (z : Int) (hl : l.length ≤ 100000000) (hz : 0 ≤ z ∧ z ≤ 1000000000000000) : SMut Tryd.prog 29 [.val (.slice A l.length cp), .i z] (.row (.slice A l.length cp) 3 1 l.length (rowF intF l)) (fun r N p' => r = .i (z + l.length) ∧ N = [] ∧ p' = .row (.slice A l.length cp) 3 1 l.length (rowF intF (mkL (fun i => z + i) l.length))) := ⟨fun R => by
  refine SCalls.enter tt_ok Tryd.func29 (by kernel_rfl) rfl [(0, .row (.slice A l.length cp) 3 1 l.length (rowF intF l)), (900, .cust R)] rfl (upd (argF [.val (.slice A l.length cp), .i z]) 0 (.own 0 (.slice A l.length cp))) (fun w F x k h => own_arg h) (by simp) ?_
  repeat' (first | (with_reducible first | refine HT.seq ?_ | refine HT.block ?_ | refine Br.not ?_) | ((with_reducible first | refine HT.region tt_ok ?_ | refine HT.drawn tt_ok (by kernel_rfl) (by decide +kernel) ?_ | refine HT.drawnL tt_ok (by kernel_rfl) (by decide +kernel) ?_ | refine HT.cond ?_ | refine HT.ret ?_ | refine HT.skip ?_ | refine HT.exit ?_ | refine Br.tt ?_ | refine Br.ff ?_); conv => whnf) | ((with_reducible first | refine Br.dec (fun hc => ?_) (fun hc => ?_) | refine Br.eq (fun hc => ?_) (fun hc => ?_) | refine Br.ne (fun hc => ?_) (fun hc => ?_)) <;> (first | (exfalso; omega) | conv => whnf)) | ((with_reducible first | refine Br.ttE (by decide) ?_ | refine Br.ffE (by decide) ?_ | refine Br.mk (fun hc => ?_) (fun hc => ?_) | refine Chk.mk (by first | omega | with_reducible rfl | (refine ⟨rfl, ?_⟩; omega) | decide | exact ⟨rfl, by omega, by omega, rfl⟩ | exact ⟨by assumption, rfl, by omega, by omega⟩) ?_ | refine Ar.fit (by omega) ?_ | refine Eqv.shr1 ?_ | refine Ar.u64 (by omega) ?_) <;> conv => whnf) | (with_reducible exact trivial) | ((with_reducible refine And.intro ?_ ?_) <;> conv => whnf) | (intro gn; conv => whnf))
  refine HT.loopC [0, 4] (fun k : Nat => [(5, .i k), (1, .i (z + k))]) (fun k : Nat => [(0, .cells (mixF intF (fun i => z + i) l k))]) (fun k : Nat => k ≤ l.length) (fun k : Nat => l.length - k) 0 (Nat.zero_le _) ⟨(by first | with_reducible exact CellLe.refl _ | exact CellLe.own | exact CellLe.i (by omega) | exact CellLe.nil | exact CellLe.slNil | exact CellLe.refl _), (by first | with_reducible exact CellLe.refl _ | exact CellLe.own | exact CellLe.i (by omega) | exact CellLe.nil | exact CellLe.slNil | exact CellLe.refl _), trivial⟩ ?_ ?_
  · conv => whnf
    refine PP.start ?_; repeat (first | exact PP.nil | refine PP.take (by first | with_reducible exact Hp.Sub.refl _ | exact Hp.Sub.rd (by omega) | exact Hp.Sub.rowA rfl (fun i j hi hj => (mix_ge (Nat.zero_le _)).symm) | exact Hp.Sub.boxA (by (repeat (first | exact all_lt_zero | refine all_lt_succ (p := fun j => CellLe _ _) (by first | with_reducible exact CellLe.refl _ | exact CellLe.own | exact CellLe.i (by omega) | exact CellLe.nil | exact CellLe.slNil | exact CellLe.refl _) ?_))) | exact Hp.Sub.refl _) ?_ | refine PP.skip ?_)
  conv => whnf
  intro k hk
  conv => whnf
  repeat' (first | (with_reducible first | refine HT.seq ?_ | refine HT.block ?_ | refine Br.not ?_) | ((with_reducible first | refine HT.region tt_ok ?_ | refine HT.drawn tt_ok (by kernel_rfl) (by decide +kernel) ?_ | refine HT.drawnL tt_ok (by kernel_rfl) (by decide +kernel) ?_ | refine HT.cond ?_ | refine HT.ret ?_ | refine HT.skip ?_ | refine HT.exit ?_ | refine Br.tt ?_ | refine Br.ff ?_); conv => whnf) | ((with_reducible first | refine Br.dec (fun hc => ?_) (fun hc => ?_) | refine Br.eq (fun hc => ?_) (fun hc => ?_) | refine Br.ne (fun hc => ?_) (fun hc => ?_)) <;> (first | (exfalso; omega) | conv => whnf)) | ((with_reducible first | refine Br.ttE (by decide) ?_ | refine Br.ffE (by decide) ?_ | refine Br.mk (fun hc => ?_) (fun hc => ?_) | refine Chk.mk (by first | omega | with_reducible rfl | (refine ⟨rfl, ?_⟩; omega) | decide | exact ⟨rfl, by omega, by omega, rfl⟩ | exact ⟨by assumption, rfl, by omega, by omega⟩) ?_ | refine Ar.fit (by omega) ?_ | refine Eqv.shr1 ?_ | refine Ar.u64 (by omega) ?_) <;> conv => whnf) | (with_reducible exact trivial) | ((with_reducible refine And.intro ?_ ?_) <;> conv => whnf) | (intro gn; conv => whnf))
  all_goals (try simp only [Int.toNat_natCast] at *)
  · exact ⟨⟨k + 1, by omega, by omega, (by repeat' (first | exact trivial | refine ⟨rfl, ?_⟩)), ⟨(by first | with_reducible exact CellLe.refl _ | exact CellLe.own | exact CellLe.i (by omega) | exact CellLe.nil | exact CellLe.slNil | exact CellLe.refl _), (by first | with_reducible exact CellLe.refl _ | exact CellLe.own | exact CellLe.i (by omega) | exact CellLe.nil | exact CellLe.slNil | exact CellLe.refl _), trivial⟩, HLe.pk (by
      conv => whnf
      refine PP.start ?_; repeat (first | exact PP.nil | refine PP.take (by first | with_reducible exact Hp.Sub.refl _ | exact Hp.Sub.rd (by omega) | exact Hp.Sub.rowL rfl (fun w F i j hi hj => put_one (by rw [mix_lt (Nat.lt_succ_self k)]; exact fun _ h => h) (fun hne => LeW.of_eq (mix_next hne)) hj) | exact Hp.Sub.boxA (by (repeat (first | exact all_lt_zero | refine all_lt_succ (p := fun j => CellLe _ _) (by first | with_reducible exact CellLe.refl _ | exact CellLe.own | exact CellLe.i (by omega) | exact CellLe.nil | exact CellLe.slNil | exact CellLe.refl _) ?_))) | exact Hp.Sub.refl _) ?_ | refine PP.skip ?_))⟩⟩
  · obtain rfl : k = l.length := by omega
    exact Fin.mut [] _ (fun _ => 0) (by refine PP.start ?_; repeat (first | exact PP.nil | refine PP.take (by first | with_reducible exact Hp.Sub.refl _ | exact Hp.Sub.rd (by omega) | exact Hp.Sub.rowA rfl (fun i j hi hj => mix_end hi) | exact Hp.Sub.boxA (by (repeat (first | exact all_lt_zero | refine all_lt_succ (p := fun j => CellLe _ _) (by first | with_reducible exact CellLe.refl _ | exact CellLe.own | exact CellLe.i (by omega) | exact CellLe.nil | exact CellLe.slNil | exact CellLe.refl _) ?_))) | exact Hp.Sub.refl _) ?_ | refine PP.skip ?_)) ⟨rfl, rfl, rfl⟩⟩
theorem heldIntS_c (z : Int) (n : Nat) (hn : n ≤ 100000000) (hz : 0 ≤ z ∧ z ≤ 1000000000000000) : SRet Tryd.prog 31 [isl (mkL (fun i => z + i) n), .i z] (· = .i (z + n)) := ⟨fun R => by
  have hlen : (mkL (fun i : Nat => z + i) n).length = n := mkL_len
  refine SCalls.enter tt_ok Tryd.func31 (by kernel_rfl) rfl [(900, .cust R)] rfl (argF _) (fun w F v k h => h) (by simp) ?_
  repeat' (first | (with_reducible first | refine HT.seq ?_ | refine HT.block ?_ | refine Br.not ?_) | ((with_reducible first | refine HT.region tt_ok ?_ | refine HT.drawn tt_ok (by kernel_rfl) (by decide +kernel) ?_ | refine HT.drawnL tt_ok (by kernel_rfl) (by decide +kernel) ?_ | refine HT.cond ?_ | refine HT.ret ?_ | refine HT.skip ?_ | refine HT.exit ?_ | refine Br.tt ?_ | refine Br.ff ?_); conv => whnf) | ((with_reducible first | refine Br.dec (fun hc => ?_) (fun hc => ?_) | refine Br.eq (fun hc => ?_) (fun hc => ?_) | refine Br.ne (fun hc => ?_) (fun hc => ?_)) <;> (first | (exfalso; omega) | conv => whnf)) | ((with_reducible first | refine Br.ttE (by decide) ?_ | refine Br.ffE (by decide) ?_ | refine Br.mk (fun hc => ?_) (fun hc => ?_) | refine Chk.mk (by first | omega | with_reducible rfl | (refine ⟨rfl, ?_⟩; omega) | decide | exact ⟨rfl, by omega, by omega, rfl⟩ | exact ⟨by assumption, rfl, by omega, by omega⟩) ?_ | refine Ar.fit (by omega) ?_ | refine Eqv.shr1 ?_ | refine Ar.u64 (by omega) ?_) <;> conv => whnf) | (with_reducible exact trivial) | ((with_reducible refine And.intro ?_ ?_) <;> conv => whnf) | (intro gn; conv => whnf))
  refine HT.loopC [0] (fun k : Nat => [(5, .i k), (1, .i (z + k))]) (fun k : Nat => []) (fun k : Nat => k ≤ n) (fun k : Nat => n - k) 0 (Nat.zero_le _) ⟨(by first | with_reducible exact CellLe.refl _ | exact CellLe.own | exact CellLe.i (by omega) | exact CellLe.nil | exact CellLe.slNil | exact CellLe.refl _), (by first | with_reducible exact CellLe.refl _ | exact CellLe.own | exact CellLe.i (by omega) | exact CellLe.nil | exact CellLe.slNil | exact CellLe.refl _), trivial⟩ ?_ ?_
  · conv => whnf
    refine PP.start ?_; repeat (first | exact PP.nil | refine PP.take (by first | with_reducible exact Hp.Sub.refl _ | exact Hp.Sub.rd (by omega) | exact Hp.Sub.boxA (by (repeat (first | exact all_lt_zero | refine all_lt_succ (p := fun j => CellLe _ _) (by first | with_reducible exact CellLe.refl _ | exact CellLe.own | exact CellLe.i (by omega) | exact CellLe.nil | exact CellLe.slNil | exact CellLe.refl _) ?_))) | exact Hp.Sub.refl _) ?_ | refine PP.skip ?_)
  conv => whnf
  intro k hk
  have hg : k < n → (mkL (fun i : Nat => z + i) n).getD ((k : Int)).toNat default = z + k := fun h => by rw [Int.toNat_natCast]; exact mkL_get h
  conv => whnf
  repeat' (first | (with_reducible first | refine HT.seq ?_ | refine HT.block ?_ | refine Br.not ?_) | ((with_reducible first | refine HT.region tt_ok ?_ | refine HT.drawn tt_ok (by kernel_rfl) (by decide +kernel) ?_ | refine HT.drawnL tt_ok (by kernel_rfl) (by decide +kernel) ?_ | refine HT.cond ?_ | refine HT.ret ?_ | refine HT.skip ?_ | refine HT.exit ?_ | refine Br.tt ?_ | refine Br.ff ?_); conv => whnf) | ((with_reducible first | refine Br.dec (fun hc => ?_) (fun hc => ?_) | refine Br.eq (fun hc => ?_) (fun hc => ?_) | refine Br.ne (fun hc => ?_) (fun hc => ?_)) <;> (first | (exfalso; omega) | conv => whnf)) | ((with_reducible first | refine Br.ttE (by decide) ?_ | refine Br.ffE (by decide) ?_ | refine Br.mk (fun hc => ?_) (fun hc => ?_) | refine Chk.mk (by first | omega | with_reducible rfl | (refine ⟨rfl, ?_⟩; omega) | decide | exact ⟨rfl, by omega, by omega, rfl⟩ | exact ⟨by assumption, rfl, by omega, by omega⟩) ?_ | refine Ar.fit (by omega) ?_ | refine Eqv.shr1 ?_ | refine Ar.u64 (by omega) ?_) <;> conv => whnf) | (with_reducible exact trivial) | ((with_reducible refine And.intro ?_ ?_) <;> conv => whnf) | (intro gn; conv => whnf))
  all_goals first
    | (exfalso; omega)
    | exact ⟨⟨k + 1, by omega, by omega, (by repeat' (first | exact trivial | refine ⟨rfl, ?_⟩)), ⟨(by first | with_reducible exact CellLe.refl _ | exact CellLe.own | exact CellLe.i (by omega) | exact CellLe.nil | exact CellLe.slNil | exact CellLe.refl _), (by first | with_reducible exact CellLe.refl _ | exact CellLe.own | exact CellLe.i (by omega) | exact CellLe.nil | exact CellLe.slNil | exact CellLe.refl _), trivial⟩, HLe.pk (by (conv => whnf); (refine PP.start ?_; repeat (first | exact PP.nil | refine PP.take (by first | with_reducible exact Hp.Sub.refl _ | exact Hp.Sub.rd (by omega) | exact Hp.Sub.boxA (by (repeat (first | exact all_lt_zero | refine all_lt_succ (p := fun j => CellLe _ _) (by first | with_reducible exact CellLe.refl _ | exact CellLe.own | exact CellLe.i (by omega) | exact CellLe.nil | exact CellLe.slNil | exact CellLe.refl _) ?_))) | exact Hp.Sub.refl _) ?_ | refine PP.skip ?_)))⟩⟩
    | exact Fin.pureS (by repeat (first | exact List.Sublist.refl _ | refine List.Sublist.cons_cons _ ?_ | refine List.Sublist.cons _ ?_)) (sv_i (by omega))⟩
end Go.Proofs.YtpmhikdefbcofaaDoor
/-! YtpmhikdefbcofaaDoorRv -/
set_option linter.all false
namespace Go.Proofs.YtpmhikdefbcofaaDoor
open Go.RowKit

/-- k places from either end are exchanged -/
def rvI (l : List Int) (k i : Nat) : Int := if i < k ∨ l.length ≤ i + k then l.getD (l.length - 1 - i) default else l.getD i default
abbrev rvF (l : List Int) (k : Nat) : Nat → Nat → SV := fun i _ => .i (rvI l k i)
theorem rv_start {l : List Int} {i : Nat} (hi : i < l.length) : rvI l 0 i = l.getD i default := if_neg (by omega)
theorem rv_end {l : List Int} {k i : Nat} (hk : ¬ (k : Int) < (l.length : Int) - 1 - k) (hi : i < l.length) : rvI l k i = l.reverse.getD i default := by
  have hr : l.reverse.getD i default = l.getD (l.length - 1 - i) default := by
    rw [List.getD_eq_getElem?_getD, List.getD_eq_getElem?_getD, List.getElem?_reverse hi]
  rw [hr]
  unfold rvI
  by_cases h : i < k ∨ l.length ≤ i + k
  · rw [if_pos h]
  · rw [if_neg h]
    congr 1
    omega
theorem rv_lo {l : List Int} {k : Nat} (hk : (k : Int) < (l.length : Int) - 1 - k) : rvI l k k = l.getD k default := if_neg (by omega)
theorem rv_hi {l : List Int} {k q : Nat} (hk : (k : Int) < (l.length : Int) - 1 - k) (hq : q = l.length - 1 - k) : rvI l k q = l.getD q default := if_neg (by omega)
theorem rv_step {w : World} {F : Nat → Prop} {l : List Int} {k p q i j : Nat} {f1 f2 : Nat → SV} (hk : (k : Int) < (l.length : Int) - 1 - k) (hp : p = k) (hq : q = l.length - 1 - k) (h1 : f1 0 = .i (l.getD q default)) (h2 : f2 0 = .i (l.getD k default)) (hj : j < 1) :
    LeW w F (putR q 0 1 f2 (putR p 0 1 f1 (rvF l k)) i j) (rvF l (k + 1) i j) := by
  subst hp
  refine put_one ?_ (fun hne => put_one ?_ (fun hne2 => ?_) (by omega)) hj
  · refine LeW.of_eq ?_
    rw [h2]
    show SV.i _ = SV.i (rvI l (p + 1) q)
    rw [show rvI l (p + 1) q = l.getD (l.length - 1 - q) default from if_pos (by omega), show l.length - 1 - q = p by omega]
  · refine LeW.of_eq ?_
    rw [h1]
    show SV.i _ = SV.i (rvI l (p + 1) p)
    rw [show rvI l (p + 1) p = l.getD (l.length - 1 - p) default from if_pos (by omega), ← hq]
  · refine LeW.of_eq ?_
    show SV.i (rvI l p i) = SV.i (rvI l (p + 1) i)
    congr 1
    unfold rvI
    by_cases h : i < p ∨ l.length ≤ i + p
    · rw [if_pos h, if_pos (by omega)]
    · rw [if_neg h, if_neg (by omega)]
set_option maxRecDepth 100000 in
set_option maxHeartbeats 1000000 in
theorem rev_c (l : List Int) (A : Option Addr) (cp : Nat) (hl : l.length ≤ 100000000) : SMut Tryd.prog 91 [.val (.slice A l.length cp)] (.row (.slice A l.length cp) 3 1 l.length (rowF intF l)) (fun r N p' => r = .tup 0 (fun _ => .any) ∧ N = [] ∧ p' = .row (.slice A l.length cp) 3 1 l.length (rowF intF l.reverse)) := ⟨fun R => by
  refine SCalls.enter tt_ok Tryd.func91 (by kernel_rfl) rfl [(0, .row (.slice A l.length cp) 3 1 l.length (rowF intF l)), (900, .cust R)] rfl (upd (argF [.val (.slice A l.length cp)]) 0 (.own 0 (.slice A l.length cp))) (fun w F x k h => own_arg h) (by simp) ?_
  repeat' (first | (with_reducible first | refine HT.seq ?_ | refine HT.block ?_ | refine Br.not ?_) | ((with_reducible first | refine HT.region tt_ok ?_ | refine HT.drawn tt_ok (by kernel_rfl) (by decide +kernel) ?_ | refine HT.drawnL tt_ok (by kernel_rfl) (by decide +kernel) ?_ | refine HT.cond ?_ | refine HT.ret ?_ | refine HT.skip ?_ | refine HT.exit ?_ | refine Br.tt ?_ | refine Br.ff ?_); conv => whnf) | ((with_reducible first | refine Br.dec (fun hc => ?_) (fun hc => ?_) | refine Br.eq (fun hc => ?_) (fun hc => ?_) | refine Br.ne (fun hc => ?_) (fun hc => ?_)) <;> (first | (exfalso; omega) | conv => whnf)) | ((with_reducible first | refine Br.ttE (by decide) ?_ | refine Br.ffE (by decide) ?_ | refine Br.mk (fun hc => ?_) (fun hc => ?_) | refine Chk.mk (by first | omega | with_reducible rfl | (refine ⟨rfl, ?_⟩; omega) | decide | exact ⟨rfl, by omega, by omega, rfl⟩ | exact ⟨by assumption, rfl, by omega, by omega⟩) ?_ | refine Ar.fit (by omega) ?_ | refine Eqv.shr1 ?_ | refine Ar.u64 (by omega) ?_) <;> conv => whnf) | (with_reducible exact trivial) | ((with_reducible refine And.intro ?_ ?_) <;> conv => whnf) | (intro gn; conv => whnf))
  refine HT.loopC [0] (fun k : Nat => [(2, .i k), (3, .i ((l.length : Int) - 1 - k))]) (fun k : Nat => [(0, .cells (rvF l k))]) (fun k : Nat => k ≤ l.length) (fun k : Nat => l.length - k) 0 (Nat.zero_le _) ⟨(by first | with_reducible exact CellLe.refl _ | exact CellLe.own | exact CellLe.i (by omega) | exact CellLe.nil | exact CellLe.slNil | exact CellLe.refl _), (by first | with_reducible exact CellLe.refl _ | exact CellLe.own | exact CellLe.i (by omega) | exact CellLe.nil | exact CellLe.slNil | exact CellLe.refl _), trivial⟩ ?_ ?_
  · conv => whnf
    refine PP.start ?_; repeat (first | exact PP.nil | refine PP.take (by first | with_reducible exact Hp.Sub.refl _ | exact Hp.Sub.rd (by omega) | exact Hp.Sub.rowA rfl (fun i j hi hj => by rcases (by omega : j = 0) with rfl; exact (congrArg SV.i (rv_start hi)).symm) | exact Hp.Sub.boxA (by (repeat (first | exact all_lt_zero | refine all_lt_succ (p := fun j => CellLe _ _) (by first | with_reducible exact CellLe.refl _ | exact CellLe.own | exact CellLe.i (by omega) | exact CellLe.nil | exact CellLe.slNil | exact CellLe.refl _) ?_))) | exact Hp.Sub.refl _) ?_ | refine PP.skip ?_)
  conv => whnf
  intro k hk
  conv => whnf
  repeat' (first | (with_reducible first | refine HT.seq ?_ | refine HT.block ?_ | refine Br.not ?_) | ((with_reducible first | refine HT.region tt_ok ?_ | refine HT.drawn tt_ok (by kernel_rfl) (by decide +kernel) ?_ | refine HT.drawnL tt_ok (by kernel_rfl) (by decide +kernel) ?_ | refine HT.cond ?_ | refine HT.ret ?_ | refine HT.skip ?_ | refine HT.exit ?_ | refine Br.tt ?_ | refine Br.ff ?_); conv => whnf) | ((with_reducible first | refine Br.dec (fun hc => ?_) (fun hc => ?_) | refine Br.eq (fun hc => ?_) (fun hc => ?_) | refine Br.ne (fun hc => ?_) (fun hc => ?_)) <;> (first | (exfalso; omega) | conv => whnf)) | ((with_reducible first | refine Br.ttE (by decide) ?_ | refine Br.ffE (by decide) ?_ | refine Br.mk (fun hc => ?_) (fun hc => ?_) | refine Chk.mk (by first | omega | with_reducible rfl | (refine ⟨rfl, ?_⟩; omega) | decide | exact ⟨rfl, by omega, by omega, rfl⟩ | exact ⟨by assumption, rfl, by omega, by omega⟩) ?_ | refine Ar.fit (by omega) ?_ | refine Eqv.shr1 ?_ | refine Ar.u64 (by omega) ?_) <;> conv => whnf) | (with_reducible exact trivial) | ((with_reducible refine And.intro ?_ ?_) <;> conv => whnf) | (intro gn; conv => whnf))
  all_goals (try simp only [Int.toNat_natCast] at *)
  all_goals first
    | (have hc2 : (k : Int) < (l.length : Int) - 1 - k := by assumption
       exact ⟨⟨k + 1, (by omega), by omega, (by repeat' (first | exact trivial | refine ⟨rfl, ?_⟩)), ⟨(by first | with_reducible exact CellLe.refl _ | exact CellLe.own | exact CellLe.i (by omega) | exact CellLe.nil | exact CellLe.slNil | exact CellLe.refl _), (by first | with_reducible exact CellLe.refl _ | exact CellLe.own | exact CellLe.i (by omega) | exact CellLe.nil | exact CellLe.slNil | exact CellLe.refl _), trivial⟩, HLe.pk (by (conv => whnf); (refine PP.start ?_; repeat (first | exact PP.nil | refine PP.take (by first | with_reducible exact Hp.Sub.refl _ | exact Hp.Sub.rd (by omega) | exact Hp.Sub.rowL rfl (fun w F i j hi hj => rv_step hc2 (by omega) (by omega) (congrArg SV.i ((rv_hi hc2 (by omega)).trans (by congr 1))) (congrArg SV.i (rv_lo hc2)) hj) | exact Hp.Sub.boxA (by (repeat (first | exact all_lt_zero | refine all_lt_succ (p := fun j => CellLe _ _) (by first | with_reducible exact CellLe.refl _ | exact CellLe.own | exact CellLe.i (by omega) | exact CellLe.nil | exact CellLe.slNil | exact CellLe.refl _) ?_))) | exact Hp.Sub.refl _) ?_ | refine PP.skip ?_)))⟩⟩)
    | exact Fin.mut [] _ (fun _ => 0) (by refine PP.start ?_; repeat (first | exact PP.nil | refine PP.take (by first | with_reducible exact Hp.Sub.refl _ | exact Hp.Sub.rd (by omega) | exact Hp.Sub.rowA rfl (fun i j hi hj => by rcases (by omega : j = 0) with rfl; exact congrArg SV.i (rv_end hc hi)) | exact Hp.Sub.boxA (by (repeat (first | exact all_lt_zero | refine all_lt_succ (p := fun j => CellLe _ _) (by first | with_reducible exact CellLe.refl _ | exact CellLe.own | exact CellLe.i (by omega) | exact CellLe.nil | exact CellLe.slNil | exact CellLe.refl _) ?_))) | exact Hp.Sub.refl _) ?_ | refine PP.skip ?_)) ⟨rfl, rfl, rfl⟩
    | trace_state
  ⟩
end Go.Proofs.YtpmhikdefbcofaaDoor
/-! YtpmhikdefbcofaaDoorCw -/
set_option linter.all false
namespace Go.Proofs.YtpmhikdefbcofaaDoor
open Go.RowKit

/-- a contract at arguments that tell more -/
theorem SRet.weak {P : Program} {f : FuncId} {ss ss' : List SV} {Φ : SV → Prop} (h : SRet P f ss' Φ) (hl : ∀ w F vs, HasL w F ss vs → HasL w F ss' vs) : SRet P f ss Φ :=
  ⟨fun R => ⟨(h.h R).1, fun w F vs hs hv => (h.h R).2 w F vs hs (hl w F vs hv)⟩⟩
/-- the vertices in the past of one -/
noncomputable def pst (vs : List Vx) (s : Nat) : List Bool := @dite _ (∃ R, Cor vs s R) (Classical.propDecidable _) (fun h => Classical.choose h) fun _ => []
theorem pst_eq {vs : List Vx} {s : Nat} {R : List Bool} (h : Cor vs s R) : pst vs s = R := by
  have he : ∃ R, Cor vs s R := ⟨R, h⟩
  unfold pst
  rw [dif_pos he]
  exact (Classical.choose_spec he).uniq h
/-- the leader of a wave -/
def ldF (vs : List Vx) (ls : List Int) (x : Nat) : Option Nat := fdV vs (2 * (x : Int) - 1) (ls.getD (x - 1) default)
/-- a chain back, from e waves behind the last one committed -/
noncomputable def chn (vs : List Vx) (ls : List Int) (last : Nat) : Nat → Nat → List Int → List Int
  | 0, _, acc => acc
  | e + 1, s, acc => match ldF vs ls (last + (e + 1)) with
    | some i => if rg (pst vs s) i = true then chn vs ls last e i (acc ++ [((last + (e + 1) : Nat) : Int)]) else chn vs ls last e s acc
    | none => chn vs ls last e s acc
theorem chn_in {vs : List Vx} {ls : List Int} {last e s i : Nat} {acc : List Int} (h : ldF vs ls (last + (e + 1)) = some i) (hr : rg (pst vs s) i = true) : chn vs ls last (e + 1) s acc = chn vs ls last e i (acc ++ [((last + (e + 1) : Nat) : Int)]) := by
  rw [chn, h]; exact if_pos hr
theorem chn_out {vs : List Vx} {ls : List Int} {last e s i : Nat} {acc : List Int} (h : ldF vs ls (last + (e + 1)) = some i) (hr : rg (pst vs s) i = false) : chn vs ls last (e + 1) s acc = chn vs ls last e s acc := by
  rw [chn, h]; exact if_neg (by rw [hr]; simp)
theorem chn_no {vs : List Vx} {ls : List Int} {last e s : Nat} {acc : List Int} (h : ldF vs ls (last + (e + 1)) = none) : chn vs ls last (e + 1) s acc = chn vs ls last e s acc := by
  rw [chn, h]
theorem chn_len {vs : List Vx} {ls : List Int} {last : Nat} : ∀ {e s : Nat} {acc : List Int}, (chn vs ls last e s acc).length ≤ acc.length + e
  | 0, s, acc => Nat.le_refl _
  | e + 1, s, acc => by
    cases h : ldF vs ls (last + (e + 1)) with
    | none =>
      rw [chn_no h]
      have := chn_len (vs := vs) (ls := ls) (last := last) (e := e) (s := s) (acc := acc)
      omega
    | some i =>
      cases hr : rg (pst vs s) i
      · rw [chn_out h hr]
        have := chn_len (vs := vs) (ls := ls) (last := last) (e := e) (s := s) (acc := acc)
        omega
      · rw [chn_in h hr]
        have := chn_len (vs := vs) (ls := ls) (last := last) (e := e) (s := i) (acc := acc ++ [((last + (e + 1) : Nat) : Int)])
        rw [List.length_append] at this
        simp only [List.length_cons, List.length_nil] at this
        omega
/-- the waves that one commits, ascending -/
noncomputable def chS (vs : List Vx) (ls : List Int) (last w : Nat) (i : Nat) : List Int := (chn vs ls last (w - 1 - last) i [(w : Int)]).reverse
theorem contains_idx {vs : List Vx} {s i : Nat} (hi : i < vs.length) : (idxTo (pst vs s) vs.length).contains (i : Int) = rg (pst vs s) i := by
  rw [Bool.eq_iff_iff, List.contains_iff_mem, mem_idx]
  constructor
  · rintro ⟨j, e, _, h⟩
    obtain rfl : i = j := by omega
    exact h
  · intro h; exact ⟨i, rfl, hi, h⟩
theorem idx_sorted {R : List Bool} {n : Nat} : (idxTo R n).Pairwise (· ≤ ·) := idx_asc.imp fun h => by omega
theorem pastA_c (ad : Nat → Nat) (c : List Int) (vs : List Vx) (s : Nat) (hcm : cmOk c = true) (hg : GoodN c vs vs.length) (hs : s < vs.length) (hv : vs.length ≤ 10000000) : SRet Tryd.prog 89 [lkA ad c vs, nuA ad vs s] (· = isl (idxTo (pst vs s) vs.length)) :=
  SRet.weak ((past_o c vs s hcm hg hs hv).stillL.imp fun r ⟨l, ⟨R, hR, hl⟩, e⟩ => by rw [e, hl, pst_eq hR]) fun w F vl h => by
    match vl, h with
    | [x, y], ⟨h1, h2, _⟩ => exact ⟨gr_weak x h1, by have := nd_weak (w := w) (F := F) (ad := ad) (vs := vs) (i := s) y (by rw [ndA_eq]; exact h2); rwa [ndV_eq] at this, trivial⟩
theorem Fin.gxL {v : Value} {k n : Nat} {l : List Int} {H : List Hp} {u : Ers} {R : Heaplet} {Φ : SV → Prop} (hp : PPick H (.row v 3 1 n (rowF intF l) :: erL u R)) (hn : n = l.length) (h : Φ (isl l)) : Fin (.own k v) H (fun r H' => H' = erL u R ∧ Φ r) := by
  subst hn
  refine Fin.still (r' := isl l) (H' := erL u R) hp (fun w F x hsl hx => ?_) ⟨rfl, h⟩
  have e : x = v := hx
  rw [e]
  exact hsl
set_option maxRecDepth 100000 in
set_option maxHeartbeats 4000000 in
theorem chain_c (u : Ers) (ad : Nat → Nat) (c : List Int) (vs : List Vx) (ls : List Int) (w last i : Nat) (hok : grOk c vs = true) (hl : ls.length ≤ 15) (hv : vs.length ≤ 10000000) (hw : 1 ≤ w ∧ w ≤ ls.length) (hlt : last < w) (hi : ldF vs ls w = some i) :
    SGx Tryd.prog u 74 [wvA ad c vs ls, .i w, .i last] (· = isl (chS vs ls last w i)) := ⟨fun R => by
  have hcm := (grOk_iff.1 hok).1
  have hG := (grOk_iff.1 hok).2
  have hil := (fd_some hi).1
  have hld : ∀ x : Nat, 1 ≤ x → fdV vs (2 * (x : Int) - 1) (ls.getD ((x : Int) - 1).toNat default) = ldF vs ls x := fun x hx => by rw [show ((x : Int) - 1).toNat = x - 1 by omega]; rfl
  obtain ⟨Z, hZ⟩ : ∃ Z, chn vs ls last (w - 1 - last) i [(w : Int)] = Z := ⟨_, rfl⟩
  refine SCalls.enter tt_ok Tryd.func74 (by kernel_rfl) rfl [(800, erH 0 u.y0 u.t0 u.v0), (801, erH 1 u.y1 u.t1 u.v1), (802, erH 2 u.y2 u.t2 u.v2), (803, .cust (erC u)), (900, .cust R)] rfl (argF _) (fun w F v k h => h) (by simp) ?_
  repeat' (first | (with_reducible first | refine HT.seq ?_ | refine HT.block ?_ | refine Br.not ?_) | ((with_reducible first | refine HT.region tt_ok ?_ | refine HT.drawn tt_ok (by kernel_rfl) (by decide +kernel) ?_ | refine HT.drawnL tt_ok (by kernel_rfl) (by decide +kernel) ?_ | refine HT.cond ?_ | refine HT.ret ?_ | refine HT.skip ?_ | refine HT.exit ?_ | refine Br.tt ?_ | refine Br.ff ?_); conv => whnf) | ((with_reducible first | refine Br.dec (fun hc => ?_) (fun hc => ?_) | refine Br.eq (fun hc => ?_) (fun hc => ?_) | refine Br.ne (fun hc => ?_) (fun hc => ?_)) <;> (first | (exfalso; omega) | conv => whnf)) | ((with_reducible first | refine Br.ttE (by decide) ?_ | refine Br.ffE (by decide) ?_ | refine Br.mk (fun hc => ?_) (fun hc => ?_) | refine Chk.mk (by first | omega | with_reducible rfl | (refine ⟨rfl, ?_⟩; omega) | decide | exact ⟨rfl, by omega, by omega, rfl⟩ | exact ⟨by assumption, rfl, by omega, by omega⟩) ?_ | refine Ar.fit (by omega) ?_ | refine Eqv.shr1 ?_ | refine Ar.u64 (by omega) ?_) <;> conv => whnf) | ((first | (refine CallN.gl rfl rfl rfl (ldrA_c u ad c vs ls (w : Int) hok hl) ?_; rintro r (⟨hr, rfl⟩ | ⟨hr, ⟨hj, rfl⟩ | ⟨j, hj, rfl⟩⟩))) <;> conv => whnf) | (with_reducible exact trivial) | ((with_reducible refine And.intro ?_ ?_) <;> conv => whnf) | (intro gn; conv => whnf))
  · exfalso; omega
  · exfalso; rw [hld w hw.1, hi] at hj; cases hj
  obtain rfl : j = i := by rw [hld w hw.1, hi] at hj; injection hj with hj; exact hj.symm
  repeat' (first | (with_reducible first | refine HT.seq ?_ | refine HT.block ?_ | refine Br.not ?_) | ((with_reducible first | refine HT.region tt_ok ?_ | refine HT.drawn tt_ok (by kernel_rfl) (by decide +kernel) ?_ | refine HT.drawnL tt_ok (by kernel_rfl) (by decide +kernel) ?_ | refine HT.cond ?_ | refine HT.ret ?_ | refine HT.skip ?_ | refine HT.exit ?_ | refine Br.tt ?_ | refine Br.ff ?_); conv => whnf) | ((with_reducible first | refine Br.dec (fun hc => ?_) (fun hc => ?_) | refine Br.eq (fun hc => ?_) (fun hc => ?_) | refine Br.ne (fun hc => ?_) (fun hc => ?_)) <;> (first | (exfalso; omega) | conv => whnf)) | ((with_reducible first | refine Br.ttE (by decide) ?_ | refine Br.ffE (by decide) ?_ | refine Br.mk (fun hc => ?_) (fun hc => ?_) | refine Chk.mk (by first | omega | with_reducible rfl | (refine ⟨rfl, ?_⟩; omega) | decide | exact ⟨rfl, by omega, by omega, rfl⟩ | exact ⟨by assumption, rfl, by omega, by omega⟩) ?_ | refine Ar.fit (by omega) ?_ | refine Eqv.shr1 ?_ | refine Ar.u64 (by omega) ?_) <;> conv => whnf) | ((first | refine CallN.ret1 (pastA_c ad c vs j hcm hG hil hv) ?_) <;> conv => whnf) | (with_reducible exact trivial) | ((with_reducible refine And.intro ?_ ?_) <;> conv => whnf) | (intro gn; conv => whnf))
  rename_i gb
  refine HT.loopC [0, 1, 2, 3, 6, 7, 8, 23] (fun x : Nat × Nat × List Int × Option Addr × Nat × Nat => [(11, .i ((last + x.1 : Nat) : Int)), (10, isl (idxTo (pst vs x.2.1) vs.length)), (9, .own 111 (.slice x.2.2.2.1 x.2.2.2.2.1 x.2.2.2.2.2))]) (fun x : Nat × Nat × List Int × Option Addr × Nat × Nat => [(111, .row (.slice x.2.2.2.1 x.2.2.2.2.1 x.2.2.2.2.2) x.2.2.2.2.1 (rowF intF x.2.2.1))]) (fun x : Nat × Nat × List Int × Option Addr × Nat × Nat => x.1 + last < w ∧ x.2.1 < vs.length ∧ chn vs ls last x.1 x.2.1 x.2.2.1 = Z ∧ x.2.2.2.2.1 = x.2.2.1.length ∧ x.2.2.1.length + x.1 ≤ 15) (fun x : Nat × Nat × List Int × Option Addr × Nat × Nat => x.1) (w - 1 - last, j, [(w : Int)], some ⟨gn, 0, none⟩, 1, 1) ⟨by dsimp only; omega, hil, hZ, rfl, by dsimp only [List.length_cons, List.length_nil]; omega⟩ ⟨(by first | with_reducible exact CellLe.refl _ | exact CellLe.own | exact CellLe.i (by omega) | exact CellLe.nil | exact CellLe.slNil | exact CellLe.refl _), (by first | with_reducible exact CellLe.refl _ | exact CellLe.own | exact CellLe.i (by omega) | exact CellLe.nil | exact CellLe.slNil | exact CellLe.refl _), (by first | with_reducible exact CellLe.refl _ | exact CellLe.own | exact CellLe.i (by omega) | exact CellLe.nil | exact CellLe.slNil | exact CellLe.refl _), trivial⟩ ?_ ?_
  · conv => whnf
    refine PP.start ?_; repeat (first | exact PP.nil | refine PP.take (by first | with_reducible exact Hp.Sub.refl _ | exact Hp.Sub.rd (by omega) | exact Hp.Sub.rowA rfl (fun i j hi hj => by rcases (by omega : i = 0) with rfl; rcases (by omega : j = 0) with rfl; rfl) | exact Hp.Sub.boxA (by (repeat (first | exact all_lt_zero | refine all_lt_succ (p := fun j => CellLe _ _) (by first | with_reducible exact CellLe.refl _ | exact CellLe.own | exact CellLe.i (by omega) | exact CellLe.nil | exact CellLe.slNil | exact CellLe.refl _) ?_))) | exact Hp.Sub.refl _) ?_ | refine PP.skip ?_)
  conv => whnf
  rintro ⟨e, s, acc, A, n, cp⟩ ⟨hew, hs, hch, hn, hacc⟩
  dsimp only at hew hs hch hn hacc ⊢
  subst hn
  have hB : ∀ q : Nat, q < vs.length → SRet Tryd.prog 90 [isl (idxTo (pst vs s) vs.length), .i q] (· = .tup 2 (litF [.i ((idxTo (pst vs s) vs.length).countP fun y => decide (y < (q : Int))), .b (rg (pst vs s) q)])) := fun q hq => by rw [← contains_idx hq]; exact bins_c _ _ (by have := idx_len (R := pst vs s) (k := vs.length); omega) idx_sorted
  cases e with
  | zero =>
    conv => whnf
    repeat' (first | (with_reducible first | refine HT.seq ?_ | refine HT.block ?_ | refine Br.not ?_) | ((with_reducible first | refine HT.region tt_ok ?_ | refine HT.drawn tt_ok (by kernel_rfl) (by decide +kernel) ?_ | refine HT.drawnL tt_ok (by kernel_rfl) (by decide +kernel) ?_ | refine HT.cond ?_ | refine HT.ret ?_ | refine HT.skip ?_ | refine HT.exit ?_ | refine Br.tt ?_ | refine Br.ff ?_); conv => whnf) | ((with_reducible first | refine Br.dec (fun hc => ?_) (fun hc => ?_) | refine Br.eq (fun hc => ?_) (fun hc => ?_) | refine Br.ne (fun hc => ?_) (fun hc => ?_)) <;> (first | (exfalso; omega) | conv => whnf)) | ((with_reducible first | refine Br.ttE (by decide) ?_ | refine Br.ffE (by decide) ?_ | refine Br.mk (fun hc => ?_) (fun hc => ?_) | refine Chk.mk (by first | omega | with_reducible rfl | (refine ⟨rfl, ?_⟩; omega) | decide | exact ⟨rfl, by omega, by omega, rfl⟩ | exact ⟨by assumption, rfl, by omega, by omega⟩) ?_ | refine Ar.fit (by omega) ?_ | refine Eqv.shr1 ?_ | refine Ar.u64 (by omega) ?_) <;> conv => whnf) | ((first | (refine CallN.turn1 111 _ _ rfl rfl (fun _ _ _ _ h => by cases h) (rev_c acc A cp (by omega)) ?_; rintro r N p' ⟨rfl, rfl, rfl⟩)) <;> conv => whnf) | (with_reducible exact trivial) | ((with_reducible refine And.intro ?_ ?_) <;> conv => whnf) | (intro gn; conv => whnf))
    all_goals exact Fin.gxL (l := acc.reverse) (by refine PP.start ?_; repeat (first | exact PP.nil | refine PP.take (by first | with_reducible exact Hp.Sub.refl _ | exact Hp.Sub.rd (by omega) | exact Hp.Sub.boxA (by (repeat (first | exact all_lt_zero | refine all_lt_succ (p := fun j => CellLe _ _) (by first | with_reducible exact CellLe.refl _ | exact CellLe.own | exact CellLe.i (by omega) | exact CellLe.nil | exact CellLe.slNil | exact CellLe.refl _) ?_))) | exact Hp.Sub.refl _) ?_ | refine PP.skip ?_)) (by simp) (by show isl acc.reverse = isl (chS vs ls last w j); unfold chS; rw [hZ, ← hch]; rfl)
  | succ e =>
    conv => whnf
    repeat' (first | (with_reducible first | refine HT.seq ?_ | refine HT.block ?_ | refine Br.not ?_) | ((with_reducible first | refine HT.region tt_ok ?_ | refine HT.drawn tt_ok (by kernel_rfl) (by decide +kernel) ?_ | refine HT.drawnL tt_ok (by kernel_rfl) (by decide +kernel) ?_ | refine HT.cond ?_ | refine HT.ret ?_ | refine HT.skip ?_ | refine HT.exit ?_ | refine Br.tt ?_ | refine Br.ff ?_); conv => whnf) | ((with_reducible first | refine Br.dec (fun hc => ?_) (fun hc => ?_) | refine Br.eq (fun hc => ?_) (fun hc => ?_) | refine Br.ne (fun hc => ?_) (fun hc => ?_)) <;> (first | (exfalso; omega) | conv => whnf)) | ((with_reducible first | refine Br.ttE (by decide) ?_ | refine Br.ffE (by decide) ?_ | refine Br.mk (fun hc => ?_) (fun hc => ?_) | refine Chk.mk (by first | omega | with_reducible rfl | (refine ⟨rfl, ?_⟩; omega) | decide | exact ⟨rfl, by omega, by omega, rfl⟩ | exact ⟨by assumption, rfl, by omega, by omega⟩) ?_ | refine Ar.fit (by omega) ?_ | refine Eqv.shr1 ?_ | refine Ar.u64 (by omega) ?_) <;> conv => whnf) | ((first | (refine CallN.gl rfl rfl rfl (ldrA_c u ad c vs ls _ hok hl) ?_; rintro r (⟨hr2, rfl⟩ | ⟨hr2, ⟨hj2, rfl⟩ | ⟨q, hj2, rfl⟩⟩)) | (refine CallN.ret1 (hB q (fd_some hj2).1) ?_) | (refine CallN.ret1 (pastA_c ad c vs q hcm hG (fd_some hj2).1 hv) ?_) | (refine CallN.keep 803 (.cust (erC u)) _ rfl (by simp) (isN2_c u) ?_; rintro r rfl) | (refine CallN.keep 803 (.cust (erC u)) _ rfl (by simp) (isS2_c u) ?_; rintro r rfl)) <;> conv => whnf) | (with_reducible exact trivial) | ((with_reducible refine And.intro ?_ ?_) <;> conv => whnf) | (intro gn; conv => whnf))
    all_goals (try (exfalso; omega))
    all_goals first
      | (have hn := hj2; rw [hld _ (by omega)] at hn
         have hq := chn_no (s := s) (acc := acc) hn
         exact ⟨⟨(e, s, acc, A, acc.length, cp), ⟨by dsimp only; omega, hs, hq.symm.trans hch, rfl, by dsimp only; omega⟩, by dsimp only; omega, (by repeat' (first | exact trivial | refine ⟨rfl, ?_⟩)), ⟨(by first | with_reducible exact CellLe.refl _ | exact CellLe.own | exact CellLe.i (by omega) | exact CellLe.nil | exact CellLe.slNil | exact CellLe.refl _), (by first | with_reducible exact CellLe.refl _ | exact CellLe.own | exact CellLe.i (by omega) | exact CellLe.nil | exact CellLe.slNil | exact CellLe.refl _), (by first | with_reducible exact CellLe.refl _ | exact CellLe.own | exact CellLe.i (by omega) | exact CellLe.nil | exact CellLe.slNil | exact CellLe.refl _), trivial⟩, HLe.pk (by (conv => whnf); (refine PP.start ?_; repeat (first | exact PP.nil | refine PP.take (by first | with_reducible exact Hp.Sub.refl _ | exact Hp.Sub.rd (by omega) | exact Hp.Sub.boxA (by (repeat (first | exact all_lt_zero | refine all_lt_succ (p := fun j => CellLe _ _) (by first | with_reducible exact CellLe.refl _ | exact CellLe.own | exact CellLe.i (by omega) | exact CellLe.nil | exact CellLe.slNil | exact CellLe.refl _) ?_))) | exact Hp.Sub.refl _) ?_ | refine PP.skip ?_)))⟩⟩)
      | (have hr : rg (pst vs s) q = false := by assumption
         have hn := hj2; rw [hld _ (by omega)] at hn
         have hq := chn_out (acc := acc) hn hr
         exact ⟨⟨(e, s, acc, A, acc.length, cp), ⟨by dsimp only; omega, hs, hq.symm.trans hch, rfl, by dsimp only; omega⟩, by dsimp only; omega, (by repeat' (first | exact trivial | refine ⟨rfl, ?_⟩)), ⟨(by first | with_reducible exact CellLe.refl _ | exact CellLe.own | exact CellLe.i (by omega) | exact CellLe.nil | exact CellLe.slNil | exact CellLe.refl _), (by first | with_reducible exact CellLe.refl _ | exact CellLe.own | exact CellLe.i (by omega) | exact CellLe.nil | exact CellLe.slNil | exact CellLe.refl _), (by first | with_reducible exact CellLe.refl _ | exact CellLe.own | exact CellLe.i (by omega) | exact CellLe.nil | exact CellLe.slNil | exact CellLe.refl _), trivial⟩, HLe.pk (by (conv => whnf); (refine PP.start ?_; repeat (first | exact PP.nil | refine PP.take (by first | with_reducible exact Hp.Sub.refl _ | exact Hp.Sub.rd (by omega) | exact Hp.Sub.boxA (by (repeat (first | exact all_lt_zero | refine all_lt_succ (p := fun j => CellLe _ _) (by first | with_reducible exact CellLe.refl _ | exact CellLe.own | exact CellLe.i (by omega) | exact CellLe.nil | exact CellLe.slNil | exact CellLe.refl _) ?_))) | exact Hp.Sub.refl _) ?_ | refine PP.skip ?_)))⟩⟩)
      | (have hr : rg (pst vs s) q = true := by assumption
         have hn := hj2; rw [hld _ (by omega)] at hn
         have hq := chn_in (acc := acc) hn hr
         rename_i A2
         exact ⟨⟨(e, q, acc ++ [((last + (e + 1) : Nat) : Int)], A2, acc.length + 1, gn), ⟨by dsimp only; omega, (fd_some hj2).1, hq.symm.trans hch, by dsimp only; rw [List.length_append]; rfl, by dsimp only; rw [List.length_append]; simp; omega⟩, by dsimp only; omega, (by repeat' (first | exact trivial | refine ⟨rfl, ?_⟩)), ⟨(by first | with_reducible exact CellLe.refl _ | exact CellLe.own | exact CellLe.i (by omega) | exact CellLe.nil | exact CellLe.slNil | exact CellLe.refl _), (by first | with_reducible exact CellLe.refl _ | exact CellLe.own | exact CellLe.i (by omega) | exact CellLe.nil | exact CellLe.slNil | exact CellLe.refl _), (by first | with_reducible exact CellLe.refl _ | exact CellLe.own | exact CellLe.i (by omega) | exact CellLe.nil | exact CellLe.slNil | exact CellLe.refl _), trivial⟩, HLe.pk (by (conv => whnf); (refine PP.start ?_; repeat (first | exact PP.nil | refine PP.take (by first | with_reducible exact Hp.Sub.refl _ | exact Hp.Sub.rd (by omega) | exact Hp.Sub.rowA rfl (fun i j hi hj => cat_ints hi hj) | exact Hp.Sub.boxA (by (repeat (first | exact all_lt_zero | refine all_lt_succ (p := fun j => CellLe _ _) (by first | with_reducible exact CellLe.refl _ | exact CellLe.own | exact CellLe.i (by omega) | exact CellLe.nil | exact CellLe.slNil | exact CellLe.refl _) ?_))) | exact Hp.Sub.refl _) ?_ | refine PP.skip ?_)))⟩⟩)
      | trace_state
  ⟩
end Go.Proofs.YtpmhikdefbcofaaDoor
/-! YtpmhikdefbcofaaDoorEy -/
set_option linter.all false
namespace Go.Proofs.YtpmhikdefbcofaaDoor
open Go.RowKit

theorem take_lk {k : Nat} {L : Hpl} {p : Hp} (h : lk k L = p) (hp : p ≠ .emp) : (.emp :: L.map Prod.snd).Perm (p :: (setK k .emp L).map Prod.snd) := by
  have hk : hasK k L = true := hasK_of (by rw [h]; exact hp)
  have q1 : (L.map Prod.snd).Perm (p :: offK k L) := by have := lk_perm hk; rwa [h] at this
  have q2 : ((setK k .emp L).map Prod.snd).Perm (.emp :: offK k L) := setK_perm hk
  exact ((q1.cons _).trans (List.Perm.swap _ _ _)).trans (q2.symm.cons _)
theorem CallN.gx {P : Program} {f : FuncId} {ss : List SV} {L : Hpl} {nx : Nat} {K : KK} {u : Ers} {Φ : SV → Prop} (h0 : lk 800 L = erH 0 u.y0 u.t0 u.v0) (h1 : lk 801 L = erH 1 u.y1 u.t1 u.v1) (h2 : lk 802 L = erH 2 u.y2 u.t2 u.v2) (h3 : lk 803 L = .cust (erC u))
    (h : SGx P u f ss Φ) (k : ∀ r, Φ r → K (r.lift nx) L (nx + 10)) : CallN P f ss L nx K := by
  have q3 := take_lk h3 (by simp)
  have e2 : lk 802 (setK 803 .emp L) = erH 2 u.y2 u.t2 u.v2 := by rw [lk_setK_self_ne (by decide)]; exact h2
  have q2 := take_lk e2 (Hp.ne_emp rfl)
  have e1 : lk 801 (setK 802 .emp (setK 803 .emp L)) = erH 1 u.y1 u.t1 u.v1 := by rw [lk_setK_self_ne (by decide), lk_setK_self_ne (by decide)]; exact h1
  have q1 := take_lk e1 (Hp.ne_emp rfl)
  have e0 : lk 800 (setK 801 .emp (setK 802 .emp (setK 803 .emp L))) = erH 0 u.y0 u.t0 u.v0 := by rw [lk_setK_self_ne (by decide), lk_setK_self_ne (by decide), lk_setK_self_ne (by decide)]; exact h0
  have q0 := take_lk e0 (Hp.ne_emp rfl)
  generalize (setK 800 .emp (setK 801 .emp (setK 802 .emp (setK 803 .emp L)))).map Prod.snd = rest at q0
  have hall : (.emp :: .emp :: .emp :: .emp :: L.map Prod.snd).Perm ([erH 0 u.y0 u.t0 u.v0, erH 1 u.y1 u.t1 u.v1, erH 2 u.y2 u.t2 u.v2, .cust (erC u)] ++ rest) := by
    have a3 : ((.emp : Hp) :: .emp :: .emp :: .emp :: L.map Prod.snd).Perm (.cust (erC u) :: .emp :: .emp :: .emp :: (setK 803 .emp L).map Prod.snd) := (((q3.cons _).cons _).cons _).trans ((@List.perm_middle Hp (Hp.cust (erC u)) [Hp.emp, Hp.emp, Hp.emp] _ : _))
    have a2 : ((.emp : Hp) :: .emp :: .emp :: (setK 803 .emp L).map Prod.snd).Perm (erH 2 u.y2 u.t2 u.v2 :: .emp :: .emp :: (setK 802 .emp (setK 803 .emp L)).map Prod.snd) := ((q2.cons _).cons _).trans (@List.perm_middle Hp (erH 2 u.y2 u.t2 u.v2) [Hp.emp, Hp.emp] _)
    have a1 : ((.emp : Hp) :: .emp :: (setK 802 .emp (setK 803 .emp L)).map Prod.snd).Perm (erH 1 u.y1 u.t1 u.v1 :: .emp :: (setK 801 .emp (setK 802 .emp (setK 803 .emp L))).map Prod.snd) := (q1.cons _).trans (@List.perm_middle Hp (erH 1 u.y1 u.t1 u.v1) [Hp.emp] _)
    have a := a3.trans ((a2.trans ((a1.trans (q0.cons _)).cons _)).cons _)
    exact a.trans ((List.reverse_perm [erH 0 u.y0 u.t0 u.v0, erH 1 u.y1 u.t1 u.v1, erH 2 u.y2 u.t2 u.v2, .cust (erC u)]).append_right rest)
  have key : SCalls P f ss (.emp :: .emp :: .emp :: .emp :: L.map Prod.snd) fun r H => Φ r ∧ H = [erH 0 u.y0 u.t0 u.v0, erH 1 u.y1 u.t1 u.v1, erH 2 u.y2 u.t2 u.v2, .cust (erC u)] ++ rest := by
    refine SCalls.perm hall ?_
    refine (SCalls.frame (A := [erH 0 u.y0 u.t0 u.v0, erH 1 u.y1 u.t1 u.v1, erH 2 u.y2 u.t2 u.v2, .cust (erC u)]) (H := rest) (K := fun r H => Φ r ∧ H = [erH 0 u.y0 u.t0 u.v0, erH 1 u.y1 u.t1 u.v1, erH 2 u.y2 u.t2 u.v2, .cust (erC u)] ++ rest) fun R => (h.h R).mono fun r H' ⟨e, hΦ⟩ => ⟨[erH 0 u.y0 u.t0 u.v0, erH 1 u.y1 u.t1 u.v1, erH 2 u.y2 u.t2 u.v2, .cust (erC u)], e, hΦ, rfl⟩).mono ?_
    rintro r H' ⟨hΦ, rfl⟩
    exact ⟨_, List.Perm.refl _, hΦ, rfl⟩
  have addE : ∀ {w : World} {F : Nat → Prop} {l : List Hp}, HSat w F l → HSat w F (.emp :: l) := fun hs =>
    hs.cons (Nat.le_refl _) (fun _ _ => rfl) trivial fun _ hb => hb.elim
  refine .gen ((SCalls.le (fun w F hs => addE (addE (addE (addE hs)))) key).post ?_)
  rintro r H' ⟨hΦ, rfl⟩
  exact ⟨r, L.map Prod.snd, fun w F v hs hv => ⟨F, fun _ h => h, (hs.perm hall.symm).tail.tail.tail.tail, hv⟩, L, rfl, fun _ _ _ _ _ _ h => h, k r hΦ⟩
end Go.Proofs.YtpmhikdefbcofaaDoor
