/- Texts of this proof put together: Ex, Mk, Dr, Ra. -/
import Derived.Deep.Slices
import Derived.Test.YtcagfmbboliohaaP01
import Derived.Test.YtcagfmbboliohaaP02
import Derived.Test.YtcagfmbboliohaaP03
import Derived.Test.YtcagfmbboliohaaP04
import Derived.Test.YtcagfmbboliohaaP05
import Derived.Test.YtcagfmbboliohaaP06
import Derived.Test.YtcagfmbboliohaaP07
import Derived.Test.YtcagfmbboliohaaP08
/-! YtcagfmbboliohaaEx -/
set_option linter.all false
namespace Go.Proofs.Ytcagfmbboliohaa
open Go.ChangeShapes Go.WideShapes Go.RowKit

section
variable {H : Type} {enc : TypeId × Value → H} {base : Nat}

/-- these cells read as data of this type -/
def Td (enc : TypeId × Value → H) (W : World) (t : TypeId) (cs : List Value) : Prop := ∃ fuel x, DataW.trod enc Try.prog W 0 (fun _ => true) true fuel t cs = some x
abbrev allF (W : World) : Nat → Prop := fun b => b < W.heap.size
/-- cells, told one by one -/
def Cls (W : World) (sz : Nat) (f : Nat → SV) (cs : List Value) : Prop := cs.length = sz ∧ ∀ j, j < sz → (cs.getD j undef).oneCell' = true ∧ Has W (allF W) (f j) (cs.getD j undef)
def IR (n : Int) : Prop := -9223372036854775808 ≤ n ∧ n ≤ 9223372036854775807

theorem td_int {W : World} {t : TypeId} {cs : List Value} (ht : Try.prog.underlying t = some (.int .i64)) (h : Td enc W t cs) : ∃ n, IR n ∧ cs = [.int .i64 n] := by
  obtain ⟨fuel, x, h⟩ := h
  obtain ⟨n, e, _, hw⟩ := DataW.trod_int ht h
  refine ⟨n, ?_, e⟩
  simp [Lit.wf, IntKind.min, IntKind.max, IntKind.signed, IntKind.bits] at hw
  exact hw
theorem td_bool {W : World} {t : TypeId} {cs : List Value} (ht : Try.prog.underlying t = some .bool) (h : Td enc W t cs) : ∃ b, cs = [.bool b] := by
  obtain ⟨fuel, x, h⟩ := h
  cases fuel with
  | zero => simp [DataW.trod] at h
  | succ n =>
    unfold DataW.trod at h
    rw [ht] at h
    split at h <;> simp_all
theorem Cls.one {W : World} {s : SV} {v : Value} (h1 : v.oneCell' = true) (h : Has W (allF W) s v) : Cls W 1 (fun _ => s) [v] := ⟨rfl, fun j hj => by
  obtain rfl : j = 0 := by omega
  exact ⟨h1, h⟩⟩
theorem td_slice {α : Type} [Inhabited α] {W : World} (en : α → Nat → SV) (ok : α → Prop) {t e : TypeId} {sz : Nat} (ht : Try.prog.underlying t = some (.slice e)) (hc : Try.prog.cellsOf e = sz) (h0 : 0 < sz)
    (hel : ∀ cs, Td enc W e cs → ∃ a, ok a ∧ Cls W sz (en a) cs) {cs : List Value} (h : Td enc W t cs) : ∃ (l : List α) (v : Value), (∀ a ∈ l, ok a) ∧ l.length ≤ 9223372036854775807 ∧ cs = [v] ∧ v.oneCell' = true ∧ Has W (allF W) (.sl sz l.length (rowF en l)) v := by
  obtain ⟨fuel, x, h⟩ := h
  rcases Deep.open_slice ht h with ⟨rfl, _⟩ | ⟨a, len, cap, m, n, D, Pl, rfl, hb, hl, hm, hmm, _, hx⟩
  · exact ⟨[], _, by simp, by simp, rfl, rfl, none, 0, rfl, Nat.le_refl _, Nat.zero_le _, fun h => absurd h (by simp)⟩
  · have hlm : len ≤ m := by rw [hmm]; simp; omega
    obtain ⟨F, hF⟩ := Deep.choose_lt (α := α) (n := len) (p := fun i y => ok y ∧ ∀ j, j < sz → ∃ u, W.cell? ((a.add (i * sz)).add j) = some u ∧ u.oneCell' = true ∧ Has W (allF W) (en y j) u) (fun i hi => by
      obtain ⟨cs', h1, h2⟩ := hx i (by omega)
      rw [hc] at h1
      obtain ⟨y, hy, hlen, hcl⟩ := hel cs' ⟨_, _, h2⟩
      refine ⟨y, hy, fun j hj => ?_⟩
      have := (World.cells?_some h1).2.2 j hj
      refine ⟨cs'.getD j undef, ?_, hcl j hj⟩
      rw [this, List.getD_eq_getElem?_getD, List.getElem?_eq_getElem (by omega)]
      rfl)
    have hlen : ((List.range len).map F).length = len := by simp
    have hget : ∀ i, i < len → ((List.range len).map F).getD i default = F i := fun i hi => by simp [List.getD_eq_getElem?_getD, hi]
    refine ⟨(List.range len).map F, _, fun y hy => ?_, by rw [hlen]; unfold maxLen at hm; omega, rfl, rfl, some a, cap, by rw [hlen], by rw [hlen]; exact hl, hm, fun hp => ?_⟩
    · obtain ⟨i, hi, rfl⟩ := List.mem_map.1 hy
      exact (hF i (List.mem_range.1 hi)).1
    · rw [hlen] at hp
      obtain ⟨u0, hu0, _, _⟩ := (hF 0 hp).2 0 h0
      have hs : a.spot = none := by
        have := World.cell?_spot hu0
        simpa [Addr.add] using this
      obtain ⟨b, off, sp⟩ := a
      simp only at hs
      subst hs
      refine ⟨b, off, rfl, ?_, fun i k hi hk => ?_⟩
      · rcases Nat.lt_or_ge b W.heap.size with hlt | hge
        · exact hlt
        · rw [addr_add', addr_add'] at hu0
          simp [World.cell?, Array.getElem?_eq_none hge] at hu0
      · rw [hlen] at hi
        obtain ⟨u, hu, h1, h2⟩ := (hF i hi).2 k hk
        rw [addr_add', addr_add', Nat.add_assoc] at hu
        refine ⟨u, hu, h1, ?_⟩
        show Has W (allF W) (en (((List.range len).map F).getD i default) k) u
        rw [hget i hi]
        exact h2
/-- a field of a struct -/
theorem td_field {W : World} {t : TypeId} {fs : Array Field} {cs : List Value} (ht : Try.prog.underlying t = some (.struct fs)) (h : Td enc W t cs) : cs.length = Try.prog.cellsOf t ∧ ∀ (i : Nat) (f : Field), fs[i]? = some f → Td enc W f.type ((cs.drop f.offset).take (Try.prog.cellsOf f.type)) := by
  obtain ⟨fuel, x, h⟩ := h
  obtain ⟨xs, n, _, _, hl, hx, hf⟩ := DataW.trod_struct ht h
  refine ⟨hl, fun i f hi => ?_⟩
  have hlt : i < fs.size := (Array.getElem?_eq_some_iff.1 hi).1
  have := hf i f hi
  rw [List.getElem?_eq_getElem (by omega)] at this
  exact ⟨n, _, this⟩
theorem td_at {W : World} {t : TypeId} {fs : Array Field} {cs : List Value} (ht : Try.prog.underlying t = some (.struct fs)) (h : Td enc W t cs) (i : Nat) {f : Field} (hi : fs[i]? = some f) (o n : Nat) (ft : TypeId) (ho : f.offset = o) (hft : f.type = ft) (hc : Try.prog.cellsOf ft = n) : Td enc W ft ((cs.drop o).take n) := by
  have := (td_field ht h).2 i f hi
  rwa [ho, hft, hc] at this
/-- a list of ints that came in -/
theorem td_ints {W : World} {t e : TypeId} {cs : List Value} (ht : Try.prog.underlying t = some (.slice e)) (he : Try.prog.underlying e = some (.int .i64)) (hc : Try.prog.cellsOf e = 1) (h : Td enc W t cs) : ∃ (l : List Int) (v : Value), (∀ a ∈ l, IR a) ∧ l.length ≤ 9223372036854775807 ∧ cs = [v] ∧ v.oneCell' = true ∧ Has W (allF W) (isl l) v :=
  td_slice (W := W) intF IR ht hc (by omega) (fun cs h => by
    obtain ⟨n, hn, rfl⟩ := td_int he h
    exact ⟨n, hn, Cls.one rfl rfl⟩) h
set_option maxRecDepth 100000 in
/-- arguments -/
theorem arg_ints {W : World} {t e : TypeId} {v : Value} {d : DataW H} {p : List MemPlace} (ht : Try.prog.underlying t = some (.slice e)) (he : Try.prog.underlying e = some (.int .i64)) (hc : Try.prog.cellsOf e = 1) (hv : Value.okWide Try.prog W .any base t v) (h : DataW.Trod enc Try.prog W 0 (fun _ => true) true t v d p) : ∃ (l : List Int), (∀ a ∈ l, IR a) ∧ l.length ≤ 9223372036854775807 ∧ Has W (allF W) (isl l) v := by
  obtain ⟨a0, len, cap, rfl⟩ := okWide_slice ht hv
  obtain ⟨fuel, h⟩ := h
  obtain ⟨l, v, h1, h2, h3, _, h4⟩ := td_ints ht he hc ⟨fuel, _, h⟩
  simp [Value.cells] at h3
  subst h3
  exact ⟨l, h1, h2, h4⟩
set_option maxRecDepth 100000 in
theorem arg_int {W : World} {t : TypeId} {v : Value} {d : DataW H} {p : List MemPlace} (ht : Try.prog.underlying t = some (.int .i64)) (hv : Value.okWide Try.prog W .any base t v) (h : DataW.Trod enc Try.prog W 0 (fun _ => true) true t v d p) : ∃ n, IR n ∧ Has W (allF W) (.i n) v := by
  obtain ⟨n, rfl⟩ := okWide_int ht hv
  obtain ⟨fuel, h⟩ := h
  obtain ⟨m, hm, e⟩ := td_int ht ⟨fuel, _, h⟩
  simp [Value.cells] at e
  subst e
  exact ⟨n, hm, rfl⟩
set_option maxRecDepth 100000 in
theorem arg_slice {α : Type} [Inhabited α] {W : World} (en : α → Nat → SV) (ok : α → Prop) {t e : TypeId} {sz : Nat} {v : Value} {d : DataW H} {p : List MemPlace} (ht : Try.prog.underlying t = some (.slice e)) (hc : Try.prog.cellsOf e = sz) (h0 : 0 < sz)
    (hel : ∀ cs, Td enc W e cs → ∃ a, ok a ∧ Cls W sz (en a) cs) (hv : Value.okWide Try.prog W .any base t v) (h : DataW.Trod enc Try.prog W 0 (fun _ => true) true t v d p) : ∃ (l : List α), (∀ a ∈ l, ok a) ∧ l.length ≤ 9223372036854775807 ∧ Has W (allF W) (.sl sz l.length (rowF en l)) v := by
  obtain ⟨a0, len, cap, rfl⟩ := okWide_slice ht hv
  obtain ⟨fuel, h⟩ := h
  obtain ⟨l, v, h1, h2, h3, _, h4⟩ := td_slice en ok ht hc h0 hel ⟨fuel, _, h⟩
  simp [Value.cells] at h3
  subst h3
  exact ⟨l, h1, h2, h4⟩
set_option maxRecDepth 100000 in
theorem arg_struct {α : Type} {W : World} (en : α → Nat → SV) (ok : α → Prop) {t : TypeId} {fs : Array Field} {sz : Nat} {v : Value} {d : DataW H} {p : List MemPlace} (ht : Try.prog.underlying t = some (.struct fs)) (hel : ∀ cs, Td enc W t cs → ∃ a, ok a ∧ Cls W sz (en a) cs) (hv : Value.okWide Try.prog W .any base t v) (h : DataW.Trod enc Try.prog W 0 (fun _ => true) true t v d p) :
    ∃ a : α, ok a ∧ Has W (allF W) (.agg sz (en a)) v := by
  obtain ⟨vs, rfl, _⟩ := okWide_struct ht hv
  obtain ⟨fuel, h⟩ := h
  obtain ⟨a, h1, h2, h3⟩ := hel _ ⟨fuel, _, h⟩
  refine ⟨a, h1, vs, rfl, by simpa [Value.cells] using h2, fun k hk => ?_⟩
  have := (h3 k hk).2
  simpa [Value.cells] using this
end
theorem trodAll_four {H : Type} {enc : TypeId × Value → H} {P : Program} {w : World} {base : Nat} {spare : Nat → Bool} {held : Bool} {t0 t1 t2 t3 : TypeId} {vs : List Value} {d0 d1 d2 d3 : DataW H} {ps : List MemPlace} (h : DataW.TrodAll enc P w base spare held [t0, t1, t2, t3] vs [d0, d1, d2, d3] ps) :
    ∃ v0 v1 v2 v3 p0 p1 p2 p3, vs = [v0, v1, v2, v3] ∧ DataW.Trod enc P w base spare held t0 v0 d0 p0 ∧ DataW.Trod enc P w base spare held t1 v1 d1 p1 ∧ DataW.Trod enc P w base spare held t2 v2 d2 p2 ∧ DataW.Trod enc P w base spare held t3 v3 d3 p3 := by
  match vs, h with
  | [], h => exact h.elim
  | v0 :: vs, ⟨p0, q0, h0, h, _⟩ =>
    match vs, h with
    | [], h => exact h.elim
    | v1 :: vs, ⟨p1, q1, h1, h, _⟩ =>
      match vs, h with
      | [], h => exact h.elim
      | v2 :: vs, ⟨p2, q2, h2, h, _⟩ =>
        match vs, h with
        | [], h => exact h.elim
        | v3 :: vs, ⟨p3, q3, h3, h, _⟩ =>
          match vs, h with
          | [], _ => exact ⟨v0, v1, v2, v3, p0, p1, p2, p3, rfl, h0, h1, h2, h3⟩
          | _ :: _, h => exact h.elim
theorem trodAll_three {H : Type} {enc : TypeId × Value → H} {P : Program} {w : World} {base : Nat} {spare : Nat → Bool} {held : Bool} {t0 t1 t2 : TypeId} {vs : List Value} {d0 d1 d2 : DataW H} {ps : List MemPlace} (h : DataW.TrodAll enc P w base spare held [t0, t1, t2] vs [d0, d1, d2] ps) :
    ∃ v0 v1 v2 p0 p1 p2, vs = [v0, v1, v2] ∧ DataW.Trod enc P w base spare held t0 v0 d0 p0 ∧ DataW.Trod enc P w base spare held t1 v1 d1 p1 ∧ DataW.Trod enc P w base spare held t2 v2 d2 p2 := by
  match vs, h with
  | [], h => exact h.elim
  | v0 :: vs, ⟨p0, q0, h0, h, _⟩ =>
    match vs, h with
    | [], h => exact h.elim
    | v1 :: vs, ⟨p1, q1, h1, h, _⟩ =>
      match vs, h with
      | [], h => exact h.elim
      | v2 :: vs, ⟨p2, q2, h2, h, _⟩ =>
        match vs, h with
        | [], _ => exact ⟨v0, v1, v2, p0, p1, p2, rfl, h0, h1, h2⟩
        | _ :: _, h => exact h.elim
theorem trodAll_len {H : Type} {enc : TypeId × Value → H} {P : Program} {w : World} {base : Nat} {spare : Nat → Bool} {held : Bool} : ∀ {ts : List TypeId} {vs : List Value} {ds : List (DataW H)} {ps : List MemPlace}, DataW.TrodAll enc P w base spare held ts vs ds ps → ds.length = ts.length
  | [], [], [], _, _ => rfl
  | _ :: _, _ :: _, _ :: _, _, ⟨_, _, _, h, _⟩ => congrArg (· + 1) (trodAll_len h)
  | [], _ :: _, _, _, h => h.elim
  | [], [], _ :: _, _, h => h.elim
  | _ :: _, [], _, _, h => h.elim
  | _ :: _, _ :: _, [], _, h => h.elim
end Go.Proofs.Ytcagfmbboliohaa
/-! YtcagfmbboliohaaMk -/
namespace Go.Proofs.Ytcagfmbboliohaa

/-- the digest of two digests -/
def hp (a b : Int) : Int := (31 * a + 17 * b + 5).tmod 991
abbrev isD (z : Int) : Prop := 0 ≤ z ∧ z < 991
theorem hp_emod {a b : Int} (ha : 0 ≤ a) (hb : 0 ≤ b) : hp a b = (31 * a + 17 * b + 5) % 991 := Int.tmod_eq_emod_of_nonneg (by omega)
theorem hp_d {a b : Int} (ha : isD a) (hb : isD b) : isD (hp a b) := by rw [hp_emod ha.1 hb.1]; omega
theorem hp_inj1 {a a' b : Int} (ha : isD a) (ha' : isD a') (hb : isD b) (h : hp a b = hp a' b) : a = a' := by
  rw [hp_emod ha.1 hb.1, hp_emod ha'.1 hb.1] at h; omega
theorem hp_inj2 {a b b' : Int} (ha : isD a) (hb : isD b) (hb' : isD b') (h : hp a b = hp a b') : b = b' := by
  rw [hp_emod ha.1 hb.1, hp_emod ha.1 hb'.1] at h; omega
/-- the other node of a pair -/
def sib (i : Nat) : Nat := if i % 2 = 0 then i + 1 else i - 1
/-- the next level -/
def upL : List Int → List Int
  | a :: b :: l => hp a b :: upL l
  | l => l
theorem upL_len : ∀ {l : List Int}, (upL l).length = (l.length + 1) / 2
  | [] => rfl
  | [_] => by simp [upL]
  | a :: b :: l => by
    rw [upL, List.length_cons, upL_len, List.length_cons, List.length_cons]
    omega
theorem upL_two : ∀ {l : List Int} {i : Nat}, 2 * i + 1 < l.length → (upL l).getD i default = hp (l.getD (2 * i) default) (l.getD (2 * i + 1) default)
  | [], i, h => absurd h (by simp)
  | [_], i, h => absurd h (by simp)
  | a :: b :: l, 0, _ => rfl
  | a :: b :: l, i + 1, h => by
    have hl : 2 * i + 1 < l.length := by simp only [List.length_cons] at h; omega
    have ih := upL_two (l := l) (i := i) hl
    rw [upL, List.getD_cons_succ, ih, show 2 * (i + 1) = 2 * i + 1 + 1 by omega, List.getD_cons_succ, List.getD_cons_succ, List.getD_cons_succ, List.getD_cons_succ]
theorem upL_one : ∀ {l : List Int} {i : Nat}, 2 * i + 1 = l.length → (upL l).getD i default = l.getD (2 * i) default
  | [], i, h => absurd h (by simp)
  | [a], i, h => by
    have : i = 0 := by simp only [List.length_cons, List.length_nil] at h; omega
    subst this; rfl
  | a :: b :: l, 0, h => absurd h (by simp)
  | a :: b :: l, i + 1, h => by
    have hl : 2 * i + 1 = l.length := by simp only [List.length_cons] at h; omega
    have ih := upL_one (l := l) (i := i) hl
    rw [upL, List.getD_cons_succ, ih, show 2 * (i + 1) = 2 * i + 1 + 1 by omega, List.getD_cons_succ, List.getD_cons_succ]
def allD (l : List Int) : Prop := ∀ z ∈ l, isD z
theorem allD.getD {l : List Int} (h : allD l) {i : Nat} (hi : i < l.length) : isD (l.getD i default) := by
  rw [List.getD_eq_getElem?_getD, List.getElem?_eq_getElem hi]
  exact h _ (List.getElem_mem hi)
theorem allD.up : ∀ {l : List Int}, allD l → allD (upL l)
  | [], h => h
  | [_], h => h
  | a :: b :: l, h => fun z hz => by
    rw [upL] at hz
    rcases List.mem_cons.1 hz with rfl | hz
    · exact hp_d (h a (by simp)) (h b (by simp))
    · exact allD.up (l := l) (fun y hy => h y (by simp [hy])) z hz
/-- the proof of a leaf -/
def prf (l : List Int) (i : Nat) : List Int := if l.length ≤ 1 then [] else (if sib i < l.length then [l.getD (sib i) default] else []) ++ prf (upL l) (i / 2)
termination_by l.length
decreasing_by rw [upL_len]; omega
theorem prf_one {l : List Int} {i : Nat} (h : l.length ≤ 1) : prf l i = [] := by rw [prf, if_pos h]
theorem prf_in {l : List Int} {i : Nat} (h : ¬ l.length ≤ 1) (hs : sib i < l.length) : prf l i = l.getD (sib i) default :: prf (upL l) (i / 2) := by rw [prf, if_neg h, if_pos hs]; rfl
theorem prf_out {l : List Int} {i : Nat} (h : ¬ l.length ≤ 1) (hs : ¬ sib i < l.length) : prf l i = prf (upL l) (i / 2) := by rw [prf, if_neg h, if_neg hs]; rfl
def rootL (l : List Int) : Int := if l.length ≤ 1 then l.getD 0 default else rootL (upL l)
termination_by l.length
decreasing_by rw [upL_len]; omega
theorem rootL_one {l : List Int} (h : l.length ≤ 1) : rootL l = l.getD 0 default := by rw [rootL, if_pos h]
theorem rootL_up {l : List Int} (h : ¬ l.length ≤ 1) : rootL l = rootL (upL l) := by rw [rootL, if_neg h]
/-- what a proof leads to, and what is left of it -/
def climb (size i : Nat) (n : Int) (pf : List Int) : Option (Int × List Int) :=
  if size ≤ 1 then some (n, pf) else if sib i < size then
    match pf with
    | [] => none
    | p :: r => climb ((size + 1) / 2) (i / 2) (if i % 2 = 0 then hp n p else hp p n) r
  else climb ((size + 1) / 2) (i / 2) n pf
termination_by size
theorem climb_one {size i : Nat} {n : Int} {pf : List Int} (h : size ≤ 1) : climb size i n pf = some (n, pf) := by rw [climb.eq_def, if_pos h]
theorem climb_out {size i : Nat} {n : Int} {pf : List Int} (h : ¬ size ≤ 1) (hs : ¬ sib i < size) : climb size i n pf = climb ((size + 1) / 2) (i / 2) n pf := by rw [climb.eq_def, if_neg h, if_neg hs]
theorem climb_nil {size i : Nat} {n : Int} (h : ¬ size ≤ 1) (hs : sib i < size) : climb size i n [] = none := by rw [climb.eq_def, if_neg h, if_pos hs]
theorem climb_in {size i : Nat} {n p : Int} {r : List Int} (h : ¬ size ≤ 1) (hs : sib i < size) : climb size i n (p :: r) = climb ((size + 1) / 2) (i / 2) (if i % 2 = 0 then hp n p else hp p n) r := by rw [climb.eq_def, if_neg h, if_pos hs]
theorem climb_more {z : Int} : ∀ (size i : Nat) (n : Int) (pf : List Int) (v : Int) (r : List Int), climb size i n pf = some (v, r) → climb size i n (pf ++ [z]) = some (v, r ++ [z]) := by
  intro size
  induction size using Nat.strongRecOn with
  | _ size ih =>
    intro i n pf v r h
    by_cases h1 : size ≤ 1
    · rw [climb_one h1] at h ⊢
      injection h with h; injection h with h2 h3
      rw [h2, h3]
    by_cases hs : sib i < size
    · cases pf with
      | nil => rw [climb_nil h1 hs] at h; cases h
      | cons p q =>
        rw [climb_in h1 hs] at h
        rw [List.cons_append, climb_in h1 hs]
        exact ih _ (by omega) _ _ _ _ _ h
    · rw [climb_out h1 hs] at h ⊢
      exact ih _ (by omega) _ _ _ _ _ h
/-- a leaf's proof leads to the root; two digests in its place lead apart -/
theorem climb_prf : ∀ (m : Nat) (l : List Int) (i : Nat), l.length = m → allD l → i < l.length → ∃ f : Int → Int, (∀ n, climb l.length i n (prf l i) = some (f n, [])) ∧ f (l.getD i default) = rootL l ∧ ∀ a b, isD a → isD b → f a = f b → a = b := by
  intro m
  induction m using Nat.strongRecOn with
  | _ m ih =>
    rintro l i rfl hd hi
    by_cases h1 : l.length ≤ 1
    · refine ⟨fun n => n, fun n => ?_, ?_, fun a b _ _ h => h⟩
      · rw [climb_one h1, prf_one h1]
      · rw [rootL_one h1, show i = 0 by omega]
    have hul : (upL l).length = (l.length + 1) / 2 := upL_len
    obtain ⟨f, hf1, hf2, hf3⟩ := ih (upL l).length (by omega) (upL l) (i / 2) rfl hd.up (by omega)
    rw [hul] at hf1
    by_cases hs : sib i < l.length
    · have hp0 := hd.getD hs
      refine ⟨fun n => f (if i % 2 = 0 then hp n (l.getD (sib i) default) else hp (l.getD (sib i) default) n), fun n => ?_, ?_, fun a b ha hb h => ?_⟩
      · rw [prf_in h1 hs, climb_in h1 hs, hf1]
      · rw [rootL_up h1, ← hf2]
        show f _ = f _
        congr 1
        unfold sib at hs ⊢
        by_cases he : i % 2 = 0
        · rw [if_pos he] at hs
          rw [if_pos he, if_pos he, upL_two (by omega), show 2 * (i / 2) = i by omega]
        · rw [if_neg he, if_neg he, upL_two (by omega), show 2 * (i / 2) = i - 1 by omega, show i - 1 + 1 = i by omega]
      · by_cases he : i % 2 = 0
        · simp only [if_pos he] at h
          exact hp_inj1 ha hb hp0 (hf3 _ _ (hp_d ha hp0) (hp_d hb hp0) h)
        · simp only [if_neg he] at h
          exact hp_inj2 hp0 ha hb (hf3 _ _ (hp_d hp0 ha) (hp_d hp0 hb) h)
    · refine ⟨f, fun n => ?_, ?_, hf3⟩
      · rw [prf_out h1 hs, climb_out h1 hs, hf1]
      · rw [rootL_up h1, ← hf2]
        congr 1
        have he : i % 2 = 0 ∧ i + 1 = l.length := by
          unfold sib at hs
          by_cases he : i % 2 = 0
          · rw [if_pos he] at hs; omega
          · rw [if_neg he] at hs; omega
        rw [upL_one (by omega), show 2 * (i / 2) = i by omega]
theorem prf_d : ∀ (m : Nat) (l : List Int) (i : Nat), l.length = m → allD l → allD (prf l i) := by
  intro m
  induction m using Nat.strongRecOn with
  | _ m ih =>
    rintro l i rfl hd
    by_cases h1 : l.length ≤ 1
    · rw [prf_one h1]; intro z hz; cases hz
    have hul : (upL l).length = (l.length + 1) / 2 := upL_len
    have hr := ih (upL l).length (by omega) (upL l) (i / 2) rfl hd.up
    by_cases hs : sib i < l.length
    · rw [prf_in h1 hs]
      intro z hz
      rcases List.mem_cons.1 hz with rfl | hz
      · exact hd.getD hs
      · exact hr z hz
    · rw [prf_out h1 hs]; exact hr
theorem rootL_d : ∀ (m : Nat) (l : List Int), l.length = m → 0 < l.length → allD l → isD (rootL l) := by
  intro m
  induction m using Nat.strongRecOn with
  | _ m ih =>
    rintro l rfl h0 hd
    by_cases h1 : l.length ≤ 1
    · rw [rootL_one h1]; exact hd.getD h0
    · rw [rootL_up h1]
      have hul : (upL l).length = (l.length + 1) / 2 := upL_len
      exact ih _ (by omega) (upL l) rfl (by omega) hd.up
/-- the length of a proof -/
theorem prf_len : ∀ (m : Nat) (l : List Int) (i : Nat), l.length = m → (prf l i).length ≤ l.length := by
  intro m
  induction m using Nat.strongRecOn with
  | _ m ih =>
    rintro l i rfl
    by_cases h1 : l.length ≤ 1
    · rw [prf_one h1]; exact Nat.zero_le _
    have hul : (upL l).length = (l.length + 1) / 2 := upL_len
    have hr := ih (upL l).length (by omega) (upL l) (i / 2) rfl
    by_cases hs : sib i < l.length
    · rw [prf_in h1 hs, List.length_cons]; omega
    · rw [prf_out h1 hs]; omega
/-- the levels, one above the other -/
def lvl (l : List Int) : Nat → List Int
  | 0 => l
  | k + 1 => upL (lvl l k)
theorem lvl_d {l : List Int} (h : allD l) : ∀ k, allD (lvl l k)
  | 0 => h
  | k + 1 => (lvl_d h k).up
/-- the widths, one above the other -/
def wid (n : Nat) : Nat → Nat
  | 0 => n
  | k + 1 => (wid n k + 1) / 2
theorem lvl_len {l : List Int} : ∀ k, (lvl l k).length = wid l.length k
  | 0 => rfl
  | k + 1 => by rw [lvl, upL_len, lvl_len k]; rfl
/-- how many levels -/
def dep (n : Nat) : Nat := if n ≤ 1 then 1 else dep ((n + 1) / 2) + 1
termination_by n
theorem dep_one {n : Nat} (h : n ≤ 1) : dep n = 1 := by rw [dep, if_pos h]
theorem dep_up {n : Nat} (h : ¬ n ≤ 1) : dep n = dep ((n + 1) / 2) + 1 := by rw [dep, if_neg h]
theorem wid_dep : ∀ (n k : Nat), k < dep n → dep (wid n k) = dep n - k
  | n, 0, _ => rfl
  | n, k + 1, h => by
    have ih := wid_dep n k (by omega)
    show dep ((wid n k + 1) / 2) = _
    by_cases h1 : wid n k ≤ 1
    · rw [dep_one h1] at ih; omega
    · rw [dep_up h1] at ih; omega
theorem dep_pos {n : Nat} : 1 ≤ dep n := by
  by_cases h : n ≤ 1
  · rw [dep_one h]; exact Nat.le_refl _
  · rw [dep_up h]; omega
/-- the last level is reached when one node is left -/
theorem wid_last {n k : Nat} (h : k < dep n) : wid n k ≤ 1 ↔ k + 1 = dep n := by
  have hd := wid_dep n k h
  constructor
  · intro h1; rw [dep_one h1] at hd; omega
  · intro h1
    by_cases h2 : wid n k ≤ 1
    · exact h2
    · rw [dep_up h2] at hd
      have := dep_pos (n := (wid n k + 1) / 2)
      omega
theorem wid_pos {n : Nat} (h : 0 < n) : ∀ k, 0 < wid n k
  | 0 => h
  | k + 1 => by have := wid_pos h k; show 0 < (wid n k + 1) / 2; omega
theorem wid_le {n : Nat} : ∀ k, wid n k ≤ n
  | 0 => Nat.le_refl _
  | k + 1 => by have := wid_le (n := n) k; show (wid n k + 1) / 2 ≤ n; by_cases h : n = 0
                · omega
                · omega
end Go.Proofs.Ytcagfmbboliohaa
/-! YtcagfmbboliohaaDr -/
set_option linter.all false
namespace Go.Proofs.Ytcagfmbboliohaa
open Go.RowKit

theorem box_rd {w : World} {F : Nat → Prop} {g n : Nat} {f : Nat → SV} {zs : List Int} (hg : ¬ F g) (h : (Hp.box g 63 2 f).holds w F) (h0 : f 0 = .sl 1 n (rowF u8F zs)) (h1 : f 1 = .i 0) (hn : n ≤ 2000) (hzn : n ≤ zs.length) (hz : ∀ z ∈ zs, 0 ≤ z ∧ z ≤ 255) :
    (Hp.cust (rdH g 0)).holds w F := by
  obtain ⟨cs, hbx, hsz, hc⟩ := h
  have c0 := (hc 0 (by omega)).2
  have c1 := (hc 1 (by omega)).2
  rw [h0] at c0
  rw [h1] at c1
  simp only [Has] at c1
  obtain ⟨A, c, e0, _, _, hr⟩ := c0
  have hcs : cs = #[.slice A n c, .int .i64 0] := by
    apply Array.ext
    · simpa using hsz
    · intro i hi1 hi2
      have hi : i < 2 := by simpa using hi2
      rcases (by omega : i = 0 ∨ i = 1) with rfl | rfl
      · simpa [Array.getD, hi1] using e0
      · simpa [Array.getD, hi1] using c1
  subst hcs
  have hl : (zs.take n).length = n := by simp; omega
  by_cases hn0 : n = 0
  · subst hn0
    exact ⟨0, A, 0, c, [], 0, ⟨hbx, by omega, Reads.nil, by simp, Int.le_refl _, fun h => absurd h (by omega)⟩, Int.le_refl _, fun h => absurd h (by omega)⟩
  · obtain ⟨b, off, rfl, hF, hcell⟩ := hr (by omega)
    refine ⟨b + 1, some ⟨b, off, none⟩, n, c, zs.take n, 0, ⟨hbx, hn, ⟨by simp; omega, fun _ => ⟨b, off, rfl, by omega, fun j u hu => ?_⟩⟩, fun z hz' => hz z (List.mem_of_mem_take hz'), Int.le_refl _, fun _ a ha => ?_⟩, Int.le_refl _, fun _ => ⟨b, off, rfl, hF⟩⟩
    · have hj : j < n := by
        have := (List.getElem?_eq_some_iff.1 hu).1
        simp at this
        omega
      obtain ⟨u', hu', _, hh⟩ := hcell j 0 hj (by omega)
      simp only [Nat.mul_one, Nat.add_zero] at hu'
      have : u' = u := by
        simp only [rowF, u8F, Has] at hh
        rw [hh]
        rw [List.getElem?_map, List.getElem?_take, if_pos hj] at hu
        obtain ⟨z, hz1, rfl⟩ := Option.map_eq_some_iff.1 hu
        simp [List.getD_eq_getElem?_getD, hz1]
      rw [← this]
      exact hu'
    · injection ha with ha
      subst ha
      exact fun e => hg (e ▸ hF)

/-- a list of ints was made -/
def MadeL (P : List Int → Prop) (e : TypeId) (r : SV) (N : List Hp) : Prop :=
  ∃ l A n c, P l ∧ n = l.length ∧ r = .own 0 (.slice A n c) ∧ N = [.row (.slice A n c) e 1 l.length (rowF intF l)]
theorem MadeL.free {P : List Int → Prop} {e : TypeId} {r : SV} {N : List Hp} (h : MadeL P e r N) : r.free ∧ ∀ p ∈ N, p.free := by
  obtain ⟨l, A, n, c, _, _, rfl, rfl⟩ := h
  exact ⟨trivial, fun p hp => by rw [List.mem_singleton.1 hp]; exact fun i k hi hk => trivial⟩
theorem SNew.stillL {Pr : Program} {f : FuncId} {ss : List SV} {P : List Int → Prop} {e : TypeId} (h : SNew Pr f ss (MadeL P e)) : SRet Pr f ss fun r => ∃ l, P l ∧ r = isl l :=
  h.frozen fun r N ⟨l, A, n, c, hP, _, hr, hN⟩ => by
    subst hr hN
    exact ⟨_, ⟨l, hP, rfl⟩, fun R => Ent.row fun w F x hv hx => by have e : x = _ := hx; subst e; exact hv⟩
/-- a new reader -/
def Opened (r : SV) (N : List Hp) : Prop := ∃ g, r = .ptr 0 g 0 ∧ N = [.cust (rdH g 0)]
theorem Fin.opened {g k n : Nat} {f : Nat → SV} {zs : List Int} {R : Heaplet} (h0 : f 0 = .sl 1 n (rowF u8F zs)) (h1 : f 1 = .i 0) (hn : n ≤ 2000) (hzn : n ≤ zs.length) (hz : ∀ z ∈ zs, 0 ≤ z ∧ z ≤ 255) :
    Fin (.ptr k g 0) [.box g 63 2 f, .cust R] (fun r H' => ∃ N, H' = N ++ [.cust R] ∧ Opened r N) :=
  ⟨⟨.ptr 0 g 0, [.cust (rdH g 0), .cust R], fun w F v hs hv => ⟨F, fun _ h => h, hs.turn (Nat.le_refl _) (fun _ _ _ => rfl) (box_rd (hs.fp _ List.mem_cons_self g rfl).2 (hs.holds _ List.mem_cons_self) h0 h1 hn hzn hz) (fun b hb => ⟨(hs.fp _ List.mem_cons_self b hb).1, .inl hb⟩), hv⟩, [_], rfl, g, rfl, rfl⟩⟩
theorem l6Open_c (zs : List Int) (hz : ∀ z ∈ zs, 0 ≤ z ∧ z ≤ 255) (hl : zs.length ≤ 2000000) : SNew Try.prog 23 [.sl 1 zs.length (rowF u8F zs)] Opened := ⟨fun R => by
  refine SCalls.enter tt_ok Try.func23 (by kernel_rfl) rfl [(900, .cust R)] rfl (argF _) (fun w F v k h => h) (by simp) ?_
  repeat' (first | (with_reducible first | refine HT.seq ?_ | refine HT.block ?_ | refine Br.not ?_) | ((with_reducible first | refine HT.region tt_ok ?_ | refine HT.drawn tt_ok (by kernel_rfl) (by decide +kernel) ?_ | refine HT.drawnL tt_ok (by kernel_rfl) (by decide +kernel) ?_ | refine HT.cond ?_ | refine HT.ret ?_ | refine HT.skip ?_ | refine HT.exit ?_ | refine Br.tt ?_ | refine Br.ff ?_); conv => whnf) | ((with_reducible first | refine Br.dec (fun hc => ?_) (fun hc => ?_) | refine Br.eq (fun hc => ?_) (fun hc => ?_) | refine Br.ne (fun hc => ?_) (fun hc => ?_)) <;> (first | (exfalso; omega) | conv => whnf)) | ((with_reducible first | refine Br.ttE (by decide) ?_ | refine Br.ffE (by decide) ?_ | refine Br.mk (fun hc => ?_) (fun hc => ?_) | refine Chk.mk (by first | omega | with_reducible rfl | (refine ⟨rfl, ?_⟩; omega) | decide | exact ⟨rfl, by omega, by omega, rfl⟩ | exact ⟨by assumption, rfl, by omega, by omega⟩) ?_ | refine Ar.fit (by omega) ?_ | refine Eqv.shr1 ?_ | refine Ar.u64 (by omega) ?_) <;> conv => whnf) | (with_reducible exact trivial) | ((with_reducible refine And.intro ?_ ?_) <;> conv => whnf) | (intro gn; conv => whnf))
  · exact Fin.opened rfl rfl (by omega) (by omega) hz
  · exact Fin.opened rfl rfl (by omega) (by omega) hz⟩

theorem l91Digest_c (g : Nat) (m : Int) (hm : m ≤ 900000000000) : SMut Try.prog 26 [.val (.pointer (some ⟨g, 0, none⟩))] (.cust (rdH g m)) (DrewI (-1) 991 3 g m) := ⟨fun R => by
  refine SCalls.enter tt_ok Try.func26 (by kernel_rfl) rfl [(0, .cust (rdH g m)), (900, .cust R)] rfl (argF _) (fun w F v k h => h) (by simp) ?_
  repeat' (first | (with_reducible first | refine HT.seq ?_ | refine HT.block ?_ | refine Br.not ?_) | ((with_reducible first | refine HT.region tt_ok ?_ | refine HT.drawn tt_ok (by kernel_rfl) (by decide +kernel) ?_ | refine HT.drawnL tt_ok (by kernel_rfl) (by decide +kernel) ?_ | refine HT.cond ?_ | refine HT.ret ?_ | refine HT.skip ?_ | refine HT.exit ?_ | refine Br.tt ?_ | refine Br.ff ?_); conv => whnf) | ((with_reducible first | refine Br.dec (fun hc => ?_) (fun hc => ?_) | refine Br.eq (fun hc => ?_) (fun hc => ?_) | refine Br.ne (fun hc => ?_) (fun hc => ?_)) <;> (first | (exfalso; omega) | conv => whnf)) | ((with_reducible first | refine Br.ttE (by decide) ?_ | refine Br.ffE (by decide) ?_ | refine Br.mk (fun hc => ?_) (fun hc => ?_) | refine Chk.mk (by first | omega | with_reducible rfl | (refine ⟨rfl, ?_⟩; omega) | decide | exact ⟨rfl, by omega, by omega, rfl⟩ | exact ⟨by assumption, rfl, by omega, by omega⟩) ?_ | refine Ar.fit (by omega) ?_ | refine Eqv.shr1 ?_ | refine Ar.u64 (by omega) ?_) <;> conv => whnf) | ((first | (refine CallN.turn 0 _ _ rfl (pick_c _ _ 16 (by omega) (by omega)) ?_; rintro r N p' ⟨⟨k, hk0, hk1, rfl⟩, rfl, rfl⟩) | (refine CallN.turn 0 _ _ rfl (pick_c _ _ 4 (by omega) (by omega)) ?_; rintro r N p' ⟨⟨k, hk0, hk1, rfl⟩, rfl, rfl⟩) | (refine CallN.turn 0 _ _ rfl (pick_c _ _ _ (by omega) (by omega)) ?_; rintro r N p' ⟨⟨k, hk0, hk1, rfl⟩, rfl, rfl⟩)) <;> conv => whnf) | (with_reducible exact trivial) | ((with_reducible refine And.intro ?_ ?_) <;> conv => whnf) | (intro gn; conv => whnf))
  · have hb := lit_bd (l := [-1, 0, 990, 991]) (lo := -1) (hi := 991) rfl (k := k.toNat) (by simp; omega)
    exact Fin.rd (A := [_]) (by omega) ⟨⟨_, hb.1, hb.2, rfl⟩, rfl, rfl⟩
  · exact Fin.rd (A := []) (by omega) ⟨⟨_, by omega, by omega, rfl⟩, rfl, rfl⟩⟩
end Go.Proofs.Ytcagfmbboliohaa
/-! YtcagfmbboliohaaRa -/
set_option linter.all false
namespace Go.Proofs.Ytcagfmbboliohaa
open Go.RowKit

theorem gDi {l : List Int} {j : Nat} (h : j < l.length) : l.getD j default = l[j] := by rw [List.getD_eq_getElem?_getD, List.getElem?_eq_getElem h]; rfl
structure Rc where
  i : Int
  b : Bool
  d : Int
instance : Inhabited Rc := ⟨⟨0, false, 0⟩⟩
theorem gDr {l : List Rc} {j : Nat} (h : j < l.length) : l.getD j default = l[j] := by rw [List.getD_eq_getElem?_getD, List.getElem?_eq_getElem h]; rfl
def rcF (r : Rc) : Nat → SV := litF [.i r.i, .b r.b, .i r.d]
abbrev rcV (r : Rc) : SV := .agg 3 (rcF r)
abbrev rcl (l : List Rc) : SV := .sl 3 l.length (rowF rcF l)
/-- is it valid? -/
def rcOk (r : Rc) : Bool := inB r.i 0 15 && inB r.d 0 990
theorem rcOk_iff {r : Rc} : rcOk r = true ↔ (0 ≤ r.i ∧ r.i ≤ 15) ∧ isD r.d := by
  unfold rcOk isD
  rw [Bool.and_eq_true, inB_true, inB_true]
  omega
/-- its outcome as a number -/
def rcN (r : Rc) : Int := 2 * r.i + if r.b then 1 else 0
/-- its digest -/
def rcD (r : Rc) : Int := if rcOk r = true then hp (rcN r) r.d else -1
theorem rcD_ok {r : Rc} (h : rcOk r = true) : rcD r = hp (rcN r) r.d := if_pos h
theorem rcD_bad {r : Rc} (h : rcOk r = false) : rcD r = -1 := if_neg (by rw [h]; simp)
theorem rcN_d {r : Rc} (h : rcOk r = true) : isD (rcN r) := by
  have := rcOk_iff.1 h
  unfold rcN isD
  split <;> omega
theorem rcD_d {r : Rc} (h : rcOk r = true) : isD (rcD r) := by
  rw [rcD_ok h]; exact hp_d (rcN_d h) (rcOk_iff.1 h).2
/-- is a list valid? -/
def rcsOk (l : List Rc) : Bool := inB l.length 1 16 && decide (∀ j, j < l.length → rcOk (l.getD j default) = true ∧ (l.getD j default).i = j)
theorem rcsOk_iff {l : List Rc} : rcsOk l = true ↔ (1 ≤ l.length ∧ l.length ≤ 16) ∧ ∀ j, j < l.length → rcOk (l.getD j default) = true ∧ (l.getD j default).i = j := by
  unfold rcsOk
  rw [Bool.and_eq_true, inB_true, decide_eq_true_eq]
  exact and_congr_left fun _ => by omega
theorem rcs_no {l : List Rc} {k : Nat} (hk : k < l.length) (h : ¬ (rcOk (l.getD k default) = true ∧ (l.getD k default).i = k)) : rcsOk l = false := by
  unfold rcsOk; rw [dall_false hk h, Bool.and_false]
theorem rcs_len {l : List Rc} (h : ¬ (1 ≤ l.length ∧ l.length ≤ 16)) : rcsOk l = false := by
  unfold rcsOk; rw [inB_false.2 (by omega), Bool.false_and]
theorem rcs_yes {l : List Rc} (hl : 1 ≤ l.length ∧ l.length ≤ 16) (h : ∀ j, j < l.length → rcOk (l.getD j default) = true ∧ (l.getD j default).i = j) : rcsOk l = true := rcsOk_iff.2 ⟨hl, h⟩
theorem rcs_eq {l : List Rc} {k : Nat} (hk : l.length ≤ k) (h : ∀ j, j < k → rcOk (l.getD j default) = true ∧ (l.getD j default).i = j) : inB l.length 1 16 = rcsOk l := by
  unfold rcsOk; rw [dall_true fun j hj => h j (by omega), Bool.and_true]
/-- the leaves -/
def lvs (l : List Rc) : List Int := l.map rcD
theorem lvs_len {l : List Rc} : (lvs l).length = l.length := List.length_map ..
theorem lvs_get {l : List Rc} {k : Nat} (h : k < l.length) : (lvs l).getD k default = rcD (l.getD k default) := by
  unfold lvs
  rw [List.getD_eq_getElem?_getD, List.getD_eq_getElem?_getD, List.getElem?_map, List.getElem?_eq_getElem h]; rfl
theorem take_lvs {l : List Rc} {k : Nat} (h : k < l.length) : (lvs l).take (k + 1) = (lvs l).take k ++ [rcD (l.getD k default)] := by
  rw [List.take_succ, ← lvs_get h, List.getD_eq_getElem?_getD, List.getElem?_eq_getElem (by rw [lvs_len]; exact h)]; rfl
theorem lvs_d {l : List Rc} (h : rcsOk l = true) : allD (lvs l) := fun z hz => by
  obtain ⟨r, hr, rfl⟩ := List.mem_map.1 hz
  obtain ⟨j, hj, rfl⟩ := List.getElem_of_mem hr
  have := ((rcsOk_iff.1 h).2 j hj).1
  rw [gDr hj] at this
  exact rcD_d this
/-- are they leaves? -/
def lfOk (l : List Int) : Bool := inB l.length 1 16 && decide (∀ j, j < l.length → inB (l.getD j default) 0 990 = true)
theorem lfOk_iff {l : List Int} : lfOk l = true ↔ (1 ≤ l.length ∧ l.length ≤ 16) ∧ allD l := by
  unfold lfOk
  rw [Bool.and_eq_true, inB_true, decide_eq_true_eq]
  constructor
  · rintro ⟨h1, h2⟩
    refine ⟨by omega, fun z hz => ?_⟩
    obtain ⟨j, hj, rfl⟩ := List.getElem_of_mem hz
    have := inB_true.1 (h2 j hj)
    rw [gDi hj] at this
    unfold isD; omega
  · rintro ⟨h1, h2⟩
    exact ⟨by omega, fun j hj => inB_true.2 (by have := h2.getD hj; unfold isD at this; omega)⟩
theorem lf_no {l : List Int} {k : Nat} (hk : k < l.length) (h : inB (l.getD k default) 0 990 = false) : lfOk l = false := by
  unfold lfOk; rw [dall_false hk (by rw [h]; simp), Bool.and_false]
theorem lf_len {l : List Int} (h : ¬ (1 ≤ l.length ∧ l.length ≤ 16)) : lfOk l = false := by
  unfold lfOk; rw [inB_false.2 (by omega), Bool.false_and]
theorem lf_yes {l : List Int} (hl : 1 ≤ l.length ∧ l.length ≤ 16) (h : ∀ j, j < l.length → inB (l.getD j default) 0 990 = true) : lfOk l = true := by
  unfold lfOk; rw [inB_true.2 (by omega), Bool.true_and]; exact decide_eq_true h
theorem lf_eq {l : List Int} {k : Nat} (hk : l.length ≤ k) (h : ∀ j, j < k → inB (l.getD j default) 0 990 = true) : inB l.length 1 16 = lfOk l := by
  unfold lfOk; rw [dall_true fun j hj => h j (by omega), Bool.and_true]
theorem lvs_ok {l : List Rc} (h : rcsOk l = true) : lfOk (lvs l) = true := lfOk_iff.2 ⟨by rw [lvs_len]; exact (rcsOk_iff.1 h).1, lvs_d h⟩
theorem l2Pair_c (a b : Int) (ha : isD a) (hb : isD b) : SRet Try.prog 49 [.i a, .i b] (· = .i (hp a b)) := ⟨fun R => by
  refine SCalls.enter tt_ok Try.func49 (by kernel_rfl) rfl [(900, .cust R)] rfl (argF _) (fun w F v k h => h) (by simp) ?_
  repeat' (first | (with_reducible first | refine HT.seq ?_ | refine HT.block ?_ | refine Br.not ?_) | ((with_reducible first | refine HT.region tt_ok ?_ | refine HT.drawn tt_ok (by kernel_rfl) (by decide +kernel) ?_ | refine HT.drawnL tt_ok (by kernel_rfl) (by decide +kernel) ?_ | refine HT.cond ?_ | refine HT.ret ?_ | refine HT.skip ?_ | refine HT.exit ?_ | refine Br.tt ?_ | refine Br.ff ?_); conv => whnf) | ((with_reducible first | refine Br.dec (fun hc => ?_) (fun hc => ?_) | refine Br.eq (fun hc => ?_) (fun hc => ?_) | refine Br.ne (fun hc => ?_) (fun hc => ?_)) <;> (first | (exfalso; omega) | conv => whnf)) | ((with_reducible first | refine Br.ttE (by decide) ?_ | refine Br.ffE (by decide) ?_ | refine Br.mk (fun hc => ?_) (fun hc => ?_) | refine Chk.mk (by first | omega | with_reducible rfl | (refine ⟨rfl, ?_⟩; omega) | decide | exact ⟨rfl, by omega, by omega, rfl⟩ | exact ⟨by assumption, rfl, by omega, by omega⟩) ?_ | refine Ar.fit (by omega) ?_ | refine Eqv.shr1 ?_ | refine Ar.u64 (by omega) ?_) <;> conv => whnf) | (with_reducible exact trivial) | ((with_reducible refine And.intro ?_ ?_) <;> conv => whnf) | (intro gn; conv => whnf))
  · exact Fin.pureS (by repeat (first | exact List.Sublist.refl _ | refine List.Sublist.cons_cons _ ?_ | refine List.Sublist.cons _ ?_)) (rfl)⟩
theorem l33Receipt_c (r : Rc) : SRet Try.prog 30 [rcV r] (· = .b (rcOk r)) := ⟨fun R => by
  refine SCalls.enter tt_ok Try.func30 (by kernel_rfl) rfl [(900, .cust R)] rfl (argF _) (fun w F v k h => h) (by simp) ?_
  repeat' (first | (with_reducible first | refine HT.seq ?_ | refine HT.block ?_ | refine Br.not ?_) | ((with_reducible first | refine HT.region tt_ok ?_ | refine HT.drawn tt_ok (by kernel_rfl) (by decide +kernel) ?_ | refine HT.drawnL tt_ok (by kernel_rfl) (by decide +kernel) ?_ | refine HT.cond ?_ | refine HT.ret ?_ | refine HT.skip ?_ | refine HT.exit ?_ | refine Br.tt ?_ | refine Br.ff ?_); conv => whnf) | ((with_reducible first | refine Br.dec (fun hc => ?_) (fun hc => ?_) | refine Br.eq (fun hc => ?_) (fun hc => ?_) | refine Br.ne (fun hc => ?_) (fun hc => ?_)) <;> (first | (exfalso; omega) | conv => whnf)) | ((with_reducible first | refine Br.ttE (by decide) ?_ | refine Br.ffE (by decide) ?_ | refine Br.mk (fun hc => ?_) (fun hc => ?_) | refine Chk.mk (by first | omega | with_reducible rfl | (refine ⟨rfl, ?_⟩; omega) | decide | exact ⟨rfl, by omega, by omega, rfl⟩ | exact ⟨by assumption, rfl, by omega, by omega⟩) ?_ | refine Ar.fit (by omega) ?_ | refine Eqv.shr1 ?_ | refine Ar.u64 (by omega) ?_) <;> conv => whnf) | ((first | refine CallN.ret1 (l6In_c _ _ _) ?_ | refine CallN.ret1 (l2Digest_c _) ?_) <;> conv => whnf) | (with_reducible exact trivial) | ((with_reducible refine And.intro ?_ ?_) <;> conv => whnf) | (intro gn; conv => whnf))
  all_goals exact Fin.pureS (by repeat (first | exact List.Sublist.refl _ | refine List.Sublist.cons_cons _ ?_ | refine List.Sublist.cons _ ?_)) (sv_b (by unfold rcOk; simp_all))⟩
theorem specRD_c (r : Rc) : SRet Try.prog 32 [rcV r] (· = .i (rcD r)) := ⟨fun R => by
  have hO := l33Receipt_c r
  cases hok : rcOk r
  refine SCalls.enter tt_ok Try.func32 (by kernel_rfl) rfl [(900, .cust R)] rfl (argF _) (fun w F v k h => h) (by simp) ?_
  · repeat' (first | (with_reducible first | refine HT.seq ?_ | refine HT.block ?_ | refine Br.not ?_) | ((with_reducible first | refine HT.region tt_ok ?_ | refine HT.drawn tt_ok (by kernel_rfl) (by decide +kernel) ?_ | refine HT.drawnL tt_ok (by kernel_rfl) (by decide +kernel) ?_ | refine HT.cond ?_ | refine HT.ret ?_ | refine HT.skip ?_ | refine HT.exit ?_ | refine Br.tt ?_ | refine Br.ff ?_); conv => whnf) | ((with_reducible first | refine Br.dec (fun hc => ?_) (fun hc => ?_) | refine Br.eq (fun hc => ?_) (fun hc => ?_) | refine Br.ne (fun hc => ?_) (fun hc => ?_)) <;> (first | (exfalso; omega) | conv => whnf)) | ((with_reducible first | refine Br.ttE (by decide) ?_ | refine Br.ffE (by decide) ?_ | refine Br.mk (fun hc => ?_) (fun hc => ?_) | refine Chk.mk (by first | omega | with_reducible rfl | (refine ⟨rfl, ?_⟩; omega) | decide | exact ⟨rfl, by omega, by omega, rfl⟩ | exact ⟨by assumption, rfl, by omega, by omega⟩) ?_ | refine Ar.fit (by omega) ?_ | refine Eqv.shr1 ?_ | refine Ar.u64 (by omega) ?_) <;> conv => whnf) | ((first | refine CallN.ret1 (hO.bf hok) ?_) <;> conv => whnf) | (with_reducible exact trivial) | ((with_reducible refine And.intro ?_ ?_) <;> conv => whnf) | (intro gn; conv => whnf))
    all_goals exact Fin.pureS (by repeat (first | exact List.Sublist.refl _ | refine List.Sublist.cons_cons _ ?_ | refine List.Sublist.cons _ ?_)) (sv_i (rcD_bad hok).symm)
  have hr := rcOk_iff.1 hok
  have hN := rcN_d hok
  have hP := l2Pair_c _ _ hN hr.2
  have hD := rcD_ok hok
  cases hb : r.b
  · have e : rcN r = 2 * r.i := by unfold rcN; rw [hb]; simp
    rw [e] at hP hD
    refine SCalls.enter tt_ok Try.func32 (by kernel_rfl) rfl [(900, .cust R)] rfl (argF _) (fun w F v k h => h) (by simp) ?_
    repeat' (first | (with_reducible first | refine HT.seq ?_ | refine HT.block ?_ | refine Br.not ?_) | ((with_reducible first | refine HT.region tt_ok ?_ | refine HT.drawn tt_ok (by kernel_rfl) (by decide +kernel) ?_ | refine HT.drawnL tt_ok (by kernel_rfl) (by decide +kernel) ?_ | refine HT.cond ?_ | refine HT.ret ?_ | refine HT.skip ?_ | refine HT.exit ?_ | refine Br.tt ?_ | refine Br.ff ?_); conv => whnf) | ((with_reducible first | refine Br.dec (fun hc => ?_) (fun hc => ?_) | refine Br.eq (fun hc => ?_) (fun hc => ?_) | refine Br.ne (fun hc => ?_) (fun hc => ?_)) <;> (first | (exfalso; omega) | conv => whnf)) | ((with_reducible first | refine Br.ttE (by decide) ?_ | refine Br.ffE (by decide) ?_ | refine Br.mk (fun hc => ?_) (fun hc => ?_) | refine Chk.mk (by first | omega | with_reducible rfl | (refine ⟨rfl, ?_⟩; omega) | decide | exact ⟨rfl, by omega, by omega, rfl⟩ | exact ⟨by assumption, rfl, by omega, by omega⟩) ?_ | refine Ar.fit (by omega) ?_ | refine Eqv.shr1 ?_ | refine Ar.u64 (by omega) ?_) <;> conv => whnf) | ((first | refine CallN.ret1 (hO.bt hok) ?_ | refine CallN.ret1 (hP) ?_) <;> conv => whnf) | (with_reducible exact trivial) | ((with_reducible refine And.intro ?_ ?_) <;> conv => whnf) | (intro gn; conv => whnf))
    all_goals first | (exfalso; simp_all; done) | exact Fin.pureS (by repeat (first | exact List.Sublist.refl _ | refine List.Sublist.cons_cons _ ?_ | refine List.Sublist.cons _ ?_)) (sv_i hD.symm)
  · have e : rcN r = 2 * r.i + 1 := by unfold rcN; rw [hb]; simp
    rw [e] at hP hD
    refine SCalls.enter tt_ok Try.func32 (by kernel_rfl) rfl [(900, .cust R)] rfl (argF _) (fun w F v k h => h) (by simp) ?_
    repeat' (first | (with_reducible first | refine HT.seq ?_ | refine HT.block ?_ | refine Br.not ?_) | ((with_reducible first | refine HT.region tt_ok ?_ | refine HT.drawn tt_ok (by kernel_rfl) (by decide +kernel) ?_ | refine HT.drawnL tt_ok (by kernel_rfl) (by decide +kernel) ?_ | refine HT.cond ?_ | refine HT.ret ?_ | refine HT.skip ?_ | refine HT.exit ?_ | refine Br.tt ?_ | refine Br.ff ?_); conv => whnf) | ((with_reducible first | refine Br.dec (fun hc => ?_) (fun hc => ?_) | refine Br.eq (fun hc => ?_) (fun hc => ?_) | refine Br.ne (fun hc => ?_) (fun hc => ?_)) <;> (first | (exfalso; omega) | conv => whnf)) | ((with_reducible first | refine Br.ttE (by decide) ?_ | refine Br.ffE (by decide) ?_ | refine Br.mk (fun hc => ?_) (fun hc => ?_) | refine Chk.mk (by first | omega | with_reducible rfl | (refine ⟨rfl, ?_⟩; omega) | decide | exact ⟨rfl, by omega, by omega, rfl⟩ | exact ⟨by assumption, rfl, by omega, by omega⟩) ?_ | refine Ar.fit (by omega) ?_ | refine Eqv.shr1 ?_ | refine Ar.u64 (by omega) ?_) <;> conv => whnf) | ((first | refine CallN.ret1 (hO.bt hok) ?_ | refine CallN.ret1 (hP) ?_) <;> conv => whnf) | (with_reducible exact trivial) | ((with_reducible refine And.intro ?_ ?_) <;> conv => whnf) | (intro gn; conv => whnf))
    all_goals first | (exfalso; simp_all; done) | exact Fin.pureS (by repeat (first | exact List.Sublist.refl _ | refine List.Sublist.cons_cons _ ?_ | refine List.Sublist.cons _ ?_)) (sv_i hD.symm)⟩
theorem l33List_c (l : List Rc) (hl : l.length ≤ 10000000) : SRet Try.prog 33 [rcl l] (· = .b (rcsOk l)) := ⟨fun R => by
  refine SCalls.enter tt_ok Try.func33 (by kernel_rfl) rfl [(900, .cust R)] rfl (argF _) (fun w F v k h => h) (by simp) ?_
  repeat' (first | (with_reducible first | refine HT.seq ?_ | refine HT.block ?_ | refine Br.not ?_) | ((with_reducible first | refine HT.region tt_ok ?_ | refine HT.drawn tt_ok (by kernel_rfl) (by decide +kernel) ?_ | refine HT.drawnL tt_ok (by kernel_rfl) (by decide +kernel) ?_ | refine HT.cond ?_ | refine HT.ret ?_ | refine HT.skip ?_ | refine HT.exit ?_ | refine Br.tt ?_ | refine Br.ff ?_); conv => whnf) | ((with_reducible first | refine Br.dec (fun hc => ?_) (fun hc => ?_) | refine Br.eq (fun hc => ?_) (fun hc => ?_) | refine Br.ne (fun hc => ?_) (fun hc => ?_)) <;> (first | (exfalso; omega) | conv => whnf)) | ((with_reducible first | refine Br.ttE (by decide) ?_ | refine Br.ffE (by decide) ?_ | refine Br.mk (fun hc => ?_) (fun hc => ?_) | refine Chk.mk (by first | omega | with_reducible rfl | (refine ⟨rfl, ?_⟩; omega) | decide | exact ⟨rfl, by omega, by omega, rfl⟩ | exact ⟨by assumption, rfl, by omega, by omega⟩) ?_ | refine Ar.fit (by omega) ?_ | refine Eqv.shr1 ?_ | refine Ar.u64 (by omega) ?_) <;> conv => whnf) | (with_reducible exact trivial) | ((with_reducible refine And.intro ?_ ?_) <;> conv => whnf) | (intro gn; conv => whnf))
  refine HT.loopS [0] (fun k : Nat => [(3, .i k)]) (fun k : Nat => k ≤ l.length ∧ ∀ j, j < k → (rcOk (l.getD j default) = true ∧ (l.getD j default).i = j)) (fun k : Nat => l.length - k) 0 ⟨Nat.zero_le _, fun j hj => absurd hj (by omega)⟩ ⟨rfl, trivial⟩ ?_
  conv => whnf
  rintro k ⟨hk, hall⟩
  have hR := l33Receipt_c (l.getD ((k : Int)).toNat default)
  conv => whnf
  repeat' (first | (with_reducible first | refine HT.seq ?_ | refine HT.block ?_ | refine Br.not ?_) | ((with_reducible first | refine HT.region tt_ok ?_ | refine HT.drawn tt_ok (by kernel_rfl) (by decide +kernel) ?_ | refine HT.drawnL tt_ok (by kernel_rfl) (by decide +kernel) ?_ | refine HT.cond ?_ | refine HT.ret ?_ | refine HT.skip ?_ | refine HT.exit ?_ | refine Br.tt ?_ | refine Br.ff ?_); conv => whnf) | ((with_reducible first | refine Br.dec (fun hc => ?_) (fun hc => ?_) | refine Br.eq (fun hc => ?_) (fun hc => ?_) | refine Br.ne (fun hc => ?_) (fun hc => ?_)) <;> (first | (exfalso; omega) | conv => whnf)) | ((with_reducible first | refine Br.ttE (by decide) ?_ | refine Br.ffE (by decide) ?_ | refine Br.mk (fun hc => ?_) (fun hc => ?_) | refine Chk.mk (by first | omega | with_reducible rfl | (refine ⟨rfl, ?_⟩; omega) | decide | exact ⟨rfl, by omega, by omega, rfl⟩ | exact ⟨by assumption, rfl, by omega, by omega⟩) ?_ | refine Ar.fit (by omega) ?_ | refine Eqv.shr1 ?_ | refine Ar.u64 (by omega) ?_) <;> conv => whnf) | ((first | refine CallN.ret1 (hR) ?_ | refine CallN.ret1 (l6In_c _ _ _) ?_) <;> conv => whnf) | (with_reducible exact trivial) | ((with_reducible refine And.intro ?_ ?_) <;> conv => whnf) | (intro gn; conv => whnf))
  all_goals (try simp only [Int.toNat_natCast] at *)
  all_goals first
    | exact ⟨⟨k + 1, ⟨by omega, all_lt_succ (by simp_all) hall⟩, by omega, (by repeat' (first | exact trivial | refine ⟨rfl, ?_⟩)), ⟨sv_i (by omega), trivial⟩, (HLe.sub (by repeat (first | exact List.Sublist.refl _ | refine List.Sublist.cons_cons _ ?_ | refine List.Sublist.cons _ ?_)))⟩⟩
    | exact Fin.pureS (by repeat (first | exact List.Sublist.refl _ | refine List.Sublist.cons_cons _ ?_ | refine List.Sublist.cons _ ?_)) (sv_b (rcs_no (k := k) (by omega) (fun h => by simp_all)).symm)
    | exact Fin.pureS (by repeat (first | exact List.Sublist.refl _ | refine List.Sublist.cons_cons _ ?_ | refine List.Sublist.cons _ ?_)) (sv_b (rcs_eq (k := k) (by omega) hall))
    | trace_state⟩
theorem l33Leaves_o (l : List Rc) (hl : l.length ≤ 10000000) : SNew Try.prog 35 [rcl l] (MadeL (· = lvs l) 3) := ⟨fun R => by
  refine SCalls.enter tt_ok Try.func35 (by kernel_rfl) rfl [(900, .cust R)] rfl (argF _) (fun w F v k h => h) (by simp) ?_
  repeat' (first | (with_reducible first | refine HT.seq ?_ | refine HT.block ?_ | refine Br.not ?_) | ((with_reducible first | refine HT.region tt_ok ?_ | refine HT.drawn tt_ok (by kernel_rfl) (by decide +kernel) ?_ | refine HT.drawnL tt_ok (by kernel_rfl) (by decide +kernel) ?_ | refine HT.cond ?_ | refine HT.ret ?_ | refine HT.skip ?_ | refine HT.exit ?_ | refine Br.tt ?_ | refine Br.ff ?_); conv => whnf) | ((with_reducible first | refine Br.dec (fun hc => ?_) (fun hc => ?_) | refine Br.eq (fun hc => ?_) (fun hc => ?_) | refine Br.ne (fun hc => ?_) (fun hc => ?_)) <;> (first | (exfalso; omega) | conv => whnf)) | ((with_reducible first | refine Br.ttE (by decide) ?_ | refine Br.ffE (by decide) ?_ | refine Br.mk (fun hc => ?_) (fun hc => ?_) | refine Chk.mk (by first | omega | with_reducible rfl | (refine ⟨rfl, ?_⟩; omega) | decide | exact ⟨rfl, by omega, by omega, rfl⟩ | exact ⟨by assumption, rfl, by omega, by omega⟩) ?_ | refine Ar.fit (by omega) ?_ | refine Eqv.shr1 ?_ | refine Ar.u64 (by omega) ?_) <;> conv => whnf) | (with_reducible exact trivial) | ((with_reducible refine And.intro ?_ ?_) <;> conv => whnf) | (intro gn; conv => whnf))
  refine HT.loopC [0, 2] (fun x : Nat × List Int × Option Addr × Nat × Nat => [(3, .own 100 (.slice x.2.2.1 x.2.2.2.1 x.2.2.2.2)), (4, .i x.1)]) (fun x : Nat × List Int × Option Addr × Nat × Nat => [(100, .row (.slice x.2.2.1 x.2.2.2.1 x.2.2.2.2) x.2.1.length (rowF intF x.2.1))]) (fun x : Nat × List Int × Option Addr × Nat × Nat => x.1 ≤ l.length ∧ x.2.1 = (lvs l).take x.1 ∧ x.2.2.2.1 = x.2.1.length) (fun x : Nat × List Int × Option Addr × Nat × Nat => l.length - x.1) (0, [], some ⟨gn, 0, none⟩, 0, 0) ⟨by omega, rfl, rfl⟩ ⟨(by first | with_reducible exact CellLe.refl _ | exact CellLe.own | exact CellLe.i (by omega) | exact CellLe.nil | exact CellLe.slNil | exact CellLe.refl _), (by first | with_reducible exact CellLe.refl _ | exact CellLe.own | exact CellLe.i (by omega) | exact CellLe.nil | exact CellLe.slNil | exact CellLe.refl _), trivial⟩ ?_ ?_
  · conv => whnf
    refine PP.start ?_; repeat (first | exact PP.nil | refine PP.take (by first | with_reducible exact Hp.Sub.refl _ | exact Hp.Sub.rd (by omega) | exact Hp.Sub.boxA (by (repeat (first | exact all_lt_zero | refine all_lt_succ (p := fun j => CellLe _ _) (by first | with_reducible exact CellLe.refl _ | exact CellLe.own | exact CellLe.i (by omega) | exact CellLe.nil | exact CellLe.slNil | exact CellLe.refl _) ?_))) | exact Hp.Sub.refl _) ?_ | refine PP.skip ?_)
  conv => whnf
  rintro ⟨k, acc, A, n, cp⟩ ⟨hk, hacc, hn⟩
  dsimp only at hk hacc hn ⊢
  subst hn
  have hal : acc.length ≤ 10000000 := by rw [hacc, List.length_take, lvs_len]; omega
  have hR := specRD_c (l.getD ((k : Int)).toNat default)
  conv => whnf
  repeat' (first | (with_reducible first | refine HT.seq ?_ | refine HT.block ?_ | refine Br.not ?_) | ((with_reducible first | refine HT.region tt_ok ?_ | refine HT.drawn tt_ok (by kernel_rfl) (by decide +kernel) ?_ | refine HT.drawnL tt_ok (by kernel_rfl) (by decide +kernel) ?_ | refine HT.cond ?_ | refine HT.ret ?_ | refine HT.skip ?_ | refine HT.exit ?_ | refine Br.tt ?_ | refine Br.ff ?_); conv => whnf) | ((with_reducible first | refine Br.dec (fun hc => ?_) (fun hc => ?_) | refine Br.eq (fun hc => ?_) (fun hc => ?_) | refine Br.ne (fun hc => ?_) (fun hc => ?_)) <;> (first | (exfalso; omega) | conv => whnf)) | ((with_reducible first | refine Br.ttE (by decide) ?_ | refine Br.ffE (by decide) ?_ | refine Br.mk (fun hc => ?_) (fun hc => ?_) | refine Chk.mk (by first | omega | with_reducible rfl | (refine ⟨rfl, ?_⟩; omega) | decide | exact ⟨rfl, by omega, by omega, rfl⟩ | exact ⟨by assumption, rfl, by omega, by omega⟩) ?_ | refine Ar.fit (by omega) ?_ | refine Eqv.shr1 ?_ | refine Ar.u64 (by omega) ?_) <;> conv => whnf) | ((first | refine CallN.ret1 (hR) ?_) <;> conv => whnf) | (with_reducible exact trivial) | ((with_reducible refine And.intro ?_ ?_) <;> conv => whnf) | (intro gn; conv => whnf))
  all_goals (try rw [Int.toNat_natCast])
  all_goals first
    | (have hkl : k < l.length := (by omega)
       rename_i A2
       exact ⟨⟨(k + 1, acc ++ [rcD (l.getD k default)], A2, acc.length + 1, gn), ⟨by dsimp only; omega, by dsimp only; rw [hacc, take_lvs hkl], by dsimp only; rw [List.length_append]; rfl⟩, by dsimp only; omega, (by repeat' (first | exact trivial | refine ⟨rfl, ?_⟩)), ⟨(by first | with_reducible exact CellLe.refl _ | exact CellLe.own | exact CellLe.i (by omega) | exact CellLe.nil | exact CellLe.slNil | exact CellLe.refl _), (by first | with_reducible exact CellLe.refl _ | exact CellLe.own | exact CellLe.i (by omega) | exact CellLe.nil | exact CellLe.slNil | exact CellLe.refl _), trivial⟩, HLe.pk (by (conv => whnf); (refine PP.start ?_; repeat (first | exact PP.nil | refine PP.take (by first | with_reducible exact Hp.Sub.refl _ | exact Hp.Sub.rd (by omega) | exact Hp.Sub.rowA (by simp) (fun i j hi hj => cat_ints hi hj) | exact Hp.Sub.boxA (by (repeat (first | exact all_lt_zero | refine all_lt_succ (p := fun j => CellLe _ _) (by first | with_reducible exact CellLe.refl _ | exact CellLe.own | exact CellLe.i (by omega) | exact CellLe.nil | exact CellLe.slNil | exact CellLe.refl _) ?_))) | exact Hp.Sub.refl _) ?_ | refine PP.skip ?_)))⟩⟩)
    | (obtain rfl : k = l.length := by omega
       exact Fin.news [_] (fun _ => 0) (by refine PP.start ?_; repeat (first | exact PP.nil | refine PP.take (by first | with_reducible exact Hp.Sub.refl _ | exact Hp.Sub.rd (by omega) | exact Hp.Sub.rowA (by first | rfl | simp) (fun i j hi hj => rfl) | exact Hp.Sub.boxA (by (repeat (first | exact all_lt_zero | refine all_lt_succ (p := fun j => CellLe _ _) (by first | with_reducible exact CellLe.refl _ | exact CellLe.own | exact CellLe.i (by omega) | exact CellLe.nil | exact CellLe.slNil | exact CellLe.refl _) ?_))) | exact Hp.Sub.refl _) ?_ | refine PP.skip ?_)) ⟨acc, _, _, _, by rw [hacc, ← lvs_len, List.take_length], rfl, rfl, rfl⟩)
    | trace_state⟩
theorem implHP_c (a b : Int) (ha : isD a) (hb : isD b) : SRet Try.prog 46 [.i a, .i b] (· = .i (hp a b)) := ⟨fun R => by
  refine SCalls.enter tt_ok Try.func46 (by kernel_rfl) rfl [(900, .cust R)] rfl (argF _) (fun w F v k h => h) (by simp) ?_
  repeat' (first | (with_reducible first | refine HT.seq ?_ | refine HT.block ?_ | refine Br.not ?_) | ((with_reducible first | refine HT.region tt_ok ?_ | refine HT.drawn tt_ok (by kernel_rfl) (by decide +kernel) ?_ | refine HT.drawnL tt_ok (by kernel_rfl) (by decide +kernel) ?_ | refine HT.cond ?_ | refine HT.ret ?_ | refine HT.skip ?_ | refine HT.exit ?_ | refine Br.tt ?_ | refine Br.ff ?_); conv => whnf) | ((with_reducible first | refine Br.dec (fun hc => ?_) (fun hc => ?_) | refine Br.eq (fun hc => ?_) (fun hc => ?_) | refine Br.ne (fun hc => ?_) (fun hc => ?_)) <;> (first | (exfalso; omega) | conv => whnf)) | ((with_reducible first | refine Br.ttE (by decide) ?_ | refine Br.ffE (by decide) ?_ | refine Br.mk (fun hc => ?_) (fun hc => ?_) | refine Chk.mk (by first | omega | with_reducible rfl | (refine ⟨rfl, ?_⟩; omega) | decide | exact ⟨rfl, by omega, by omega, rfl⟩ | exact ⟨by assumption, rfl, by omega, by omega⟩) ?_ | refine Ar.fit (by omega) ?_ | refine Eqv.shr1 ?_ | refine Ar.u64 (by omega) ?_) <;> conv => whnf) | ((first | refine CallN.ret1 ((isDigest_c a).bt (inB_true.2 (by omega))) ?_ | refine CallN.ret1 ((isDigest_c b).bt (inB_true.2 (by omega))) ?_) <;> conv => whnf) | (with_reducible exact trivial) | ((with_reducible refine And.intro ?_ ?_) <;> conv => whnf) | (intro gn; conv => whnf))
  · exact Fin.pureS (by repeat (first | exact List.Sublist.refl _ | refine List.Sublist.cons_cons _ ?_ | refine List.Sublist.cons _ ?_)) (rfl)⟩
theorem implRV_c (r : Rc) : SRet Try.prog 27 [rcV r] (· = .b (rcOk r)) := ⟨fun R => by
  refine SCalls.enter tt_ok Try.func27 (by kernel_rfl) rfl [(900, .cust R)] rfl (argF _) (fun w F v k h => h) (by simp) ?_
  repeat' (first | (with_reducible first | refine HT.seq ?_ | refine HT.block ?_ | refine Br.not ?_) | ((with_reducible first | refine HT.region tt_ok ?_ | refine HT.drawn tt_ok (by kernel_rfl) (by decide +kernel) ?_ | refine HT.drawnL tt_ok (by kernel_rfl) (by decide +kernel) ?_ | refine HT.cond ?_ | refine HT.ret ?_ | refine HT.skip ?_ | refine HT.exit ?_ | refine Br.tt ?_ | refine Br.ff ?_); conv => whnf) | ((with_reducible first | refine Br.dec (fun hc => ?_) (fun hc => ?_) | refine Br.eq (fun hc => ?_) (fun hc => ?_) | refine Br.ne (fun hc => ?_) (fun hc => ?_)) <;> (first | (exfalso; omega) | conv => whnf)) | ((with_reducible first | refine Br.ttE (by decide) ?_ | refine Br.ffE (by decide) ?_ | refine Br.mk (fun hc => ?_) (fun hc => ?_) | refine Chk.mk (by first | omega | with_reducible rfl | (refine ⟨rfl, ?_⟩; omega) | decide | exact ⟨rfl, by omega, by omega, rfl⟩ | exact ⟨by assumption, rfl, by omega, by omega⟩) ?_ | refine Ar.fit (by omega) ?_ | refine Eqv.shr1 ?_ | refine Ar.u64 (by omega) ?_) <;> conv => whnf) | ((first | refine CallN.ret1 (isDigest_c _) ?_) <;> conv => whnf) | (with_reducible exact trivial) | ((with_reducible refine And.intro ?_ ?_) <;> conv => whnf) | (intro gn; conv => whnf))
  all_goals first
    | exact Fin.pureS (by repeat (first | exact List.Sublist.refl _ | refine List.Sublist.cons_cons _ ?_ | refine List.Sublist.cons _ ?_)) (sv_b (by unfold rcOk; rw [inB_false.2 (by omega)]; rfl))
    | exact Fin.pureS (by repeat (first | exact List.Sublist.refl _ | refine List.Sublist.cons_cons _ ?_ | refine List.Sublist.cons _ ?_)) (sv_b (by unfold rcOk; rw [(inB_true (n := r.i)).2 (by omega)]; rfl))
    | trace_state⟩
theorem implRD_c (r : Rc) : SRet Try.prog 29 [rcV r] (· = .i (rcD r)) := ⟨fun R => by
  have hO := implRV_c r
  cases hok : rcOk r
  refine SCalls.enter tt_ok Try.func29 (by kernel_rfl) rfl [(900, .cust R)] rfl (argF _) (fun w F v k h => h) (by simp) ?_
  · repeat' (first | (with_reducible first | refine HT.seq ?_ | refine HT.block ?_ | refine Br.not ?_) | ((with_reducible first | refine HT.region tt_ok ?_ | refine HT.drawn tt_ok (by kernel_rfl) (by decide +kernel) ?_ | refine HT.drawnL tt_ok (by kernel_rfl) (by decide +kernel) ?_ | refine HT.cond ?_ | refine HT.ret ?_ | refine HT.skip ?_ | refine HT.exit ?_ | refine Br.tt ?_ | refine Br.ff ?_); conv => whnf) | ((with_reducible first | refine Br.dec (fun hc => ?_) (fun hc => ?_) | refine Br.eq (fun hc => ?_) (fun hc => ?_) | refine Br.ne (fun hc => ?_) (fun hc => ?_)) <;> (first | (exfalso; omega) | conv => whnf)) | ((with_reducible first | refine Br.ttE (by decide) ?_ | refine Br.ffE (by decide) ?_ | refine Br.mk (fun hc => ?_) (fun hc => ?_) | refine Chk.mk (by first | omega | with_reducible rfl | (refine ⟨rfl, ?_⟩; omega) | decide | exact ⟨rfl, by omega, by omega, rfl⟩ | exact ⟨by assumption, rfl, by omega, by omega⟩) ?_ | refine Ar.fit (by omega) ?_ | refine Eqv.shr1 ?_ | refine Ar.u64 (by omega) ?_) <;> conv => whnf) | ((first | refine CallN.ret1 (hO.bf hok) ?_) <;> conv => whnf) | (with_reducible exact trivial) | ((with_reducible refine And.intro ?_ ?_) <;> conv => whnf) | (intro gn; conv => whnf))
    all_goals exact Fin.pureS (by repeat (first | exact List.Sublist.refl _ | refine List.Sublist.cons_cons _ ?_ | refine List.Sublist.cons _ ?_)) (sv_i (rcD_bad hok).symm)
  have hr := rcOk_iff.1 hok
  have hN := rcN_d hok
  have hP := implHP_c _ _ hN hr.2
  have hD := rcD_ok hok
  cases hb : r.b
  · have e : rcN r = 2 * r.i := by unfold rcN; rw [hb]; simp
    rw [e] at hP hD
    refine SCalls.enter tt_ok Try.func29 (by kernel_rfl) rfl [(900, .cust R)] rfl (argF _) (fun w F v k h => h) (by simp) ?_
    repeat' (first | (with_reducible first | refine HT.seq ?_ | refine HT.block ?_ | refine Br.not ?_) | ((with_reducible first | refine HT.region tt_ok ?_ | refine HT.drawn tt_ok (by kernel_rfl) (by decide +kernel) ?_ | refine HT.drawnL tt_ok (by kernel_rfl) (by decide +kernel) ?_ | refine HT.cond ?_ | refine HT.ret ?_ | refine HT.skip ?_ | refine HT.exit ?_ | refine Br.tt ?_ | refine Br.ff ?_); conv => whnf) | ((with_reducible first | refine Br.dec (fun hc => ?_) (fun hc => ?_) | refine Br.eq (fun hc => ?_) (fun hc => ?_) | refine Br.ne (fun hc => ?_) (fun hc => ?_)) <;> (first | (exfalso; omega) | conv => whnf)) | ((with_reducible first | refine Br.ttE (by decide) ?_ | refine Br.ffE (by decide) ?_ | refine Br.mk (fun hc => ?_) (fun hc => ?_) | refine Chk.mk (by first | omega | with_reducible rfl | (refine ⟨rfl, ?_⟩; omega) | decide | exact ⟨rfl, by omega, by omega, rfl⟩ | exact ⟨by assumption, rfl, by omega, by omega⟩) ?_ | refine Ar.fit (by omega) ?_ | refine Eqv.shr1 ?_ | refine Ar.u64 (by omega) ?_) <;> conv => whnf) | ((first | refine CallN.ret1 (hO.bt hok) ?_ | refine CallN.ret1 (hP) ?_) <;> conv => whnf) | (with_reducible exact trivial) | ((with_reducible refine And.intro ?_ ?_) <;> conv => whnf) | (intro gn; conv => whnf))
    all_goals first | (exfalso; simp_all; done) | exact Fin.pureS (by repeat (first | exact List.Sublist.refl _ | refine List.Sublist.cons_cons _ ?_ | refine List.Sublist.cons _ ?_)) (sv_i hD.symm)
  · have e : rcN r = 2 * r.i + 1 := by unfold rcN; rw [hb]; simp
    rw [e] at hP hD
    refine SCalls.enter tt_ok Try.func29 (by kernel_rfl) rfl [(900, .cust R)] rfl (argF _) (fun w F v k h => h) (by simp) ?_
    repeat' (first | (with_reducible first | refine HT.seq ?_ | refine HT.block ?_ | refine Br.not ?_) | ((with_reducible first | refine HT.region tt_ok ?_ | refine HT.drawn tt_ok (by kernel_rfl) (by decide +kernel) ?_ | refine HT.drawnL tt_ok (by kernel_rfl) (by decide +kernel) ?_ | refine HT.cond ?_ | refine HT.ret ?_ | refine HT.skip ?_ | refine HT.exit ?_ | refine Br.tt ?_ | refine Br.ff ?_); conv => whnf) | ((with_reducible first | refine Br.dec (fun hc => ?_) (fun hc => ?_) | refine Br.eq (fun hc => ?_) (fun hc => ?_) | refine Br.ne (fun hc => ?_) (fun hc => ?_)) <;> (first | (exfalso; omega) | conv => whnf)) | ((with_reducible first | refine Br.ttE (by decide) ?_ | refine Br.ffE (by decide) ?_ | refine Br.mk (fun hc => ?_) (fun hc => ?_) | refine Chk.mk (by first | omega | with_reducible rfl | (refine ⟨rfl, ?_⟩; omega) | decide | exact ⟨rfl, by omega, by omega, rfl⟩ | exact ⟨by assumption, rfl, by omega, by omega⟩) ?_ | refine Ar.fit (by omega) ?_ | refine Eqv.shr1 ?_ | refine Ar.u64 (by omega) ?_) <;> conv => whnf) | ((first | refine CallN.ret1 (hO.bt hok) ?_ | refine CallN.ret1 (hP) ?_) <;> conv => whnf) | (with_reducible exact trivial) | ((with_reducible refine And.intro ?_ ?_) <;> conv => whnf) | (intro gn; conv => whnf))
    all_goals first | (exfalso; simp_all; done) | exact Fin.pureS (by repeat (first | exact List.Sublist.refl _ | refine List.Sublist.cons_cons _ ?_ | refine List.Sublist.cons _ ?_)) (sv_i hD.symm)⟩
end Go.Proofs.Ytcagfmbboliohaa
