/- Voters in plain Lean. -/
import Derived.Test.YtbcmpfhemangpaaTyPure
set_option linter.all false
namespace Go.Proofs.Ytbcmpfhemangpaa

/-- a vote -/
structure Vo where
  r : Int
  a : Int
  d : Int
instance : Inhabited Vo := ⟨⟨0, 0, 0⟩⟩
theorem vo_ext {u v : Vo} (h0 : u.r = v.r) (h1 : u.a = v.a) (h2 : u.d = v.d) : u = v := by
  cases u; cases v; simp at *; exact ⟨h0, h1, h2⟩
instance : DecidableEq Vo := fun u v => if h : u.r = v.r ∧ u.a = v.a ∧ u.d = v.d then .isTrue (vo_ext h.1 h.2.1 h.2.2) else .isFalse fun e => h (by rw [e]; simp)
abbrev vo (vs : List Vo) (i : Nat) : Vo := vs.getD i default
theorem vo_eq {vs : List Vo} {i : Nat} (h : i < vs.length) : vo vs i = vs[i] := by simp [vo, h]
theorem vo_mem {vs : List Vo} {i : Nat} (h : i < vs.length) : vo vs i ∈ vs := by rw [vo_eq h]; exact List.getElem_mem _
theorem mem_vo {vs : List Vo} {u : Vo} (h : u ∈ vs) : ∃ i, i < vs.length ∧ vo vs i = u := by
  obtain ⟨i, hi, e⟩ := List.getElem_of_mem h
  exact ⟨i, hi, (vo_eq hi).trans e⟩
def bfo (u v : Vo) : Bool := decide (u.r < v.r) || decide (u.r = v.r) && decide (u.a < v.a)
theorem bfo_iff {u v : Vo} : bfo u v = true ↔ u.r < v.r ∨ u.r = v.r ∧ u.a < v.a := by simp [bfo]
theorem bfo_false {u v : Vo} : bfo u v = false ↔ ¬ (u.r < v.r ∨ u.r = v.r ∧ u.a < v.a) := by rw [← Bool.not_eq_true, bfo_iff]
theorem bfo_trans {u v w : Vo} (h : bfo u v = true) (k : bfo v w = true) : bfo u w = true := by rw [bfo_iff] at *; omega
theorem bfo_irr {u : Vo} : bfo u u = false := by rw [bfo_false]; omega
def sameS (u v : Vo) : Prop := u.r = v.r ∧ u.a = v.a
instance (u v : Vo) : Decidable (sameS u v) := inferInstanceAs (Decidable (_ ∧ _))
theorem not_same {u v : Vo} (h : bfo u v = true) : ¬ sameS u v := fun e => by rw [bfo_iff] at h; unfold sameS at e; omega
theorem not_same' {u v : Vo} (h : bfo v u = true) : ¬ sameS u v := fun e => by rw [bfo_iff] at h; unfold sameS at e; omega
def okV (v : Vo) : Bool := vtOk v.r v.a v.d
theorem okV_iff {v : Vo} : okV v = true ↔ (0 ≤ v.r ∧ v.r ≤ 30) ∧ (0 ≤ v.a ∧ v.a ≤ 6) ∧ 0 ≤ v.d ∧ v.d ≤ 990 := by
  unfold okV vtOk inB
  simp
/-- a vote is well placed -/
def stV (f : Int) (vs : List Vo) (k : Nat) : Bool := okV (vo vs k) && (decide (f ≤ (vo vs k).r) && (decide (k = 0) || bfo (vo vs (k - 1)) (vo vs k)))
theorem stV_iff {f : Int} {vs : List Vo} {k : Nat} : stV f vs k = true ↔ okV (vo vs k) = true ∧ f ≤ (vo vs k).r ∧ (0 < k → bfo (vo vs (k - 1)) (vo vs k) = true) := by
  unfold stV
  simp only [Bool.and_eq_true, Bool.or_eq_true, decide_eq_true_eq]
  constructor
  · rintro ⟨h1, h2, h3⟩; exact ⟨h1, h2, fun h => h3.resolve_left (by omega)⟩
  · rintro ⟨h1, h2, h3⟩; exact ⟨h1, h2, (Nat.eq_zero_or_pos k).imp_right h3⟩
def xvOk (f : Int) (vs : List Vo) : Bool := inB f 0 31 && (decide (vs.length ≤ 40) && decide (∀ k, k < vs.length → stV f vs k = true))
theorem xvOk_iff {f : Int} {vs : List Vo} : xvOk f vs = true ↔ (0 ≤ f ∧ f ≤ 31) ∧ vs.length ≤ 40 ∧ ∀ k, k < vs.length → stV f vs k = true := by
  unfold xvOk inB
  simp only [Bool.and_eq_true, decide_eq_true_eq]
theorem srt_of {f : Int} {vs : List Vo} (h : ∀ k, k < vs.length → stV f vs k = true) : ∀ {i j : Nat}, i < j → j < vs.length → bfo (vo vs i) (vo vs j) = true := by
  intro i j hij
  induction j with
  | zero => omega
  | succ j ih =>
    intro hj
    have h1 := (stV_iff.1 (h (j + 1) hj)).2.2 (by omega)
    rw [Nat.add_sub_cancel] at h1
    rcases Nat.lt_succ_iff_lt_or_eq.1 hij with h2 | rfl
    · exact bfo_trans (ih h2 (by omega)) h1
    · exact h1
def Srt (vs : List Vo) : Prop := vs.Pairwise fun u v => bfo u v = true
theorem Srt.of {vs : List Vo} (h : ∀ i j, i < j → j < vs.length → bfo (vo vs i) (vo vs j) = true) : Srt vs := by
  refine List.pairwise_iff_getElem.2 fun i j hi hj hij => ?_
  have := h i j hij hj
  rwa [vo_eq hi, vo_eq hj] at this
theorem Srt.get {vs : List Vo} (h : Srt vs) {i j : Nat} (hij : i < j) (hj : j < vs.length) : bfo (vo vs i) (vo vs j) = true := by
  rw [vo_eq (by omega : i < vs.length), vo_eq hj]
  exact List.pairwise_iff_getElem.1 h i j (by omega) hj hij
/-- a valid voter: sorted, each vote valid and not below the floor -/
theorem xv_parts {f : Int} {vs : List Vo} : xvOk f vs = true ↔ (0 ≤ f ∧ f ≤ 31) ∧ vs.length ≤ 40 ∧ Srt vs ∧ ∀ v ∈ vs, okV v = true ∧ f ≤ v.r := by
  rw [xvOk_iff]
  constructor
  · rintro ⟨h1, h2, h3⟩
    refine ⟨h1, h2, Srt.of fun i j => srt_of h3, fun v hv => ?_⟩
    obtain ⟨i, hi, rfl⟩ := mem_vo hv
    have := stV_iff.1 (h3 i hi)
    exact ⟨this.1, this.2.1⟩
  · rintro ⟨h1, h2, h3, h4⟩
    refine ⟨h1, h2, fun k hk => stV_iff.2 ?_⟩
    have := h4 _ (vo_mem hk)
    exact ⟨this.1, this.2, fun h0 => h3.get (by omega) hk⟩
/-- sorted lists with the same members are one -/
theorem srt_ext : ∀ {a b : List Vo}, Srt a → Srt b → (∀ x, x ∈ a ↔ x ∈ b) → a = b
  | [], [], _, _, _ => rfl
  | [], y :: b, _, _, h => by have := (h y).2 List.mem_cons_self; cases this
  | x :: a, [], _, _, h => by have := (h x).1 List.mem_cons_self; cases this
  | x :: a, y :: b, ha, hb, h => by
    obtain ⟨a1, a2⟩ := List.pairwise_cons.1 ha
    obtain ⟨b1, b2⟩ := List.pairwise_cons.1 hb
    have e : x = y := by
      rcases List.mem_cons.1 ((h x).1 List.mem_cons_self) with e | hx
      · exact e
      · rcases List.mem_cons.1 ((h y).2 List.mem_cons_self) with e | hy
        · exact e.symm
        · have := bfo_trans (a1 y hy) (b1 x hx)
          rw [bfo_irr] at this; cases this
    subst e
    rw [srt_ext a2 b2 fun z => ?_]
    constructor
    · intro hz
      rcases List.mem_cons.1 ((h z).1 (List.mem_cons_of_mem _ hz)) with rfl | hz'
      · have := a1 z hz; rw [bfo_irr] at this; cases this
      · exact hz'
    · intro hz
      rcases List.mem_cons.1 ((h z).2 (List.mem_cons_of_mem _ hz)) with rfl | hz'
      · have := b1 z hz; rw [bfo_irr] at this; cases this
      · exact hz'
/-- no two votes of a sorted list are about one vertex -/
theorem Srt.uniq {vs : List Vo} (h : Srt vs) {u v : Vo} (hu : u ∈ vs) (hv : v ∈ vs) (hs : sameS u v) : u = v := by
  obtain ⟨i, hi, rfl⟩ := mem_vo hu
  obtain ⟨j, hj, rfl⟩ := mem_vo hv
  rcases Nat.lt_trichotomy i j with h1 | rfl | h1
  · exact absurd hs (not_same (h.get h1 hj))
  · rfl
  · exact absurd hs (not_same' (h.get h1 hi))
/-- the place of a vote -/
def plv (vs : List Vo) (v : Vo) : Nat := vs.findIdx fun u => !bfo u v
def insV (vs : List Vo) (v : Vo) : List Vo := vs.take (plv vs v) ++ v :: vs.drop (plv vs v)
theorem plv_le {vs : List Vo} {v : Vo} : plv vs v ≤ vs.length := List.findIdx_le_length
theorem plv_eq {vs : List Vo} {v : Vo} {k : Nat} (hk : k ≤ vs.length) (h : ∀ j, j < k → bfo (vo vs j) v = true) (h2 : k < vs.length → bfo (vo vs k) v = false) : plv vs v = k := by
  unfold plv
  rcases Nat.lt_or_ge k vs.length with h3 | h3
  · refine (List.findIdx_eq h3).2 ⟨?_, fun j hj => ?_⟩
    · have := h2 h3; rw [vo_eq h3] at this; simp [this]
    · have := h j hj; rw [vo_eq (by omega)] at this; simp [this]
  · obtain rfl : k = vs.length := by omega
    refine List.findIdx_eq_length.2 fun x hx => ?_
    obtain ⟨i, hi, rfl⟩ := mem_vo hx
    rw [h i hi]; rfl
theorem insV_mem {vs : List Vo} {v x : Vo} : x ∈ insV vs v ↔ x = v ∨ x ∈ vs := by
  unfold insV
  rw [List.mem_append, List.mem_cons]
  conv => rhs; rw [← List.take_append_drop (plv vs v) vs, List.mem_append]
  constructor
  · rintro (h | h | h)
    · exact .inr (.inl h)
    · exact .inl h
    · exact .inr (.inr h)
  · rintro (h | h | h)
    · exact .inr (.inl h)
    · exact .inl h
    · exact .inr (.inr h)
theorem insV_len {vs : List Vo} {v : Vo} : (insV vs v).length = vs.length + 1 := by
  unfold insV
  have := plv_le (vs := vs) (v := v)
  simp; omega
theorem insV_srt {vs : List Vo} {v : Vo} (h : Srt vs) (hn : ∀ u ∈ vs, ¬ sameS u v) : Srt (insV vs v) := by
  have hlt : ∀ j, j < plv vs v → bfo (vo vs j) v = true := fun j hj => by
    have hj2 : j < vs.length := Nat.lt_of_lt_of_le hj plv_le
    have := List.not_of_lt_findIdx hj
    rw [vo_eq hj2]
    simpa using this
  have hge : ∀ j, plv vs v ≤ j → j < vs.length → bfo v (vo vs j) = true := fun j hj hj2 => by
    have hp : plv vs v < vs.length := by omega
    have h0 : bfo (vo vs (plv vs v)) v = false := by
      have h9 : (!bfo (vs[plv vs v]'hp) v) = true := List.findIdx_getElem (w := hp)
      rw [vo_eq hp]
      cases h8 : bfo (vs[plv vs v]'hp) v
      · rfl
      · rw [h8] at h9; cases h9
    have h1 := hn _ (vo_mem hp)
    have h2 : bfo v (vo vs (plv vs v)) = true := by
      rw [bfo_false] at h0
      rw [bfo_iff]
      unfold sameS at h1
      omega
    rcases Nat.lt_or_eq_of_le hj with h3 | h3
    · exact bfo_trans h2 (h.get h3 hj2)
    · rw [← h3]; exact h2
  unfold insV
  refine List.pairwise_append.2 ⟨h.sublist (List.take_sublist _ _), List.pairwise_cons.2 ⟨fun x hx => ?_, h.sublist (List.drop_sublist _ _)⟩, fun x hx y hy => ?_⟩
  · obtain ⟨i, hi, rfl⟩ := List.getElem_of_mem hx
    rw [List.getElem_drop, ← vo_eq (by simp at hi; omega)]
    exact hge _ (by omega) (by simp at hi; omega)
  · obtain ⟨i, hi, rfl⟩ := List.getElem_of_mem hx
    have hi2 : i < plv vs v ∧ i < vs.length := by simp at hi; omega
    rw [List.getElem_take, ← vo_eq hi2.2]
    rcases List.mem_cons.1 hy with rfl | hy
    · exact hlt i hi2.1
    · obtain ⟨j, hj, rfl⟩ := List.getElem_of_mem hy
      rw [List.getElem_drop, ← vo_eq (by simp at hj; omega)]
      exact bfo_trans (hlt i hi2.1) (hge _ (by omega) (by simp at hj; omega))
/-- the vote about the same vertex -/
def fdv (vs : List Vo) (v : Vo) : Option Vo := vs.find? fun u => decide (sameS u v)
theorem fdv_some {vs : List Vo} {v u : Vo} (h : fdv vs v = some u) : u ∈ vs ∧ sameS u v := ⟨List.mem_of_find?_eq_some h, by simpa using List.find?_some h⟩
theorem fdv_none {vs : List Vo} {v : Vo} : fdv vs v = none ↔ ∀ u ∈ vs, ¬ sameS u v := by
  unfold fdv
  rw [List.find?_eq_none]
  simp
theorem fdv_of {vs : List Vo} {v u : Vo} (h : Srt vs) (hu : u ∈ vs) (hs : sameS u v) : fdv vs v = some u := by
  cases e : fdv vs v with
  | none => exact absurd hs (fdv_none.1 e u hu)
  | some w =>
    obtain ⟨h1, h2⟩ := fdv_some e
    rw [h.uniq h1 hu ⟨h2.1.trans hs.1.symm, h2.2.trans hs.2.symm⟩]
/-- a vote is cast -/
def sgn (f : Int) (vs : List Vo) (v : Vo) : Int × List Vo × Bool :=
  if xvOk f vs = true ∧ okV v = true then
    match fdv vs v with
    | some u => (f, vs, decide (u.d = v.d))
    | none => if v.r < f ∨ 40 ≤ vs.length then (f, vs, false) else (f, insV vs v, true)
  else (0, [], false)
theorem sgn_bad {f : Int} {vs : List Vo} {v : Vo} (h : ¬ (xvOk f vs = true ∧ okV v = true)) : sgn f vs v = (0, [], false) := if_neg h
theorem sgn_old {f : Int} {vs : List Vo} {v u : Vo} (h1 : xvOk f vs = true) (h2 : okV v = true) (h : fdv vs v = some u) : sgn f vs v = (f, vs, decide (u.d = v.d)) := by
  unfold sgn; rw [if_pos ⟨h1, h2⟩, h]
theorem sgn_full {f : Int} {vs : List Vo} {v : Vo} (h1 : xvOk f vs = true) (h2 : okV v = true) (h : fdv vs v = none) (h3 : v.r < f ∨ 40 ≤ vs.length) : sgn f vs v = (f, vs, false) := by
  unfold sgn; rw [if_pos ⟨h1, h2⟩, h]; exact if_pos h3
theorem sgn_new {f : Int} {vs : List Vo} {v : Vo} (h1 : xvOk f vs = true) (h2 : okV v = true) (h : fdv vs v = none) (h3 : ¬ (v.r < f ∨ 40 ≤ vs.length)) : sgn f vs v = (f, insV vs v, true) := by
  unfold sgn; rw [if_pos ⟨h1, h2⟩, h]; exact if_neg h3
theorem sgn_len {f : Int} {vs : List Vo} {v : Vo} : (sgn f vs v).2.1.length ≤ vs.length + 1 := by
  unfold sgn
  split
  · split
    · dsimp only; omega
    · split
      · dsimp only; omega
      · rw [insV_len]; omega
  · simp
/-- what a vote that succeeds leaves -/
theorem sgn_ok {f : Int} {vs : List Vo} {v : Vo} (h : (sgn f vs v).2.2 = true) : xvOk f vs = true ∧ okV v = true ∧ (sgn f vs v).1 = f ∧ xvOk f (sgn f vs v).2.1 = true ∧ (∀ x, x ∈ (sgn f vs v).2.1 ↔ x = v ∨ x ∈ vs) ∧ (sgn f vs v).2.1.length ≤ vs.length + 1 := by
  refine (?_ : xvOk f vs = true ∧ okV v = true ∧ (sgn f vs v).1 = f ∧ xvOk f (sgn f vs v).2.1 = true ∧ (∀ x, x ∈ (sgn f vs v).2.1 ↔ x = v ∨ x ∈ vs) ∧ (sgn f vs v).2.1.length ≤ vs.length + 1)
  by_cases hb : xvOk f vs = true ∧ okV v = true
  · obtain ⟨h1, h2⟩ := hb
    cases e : fdv vs v with
    | some u =>
      rw [sgn_old h1 h2 e] at h ⊢
      obtain ⟨hu, hs⟩ := fdv_some e
      have hd : u.d = v.d := by simpa using h
      have : u = v := vo_ext hs.1 hs.2 hd
      subst this
      exact ⟨h1, h2, rfl, h1, fun x => ⟨.inr, fun h => h.elim (fun e => e ▸ hu) id⟩, by dsimp only; omega⟩
    | none =>
      by_cases h3 : v.r < f ∨ 40 ≤ vs.length
      · rw [sgn_full h1 h2 e h3] at h; cases h
      · rw [sgn_new h1 h2 e h3] at h ⊢
        obtain ⟨p1, p2, p3, p4⟩ := xv_parts.1 h1
        refine ⟨h1, h2, rfl, xv_parts.2 ⟨p1, by rw [insV_len]; omega, insV_srt p3 (fdv_none.1 e), fun x hx => ?_⟩, fun x => insV_mem, by rw [insV_len]; omega⟩
        rcases insV_mem.1 hx with rfl | hx
        · exact ⟨h2, by omega⟩
        · exact p4 x hx
  · rw [sgn_bad hb] at h; cases h
/-- a vote succeeds -/
theorem sgn_yes {f : Int} {vs : List Vo} {v : Vo} (h1 : xvOk f vs = true) (h2 : okV v = true) (hc : ∀ u ∈ vs, sameS u v → u.d = v.d) (hr : v ∈ vs ∨ (f ≤ v.r ∧ vs.length < 40)) : (sgn f vs v).2.2 = true := by
  cases e : fdv vs v with
  | some u =>
    rw [sgn_old h1 h2 e]
    obtain ⟨hu, hs⟩ := fdv_some e
    exact decide_eq_true (hc u hu hs)
  | none =>
    have h3 : ¬ (v.r < f ∨ 40 ≤ vs.length) := by
      rcases hr with h | h
      · exact absurd ⟨rfl, rfl⟩ (fdv_none.1 e v h)
      · omega
    rw [sgn_new h1 h2 e h3]
/-- no vote that succeeds contradicts one that is there -/
theorem sgn_con {f : Int} {vs : List Vo} {v u : Vo} (h : (sgn f vs v).2.2 = true) (hu : u ∈ vs) (hs : sameS u v) : u = v := by
  obtain ⟨h1, h2, _⟩ := sgn_ok h
  have e := fdv_of (xv_parts.1 h1).2.2.1 hu hs
  rw [sgn_old h1 h2 e] at h
  have hd : u.d = v.d := by simpa using h
  exact vo_ext hs.1 hs.2 hd
/-- the order of two votes does not matter -/
theorem sgn_comm {f : Int} {vs : List Vo} {u v : Vo} (h1 : (sgn f vs v).2.2 = true) (h2 : (sgn f (sgn f vs v).2.1 u).2.2 = true) :
    (sgn f vs u).2.2 = true ∧ (sgn f (sgn f vs u).2.1 v).2.2 = true ∧ (sgn f (sgn f vs u).2.1 v).2.1 = (sgn f (sgn f vs v).2.1 u).2.1 := by
  obtain ⟨x1, okv, _, x2, m1, l1⟩ := sgn_ok h1
  obtain ⟨_, oku, _, x3, m2, l2⟩ := sgn_ok h2
  obtain ⟨p1, p2, p3, p4⟩ := xv_parts.1 x1
  obtain ⟨q1, q2, q3, q4⟩ := xv_parts.1 x2
  obtain ⟨r1, r2, r3, r4⟩ := xv_parts.1 x3
  have hua := m2 u
  have hfu : f ≤ u.r := (r4 u ((m2 u).2 (.inl rfl))).2
  have hfv : f ≤ v.r := (q4 v ((m1 v).2 (.inl rfl))).2
  -- the lengths of sorted lists by their members
  have hvn : v ∉ vs → (sgn f vs v).2.1.length = vs.length + 1 := fun hn => by
    have e : fdv vs v = none := fdv_none.2 fun w hw hs => hn (sgn_con h1 hw hs ▸ hw)
    by_cases h3 : v.r < f ∨ 40 ≤ vs.length
    · rw [sgn_full x1 okv e h3] at h1; cases h1
    · rw [sgn_new x1 okv e h3]; exact insV_len
  have hun : u ∉ (sgn f vs v).2.1 → (sgn f vs v).2.1.length < 40 := fun hn => by
    have e : fdv (sgn f vs v).2.1 u = none := fdv_none.2 fun w hw hs => hn (sgn_con h2 hw hs ▸ hw)
    by_cases h3 : u.r < f ∨ 40 ≤ (sgn f vs v).2.1.length
    · rw [sgn_full x2 oku e h3] at h2; cases h2
    · omega
  have hvl : v ∉ vs → vs.length < 40 := fun hn => by have := hvn hn; omega
  have hul : vs.length ≤ (sgn f vs v).2.1.length := by
    by_cases hn : v ∈ vs
    · have e := fdv_of p3 hn (v := v) ⟨rfl, rfl⟩
      rw [sgn_old x1 okv e]; exact Nat.le_refl _
    · rw [hvn hn]; omega
  have hu : (sgn f vs u).2.2 = true := by
    refine sgn_yes x1 oku (fun w hw hs => by rw [sgn_con h2 ((m1 w).2 (.inr hw)) hs]) ?_
    by_cases hn : u ∈ (sgn f vs v).2.1
    · rcases (m1 u).1 hn with e | h
      · by_cases hv : v ∈ vs
        · exact .inl (e ▸ hv)
        · exact .inr ⟨hfu, hvl hv⟩
      · exact .inl h
    · exact .inr ⟨hfu, by have := hun hn; omega⟩
  obtain ⟨_, _, _, y2, n1, k1⟩ := sgn_ok hu
  obtain ⟨s1, s2, s3, s4⟩ := xv_parts.1 y2
  have hcu : ∀ w ∈ (sgn f vs u).2.1, sameS w v → w.d = v.d := fun w hw hs => by
    rcases (n1 w).1 hw with rfl | hw
    · rw [sgn_con h2 ((m1 v).2 (.inl rfl)) ⟨hs.1.symm, hs.2.symm⟩]
    · rw [sgn_con h1 hw hs]
  have hunl : u ∉ vs → (sgn f vs u).2.1.length = vs.length + 1 := fun hn => by
    have e : fdv vs u = none := fdv_none.2 fun w hw hs => hn (sgn_con hu hw hs ▸ hw)
    by_cases h3 : u.r < f ∨ 40 ≤ vs.length
    · rw [sgn_full x1 oku e h3] at hu; cases hu
    · rw [sgn_new x1 oku e h3]; exact insV_len
  have huo : u ∈ vs → (sgn f vs u).2.1 = vs := fun hn => by
    rw [sgn_old x1 oku (fdv_of p3 hn (v := u) ⟨rfl, rfl⟩)]
  have hv : (sgn f (sgn f vs u).2.1 v).2.2 = true := by
    refine sgn_yes y2 okv hcu ?_
    by_cases hn : v ∈ (sgn f vs u).2.1
    · exact .inl hn
    · have hv : v ∉ vs := fun h => hn ((n1 v).2 (.inr h))
      have huv : u ≠ v := fun e => hn ((n1 v).2 (.inl e.symm))
      refine .inr ⟨hfv, ?_⟩
      by_cases hu2 : u ∈ vs
      · rw [huo hu2]; exact hvl hv
      · rw [hunl hu2]
        have : u ∉ (sgn f vs v).2.1 := fun h => by
          rcases (m1 u).1 h with e | h
          · exact huv e
          · exact hu2 h
        have h5 := hun this
        rw [hvn hv] at h5
        exact h5
  refine ⟨hu, hv, ?_⟩
  obtain ⟨_, _, _, z2, n2, _⟩ := sgn_ok hv
  obtain ⟨_, _, t3, _⟩ := xv_parts.1 z2
  refine srt_ext t3 r3 fun x => ?_
  rw [n2 x, n1 x, m2 x, m1 x]
  constructor
  · rintro (h | h | h)
    · exact .inr (.inl h)
    · exact .inl h
    · exact .inr (.inr h)
  · rintro (h | h | h)
    · exact .inr (.inl h)
    · exact .inl h
    · exact .inr (.inr h)
/-- the votes from a floor on -/
def fgt (vs : List Vo) (fl : Int) : Nat → List Vo
  | 0 => []
  | k + 1 => if fl ≤ (vo vs k).r then fgt vs fl k ++ [vo vs k] else fgt vs fl k
theorem fgt1 {vs : List Vo} {fl : Int} {k : Nat} (h : fl ≤ (vo vs k).r) : fgt vs fl (k + 1) = fgt vs fl k ++ [vo vs k] := if_pos h
theorem fgt0 {vs : List Vo} {fl : Int} {k : Nat} (h : ¬ fl ≤ (vo vs k).r) : fgt vs fl (k + 1) = fgt vs fl k := if_neg h
theorem fgt_len {vs : List Vo} {fl : Int} : ∀ {k : Nat}, (fgt vs fl k).length ≤ k
  | 0 => Nat.le_refl _
  | k + 1 => by
    have := fgt_len (vs := vs) (fl := fl) (k := k)
    unfold fgt
    split
    · rw [List.length_append]; simp; omega
    · omega
theorem fgt_mem {vs : List Vo} {fl : Int} {x : Vo} : ∀ {k : Nat}, k ≤ vs.length → x ∈ fgt vs fl k → x ∈ vs ∧ fl ≤ x.r ∧ ∃ j, j < k ∧ x = vo vs j
  | 0, _, h => by cases h
  | k + 1, hk, h => by
    by_cases e : fl ≤ (vo vs k).r
    · rw [fgt1 e, List.mem_append, List.mem_singleton] at h
      rcases h with h | rfl
      · obtain ⟨a, b, j, hj, e⟩ := fgt_mem (by omega) h
        exact ⟨a, b, j, by omega, e⟩
      · exact ⟨vo_mem (by omega), e, k, by omega, rfl⟩
    · rw [fgt0 e] at h
      obtain ⟨a, b, j, hj, e⟩ := fgt_mem (by omega) h
      exact ⟨a, b, j, by omega, e⟩
theorem fgt_srt {vs : List Vo} {fl : Int} (hs : Srt vs) : ∀ {k : Nat}, k ≤ vs.length → Srt (fgt vs fl k)
  | 0, _ => List.Pairwise.nil
  | k + 1, hk => by
    by_cases e : fl ≤ (vo vs k).r
    · rw [fgt1 e]
      refine List.pairwise_append.2 ⟨fgt_srt hs (by omega), by simp, fun x hx y hy => ?_⟩
      rw [List.mem_singleton.1 hy]
      obtain ⟨_, _, j, hj, rfl⟩ := fgt_mem (by omega) hx
      exact hs.get hj (by omega)
    · rw [fgt0 e]; exact fgt_srt hs (by omega)
def fgo (f : Int) (vs : List Vo) (fl : Int) : Int × List Vo × Bool := if xvOk f vs = true ∧ (f ≤ fl ∧ fl ≤ 31) then (fl, fgt vs fl vs.length, true) else (0, [], false)
theorem fgo_ok {f : Int} {vs : List Vo} {fl : Int} (h : (fgo f vs fl).2.2 = true) : xvOk f vs = true ∧ fgo f vs fl = (fl, fgt vs fl vs.length, true) ∧ xvOk fl (fgt vs fl vs.length) = true := by
  unfold fgo at h ⊢
  by_cases hb : xvOk f vs = true ∧ (f ≤ fl ∧ fl ≤ 31)
  · rw [if_pos hb]
    obtain ⟨p1, p2, p3, p4⟩ := xv_parts.1 hb.1
    have := fgt_len (vs := vs) (fl := fl) (k := vs.length)
    refine ⟨hb.1, rfl, xv_parts.2 ⟨by omega, by omega, fgt_srt p3 (Nat.le_refl _), fun v hv => ?_⟩⟩
    obtain ⟨h1, h2, _⟩ := fgt_mem (Nat.le_refl _) hv
    exact ⟨(p4 v h1).1, h2⟩
  · rw [if_neg hb] at h; cases h
/-- forgotten votes are not cast again -/
theorem fgo_no {f : Int} {vs : List Vo} {fl : Int} (h : (fgo f vs fl).2.2 = true) {v : Vo} (hv : v.r < fl) : (sgn fl (fgt vs fl vs.length) v).2.2 = false := by
  obtain ⟨_, _, h3⟩ := fgo_ok h
  by_cases ho : okV v = true
  · have e : fdv (fgt vs fl vs.length) v = none := fdv_none.2 fun u hu hs => by
      obtain ⟨_, h2, _⟩ := fgt_mem (Nat.le_refl _) hu
      have := hs.1
      omega
    rw [sgn_full h3 ho e (.inl hv)]
  · rw [sgn_bad fun h => ho h.2]
end Go.Proofs.Ytbcmpfhemangpaa
