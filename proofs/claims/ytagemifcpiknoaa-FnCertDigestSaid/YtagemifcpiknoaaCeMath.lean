/- Certificates: the plain laws. -/
import Derived.Test.YtagemifcpiknoaaCePure
set_option linter.all false
namespace Go.Proofs.Ytagemifcpiknoaa

theorem ceOk_iff {c keys : List Int} {d : Int} {sg : List Int} : ceOk c keys d sg = true ↔ keysOk c keys = true ∧ (0 ≤ d ∧ d ≤ 990) ∧ sg.length = c.length ∧ SgAll keys d sg c.length ∧ quo c ≤ wt c (sgn sg c.length) := by
  unfold ceOk ceIn
  simp only [Bool.and_eq_true, inB_true, decide_eq_true_eq]
  constructor
  · rintro ⟨⟨h1, h2, h3⟩, h4, h5⟩
    exact ⟨h1, h2, h3, h4, h5⟩
  · rintro ⟨h1, h2, h3, h4, h5⟩
    exact ⟨⟨h1, h2, h3⟩, h4, h5⟩
theorem getD_app {l : List Int} {x : Int} {i : Nat} (h : i < l.length) : (l ++ [x]).getD i default = l.getD i default := by
  rw [List.getD_eq_getElem?_getD, List.getD_eq_getElem?_getD, List.getElem?_append_left h]
theorem getD_last {l : List Int} {x : Int} : (l ++ [x]).getD l.length default = x := by simp
theorem psum_snoc (keys ms : List Int) (x : Int) : psum keys (ms ++ [x]) (ms ++ [x]).length = psum keys ms ms.length + keys.getD x.toNat default := by
  rw [List.length_append]
  show sumTo _ ms.length + _ = _
  simp only [getD_last]
  unfold psum
  rw [sumTo_congr fun i hi => by rw [getD_app hi]]
theorem wt_snoc (c ms : List Int) (x : Int) : wt c (ms ++ [x]) = wt c ms + c.getD x.toNat default := by
  unfold wt
  rw [List.length_append]
  show sumTo _ ms.length + _ = _
  simp only [getD_last]
  rw [sumTo_congr fun i hi => by rw [getD_app hi]]
theorem sgOk_eq {p d s : Int} (h : sgOk p d s = true) : (s * 5) % 997 = (p * (d + 1)) % 997 := by
  obtain ⟨hp, hd, hs⟩ := sgOk_rng h
  unfold sgOk at h
  simp only [Bool.and_eq_true, beq_iff_eq] at h
  have := h.2.2.2
  have hpd : 0 ≤ p * (d + 1) := Int.mul_nonneg (by omega) (by omega)
  rwa [tmod_pos (by omega), tmod_pos hpd] at this
theorem ssum_eq {keys : List Int} {d : Int} {sg : List Int} : ∀ {k : Nat}, SgAll keys d sg k → (ssum sg k * 5) % 997 = (psum keys (sgn sg k) (sgn sg k).length * (d + 1)) % 997
  | 0, _ => by simp [ssum, sgn, psum, sumTo]
  | k + 1, h => by
    have hk : SgAll keys d sg k := fun j hj => h j (by omega)
    have ih := ssum_eq hk
    by_cases h0 : sg.getD k default = 0
    · have e1 : sgn sg (k + 1) = sgn sg k := if_pos h0
      have e2 : ssum sg (k + 1) = ssum sg k := if_pos h0
      rw [e1, e2]; exact ih
    · have e1 : sgn sg (k + 1) = sgn sg k ++ [(k : Int)] := if_neg h0
      have e2 : ssum sg (k + 1) = (ssum sg k + sg.getD k default).tmod 997 := if_neg h0
      have hs := (h k (by omega)).resolve_left h0
      have he := sgOk_eq hs
      have hr := ssum_rng hk
      have hsr := (sgOk_rng hs).2.2
      rw [e1, e2, psum_snoc, Int.toNat_natCast, tmod_pos (by omega), Int.add_mul]
      omega
theorem sgn_mem {sg : List Int} : ∀ {k : Nat} {x : Int}, x ∈ sgn sg k ↔ (0 ≤ x ∧ x < k ∧ sg.getD x.toNat default ≠ 0)
  | 0, x => by simp [sgn]; omega
  | k + 1, x => by
    by_cases h0 : sg.getD k default = 0
    · rw [show sgn sg (k + 1) = sgn sg k from if_pos h0, sgn_mem]
      constructor
      · rintro ⟨a, b, c⟩; exact ⟨a, by omega, c⟩
      · rintro ⟨a, b, c⟩
        refine ⟨a, ?_, c⟩
        rcases (by omega : x < k ∨ x = k) with h | h
        · exact h
        · subst h; rw [Int.toNat_natCast] at c; exact absurd h0 c
    · rw [show sgn sg (k + 1) = sgn sg k ++ [(k : Int)] from if_neg h0, List.mem_append, sgn_mem, List.mem_singleton]
      constructor
      · rintro (⟨a, b, c⟩ | h)
        · exact ⟨a, by omega, c⟩
        · subst h; exact ⟨by omega, by omega, by rw [Int.toNat_natCast]; exact h0⟩
      · rintro ⟨a, b, c⟩
        rcases (by omega : x < k ∨ x = k) with h | h
        · exact .inl ⟨a, h, c⟩
        · exact .inr h
/-- a certificate that was made is valid -/
theorem ce_ck {c keys : List Int} {d : Int} {sg : List Int} (h : ceOk c keys d sg = true) : ckOk c keys d (sgn sg c.length) (ssum sg c.length) = true := by
  obtain ⟨h1, h2, h3, h4, h5⟩ := ceOk_iff.1 h
  have hm := sgn_ms (sg := sg) (n := c.length) (Nat.le_refl _)
  have hr := ssum_rng h4
  have hp := psum_rng h1 hm (Nat.le_refl _)
  have he := ssum_eq h4
  unfold ckOk ckIn
  rw [h1, inB_true.2 h2, hm, inB_true.2 hr, decide_eq_true h5]
  simp only [Bool.true_and, beq_iff_eq]
  have hpm : 0 ≤ psum keys (sgn sg c.length) (sgn sg c.length).length % 997 * (d + 1) := Int.mul_nonneg (by omega) (by omega)
  rw [tmod_pos (by omega), tmod_pos hp.1, tmod_pos hpm, he]
  generalize psum keys (sgn sg c.length) (sgn sg c.length).length = P
  rw [Int.mul_emod P (d + 1) 997, Int.mul_emod (P % 997) (d + 1) 997, Int.emod_emod_of_dvd _ (Int.dvd_refl 997)]
/-- other signatures over the same: those left are as they were, or none -/
theorem ce_part {c keys : List Int} {d : Int} {sg sg' : List Int} (h : ceOk c keys d sg = true) (hl : sg'.length = sg.length) (hs : ∀ i, i < c.length → sg'.getD i default = 0 ∨ sg'.getD i default = sg.getD i default) :
    ceOk c keys d sg' = decide (quo c ≤ wt c (sgn sg' c.length)) := by
  obtain ⟨h1, h2, h3, h4, h5⟩ := ceOk_iff.1 h
  have ha : SgAll keys d sg' c.length := fun j hj => by
    rcases hs j hj with h0 | h0
    · exact .inl h0
    · rw [h0]; exact h4 j hj
  rw [Bool.eq_iff_iff, ceOk_iff, decide_eq_true_eq]
  exact ⟨fun h => h.2.2.2.2, fun h => ⟨h1, h2, by omega, ha, h⟩⟩
/-- a signature is the only one of its kind -/
theorem sg_one {p d s s' : Int} (h : sgOk p d s = true) (h' : sgOk p d s' = true) : s = s' := by
  have e := sgOk_eq h
  have e' := sgOk_eq h'
  have r := (sgOk_rng h).2.2
  have r' := (sgOk_rng h').2.2
  omega
theorem ce_wrong {c keys : List Int} {d : Int} {sg : List Int} {k : Nat} {x : Int} (h : ceOk c keys d sg = true) (hk : k < c.length) (h0 : sg.getD k default ≠ 0) (hx : x ≠ 0) (hne : x ≠ sg.getD k default) : ceOk c keys d (sg.set k x) = false := by
  obtain ⟨h1, h2, h3, h4, h5⟩ := ceOk_iff.1 h
  rw [← Bool.not_eq_true, ceOk_iff]
  rintro ⟨_, _, _, ha, _⟩
  have e : (sg.set k x).getD k default = x := by
    rw [List.getD_eq_getElem?_getD, List.getElem?_set_self (by omega)]; rfl
  have := ha k hk
  rw [e] at this
  rcases this with h6 | h6
  · exact hx h6
  · exact hne (sg_one h6 ((h4 k hk).resolve_left h0))
/-- a quorum is not empty -/
theorem ce_some {c keys : List Int} {d : Int} {sg : List Int} (h : ceOk c keys d sg = true) : 0 < (sgn sg c.length).length := by
  obtain ⟨h1, _, _, _, h5⟩ := ceOk_iff.1 h
  have := quo_bd (keysOk_iff.1 h1).1
  rcases Nat.eq_zero_or_pos (sgn sg c.length).length with h0 | h0
  · have : sgn sg c.length = [] := List.eq_nil_of_length_eq_zero h0
    rw [this] at h5
    simp [wt, sumTo] at h5
    omega
  · exact h0
theorem sgn_congr {l l' : List Int} : ∀ {k : Nat}, (∀ i, i < k → l.getD i default = l'.getD i default) → sgn l k = sgn l' k
  | 0, _ => rfl
  | k + 1, h => by
    unfold sgn
    rw [h k (by omega), sgn_congr fun i hi => h i (by omega)]
/-- the first k, those struck out that q names -/
def zl (q : Nat → Prop) [DecidablePred q] (sg : List Int) : Nat → List Int
  | 0 => sg
  | k + 1 => if q k then (zl q sg k).set k 0 else zl q sg k
theorem zl_succ {q : Nat → Prop} [DecidablePred q] {sg : List Int} {k : Nat} : zl q sg (k + 1) = if q k then (zl q sg k).set k 0 else zl q sg k := rfl
theorem zl_len {q : Nat → Prop} [DecidablePred q] {sg : List Int} : ∀ {k : Nat}, (zl q sg k).length = sg.length
  | 0 => rfl
  | k + 1 => by
    rw [zl_succ]
    split
    · rw [List.length_set]; exact zl_len
    · exact zl_len
theorem set_get {l : List Int} {k i : Nat} {x : Int} (hk : k < l.length) : (l.set k x).getD i default = if i = k then x else l.getD i default := by
  rw [List.getD_eq_getElem?_getD]
  by_cases h : i = k
  · subst h; rw [List.getElem?_set_self hk, if_pos rfl]; rfl
  · rw [List.getElem?_set_ne (fun e => h e.symm), if_neg h, ← List.getD_eq_getElem?_getD]
theorem zl_get {q : Nat → Prop} [DecidablePred q] {sg : List Int} : ∀ {k : Nat}, k ≤ sg.length → ∀ i, (zl q sg k).getD i default = 0 ∨ (zl q sg k).getD i default = sg.getD i default
  | 0, _, i => .inr rfl
  | k + 1, h, i => by
    have ih := zl_get (q := q) (sg := sg) (k := k) (by omega) i
    have hl := zl_len (q := q) (sg := sg) (k := k)
    have e := set_get (l := zl q sg k) (k := k) (i := i) (x := 0) (by omega)
    rw [zl_succ]
    split
    · rw [e]
      split
      · exact .inl rfl
      · exact ih
    · exact ih
theorem zl_sgn {q : Nat → Prop} [DecidablePred q] {sg : List Int} {k : Nat} (hk : k < sg.length) : sgn (zl q sg (k + 1)) k = sgn (zl q sg k) k :=
  sgn_congr fun i hi => by
    rw [zl_succ]
    split
    · rw [set_get (l := zl q sg k) (by have := zl_len (q := q) (sg := sg) (k := k); omega), if_neg (by omega)]
    · rfl
theorem zl_t {q : Nat → Prop} [DecidablePred q] {sg : List Int} {k : Nat} (h : q k) (hk : k < sg.length) : zl q sg (k + 1) = (zl q sg k).set k 0 ∧ sgn (zl q sg (k + 1)) (k + 1) = sgn (zl q sg k) k := by
  have e : zl q sg (k + 1) = (zl q sg k).set k 0 := by rw [zl_succ, if_pos h]
  have hl := zl_len (q := q) (sg := sg) (k := k)
  refine ⟨e, ?_⟩
  rw [(sgn0 (sg := zl q sg (k + 1)) (k := k) (by rw [e, set_get (by omega), if_pos rfl])).1, zl_sgn hk]
theorem zl_f0 {q : Nat → Prop} [DecidablePred q] {sg : List Int} {k : Nat} (h : ¬ q k) (h0 : (zl q sg k).getD k default = 0) : zl q sg (k + 1) = zl q sg k ∧ sgn (zl q sg (k + 1)) (k + 1) = sgn (zl q sg k) k := by
  have e : zl q sg (k + 1) = zl q sg k := by rw [zl_succ, if_neg h]
  exact ⟨e, by rw [e]; exact (sgn0 h0).1⟩
theorem zl_f1 {q : Nat → Prop} [DecidablePred q] {sg : List Int} {k : Nat} (h : ¬ q k) (h0 : (zl q sg k).getD k default ≠ 0) : zl q sg (k + 1) = zl q sg k ∧ sgn (zl q sg (k + 1)) (k + 1) = sgn (zl q sg k) k ++ [(k : Int)] := by
  have e : zl q sg (k + 1) = zl q sg k := by rw [zl_succ, if_neg h]
  exact ⟨e, by rw [e]; exact (sgn1 h0).1⟩
def par (m : Nat) : Nat → Prop := fun i => (i : Int).tmod 2 = (m : Int).tmod 2
instance (m : Nat) : DecidablePred (par m) := fun i => inferInstanceAs (Decidable ((i : Int).tmod 2 = (m : Int).tmod 2))
end Go.Proofs.Ytagemifcpiknoaa
