/- What a vertex depends on, in plain Lean. -/
import Derived.Test.YthajlhmebkjbbaaGp
set_option linter.all false
namespace Go.Proofs.Ythajlhmebkjbbaa

/-- what a vertex depends on: itself, its parents, and so on -/
inductive Anc (vs : List Vx) (s : Nat) : Nat → Prop
  | self : Anc vs s s
  | step {i j : Nat} (h : Anc vs s i) (hj : j < (vg vs i).ps.length) : Anc vs s (pix vs i j)
abbrev rg (R : List Bool) (i : Nat) : Bool := R.getD i false
/-- these are the marks of all that a vertex depends on -/
structure Cor (vs : List Vx) (s : Nat) (R : List Bool) : Prop where
  len : R.length = vs.length
  iff : ∀ j, j < vs.length → (rg R j = true ↔ Anc vs s j)
theorem Cor.uniq {vs : List Vx} {s : Nat} {R R' : List Bool} (h : Cor vs s R) (h' : Cor vs s R') : R = R' := by
  apply List.ext_getElem (h.len.trans h'.len.symm)
  intro i h1 h2
  have hi : i < vs.length := by rw [← h.len]; exact h1
  have e1 : rg R i = R[i] := by simp [rg, h1]
  have e2 : rg R' i = R'[i] := by simp [rg, h2]
  rw [← e1, ← e2, Bool.eq_iff_iff, h.iff i hi, h'.iff i hi]
theorem Anc.le {c : List Int} {vs : List Vx} {s : Nat} (hg : GoodN c vs vs.length) (hs : s < vs.length) : ∀ {j}, Anc vs s j → j ≤ s := fun h => by
  induction h with
  | self => exact Nat.le_refl _
  | step h hj ih => have := (hg.pix (by omega) (Nat.le_refl _) hj).2; omega
theorem Anc.lt {c : List Int} {vs : List Vx} {s : Nat} (hg : GoodN c vs vs.length) (hs : s < vs.length) {j : Nat} (h : Anc vs s j) : j < vs.length := Nat.lt_of_le_of_lt (h.le hg hs) hs
/-- marks that hold the vertex, are closed, and are no more than they must be -/
theorem Cor.of {c : List Int} {vs : List Vx} {s : Nat} {R : List Bool} (hg : GoodN c vs vs.length) (hs : s < vs.length) (hl : R.length = vs.length) (h1 : rg R s = true) (h2 : ∀ i, rg R i = true → ∀ j, j < (vg vs i).ps.length → rg R (pix vs i j) = true) (h3 : ∀ j, rg R j = true → Anc vs s j) : Cor vs s R :=
  ⟨hl, fun j _ => ⟨h3 j, fun h => by
    induction h with
    | self => exact h1
    | step h hj ih => exact h2 _ (ih (h.lt hg hs)) _ hj⟩⟩
theorem rg_lt {R : List Bool} {i : Nat} (h : rg R i = true) : i < R.length := by
  rcases Nat.lt_or_ge i R.length with h1 | h1
  · exact h1
  · rw [show rg R i = false by simp [rg, Nat.not_lt.2 h1]] at h; cases h
theorem rg_set {R : List Bool} {p i : Nat} (hp : p < R.length) : rg (R.set p true) i = if i = p then true else rg R i := by
  unfold rg
  rw [List.getD_eq_getElem?_getD, List.getElem?_set]
  by_cases h : p = i
  · subst h; simp [hp]
  · rw [if_neg h, if_neg (fun e => h e.symm), ← List.getD_eq_getElem?_getD]
theorem count_set : ∀ {R : List Bool} {p : Nat}, p < R.length → rg R p = false → (R.set p true).count false + 1 = R.count false
  | [], p, hp, _ => absurd hp (by simp)
  | b :: R, 0, _, h => by
    have : b = false := by simpa [rg] using h
    subst this
    simp
  | b :: R, p + 1, hp, h => by
    have := count_set (R := R) (p := p) (by simpa using hp) (by simpa [rg] using h)
    rw [List.set_cons_succ, List.count_cons, List.count_cons]
    omega
/-- the marked indexes, ascending -/
def idxTo (R : List Bool) : Nat → List Int
  | 0 => []
  | k + 1 => if rg R k = true then idxTo R k ++ [(k : Int)] else idxTo R k
theorem idx1 {R : List Bool} {k : Nat} (h : rg R k = true) : idxTo R (k + 1) = idxTo R k ++ [(k : Int)] := if_pos h
theorem idx0 {R : List Bool} {k : Nat} (h : rg R k = false) : idxTo R (k + 1) = idxTo R k := if_neg (by rw [h]; simp)
theorem idx_len {R : List Bool} : ∀ {k : Nat}, (idxTo R k).length ≤ k
  | 0 => Nat.le_refl _
  | k + 1 => by
    have := idx_len (R := R) (k := k)
    unfold idxTo
    split
    · rw [List.length_append]; simp; omega
    · omega
theorem mem_idx {R : List Bool} {x : Int} : ∀ {k : Nat}, x ∈ idxTo R k ↔ ∃ j : Nat, x = j ∧ j < k ∧ rg R j = true
  | 0 => by simp [idxTo]
  | k + 1 => by
    by_cases h : rg R k = true
    · rw [idx1 h, List.mem_append, mem_idx, List.mem_singleton]
      constructor
      · rintro (⟨j, h1, h2, h3⟩ | rfl)
        · exact ⟨j, h1, by omega, h3⟩
        · exact ⟨k, rfl, by omega, h⟩
      · rintro ⟨j, h1, h2, h3⟩
        rcases Nat.lt_succ_iff_lt_or_eq.1 h2 with h4 | rfl
        · exact .inl ⟨j, h1, h4, h3⟩
        · exact .inr h1
    · rw [idx0 (by simpa using h), mem_idx]
      constructor
      · rintro ⟨j, h1, h2, h3⟩; exact ⟨j, h1, by omega, h3⟩
      · rintro ⟨j, h1, h2, h3⟩
        rcases Nat.lt_succ_iff_lt_or_eq.1 h2 with h4 | rfl
        · exact ⟨j, h1, h4, h3⟩
        · exact absurd h3 h
/-- ascending -/
theorem idx_asc {R : List Bool} : ∀ {k : Nat}, (idxTo R k).Pairwise fun a b => a < b
  | 0 => List.Pairwise.nil
  | k + 1 => by
    by_cases h : rg R k = true
    · rw [idx1 h]
      refine List.pairwise_append.2 ⟨idx_asc, by simp, fun a ha b hb => ?_⟩
      obtain ⟨j, rfl, hj, _⟩ := mem_idx.1 ha
      rw [List.mem_singleton.1 hb]
      omega
    · rw [idx0 (by simpa using h)]; exact idx_asc
end Go.Proofs.Ythajlhmebkjbbaa
