/- The linked graph, its nodes at their addresses. -/
import Derived.Test.YtpmhikdefbcofaaDoorGl
set_option linter.all false
namespace Go.Proofs.YtpmhikdefbcofaaDoor
open Go.RowKit

/-- the pointer to a node, at its address -/
def ndA (ad : Nat → Nat) (vs : List Vx) (i : Nat) : SV := .ref (ad i) 0 6 (ndC (vg vs i) i fun j => if h : j < (vg vs i).ps.length ∧ pix vs i j < i then ndA ad vs (pix vs i j) else .any)
termination_by i
decreasing_by exact h.2
def paA (ad : Nat → Nat) (vs : List Vx) (i : Nat) (j : Nat) : SV := if j < (vg vs i).ps.length ∧ pix vs i j < i then ndA ad vs (pix vs i j) else .any
abbrev nuA (ad : Nat → Nat) (vs : List Vx) (i : Nat) : SV := .ref (ad i) 0 6 (ndC (vg vs i) i (paA ad vs i))
theorem ndA_eq (ad : Nat → Nat) (vs : List Vx) (i : Nat) : ndA ad vs i = nuA ad vs i := by
  rw [ndA]
  unfold nuA
  congr 2
theorem paA_eq {ad : Nat → Nat} {c : List Int} {vs : List Vx} {n : Nat} (h : GoodN c vs n) {i j : Nat} (hi : i < n) (hn : n ≤ vs.length) (hj : j < (vg vs i).ps.length) : paA ad vs i j = nuA ad vs (pix vs i j) := by
  unfold paA
  rw [if_pos ⟨hj, (h.pix hi hn hj).2⟩, ndA_eq]
theorem ndA_app {ad ad' : Nat → Nat} {c : List Int} {vs : List Vx} {v : Vx} (h : GoodN c vs vs.length) (ha : ∀ j, j < vs.length → ad' j = ad j) : ∀ {i : Nat}, i < vs.length → ndA ad' (vs ++ [v]) i = ndA ad vs i := by
  intro i
  induction i using Nat.strongRecOn with
  | ind i ih =>
    intro hi
    rw [ndA_eq, ndA_eq]
    unfold nuA
    rw [vg_app hi, ha i hi]
    congr 2
    funext j
    unfold paA
    rw [vg_app hi]
    by_cases hj : j < (vg vs i).ps.length
    · rw [pix_app h hi hj]
      by_cases hp : pix vs i j < i
      · rw [if_pos ⟨hj, hp⟩, if_pos ⟨hj, hp⟩, ih _ hp (by omega)]
      · rw [if_neg (fun e => hp e.2), if_neg (fun e => hp e.2)]
    · rw [if_neg (fun e => hj e.1), if_neg (fun e => hj e.1)]
/-- what a place holds -/
def plA (ad : Nat → Nat) (vs : List Vx) (r a : Int) : SV := match fdV vs r a with
  | some i => ndA ad vs i
  | none => .val (.pointer none)
/-- the cells of a graph; x1 tells the list of nodes -/
def grA (ad : Nat → Nat) (c : List Int) (vs : List Vx) (x1 : SV) : Nat → SV := fun k => if k = 0 then isl c else if k = 1 then x1 else plA ad vs ((k - 2) / 7 : Nat) ((k - 2) % 7 : Nat)
theorem grA_pl {ad : Nat → Nat} {c : List Int} {vs : List Vx} {x1 : SV} {k r a : Nat} (hk : k = 2 + r * 7 + a) (ha : a < 7) : grA ad c vs x1 k = plA ad vs r a := by
  subst hk
  unfold grA
  rw [if_neg (by omega), if_neg (by omega), show (2 + r * 7 + a - 2) / 7 = r by omega, show (2 + r * 7 + a - 2) % 7 = a by omega]
/-- what stands at a round and an author -/
def AtA (ad : Nat → Nat) (vs : List Vx) (r a : Int) (x : SV) : Prop := (∃ i, fdV vs r a = some i ∧ x = nuA ad vs i) ∨ (fdV vs r a = none ∧ x = .val (.pointer none))
theorem plA_at (ad : Nat → Nat) (vs : List Vx) (r a : Int) : AtA ad vs r a (plA ad vs r a) := by
  unfold AtA plA
  cases fdV vs r a with
  | none => exact .inr ⟨rfl, rfl⟩
  | some i => exact .inl ⟨i, rfl, ndA_eq ad vs i⟩
/-- addresses forgotten -/
theorem nd_weak {w : World} {F : Nat → Prop} {ad : Nat → Nat} {vs : List Vx} : ∀ {i : Nat}, LeW w F (ndA ad vs i) (ndV vs i) := by
  intro i
  induction i using Nat.strongRecOn with
  | ind i ih =>
    intro x hx
    rw [ndA_eq] at hx
    rw [ndV_eq]
    refine Has.pp ?_ hx.ref_pp
    refine fun k hk u hu => ?_
    rcases (by omega : k = 0 ∨ k = 1 ∨ k = 2 ∨ k = 3 ∨ k = 4 ∨ k = 5) with rfl | rfl | rfl | rfl | rfl | rfl
    all_goals first
      | exact hu
      | (refine Has.slL (fun j q hj hq y hy => ?_) hu
         unfold paA at hy
         unfold parV
         by_cases hp : j < (vg vs i).ps.length ∧ pix vs i j < i
         · rw [if_pos hp] at hy ⊢; exact ih _ hp.2 y hy
         · rw [if_neg hp] at hy ⊢; exact hy)
theorem pl_weak {w : World} {F : Nat → Prop} {ad : Nat → Nat} {vs : List Vx} {r a : Int} : LeW w F (plA ad vs r a) (plV vs r a) := by
  unfold plA plV
  cases fdV vs r a with
  | none => exact fun _ h => h
  | some i => exact nd_weak
/-- the graph's linked form, with addresses -/
abbrev lkA (ad : Nat → Nat) (c : List Int) (vs : List Vx) : SV := .pp 219 (grA ad c vs (.sl 1 vs.length fun i _ => ndA ad vs i))
theorem gr_weak {w : World} {F : Nat → Prop} {ad : Nat → Nat} {c : List Int} {vs : List Vx} : LeW w F (lkA ad c vs) (.pp 219 (grF c vs (.sl 1 vs.length fun i _ => ndV vs i))) := fun x hx => by
  refine Has.pp (fun k hk u hu => ?_) hx
  unfold grA at hu
  unfold grF
  by_cases h0 : k = 0
  · rw [if_pos h0] at hu ⊢; exact hu
  · rw [if_neg h0] at hu ⊢
    by_cases h1 : k = 1
    · rw [if_pos h1] at hu ⊢
      exact Has.slL (fun j q hj hq y hy => nd_weak y hy) hu
    · rw [if_neg h1] at hu ⊢; exact pl_weak u hu
/-- different nodes lie at different addresses -/
theorem ad_inj {w : World} {F : Nat → Prop} {ad : Nat → Nat} {c : List Int} {vs : List Vx} {x : Value} (h : Has w F (lkA ad c vs) x) : ∀ i j, i < vs.length → j < vs.length → ad i = ad j → i = j := by
  obtain ⟨b, off, -, -, hc⟩ := h
  obtain ⟨u, -, -, hu⟩ := hc 1 (by omega)
  obtain ⟨A, cp, -, -, -, hu⟩ := hu
  intro i j hi hj e
  obtain ⟨b', off', -, -, hd⟩ := hu (by omega)
  obtain ⟨u1, -, -, h1⟩ := hd i 0 hi (by omega)
  obtain ⟨u2, -, -, h2⟩ := hd j 0 hj (by omega)
  dsimp only at h1 h2
  rw [ndA_eq] at h1 h2
  obtain ⟨-, -, -, h1⟩ := h1
  obtain ⟨-, -, -, h2⟩ := h2
  obtain ⟨y1, g1, -, k1⟩ := h1 4 (by omega)
  obtain ⟨y2, g2, -, k2⟩ := h2 4 (by omega)
  rw [e, g2] at g1
  injection g1 with g1
  have k1 : y1 = .int .i64 (i : Int) := k1
  have k2 : y2 = .int .i64 (j : Int) := k2
  rw [← g1, k2] at k1
  injection k1 with _ k1
  omega
end Go.Proofs.YtpmhikdefbcofaaDoor
