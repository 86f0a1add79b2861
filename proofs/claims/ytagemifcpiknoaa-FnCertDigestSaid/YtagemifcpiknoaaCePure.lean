/- Certificates in plain Lean. -/
import Derived.Test.YtagemifcpiknoaaCmPure
set_option linter.all false
namespace Go.Proofs.Ytagemifcpiknoaa

def keysOk (c keys : List Int) : Bool := cmOk c && decide (keys.length = c.length) && decide (∀ i, i < keys.length → inB (keys.getD i default) 1 996 = true)
/-- a signature is valid -/
def sgOk (p d s : Int) : Bool := inB p 1 996 && (inB d 0 990 && (inB s 1 996 && ((s * 5).tmod 997 == (p * (d + 1)).tmod 997)))
/-- those that have signed, among the first k; the sum of their signatures -/
def sgn (sg : List Int) : Nat → List Int
  | 0 => []
  | k + 1 => if sg.getD k default = 0 then sgn sg k else sgn sg k ++ [(k : Int)]
def ssum (sg : List Int) : Nat → Int
  | 0 => 0
  | k + 1 => if sg.getD k default = 0 then ssum sg k else (ssum sg k + sg.getD k default).tmod 997
def SgAll (keys : List Int) (d : Int) (sg : List Int) (k : Nat) : Prop := ∀ j, j < k → sg.getD j default = 0 ∨ sgOk (keys.getD j default) d (sg.getD j default) = true
instance (keys : List Int) (d : Int) (sg : List Int) (k : Nat) : Decidable (SgAll keys d sg k) := inferInstanceAs (Decidable (∀ j, j < k → sg.getD j default = 0 ∨ sgOk (keys.getD j default) d (sg.getD j default) = true))
def ceIn (c keys : List Int) (d : Int) (sg : List Int) : Bool := keysOk c keys && (inB d 0 990 && decide (sg.length = c.length))
def ceOk (c keys : List Int) (d : Int) (sg : List Int) : Bool := ceIn c keys d sg && (decide (SgAll keys d sg c.length) && decide (quo c ≤ wt c (sgn sg c.length)))

theorem keysOk_iff {c keys : List Int} : keysOk c keys = true ↔ cmOk c = true ∧ keys.length = c.length ∧ ∀ i, i < keys.length → 1 ≤ keys.getD i default ∧ keys.getD i default ≤ 996 := by
  unfold keysOk
  rw [Bool.and_eq_true, Bool.and_eq_true, decide_eq_true_eq, decide_eq_true_eq, and_assoc]
  constructor
  · rintro ⟨h1, h2, h3⟩
    exact ⟨h1, h2, fun i hi => inB_true.1 (h3 i hi)⟩
  · rintro ⟨h1, h2, h3⟩
    exact ⟨h1, h2, fun i hi => inB_true.2 (h3 i hi)⟩
theorem sgOk_rng {p d s : Int} (h : sgOk p d s = true) : (1 ≤ p ∧ p ≤ 996) ∧ (0 ≤ d ∧ d ≤ 990) ∧ (1 ≤ s ∧ s ≤ 996) := by
  unfold sgOk at h
  simp only [Bool.and_eq_true, inB_true] at h
  exact ⟨h.1, h.2.1, h.2.2.1⟩
theorem tmod_pos {a b : Int} (h : 0 ≤ a) : a.tmod b = a % b := Int.tmod_eq_emod_of_nonneg h
theorem tmod_rng {a : Int} (h : 0 ≤ a) : 0 ≤ a.tmod 997 ∧ a.tmod 997 ≤ 996 := by rw [tmod_pos h]; omega
theorem ssum_rng {keys : List Int} {d : Int} {sg : List Int} : ∀ {k : Nat}, SgAll keys d sg k → 0 ≤ ssum sg k ∧ ssum sg k ≤ 996
  | 0, _ => by simp [ssum]
  | k + 1, h => by
    have ih := ssum_rng (k := k) fun j hj => h j (by omega)
    unfold ssum
    split
    · exact ih
    · rename_i h0
      have := (sgOk_rng ((h k (by omega)).resolve_left h0)).2.2
      exact tmod_rng (by omega)
theorem sgn_lt {sg : List Int} : ∀ {k : Nat}, ∀ x ∈ sgn sg k, 0 ≤ x ∧ x < k
  | 0, x, h => by cases h
  | k + 1, x, h => by
    unfold sgn at h
    split at h
    · have := sgn_lt x h; omega
    · rcases List.mem_append.1 h with h | h
      · have := sgn_lt x h; omega
      · rw [List.mem_singleton.1 h]; omega
theorem sgn_len {sg : List Int} : ∀ {k : Nat}, (sgn sg k).length ≤ k
  | 0 => Nat.le_refl _
  | k + 1 => by
    have := sgn_len (sg := sg) (k := k)
    unfold sgn
    split
    · omega
    · simp; omega
theorem ms_snoc {n : Nat} {ms : List Int} {x : Int} (h : msOk n ms = true) (hx : 0 ≤ x ∧ x < n) (hl : ∀ y ∈ ms, y < x) : msOk n (ms ++ [x]) = true := by
  rw [msOk_iff] at h ⊢
  intro i hi
  simp at hi
  have e : ∀ j, j < ms.length → (ms ++ [x]).getD j default = ms.getD j default := fun j hj => by
    rw [List.getD_eq_getElem?_getD, List.getD_eq_getElem?_getD, List.getElem?_append_left hj]
  by_cases hlt : i < ms.length
  · rw [e i hlt]
    refine ⟨(h i hlt).1, fun h0 => ?_⟩
    rw [e (i - 1) (by omega)]
    exact (h i hlt).2 h0
  · obtain rfl : i = ms.length := by omega
    have ex : (ms ++ [x]).getD ms.length default = x := by simp
    rw [ex]
    refine ⟨hx, fun h0 => ?_⟩
    rw [e (ms.length - 1) (by omega)]
    refine hl _ ?_
    have hlt2 : ms.length - 1 < ms.length := by omega
    have : ms.getD (ms.length - 1) default = ms[ms.length - 1] := by simp [hlt2]
    rw [this]
    exact List.getElem_mem _
theorem msOk_nil (n : Nat) : msOk n [] = true := msOk_iff.2 fun i hi => absurd hi (by simp)
theorem sgn_ms {sg : List Int} {n : Nat} : ∀ {k : Nat}, k ≤ n → msOk n (sgn sg k) = true
  | 0, _ => msOk_nil n
  | k + 1, h => by
    unfold sgn
    split
    · exact sgn_ms (by omega)
    · exact ms_snoc (sgn_ms (by omega)) (by omega) fun y hy => by have := sgn_lt y hy; omega
/-- a certificate is valid -/
def psum (keys ms : List Int) (k : Nat) : Int := sumTo (fun i => keys.getD (ms.getD i default).toNat default) k
def ckIn (c keys : List Int) (d : Int) (ms : List Int) (s : Int) : Bool := keysOk c keys && (inB d 0 990 && (msOk c.length ms && (inB s 0 996 && decide (quo c ≤ wt c ms))))
def ckOk (c keys : List Int) (d : Int) (ms : List Int) (s : Int) : Bool := ckIn c keys d ms s && ((s * 5).tmod 997 == ((psum keys ms ms.length).tmod 997 * (d + 1)).tmod 997)
theorem psum_rng {c keys ms : List Int} (hk : keysOk c keys = true) (hm : msOk c.length ms = true) {k : Nat} (h : k ≤ ms.length) : 0 ≤ psum keys ms k ∧ psum keys ms k ≤ 7000 := by
  obtain ⟨h1, h2, h3⟩ := keysOk_iff.1 hk
  have h7 := (cmOk_iff.1 h1).1
  have hl := ms_len hm
  have := sumTo_bd (g := fun i => keys.getD (ms.getD i default).toNat default) (k := k) fun i hi => h3 _ (by have := (msOk_iff.1 hm i (by omega)).1; omega)
  unfold psum
  omega
theorem psum_key {c keys ms : List Int} (hk : keysOk c keys = true) (hm : msOk c.length ms = true) {k : Nat} (h : k < ms.length) : (0 ≤ ms.getD k default ∧ ms.getD k default < keys.length) ∧ 1 ≤ keys.getD (ms.getD k default).toNat default ∧ keys.getD (ms.getD k default).toNat default ≤ 996 := by
  obtain ⟨h1, h2, h3⟩ := keysOk_iff.1 hk
  have := (msOk_iff.1 hm k h).1
  exact ⟨by omega, h3 _ (by omega)⟩
theorem sgn0 {sg : List Int} {k : Nat} (h : sg.getD k default = 0) : sgn sg (k + 1) = sgn sg k ∧ ssum sg (k + 1) = ssum sg k := ⟨if_pos h, if_pos h⟩
theorem sgn1 {sg : List Int} {k : Nat} (h : sg.getD k default ≠ 0) : sgn sg (k + 1) = sgn sg k ++ [(k : Int)] ∧ ssum sg (k + 1) = (ssum sg k + sg.getD k default).tmod 997 := ⟨if_neg h, if_neg h⟩
end Go.Proofs.Ytagemifcpiknoaa
