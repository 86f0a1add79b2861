/- Committees in plain Lean. -/
import Derived.Test.YtbcmpfhemangpaaLeaf
set_option linter.all false
namespace Go.Proofs.Ytbcmpfhemangpaa

def gI (l : List Int) (i : Nat) : Int := l.getD i default
/-- a valid committee -/
def cmOk (c : List Int) : Bool := inB c.length 1 7 && decide (∀ i, i < c.length → inB (c.getD i default) 1 9 = true)
/-- an ascending list of members of n -/
def msOk (n : Nat) (ms : List Int) : Bool := decide (∀ i, i < ms.length → (0 ≤ ms.getD i default ∧ ms.getD i default < n) ∧ (0 < i → ms.getD (i - 1) default < ms.getD i default))
/-- the sum of the first k -/
def sumTo (g : Nat → Int) : Nat → Int
  | 0 => 0
  | k + 1 => sumTo g k + g k
def tot (c : List Int) : Int := sumTo (fun i => c.getD i default) c.length
def wt (c ms : List Int) : Int := sumTo (fun i => c.getD (ms.getD i default).toNat default) ms.length
def quo (c : List Int) : Int := 2 * tot c / 3 + 1

theorem cmOk_iff {c : List Int} : cmOk c = true ↔ (1 ≤ c.length ∧ c.length ≤ 7) ∧ ∀ i, i < c.length → 1 ≤ c.getD i default ∧ c.getD i default ≤ 9 := by
  unfold cmOk
  rw [Bool.and_eq_true, inB_true, decide_eq_true_eq]
  constructor
  · rintro ⟨h1, h2⟩
    exact ⟨by omega, fun i hi => inB_true.1 (h2 i hi)⟩
  · rintro ⟨h1, h2⟩
    exact ⟨by omega, fun i hi => inB_true.2 (h2 i hi)⟩
theorem msOk_iff {n : Nat} {ms : List Int} : msOk n ms = true ↔ ∀ i, i < ms.length → (0 ≤ ms.getD i default ∧ ms.getD i default < n) ∧ (0 < i → ms.getD (i - 1) default < ms.getD i default) := by
  unfold msOk; rw [decide_eq_true_eq]
theorem sumTo_bd {g : Nat → Int} {lo hi : Int} : ∀ {k : Nat}, (∀ i, i < k → lo ≤ g i ∧ g i ≤ hi) → lo * k ≤ sumTo g k ∧ sumTo g k ≤ hi * k
  | 0, _ => by simp [sumTo]
  | k + 1, h => by
    have ih := sumTo_bd (k := k) fun i hi' => h i (by omega)
    have := h k (by omega)
    have e1 : lo * ((k + 1 : Nat) : Int) = lo * k + lo := by rw [Int.natCast_add, Int.mul_add]; simp
    have e2 : hi * ((k + 1 : Nat) : Int) = hi * k + hi := by rw [Int.natCast_add, Int.mul_add]; simp
    rw [e1, e2]
    unfold sumTo
    omega
theorem sumTo_congr {g g' : Nat → Int} : ∀ {k : Nat}, (∀ i, i < k → g i = g' i) → sumTo g k = sumTo g' k
  | 0, _ => rfl
  | k + 1, h => by unfold sumTo; rw [sumTo_congr fun i hi => h i (by omega), h k (by omega)]
theorem tot_bd {c : List Int} (h : cmOk c = true) : 1 ≤ tot c ∧ tot c ≤ 63 := by
  obtain ⟨h1, h2⟩ := cmOk_iff.1 h
  have := sumTo_bd (k := c.length) h2
  unfold tot
  omega
theorem tot_part {c : List Int} (h : cmOk c = true) {k : Nat} (hk : k ≤ c.length) : 0 ≤ sumTo (fun i => c.getD i default) k ∧ sumTo (fun i => c.getD i default) k ≤ 63 := by
  obtain ⟨h1, h2⟩ := cmOk_iff.1 h
  have := sumTo_bd (k := k) fun i hi => h2 i (by omega)
  omega
/-- an ascending list of members is short -/
theorem ms_ge {n : Nat} {ms : List Int} (h : msOk n ms = true) : ∀ i, i < ms.length → (i : Int) ≤ ms.getD i default
  | 0, hi => by have := (msOk_iff.1 h 0 hi).1.1; simpa using this
  | i + 1, hi => by
    have := ms_ge h i (by omega)
    have := (msOk_iff.1 h (i + 1) hi).2 (by omega)
    simp only [Nat.add_sub_cancel] at this
    omega
theorem ms_len {n : Nat} {ms : List Int} (h : msOk n ms = true) : ms.length ≤ n := by
  rcases Nat.eq_zero_or_pos ms.length with h0 | h0
  · omega
  · have h1 := ms_ge h (ms.length - 1) (by omega)
    have h2 := (msOk_iff.1 h (ms.length - 1) (by omega)).1.2
    omega
theorem wt_part {c ms : List Int} (h : cmOk c = true) (hm : msOk c.length ms = true) {k : Nat} (hk : k ≤ ms.length) : 0 ≤ sumTo (fun i => c.getD (ms.getD i default).toNat default) k ∧ sumTo (fun i => c.getD (ms.getD i default).toNat default) k ≤ 63 := by
  obtain ⟨h1, h2⟩ := cmOk_iff.1 h
  have hl := ms_len hm
  have := sumTo_bd (g := fun i => c.getD (ms.getD i default).toNat default) (k := k) fun i hi => h2 _ (by have := (msOk_iff.1 hm i (by omega)).1; omega)
  omega
theorem wt_bd {c ms : List Int} (h : cmOk c = true) (hm : msOk c.length ms = true) : 0 ≤ wt c ms ∧ wt c ms ≤ 63 := wt_part h hm (Nat.le_refl _)
theorem quo_bd {c : List Int} (h : cmOk c = true) : 1 ≤ quo c ∧ quo c ≤ 43 := by
  have := tot_bd h
  unfold quo
  omega
end Go.Proofs.Ytbcmpfhemangpaa
