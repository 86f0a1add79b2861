/- Votes and tallies in plain Lean. -/
import Derived.Test.YtbcmpfhemangpaaCmPure
set_option linter.all false
namespace Go.Proofs.Ytbcmpfhemangpaa

def vtOk (r a d : Int) : Bool := inB r 0 30 && (inB a 0 6 && inB d 0 990)
def tyOk (c : List Int) (r a d : Int) (ms : List Int) : Bool := cmOk c && (vtOk r a d && msOk c.length ms)
def tyDone (c : List Int) (r a d : Int) (ms : List Int) : Bool := tyOk c r a d ms && decide (quo c ≤ wt c ms)
/-- the members of the first k that are in the other list -/
def comm (ma mb : List Int) : Nat → List Int
  | 0 => []
  | k + 1 => if ma.getD k default ∈ mb then comm ma mb k ++ [ma.getD k default] else comm ma mb k
def agn (r a d r' a' d' : Int) : Bool := decide (r = r') && (decide (a = a') && decide (d ≠ d'))
def gly (c : List Int) (r a d : Int) (ma : List Int) (r' a' d' : Int) (mb : List Int) : List Int := if tyOk c r a d ma && (tyOk c r' a' d' mb && agn r a d r' a' d') then comm ma mb ma.length else []
theorem tyOk_iff {c : List Int} {r a d : Int} {ms : List Int} : tyOk c r a d ms = true ↔ cmOk c = true ∧ vtOk r a d = true ∧ msOk c.length ms = true := by
  unfold tyOk
  rw [Bool.and_eq_true, Bool.and_eq_true]
theorem comm1 {ma mb : List Int} {k : Nat} (h : ma.getD k default ∈ mb) : comm ma mb (k + 1) = comm ma mb k ++ [ma.getD k default] := if_pos h
theorem comm0 {ma mb : List Int} {k : Nat} (h : ¬ ma.getD k default ∈ mb) : comm ma mb (k + 1) = comm ma mb k := if_neg h
theorem comm_len {ma mb : List Int} : ∀ {k : Nat}, (comm ma mb k).length ≤ k
  | 0 => Nat.le_refl _
  | k + 1 => by
    have := comm_len (ma := ma) (mb := mb) (k := k)
    unfold comm
    split
    · rw [List.length_append]; simp; omega
    · omega
theorem comm_mem {ma mb : List Int} {x : Int} : ∀ {k : Nat}, x ∈ comm ma mb k ↔ (∃ i, i < k ∧ ma.getD i default = x) ∧ x ∈ mb
  | 0 => by simp [comm]
  | k + 1 => by
    have ih := comm_mem (ma := ma) (mb := mb) (x := x) (k := k)
    by_cases h : ma.getD k default ∈ mb
    · rw [comm1 h, List.mem_append, ih, List.mem_singleton]
      constructor
      · rintro (⟨⟨i, hi, e⟩, hb⟩ | rfl)
        · exact ⟨⟨i, by omega, e⟩, hb⟩
        · exact ⟨⟨k, by omega, rfl⟩, h⟩
      · rintro ⟨⟨i, hi, e⟩, hb⟩
        rcases (by omega : i < k ∨ i = k) with h1 | rfl
        · exact .inl ⟨⟨i, h1, e⟩, hb⟩
        · exact .inr e.symm
    · rw [comm0 h, ih]
      constructor
      · rintro ⟨⟨i, hi, e⟩, hb⟩
        exact ⟨⟨i, by omega, e⟩, hb⟩
      · rintro ⟨⟨i, hi, e⟩, hb⟩
        rcases (by omega : i < k ∨ i = k) with h1 | rfl
        · exact ⟨⟨i, h1, e⟩, hb⟩
        · exact absurd (e ▸ hb) h
/-- ascending lists grow at the end -/
theorem ms_app {n : Nat} {ms : List Int} {x : Int} (h : msOk n ms = true) (hx : 0 ≤ x ∧ x < n) (hl : ∀ y ∈ ms, y < x) : msOk n (ms ++ [x]) = true := by
  rw [msOk_iff] at h ⊢
  intro i hi
  simp at hi
  have e : ∀ j, j < ms.length → (ms ++ [x]).getD j default = ms.getD j default := fun j hj => by
    rw [List.getD_eq_getElem?_getD, List.getD_eq_getElem?_getD, List.getElem?_append_left hj]
  by_cases hlt : i < ms.length
  · rw [e i hlt]
    refine ⟨(h i hlt).1, fun h0 => ?_⟩
    rw [e (i - 1) (by omega)]
    exact (h i hlt).2 h0
  · obtain rfl : i = ms.length := by omega
    have ex : (ms ++ [x]).getD ms.length default = x := by simp
    rw [ex]
    refine ⟨hx, fun h0 => ?_⟩
    rw [e (ms.length - 1) (by omega)]
    refine hl _ ?_
    have hlt2 : ms.length - 1 < ms.length := by omega
    have : ms.getD (ms.length - 1) default = ms[ms.length - 1] := by simp [hlt2]
    rw [this]
    exact List.getElem_mem _
theorem ms_mono {n : Nat} {ms : List Int} (h : msOk n ms = true) : ∀ {i j : Nat}, i < j → j < ms.length → ms.getD i default < ms.getD j default
  | i, 0, hi, _ => absurd hi (by omega)
  | i, j + 1, hi, hj => by
    have h1 := (msOk_iff.1 h (j + 1) hj).2 (by omega)
    simp only [Nat.add_sub_cancel] at h1
    rcases (by omega : i = j ∨ i < j) with rfl | h2
    · exact h1
    · have := ms_mono h h2 (by omega)
      omega
theorem comm_ms {n : Nat} {ma mb : List Int} (h : msOk n ma = true) : ∀ {k : Nat}, k ≤ ma.length → msOk n (comm ma mb k) = true
  | 0, _ => msOk_iff.2 fun i hi => absurd hi (by simp [comm])
  | k + 1, hk => by
    have ih := comm_ms (mb := mb) h (k := k) (by omega)
    by_cases hc : ma.getD k default ∈ mb
    · rw [comm1 hc]
      refine ms_app ih ((msOk_iff.1 h k (by omega)).1) fun y hy => ?_
      obtain ⟨⟨i, hi, rfl⟩, _⟩ := comm_mem.1 hy
      exact ms_mono h hi (by omega)
    · rw [comm0 hc]; exact ih
/-- the weight by members -/
def ind (c ms : List Int) : Nat → Int := fun i => if (i : Int) ∈ ms then c.getD i default else 0
theorem sumTo_add {f g : Nat → Int} : ∀ {k : Nat}, sumTo (fun i => f i + g i) k = sumTo f k + sumTo g k
  | 0 => rfl
  | k + 1 => by unfold sumTo; rw [sumTo_add]; omega
theorem sumTo_le {f g : Nat → Int} : ∀ {k : Nat}, (∀ i, i < k → f i ≤ g i) → sumTo f k ≤ sumTo g k
  | 0, _ => Int.le_refl _
  | k + 1, h => by
    have := sumTo_le (k := k) fun i hi => h i (by omega)
    have := h k (by omega)
    unfold sumTo
    omega
theorem sumTo_one {x : Nat} {v : Int} : ∀ {k : Nat}, sumTo (fun i => if i = x then v else 0) k = if x < k then v else 0
  | 0 => by simp [sumTo]
  | k + 1 => by
    unfold sumTo
    rw [sumTo_one]
    by_cases h : k = x
    · subst h; simp
    · rw [if_neg h]
      by_cases h2 : x < k
      · rw [if_pos h2, if_pos (by omega)]; omega
      · rw [if_neg h2, if_neg (by omega)]; omega
theorem wt_ind {c : List Int} : ∀ (ms : List Int), msOk c.length ms = true → ∀ k, k ≤ ms.length → sumTo (fun i => c.getD (ms.getD i default).toNat default) k = sumTo (ind c (ms.take k)) c.length
  | ms, h, 0, _ => by
    show (0 : Int) = _
    rw [List.take_zero, sumTo_congr (g' := fun _ => 0) fun i hi => by simp [ind]]
    have : ∀ n, sumTo (fun _ => 0) n = 0 := fun n => by
      induction n with
      | zero => rfl
      | succ n ih => unfold sumTo; rw [ih]; rfl
    rw [this]
  | ms, h, k + 1, hk => by
    have ih := wt_ind ms h k (by omega)
    have hr := (msOk_iff.1 h k (by omega)).1
    show sumTo _ k + _ = _
    rw [ih]
    have hx : (ms.getD k default) ∉ ms.take k := fun hm => by
      obtain ⟨i, hi, e⟩ := List.getElem_of_mem hm
      have hik : i < k := by simp at hi; omega
      have := ms_mono h hik (by omega)
      rw [List.getElem_take] at e
      rw [← e] at this
      simp [show i < ms.length by omega] at this
    have ht : ms.take (k + 1) = ms.take k ++ [ms.getD k default] := by
      rw [List.take_succ]
      simp [show k < ms.length by omega]
    rw [ht]
    have hone := sumTo_one (x := (ms.getD k default).toNat) (v := c.getD (ms.getD k default).toNat default) (k := c.length)
    rw [if_pos (by omega)] at hone
    show _ + c.getD (ms.getD k default).toNat default = _
    rw [← hone, ← sumTo_add]
    refine sumTo_congr fun i hi => ?_
    unfold ind
    by_cases e : i = (ms.getD k default).toNat
    · have e' : (i : Int) = ms.getD k default := by omega
      rw [if_pos e, e', if_neg hx, if_pos (by simp), ← e]
      omega
    · rw [if_neg e]
      have : ((i : Int) ∈ ms.take k ++ [ms.getD k default]) ↔ (i : Int) ∈ ms.take k := by
        rw [List.mem_append, List.mem_singleton]
        exact ⟨fun h => h.resolve_right (by omega), .inl⟩
      by_cases h1 : (i : Int) ∈ ms.take k
      · rw [if_pos h1, if_pos (this.2 h1)]; omega
      · rw [if_neg h1, if_neg fun h2 => h1 (this.1 h2)]; omega
theorem wt_eq {c ms : List Int} (h : msOk c.length ms = true) : wt c ms = sumTo (ind c ms) c.length := by
  have := wt_ind ms h ms.length (Nat.le_refl _)
  rwa [List.take_length] at this
/-- two quorums share more than the faults -/
theorem comm_wt {c ma mb : List Int} (hc : cmOk c = true) (ha : msOk c.length ma = true) (hb : msOk c.length mb = true) : wt c ma + wt c mb ≤ tot c + wt c (comm ma mb ma.length) := by
  rw [wt_eq ha, wt_eq hb, wt_eq (comm_ms ha (Nat.le_refl _)), ← sumTo_add]
  unfold tot
  rw [← sumTo_add]
  refine sumTo_le fun i hi => ?_
  have hp := (cmOk_iff.1 hc).2 i hi
  have hm : (i : Int) ∈ comm ma mb ma.length ↔ (i : Int) ∈ ma ∧ (i : Int) ∈ mb := by
    rw [comm_mem]
    refine and_congr_left' ⟨?_, ?_⟩
    · rintro ⟨j, hj, e⟩
      rw [← e, show ma.getD j default = ma[j] by simp [hj]]
      exact List.getElem_mem _
    · intro h
      obtain ⟨j, hj, e⟩ := List.getElem_of_mem h
      exact ⟨j, hj, by rw [← e]; simp [hj]⟩
  unfold ind
  by_cases h1 : (i : Int) ∈ ma <;> by_cases h2 : (i : Int) ∈ mb
  · rw [if_pos h1, if_pos h2, if_pos (hm.2 ⟨h1, h2⟩)]; omega
  · rw [if_pos h1, if_neg h2, if_neg fun h => h2 (hm.1 h).2]; omega
  · rw [if_neg h1, if_pos h2, if_neg fun h => h1 (hm.1 h).1]; omega
  · rw [if_neg h1, if_neg h2, if_neg fun h => h1 (hm.1 h).1]; omega
theorem done_iff {c : List Int} {r a d : Int} {ms : List Int} : tyDone c r a d ms = true ↔ tyOk c r a d ms = true ∧ quo c ≤ wt c ms := by
  unfold tyDone
  rw [Bool.and_eq_true, decide_eq_true_eq]
theorem guilty {c : List Int} {r a d : Int} {ma : List Int} {r' a' d' : Int} {mb : List Int} (ha : tyDone c r a d ma = true) (hb : tyDone c r' a' d' mb = true) : (tot c - 1) / 3 < wt c (comm ma mb ma.length) := by
  obtain ⟨h1, h2⟩ := done_iff.1 ha
  obtain ⟨h3, h4⟩ := done_iff.1 hb
  obtain ⟨c1, _, m1⟩ := tyOk_iff.1 h1
  obtain ⟨_, _, m2⟩ := tyOk_iff.1 h3
  have := comm_wt c1 m1 m2
  have := tot_bd c1
  unfold quo at h2 h4
  omega
end Go.Proofs.Ytbcmpfhemangpaa
