/- Graphs in plain Lean. -/
import Derived.Test.YtpmhikdefbcofaaDoorVx
set_option linter.all false
namespace Go.Proofs.YtpmhikdefbcofaaDoor

abbrev vg (vs : List Vx) (i : Nat) : Vx := vs.getD i default
/-- the place of the first vertex of an author in a round -/
def fdV (vs : List Vx) (r a : Int) : Option Nat := vs.findIdx? fun v => v.r == r && v.a == a
def bef (u v : Vx) : Bool := decide (u.r < v.r) || decide (u.r = v.r) && decide (u.a < v.a)
def parOk (vs : List Vx) (v : Vx) : Bool := decide (∀ j, j < v.ps.length → (fdV vs (v.r - 1) (v.ps.getD j default)).isSome = true)
/-- a vertex is well placed: its parents among the first, among all -/
def stI (c : List Int) (vs : List Vx) (k : Nat) : Bool := vxOk c (vg vs k) && ((decide (k = 0) || bef (vg vs (k - 1)) (vg vs k)) && parOk (vs.take k) (vg vs k))
def stS (c : List Int) (vs : List Vx) (k : Nat) : Bool := vxOk c (vg vs k) && ((decide (k = 0) || bef (vg vs (k - 1)) (vg vs k)) && parOk vs (vg vs k))
def grOk (c : List Int) (vs : List Vx) : Bool := cmOk c && decide (∀ k, k < vs.length → stS c vs k = true)

theorem bef_iff {u v : Vx} : bef u v = true ↔ u.r < v.r ∨ u.r = v.r ∧ u.a < v.a := by simp [bef]
theorem bef_false {u v : Vx} : bef u v = false ↔ ¬ (u.r < v.r ∨ u.r = v.r ∧ u.a < v.a) := by rw [← Bool.not_eq_true, bef_iff]
theorem bef_trans {u v w : Vx} (h : bef u v = true) (k : bef v w = true) : bef u w = true := by rw [bef_iff] at *; omega
theorem vg_eq {vs : List Vx} {i : Nat} (h : i < vs.length) : vg vs i = vs[i] := by simp [vg, h]
theorem vg_take {vs : List Vx} {i k : Nat} (h : i < k) : vg (vs.take k) i = vg vs i := by simp [vg, List.getElem?_take, h]
theorem vg_app {vs : List Vx} {v : Vx} {i : Nat} (h : i < vs.length) : vg (vs ++ [v]) i = vg vs i := by simp [vg, List.getElem?_append_left h]
theorem vg_last {vs : List Vx} {v : Vx} : vg (vs ++ [v]) vs.length = v := by simp [vg]
theorem take_succ {vs : List Vx} {k : Nat} (h : k < vs.length) : vs.take (k + 1) = vs.take k ++ [vg vs k] := by rw [vg_eq h]; exact List.take_succ_eq_append_getElem h

theorem fd_some {vs : List Vx} {r a : Int} {i : Nat} (h : fdV vs r a = some i) : i < vs.length ∧ (vg vs i).r = r ∧ (vg vs i).a = a ∧ ∀ j, j < i → ¬ ((vg vs j).r = r ∧ (vg vs j).a = a) := by
  unfold fdV at h
  rw [List.findIdx?_eq_some_iff_getElem] at h
  obtain ⟨hi, hp, hj⟩ := h
  rw [Bool.and_eq_true] at hp
  refine ⟨hi, ?_, ?_, fun j hjl => ?_⟩
  · rw [vg_eq hi]; simpa using hp.1
  · rw [vg_eq hi]; simpa using hp.2
  · rw [vg_eq (by omega : j < vs.length)]
    simpa using hj j hjl
theorem fd_none {vs : List Vx} {r a : Int} : fdV vs r a = none ↔ ∀ j, j < vs.length → ¬ ((vg vs j).r = r ∧ (vg vs j).a = a) := by
  unfold fdV
  rw [List.findIdx?_eq_none_iff]
  constructor
  · intro h j hj
    rw [vg_eq hj]
    have := h _ (List.getElem_mem hj)
    simpa using this
  · intro h x hx
    obtain ⟨j, hj, rfl⟩ := List.getElem_of_mem hx
    have := h j hj
    rw [vg_eq hj] at this
    simpa using this
theorem fd_of {vs : List Vx} {r a : Int} {i : Nat} (hi : i < vs.length) (h1 : (vg vs i).r = r) (h2 : (vg vs i).a = a) (h3 : ∀ j, j < i → ¬ ((vg vs j).r = r ∧ (vg vs j).a = a)) : fdV vs r a = some i := by
  cases e : fdV vs r a with
  | none => exact absurd ⟨h1, h2⟩ (fd_none.1 e i hi)
  | some k =>
    obtain ⟨a1, a2, a3, a4⟩ := fd_some e
    rcases Nat.lt_trichotomy i k with h | h | h
    · exact absurd ⟨h1, h2⟩ (a4 i h)
    · rw [h]
    · exact absurd ⟨a2, a3⟩ (h3 k h)
theorem fd_isSome {vs : List Vx} {r a : Int} : (fdV vs r a).isSome = true ↔ ∃ i, i < vs.length ∧ (vg vs i).r = r ∧ (vg vs i).a = a := by
  constructor
  · intro h
    obtain ⟨i, hi⟩ := Option.isSome_iff_exists.1 h
    obtain ⟨a1, a2, a3, _⟩ := fd_some hi
    exact ⟨i, a1, a2, a3⟩
  · rintro ⟨i, hi, h1, h2⟩
    cases e : fdV vs r a with
    | none => exact absurd ⟨h1, h2⟩ (fd_none.1 e i hi)
    | some k => rfl
theorem fd_app {vs : List Vx} {v : Vx} {r a : Int} {i : Nat} (h : fdV vs r a = some i) : fdV (vs ++ [v]) r a = some i := by
  obtain ⟨a1, a2, a3, a4⟩ := fd_some h
  refine fd_of (by simp; omega) (by rw [vg_app a1]; exact a2) (by rw [vg_app a1]; exact a3) fun j hj => ?_
  rw [vg_app (by omega)]
  exact a4 j hj
theorem fd_app_none {vs : List Vx} {v : Vx} {r a : Int} (h : fdV vs r a = none) : fdV (vs ++ [v]) r a = if v.r = r ∧ v.a = a then some vs.length else none := by
  split
  · rename_i hv
    refine fd_of (by simp) (by rw [vg_last]; exact hv.1) (by rw [vg_last]; exact hv.2) fun j hj => ?_
    rw [vg_app hj]
    exact fd_none.1 h j hj
  · rename_i hv
    refine fd_none.2 fun j hj => ?_
    rcases Nat.lt_or_ge j vs.length with h1 | h1
    · rw [vg_app h1]; exact fd_none.1 h j h1
    · have : j = vs.length := by simp at hj; omega
      subst this
      rw [vg_last]; exact hv

/-- the first n vertices stand in order, are valid, and have their parents ahead of them -/
def GoodN (c : List Int) (vs : List Vx) (n : Nat) : Prop := ∀ k, k < n → stI c vs k = true
theorem st_parts {c : List Int} {vs : List Vx} {k : Nat} (h : stI c vs k = true) : vxOk c (vg vs k) = true ∧ (0 < k → bef (vg vs (k - 1)) (vg vs k) = true) ∧ ∀ j, j < (vg vs k).ps.length → (fdV (vs.take k) ((vg vs k).r - 1) ((vg vs k).ps.getD j default)).isSome = true := by
  unfold stI parOk at h
  simp only [Bool.and_eq_true, Bool.or_eq_true, decide_eq_true_eq] at h
  exact ⟨h.1, fun h0 => h.2.1.resolve_left (by omega), h.2.2⟩
theorem ord_lt {vs : List Vx} {n : Nat} (h : ∀ k, k < n → 0 < k → bef (vg vs (k - 1)) (vg vs k) = true) : ∀ {i j : Nat}, i < j → j < n → bef (vg vs i) (vg vs j) = true := by
  intro i j hij
  induction j with
  | zero => omega
  | succ j ih =>
    intro hj
    have h1 := h (j + 1) hj (by omega)
    rw [Nat.add_sub_cancel] at h1
    rcases Nat.lt_succ_iff_lt_or_eq.1 hij with h2 | rfl
    · exact bef_trans (ih h2 (by omega)) h1
    · exact h1
theorem GoodN.lt {c : List Int} {vs : List Vx} {n : Nat} (h : GoodN c vs n) {i j : Nat} (hij : i < j) (hj : j < n) : bef (vg vs i) (vg vs j) = true :=
  ord_lt (fun k hk h0 => (st_parts (h k hk)).2.1 h0) hij hj
/-- a vertex of a good graph stands at one place -/
theorem GoodN.inj {c : List Int} {vs : List Vx} {n : Nat} (h : GoodN c vs n) {i j : Nat} (hi : i < n) (hj : j < n) (h1 : (vg vs i).r = (vg vs j).r) (h2 : (vg vs i).a = (vg vs j).a) : i = j := by
  rcases Nat.lt_trichotomy i j with e | e | e
  · have := bef_iff.1 (h.lt e hj); omega
  · exact e
  · have := bef_iff.1 (h.lt e hi); omega
theorem GoodN.fd {c : List Int} {vs : List Vx} (h : GoodN c vs vs.length) {i : Nat} (hi : i < vs.length) : fdV vs (vg vs i).r (vg vs i).a = some i :=
  fd_of hi rfl rfl fun j hj ⟨h1, h2⟩ => by have := h.inj (by omega) hi h1 h2; omega
theorem st_take {c : List Int} {vs : List Vx} {n k : Nat} (hk : k < n) : stI c (vs.take n) k = stI c vs k := by
  unfold stI
  rw [vg_take hk, vg_take (by omega : k - 1 < n), List.take_take, Nat.min_eq_left (by omega)]
theorem st_app {c : List Int} {vs : List Vx} {v : Vx} {k : Nat} (hk : k < vs.length) : stI c (vs ++ [v]) k = stI c vs k := by
  unfold stI
  rw [vg_app hk, vg_app (by omega), List.take_append_of_le_length (by omega)]
theorem GoodN.take {c : List Int} {vs : List Vx} {n : Nat} (h : GoodN c vs n) : GoodN c (vs.take n) n := fun k hk => by rw [st_take hk]; exact h k hk

theorem par_take {vs : List Vx} {k : Nat} {v : Vx} (h : parOk (vs.take k) v = true) : parOk vs v = true := by
  unfold parOk at *
  rw [decide_eq_true_eq] at *
  intro j hj
  obtain ⟨i, hi, h1, h2⟩ := fd_isSome.1 (h j hj)
  have hik : i < k ∧ i < vs.length := by simp at hi; omega
  rw [vg_take hik.1] at h1 h2
  exact fd_isSome.2 ⟨i, hik.2, h1, h2⟩
theorem good_iff {c : List Int} {vs : List Vx} : GoodN c vs vs.length ↔ ∀ k, k < vs.length → stS c vs k = true := by
  constructor
  · intro h k hk
    have h1 := h k hk
    unfold stI at h1
    unfold stS
    simp only [Bool.and_eq_true] at h1 ⊢
    exact ⟨h1.1, h1.2.1, par_take h1.2.2⟩
  · intro h k hk
    have h1 := h k hk
    unfold stI
    unfold stS at h1
    simp only [Bool.and_eq_true] at h1 ⊢
    refine ⟨h1.1, h1.2.1, ?_⟩
    have h2 := h1.2.2
    unfold parOk at *
    rw [decide_eq_true_eq] at *
    intro j hj
    obtain ⟨i, hi, e1, e2⟩ := fd_isSome.1 (h2 j hj)
    have ho : ∀ q, q < vs.length → 0 < q → bef (vg vs (q - 1)) (vg vs q) = true := fun q hq h0 => by
      have := h q hq
      unfold stS at this
      simp only [Bool.and_eq_true, Bool.or_eq_true, decide_eq_true_eq] at this
      exact this.2.1.resolve_left (by omega)
    have hik : i < k := by
      rcases Nat.lt_trichotomy i k with h | h | h
      · exact h
      · subst h; omega
      · have := bef_iff.1 (ord_lt ho h hi); omega
    exact fd_isSome.2 ⟨i, by simp; omega, by rw [vg_take hik]; exact e1, by rw [vg_take hik]; exact e2⟩
theorem grOk_iff {c : List Int} {vs : List Vx} : grOk c vs = true ↔ cmOk c = true ∧ GoodN c vs vs.length := by
  unfold grOk
  rw [Bool.and_eq_true, decide_eq_true_eq, good_iff]
theorem grOk_no {c : List Int} {vs : List Vx} {k : Nat} (hk : k < vs.length) (h : stI c vs k = false) : false = grOk c vs := by
  symm
  rw [Bool.eq_false_iff]
  intro h'
  rw [(grOk_iff.1 h').2 k hk] at h
  cases h
theorem grOk_noS {c : List Int} {vs : List Vx} {k : Nat} (hk : k < vs.length) (h : stS c vs k = false) : false = grOk c vs := by
  symm
  rw [Bool.eq_false_iff]
  intro h'
  unfold grOk at h'
  rw [Bool.and_eq_true, decide_eq_true_eq] at h'
  rw [h'.2 k hk] at h
  cases h

/-! ### the linked graph -/
/-- where parent j of vertex i stands -/
def pix (vs : List Vx) (i j : Nat) : Nat := (fdV vs ((vg vs i).r - 1) ((vg vs i).ps.getD j default)).getD 0
/-- the cells of a node -/
def ndC (v : Vx) (i : Nat) (P : Nat → SV) : Nat → SV := litF [.i v.r, .i v.a, isl v.ps, .i v.d, .i i, .sl 1 v.ps.length fun j _ => P j]
/-- the pointer to a node -/
def ndV (vs : List Vx) (i : Nat) : SV := .pp 6 (ndC (vg vs i) i fun j => if h : j < (vg vs i).ps.length ∧ pix vs i j < i then ndV vs (pix vs i j) else .any)
termination_by i
decreasing_by exact h.2
def parV (vs : List Vx) (i : Nat) (j : Nat) : SV := if j < (vg vs i).ps.length ∧ pix vs i j < i then ndV vs (pix vs i j) else .any
abbrev ndU (vs : List Vx) (i : Nat) : SV := .pp 6 (ndC (vg vs i) i (parV vs i))
theorem ndV_eq (vs : List Vx) (i : Nat) : ndV vs i = ndU vs i := by
  rw [ndV]
  unfold ndU
  congr 2
theorem GoodN.pix {c : List Int} {vs : List Vx} {n : Nat} (h : GoodN c vs n) {i j : Nat} (hi : i < n) (hn : n ≤ vs.length) (hj : j < (vg vs i).ps.length) : fdV vs ((vg vs i).r - 1) ((vg vs i).ps.getD j default) = some (pix vs i j) ∧ Proofs.YtpmhikdefbcofaaDoor.pix vs i j < i := by
  have := (st_parts (h i hi)).2.2 j hj
  obtain ⟨q, hq⟩ := Option.isSome_iff_exists.1 this
  obtain ⟨a1, a2, a3, a4⟩ := fd_some hq
  have hqi : q < i := by simp at a1; omega
  rw [vg_take hqi] at a2 a3
  have : fdV vs ((vg vs i).r - 1) ((vg vs i).ps.getD j default) = some q := fd_of (by omega) a2 a3 fun j' hj' => by
    have := a4 j' hj'
    rwa [vg_take (by omega)] at this
  unfold Proofs.YtpmhikdefbcofaaDoor.pix
  rw [this]
  exact ⟨rfl, hqi⟩
theorem parV_eq {c : List Int} {vs : List Vx} {n : Nat} (h : GoodN c vs n) {i j : Nat} (hi : i < n) (hn : n ≤ vs.length) (hj : j < (vg vs i).ps.length) : parV vs i j = ndU vs (pix vs i j) := by
  unfold parV
  rw [if_pos ⟨hj, (h.pix hi hn hj).2⟩, ndV_eq]
theorem pix_app {c : List Int} {vs : List Vx} {v : Vx} (h : GoodN c vs vs.length) {i j : Nat} (hi : i < vs.length) (hj : j < (vg vs i).ps.length) : pix (vs ++ [v]) i j = pix vs i j := by
  have := fd_app (v := v) (h.pix hi (Nat.le_refl _) hj).1
  unfold pix at this ⊢
  rw [vg_app hi, this]
  rfl
theorem ndV_app {c : List Int} {vs : List Vx} {v : Vx} (h : GoodN c vs vs.length) : ∀ {i : Nat}, i < vs.length → ndV (vs ++ [v]) i = ndV vs i := by
  intro i
  induction i using Nat.strongRecOn with
  | ind i ih =>
    intro hi
    rw [ndV_eq, ndV_eq]
    unfold ndU
    rw [vg_app hi]
    congr 2
    funext j
    unfold parV
    rw [vg_app hi]
    by_cases hj : j < (vg vs i).ps.length
    · rw [pix_app h hi hj]
      by_cases hp : pix vs i j < i
      · rw [if_pos ⟨hj, hp⟩, if_pos ⟨hj, hp⟩, ih _ hp (by omega)]
      · rw [if_neg (fun e => hp e.2), if_neg (fun e => hp e.2)]
    · rw [if_neg (fun e => hj e.1), if_neg (fun e => hj e.1)]
/-- what a place holds -/
def plV (vs : List Vx) (r a : Int) : SV := match fdV vs r a with
  | some i => ndV vs i
  | none => .val (.pointer none)
/-- the cells of a graph; x1 tells the list of nodes -/
def grF (c : List Int) (vs : List Vx) (x1 : SV) : Nat → SV := fun k => if k = 0 then isl c else if k = 1 then x1 else plV vs ((k - 2) / 7 : Nat) ((k - 2) % 7 : Nat)
theorem grF_pl {c : List Int} {vs : List Vx} {x1 : SV} {k r a : Nat} (hk : k = 2 + r * 7 + a) (ha : a < 7) : grF c vs x1 k = plV vs r a := by
  subst hk
  unfold grF
  rw [if_neg (by omega), if_neg (by omega), show (2 + r * 7 + a - 2) / 7 = r by omega, show (2 + r * 7 + a - 2) % 7 = a by omega]
/-- what stands at a round and an author -/
def AtV (vs : List Vx) (r a : Int) (x : SV) : Prop := (∃ i, fdV vs r a = some i ∧ x = ndU vs i) ∨ (fdV vs r a = none ∧ x = .val (.pointer none))
theorem plV_at (vs : List Vx) (r a : Int) : AtV vs r a (plV vs r a) := by
  unfold AtV plV
  cases fdV vs r a with
  | none => exact .inr ⟨rfl, rfl⟩
  | some i => exact .inl ⟨i, rfl, ndV_eq vs i⟩
theorem GoodN.out {c : List Int} {vs : List Vx} (h : GoodN c vs vs.length) {r a : Int} (hr : ¬ ((0 ≤ r ∧ r ≤ 30) ∧ 0 ≤ a ∧ a < c.length)) : fdV vs r a = none := fd_none.2 fun j hj ⟨h1, h2⟩ => by
  have := vxOk_iff (st_parts (h j hj)).1
  omega
end Go.Proofs.YtpmhikdefbcofaaDoor
