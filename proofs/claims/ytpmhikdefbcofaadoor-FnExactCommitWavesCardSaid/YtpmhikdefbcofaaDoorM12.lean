/- Texts of this proof put together: Gp, Ga, Gl. -/
import Derived.Test.YtpmhikdefbcofaaDoorM01
import Derived.Test.YtpmhikdefbcofaaDoorM02
import Derived.Test.YtpmhikdefbcofaaDoorM03
import Derived.Test.YtpmhikdefbcofaaDoorM04
import Derived.Test.YtpmhikdefbcofaaDoorM05
import Derived.Test.YtpmhikdefbcofaaDoorM06
import Derived.Test.YtpmhikdefbcofaaDoorM07
import Derived.Test.YtpmhikdefbcofaaDoorM08
import Derived.Test.YtpmhikdefbcofaaDoorM09
import Derived.Test.YtpmhikdefbcofaaDoorM10
import Derived.Test.YtpmhikdefbcofaaDoorM11
/-! YtpmhikdefbcofaaDoorGp -/
set_option linter.all false
namespace Go.Proofs.YtpmhikdefbcofaaDoor

abbrev vg (vs : List Vx) (i : Nat) : Vx := vs.getD i default
/-- the place of the first vertex of an author in a round -/
def fdV (vs : List Vx) (r a : Int) : Option Nat := vs.findIdx? fun v => v.r == r && v.a == a
def bef (u v : Vx) : Bool := decide (u.r < v.r) || decide (u.r = v.r) && decide (u.a < v.a)
def parOk (vs : List Vx) (v : Vx) : Bool := decide (∀ j, j < v.ps.length → (fdV vs (v.r - 1) (v.ps.getD j default)).isSome = true)
/-- a vertex is well placed: its parents among the first, among all -/
def stI (c : List Int) (vs : List Vx) (k : Nat) : Bool := vxOk c (vg vs k) && ((decide (k = 0) || bef (vg vs (k - 1)) (vg vs k)) && parOk (vs.take k) (vg vs k))
def stS (c : List Int) (vs : List Vx) (k : Nat) : Bool := vxOk c (vg vs k) && ((decide (k = 0) || bef (vg vs (k - 1)) (vg vs k)) && parOk vs (vg vs k))
def grOk (c : List Int) (vs : List Vx) : Bool := cmOk c && decide (∀ k, k < vs.length → stS c vs k = true)

theorem bef_iff {u v : Vx} : bef u v = true ↔ u.r < v.r ∨ u.r = v.r ∧ u.a < v.a := by simp [bef]
theorem bef_false {u v : Vx} : bef u v = false ↔ ¬ (u.r < v.r ∨ u.r = v.r ∧ u.a < v.a) := by rw [← Bool.not_eq_true, bef_iff]
theorem bef_trans {u v w : Vx} (h : bef u v = true) (k : bef v w = true) : bef u w = true := by rw [bef_iff] at *; omega
theorem vg_eq {vs : List Vx} {i : Nat} (h : i < vs.length) : vg vs i = vs[i] := by simp [vg, h]
theorem vg_take {vs : List Vx} {i k : Nat} (h : i < k) : vg (vs.take k) i = vg vs i := by simp [vg, List.getElem?_take, h]
theorem vg_app {vs : List Vx} {v : Vx} {i : Nat} (h : i < vs.length) : vg (vs ++ [v]) i = vg vs i := by simp [vg, List.getElem?_append_left h]
theorem vg_last {vs : List Vx} {v : Vx} : vg (vs ++ [v]) vs.length = v := by simp [vg]
theorem take_succ {vs : List Vx} {k : Nat} (h : k < vs.length) : vs.take (k + 1) = vs.take k ++ [vg vs k] := by rw [vg_eq h]; exact List.take_succ_eq_append_getElem h

theorem fd_some {vs : List Vx} {r a : Int} {i : Nat} (h : fdV vs r a = some i) : i < vs.length ∧ (vg vs i).r = r ∧ (vg vs i).a = a ∧ ∀ j, j < i → ¬ ((vg vs j).r = r ∧ (vg vs j).a = a) := by
  unfold fdV at h
  rw [List.findIdx?_eq_some_iff_getElem] at h
  obtain ⟨hi, hp, hj⟩ := h
  rw [Bool.and_eq_true] at hp
  refine ⟨hi, ?_, ?_, fun j hjl => ?_⟩
  · rw [vg_eq hi]; simpa using hp.1
  · rw [vg_eq hi]; simpa using hp.2
  · rw [vg_eq (by omega : j < vs.length)]
    simpa using hj j hjl
theorem fd_none {vs : List Vx} {r a : Int} : fdV vs r a = none ↔ ∀ j, j < vs.length → ¬ ((vg vs j).r = r ∧ (vg vs j).a = a) := by
  unfold fdV
  rw [List.findIdx?_eq_none_iff]
  constructor
  · intro h j hj
    rw [vg_eq hj]
    have := h _ (List.getElem_mem hj)
    simpa using this
  · intro h x hx
    obtain ⟨j, hj, rfl⟩ := List.getElem_of_mem hx
    have := h j hj
    rw [vg_eq hj] at this
    simpa using this
theorem fd_of {vs : List Vx} {r a : Int} {i : Nat} (hi : i < vs.length) (h1 : (vg vs i).r = r) (h2 : (vg vs i).a = a) (h3 : ∀ j, j < i → ¬ ((vg vs j).r = r ∧ (vg vs j).a = a)) : fdV vs r a = some i := by
  cases e : fdV vs r a with
  | none => exact absurd ⟨h1, h2⟩ (fd_none.1 e i hi)
  | some k =>
    obtain ⟨a1, a2, a3, a4⟩ := fd_some e
    rcases Nat.lt_trichotomy i k with h | h | h
    · exact absurd ⟨h1, h2⟩ (a4 i h)
    · rw [h]
    · exact absurd ⟨a2, a3⟩ (h3 k h)
theorem fd_isSome {vs : List Vx} {r a : Int} : (fdV vs r a).isSome = true ↔ ∃ i, i < vs.length ∧ (vg vs i).r = r ∧ (vg vs i).a = a := by
  constructor
  · intro h
    obtain ⟨i, hi⟩ := Option.isSome_iff_exists.1 h
    obtain ⟨a1, a2, a3, _⟩ := fd_some hi
    exact ⟨i, a1, a2, a3⟩
  · rintro ⟨i, hi, h1, h2⟩
    cases e : fdV vs r a with
    | none => exact absurd ⟨h1, h2⟩ (fd_none.1 e i hi)
    | some k => rfl
theorem fd_app {vs : List Vx} {v : Vx} {r a : Int} {i : Nat} (h : fdV vs r a = some i) : fdV (vs ++ [v]) r a = some i := by
  obtain ⟨a1, a2, a3, a4⟩ := fd_some h
  refine fd_of (by simp; omega) (by rw [vg_app a1]; exact a2) (by rw [vg_app a1]; exact a3) fun j hj => ?_
  rw [vg_app (by omega)]
  exact a4 j hj
theorem fd_app_none {vs : List Vx} {v : Vx} {r a : Int} (h : fdV vs r a = none) : fdV (vs ++ [v]) r a = if v.r = r ∧ v.a = a then some vs.length else none := by
  split
  · rename_i hv
    refine fd_of (by simp) (by rw [vg_last]; exact hv.1) (by rw [vg_last]; exact hv.2) fun j hj => ?_
    rw [vg_app hj]
    exact fd_none.1 h j hj
  · rename_i hv
    refine fd_none.2 fun j hj => ?_
    rcases Nat.lt_or_ge j vs.length with h1 | h1
    · rw [vg_app h1]; exact fd_none.1 h j h1
    · have : j = vs.length := by simp at hj; omega
      subst this
      rw [vg_last]; exact hv

/-- the first n vertices stand in order, are valid, and have their parents ahead of them -/
def GoodN (c : List Int) (vs : List Vx) (n : Nat) : Prop := ∀ k, k < n → stI c vs k = true
theorem st_parts {c : List Int} {vs : List Vx} {k : Nat} (h : stI c vs k = true) : vxOk c (vg vs k) = true ∧ (0 < k → bef (vg vs (k - 1)) (vg vs k) = true) ∧ ∀ j, j < (vg vs k).ps.length → (fdV (vs.take k) ((vg vs k).r - 1) ((vg vs k).ps.getD j default)).isSome = true := by
  unfold stI parOk at h
  simp only [Bool.and_eq_true, Bool.or_eq_true, decide_eq_true_eq] at h
  exact ⟨h.1, fun h0 => h.2.1.resolve_left (by omega), h.2.2⟩
theorem ord_lt {vs : List Vx} {n : Nat} (h : ∀ k, k < n → 0 < k → bef (vg vs (k - 1)) (vg vs k) = true) : ∀ {i j : Nat}, i < j → j < n → bef (vg vs i) (vg vs j) = true := by
  intro i j hij
  induction j with
  | zero => omega
  | succ j ih =>
    intro hj
    have h1 := h (j + 1) hj (by omega)
    rw [Nat.add_sub_cancel] at h1
    rcases Nat.lt_succ_iff_lt_or_eq.1 hij with h2 | rfl
    · exact bef_trans (ih h2 (by omega)) h1
    · exact h1
theorem GoodN.lt {c : List Int} {vs : List Vx} {n : Nat} (h : GoodN c vs n) {i j : Nat} (hij : i < j) (hj : j < n) : bef (vg vs i) (vg vs j) = true :=
  ord_lt (fun k hk h0 => (st_parts (h k hk)).2.1 h0) hij hj
/-- a vertex of a good graph stands at one place -/
theorem GoodN.inj {c : List Int} {vs : List Vx} {n : Nat} (h : GoodN c vs n) {i j : Nat} (hi : i < n) (hj : j < n) (h1 : (vg vs i).r = (vg vs j).r) (h2 : (vg vs i).a = (vg vs j).a) : i = j := by
  rcases Nat.lt_trichotomy i j with e | e | e
  · have := bef_iff.1 (h.lt e hj); omega
  · exact e
  · have := bef_iff.1 (h.lt e hi); omega
theorem GoodN.fd {c : List Int} {vs : List Vx} (h : GoodN c vs vs.length) {i : Nat} (hi : i < vs.length) : fdV vs (vg vs i).r (vg vs i).a = some i :=
  fd_of hi rfl rfl fun j hj ⟨h1, h2⟩ => by have := h.inj (by omega) hi h1 h2; omega
theorem st_take {c : List Int} {vs : List Vx} {n k : Nat} (hk : k < n) : stI c (vs.take n) k = stI c vs k := by
  unfold stI
  rw [vg_take hk, vg_take (by omega : k - 1 < n), List.take_take, Nat.min_eq_left (by omega)]
theorem st_app {c : List Int} {vs : List Vx} {v : Vx} {k : Nat} (hk : k < vs.length) : stI c (vs ++ [v]) k = stI c vs k := by
  unfold stI
  rw [vg_app hk, vg_app (by omega), List.take_append_of_le_length (by omega)]
theorem GoodN.take {c : List Int} {vs : List Vx} {n : Nat} (h : GoodN c vs n) : GoodN c (vs.take n) n := fun k hk => by rw [st_take hk]; exact h k hk

theorem par_take {vs : List Vx} {k : Nat} {v : Vx} (h : parOk (vs.take k) v = true) : parOk vs v = true := by
  unfold parOk at *
  rw [decide_eq_true_eq] at *
  intro j hj
  obtain ⟨i, hi, h1, h2⟩ := fd_isSome.1 (h j hj)
  have hik : i < k ∧ i < vs.length := by simp at hi; omega
  rw [vg_take hik.1] at h1 h2
  exact fd_isSome.2 ⟨i, hik.2, h1, h2⟩
theorem good_iff {c : List Int} {vs : List Vx} : GoodN c vs vs.length ↔ ∀ k, k < vs.length → stS c vs k = true := by
  constructor
  · intro h k hk
    have h1 := h k hk
    unfold stI at h1
    unfold stS
    simp only [Bool.and_eq_true] at h1 ⊢
    exact ⟨h1.1, h1.2.1, par_take h1.2.2⟩
  · intro h k hk
    have h1 := h k hk
    unfold stI
    unfold stS at h1
    simp only [Bool.and_eq_true] at h1 ⊢
    refine ⟨h1.1, h1.2.1, ?_⟩
    have h2 := h1.2.2
    unfold parOk at *
    rw [decide_eq_true_eq] at *
    intro j hj
    obtain ⟨i, hi, e1, e2⟩ := fd_isSome.1 (h2 j hj)
    have ho : ∀ q, q < vs.length → 0 < q → bef (vg vs (q - 1)) (vg vs q) = true := fun q hq h0 => by
      have := h q hq
      unfold stS at this
      simp only [Bool.and_eq_true, Bool.or_eq_true, decide_eq_true_eq] at this
      exact this.2.1.resolve_left (by omega)
    have hik : i < k := by
      rcases Nat.lt_trichotomy i k with h | h | h
      · exact h
      · subst h; omega
      · have := bef_iff.1 (ord_lt ho h hi); omega
    exact fd_isSome.2 ⟨i, by simp; omega, by rw [vg_take hik]; exact e1, by rw [vg_take hik]; exact e2⟩
theorem grOk_iff {c : List Int} {vs : List Vx} : grOk c vs = true ↔ cmOk c = true ∧ GoodN c vs vs.length := by
  unfold grOk
  rw [Bool.and_eq_true, decide_eq_true_eq, good_iff]
theorem grOk_no {c : List Int} {vs : List Vx} {k : Nat} (hk : k < vs.length) (h : stI c vs k = false) : false = grOk c vs := by
  symm
  rw [Bool.eq_false_iff]
  intro h'
  rw [(grOk_iff.1 h').2 k hk] at h
  cases h
theorem grOk_noS {c : List Int} {vs : List Vx} {k : Nat} (hk : k < vs.length) (h : stS c vs k = false) : false = grOk c vs := by
  symm
  rw [Bool.eq_false_iff]
  intro h'
  unfold grOk at h'
  rw [Bool.and_eq_true, decide_eq_true_eq] at h'
  rw [h'.2 k hk] at h
  cases h

/-! ### the linked graph -/
/-- where parent j of vertex i stands -/
def pix (vs : List Vx) (i j : Nat) : Nat := (fdV vs ((vg vs i).r - 1) ((vg vs i).ps.getD j default)).getD 0
/-- the cells of a node -/
def ndC (v : Vx) (i : Nat) (P : Nat → SV) : Nat → SV := litF [.i v.r, .i v.a, isl v.ps, .i v.d, .i i, .sl 1 v.ps.length fun j _ => P j]
/-- the pointer to a node -/
def ndV (vs : List Vx) (i : Nat) : SV := .pp 6 (ndC (vg vs i) i fun j => if h : j < (vg vs i).ps.length ∧ pix vs i j < i then ndV vs (pix vs i j) else .any)
termination_by i
decreasing_by exact h.2
def parV (vs : List Vx) (i : Nat) (j : Nat) : SV := if j < (vg vs i).ps.length ∧ pix vs i j < i then ndV vs (pix vs i j) else .any
abbrev ndU (vs : List Vx) (i : Nat) : SV := .pp 6 (ndC (vg vs i) i (parV vs i))
theorem ndV_eq (vs : List Vx) (i : Nat) : ndV vs i = ndU vs i := by
  rw [ndV]
  unfold ndU
  congr 2
theorem GoodN.pix {c : List Int} {vs : List Vx} {n : Nat} (h : GoodN c vs n) {i j : Nat} (hi : i < n) (hn : n ≤ vs.length) (hj : j < (vg vs i).ps.length) : fdV vs ((vg vs i).r - 1) ((vg vs i).ps.getD j default) = some (pix vs i j) ∧ Proofs.YtpmhikdefbcofaaDoor.pix vs i j < i := by
  have := (st_parts (h i hi)).2.2 j hj
  obtain ⟨q, hq⟩ := Option.isSome_iff_exists.1 this
  obtain ⟨a1, a2, a3, a4⟩ := fd_some hq
  have hqi : q < i := by simp at a1; omega
  rw [vg_take hqi] at a2 a3
  have : fdV vs ((vg vs i).r - 1) ((vg vs i).ps.getD j default) = some q := fd_of (by omega) a2 a3 fun j' hj' => by
    have := a4 j' hj'
    rwa [vg_take (by omega)] at this
  unfold Proofs.YtpmhikdefbcofaaDoor.pix
  rw [this]
  exact ⟨rfl, hqi⟩
theorem parV_eq {c : List Int} {vs : List Vx} {n : Nat} (h : GoodN c vs n) {i j : Nat} (hi : i < n) (hn : n ≤ vs.length) (hj : j < (vg vs i).ps.length) : parV vs i j = ndU vs (pix vs i j) := by
  unfold parV
  rw [if_pos ⟨hj, (h.pix hi hn hj).2⟩, ndV_eq]
theorem pix_app {c : List Int} {vs : List Vx} {v : Vx} (h : GoodN c vs vs.length) {i j : Nat} (hi : i < vs.length) (hj : j < (vg vs i).ps.length) : pix (vs ++ [v]) i j = pix vs i j := by
  have := fd_app (v := v) (h.pix hi (Nat.le_refl _) hj).1
  unfold pix at this ⊢
  rw [vg_app hi, this]
  rfl
theorem ndV_app {c : List Int} {vs : List Vx} {v : Vx} (h : GoodN c vs vs.length) : ∀ {i : Nat}, i < vs.length → ndV (vs ++ [v]) i = ndV vs i := by
  intro i
  induction i using Nat.strongRecOn with
  | ind i ih =>
    intro hi
    rw [ndV_eq, ndV_eq]
    unfold ndU
    rw [vg_app hi]
    congr 2
    funext j
    unfold parV
    rw [vg_app hi]
    by_cases hj : j < (vg vs i).ps.length
    · rw [pix_app h hi hj]
      by_cases hp : pix vs i j < i
      · rw [if_pos ⟨hj, hp⟩, if_pos ⟨hj, hp⟩, ih _ hp (by omega)]
      · rw [if_neg (fun e => hp e.2), if_neg (fun e => hp e.2)]
    · rw [if_neg (fun e => hj e.1), if_neg (fun e => hj e.1)]
/-- what a place holds -/
def plV (vs : List Vx) (r a : Int) : SV := match fdV vs r a with
  | some i => ndV vs i
  | none => .val (.pointer none)
/-- the cells of a graph; x1 tells the list of nodes -/
def grF (c : List Int) (vs : List Vx) (x1 : SV) : Nat → SV := fun k => if k = 0 then isl c else if k = 1 then x1 else plV vs ((k - 2) / 7 : Nat) ((k - 2) % 7 : Nat)
theorem grF_pl {c : List Int} {vs : List Vx} {x1 : SV} {k r a : Nat} (hk : k = 2 + r * 7 + a) (ha : a < 7) : grF c vs x1 k = plV vs r a := by
  subst hk
  unfold grF
  rw [if_neg (by omega), if_neg (by omega), show (2 + r * 7 + a - 2) / 7 = r by omega, show (2 + r * 7 + a - 2) % 7 = a by omega]
/-- what stands at a round and an author -/
def AtV (vs : List Vx) (r a : Int) (x : SV) : Prop := (∃ i, fdV vs r a = some i ∧ x = ndU vs i) ∨ (fdV vs r a = none ∧ x = .val (.pointer none))
theorem plV_at (vs : List Vx) (r a : Int) : AtV vs r a (plV vs r a) := by
  unfold AtV plV
  cases fdV vs r a with
  | none => exact .inr ⟨rfl, rfl⟩
  | some i => exact .inl ⟨i, rfl, ndV_eq vs i⟩
theorem GoodN.out {c : List Int} {vs : List Vx} (h : GoodN c vs vs.length) {r a : Int} (hr : ¬ ((0 ≤ r ∧ r ≤ 30) ∧ 0 ≤ a ∧ a < c.length)) : fdV vs r a = none := fd_none.2 fun j hj ⟨h1, h2⟩ => by
  have := vxOk_iff (st_parts (h j hj)).1
  omega
end Go.Proofs.YtpmhikdefbcofaaDoor
/-! YtpmhikdefbcofaaDoorGa -/
set_option linter.all false
namespace Go.Proofs.YtpmhikdefbcofaaDoor
open Go.RowKit

/-- what stands at a place; the graph is as it was -/
def AtP (c : List Int) (vs : List Vx) (x1 : SV) (g : Nat) (r a : Int) (q : SV) (N : List Hp) (p' : Hp) : Prop := N = [] ∧ p' = .box g 87 219 (grF c vs x1) ∧ AtV vs r a q
theorem atO_c (c : List Int) (vs : List Vx) (x1 : SV) (g : Nat) (r a : Int) (hcm : cmOk c = true) (hg : GoodN c vs vs.length) : SMut Tryd.prog 47 [.val (.pointer (some ⟨g, 0, none⟩)), .i r, .i a] (.box g 87 219 (grF c vs x1)) (AtP c vs x1 g r a) := ⟨fun R => by
  have h7 := (cmOk_iff.1 hcm).1
  refine SCalls.enter tt_ok Tryd.func47 (by kernel_rfl) rfl [(0, .box g 87 219 (grF c vs x1)), (900, .cust R)] rfl (upd (argF [.val (.pointer (some ⟨g, 0, none⟩)), .i r, .i a]) 0 (.ptr 0 g 0)) (fun w F v k h => at_arg h) (by simp) ?_
  by_cases hin : (0 ≤ r ∧ r ≤ 30) ∧ 0 ≤ a ∧ a < c.length
  · obtain ⟨q, hq, hA⟩ : ∃ q, plV vs r a = q ∧ AtV vs r a q := ⟨_, rfl, plV_at vs r a⟩
    have hld : ∀ k, k = 2 + r.toNat * 7 + a.toNat → grF c vs x1 k = q := fun k hk => by rw [grF_pl hk (by omega), ← hq]; congr 1 <;> omega
    have hR : inB r 0 30 = true := inB_true.2 hin.1
    rcases hA with ⟨i, h1, rfl⟩ | ⟨h1, rfl⟩
    all_goals (repeat' (first | (with_reducible first | refine HT.seq ?_ | refine HT.block ?_ | refine Br.not ?_) | ((with_reducible first | refine HT.region tt_ok ?_ | refine HT.drawn tt_ok (by kernel_rfl) (by decide +kernel) ?_ | refine HT.drawnL tt_ok (by kernel_rfl) (by decide +kernel) ?_ | refine HT.cond ?_ | refine HT.ret ?_ | refine HT.skip ?_ | refine HT.exit ?_ | refine Br.tt ?_ | refine Br.ff ?_); conv => whnf) | ((with_reducible first | refine Br.dec (fun hc => ?_) (fun hc => ?_) | refine Br.eq (fun hc => ?_) (fun hc => ?_) | refine Br.ne (fun hc => ?_) (fun hc => ?_)) <;> (first | (exfalso; omega) | conv => whnf)) | ((with_reducible first | refine Br.ttE (by decide) ?_ | refine Br.ffE (by decide) ?_ | refine Br.mk (fun hc => ?_) (fun hc => ?_) | refine Chk.mk (by first | omega | with_reducible rfl | (refine ⟨rfl, ?_⟩; omega) | decide | exact ⟨rfl, by omega, by omega, rfl⟩ | exact ⟨by assumption, rfl, by omega, by omega⟩) ?_ | refine Ar.fit (by omega) ?_ | refine Eqv.shr1 ?_ | refine Ar.u64 (by omega) ?_) <;> conv => whnf) | ((first | refine CallN.ret1 ((isRound_c _).bt hR) ?_ | refine CallN.ret1 (implHas_c c a) ?_ | (rw [hld (0 + 2 + r.toNat * 7 + a.toNat * 1) (by omega)])) <;> conv => whnf) | ((with_reducible refine Br.ttE (decide_eq_true hin.2) ?_); conv => whnf) | (with_reducible exact trivial) | ((with_reducible refine And.intro ?_ ?_) <;> conv => whnf) | (intro gn; conv => whnf)))
    · exact Fin.mut [] _ (fun _ => 0) (PPick.refl _) ⟨rfl, rfl, .inl ⟨i, h1, rfl⟩⟩
    · exact Fin.mut [] _ (fun _ => 0) (PPick.refl _) ⟨rfl, rfl, .inr ⟨h1, rfl⟩⟩
  · have h1 := hg.out hin
    by_cases hr : inB r 0 30 = true
    · have hr2 := inB_true.1 hr
      repeat' (first | (with_reducible first | refine HT.seq ?_ | refine HT.block ?_ | refine Br.not ?_) | ((with_reducible first | refine HT.region tt_ok ?_ | refine HT.drawn tt_ok (by kernel_rfl) (by decide +kernel) ?_ | refine HT.drawnL tt_ok (by kernel_rfl) (by decide +kernel) ?_ | refine HT.cond ?_ | refine HT.ret ?_ | refine HT.skip ?_ | refine HT.exit ?_ | refine Br.tt ?_ | refine Br.ff ?_); conv => whnf) | ((with_reducible first | refine Br.dec (fun hc => ?_) (fun hc => ?_) | refine Br.eq (fun hc => ?_) (fun hc => ?_) | refine Br.ne (fun hc => ?_) (fun hc => ?_)) <;> (first | (exfalso; omega) | conv => whnf)) | ((with_reducible first | refine Br.ttE (by decide) ?_ | refine Br.ffE (by decide) ?_ | refine Br.mk (fun hc => ?_) (fun hc => ?_) | refine Chk.mk (by first | omega | with_reducible rfl | (refine ⟨rfl, ?_⟩; omega) | decide | exact ⟨rfl, by omega, by omega, rfl⟩ | exact ⟨by assumption, rfl, by omega, by omega⟩) ?_ | refine Ar.fit (by omega) ?_ | refine Eqv.shr1 ?_ | refine Ar.u64 (by omega) ?_) <;> conv => whnf) | ((first | refine CallN.ret1 ((isRound_c _).bt hr) ?_ | refine CallN.ret1 (implHas_c c a) ?_) <;> conv => whnf) | (with_reducible exact trivial) | ((with_reducible refine And.intro ?_ ?_) <;> conv => whnf) | (intro gn; conv => whnf))
      exact Fin.mut [] _ (fun _ => 0) (PPick.refl _) ⟨rfl, rfl, .inr ⟨h1, rfl⟩⟩
    · repeat' (first | (with_reducible first | refine HT.seq ?_ | refine HT.block ?_ | refine Br.not ?_) | ((with_reducible first | refine HT.region tt_ok ?_ | refine HT.drawn tt_ok (by kernel_rfl) (by decide +kernel) ?_ | refine HT.drawnL tt_ok (by kernel_rfl) (by decide +kernel) ?_ | refine HT.cond ?_ | refine HT.ret ?_ | refine HT.skip ?_ | refine HT.exit ?_ | refine Br.tt ?_ | refine Br.ff ?_); conv => whnf) | ((with_reducible first | refine Br.dec (fun hc => ?_) (fun hc => ?_) | refine Br.eq (fun hc => ?_) (fun hc => ?_) | refine Br.ne (fun hc => ?_) (fun hc => ?_)) <;> (first | (exfalso; omega) | conv => whnf)) | ((with_reducible first | refine Br.ttE (by decide) ?_ | refine Br.ffE (by decide) ?_ | refine Br.mk (fun hc => ?_) (fun hc => ?_) | refine Chk.mk (by first | omega | with_reducible rfl | (refine ⟨rfl, ?_⟩; omega) | decide | exact ⟨rfl, by omega, by omega, rfl⟩ | exact ⟨by assumption, rfl, by omega, by omega⟩) ?_ | refine Ar.fit (by omega) ?_ | refine Eqv.shr1 ?_ | refine Ar.u64 (by omega) ?_) <;> conv => whnf) | ((first | refine CallN.ret1 ((isRound_c _).bf (by simpa using hr)) ?_) <;> conv => whnf) | (with_reducible exact trivial) | ((with_reducible refine And.intro ?_ ?_) <;> conv => whnf) | (intro gn; conv => whnf))
      exact Fin.mut [] _ (fun _ => 0) (PPick.refl _) ⟨rfl, rfl, .inr ⟨h1, rfl⟩⟩⟩
theorem atF_c (c : List Int) (vs : List Vx) (x1 : SV) (r a : Int) (hcm : cmOk c = true) (hg : GoodN c vs vs.length) : SRet Tryd.prog 47 [.pp 219 (grF c vs x1), .i r, .i a] (AtV vs r a) := ⟨fun R => by
  have h7 := (cmOk_iff.1 hcm).1
  refine SCalls.enter tt_ok Tryd.func47 (by kernel_rfl) rfl [(900, .cust R)] rfl (argF _) (fun w F v k h => h) (by simp) ?_
  by_cases hin : (0 ≤ r ∧ r ≤ 30) ∧ 0 ≤ a ∧ a < c.length
  · obtain ⟨q, hq, hA⟩ : ∃ q, plV vs r a = q ∧ AtV vs r a q := ⟨_, rfl, plV_at vs r a⟩
    have hld : ∀ k, k = 2 + r.toNat * 7 + a.toNat → grF c vs x1 k = q := fun k hk => by rw [grF_pl hk (by omega), ← hq]; congr 1 <;> omega
    have hR : inB r 0 30 = true := inB_true.2 hin.1
    rcases hA with ⟨i, h1, rfl⟩ | ⟨h1, rfl⟩
    all_goals (repeat' (first | (with_reducible first | refine HT.seq ?_ | refine HT.block ?_ | refine Br.not ?_) | ((with_reducible first | refine HT.region tt_ok ?_ | refine HT.drawn tt_ok (by kernel_rfl) (by decide +kernel) ?_ | refine HT.drawnL tt_ok (by kernel_rfl) (by decide +kernel) ?_ | refine HT.cond ?_ | refine HT.ret ?_ | refine HT.skip ?_ | refine HT.exit ?_ | refine Br.tt ?_ | refine Br.ff ?_); conv => whnf) | ((with_reducible first | refine Br.dec (fun hc => ?_) (fun hc => ?_) | refine Br.eq (fun hc => ?_) (fun hc => ?_) | refine Br.ne (fun hc => ?_) (fun hc => ?_)) <;> (first | (exfalso; omega) | conv => whnf)) | ((with_reducible first | refine Br.ttE (by decide) ?_ | refine Br.ffE (by decide) ?_ | refine Br.mk (fun hc => ?_) (fun hc => ?_) | refine Chk.mk (by first | omega | with_reducible rfl | (refine ⟨rfl, ?_⟩; omega) | decide | exact ⟨rfl, by omega, by omega, rfl⟩ | exact ⟨by assumption, rfl, by omega, by omega⟩) ?_ | refine Ar.fit (by omega) ?_ | refine Eqv.shr1 ?_ | refine Ar.u64 (by omega) ?_) <;> conv => whnf) | ((first | refine CallN.ret1 ((isRound_c _).bt hR) ?_ | refine CallN.ret1 (implHas_c c a) ?_ | (dsimp only; rw [hld (2 + (r.toNat * 7 + (a.toNat * 1 + 0))) (by omega)])) <;> conv => whnf) | ((with_reducible refine Br.ttE (decide_eq_true hin.2) ?_); conv => whnf) | (with_reducible exact trivial) | ((with_reducible refine And.intro ?_ ?_) <;> conv => whnf) | (intro gn; conv => whnf)))
    · exact Fin.pureS (by repeat (first | exact List.Sublist.refl _ | refine List.Sublist.cons_cons _ ?_ | refine List.Sublist.cons _ ?_)) (.inl ⟨i, h1, rfl⟩)
    · exact Fin.pureS (by repeat (first | exact List.Sublist.refl _ | refine List.Sublist.cons_cons _ ?_ | refine List.Sublist.cons _ ?_)) (.inr ⟨h1, rfl⟩)
  · have h1 := hg.out hin
    by_cases hr : inB r 0 30 = true
    · have hr2 := inB_true.1 hr
      repeat' (first | (with_reducible first | refine HT.seq ?_ | refine HT.block ?_ | refine Br.not ?_) | ((with_reducible first | refine HT.region tt_ok ?_ | refine HT.drawn tt_ok (by kernel_rfl) (by decide +kernel) ?_ | refine HT.drawnL tt_ok (by kernel_rfl) (by decide +kernel) ?_ | refine HT.cond ?_ | refine HT.ret ?_ | refine HT.skip ?_ | refine HT.exit ?_ | refine Br.tt ?_ | refine Br.ff ?_); conv => whnf) | ((with_reducible first | refine Br.dec (fun hc => ?_) (fun hc => ?_) | refine Br.eq (fun hc => ?_) (fun hc => ?_) | refine Br.ne (fun hc => ?_) (fun hc => ?_)) <;> (first | (exfalso; omega) | conv => whnf)) | ((with_reducible first | refine Br.ttE (by decide) ?_ | refine Br.ffE (by decide) ?_ | refine Br.mk (fun hc => ?_) (fun hc => ?_) | refine Chk.mk (by first | omega | with_reducible rfl | (refine ⟨rfl, ?_⟩; omega) | decide | exact ⟨rfl, by omega, by omega, rfl⟩ | exact ⟨by assumption, rfl, by omega, by omega⟩) ?_ | refine Ar.fit (by omega) ?_ | refine Eqv.shr1 ?_ | refine Ar.u64 (by omega) ?_) <;> conv => whnf) | ((first | refine CallN.ret1 ((isRound_c _).bt hr) ?_ | refine CallN.ret1 (implHas_c c a) ?_) <;> conv => whnf) | (with_reducible exact trivial) | ((with_reducible refine And.intro ?_ ?_) <;> conv => whnf) | (intro gn; conv => whnf))
      exact Fin.pureS (by repeat (first | exact List.Sublist.refl _ | refine List.Sublist.cons_cons _ ?_ | refine List.Sublist.cons _ ?_)) (.inr ⟨h1, rfl⟩)
    · repeat' (first | (with_reducible first | refine HT.seq ?_ | refine HT.block ?_ | refine Br.not ?_) | ((with_reducible first | refine HT.region tt_ok ?_ | refine HT.drawn tt_ok (by kernel_rfl) (by decide +kernel) ?_ | refine HT.drawnL tt_ok (by kernel_rfl) (by decide +kernel) ?_ | refine HT.cond ?_ | refine HT.ret ?_ | refine HT.skip ?_ | refine HT.exit ?_ | refine Br.tt ?_ | refine Br.ff ?_); conv => whnf) | ((with_reducible first | refine Br.dec (fun hc => ?_) (fun hc => ?_) | refine Br.eq (fun hc => ?_) (fun hc => ?_) | refine Br.ne (fun hc => ?_) (fun hc => ?_)) <;> (first | (exfalso; omega) | conv => whnf)) | ((with_reducible first | refine Br.ttE (by decide) ?_ | refine Br.ffE (by decide) ?_ | refine Br.mk (fun hc => ?_) (fun hc => ?_) | refine Chk.mk (by first | omega | with_reducible rfl | (refine ⟨rfl, ?_⟩; omega) | decide | exact ⟨rfl, by omega, by omega, rfl⟩ | exact ⟨by assumption, rfl, by omega, by omega⟩) ?_ | refine Ar.fit (by omega) ?_ | refine Eqv.shr1 ?_ | refine Ar.u64 (by omega) ?_) <;> conv => whnf) | ((first | refine CallN.ret1 ((isRound_c _).bf (by simpa using hr)) ?_) <;> conv => whnf) | (with_reducible exact trivial) | ((with_reducible refine And.intro ?_ ?_) <;> conv => whnf) | (intro gn; conv => whnf))
      exact Fin.pureS (by repeat (first | exact List.Sublist.refl _ | refine List.Sublist.cons_cons _ ?_ | refine List.Sublist.cons _ ?_)) (.inr ⟨h1, rfl⟩)⟩
end Go.Proofs.YtpmhikdefbcofaaDoor
/-! YtpmhikdefbcofaaDoorGl -/
set_option linter.all false
namespace Go.Proofs.YtpmhikdefbcofaaDoor
open Go.RowKit

theorem fd_new {c : List Int} {vs : List Vx} {v : Vx} (hg : GoodN c vs vs.length) (ho : 0 < vs.length → bef (vg vs (vs.length - 1)) v = true) : fdV vs v.r v.a = none := fd_none.2 fun j hj ⟨h1, h2⟩ => by
  have h := bef_iff.1 (ho (by omega))
  rcases Nat.lt_or_ge j (vs.length - 1) with h3 | h3
  · have := bef_iff.1 (hg.lt h3 (by omega)); omega
  · rw [show j = vs.length - 1 by omega] at h1 h2; omega
theorem good_app {c : List Int} {vs : List Vx} {v : Vx} (hg : GoodN c vs vs.length) (hv : vxOk c v = true) (ho : 0 < vs.length → bef (vg vs (vs.length - 1)) v = true) (hp : parOk vs v = true) : GoodN c (vs ++ [v]) (vs ++ [v]).length := fun k hk => by
  rw [List.length_append, List.length_singleton] at hk
  rcases Nat.lt_or_ge k vs.length with h | h
  · rw [st_app h]; exact hg k h
  · obtain rfl : k = vs.length := by omega
    unfold stI
    rw [vg_last, List.take_append_of_le_length (Nat.le_refl _), List.take_length, hv, hp]
    by_cases h0 : vs.length = 0
    · simp [h0]
    · rw [vg_app (by omega : vs.length - 1 < vs.length), ho (by omega)]; simp
theorem par_new {c : List Int} {vs : List Vx} {v : Vx} {j : Nat} (hg : GoodN c vs vs.length) (hj : j < v.ps.length) (hs : (fdV vs (v.r - 1) (v.ps.getD j default)).isSome = true) : parV (vs ++ [v]) vs.length j = plV vs (v.r - 1) (v.ps.getD j default) := by
  obtain ⟨i, hi⟩ := Option.isSome_iff_exists.1 hs
  have hp : pix (vs ++ [v]) vs.length j = i := by
    unfold pix
    rw [vg_last, fd_app hi]
    rfl
  have hl := (fd_some hi).1
  unfold parV
  rw [vg_last, hp, if_pos ⟨hj, hl⟩, ndV_app hg hl]
  unfold plV
  rw [hi]
theorem nd_new {vs : List Vx} {v : Vx} : ndU (vs ++ [v]) vs.length = .pp 6 (ndC v vs.length (parV (vs ++ [v]) vs.length)) := by
  unfold ndU
  rw [vg_last]
theorem pl_new {c : List Int} {vs : List Vx} {v : Vx} (hg : GoodN c vs vs.length) (ho : 0 < vs.length → bef (vg vs (vs.length - 1)) v = true) : plV (vs ++ [v]) v.r v.a = ndU (vs ++ [v]) vs.length := by
  have := fd_app_none (v := v) (fd_new hg ho)
  rw [if_pos ⟨rfl, rfl⟩] at this
  unfold plV
  rw [this]
  exact ndV_eq _ _
theorem pl_old {c : List Int} {vs : List Vx} {v : Vx} {r a : Int} (hg : GoodN c vs vs.length) (h : ¬ (v.r = r ∧ v.a = a)) : plV (vs ++ [v]) r a = plV vs r a := by
  unfold plV
  cases e : fdV vs r a with
  | none =>
    rw [fd_app_none e, if_neg h]
  | some i =>
    rw [fd_app e]
    exact ndV_app hg (fd_some e).1
/-- the graph's cells with one vertex more -/
theorem gr_put {w : World} {F : Nat → Prop} {c : List Int} {vs : List Vx} {v : Vx} {x1 y : SV} {nd : SV} (hg : GoodN c vs vs.length) (hv : vxOk c v = true) (hc : c.length ≤ 7) (ho : 0 < vs.length → bef (vg vs (vs.length - 1)) v = true) {off : Nat} (hoff : off = 2 + v.r.toNat * 7 + v.a.toNat)
    (hnd : LeW w F nd (ndU (vs ++ [v]) vs.length)) {y' : SV} (hy : LeW w F y y') {j : Nat} : LeW w F (putF off 1 (fun _ => nd) (putF (0 + 1) 1 (fun _ => y) (grF c vs x1)) j) (grF c (vs ++ [v]) y' j) := by
  have hb := vxOk_iff hv
  rw [putF_one, putF_one]
  by_cases h1 : j = off
  · rw [if_pos h1, grF_pl (show j = 2 + v.r.toNat * 7 + v.a.toNat by omega) (by omega)]
    rw [show ((v.r.toNat : Int)) = v.r by omega, show ((v.a.toNat : Int)) = v.a by omega, pl_new hg ho]
    exact hnd
  · rw [if_neg h1]
    by_cases h2 : j = 0 + 1
    · rw [if_pos h2]
      subst h2
      exact hy
    · rw [if_neg h2]
      unfold grF
      by_cases h3 : j = 0
      · rw [if_pos h3, if_pos h3]; exact fun _ h => h
      · rw [if_neg h3, if_neg h3, if_neg (by omega), if_neg (by omega), pl_old hg (by omega)]
        exact fun _ h => h
theorem pl_eq {vs : List Vx} {r a : Int} {i : Nat} (h : fdV vs r a = some i) : plV vs r a = ndU vs i := by
  unfold plV
  rw [h]
  exact ndV_eq vs i

/-- the graph under construction: its cells, its list of nodes -/
def grL (g : Nat) (c : List Int) (vs : List Vx) (k : Nat) (s : Value) : List Hp := [.box g 87 219 (grF c vs (.own k s)), .row s 59 1 vs.length (fun i _ => ndV vs i)]
def grH (g : Nat) (c : List Int) (vs : List Vx) (s : Value) : Heaplet := bundle (grL g c vs 1 s)
theorem HT.open2 {P : Program} {n : Nat} {c : Code} {Q : Exit → St → Prop} {σ : Fr} {L : Hpl} {nx k k0 k1 : Nat} {a b : Hp} (h : HT P n c Q ⟨σ, (k0, a) :: (k1, b) :: L, nx⟩) : HT P n c Q ⟨σ, (k, .cust (bundle [a, b])) :: L, nx⟩ :=
  HT.le (s' := ⟨σ, (k0, a) :: (k1, b) :: L, nx⟩) (fun n F w hs => fun h => ⟨F, fun _ h => h, h.size, h.defers, h.fr, HSat.unbundleK (A := []) h.heap⟩) h
theorem Fin.bundle {r : SV} {H : List Hp} {R : Heaplet} {Φ : SV → List Hp → Hp → Prop} (Z : List Hp) (hp : PPick H (Z ++ [.cust R])) (h : Φ r [] (.cust (Proofs.YtpmhikdefbcofaaDoor.bundle Z))) : Fin r H (fun r H' => ∃ N p', H' = N ++ [p', .cust R] ∧ Φ r N p') :=
  ⟨⟨r, [.cust (Proofs.YtpmhikdefbcofaaDoor.bundle Z), .cust R], fun w F v hs hv => ⟨F, fun _ h => h, HSat.bundleK (A := []) (H := Z) (B := [.cust R]) (hp.sat hs), hv⟩, [], _, rfl, h⟩⟩
/-- what link leaves -/
def LinkP (g : Nat) (c : List Int) (vs : List Vx) (v : Vx) (r : SV) (N : List Hp) (p' : Hp) : Prop :=
  N = [] ∧ ((parOk vs v = true ∧ r = .b true ∧ ∃ A cp, p' = .cust (grH g c (vs ++ [v]) (.slice A (vs.length + 1) cp))) ∨ (parOk vs v = false ∧ r = .b false ∧ ∃ h, p' = .cust h))
theorem precedes_c (u v : Vx) : SRet Tryd.prog 65 [vxV u, vxV v] (· = .b (bef u v)) := ⟨fun R => by
  refine SCalls.enter tt_ok Tryd.func65 (by kernel_rfl) rfl [(900, .cust R)] rfl (argF _) (fun w F v k h => h) (by simp) ?_
  repeat' (first | (with_reducible first | refine HT.seq ?_ | refine HT.block ?_ | refine Br.not ?_) | ((with_reducible first | refine HT.region tt_ok ?_ | refine HT.drawn tt_ok (by kernel_rfl) (by decide +kernel) ?_ | refine HT.drawnL tt_ok (by kernel_rfl) (by decide +kernel) ?_ | refine HT.cond ?_ | refine HT.ret ?_ | refine HT.skip ?_ | refine HT.exit ?_ | refine Br.tt ?_ | refine Br.ff ?_); conv => whnf) | ((with_reducible first | refine Br.dec (fun hc => ?_) (fun hc => ?_) | refine Br.eq (fun hc => ?_) (fun hc => ?_) | refine Br.ne (fun hc => ?_) (fun hc => ?_)) <;> (first | (exfalso; omega) | conv => whnf)) | ((with_reducible first | refine Br.ttE (by decide) ?_ | refine Br.ffE (by decide) ?_ | refine Br.mk (fun hc => ?_) (fun hc => ?_) | refine Chk.mk (by first | omega | with_reducible rfl | (refine ⟨rfl, ?_⟩; omega) | decide | exact ⟨rfl, by omega, by omega, rfl⟩ | exact ⟨by assumption, rfl, by omega, by omega⟩) ?_ | refine Ar.fit (by omega) ?_ | refine Eqv.shr1 ?_ | refine Ar.u64 (by omega) ?_) <;> conv => whnf) | (with_reducible exact trivial) | ((with_reducible refine And.intro ?_ ?_) <;> conv => whnf) | (intro gn; conv => whnf))
  all_goals exact Fin.pureS (by repeat (first | exact List.Sublist.refl _ | refine List.Sublist.cons_cons _ ?_ | refine List.Sublist.cons _ ?_)) (sv_b (by unfold bef; simp_all))⟩
theorem HT.bundleN {P : Program} {n : Nat} {c : Code} {Q : Exit → St → Prop} {σ : Fr} {L L' : Hpl} {nx : Nat} (k : Nat) (Z : List Hp) (hp : ∀ w F, HSat w F (L.map Prod.snd) → HSat w F (Z ++ L'.map Prod.snd)) (h : HT P n c Q ⟨σ, (k, .cust (bundle Z)) :: L', nx⟩) : HT P n c Q ⟨σ, L, nx⟩ :=
  HT.le (s' := ⟨σ, (k, .cust (bundle Z)) :: L', nx⟩) (fun n F a w hs => ⟨F, fun _ h => h, hs.size, hs.defers, hs.fr, HSat.bundleK (A := []) (hp w F hs.heap)⟩) h
theorem gr_zc : (fetch 87 tt).zc = .slice none 0 0 :: .slice none 0 0 :: List.replicate 217 (.pointer none) := by kernel_rfl
theorem gr_nil (c : List Int) : ∀ j, j < 219 → CellLe (putF 0 1 (fun _ => isl c) (zF (fetch 87 tt).zc) j) (grF c [] (.own 1 (.slice none 0 0)) j) := fun j hj => by
  rw [putF_one, gr_zc]
  unfold grF
  by_cases h0 : j = 0
  · rw [if_pos h0, if_pos h0]; exact .refl _
  · rw [if_neg h0, if_neg h0]
    by_cases h1 : j = 1
    · subst h1; exact .nil
    · rw [if_neg h1]
      obtain ⟨q, rfl⟩ : ∃ q, j = q + 2 := ⟨j - 2, by omega⟩
      refine CellLe.of_eq ?_
      show SV.val ((List.replicate 217 (Value.pointer none)).getD q undef) = .val (.pointer none)
      rw [List.getD_eq_getElem?_getD, List.getElem?_replicate, if_pos (by omega)]; rfl
set_option maxRecDepth 100000 in
theorem link_c (c : List Int) (vs : List Vx) (v : Vx) (g : Nat) (A : Option Addr) (cp : Nat) (hcm : cmOk c = true) (hg : GoodN c vs vs.length) (hv : vxOk c v = true) (ho : 0 < vs.length → bef (vg vs (vs.length - 1)) v = true) (hl : vs.length ≤ 10000000) : SMut Tryd.prog 66 [.val (.pointer (some ⟨g, 0, none⟩)), vxV v] (.cust (grH g c vs (.slice A vs.length cp))) (LinkP g c vs v) := ⟨fun R => by
  have h7 := (cmOk_iff.1 hcm).1
  have hb := vxOk_iff hv
  have hpl := ms_len hb.2.2.1
  refine SCalls.enter tt_ok Tryd.func66 (by kernel_rfl) rfl [(0, .cust (grH g c vs (.slice A vs.length cp))), (900, .cust R)] rfl (upd (argF [.val (.pointer (some ⟨g, 0, none⟩)), vxV v]) 0 (.ptr 0 g 0)) (fun w F v k h => at_arg h) (by simp) ?_
  refine HT.open2 (k0 := 0) (k1 := 1) (a := .box g 87 219 (grF c vs (.own 1 (.slice A vs.length cp)))) ?_
  repeat' (first | (with_reducible first | refine HT.seq ?_ | refine HT.block ?_ | refine Br.not ?_) | ((with_reducible first | refine HT.region tt_ok ?_ | refine HT.drawn tt_ok (by kernel_rfl) (by decide +kernel) ?_ | refine HT.drawnL tt_ok (by kernel_rfl) (by decide +kernel) ?_ | refine HT.cond ?_ | refine HT.ret ?_ | refine HT.skip ?_ | refine HT.exit ?_ | refine Br.tt ?_ | refine Br.ff ?_); conv => whnf) | ((with_reducible first | refine Br.dec (fun hc => ?_) (fun hc => ?_) | refine Br.eq (fun hc => ?_) (fun hc => ?_) | refine Br.ne (fun hc => ?_) (fun hc => ?_)) <;> (first | (exfalso; omega) | conv => whnf)) | ((with_reducible first | refine Br.ttE (by decide) ?_ | refine Br.ffE (by decide) ?_ | refine Br.mk (fun hc => ?_) (fun hc => ?_) | refine Chk.mk (by first | omega | with_reducible rfl | (refine ⟨rfl, ?_⟩; omega) | decide | exact ⟨rfl, by omega, by omega, rfl⟩ | exact ⟨by assumption, rfl, by omega, by omega⟩) ?_ | refine Ar.fit (by omega) ?_ | refine Eqv.shr1 ?_ | refine Ar.u64 (by omega) ?_) <;> conv => whnf) | (with_reducible exact trivial) | ((with_reducible refine And.intro ?_ ?_) <;> conv => whnf) | (intro gn; conv => whnf))
  revert gn; intro gb
  refine HT.nilRow 50 59 1 (fun _ _ => .any) ?_
  refine HT.loopC [0, 1, 3, 5, 18, 19] (fun x : Nat × Option Addr × Nat => [(20, .i x.1)]) (fun x : Nat × Option Addr × Nat => [(101, .box (litF [.i v.r, .i v.a, isl v.ps, .i v.d, .i vs.length, .own 50 (.slice x.2.1 x.1 x.2.2)])), (50, .row (.slice x.2.1 x.1 x.2.2) x.1 (fun j _ => plV vs (v.r - 1) (v.ps.getD j default)))]) (fun x : Nat × Option Addr × Nat => x.1 ≤ v.ps.length ∧ ∀ j, j < x.1 → (fdV vs (v.r - 1) (v.ps.getD j default)).isSome = true) (fun x : Nat × Option Addr × Nat => v.ps.length - x.1) (0, none, 0) ⟨Nat.zero_le _, fun j hj => absurd hj (by omega)⟩ ⟨(by first | with_reducible exact CellLe.refl _ | exact CellLe.own | exact CellLe.i (by omega) | exact CellLe.nil | exact CellLe.slNil | exact CellLe.refl _), trivial⟩ ?_ ?_
  · conv => whnf
    refine PP.start ?_; repeat (first | exact PP.nil | refine PP.take (by first | with_reducible exact Hp.Sub.refl _ | exact Hp.Sub.rd (by omega) | exact Hp.Sub.rowA rfl (fun i j hi hj => absurd hi (by omega)) | exact Hp.Sub.boxA (by (repeat (first | exact all_lt_zero | refine all_lt_succ (p := fun j => CellLe _ _) (by first | with_reducible exact CellLe.refl _ | exact CellLe.own | exact CellLe.i (by omega) | exact CellLe.nil | exact CellLe.slNil | exact CellLe.refl _) ?_))) | exact Hp.Sub.refl _) ?_ | refine PP.skip ?_)
  conv => whnf
  rintro ⟨k, B, cq⟩ ⟨hk, hall⟩
  dsimp only at hk hall ⊢
  conv => whnf
  repeat' (first | (with_reducible first | refine HT.seq ?_ | refine HT.block ?_ | refine Br.not ?_) | ((with_reducible first | refine HT.region tt_ok ?_ | refine HT.drawn tt_ok (by kernel_rfl) (by decide +kernel) ?_ | refine HT.drawnL tt_ok (by kernel_rfl) (by decide +kernel) ?_ | refine HT.cond ?_ | refine HT.ret ?_ | refine HT.skip ?_ | refine HT.exit ?_ | refine Br.tt ?_ | refine Br.ff ?_); conv => whnf) | ((with_reducible first | refine Br.dec (fun hc => ?_) (fun hc => ?_) | refine Br.eq (fun hc => ?_) (fun hc => ?_) | refine Br.ne (fun hc => ?_) (fun hc => ?_)) <;> (first | (exfalso; omega) | conv => whnf)) | ((with_reducible first | refine Br.ttE (by decide) ?_ | refine Br.ffE (by decide) ?_ | refine Br.mk (fun hc => ?_) (fun hc => ?_) | refine Chk.mk (by first | omega | with_reducible rfl | (refine ⟨rfl, ?_⟩; omega) | decide | exact ⟨rfl, by omega, by omega, rfl⟩ | exact ⟨by assumption, rfl, by omega, by omega⟩) ?_ | refine Ar.fit (by omega) ?_ | refine Eqv.shr1 ?_ | refine Ar.u64 (by omega) ?_) <;> conv => whnf) | ((first | (refine CallN.keepL 0 _ _ rfl rfl (atO_c c vs _ g _ _ hcm hg) ?_; rintro r (⟨i, hi, rfl⟩ | ⟨hi, rfl⟩))) <;> conv => whnf) | (with_reducible exact trivial) | ((with_reducible refine And.intro ?_ ?_) <;> conv => whnf) | (intro gn; conv => whnf))
  all_goals (try simp only [Int.toNat_natCast] at *)
  · rename_i A2
    exact ⟨⟨(k + 1, A2, gn), ⟨by dsimp only; omega, all_lt_succ (by rw [hi]; rfl) hall⟩, by dsimp only; omega, (by repeat' (first | exact trivial | refine ⟨rfl, ?_⟩)), ⟨(by first | with_reducible exact CellLe.refl _ | exact CellLe.own | exact CellLe.i (by omega) | exact CellLe.nil | exact CellLe.slNil | exact CellLe.refl _), trivial⟩, HLe.pk (by
      conv => whnf
      refine PP.start ?_; repeat (first | exact PP.nil | refine PP.take (by first | with_reducible exact Hp.Sub.refl _ | exact Hp.Sub.rd (by omega) | exact Hp.Sub.rowL rfl (fun w F i' j' hi' hj' => cat_one (f' := fun j _ => plV vs (v.r - 1) (v.ps.getD j default)) (fun _ _ _ h => h) (LeW.of_eq (pl_eq hi).symm) hi' hj') | exact Hp.Sub.boxA (by (repeat (first | exact all_lt_zero | refine all_lt_succ (p := fun j => CellLe _ _) (by first | with_reducible exact CellLe.refl _ | exact CellLe.own | exact CellLe.i (by omega) | exact CellLe.nil | exact CellLe.slNil | exact CellLe.refl _) ?_))) | exact Hp.Sub.refl _) ?_ | refine PP.skip ?_))⟩⟩
  · refine Fin.bundle [] (by refine PP.start ?_; repeat (first | exact PP.nil | refine PP.take (by first | with_reducible exact Hp.Sub.refl _ | exact Hp.Sub.rd (by omega) | exact Hp.Sub.boxA (by (repeat (first | exact all_lt_zero | refine all_lt_succ (p := fun j => CellLe _ _) (by first | with_reducible exact CellLe.refl _ | exact CellLe.own | exact CellLe.i (by omega) | exact CellLe.nil | exact CellLe.slNil | exact CellLe.refl _) ?_))) | exact Hp.Sub.refl _) ?_ | refine PP.skip ?_)) ⟨rfl, .inr ⟨?_, rfl, _, rfl⟩⟩
    exact dall_false (k := k) (by omega) (by rw [hi]; simp)
  · obtain rfl : k = v.ps.length := by omega
    rename_i A2
    have hpo : parOk vs v = true := dall_true hall
    refine Fin.frzB (r' := .b true) [.row (.slice B v.ps.length cq) 59 1 v.ps.length (fun j _ => plV vs (v.r - 1) (v.ps.getD j default)), .box gb 64 6 (litF [.i v.r, .i v.a, isl v.ps, .i v.d, .i vs.length, .own 50 (.slice B v.ps.length cq)])]
      [.box g 87 219 (putF (0 + 2 + v.r.toNat * 7 + v.a.toNat * 1) 1 (fun _ => .ptr 101 gb 0) (putF (0 + 1) 1 (fun _ => .own _ (.slice A2 (vs.length + 1) gn)) (grF c vs (.own 1 (.slice A vs.length cp))))), .row (.slice A2 (vs.length + 1) gn) 59 1 (vs.length + 1) (fun i _ => if i < vs.length then ndV vs i else .ptr 101 gb 0)] (grL g c (vs ++ [v]) 1 (.slice A2 (vs.length + 1) gn)) (by
      refine PP.start ?_; repeat (first | exact PP.nil | refine PP.take (by first | with_reducible exact Hp.Sub.refl _ | exact Hp.Sub.rd (by omega) | exact Hp.Sub.boxA (fun j hj w F => by exact fun _ h => h) | exact Hp.Sub.rowL rfl (fun w F i j hi hj => cat_one (f' := fun i _ => if i < vs.length then ndV vs i else .ptr 101 gb 0) (fun i hi => by rw [if_pos hi]; exact fun _ h => h) (by rw [if_neg (Nat.lt_irrefl _)]; exact fun _ h => h) hi hj) | exact Hp.Sub.boxA (by (repeat (first | exact all_lt_zero | refine all_lt_succ (p := fun j => CellLe _ _) (by first | with_reducible exact CellLe.refl _ | exact CellLe.own | exact CellLe.i (by omega) | exact CellLe.nil | exact CellLe.slNil | exact CellLe.refl _) ?_))) | exact Hp.Sub.refl _) ?_ | refine PP.skip ?_))
      ?_ ⟨rfl, .inl ⟨hpo, rfl, _, _, rfl⟩⟩
    rintro w F ⟨hrow, hbox, -⟩
    have hnd : LeW w F (.ptr 101 gb 0) (ndU (vs ++ [v]) vs.length) := fun x hx => by
      have e : x = .pointer (some ⟨gb, 0, none⟩) := hx
      subst e
      rw [nd_new]
      refine Has.pp ?_ hbox.ref_pp
      have h5 : Has w F (.sl 1 v.ps.length fun j _ => parV (vs ++ [v]) vs.length j) (.slice B v.ps.length cq) := Has.slL (fun i k hi hk x hx => by rw [par_new hg hi (hall i hi)]; exact hx) hrow
      exact all_lt_succ (p := fun k => ∀ u, Has w F _ u → Has w F _ u) (fun u hu => (show u = _ from hu) ▸ h5) (fun k hk u hu => by rcases (by omega : k = 0 ∨ k = 1 ∨ k = 2 ∨ k = 3 ∨ k = 4) with rfl | rfl | rfl | rfl | rfl <;> exact hu)
    refine ⟨⟨SubW.box (fun j hj => gr_put (off := 0 + 2 + v.r.toNat * 7 + v.a.toNat * 1) (y := .own (100 + 1 + 1 + 1) (.slice A2 (vs.length + 1) gn)) (y' := .own 1 (.slice A2 (vs.length + 1) gn)) hg hv h7.2 ho (by omega) hnd (fun _ h => h)), SubW.row (by simp) (fun i j hi hj => ?_), trivial⟩, fun _ h => h⟩
    by_cases h : i < vs.length
    · rw [if_pos h, ndV_app hg h]; exact fun _ h => h
    · obtain rfl : i = vs.length := by omega
      rw [if_neg h, ndV_eq]; exact hnd⟩
/-- a linked graph, and whether it is valid -/
def LinkedP (c : List Int) (vs : List Vx) (r : SV) : Prop := (grOk c vs = true ∧ r = .tup 2 (litF [.pp 219 (grF c vs (.sl 1 vs.length fun i _ => ndV vs i)), .b true])) ∨ (grOk c vs = false ∧ r = .tup 2 (litF [.val (.pointer none), .b false]))
set_option maxRecDepth 100000 in
theorem linkGraph_c (c : List Int) (vs : List Vx) (hl : c.length ≤ 10000000) (hv : vs.length ≤ 10000000) (hp : ∀ v ∈ vs, v.ps.length ≤ 10000000) : SRet Tryd.prog 46 [isl c, vsl vs] (LinkedP c vs) := ⟨fun R => by
  refine SCalls.enter tt_ok Tryd.func46 (by kernel_rfl) rfl [(900, .cust R)] rfl (argF _) (fun w F v k h => h) (by simp) ?_
  by_cases hcm : cmOk c = true
  rotate_left
  · have hcm : cmOk c = false := by simpa using hcm
    repeat' (first | (with_reducible first | refine HT.seq ?_ | refine HT.block ?_ | refine Br.not ?_) | ((with_reducible first | refine HT.region tt_ok ?_ | refine HT.drawn tt_ok (by kernel_rfl) (by decide +kernel) ?_ | refine HT.drawnL tt_ok (by kernel_rfl) (by decide +kernel) ?_ | refine HT.cond ?_ | refine HT.ret ?_ | refine HT.skip ?_ | refine HT.exit ?_ | refine Br.tt ?_ | refine Br.ff ?_); conv => whnf) | ((with_reducible first | refine Br.dec (fun hc => ?_) (fun hc => ?_) | refine Br.eq (fun hc => ?_) (fun hc => ?_) | refine Br.ne (fun hc => ?_) (fun hc => ?_)) <;> (first | (exfalso; omega) | conv => whnf)) | ((with_reducible first | refine Br.ttE (by decide) ?_ | refine Br.ffE (by decide) ?_ | refine Br.mk (fun hc => ?_) (fun hc => ?_) | refine Chk.mk (by first | omega | with_reducible rfl | (refine ⟨rfl, ?_⟩; omega) | decide | exact ⟨rfl, by omega, by omega, rfl⟩ | exact ⟨by assumption, rfl, by omega, by omega⟩) ?_ | refine Ar.fit (by omega) ?_ | refine Eqv.shr1 ?_ | refine Ar.u64 (by omega) ?_) <;> conv => whnf) | ((first | refine CallN.ret1 ((implCmValid_c c (by omega)).bf hcm) ?_) <;> conv => whnf) | (with_reducible exact trivial) | ((with_reducible refine And.intro ?_ ?_) <;> conv => whnf) | (intro gn; conv => whnf))
    exact Fin.pureLe (r' := .tup 2 (litF [.val (.pointer none), .b false])) (by repeat (first | exact List.Sublist.refl _ | refine List.Sublist.cons_cons _ ?_ | refine List.Sublist.cons _ ?_)) (CellLe.of_eq rfl) (.inr ⟨by unfold grOk; rw [hcm]; rfl, rfl⟩)
  have h7 := (cmOk_iff.1 hcm).1
  repeat' (first | (with_reducible first | refine HT.seq ?_ | refine HT.block ?_ | refine Br.not ?_) | ((with_reducible first | refine HT.region tt_ok ?_ | refine HT.drawn tt_ok (by kernel_rfl) (by decide +kernel) ?_ | refine HT.drawnL tt_ok (by kernel_rfl) (by decide +kernel) ?_ | refine HT.cond ?_ | refine HT.ret ?_ | refine HT.skip ?_ | refine HT.exit ?_ | refine Br.tt ?_ | refine Br.ff ?_); conv => whnf) | ((with_reducible first | refine Br.dec (fun hc => ?_) (fun hc => ?_) | refine Br.eq (fun hc => ?_) (fun hc => ?_) | refine Br.ne (fun hc => ?_) (fun hc => ?_)) <;> (first | (exfalso; omega) | conv => whnf)) | ((with_reducible first | refine Br.ttE (by decide) ?_ | refine Br.ffE (by decide) ?_ | refine Br.mk (fun hc => ?_) (fun hc => ?_) | refine Chk.mk (by first | omega | with_reducible rfl | (refine ⟨rfl, ?_⟩; omega) | decide | exact ⟨rfl, by omega, by omega, rfl⟩ | exact ⟨by assumption, rfl, by omega, by omega⟩) ?_ | refine Ar.fit (by omega) ?_ | refine Eqv.shr1 ?_ | refine Ar.u64 (by omega) ?_) <;> conv => whnf) | ((first | refine CallN.ret1 ((implCmValid_c c (by omega)).bt hcm) ?_) <;> conv => whnf) | (with_reducible exact trivial) | ((with_reducible refine And.intro ?_ ?_) <;> conv => whnf) | (intro gn; conv => whnf))
  revert gn; intro gb
  refine HT.bundleN 110 (grL gb c [] 1 (.slice none 0 0)) (L' := [(900, .cust R)]) (fun w F hs => ?_) ?_
  · have h1 := hs.nil 59 1 (fun i _ => ndV [] i)
    refine PPick.sat ?_ h1
    refine PP.start ?_; repeat (first | exact PP.nil | refine PP.take (by first | with_reducible exact Hp.Sub.refl _ | exact Hp.Sub.rd (by omega) | exact Hp.Sub.boxA (gr_nil c) | exact Hp.Sub.boxA (by (repeat (first | exact all_lt_zero | refine all_lt_succ (p := fun j => CellLe _ _) (by first | with_reducible exact CellLe.refl _ | exact CellLe.own | exact CellLe.i (by omega) | exact CellLe.nil | exact CellLe.slNil | exact CellLe.refl _) ?_))) | exact Hp.Sub.refl _) ?_ | refine PP.skip ?_)
  refine HT.loopC [0, 1, 6, 11, 15, 16] (fun x : Nat × Option Addr × Nat => [(17, .i x.1)]) (fun x : Nat × Option Addr × Nat => [(110, .cust (grH gb c (vs.take x.1) (.slice x.2.1 (vs.take x.1).length x.2.2)))]) (fun x : Nat × Option Addr × Nat => x.1 ≤ vs.length ∧ GoodN c vs x.1) (fun x : Nat × Option Addr × Nat => vs.length - x.1) (0, none, 0) ⟨Nat.zero_le _, fun j hj => absurd hj (by omega)⟩ ⟨(by first | with_reducible exact CellLe.refl _ | exact CellLe.own | exact CellLe.i (by omega) | exact CellLe.nil | exact CellLe.slNil | exact CellLe.refl _), trivial⟩ ?_ ?_
  · conv => whnf
    refine PP.start ?_; repeat (first | exact PP.nil | refine PP.take (by first | with_reducible exact Hp.Sub.refl _ | exact Hp.Sub.rd (by omega) | exact Hp.Sub.boxA (by (repeat (first | exact all_lt_zero | refine all_lt_succ (p := fun j => CellLe _ _) (by first | with_reducible exact CellLe.refl _ | exact CellLe.own | exact CellLe.i (by omega) | exact CellLe.nil | exact CellLe.slNil | exact CellLe.refl _) ?_))) | exact Hp.Sub.refl _) ?_ | refine PP.skip ?_)
  conv => whnf
  rintro ⟨k, B, cq⟩ ⟨hk, hall⟩
  dsimp only at hk hall ⊢
  by_cases hkl : k < vs.length
  rotate_left
  · obtain rfl : k = vs.length := by omega
    conv => whnf
    repeat' (first | (with_reducible first | refine HT.seq ?_ | refine HT.block ?_ | refine Br.not ?_) | ((with_reducible first | refine HT.region tt_ok ?_ | refine HT.drawn tt_ok (by kernel_rfl) (by decide +kernel) ?_ | refine HT.drawnL tt_ok (by kernel_rfl) (by decide +kernel) ?_ | refine HT.cond ?_ | refine HT.ret ?_ | refine HT.skip ?_ | refine HT.exit ?_ | refine Br.tt ?_ | refine Br.ff ?_); conv => whnf) | ((with_reducible first | refine Br.dec (fun hc => ?_) (fun hc => ?_) | refine Br.eq (fun hc => ?_) (fun hc => ?_) | refine Br.ne (fun hc => ?_) (fun hc => ?_)) <;> (first | (exfalso; omega) | conv => whnf)) | ((with_reducible first | refine Br.ttE (by decide) ?_ | refine Br.ffE (by decide) ?_ | refine Br.mk (fun hc => ?_) (fun hc => ?_) | refine Chk.mk (by first | omega | with_reducible rfl | (refine ⟨rfl, ?_⟩; omega) | decide | exact ⟨rfl, by omega, by omega, rfl⟩ | exact ⟨by assumption, rfl, by omega, by omega⟩) ?_ | refine Ar.fit (by omega) ?_ | refine Eqv.shr1 ?_ | refine Ar.u64 (by omega) ?_) <;> conv => whnf) | (with_reducible exact trivial) | ((with_reducible refine And.intro ?_ ?_) <;> conv => whnf) | (intro gn; conv => whnf))
    rw [List.take_length]
    refine Fin.open (Z := grL gb c vs 1 (.slice B vs.length cq)) ?_
    refine Fin.frz (r' := .tup 2 (litF [.pp 219 (grF c vs (.sl 1 vs.length fun i _ => ndV vs i)), .b true])) (grL gb c vs 1 (.slice B vs.length cq)) [.cust R] (PPick.refl _) ?_ ⟨rfl, .inl ⟨grOk_iff.2 ⟨hcm, hall⟩, rfl⟩⟩
    rintro w F ⟨hbox, hrow, -⟩
    refine ⟨AllW.refl _ _ _, LeW.tup2 (fun u hu => ?_) (fun u hu => hu)⟩
    rw [show u = _ from hu]
    refine Has.pp (fun k hk u hu => ?_) hbox.ref_pp
    unfold grF at hu ⊢
    by_cases h0 : k = 0
    · rw [if_pos h0] at hu ⊢; exact hu
    · rw [if_neg h0] at hu ⊢
      by_cases h1 : k = 1
      · rw [if_pos h1] at hu ⊢; exact (show u = _ from hu) ▸ hrow
      · rw [if_neg h1] at hu ⊢; exact hu
  have hpk := hp _ (List.getElem_mem hkl)
  have hpk : (vg vs k).ps.length ≤ 10000000 := by rw [vg_eq hkl]; exact hpk
  conv => whnf
  by_cases hv1 : vxOkA c (vg vs k) = true
  rotate_left
  · have hv1 : vxOkA c (vg vs k) = false := by simpa using hv1
    repeat' (first | (with_reducible first | refine HT.seq ?_ | refine HT.block ?_ | refine Br.not ?_) | ((with_reducible first | refine HT.region tt_ok ?_ | refine HT.drawn tt_ok (by kernel_rfl) (by decide +kernel) ?_ | refine HT.drawnL tt_ok (by kernel_rfl) (by decide +kernel) ?_ | refine HT.cond ?_ | refine HT.ret ?_ | refine HT.skip ?_ | refine HT.exit ?_ | refine Br.tt ?_ | refine Br.ff ?_); conv => whnf) | ((with_reducible first | refine Br.dec (fun hc => ?_) (fun hc => ?_) | refine Br.eq (fun hc => ?_) (fun hc => ?_) | refine Br.ne (fun hc => ?_) (fun hc => ?_)) <;> (first | (exfalso; omega) | conv => whnf)) | ((with_reducible first | refine Br.ttE (by decide) ?_ | refine Br.ffE (by decide) ?_ | refine Br.mk (fun hc => ?_) (fun hc => ?_) | refine Chk.mk (by first | omega | with_reducible rfl | (refine ⟨rfl, ?_⟩; omega) | decide | exact ⟨rfl, by omega, by omega, rfl⟩ | exact ⟨by assumption, rfl, by omega, by omega⟩) ?_ | refine Ar.fit (by omega) ?_ | refine Eqv.shr1 ?_ | refine Ar.u64 (by omega) ?_) <;> conv => whnf) | ((first | (refine CallN.ret1 ((implVx_c c (vg vs k) (by omega) hpk).bf hv1) ?_)) <;> conv => whnf) | (with_reducible exact trivial) | ((with_reducible refine And.intro ?_ ?_) <;> conv => whnf) | (intro gn; conv => whnf))
    exact Fin.pureLe (r' := .tup 2 (litF [.val (.pointer none), .b false])) (by repeat (first | exact List.Sublist.refl _ | refine List.Sublist.cons_cons _ ?_ | refine List.Sublist.cons _ ?_)) (CellLe.of_eq rfl) (.inr ⟨(grOk_no hkl (by unfold vxOkA at hv1; rw [hcm, Bool.true_and] at hv1; unfold stI; rw [hv1]; rfl)).symm, rfl⟩)
  have hv2 := (vxA_iff hv1).2
  by_cases hord : 0 < k → bef (vg vs (k - 1)) (vg vs k) = true
  rotate_left
  · have hk0 : 0 < k := by omega
    have hbf : bef (vg vs (k - 1)) (vg vs k) = false := by rw [Bool.eq_false_iff]; exact fun h => hord fun _ => h
    have hpr : SRet Tryd.prog 65 [vxV (vg vs ((k : Int) - 1).toNat), vxV (vg vs k)] (· = .b false) := by rw [toNat_sub1]; exact (precedes_c _ _).bf hbf
    repeat' (first | (with_reducible first | refine HT.seq ?_ | refine HT.block ?_ | refine Br.not ?_) | ((with_reducible first | refine HT.region tt_ok ?_ | refine HT.drawn tt_ok (by kernel_rfl) (by decide +kernel) ?_ | refine HT.drawnL tt_ok (by kernel_rfl) (by decide +kernel) ?_ | refine HT.cond ?_ | refine HT.ret ?_ | refine HT.skip ?_ | refine HT.exit ?_ | refine Br.tt ?_ | refine Br.ff ?_); conv => whnf) | ((with_reducible first | refine Br.dec (fun hc => ?_) (fun hc => ?_) | refine Br.eq (fun hc => ?_) (fun hc => ?_) | refine Br.ne (fun hc => ?_) (fun hc => ?_)) <;> (first | (exfalso; omega) | conv => whnf)) | ((with_reducible first | refine Br.ttE (by decide) ?_ | refine Br.ffE (by decide) ?_ | refine Br.mk (fun hc => ?_) (fun hc => ?_) | refine Chk.mk (by first | omega | with_reducible rfl | (refine ⟨rfl, ?_⟩; omega) | decide | exact ⟨rfl, by omega, by omega, rfl⟩ | exact ⟨by assumption, rfl, by omega, by omega⟩) ?_ | refine Ar.fit (by omega) ?_ | refine Eqv.shr1 ?_ | refine Ar.u64 (by omega) ?_) <;> conv => whnf) | ((first | (refine CallN.ret1 ((implVx_c c (vg vs k) (by omega) hpk).bt hv1) ?_) | (refine CallN.ret1 hpr ?_)) <;> conv => whnf) | (with_reducible exact trivial) | ((with_reducible refine And.intro ?_ ?_) <;> conv => whnf) | (intro gn; conv => whnf))
    exact Fin.pureLe (r' := .tup 2 (litF [.val (.pointer none), .b false])) (by repeat (first | exact List.Sublist.refl _ | refine List.Sublist.cons_cons _ ?_ | refine List.Sublist.cons _ ?_)) (CellLe.of_eq rfl) (.inr ⟨(grOk_no hkl (by unfold stI; rw [hbf, decide_eq_false (show ¬ k = 0 by omega)]; simp)).symm, rfl⟩)
  have htl : (vs.take k).length = k := by simp; omega
  have hall2 : GoodN c (vs.take k) (vs.take k).length := by rw [htl]; exact hall.take
  have hord2 : 0 < (vs.take k).length → bef (vg (vs.take k) ((vs.take k).length - 1)) (vg vs k) = true := by rw [htl]; intro h; rw [vg_take (by omega)]; exact hord h
  have hpr : 0 < k → SRet Tryd.prog 65 [vxV (vg vs ((k : Int) - 1).toNat), vxV (vg vs k)] (· = .b true) := fun h => by rw [toNat_sub1]; exact (precedes_c _ _).bt (hord h)
  repeat' (first | (with_reducible first | refine HT.seq ?_ | refine HT.block ?_ | refine Br.not ?_) | ((with_reducible first | refine HT.region tt_ok ?_ | refine HT.drawn tt_ok (by kernel_rfl) (by decide +kernel) ?_ | refine HT.drawnL tt_ok (by kernel_rfl) (by decide +kernel) ?_ | refine HT.cond ?_ | refine HT.ret ?_ | refine HT.skip ?_ | refine HT.exit ?_ | refine Br.tt ?_ | refine Br.ff ?_); conv => whnf) | ((with_reducible first | refine Br.dec (fun hc => ?_) (fun hc => ?_) | refine Br.eq (fun hc => ?_) (fun hc => ?_) | refine Br.ne (fun hc => ?_) (fun hc => ?_)) <;> (first | (exfalso; omega) | conv => whnf)) | ((with_reducible first | refine Br.ttE (by decide) ?_ | refine Br.ffE (by decide) ?_ | refine Br.mk (fun hc => ?_) (fun hc => ?_) | refine Chk.mk (by first | omega | with_reducible rfl | (refine ⟨rfl, ?_⟩; omega) | decide | exact ⟨rfl, by omega, by omega, rfl⟩ | exact ⟨by assumption, rfl, by omega, by omega⟩) ?_ | refine Ar.fit (by omega) ?_ | refine Eqv.shr1 ?_ | refine Ar.u64 (by omega) ?_) <;> conv => whnf) | ((first | (refine CallN.ret1 ((implVx_c c (vg vs k) (by omega) hpk).bt hv1) ?_) | (refine CallN.ret1 (hpr (by omega)) ?_) | (refine CallN.turn 110 _ _ rfl (link_c c (vs.take k) (vg vs k) gb B cq hcm hall2 hv2 hord2 (by omega)) ?_; rintro r N p' ⟨rfl, (⟨hpo, rfl, A2, c2, rfl⟩ | ⟨hpo, rfl, h2, rfl⟩)⟩)) <;> conv => whnf) | (with_reducible exact trivial) | ((with_reducible refine And.intro ?_ ?_) <;> conv => whnf) | (intro gn; conv => whnf))
  all_goals (try exact Fin.pureLe (r' := .tup 2 (litF [.val (.pointer none), .b false])) (by repeat (first | exact List.Sublist.refl _ | refine List.Sublist.cons_cons _ ?_ | refine List.Sublist.cons _ ?_)) (CellLe.of_eq rfl) (.inr ⟨(grOk_no hkl (by unfold stI; rw [hpo, Bool.and_false, Bool.and_false])).symm, rfl⟩))
  all_goals have hcu : Hp.cust (grH gb c (vs.take k ++ [vg vs k]) (.slice A2 ((vs.take k).length + 1) c2)) = .cust (grH gb c (vs.take (k + 1)) (.slice A2 (vs.take (k + 1)).length c2)) := by rw [take_succ hkl, List.length_append]; rfl
  all_goals have hst : stI c vs k = true := by unfold stI; rw [hv2, hpo, Bool.and_true, Bool.true_and, Bool.or_eq_true]; rcases Nat.eq_zero_or_pos k with h | h; exact .inl (decide_eq_true h); exact .inr (hord h)
  all_goals (
    exact ⟨⟨(k + 1, A2, c2), ⟨by dsimp only; omega, all_lt_succ hst hall⟩, by dsimp only; omega, (by repeat' (first | exact trivial | refine ⟨rfl, ?_⟩)), ⟨(by first | with_reducible exact CellLe.refl _ | exact CellLe.own | exact CellLe.i (by omega) | exact CellLe.nil | exact CellLe.slNil | exact CellLe.refl _), trivial⟩, HLe.pk (by
      conv => whnf
      refine PP.start ?_; repeat (first | exact PP.nil | refine PP.take (by first | with_reducible exact Hp.Sub.refl _ | exact Hp.Sub.rd (by omega) | exact Hp.Sub.of_eq hcu | exact Hp.Sub.boxA (by (repeat (first | exact all_lt_zero | refine all_lt_succ (p := fun j => CellLe _ _) (by first | with_reducible exact CellLe.refl _ | exact CellLe.own | exact CellLe.i (by omega) | exact CellLe.nil | exact CellLe.slNil | exact CellLe.refl _) ?_))) | exact Hp.Sub.refl _) ?_ | refine PP.skip ?_))⟩⟩
  )⟩
end Go.Proofs.YtpmhikdefbcofaaDoor
