/- Stores of batches in plain Lean: which are valid, what storing a batch gives. -/
import Derived.Test.YtjkeapkpdgfhcaaLeaf
set_option linter.all false
namespace Go.Proofs.Ytjkeapkpdgfhcaa
open Go.RowKit

/-- a batch: digest, author, round, size -/
structure Bt where
  d : Int
  a : Int
  r : Int
  s : Int
  deriving DecidableEq, Inhabited

def Bt.val (b : Bt) : Value := .agg #[.int .i64 b.d, .int .i64 b.a, .int .i64 b.r, .int .i64 b.s]
def Bt.cells (b : Bt) : List Value := [.int .i64 b.d, .int .i64 b.a, .int .i64 b.r, .int .i64 b.s]
def btCells (l : List Bt) : List Value := l.flatMap Bt.cells
def btOk (b : Bt) : Bool := inB b.d 0 990 && inB b.a 0 6 && inB b.r 0 30 && inB b.s 1 12

theorem btCells_length (l : List Bt) : (btCells l).length = l.length * 4 := by
  induction l with
  | nil => rfl
  | cons b l ih => simp [btCells, Bt.cells] at ih ⊢; omega
theorem btCells_append (l m : List Bt) : btCells (l ++ m) = btCells l ++ btCells m := by simp [btCells]
theorem btCells_get (l : List Bt) (k j : Nat) (b : Bt) (h : l[k]? = some b) (hj : j < 4) : (btCells l)[k * 4 + j]? = b.cells[j]? := by
  induction l generalizing k with
  | nil => simp at h
  | cons c l ih =>
    cases k with
    | zero =>
      simp at h; subst h
      rw [show btCells (c :: l) = c.cells ++ btCells l from rfl, List.getElem?_append_left (by simp [Bt.cells]; omega)]
      simp
    | succ k =>
      simp at h
      rw [show btCells (c :: l) = c.cells ++ btCells l from rfl, List.getElem?_append_right (by simp [Bt.cells]; omega)]
      rw [show (k + 1) * 4 + j - c.cells.length = k * 4 + j by simp [Bt.cells]; omega]
      exact ih k h

/-- a slice of batches that came in: its k-th element -/
theorem Reads.bt {w : World} {B n k : Nat} {A : Option Addr} {l : List Bt} (h : Reads w B 4 A n (btCells l)) (hk : k < n) :
    ∃ b off x, A = some ⟨b, off, none⟩ ∧ b < B ∧ l[k]? = some x ∧ w.cell? ⟨b, off + k * 4, none⟩ = some (.int .i64 x.d) ∧ w.cell? ⟨b, off + k * 4 + 1, none⟩ = some (.int .i64 x.a) ∧
      w.cell? ⟨b, off + k * 4 + 2, none⟩ = some (.int .i64 x.r) ∧ w.cell? ⟨b, off + k * 4 + 3, none⟩ = some (.int .i64 x.s) := by
  obtain ⟨b, off, e, hb, hc⟩ := h.2 (by omega)
  have hl : k < l.length := by have := h.1; rw [btCells_length] at this; omega
  have hx : l[k]? = some l[k] := List.getElem?_eq_getElem hl
  refine ⟨b, off, l[k], e, hb, hx, ?_, ?_, ?_, ?_⟩
  · exact hc (k * 4) _ (by have := btCells_get l k 0 _ hx (by omega); simpa [Bt.cells] using this)
  · exact hc (k * 4 + 1) _ (by have := btCells_get l k 1 _ hx (by omega); simpa [Bt.cells] using this)
  · exact hc (k * 4 + 2) _ (by have := btCells_get l k 2 _ hx (by omega); simpa [Bt.cells] using this)
  · exact hc (k * 4 + 3) _ (by have := btCells_get l k 3 _ hx (by omega); simpa [Bt.cells] using this)

theorem Reads.bt_len {w : World} {B n : Nat} {A : Option Addr} {l : List Bt} (h : Reads w B 4 A n (btCells l)) : l.length = n := by
  have := h.1; rw [btCells_length] at this; omega

/-- the total size of an author's batches, as the program adds it -/
def usedW (l : List Bt) (a : Int) : Int := l.foldl (fun n b => if b.a == a then wrap64 (n + b.s) else n) 0
/-- the total size of an author's batches -/
def used (l : List Bt) (a : Int) : Int := (l.map fun b => if b.a == a then b.s else 0).sum

theorem usedW_snoc (l : List Bt) (b : Bt) (a : Int) : usedW (l ++ [b]) a = if b.a == a then wrap64 (usedW l a + b.s) else usedW l a := by
  simp [usedW, List.foldl_append]
theorem used_snoc (l : List Bt) (b : Bt) (a : Int) : used (l ++ [b]) a = used l a + if b.a == a then b.s else 0 := by
  simp [used]
theorem used_append (l m : List Bt) (a : Int) : used (l ++ m) a = used l a + used m a := by simp [used]
theorem used_cons (b : Bt) (l : List Bt) (a : Int) : used (b :: l) a = (if b.a == a then b.s else 0) + used l a := by simp [used]
theorem take_snoc {α : Type} (l : List α) (k : Nat) (x : α) (h : l[k]? = some x) : l.take (k + 1) = l.take k ++ [x] := by
  obtain ⟨hk, rfl⟩ := List.getElem?_eq_some_iff.1 h
  exact List.take_succ_eq_append_getElem hk
theorem used_bd (l : List Bt) (a : Int) (h : ∀ b ∈ l, 1 ≤ b.s ∧ b.s ≤ 12) : 0 ≤ used l a ∧ used l a ≤ 12 * l.length := by
  induction l with
  | nil => simp [used]
  | cons b l ih =>
    have h1 := h b (by simp)
    have h2 := ih fun b hb => h b (by simp [hb])
    rw [used_cons]
    simp only [List.length_cons]
    split <;> omega
theorem usedW_eq (l : List Bt) (a : Int) (h : ∀ b ∈ l, 1 ≤ b.s ∧ b.s ≤ 12) (hl : l.length ≤ 1000000000) : usedW l a = used l a := by
  suffices H : ∀ k, k ≤ l.length → usedW (l.take k) a = used (l.take k) a by simpa using H l.length (Nat.le_refl _)
  intro k
  induction k with
  | zero => intro _; rfl
  | succ k ih =>
    intro hk
    have hx : l[k]? = some l[k] := List.getElem?_eq_getElem (by omega)
    rw [take_snoc l k _ hx, usedW_snoc, used_snoc, ih (by omega)]
    have hb := used_bd (l.take k) a fun b hb => h b (List.mem_of_mem_take hb)
    have hs := h l[k] (List.getElem_mem _)
    have hlen : (l.take k).length ≤ k := List.length_take_le _ _
    split
    · exact IntWalk.wrap64_in _ ⟨by omega, by omega⟩
    · omega

/-- the batches are in order of their digests -/
def btAsc (l : List Bt) : Prop := ∀ i b c, l[i]? = some b → l[i + 1]? = some c → b.d < c.d
instance (l : List Bt) : Decidable (btAsc l) :=
  decidable_of_iff (∀ i : Fin l.length, ∀ b ∈ l[i.val]?, ∀ c ∈ l[i.val + 1]?, b.d < c.d)
    ⟨fun h i b c hb hc => h ⟨i, (List.getElem?_eq_some_iff.1 hb).1⟩ b hb c hc, fun h i b hb c hc => h i.val b c hb hc⟩

/-- a valid store -/
def stOk (f : Int) (l : List Bt) : Bool :=
  inB f 0 31 && decide (l.length ≤ 12) && decide (∀ b ∈ l, btOk b = true ∧ f ≤ b.r ∧ used l b.a ≤ 30) && decide (btAsc l)

theorem btOk_size {b : Bt} (h : btOk b = true) : 1 ≤ b.s ∧ b.s ≤ 12 := by
  simp only [btOk, Bool.and_eq_true, inB_true] at h; omega
theorem btOk_auth {b : Bt} (h : btOk b = true) : 0 ≤ b.a ∧ b.a ≤ 6 := by
  simp only [btOk, Bool.and_eq_true, inB_true] at h; omega

theorem stOk_iff (f : Int) (l : List Bt) : stOk f l = true ↔ (0 ≤ f ∧ f ≤ 31) ∧ l.length ≤ 12 ∧ (∀ b ∈ l, btOk b = true ∧ f ≤ b.r ∧ used l b.a ≤ 30) ∧ btAsc l := by
  simp only [stOk, Bool.and_eq_true, inB_true, decide_eq_true_eq, and_assoc]

theorem stOk_no {f : Int} {l : List Bt} {k : Nat} {x : Bt} (h : l[k]? = some x) (hl : l.length ≤ 1000000000)
    (hv : btOk x = false ∨ x.r < f ∨ 30 < usedW l x.a ∨ (0 < k ∧ ∃ y, l[k - 1]? = some y ∧ x.d ≤ y.d)) : stOk f l = false := by
  rw [← Bool.not_eq_true, stOk_iff]
  rintro ⟨_, hlen, hall, hasc⟩
  have hm : x ∈ l := List.mem_of_getElem? h
  obtain ⟨h1, h2, h3⟩ := hall x hm
  rcases hv with hv | hv | hv | ⟨hk, y, hy, hv⟩
  · rw [h1] at hv; cases hv
  · omega
  · rw [usedW_eq l x.a (fun b hb => btOk_size (hall b hb).1) hl] at hv; omega
  · have := hasc (k - 1) y x hy (by rw [Nat.sub_add_cancel hk]; exact h)
    omega

theorem stOk_yes {f : Int} {l : List Bt} (hl : l.length ≤ 1000000000) (hall : ∀ j x, j < l.length → l[j]? = some x → btOk x = true ∧ f ≤ x.r ∧ usedW l x.a ≤ 30 ∧ ∀ y, l[j - 1]? = some y → 0 < j → y.d < x.d) :
    stOk f l = (inB f 0 31 && decide (l.length ≤ 12)) := by
  have hb : ∀ b ∈ l, btOk b = true ∧ f ≤ b.r ∧ usedW l b.a ≤ 30 := fun b hb => by
    obtain ⟨i, hi⟩ := List.getElem?_of_mem hb
    have := hall i b (List.getElem?_eq_some_iff.1 hi).1 hi
    exact ⟨this.1, this.2.1, this.2.2.1⟩
  have h1 : ∀ b ∈ l, btOk b = true ∧ f ≤ b.r ∧ used l b.a ≤ 30 := fun b hbm => by
    obtain ⟨p, q, r⟩ := hb b hbm
    rw [usedW_eq l b.a (fun b hb' => btOk_size (hb b hb').1) hl] at r
    exact ⟨p, q, r⟩
  have h2 : btAsc l := fun i b c hi hc => by
    have := (hall (i + 1) c (List.getElem?_eq_some_iff.1 hc).1 hc).2.2.2 b (by simpa using hi) (by omega)
    exact this
  unfold stOk
  rw [decide_eq_true h1, decide_eq_true h2]
  simp

theorem used_take_le (l : List Bt) (a : Int) (k : Nat) (h : ∀ b ∈ l, 1 ≤ b.s ∧ b.s ≤ 12) : used (l.take k) a ≤ used l a := by
  have e : used l a = used (l.take k) a + used (l.drop k) a := by rw [← used_append, List.take_append_drop]
  have := used_bd (l.drop k) a fun b hb => h b (List.mem_of_mem_drop hb)
  omega

theorem stOk_over {f : Int} {l : List Bt} {k : Nat} {x : Bt} (h : l[k]? = some x) (hv : 30 < used (l.take (k + 1)) x.a) : stOk f l = false := by
  rw [← Bool.not_eq_true, stOk_iff]
  rintro ⟨_, _, hall, _⟩
  have h3 := (hall x (List.mem_of_getElem? h)).2.2
  have := used_take_le l x.a (k + 1) fun b hb => btOk_size (hall b hb).1
  omega

theorem stOk_all {f : Int} {l : List Bt} (h12 : l.length ≤ 12) (hf : inB f 0 31 = true) (hall : ∀ j x, j < l.length → l[j]? = some x → btOk x = true ∧ f ≤ x.r ∧ ∀ y, l[j - 1]? = some y → 0 < j → y.d < x.d)
    (hu : ∀ a : Int, used l a ≤ 30) : stOk f l = true := by
  rw [stOk_iff]
  refine ⟨inB_true.1 hf, h12, fun b hb => ?_, fun i b c hi hc => ?_⟩
  · obtain ⟨i, hi⟩ := List.getElem?_of_mem hb
    have := hall i b (List.getElem?_eq_some_iff.1 hi).1 hi
    exact ⟨this.1, this.2.1, hu b.a⟩
  · exact (hall (i + 1) c (List.getElem?_eq_some_iff.1 hc).1 hc).2.2 b (by simpa using hi) (by omega)

end Go.Proofs.Ytjkeapkpdgfhcaa
