/- Storing a batch: the plain law. -/
import Derived.Test.YtjkeapkpdgfhcaaSyC
set_option linter.all false
namespace Go.Proofs.Ytjkeapkpdgfhcaa
open Go.RowKit

theorem btAsc_lt {l : List Bt} (h : btAsc l) : ∀ (d i : Nat) (x y : Bt), l[i]? = some x → l[i + d + 1]? = some y → x.d < y.d
  | 0, i, x, y, hx, hy => h i x y hx hy
  | d + 1, i, x, y, hx, hy => by
    have hlt : i + d + 1 < l.length := by have := (List.getElem?_eq_some_iff.1 hy).1; omega
    have hz : l[i + d + 1]? = some l[i + d + 1] := List.getElem?_eq_getElem hlt
    have h1 := btAsc_lt h d i x _ hx hz
    have h2 := h (i + d + 1) _ y hz (by rw [← hy]; congr 1)
    omega
/-- the list with a further batch, ahead of the first that is not less -/
def insB : List Bt → Bt → List Bt
  | [], b => [b]
  | x :: l, b => if x.d < b.d then x :: insB l b else b :: x :: l
/-- the code -/
def putCode (f : Int) (l : List Bt) (b : Bt) : Int :=
  if !(stOk f l && btOk b) then 4 else if l.any (fun x => x.d == b.d) then 1 else if b.r < f then 2 else if 12 ≤ l.length ∨ 30 < used l b.a + b.s then 3 else 0
/-- the store -/
def putList (f : Int) (l : List Bt) (b : Bt) : List Bt :=
  match putCode f l b with
  | 4 => []
  | 0 => insB l b
  | _ => l
def putFloor (f : Int) (l : List Bt) (b : Bt) : Int :=
  match putCode f l b with
  | 4 => 0
  | _ => f
/-- a store that is owned: its floor, its batches, a code -/
def PutS (f : Int) (l : List Bt) (c : Int) (r : SV) (N : List Hp) : Prop :=
  ∃ A n cp, n = l.length ∧ r = .tup 2 (litF [.agg 2 (litF [.i f, .own 0 (.slice A n cp)]), .i c]) ∧ N = [.row (.slice A n cp) 27 4 l.length (rowF btF l)]
def PutR (f : Int) (l : List Bt) (b : Bt) : SV → List Hp → Prop := PutS (putFloor f l b) (putList f l b) (putCode f l b)

/-- the place of a batch: those ahead are less, the next is greater -/
structure Spot (l : List Bt) (b : Bt) (k : Nat) : Prop where
  le : k ≤ l.length
  pre : ∀ j, j < k → (l.getD j default).d < b.d
  post : k < l.length → b.d < (l.getD k default).d
theorem stOk_usedW {f : Int} {l : List Bt} (h : stOk f l = true) (a : Int) : 0 ≤ usedW l a ∧ usedW l a ≤ 144 ∧ usedW l a = used l a := by
  obtain ⟨_, h12, hall, _⟩ := (stOk_iff f l).1 h
  have hs : ∀ b ∈ l, 1 ≤ b.s ∧ b.s ≤ 12 := fun b hb => btOk_size (hall b hb).1
  have := used_bd l a hs
  rw [usedW_eq l a hs (by omega)]
  exact ⟨this.1, by omega, rfl⟩
theorem putBad {f : Int} {l : List Bt} {b : Bt} {r : SV} {N : List Hp} (h : stOk f l = false ∨ btOk b = false) (hp : PutS 0 [] 4 r N) : PutR f l b r N := by
  have e : putCode f l b = 4 := by
    unfold putCode; rw [if_pos]; rcases h with h | h <;> rw [h] <;> simp
  unfold PutR putFloor putList
  rw [e]; exact hp
theorem putKnown {f : Int} {l : List Bt} {b : Bt} {r : SV} {N : List Hp} {k : Nat} (h1 : stOk f l = true) (h2 : btOk b = true) (hk : k < l.length) (h : (l.getD k default).d = b.d) (hp : PutS f l 1 r N) : PutR f l b r N := by
  have e' : l.getD k default = l[k] := by simp [hk]
  have e : putCode f l b = 1 := by
    unfold putCode
    rw [if_neg (by rw [h1, h2]; simp), if_pos (List.any_eq_true.2 ⟨l[k], List.getElem_mem _, by rw [e'] at h; simpa using h⟩)]
  unfold PutR putFloor putList
  rw [e]; exact hp
theorem Spot.any {f : Int} {l : List Bt} {b : Bt} {k : Nat} (h1 : stOk f l = true) (h : Spot l b k) : ¬ (l.any (fun x => x.d == b.d) = true) := by
  rw [List.any_eq_true]
  rintro ⟨x, hx, he⟩
  obtain ⟨i, hi⟩ := List.getElem?_of_mem hx
  have he : x.d = b.d := by simpa using he
  have hil := (List.getElem?_eq_some_iff.1 hi).1
  have ei : l.getD i default = x := by simp [hi]
  by_cases hik : i < k
  · have := h.pre i hik; rw [ei] at this; omega
  · have hkl : k < l.length := by omega
    have hp := h.post hkl
    have ek : l.getD k default = l[k] := by simp [hkl]
    rw [ek] at hp
    rcases (by omega : i = k ∨ k < i) with rfl | hlt
    · have := (List.getElem?_eq_some_iff.1 hi).2; rw [this] at hp; omega
    · have := btAsc_lt ((stOk_iff f l).1 h1).2.2.2 (i - k - 1) k l[k] x (List.getElem?_eq_getElem hkl) (by rw [show k + (i - k - 1) + 1 = i by omega]; exact hi)
      omega
theorem putOld {f : Int} {l : List Bt} {b : Bt} {r : SV} {N : List Hp} {k : Nat} (h1 : stOk f l = true) (h2 : btOk b = true) (h : Spot l b k) (h3 : b.r < f) (hp : PutS f l 2 r N) : PutR f l b r N := by
  have e : putCode f l b = 2 := by
    unfold putCode
    rw [if_neg (by rw [h1, h2]; simp), if_neg (h.any h1), if_pos h3]
  unfold PutR putFloor putList
  rw [e]; exact hp
theorem putFull {f : Int} {l : List Bt} {b : Bt} {r : SV} {N : List Hp} {k : Nat} (h1 : stOk f l = true) (h2 : btOk b = true) (h : Spot l b k) (h3 : ¬ b.r < f) (h4 : 12 ≤ l.length ∨ 30 < usedW l b.a + b.s) (hp : PutS f l 3 r N) : PutR f l b r N := by
  rw [(stOk_usedW h1 b.a).2.2] at h4
  have e : putCode f l b = 3 := by
    unfold putCode
    rw [if_neg (by rw [h1, h2]; simp), if_neg (h.any h1), if_neg h3, if_pos h4]
  unfold PutR putFloor putList
  rw [e]; exact hp
theorem insB_spot {b : Bt} : ∀ {l : List Bt} {k : Nat}, Spot l b k → insB l b = l.take k ++ b :: l.drop k
  | [], k, h => by simp [insB]
  | x :: l, 0, h => by
    have := h.post (by simp)
    simp at this
    simp [insB]; omega
  | x :: l, k + 1, h => by
    have h0 := h.pre 0 (by omega)
    simp at h0
    have := insB_spot (l := l) (k := k) ⟨by have := h.le; simp at this; omega, fun j hj => by simpa using h.pre (j + 1) (by omega), fun hk => by simpa using h.post (by simpa using hk)⟩
    simp [insB, h0, this]
theorem putDone {f : Int} {l : List Bt} {b : Bt} {r : SV} {N : List Hp} {k : Nat} (h1 : stOk f l = true) (h2 : btOk b = true) (h : Spot l b k) (h3 : ¬ b.r < f) (h4 : ¬ (12 ≤ l.length ∨ 30 < usedW l b.a + b.s)) (hp : PutS f (l.take k ++ b :: l.drop k) 0 r N) : PutR f l b r N := by
  rw [(stOk_usedW h1 b.a).2.2] at h4
  have e : putCode f l b = 0 := by
    unfold putCode
    rw [if_neg (by rw [h1, h2]; simp), if_neg (h.any h1), if_neg h3, if_neg h4]
  unfold PutR putFloor putList
  rw [e, ← insB_spot h] at *; exact hp

/-- the store that is not one -/
theorem has_bad {w : World} {F : Nat → Prop} {r : SV} {x : Value} (e : r.norm = .tup 2 (litF [.agg 2 (litF [.i 0, .val (.slice none 0 0)]), .i 4])) (h : Has w F r x) : Has w F (.tup 2 (litF [.agg 2 (litF [.i 0, .own 0 (.slice none 0 0)]), .i 4])) x := by
  have h := h.norm
  rw [e] at h
  refine Has.tup (fun k hk v hv => ?_) h
  rcases (by omega : k = 0 ∨ k = 1) with rfl | rfl
  · refine Has.agg (fun k hk v hv => ?_) hv
    rcases (by omega : k = 0 ∨ k = 1) with rfl | rfl
    · exact hv
    · exact hv
  · exact hv
end Go.Proofs.Ytjkeapkpdgfhcaa
