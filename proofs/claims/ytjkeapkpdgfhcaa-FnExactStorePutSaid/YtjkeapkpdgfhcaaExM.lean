/- Marks that are written into lists and looked for again. -/
import Derived.Test.YtjkeapkpdgfhcaaExI
set_option linter.all false
namespace Go.Proofs.Ytjkeapkpdgfhcaa
open Go.RowKit

theorem putR_ne {i o m j k : Nat} {fv : Nat → SV} {f : Nat → Nat → SV} (h : j ≠ i) : putR i o m fv f j k = f j k := by
  unfold putR
  have e : Nat.beq j i = false := by rw [Bool.eq_false_iff]; exact fun hb => h (Nat.eq_of_beq_eq_true hb)
  rw [e, cond_false]
theorem putR_eqf (i o m : Nat) (fv : Nat → SV) (f : Nat → Nat → SV) : putR i o m fv f i = putF o m fv (f i) := by
  funext k
  unfold putR
  rw [Nat.beq_refl, cond_true]
/-- elements 0 .. n-1 -/
def mkL {α : Type} (m : Nat → α) (n : Nat) : List α := (List.range n).map m
theorem mkL_len {α : Type} {m : Nat → α} {n : Nat} : (mkL m n).length = n := by simp [mkL]
theorem mkL_get {α : Type} [Inhabited α] {m : Nat → α} {n i : Nat} (h : i < n) : (mkL m n).getD i default = m i := by simp [mkL, List.getD_eq_getElem?_getD, h]
/-- the first i elements are those of m -/
def mixF {α : Type} [Inhabited α] (en : α → Nat → SV) (m : Nat → α) (l : List α) (i : Nat) : Nat → Nat → SV := fun j c => if j < i then en (m j) c else en (l.getD j default) c
theorem mix_lt {α : Type} [Inhabited α] {en : α → Nat → SV} {m : Nat → α} {l : List α} {i j c : Nat} (h : j < i) : mixF en m l i j c = en (m j) c := if_pos h
theorem mix_ge {α : Type} [Inhabited α] {en : α → Nat → SV} {m : Nat → α} {l : List α} {i j c : Nat} (h : i ≤ j) : mixF en m l i j c = en (l.getD j default) c := if_neg (by omega)
theorem mix_next {α : Type} [Inhabited α] {en : α → Nat → SV} {m : Nat → α} {l : List α} {i j c : Nat} (h : j ≠ i) : mixF en m l i j c = mixF en m l (i + 1) j c := by
  unfold mixF
  by_cases h1 : j < i
  · rw [if_pos h1, if_pos (by omega)]
  · rw [if_neg h1, if_neg (by omega)]
theorem mix_end {α : Type} [Inhabited α] {en : α → Nat → SV} {m : Nat → α} {l : List α} {n j c : Nat} (h : j < n) : mixF en m l n j c = rowF en (mkL m n) j c := by
  rw [mix_lt h]
  show _ = en ((mkL m n).getD j default) c
  rw [mkL_get h]
/-- a call that turns one piece, that is no block -/
theorem CallN.turn1 {P : Program} {f : FuncId} {ss : List SV} {L : Hpl} {nx : Nat} {K : KK} (i : Nat) (p : Hp) (Φ : SV → List Hp → Hp → Prop) (hl : lk i L = p) (he : p.isEmp = false) (hb : ∀ g t n f, p ≠ .box g t n f) (h : SMut P f ss p Φ)
    (k : ∀ r N p', Φ r N p' → K (r.lift nx) (keyN nx N (setK i p' L)) (nx + 10)) : CallN P f ss L nx K := by
  obtain ⟨j, h1, h2⟩ := setK_idx (i := i) (p := .emp) (L := L) (hasK_of (by rw [hl]; exact Hp.ne_emp he))
  rw [hl] at h1
  refine .gen (h.call j h1 fun r N p' hr => ⟨_, by rw [keyN_snd, h2], fun q g t n f hlt hk => ?_, k r N p' hr⟩)
  have key : ∀ (N : List Hp) (m : Nat) (L' : Hpl) (k : Nat) (x : Hp), k < m → lk k L' = x → lk k (keyN m N L') = x := by
    intro N
    induction N with
    | nil => intro m L' k x _ h; exact h
    | cons y N ih =>
      intro m L' k x hkm h
      simp only [keyN, lk]
      have : Nat.beq m k = false := by rw [Bool.eq_false_iff]; intro hb; have := Nat.eq_of_beq_eq_true hb; omega
      rw [this, cond_false]
      exact ih (m + 1) L' k x (by omega) h
  refine key N nx _ q _ hlt ?_
  rw [lk_setK_ne (by rintro rfl; rw [hl] at hk; exact hb _ _ _ _ hk)]
  exact hk
/-- a state between two codes, told as the walk goes on from it -/
structure Cut {ι : Type} (S : ι → St) (s : St) : Prop where
  h : ∃ i, SLe s (S i)
def Qcut {ι : Type} (S : ι → St) (Q : Exit → St → Prop) : Exit → St → Prop
  | .normal, s => Cut S s
  | e, s => Q e s
theorem HT.cut {P : Program} {n : Nat} {x y : Code} {Q : Exit → St → Prop} {s : St} {ι : Type} (S : ι → St) (h1 : HT P n x (Qcut S Q) s) (h2 : ∀ i, HT P n y Q (S i)) : HT P n (.seq x y) Q s :=
  HT.seq (h1.mono fun e s' hq => by
    cases e
    case normal =>
      obtain ⟨i, hle⟩ := hq.h
      exact HT.le hle (h2 i)
    all_goals exact hq)
/-- the walk stops ahead of a region -/
structure Stop (p : Prop) : Prop where
  h : p
theorem HT.stopR {P : Program} {n : Nat} {o : Array Oper} {d : Bool} {y : Code} {Q : Exit → St → Prop} {s : St} (r : Nat) (h : Stop (HT P n (.seq (.region r o d) y) Q s)) : HT P n (.seq (.region r o d) y) Q s := h.h
theorem own_arg {v : Value} {l : List SV} {w : World} {F : Nat → Prop} {x : Value} {k : Nat} (h : Has w F ((SV.val v :: l).getD k (.val undef)) x) : Has w F (upd (argF (SV.val v :: l)) 0 (.own 0 v) k) x := by
  unfold upd
  cases e : Nat.beq k 0
  · exact h
  · have := Nat.eq_of_beq_eq_true e
    subst this
    exact h

end Go.Proofs.Ytjkeapkpdgfhcaa
