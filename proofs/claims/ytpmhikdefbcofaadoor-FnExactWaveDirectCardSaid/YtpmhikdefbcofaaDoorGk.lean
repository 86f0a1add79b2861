/- A vertex is added to a graph: both sides. -/
import Derived.Test.YtpmhikdefbcofaaDoorGj
set_option linter.all false
namespace Go.Proofs.YtpmhikdefbcofaaDoor
open Go.RowKit

theorem SRet.arg {P : Program} {f : FuncId} {ss ss' : List SV} {Φ : SV → Prop} (h : SRet P f ss' Φ) (hl : ∀ w F vs, HasL w F ss vs → HasL w F ss' vs) : SRet P f ss Φ :=
  ⟨fun R => ⟨(h.h R).1, fun w F vs hs hv => (h.h R).2 w F vs hs (hl w F vs hv)⟩⟩
/-- where a vertex belongs -/
def plc (vs : List Vx) (v : Vx) : Nat := vs.findIdx fun u => !bef u v
theorem plc_le {vs : List Vx} {v : Vx} : plc vs v ≤ vs.length := List.findIdx_le_length
theorem plc_eq {vs : List Vx} {v : Vx} {k : Nat} (hk : k ≤ vs.length) (h : ∀ j, j < k → bef (vg vs j) v = true) (h2 : k < vs.length → bef (vg vs k) v = false) : plc vs v = k := by
  unfold plc
  rcases Nat.lt_or_ge k vs.length with hlt | hge
  · rw [List.findIdx_eq hlt]
    refine ⟨?_, fun j hj => ?_⟩
    · have := h2 hlt; rw [vg_eq hlt] at this; rw [this]; rfl
    · have := h j hj; rw [vg_eq (by omega)] at this; rw [this]; rfl
  · obtain rfl : k = vs.length := by omega
    rw [List.findIdx_eq_length]
    intro x hx
    obtain ⟨j, hj, rfl⟩ := List.getElem_of_mem hx
    have := h j hj; rw [vg_eq hj] at this; rw [this]; rfl
def gaC (c : List Int) (vs : List Vx) (v : Vx) : Int :=
  if grOk c vs = true ∧ vxOkA c v = true then (match fdV vs v.r v.a with
    | some i => if vg vs i = v then 1 else 2
    | none => if parOk vs v = true then 0 else 3) else 4
def gaL (c : List Int) (vs : List Vx) (v : Vx) : List Vx := if gaC c vs v = 0 then insAt vs (plc vs v) v else if gaC c vs v = 4 then [] else vs
def gaV (c : List Int) (vs : List Vx) (v : Vx) : SV := .tup 2 (litF [vsl (gaL c vs v), .i (gaC c vs v)])
theorem gaC_bad {c : List Int} {vs : List Vx} {v : Vx} (h : grOk c vs = false ∨ vxOkA c v = false) : gaC c vs v = 4 := by
  unfold gaC
  rw [if_neg]
  rintro ⟨h1, h2⟩
  rw [h1, h2] at h
  rcases h with h | h <;> cases h
theorem gaC_known {c : List Int} {vs : List Vx} {v : Vx} {i : Nat} (h1 : grOk c vs = true) (h2 : vxOkA c v = true) (hi : fdV vs v.r v.a = some i) : gaC c vs v = if vg vs i = v then 1 else 2 := by
  unfold gaC
  rw [if_pos ⟨h1, h2⟩, hi]
theorem gaC_new {c : List Int} {vs : List Vx} {v : Vx} (h1 : grOk c vs = true) (h2 : vxOkA c v = true) (hi : fdV vs v.r v.a = none) : gaC c vs v = if parOk vs v = true then 0 else 3 := by
  unfold gaC
  rw [if_pos ⟨h1, h2⟩, hi]
theorem gaL_0 {c : List Int} {vs : List Vx} {v : Vx} (h : gaC c vs v = 0) : gaL c vs v = insAt vs (plc vs v) v := if_pos h
theorem gaL_4 {c : List Int} {vs : List Vx} {v : Vx} (h : gaC c vs v = 4) : gaL c vs v = [] := by
  unfold gaL; rw [if_neg (by omega), if_pos h]
theorem gaL_vs {c : List Int} {vs : List Vx} {v : Vx} (h0 : gaC c vs v ≠ 0) (h4 : gaC c vs v ≠ 4) : gaL c vs v = vs := by
  unfold gaL; rw [if_neg h0, if_neg h4]
/-- a row and a code are handed back; the row stands still -/
theorem Fin.ga {v : Value} {k n : Nat} {f : Nat → Nat → SV} {c : List Int} {vs : List Vx} {u : Vx} {l : List Vx} {z : Int} {R : Heaplet} {H : List Hp} {r : SV} (hp : PPick H [.row v 37 4 n f, .cust R]) (hn : n = l.length) (hf : ∀ i j, i < n → j < 4 → f i j = rowF vxF l i j)
    (hr : ∀ w F, LeW w F r (.tup 2 (litF [.own k v, .i z]))) (hz : gaC c vs u = z) (hl : gaL c vs u = l) : Fin r H (fun r H' => H' = [.cust R] ∧ r = gaV c vs u) := by
  subst hn
  refine Fin.frz (r' := gaV c vs u) [.row v 37 4 l.length f] [.cust R] hp (fun w F hz' => ⟨AllW.refl _ _ _, fun x hx => ?_⟩) ⟨rfl, rfl⟩
  unfold gaV
  rw [hz, hl]
  refine LeW.tup2 (f := litF [.own k v, .i z]) (g := litF [vsl l, .i z]) (fun u hu => ?_) (fun _ h => h) x (hr w F x hx)
  have e : u = v := hu
  subst e
  exact Has.slL (fun i j hi hj x hx => by rw [hf i j hi hj] at hx; exact hx) hz'.1
theorem Fin.gaL {v : Value} {k n : Nat} {c : List Int} {vs : List Vx} {u : Vx} {l : List Vx} {z : Int} {R : Heaplet} {H : List Hp} {r : SV} (hp : PPick H [.row v 37 4 n (rowF vxF l), .cust R]) (hn : n = l.length)
    (hr : ∀ w F, LeW w F r (.tup 2 (litF [.own k v, .i z]))) (hz : gaC c vs u = z) (hl : gaL c vs u = l) : Fin r H (fun r H' => H' = [.cust R] ∧ r = gaV c vs u) := Fin.ga hp hn (fun _ _ _ _ => rfl) hr hz hl
theorem next_vx {w : World} {F : Nat → Prop} {vs : List Vx} {k i j : Nat} {g0 : Nat → Nat → SV} (h : ∀ j, j < 4 → g0 0 j = vxF (vs.getD k default) j) (hi : i < k + 1) (hj : j < 4) : LeW w F (catF k (rowF vxF vs) g0 i j) (rowF vxF vs i j) := by
  refine LeW.of_eq ?_
  unfold catF
  by_cases hlt : i < k
  · rw [if_pos hlt]
  · obtain rfl : i = k := by omega
    rw [if_neg hlt, Nat.sub_self]; exact h j hj
end Go.Proofs.YtpmhikdefbcofaaDoor
