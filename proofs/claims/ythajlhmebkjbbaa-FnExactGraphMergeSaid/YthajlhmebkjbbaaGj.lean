/- Vertices copied; a vertex inserted. -/
import Derived.Test.YthajlhmebkjbbaaGi
set_option linter.all false
namespace Go.Proofs.Ythajlhmebkjbbaa
open Go.RowKit

theorem oneI_c (v : Vx) (hl : v.ps.length ≤ 100000000) : SRet Try.prog 54 [vxV v] (· = vxV v) := ⟨fun R => by
  refine SCalls.enter tt_ok Try.func54 (by kernel_rfl) rfl [(900, .cust R)] rfl (argF _) (fun w F v k h => h) (by simp) ?_
  repeat' (first | (with_reducible first | refine HT.seq ?_ | refine HT.block ?_ | refine Br.not ?_) | ((with_reducible first | refine HT.region tt_ok ?_ | refine HT.drawn tt_ok (by kernel_rfl) (by decide +kernel) ?_ | refine HT.drawnL tt_ok (by kernel_rfl) (by decide +kernel) ?_ | refine HT.cond ?_ | refine HT.ret ?_ | refine HT.skip ?_ | refine HT.exit ?_ | refine Br.tt ?_ | refine Br.ff ?_); conv => whnf) | ((with_reducible first | refine Br.dec (fun hc => ?_) (fun hc => ?_) | refine Br.eq (fun hc => ?_) (fun hc => ?_) | refine Br.ne (fun hc => ?_) (fun hc => ?_)) <;> (first | (exfalso; omega) | conv => whnf)) | ((with_reducible first | refine Br.ttE (by decide) ?_ | refine Br.ffE (by decide) ?_ | refine Br.mk (fun hc => ?_) (fun hc => ?_) | refine Chk.mk (by first | omega | with_reducible rfl | (refine ⟨rfl, ?_⟩; omega) | decide | exact ⟨rfl, by omega, by omega, rfl⟩ | exact ⟨by assumption, rfl, by omega, by omega⟩) ?_ | refine Ar.fit (by omega) ?_ | refine Eqv.shr1 ?_ | refine Ar.u64 (by omega) ?_) <;> conv => whnf) | (with_reducible exact trivial) | ((with_reducible refine And.intro ?_ ?_) <;> conv => whnf) | (intro gn; conv => whnf))
  refine Fin.still (r' := vxV v) (e := 3) (sz := 1) (f' := rowF intF v.ps) (n := v.ps.length) (H' := [.cust R]) (by refine PP.start ?_; repeat (first | exact PP.nil | refine PP.take (by first | with_reducible exact Hp.Sub.refl _ | exact Hp.Sub.rd (by omega) | exact Hp.Sub.rowA (by first | rfl | simp) (fun i j hi hj => cat_ints (l := []) hi hj) | exact Hp.Sub.boxA (by (repeat (first | exact all_lt_zero | refine all_lt_succ (p := fun j => CellLe _ _) (by first | with_reducible exact CellLe.refl _ | exact CellLe.own | exact CellLe.i (by omega) | exact CellLe.nil | exact CellLe.slNil | exact CellLe.refl _) ?_))) | exact Hp.Sub.refl _) ?_ | refine PP.skip ?_)) (fun w F x hsl hx => Has.agg (by (repeat (first | exact all_lt_zero | refine all_lt_succ (p := fun k => ∀ v, Has _ _ _ v → Has _ _ _ v) (by (first | exact fun _ h => h | exact (fun u hu => (show u = _ from hu) ▸ hsl))) ?_))) hx) ⟨rfl, rfl⟩⟩
theorem oneS_c (v : Vx) (hl : v.ps.length ≤ 100000000) : SRet Try.prog 74 [vxV v] (· = vxV v) := ⟨fun R => by
  refine SCalls.enter tt_ok Try.func74 (by kernel_rfl) rfl [(900, .cust R)] rfl (argF _) (fun w F v k h => h) (by simp) ?_
  repeat' (first | (with_reducible first | refine HT.seq ?_ | refine HT.block ?_ | refine Br.not ?_) | ((with_reducible first | refine HT.region tt_ok ?_ | refine HT.drawn tt_ok (by kernel_rfl) (by decide +kernel) ?_ | refine HT.drawnL tt_ok (by kernel_rfl) (by decide +kernel) ?_ | refine HT.cond ?_ | refine HT.ret ?_ | refine HT.skip ?_ | refine HT.exit ?_ | refine Br.tt ?_ | refine Br.ff ?_); conv => whnf) | ((with_reducible first | refine Br.dec (fun hc => ?_) (fun hc => ?_) | refine Br.eq (fun hc => ?_) (fun hc => ?_) | refine Br.ne (fun hc => ?_) (fun hc => ?_)) <;> (first | (exfalso; omega) | conv => whnf)) | ((with_reducible first | refine Br.ttE (by decide) ?_ | refine Br.ffE (by decide) ?_ | refine Br.mk (fun hc => ?_) (fun hc => ?_) | refine Chk.mk (by first | omega | with_reducible rfl | (refine ⟨rfl, ?_⟩; omega) | decide | exact ⟨rfl, by omega, by omega, rfl⟩ | exact ⟨by assumption, rfl, by omega, by omega⟩) ?_ | refine Ar.fit (by omega) ?_ | refine Eqv.shr1 ?_ | refine Ar.u64 (by omega) ?_) <;> conv => whnf) | (with_reducible exact trivial) | ((with_reducible refine And.intro ?_ ?_) <;> conv => whnf) | (intro gn; conv => whnf))
  refine Fin.still (r' := vxV v) (e := 3) (sz := 1) (f' := rowF intF v.ps) (n := v.ps.length) (H' := [.cust R]) (by refine PP.start ?_; repeat (first | exact PP.nil | refine PP.take (by first | with_reducible exact Hp.Sub.refl _ | exact Hp.Sub.rd (by omega) | exact Hp.Sub.rowA (by first | rfl | simp) (fun i j hi hj => cat_ints (l := []) hi hj) | exact Hp.Sub.boxA (by (repeat (first | exact all_lt_zero | refine all_lt_succ (p := fun j => CellLe _ _) (by first | with_reducible exact CellLe.refl _ | exact CellLe.own | exact CellLe.i (by omega) | exact CellLe.nil | exact CellLe.slNil | exact CellLe.refl _) ?_))) | exact Hp.Sub.refl _) ?_ | refine PP.skip ?_)) (fun w F x hsl hx => Has.agg (by (repeat (first | exact all_lt_zero | refine all_lt_succ (p := fun k => ∀ v, Has _ _ _ v → Has _ _ _ v) (by (first | exact fun _ h => h | exact (fun u hu => (show u = _ from hu) ▸ hsl))) ?_))) hx) ⟨rfl, rfl⟩⟩
/-- vertices in a row of their own, that has no room for more -/
def MadeV (vs : List Vx) (r : SV) (N : List Hp) : Prop := ∃ g n, n = vs.length ∧ r = .own 0 (.slice (some ⟨g, 0, none⟩) n n) ∧ N = [.row (.slice (some ⟨g, 0, none⟩) n n) 38 4 vs.length (rowF vxF vs)]
/-- the vertices with one more at place p -/
def insAt (vs : List Vx) (p : Nat) (v : Vx) : List Vx := vs.take p ++ v :: vs.drop p
theorem insAt_len {vs : List Vx} {p : Nat} {v : Vx} (h : p ≤ vs.length) : (insAt vs p v).length = vs.length + 1 := by
  unfold insAt; simp; omega
theorem insAt_get {vs : List Vx} {p i : Nat} {v : Vx} (h : p ≤ vs.length) : vg (insAt vs p v) i = if i < p then vg vs i else if i = p then v else vg vs (i - 1) := by
  unfold insAt vg
  rw [List.getD_eq_getElem?_getD, List.getElem?_append, List.length_take, Nat.min_eq_left h]
  by_cases h1 : i < p
  · rw [if_pos h1, if_pos h1, List.getElem?_take, if_pos h1, ← List.getD_eq_getElem?_getD]
  · rw [if_neg h1, if_neg h1]
    by_cases h2 : i = p
    · subst h2; simp
    · rw [if_neg h2, show i - p = (i - p - 1) + 1 by omega, List.getElem?_cons_succ, List.getElem?_drop, show p + (i - p - 1) = i - 1 by omega, ← List.getD_eq_getElem?_getD]
end Go.Proofs.Ythajlhmebkjbbaa
