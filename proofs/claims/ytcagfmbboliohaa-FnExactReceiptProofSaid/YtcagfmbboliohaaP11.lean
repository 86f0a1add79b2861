/- Texts of this proof put together: Rh, Rf, ExI. -/
import Derived.Test.YtcagfmbboliohaaP01
import Derived.Test.YtcagfmbboliohaaP02
import Derived.Test.YtcagfmbboliohaaP03
import Derived.Test.YtcagfmbboliohaaP04
import Derived.Test.YtcagfmbboliohaaP05
import Derived.Test.YtcagfmbboliohaaP06
import Derived.Test.YtcagfmbboliohaaP07
import Derived.Test.YtcagfmbboliohaaP08
import Derived.Test.YtcagfmbboliohaaP09
import Derived.Test.YtcagfmbboliohaaP10
/-! YtcagfmbboliohaaRh -/
set_option linter.all false
namespace Go.Proofs.Ytcagfmbboliohaa
open Go.RowKit

theorem zero_row {n i j : Nat} (hi : i < n) (hj : j < 1) : zF [Value.int .i64 0] j = rowF intF (List.replicate n 0) i j := by
  obtain rfl : j = 0 := by omega
  show SV.i 0 = SV.i ((List.replicate n 0).getD i default)
  congr 1
  rw [List.getD_eq_getElem?_getD, List.getElem?_replicate, if_pos hi]; rfl
theorem set_all {acc : List Int} {l : List Rc} {k q : Nat} (hal : acc.length = l.length) (hk : k < l.length) (hq : q = k) (h : ∀ j, j < k → acc.getD j default = rcD (l.getD j default)) : ∀ j, j < k + 1 → (acc.set q (rcD (l.getD q default))).getD j default = rcD (l.getD j default) := fun j hj => by
  subst hq
  by_cases e : j = q
  · subst e
    rw [List.getD_eq_getElem?_getD, List.getElem?_set_self (by omega)]; rfl
  · rw [List.getD_eq_getElem?_getD, List.getElem?_set_ne (fun e2 => e e2.symm), ← List.getD_eq_getElem?_getD]
    exact h j (by omega)
theorem all_lvs {acc : List Int} {l : List Rc} (hal : acc.length = l.length) (h : ∀ j, j < l.length → acc.getD j default = rcD (l.getD j default)) : acc = lvs l := by
  apply List.ext_getElem (by rw [lvs_len]; exact hal)
  intro j h1 h2
  have h3 := h j (by omega)
  rw [← lvs_get (by omega), gDi h1, gDi h2] at h3
  exact h3
theorem implLf_c (l : List Int) (hl : l.length ≤ 10000000) : SRet Try.prog 52 [isl l] (· = .b (lfOk l)) := ⟨fun R => by
  refine SCalls.enter tt_ok Try.func52 (by kernel_rfl) rfl [(900, .cust R)] rfl (argF _) (fun w F v k h => h) (by simp) ?_
  repeat' (first | (with_reducible first | refine HT.seq ?_ | refine HT.block ?_ | refine Br.not ?_) | ((with_reducible first | refine HT.region tt_ok ?_ | refine HT.drawn tt_ok (by kernel_rfl) (by decide +kernel) ?_ | refine HT.drawnL tt_ok (by kernel_rfl) (by decide +kernel) ?_ | refine HT.cond ?_ | refine HT.ret ?_ | refine HT.skip ?_ | refine HT.exit ?_ | refine Br.tt ?_ | refine Br.ff ?_); conv => whnf) | ((with_reducible first | refine Br.dec (fun hc => ?_) (fun hc => ?_) | refine Br.eq (fun hc => ?_) (fun hc => ?_) | refine Br.ne (fun hc => ?_) (fun hc => ?_)) <;> (first | (exfalso; omega) | conv => whnf)) | ((with_reducible first | refine Br.ttE (by decide) ?_ | refine Br.ffE (by decide) ?_ | refine Br.mk (fun hc => ?_) (fun hc => ?_) | refine Chk.mk (by first | omega | with_reducible rfl | (refine ⟨rfl, ?_⟩; omega) | decide | exact ⟨rfl, by omega, by omega, rfl⟩ | exact ⟨by assumption, rfl, by omega, by omega⟩) ?_ | refine Ar.fit (by omega) ?_ | refine Eqv.shr1 ?_ | refine Ar.u64 (by omega) ?_) <;> conv => whnf) | (with_reducible exact trivial) | ((with_reducible refine And.intro ?_ ?_) <;> conv => whnf) | (intro gn; conv => whnf))
  · exact Fin.pureS (by repeat (first | exact List.Sublist.refl _ | refine List.Sublist.cons_cons _ ?_ | refine List.Sublist.cons _ ?_)) (sv_b (lf_len (by omega)).symm)
  · exact Fin.pureS (by repeat (first | exact List.Sublist.refl _ | refine List.Sublist.cons_cons _ ?_ | refine List.Sublist.cons _ ?_)) (sv_b (lf_len (by omega)).symm)
  refine HT.loopS [0, 12, 13, 14] (fun k : Nat => [(15, .i k)]) (fun k : Nat => k ≤ l.length ∧ ∀ j, j < k → inB (l.getD j default) 0 990 = true) (fun k : Nat => l.length - k) 0 ⟨Nat.zero_le _, fun j hj => absurd hj (by omega)⟩ ⟨rfl, trivial⟩ ?_
  conv => whnf
  rintro k ⟨hk, hall⟩
  repeat' (first | (with_reducible first | refine HT.seq ?_ | refine HT.block ?_ | refine Br.not ?_) | ((with_reducible first | refine HT.region tt_ok ?_ | refine HT.drawn tt_ok (by kernel_rfl) (by decide +kernel) ?_ | refine HT.drawnL tt_ok (by kernel_rfl) (by decide +kernel) ?_ | refine HT.cond ?_ | refine HT.ret ?_ | refine HT.skip ?_ | refine HT.exit ?_ | refine Br.tt ?_ | refine Br.ff ?_); conv => whnf) | ((with_reducible first | refine Br.dec (fun hc => ?_) (fun hc => ?_) | refine Br.eq (fun hc => ?_) (fun hc => ?_) | refine Br.ne (fun hc => ?_) (fun hc => ?_)) <;> (first | (exfalso; omega) | conv => whnf)) | ((with_reducible first | refine Br.ttE (by decide) ?_ | refine Br.ffE (by decide) ?_ | refine Br.mk (fun hc => ?_) (fun hc => ?_) | refine Chk.mk (by first | omega | with_reducible rfl | (refine ⟨rfl, ?_⟩; omega) | decide | exact ⟨rfl, by omega, by omega, rfl⟩ | exact ⟨by assumption, rfl, by omega, by omega⟩) ?_ | refine Ar.fit (by omega) ?_ | refine Eqv.shr1 ?_ | refine Ar.u64 (by omega) ?_) <;> conv => whnf) | ((first | refine CallN.ret1 (isDigest_c _) ?_) <;> conv => whnf) | (with_reducible exact trivial) | ((with_reducible refine And.intro ?_ ?_) <;> conv => whnf) | (intro gn; conv => whnf))
  all_goals (try simp only [Int.toNat_natCast] at *)
  · exact ⟨⟨k + 1, ⟨by omega, all_lt_succ hc hall⟩, by omega, (by repeat' (first | exact trivial | refine ⟨rfl, ?_⟩)), ⟨sv_i (by omega), trivial⟩, (HLe.sub (by repeat (first | exact List.Sublist.refl _ | refine List.Sublist.cons_cons _ ?_ | refine List.Sublist.cons _ ?_)))⟩⟩
  · exact Fin.pureS (by repeat (first | exact List.Sublist.refl _ | refine List.Sublist.cons_cons _ ?_ | refine List.Sublist.cons _ ?_)) (sv_b (lf_no (k := k) (by omega) hc).symm)
  · exact Fin.pureS (by repeat (first | exact List.Sublist.refl _ | refine List.Sublist.cons_cons _ ?_ | refine List.Sublist.cons _ ?_)) (sv_b (by rw [lf_yes (by omega) (fun j hj => hall j (by omega))]))⟩
theorem implRs_c (l : List Rc) (hl : l.length ≤ 10000000) : SRet Try.prog 37 [rcl l] (· = .b (rcsOk l)) := ⟨fun R => by
  refine SCalls.enter tt_ok Try.func37 (by kernel_rfl) rfl [(900, .cust R)] rfl (argF _) (fun w F v k h => h) (by simp) ?_
  repeat' (first | (with_reducible first | refine HT.seq ?_ | refine HT.block ?_ | refine Br.not ?_) | ((with_reducible first | refine HT.region tt_ok ?_ | refine HT.drawn tt_ok (by kernel_rfl) (by decide +kernel) ?_ | refine HT.drawnL tt_ok (by kernel_rfl) (by decide +kernel) ?_ | refine HT.cond ?_ | refine HT.ret ?_ | refine HT.skip ?_ | refine HT.exit ?_ | refine Br.tt ?_ | refine Br.ff ?_); conv => whnf) | ((with_reducible first | refine Br.dec (fun hc => ?_) (fun hc => ?_) | refine Br.eq (fun hc => ?_) (fun hc => ?_) | refine Br.ne (fun hc => ?_) (fun hc => ?_)) <;> (first | (exfalso; omega) | conv => whnf)) | ((with_reducible first | refine Br.ttE (by decide) ?_ | refine Br.ffE (by decide) ?_ | refine Br.mk (fun hc => ?_) (fun hc => ?_) | refine Chk.mk (by first | omega | with_reducible rfl | (refine ⟨rfl, ?_⟩; omega) | decide | exact ⟨rfl, by omega, by omega, rfl⟩ | exact ⟨by assumption, rfl, by omega, by omega⟩) ?_ | refine Ar.fit (by omega) ?_ | refine Eqv.shr1 ?_ | refine Ar.u64 (by omega) ?_) <;> conv => whnf) | (with_reducible exact trivial) | ((with_reducible refine And.intro ?_ ?_) <;> conv => whnf) | (intro gn; conv => whnf))
  · exact Fin.pureS (by repeat (first | exact List.Sublist.refl _ | refine List.Sublist.cons_cons _ ?_ | refine List.Sublist.cons _ ?_)) (sv_b (rcs_len (by omega)).symm)
  · exact Fin.pureS (by repeat (first | exact List.Sublist.refl _ | refine List.Sublist.cons_cons _ ?_ | refine List.Sublist.cons _ ?_)) (sv_b (rcs_len (by omega)).symm)
  refine HT.loopS [0, 12, 13, 14] (fun k : Nat => [(15, .i k)]) (fun k : Nat => k ≤ l.length ∧ ∀ j, j < k → (rcOk (l.getD j default) = true ∧ (l.getD j default).i = j)) (fun k : Nat => l.length - k) 0 ⟨Nat.zero_le _, fun j hj => absurd hj (by omega)⟩ ⟨rfl, trivial⟩ ?_
  conv => whnf
  rintro k ⟨hk, hall⟩
  have hR := implRV_c (l.getD ((k : Int)).toNat default)
  conv => whnf
  repeat' (first | (with_reducible first | refine HT.seq ?_ | refine HT.block ?_ | refine Br.not ?_) | ((with_reducible first | refine HT.region tt_ok ?_ | refine HT.drawn tt_ok (by kernel_rfl) (by decide +kernel) ?_ | refine HT.drawnL tt_ok (by kernel_rfl) (by decide +kernel) ?_ | refine HT.cond ?_ | refine HT.ret ?_ | refine HT.skip ?_ | refine HT.exit ?_ | refine Br.tt ?_ | refine Br.ff ?_); conv => whnf) | ((with_reducible first | refine Br.dec (fun hc => ?_) (fun hc => ?_) | refine Br.eq (fun hc => ?_) (fun hc => ?_) | refine Br.ne (fun hc => ?_) (fun hc => ?_)) <;> (first | (exfalso; omega) | conv => whnf)) | ((with_reducible first | refine Br.ttE (by decide) ?_ | refine Br.ffE (by decide) ?_ | refine Br.mk (fun hc => ?_) (fun hc => ?_) | refine Chk.mk (by first | omega | with_reducible rfl | (refine ⟨rfl, ?_⟩; omega) | decide | exact ⟨rfl, by omega, by omega, rfl⟩ | exact ⟨by assumption, rfl, by omega, by omega⟩) ?_ | refine Ar.fit (by omega) ?_ | refine Eqv.shr1 ?_ | refine Ar.u64 (by omega) ?_) <;> conv => whnf) | ((first | refine CallN.ret1 (hR) ?_) <;> conv => whnf) | (with_reducible exact trivial) | ((with_reducible refine And.intro ?_ ?_) <;> conv => whnf) | (intro gn; conv => whnf))
  all_goals (try simp only [Int.toNat_natCast] at *)
  all_goals first
    | exact ⟨⟨k + 1, ⟨by omega, all_lt_succ (by simp_all) hall⟩, by omega, (by repeat' (first | exact trivial | refine ⟨rfl, ?_⟩)), ⟨sv_i (by omega), trivial⟩, (HLe.sub (by repeat (first | exact List.Sublist.refl _ | refine List.Sublist.cons_cons _ ?_ | refine List.Sublist.cons _ ?_)))⟩⟩
    | exact Fin.pureS (by repeat (first | exact List.Sublist.refl _ | refine List.Sublist.cons_cons _ ?_ | refine List.Sublist.cons _ ?_)) (sv_b (rcs_no (k := k) (by omega) (fun h => by simp_all)).symm)
    | exact Fin.pureS (by repeat (first | exact List.Sublist.refl _ | refine List.Sublist.cons_cons _ ?_ | refine List.Sublist.cons _ ?_)) (sv_b (rcs_yes (by omega) (fun j hj => hall j (by omega))).symm)
    | trace_state⟩
theorem leavesOf_o (l : List Rc) (hl : l.length ≤ 10000000) : SNew Try.prog 39 [rcl l] (MadeL (· = lvs l) 3) := ⟨fun R => by
  refine SCalls.enter tt_ok Try.func39 (by kernel_rfl) rfl [(900, .cust R)] rfl (argF _) (fun w F v k h => h) (by simp) ?_
  repeat' (first | (with_reducible first | refine HT.seq ?_ | refine HT.block ?_ | refine Br.not ?_) | ((with_reducible first | refine HT.region tt_ok ?_ | refine HT.drawn tt_ok (by kernel_rfl) (by decide +kernel) ?_ | refine HT.drawnL tt_ok (by kernel_rfl) (by decide +kernel) ?_ | refine HT.cond ?_ | refine HT.ret ?_ | refine HT.skip ?_ | refine HT.exit ?_ | refine Br.tt ?_ | refine Br.ff ?_); conv => whnf) | ((with_reducible first | refine Br.dec (fun hc => ?_) (fun hc => ?_) | refine Br.eq (fun hc => ?_) (fun hc => ?_) | refine Br.ne (fun hc => ?_) (fun hc => ?_)) <;> (first | (exfalso; omega) | conv => whnf)) | ((with_reducible first | refine Br.ttE (by decide) ?_ | refine Br.ffE (by decide) ?_ | refine Br.mk (fun hc => ?_) (fun hc => ?_) | refine Chk.mk (by first | omega | with_reducible rfl | (refine ⟨rfl, ?_⟩; omega) | decide | exact ⟨rfl, by omega, by omega, rfl⟩ | exact ⟨by assumption, rfl, by omega, by omega⟩) ?_ | refine Ar.fit (by omega) ?_ | refine Eqv.shr1 ?_ | refine Ar.u64 (by omega) ?_) <;> conv => whnf) | (with_reducible exact trivial) | ((with_reducible refine And.intro ?_ ?_) <;> conv => whnf) | (intro gn; conv => whnf))
  refine HT.loopC [0, 2, 3, 9, 10] (fun x : Nat × List Int => [(11, .i x.1)]) (fun x : Nat × List Int => [(100, .cells (rowF intF x.2))]) (fun x : Nat × List Int => x.1 ≤ l.length ∧ x.2.length = l.length ∧ ∀ j, j < x.1 → x.2.getD j default = rcD (l.getD j default)) (fun x : Nat × List Int => l.length - x.1) (0, List.replicate l.length 0) ⟨Nat.zero_le _, by simp, fun j hj => absurd hj (by omega)⟩ ⟨(by first | with_reducible exact CellLe.refl _ | exact CellLe.own | exact CellLe.i (by omega) | exact CellLe.nil | exact CellLe.slNil | exact CellLe.refl _), trivial⟩ ?_ ?_
  · conv => whnf
    refine PP.start ?_; repeat (first | exact PP.nil | refine PP.take (by first | with_reducible exact Hp.Sub.refl _ | exact Hp.Sub.rd (by omega) | exact Hp.Sub.rowA rfl (fun i j hi hj => zero_row (by omega) hj) | exact Hp.Sub.boxA (by (repeat (first | exact all_lt_zero | refine all_lt_succ (p := fun j => CellLe _ _) (by first | with_reducible exact CellLe.refl _ | exact CellLe.own | exact CellLe.i (by omega) | exact CellLe.nil | exact CellLe.slNil | exact CellLe.refl _) ?_))) | exact Hp.Sub.refl _) ?_ | refine PP.skip ?_)
  conv => whnf
  rintro ⟨k, acc⟩ ⟨hk, hal, hall⟩
  dsimp only at hk hal hall ⊢
  have hR := implRD_c (l.getD ((k : Int)).toNat default)
  conv => whnf
  repeat' (first | (with_reducible first | refine HT.seq ?_ | refine HT.block ?_ | refine Br.not ?_) | ((with_reducible first | refine HT.region tt_ok ?_ | refine HT.drawn tt_ok (by kernel_rfl) (by decide +kernel) ?_ | refine HT.drawnL tt_ok (by kernel_rfl) (by decide +kernel) ?_ | refine HT.cond ?_ | refine HT.ret ?_ | refine HT.skip ?_ | refine HT.exit ?_ | refine Br.tt ?_ | refine Br.ff ?_); conv => whnf) | ((with_reducible first | refine Br.dec (fun hc => ?_) (fun hc => ?_) | refine Br.eq (fun hc => ?_) (fun hc => ?_) | refine Br.ne (fun hc => ?_) (fun hc => ?_)) <;> (first | (exfalso; omega) | conv => whnf)) | ((with_reducible first | refine Br.ttE (by decide) ?_ | refine Br.ffE (by decide) ?_ | refine Br.mk (fun hc => ?_) (fun hc => ?_) | refine Chk.mk (by first | omega | with_reducible rfl | (refine ⟨rfl, ?_⟩; omega) | decide | exact ⟨rfl, by omega, by omega, rfl⟩ | exact ⟨by assumption, rfl, by omega, by omega⟩) ?_ | refine Ar.fit (by omega) ?_ | refine Eqv.shr1 ?_ | refine Ar.u64 (by omega) ?_) <;> conv => whnf) | ((first | refine CallN.ret1 (hR) ?_) <;> conv => whnf) | (with_reducible exact trivial) | ((with_reducible refine And.intro ?_ ?_) <;> conv => whnf) | (intro gn; conv => whnf))
  all_goals first
    | (have hkl : k < l.length := (by omega)
       exact ⟨⟨(k + 1, acc.set ((k : Int)).toNat (rcD (l.getD ((k : Int)).toNat default))), ⟨by dsimp only; omega, by dsimp only; rw [List.length_set]; exact hal, by dsimp only; exact set_all hal hkl (Int.toNat_natCast k) hall⟩, by dsimp only; omega, (by repeat' (first | exact trivial | refine ⟨rfl, ?_⟩)), ⟨(by first | with_reducible exact CellLe.refl _ | exact CellLe.own | exact CellLe.i (by omega) | exact CellLe.nil | exact CellLe.slNil | exact CellLe.refl _), trivial⟩, HLe.pk (by (conv => whnf); (refine PP.start ?_; repeat (first | exact PP.nil | refine PP.take (by first | with_reducible exact Hp.Sub.refl _ | exact Hp.Sub.rd (by omega) | exact Hp.Sub.rowA rfl (fun i j hi hj => put_int (by omega) rfl hj) | exact Hp.Sub.boxA (by (repeat (first | exact all_lt_zero | refine all_lt_succ (p := fun j => CellLe _ _) (by first | with_reducible exact CellLe.refl _ | exact CellLe.own | exact CellLe.i (by omega) | exact CellLe.nil | exact CellLe.slNil | exact CellLe.refl _) ?_))) | exact Hp.Sub.refl _) ?_ | refine PP.skip ?_)))⟩⟩)
    | (obtain rfl : k = l.length := by omega
       exact Fin.news [_] (fun _ => 0) (by refine PP.start ?_; repeat (first | exact PP.nil | refine PP.take (by first | with_reducible exact Hp.Sub.refl _ | exact Hp.Sub.rd (by omega) | exact Hp.Sub.rowA (by first | rfl | omega) (fun i j hi hj => rfl) | exact Hp.Sub.boxA (by (repeat (first | exact all_lt_zero | refine all_lt_succ (p := fun j => CellLe _ _) (by first | with_reducible exact CellLe.refl _ | exact CellLe.own | exact CellLe.i (by omega) | exact CellLe.nil | exact CellLe.slNil | exact CellLe.refl _) ?_))) | exact Hp.Sub.refl _) ?_ | refine PP.skip ?_)) ⟨acc, _, _, _, all_lvs hal hall, (by first | rfl | omega | simp), rfl, rfl⟩)
    | trace_state⟩
theorem above_o (l : List Int) (hl : l.length ≤ 1000) (hd : allD l) : SNew Try.prog 58 [isl l] (MadeL (· = upL l) 3) := ⟨fun R => by
  have hul : (upL l).length = (l.length + 1) / 2 := upL_len
  have htd : ((l.length : Int) + 1).tdiv 2 = (((l.length + 1) / 2 : Nat) : Int) := td2 (l.length + 1)
  refine SCalls.enter tt_ok Try.func58 (by kernel_rfl) rfl [(900, .cust R)] rfl (argF _) (fun w F v k h => h) (by simp) ?_
  repeat' (first | (with_reducible first | refine HT.seq ?_ | refine HT.block ?_ | refine Br.not ?_) | ((with_reducible first | refine HT.region tt_ok ?_ | refine HT.drawn tt_ok (by kernel_rfl) (by decide +kernel) ?_ | refine HT.drawnL tt_ok (by kernel_rfl) (by decide +kernel) ?_ | refine HT.cond ?_ | refine HT.ret ?_ | refine HT.skip ?_ | refine HT.exit ?_ | refine Br.tt ?_ | refine Br.ff ?_); conv => whnf) | ((with_reducible first | refine Br.dec (fun hc => ?_) (fun hc => ?_) | refine Br.eq (fun hc => ?_) (fun hc => ?_) | refine Br.ne (fun hc => ?_) (fun hc => ?_)) <;> (first | (exfalso; omega) | conv => whnf)) | ((with_reducible first | refine Br.ttE (by decide) ?_ | refine Br.ffE (by decide) ?_ | refine Br.mk (fun hc => ?_) (fun hc => ?_) | refine Chk.mk (by first | omega | with_reducible rfl | (refine ⟨rfl, ?_⟩; omega) | decide | exact ⟨rfl, by omega, by omega, rfl⟩ | exact ⟨by assumption, rfl, by omega, by omega⟩) ?_ | refine Ar.fit (by omega) ?_ | refine Eqv.shr1 ?_ | refine Ar.u64 (by omega) ?_) <;> conv => whnf) | (with_reducible exact trivial) | ((with_reducible refine And.intro ?_ ?_) <;> conv => whnf) | (intro gn; conv => whnf))
  refine HT.loopC [0, 2] (fun x : Nat × List Int × Option Addr × Nat × Nat => [(3, .own 100 (.slice x.2.2.1 x.2.2.2.1 x.2.2.2.2)), (4, .i ((2 * x.1 : Nat) : Int))]) (fun x : Nat × List Int × Option Addr × Nat × Nat => [(100, .row (.slice x.2.2.1 x.2.2.2.1 x.2.2.2.2) x.2.1.length (rowF intF x.2.1))]) (fun x : Nat × List Int × Option Addr × Nat × Nat => 2 * x.1 ≤ l.length + 1 ∧ x.2.1 = (upL l).take x.1 ∧ x.2.2.2.1 = x.2.1.length) (fun x : Nat × List Int × Option Addr × Nat × Nat => l.length + 1 - 2 * x.1) (0, [], some ⟨gn, 0, none⟩, 0, (((l.length : Int) + 1).tdiv 2).toNat) ⟨by omega, rfl, rfl⟩ ⟨(by first | with_reducible exact CellLe.refl _ | exact CellLe.own | exact CellLe.i (by omega) | exact CellLe.nil | exact CellLe.slNil | exact CellLe.refl _), (by first | with_reducible exact CellLe.refl _ | exact CellLe.own | exact CellLe.i (by omega) | exact CellLe.nil | exact CellLe.slNil | exact CellLe.refl _), trivial⟩ ?_ ?_
  · conv => whnf
    refine PP.start ?_; repeat (first | exact PP.nil | refine PP.take (by first | with_reducible exact Hp.Sub.refl _ | exact Hp.Sub.rd (by omega) | exact Hp.Sub.rowA rfl (fun i j hi hj => absurd hi (by omega)) | exact Hp.Sub.boxA (by (repeat (first | exact all_lt_zero | refine all_lt_succ (p := fun j => CellLe _ _) (by first | with_reducible exact CellLe.refl _ | exact CellLe.own | exact CellLe.i (by omega) | exact CellLe.nil | exact CellLe.slNil | exact CellLe.refl _) ?_))) | exact Hp.Sub.refl _) ?_ | refine PP.skip ?_)
  conv => whnf
  rintro ⟨k, acc, A, n, cp⟩ ⟨hk, hacc, hn⟩
  dsimp only at hk hacc hn ⊢
  subst hn
  have hal : acc.length ≤ 1000 := by rw [hacc, List.length_take]; omega
  have e1 : (((2 * k : Nat) : Int)).toNat = 2 * k := by omega
  have e2 : (((2 * k : Nat) : Int) + 1).toNat = 2 * k + 1 := by omega
  have h1 : 2 * k + 1 < l.length → SRet Try.prog 46 [.i (l.getD (((2 * k : Nat) : Int)).toNat default), .i (l.getD (((2 * k : Nat) : Int) + 1).toNat default)] (· = .i ((upL l).getD k default)) := fun h => by rw [e1, e2, upL_two h]; exact implHP_c _ _ (hd.getD (by omega)) (hd.getD (by omega))
  have h2 : 2 * k + 1 = l.length → l.getD (((2 * k : Nat) : Int)).toNat default = (upL l).getD k default := fun h => by rw [e1, upL_one h]
  conv => whnf
  repeat' (first | (with_reducible first | refine HT.seq ?_ | refine HT.block ?_ | refine Br.not ?_) | ((with_reducible first | refine HT.region tt_ok ?_ | refine HT.drawn tt_ok (by kernel_rfl) (by decide +kernel) ?_ | refine HT.drawnL tt_ok (by kernel_rfl) (by decide +kernel) ?_ | refine HT.cond ?_ | refine HT.ret ?_ | refine HT.skip ?_ | refine HT.exit ?_ | refine Br.tt ?_ | refine Br.ff ?_); conv => whnf) | ((with_reducible first | refine Br.dec (fun hc => ?_) (fun hc => ?_) | refine Br.eq (fun hc => ?_) (fun hc => ?_) | refine Br.ne (fun hc => ?_) (fun hc => ?_)) <;> (first | (exfalso; omega) | conv => whnf)) | ((with_reducible first | refine Br.ttE (by decide) ?_ | refine Br.ffE (by decide) ?_ | refine Br.mk (fun hc => ?_) (fun hc => ?_) | refine Chk.mk (by first | omega | with_reducible rfl | (refine ⟨rfl, ?_⟩; omega) | decide | exact ⟨rfl, by omega, by omega, rfl⟩ | exact ⟨by assumption, rfl, by omega, by omega⟩) ?_ | refine Ar.fit (by omega) ?_ | refine Eqv.shr1 ?_ | refine Ar.u64 (by omega) ?_) <;> conv => whnf) | ((first | (refine CallN.ret1 (h1 (by omega)) ?_)) <;> conv => whnf) | (with_reducible exact trivial) | ((with_reducible refine And.intro ?_ ?_) <;> conv => whnf) | (intro gn; conv => whnf))
  all_goals first
    | (have hkl : 2 * k + 1 < l.length := (by omega)
       rename_i A2
       exact ⟨⟨(k + 1, acc ++ [_], A2, acc.length + 1, gn), ⟨by dsimp only; omega, by dsimp only; rw [take_up (by omega), ← hacc], by dsimp only; rw [List.length_append]; rfl⟩, by dsimp only; omega, (by repeat' (first | exact trivial | refine ⟨rfl, ?_⟩)), ⟨(by first | with_reducible exact CellLe.refl _ | exact CellLe.own | exact CellLe.i (by omega) | exact CellLe.nil | exact CellLe.slNil | exact CellLe.refl _), (by first | with_reducible exact CellLe.refl _ | exact CellLe.own | exact CellLe.i (by omega) | exact CellLe.nil | exact CellLe.slNil | exact CellLe.refl _), trivial⟩, HLe.pk (by (conv => whnf); (refine PP.start ?_; repeat (first | exact PP.nil | refine PP.take (by first | with_reducible exact Hp.Sub.refl _ | exact Hp.Sub.rd (by omega) | exact Hp.Sub.rowA (by simp) (fun i j hi hj => cat_ints hi hj) | exact Hp.Sub.boxA (by (repeat (first | exact all_lt_zero | refine all_lt_succ (p := fun j => CellLe _ _) (by first | with_reducible exact CellLe.refl _ | exact CellLe.own | exact CellLe.i (by omega) | exact CellLe.nil | exact CellLe.slNil | exact CellLe.refl _) ?_))) | exact Hp.Sub.refl _) ?_ | refine PP.skip ?_)))⟩⟩)
    | (have hkl : 2 * k + 1 = l.length := (by omega)
       rename_i A2
       exact ⟨⟨(k + 1, acc ++ [_], A2, acc.length + 1, gn), ⟨by dsimp only; omega, by dsimp only; rw [take_up (by omega), ← hacc, ← h2 hkl], by dsimp only; rw [List.length_append]; rfl⟩, by dsimp only; omega, (by repeat' (first | exact trivial | refine ⟨rfl, ?_⟩)), ⟨(by first | with_reducible exact CellLe.refl _ | exact CellLe.own | exact CellLe.i (by omega) | exact CellLe.nil | exact CellLe.slNil | exact CellLe.refl _), (by first | with_reducible exact CellLe.refl _ | exact CellLe.own | exact CellLe.i (by omega) | exact CellLe.nil | exact CellLe.slNil | exact CellLe.refl _), trivial⟩, HLe.pk (by (conv => whnf); (refine PP.start ?_; repeat (first | exact PP.nil | refine PP.take (by first | with_reducible exact Hp.Sub.refl _ | exact Hp.Sub.rd (by omega) | exact Hp.Sub.rowA (by simp) (fun i j hi hj => cat_ints hi hj) | exact Hp.Sub.boxA (by (repeat (first | exact all_lt_zero | refine all_lt_succ (p := fun j => CellLe _ _) (by first | with_reducible exact CellLe.refl _ | exact CellLe.own | exact CellLe.i (by omega) | exact CellLe.nil | exact CellLe.slNil | exact CellLe.refl _) ?_))) | exact Hp.Sub.refl _) ?_ | refine PP.skip ?_)))⟩⟩)
    | exact Fin.news [_] (fun _ => 0) (by refine PP.start ?_; repeat (first | exact PP.nil | refine PP.take (by first | with_reducible exact Hp.Sub.refl _ | exact Hp.Sub.rd (by omega) | exact Hp.Sub.rowA (by first | rfl | simp) (fun i j hi hj => rfl) | exact Hp.Sub.boxA (by (repeat (first | exact all_lt_zero | refine all_lt_succ (p := fun j => CellLe _ _) (by first | with_reducible exact CellLe.refl _ | exact CellLe.own | exact CellLe.i (by omega) | exact CellLe.nil | exact CellLe.slNil | exact CellLe.refl _) ?_))) | exact Hp.Sub.refl _) ?_ | refine PP.skip ?_)) ⟨acc, _, _, _, by rw [hacc, List.take_of_length_le (by omega)], rfl, rfl, rfl⟩
    | trace_state⟩
theorem above_c (l : List Int) (hl : l.length ≤ 1000) (hd : allD l) : SRet Try.prog 58 [isl l] (· = isl (upL l)) := (above_o l hl hd).stillL.imp fun r ⟨l2, h, e⟩ => by rw [e, h]
theorem clone_c (l : List Int) (h0 : 0 < l.length) (hl : l.length ≤ 10000000) : SRet Try.prog 57 [isl l] (· = isl l) := by
  have h : SNew Try.prog 57 [isl l] (MadeL (· = l) 3) := ⟨fun R => by
    refine SCalls.enter tt_ok Try.func57 (by kernel_rfl) rfl [(900, .cust R)] rfl (argF _) (fun w F v k h => h) (by simp) ?_
    repeat' (first | (with_reducible first | refine HT.seq ?_ | refine HT.block ?_ | refine Br.not ?_) | ((with_reducible first | refine HT.region tt_ok ?_ | refine HT.drawn tt_ok (by kernel_rfl) (by decide +kernel) ?_ | refine HT.drawnL tt_ok (by kernel_rfl) (by decide +kernel) ?_ | refine HT.cond ?_ | refine HT.ret ?_ | refine HT.skip ?_ | refine HT.exit ?_ | refine Br.tt ?_ | refine Br.ff ?_); conv => whnf) | ((with_reducible first | refine Br.dec (fun hc => ?_) (fun hc => ?_) | refine Br.eq (fun hc => ?_) (fun hc => ?_) | refine Br.ne (fun hc => ?_) (fun hc => ?_)) <;> (first | (exfalso; omega) | conv => whnf)) | ((with_reducible first | refine Br.ttE (by decide) ?_ | refine Br.ffE (by decide) ?_ | refine Br.mk (fun hc => ?_) (fun hc => ?_) | refine Chk.mk (by first | omega | with_reducible rfl | (refine ⟨rfl, ?_⟩; omega) | decide | exact ⟨rfl, by omega, by omega, rfl⟩ | exact ⟨by assumption, rfl, by omega, by omega⟩) ?_ | refine Ar.fit (by omega) ?_ | refine Eqv.shr1 ?_ | refine Ar.u64 (by omega) ?_) <;> conv => whnf) | (with_reducible exact trivial) | ((with_reducible refine And.intro ?_ ?_) <;> conv => whnf) | (intro gn; conv => whnf))
    exact Fin.news [_] (fun _ => 0) (by refine PP.start ?_; repeat (first | exact PP.nil | refine PP.take (by first | with_reducible exact Hp.Sub.refl _ | exact Hp.Sub.rd (by omega) | exact Hp.Sub.rowA (by first | rfl | simp) (fun i j hi hj => rfl) | exact Hp.Sub.boxA (by (repeat (first | exact all_lt_zero | refine all_lt_succ (p := fun j => CellLe _ _) (by first | with_reducible exact CellLe.refl _ | exact CellLe.own | exact CellLe.i (by omega) | exact CellLe.nil | exact CellLe.slNil | exact CellLe.refl _) ?_))) | exact Hp.Sub.refl _) ?_ | refine PP.skip ?_)) ⟨l, _, _, _, rfl, (by first | rfl | simp), rfl, rfl⟩⟩
  exact h.stillL.imp fun r ⟨l2, h, e⟩ => by rw [e, h]
end Go.Proofs.Ytcagfmbboliohaa
/-! YtcagfmbboliohaaRf -/
set_option linter.all false
namespace Go.Proofs.Ytcagfmbboliohaa
open Go.RowKit

theorem Keep.putObj {w : World} {F : Nat → Prop} {l : Nat} (o : Obj) (h : ¬ F l) : Keep F w (w.putObj l o) :=
  ⟨rfl, rfl, rfl, by simp, fun b hb => World.putObj_heap_other (by rintro rfl; exact h hb), Nat.le_refl _⟩
/-- the record of a loop, the frame that ranges, and pieces -/
def yH (σ : Fr) (a : Act) (l : Nat) (rec : Loop) (H : List Hp) : Heaplet where
  fp b := b = l ∨ (Proofs.Ytcagfmbboliohaa.bundle H).fp b
  holds w F := w.heap[l]? = some (.loop rec) ∧ FrHas w F σ a ∧ (Proofs.Ytcagfmbboliohaa.bundle H).holds w F ∧ ¬ (Proofs.Ytcagfmbboliohaa.bundle H).fp l
  mono hF h := ⟨h.1, fun k => (h.2.1 k).mono hF, (Proofs.Ytcagfmbboliohaa.bundle H).mono hF h.2.2.1, h.2.2.2⟩
  stable hk h := ⟨(hk _ (.inl (.inl rfl))).trans h.1, fun k => Has.keep (fun b hb => hk b (.inr hb)) (h.2.1 k), (Proofs.Ytcagfmbboliohaa.bundle H).stable (fun b hb => hk b (hb.elim (fun hb => .inl (.inr hb)) .inr)) h.2.2.1, h.2.2.2⟩
/-- the block for the rounds' deferred calls -/
def dfrH (D : Nat) : Heaplet where
  fp b := b = D
  holds w _ := w.heap[D]? = some (.deferred (some []))
  mono _ h := h
  stable hk h := (hk _ (.inl rfl)).trans h
def anyH : Heaplet := ⟨fun _ => False, fun _ _ => True, fun _ _ => trivial, fun _ _ => trivial⟩

section
variable {w : World} {F : Nat → Prop} {σ : Fr} {a : Act} {l : Nat} {rec : Loop} {H B : List Hp}
theorem yH_open (h : HSat w F (.cust (yH σ a l rec H) :: B)) : HSat w F (.cust (yH σ a l rec []) :: (H ++ B)) := by
  have hap := List.pairwise_cons.1 h.apart
  have hh : (yH σ a l rec H).holds w F := h.holds _ List.mem_cons_self
  have hf := h.fp _ List.mem_cons_self
  refine ⟨fun x hx => ?_, fun x hx b hb => ?_, List.pairwise_cons.2 ⟨fun y hy b hb hby => ?_, List.pairwise_append.2 ⟨hh.2.2.1.2, hap.2, fun x hx y hy b hb hby => hap.1 y hy b (.inr ⟨x, hx, hb⟩) hby⟩⟩, h.lt⟩
  · rcases List.mem_cons.1 hx with rfl | hx
    · exact ⟨hh.1, hh.2.1, ⟨fun _ h => (by cases h), List.Pairwise.nil⟩, fun ⟨x, hx, _⟩ => by cases hx⟩
    · rcases List.mem_append.1 hx with hx | hx
      · exact hh.2.2.1.1 x hx
      · exact h.holds x (List.mem_cons_of_mem _ hx)
  · rcases List.mem_cons.1 hx with rfl | hx
    · rcases hb with hb | ⟨x, hx, _⟩
      · exact hf b (.inl hb)
      · cases hx
    · rcases List.mem_append.1 hx with hx | hx
      · exact hf b (.inr ⟨x, hx, hb⟩)
      · exact h.fp x (List.mem_cons_of_mem _ hx) b hb
  · rcases hb with rfl | ⟨x, hx, _⟩
    · rcases List.mem_append.1 hy with hy | hy
      · exact hh.2.2.2 ⟨y, hy, hby⟩
      · exact hap.1 y hy b (.inl rfl) hby
    · cases hx
theorem yH_close (h : HSat w F (.cust (yH σ a l rec []) :: (H ++ B))) : HSat w F (.cust (yH σ a l rec H) :: B) := by
  have hap := List.pairwise_cons.1 h.apart
  have hpp := List.pairwise_append.1 hap.2
  have hh : (yH σ a l rec []).holds w F := h.holds _ List.mem_cons_self
  refine ⟨fun x hx => ?_, fun x hx b hb => ?_, List.pairwise_cons.2 ⟨fun y hy b hb hby => ?_, hpp.2.1⟩, h.lt⟩
  · rcases List.mem_cons.1 hx with rfl | hx
    · exact ⟨hh.1, hh.2.1, ⟨fun x hx => h.holds x (List.mem_cons_of_mem _ (List.mem_append_left _ hx)), hpp.1⟩, fun ⟨x, hx, hb⟩ => hap.1 x (List.mem_append_left _ hx) l (.inl rfl) hb⟩
    · exact h.holds x (List.mem_cons_of_mem _ (List.mem_append_right _ hx))
  · rcases List.mem_cons.1 hx with rfl | hx
    · rcases hb with hb | ⟨x, hx, hb⟩
      · exact h.fp _ List.mem_cons_self b (.inl hb)
      · exact h.fp x (List.mem_cons_of_mem _ (List.mem_append_left _ hx)) b hb
    · exact h.fp x (List.mem_cons_of_mem _ (List.mem_append_right _ hx)) b hb
  · rcases hb with hb | ⟨x, hx, hb⟩
    · exact hap.1 y (List.mem_append_right _ hy) b (.inl hb) hby
    · exact hpp.2.2 x hx y hy b hb hby
theorem yH_swap (h : HSat w F (.cust (yH σ a l rec H) :: B)) : HSat w F (.cust (yH σ a l rec B) :: H) :=
  yH_close ((yH_open h).perm (List.Perm.cons _ List.perm_append_comm))
theorem yH_put (rec' : Loop) (h : HSat w F (.cust (yH σ a l rec H) :: B)) : HSat (w.putObj l (.loop rec')) F (.cust (yH σ a l rec' H) :: B) := by
  have hh : (yH σ a l rec H).holds w F := h.holds _ List.mem_cons_self
  have hf := h.fp _ List.mem_cons_self l (.inl rfl)
  have hne : ∀ b, b ≠ l → (w.putObj l (.loop rec')).heap[b]? = w.heap[b]? := fun b hb => World.putObj_heap_other hb
  refine h.turn (by simp) (fun b _ hb => hne b fun e => hb (.inl e)) ⟨World.putObj_heap_same hf.1, fun k => Has.keep (fun b hb => hne b (by rintro rfl; exact hf.2 hb)) (hh.2.1 k), ?_, hh.2.2.2⟩ fun b hb => ⟨by simpa using (h.fp _ List.mem_cons_self b hb).1, .inl hb⟩
  refine (Proofs.Ytcagfmbboliohaa.bundle H).stable (fun b hb => hne b ?_) hh.2.2.1
  rintro rfl
  rcases hb with hb | hb
  · exact hh.2.2.2 hb
  · exact hf.2 hb
end

/-- a call of yield -/
structure SYield (P : Program) (l : Nat) (ss : List SV) (H : List Hp) (K : SV → List Hp → Prop) : Prop where
  h : ∀ w F vs, HSat w F H → HasL w F ss vs → YieldAt Fence.wide 0 P l vs.toArray w fun e w' => ∃ v, e = .returned v ∧ ∃ r F' H', K r H' ∧ Keep F w w' ∧ (∀ b, F b → F' b) ∧ HSat w' F' H' ∧ Has w' F' r v
theorem yieldAt_mono {F : Fence} {m : Nat} {P : Program} {l : Nat} {args : Array Value} {W : World} {R R' : Ending → World → Prop} (h : YieldAt F m P l args W R) (hr : ∀ e w, R e w → R' e w) : YieldAt F m P l args W R' := by
  obtain ⟨fn, tmps, assign, body, h1, h2⟩ := h
  exact ⟨fn, tmps, assign, body, h1, RoundIn.mono h2 hr⟩
theorem SYield.turn {P : Program} {l : Nat} {ss : List SV} {y : Heaplet} {Φ : SV → Heaplet → Prop} (h : ∀ R, SYield P l ss [.cust y, .cust R] fun r H' => ∃ y', H' = [.cust y', .cust R] ∧ Φ r y') {i : Nat} {L : Hpl} (hl : lk i L = .cust y) :
    SYield P l ss (L.map Prod.snd) fun r H => ∃ y', H = (setK i (.cust y') L).map Prod.snd ∧ Φ r y' := ⟨fun w F vs hs hv => by
  have h1 : HSat w F (.cust y :: offK i L) := hs.lk hl (by simp)
  have h2 : HSat w F [.cust y, .cust (Proofs.Ytcagfmbboliohaa.bundle (offK i L))] := HSat.bundle (A := [.cust y]) h1
  refine yieldAt_mono ((h _).h w F vs h2 hv) ?_
  rintro e w' ⟨v, rfl, r, F', H', ⟨y', rfl, hΦ⟩, hk, hF, hs', hr⟩
  have h3 : HSat w' F' (.cust y' :: offK i L) := HSat.unbundle (A := [.cust y']) hs'
  exact ⟨v, rfl, r, F', _, ⟨y', rfl, hΦ⟩, hk, hF, HSat.setK hl (by simp) h3, hr⟩⟩
theorem Fgn.yield {P : Program} {o : Oper} {c : Call} {l d : Nat} {x : Operand} {s : SV} {i : Nat} {y : Heaplet} {L : Hpl} {nx : Nat} {K : KK} {Φ : SV → Heaplet → Prop} (ho : o.op = .call c) (hc : c.callee = .value (.tmp d)) (ha : c.args = #[x]) (hl : lk i L = .cust y)
    (h : ∀ R, SYield P l [s] [.cust y, .cust R] fun r H' => ∃ y', H' = [.cust y', .cust R] ∧ Φ r y') (k : ∀ r y', Φ r y' → K r (setK i (.cust y') L) nx) : Fgn P o [.val (.func (.yield l) #[] #[]), s] L nx K := ⟨fun w F ev hs hv => by
  have ops : o.op.operands.toList = [.tmp d, x] := by rw [ho]; simp [Op.operands, Call.operands, hc, ha]
  rw [ops] at hv
  obtain ⟨hy, hx, _⟩ := hv
  have hy' : ev (.tmp d) = .func (.yield l) #[] #[] := hy
  obtain ⟨fn, tmps, assign, body, hr, hR⟩ := (SYield.turn h hl).h w F [ev x] hs ⟨hx, trivial⟩
  refine StepV.round (w' := w) (l := l) (f := fn) (tmps := tmps) (assign := assign) (body := body) ?_ (RoundIn.mono hR ?_)
  · unfold execOp
    rw [ho]
    simp only [resolve, hc, ha, hy', Deferred.ofValue, Sem.run_bind]
    simpa [invoke, callFunc, program, Sem.run] using hr
  · rintro e w' ⟨v, rfl, r, F', H', ⟨y', rfl, hΦ⟩, hk, hF, hs', hr⟩
    exact ⟨v, rfl, r, _, nx, F', ⟨fun k g t n f hk hl2 => BoxKeep.setK (fun _ _ _ _ e => by rw [hl] at e; cases e) k g t n f hk hl2, Nat.le_refl _, k r y' hΦ⟩, hk, hF, hs', hr⟩⟩

/-- an iterator: what it hands to yield, round after round -/
structure SIter (P : Program) (f : FuncId) (lbs : List SV) (A : List Hp) (N : Nat) (xs : Nat → SV) : Prop where
  h : ∀ (l : Nat) (J : Nat → Heaplet → Prop) (Jx : Heaplet → Prop), (∀ k y R, k < N → J k y → SYield P l [xs k] [.cust y, .cust R] fun r H' => ∃ y', H' = [.cust y', .cust R] ∧ ((r = .val (.bool true) ∧ J (k + 1) y') ∨ (r = .val (.bool false) ∧ Jx y'))) →
    ∀ y, J 0 y → ∀ R, SCalls P f (.val (.func (.yield l) #[] #[]) :: lbs) (A ++ [.cust y, .cust R]) fun _ H' => ∃ A' y', H' = A' ++ [.cust y', .cust R] ∧ (J N y' ∨ Jx y')

/-! ### code in the frame of a function that ranges -/
structure HT0 (P : Program) (n : Nat) (c : Code) (ds : List Deferred) (Q : Exit → St → List Deferred → Prop) (s : St) : Prop where
  h : ∀ a w F, Sat n ds s F a w → c.wpIn (Fw none) 0 P (fun e a' w' => ∃ s' F' ds', Q e s' ds' ∧ Sat n ds' s' F' a' w' ∧ Keep F w w' ∧ ∀ b, F b → F' b) a w
section
variable {P : Program} {n : Nat} {ds : List Deferred} {Q : Exit → St → List Deferred → Prop} {s : St}
theorem HT0.of {c : Code} (h : HT P n c (fun e s' => Q e s' ds) s) : HT0 P n c ds Q s :=
  ⟨fun a w F hs => Code.wpIn_mono (fun e a' w' ⟨s', F', h1, h2⟩ => ⟨s', F', ds, h1, h2⟩) (h.h none ds a w F hs)⟩
def Q0seq (P : Program) (n : Nat) (c : Code) (Q : Exit → St → List Deferred → Prop) : Exit → St → List Deferred → Prop
  | .normal, s, ds => HT0 P n c ds Q s
  | e, s, ds => Q e s ds
theorem HT0.seq {x y : Code} (h : HT0 P n x ds (Q0seq P n y Q) s) : HT0 P n (.seq x y) ds Q s :=
  ⟨fun a w F hs => wpIn_seq (Code.wpIn_mono (fun e a' w' hq => by
    obtain ⟨s', F', ds', hq, hs', hk, hF⟩ := hq
    cases e
    case normal =>
      refine Code.wpIn_mono (fun e a2 w2 hq2 => ?_) (hq.h a' w' F' hs')
      obtain ⟨s2, F2, ds2, q1, q2, q3, q4⟩ := hq2
      exact ⟨s2, F2, ds2, q1, q2, hk.trans q3 hF, fun b hb => q4 b (hF b hb)⟩
    all_goals exact ⟨s', F', ds', hq, hs', hk, hF⟩) (h.h a w F hs))⟩
theorem HT0.cond {c : Operand} {x y : Code} (h : sCond (sv s.σ c) (HT0 P n x ds Q s) (HT0 P n y ds Q s)) : HT0 P n (.cond c x y) ds Q s :=
  ⟨fun a w F hs => by
    unfold sCond at h
    split at h
    · rename_i β hβ
      have hc := sv_has hs.fr c
      rw [hβ] at hc
      cases β
      · exact wpIn_cond_false hc ((h.f rfl).h a w F hs)
      · exact wpIn_cond_true hc ((h.t rfl).h a w F hs)
    · exact h.elim⟩
def Q0blk (id : Nat) (Q : Exit → St → List Deferred → Prop) : Exit → St → List Deferred → Prop
  | .exit id', s, ds => bif Nat.beq id' id then Q .normal s ds else Q (.exit id') s ds
  | e, s, ds => Q e s ds
theorem HT0.block {id : Nat} {c : Code} (h : HT0 P n c ds (Q0blk id Q) s) : HT0 P n (.block id c) ds Q s :=
  ⟨fun a w F hs => wpIn_block (Code.wpIn_mono (fun e a' w' hq => by
    obtain ⟨s', F', ds', hq, rest⟩ := hq
    cases e
    case exit id' =>
      simp only [Q0blk] at hq
      simp only [Exit.inBlock]
      by_cases e : id' = id
      · subst e
        rw [if_pos rfl]
        rw [Nat.beq_refl, cond_true] at hq
        exact ⟨s', F', ds', hq, rest⟩
      · rw [if_neg e]
        have e1 : Nat.beq id' id = false := by rw [Bool.eq_false_iff]; intro hb; exact e (Nat.eq_of_beq_eq_true hb)
        rw [e1, cond_false] at hq
        exact ⟨s', F', ds', hq, rest⟩
    all_goals exact ⟨s', F', ds', hq, rest⟩) (h.h a w F hs))⟩
end
/-- what a round leaves: the record stands in front -/
structure RndL (J : Hpl → Prop) (R : Heaplet) (L : Hpl) : Prop where
  h : ∃ L1, HLe L ((790, .cust R) :: L1) ∧ J L1
def Qrnd (J Jr : Hpl → Prop) (R : Heaplet) : Exit → St → Prop
  | .normal, s => RndL J R s.L
  | .ret, s => RndL Jr R s.L
  | _, _ => False
/-- behind the assignment of a round: the body, the record having turned -/
structure AsgL (P : Program) (n : Nat) (body : Code) (J Jr : Hpl → Prop) (R : Heaplet) (s : St) : Prop where
  h : ∃ L1, s.L = (790, .cust R) :: L1 ∧ ∀ R', HT P n body (Qrnd J Jr R') ⟨s.σ, (790, .cust R') :: L1, s.nx⟩
def Qasg (P : Program) (n : Nat) (body : Code) (J Jr : Hpl → Prop) (R : Heaplet) : Exit → St → Prop
  | .normal, s => AsgL P n body J Jr R s
  | _, _ => False
def markD (D : Nat) : List Deferred := [{ target := .collected D, args := #[] }]

set_option maxHeartbeats 1000000 in
/-- one round, out of the walk of its code -/
theorem round_y {P : Program} {n : Nat} {σ : Fr} {a : Act} {l p : Nat} {assign body : Code} {fn : FuncId} {D : Nat} (rec : LoopState → Option Code → Loop) (hrec : rec = fun st pe => { state := st, pending := pe, fn, tmps := a.tmps, params := #[p], assign, body, defers := D })
    (hn : a.tmps.size = n) (hpn : p < n) {J Jr : Hpl → Prop} {x : SV} {L1 : Hpl} {nx1 : Nat} (h : ∀ R, HT P n assign (Qasg P n body J Jr R) ⟨upd σ p x, (790, .cust R) :: L1, nx1⟩) (R : Heaplet) :
    SYield P l [x] [.cust (yH σ a l (rec .ready none) (L1.map Prod.snd)), .cust R] fun r H' => ∃ y', H' = [.cust y', .cust R] ∧ ((r = .val (.bool true) ∧ ∃ L2, J L2 ∧ y' = yH σ a l (rec .ready none) (L2.map Prod.snd)) ∨ (r = .val (.bool false) ∧ ∃ L2, Jr L2 ∧ y' = yH σ a l (rec .done (some .ret)) (L2.map Prod.snd))) := ⟨fun w F vs hs hv => by
  match vs, hv with
  | [v], ⟨hx, _⟩ =>
  have hs1 := yH_swap hs
  have hh : (yH σ a l (rec .ready none) (L1.map Prod.snd)).holds w F := hs.holds _ List.mem_cons_self
  have hl := hh.1
  have hy := run_yield (P := P) (args := #[v]) hl (by rw [hrec]; rfl)
  rw [hrec] at hy
  have ht : (Array.zip #[p] #[v]).foldl (fun tmps (t, a) => tmps.setIfInBounds t a) a.tmps = a.tmps.setIfInBounds p v := by first | rfl | simp
  simp only at hy
  rw [ht] at hy
  refine ⟨fn, _, assign, body, hy, roundIn_of_wpIn trivial ?_⟩
  have sat : Sat n [] ⟨upd σ p x, (790, .cust (yH σ a l (rec .ready none) [.cust R])) :: L1, nx1⟩ F { tmps := a.tmps.setIfInBounds p v, defers := [] } w :=
    ⟨by simpa using hn, rfl, put_has (a := a) (by omega) hh.2.1 hx, hs1⟩
  refine wpIn_mono ((h _).h (some l) [] _ w F sat) ?_
  rintro e a1 w1 ⟨s1, F1, hq1, hs1', hk1, hF1⟩
  cases e
  case normal =>
    obtain ⟨L2, hL2, hb⟩ := hq1.h
    obtain ⟨σ1, Lx, nx2⟩ := s1
    dsimp only at hL2 hb
    subst hL2
    have hsat1 : HSat w1 F1 (.cust (yH σ a l (rec .ready none) [.cust R]) :: L2.map Prod.snd) := hs1'.heap
    have hh1 : (yH σ a l (rec .ready none) [.cust R]).holds w1 F1 := hsat1.holds _ List.mem_cons_self
    have hnF1 : ¬ F1 l := (hsat1.fp _ List.mem_cons_self l (.inl rfl)).2
    have hbr := run_beginRound (P := P) hh1.1 (by rw [hrec])
    have ebusy : ({ rec .ready none with state := .busy } : Loop) = rec .busy none := by rw [hrec]
    rw [ebusy] at hbr
    refine ⟨_, hbr, ?_⟩
    have hsat2 := yH_put (rec .busy none) hsat1
    have hk2 : Keep F1 w1 (w1.putObj l (.loop (rec .busy none))) := Keep.putObj _ hnF1
    refine wpIn_mono ((hb (yH σ a l (rec .busy none) [.cust R])).h (some l) [] a1 _ F1 ⟨hs1'.size, hs1'.defers, fun k => hk2.has (hs1'.fr k), hsat2⟩) ?_
    rintro e2 a2 w2 ⟨s2, F2, hq2, hs2, hk3, hF2⟩
    have fin : ∀ (jump : Option Code) (J' : Hpl → Prop), RndL J' (yH σ a l (rec .busy none) [.cust R]) s2.L →
        ∃ L3 F3, J' L3 ∧ (∀ b, F2 b → F3 b) ∧ (Instr.endRound l jump).run P w2 = .ok (.bool jump.isNone) (w2.putObj l (.loop (rec (if jump.isNone then .ready else .done) jump))) ∧
          HSat (w2.putObj l (.loop (rec (if jump.isNone then .ready else .done) jump))) F3 [.cust (yH σ a l (rec (if jump.isNone then .ready else .done) jump) (L3.map Prod.snd)), .cust R] ∧ Keep F w (w2.putObj l (.loop (rec (if jump.isNone then .ready else .done) jump))) ∧ ∀ b, F b → F3 b := fun jump J' hr => by
      obtain ⟨L3, hle, hJ⟩ := hr.h
      obtain ⟨F3, hF3, hsat3⟩ := hle w2 F2 hs2.heap
      have hsat3' : HSat w2 F3 (.cust (yH σ a l (rec .busy none) [.cust R]) :: L3.map Prod.snd) := hsat3
      have hh3 : (yH σ a l (rec .busy none) [.cust R]).holds w2 F3 := hsat3'.holds _ List.mem_cons_self
      have hnF3 : ¬ F3 l := (hsat3'.fp _ List.mem_cons_self l (.inl rfl)).2
      have her := run_endRound (P := P) jump hh3.1
      have eend : ({ rec .busy none with state := if jump.isNone then .ready else .done, pending := jump } : Loop) = rec (if jump.isNone then .ready else .done) jump := by rw [hrec]
      rw [eend] at her
      refine ⟨L3, F3, hJ, hF3, her, yH_swap (yH_put _ hsat3'), ?_, fun b hb => hF3 b (hF2 b (hF1 b hb))⟩
      have hkp : Keep F3 w2 (w2.putObj l (.loop (rec (if jump.isNone then .ready else .done) jump))) := Keep.putObj _ hnF3
      exact hk1.trans (hk2.trans (hk3.trans (hkp.mono hF3) hF2) fun _ h => h) hF1
    cases e2
    case normal =>
      obtain ⟨L3, F3, hJ, hF3, her, hsat, hkp, hFF⟩ := fin none J hq2
      exact ⟨_, _, her, _, rfl, .val (.bool true), F3, _, ⟨_, rfl, .inl ⟨rfl, L3, hJ, rfl⟩⟩, hkp, hFF, hsat, rfl⟩
    case ret =>
      obtain ⟨L3, F3, hJ, hF3, her, hsat, hkp, hFF⟩ := fin (some .ret) Jr hq2
      exact ⟨_, _, her, _, rfl, .val (.bool false), F3, _, ⟨_, rfl, .inr ⟨rfl, L3, hJ, rfl⟩⟩, hkp, hFF, hsat, rfl⟩
    all_goals exact hq2.elim
  all_goals exact hq1.elim⟩

set_option maxHeartbeats 1000000 in
/-- THE STATEMENT -/
theorem HT0.rangeFunc {P : Program} {n : Nat} {g : Operand} {p : Tmp} {assign body : Code} {Q : Exit → St → List Deferred → Prop} {s : St} {gf : FuncId} {m : Nat} {caps : Nat → SV} (hg : sv s.σ g = .fn gf m caps)
    {A : List Hp} {Lc : Hpl} (hp : (s.L.map Prod.snd).Perm (A ++ Lc.map Prod.snd)) {N : Nat} {xs : Nat → SV} (hit : SIter P gf (tabF (fun k => (caps k).bare) m 0) A N xs) (hpn : p < n)
    (J : Nat → Hpl → Prop) (Jr : Hpl → Prop) (hJ0 : J 0 Lc) (nx1 : Nat)
    (hround : ∀ k L1 R, k < N → J k L1 → HT P n assign (Qasg P n body (J (k + 1)) Jr R) ⟨upd s.σ p (xs k), (790, .cust R) :: L1, nx1⟩)
    (hdone : ∀ L1 D, J N L1 → Q .normal ⟨s.σ, (799, .cust (dfrH D)) :: L1, nx1⟩ (markD D))
    (hret : ∀ L1 D, Jr L1 → Q .ret ⟨s.σ, (799, .cust (dfrH D)) :: L1, nx1⟩ (markD D)) : HT0 P n (.rangeFunc g #[p] assign body) [] Q s := ⟨fun a w F hs => by
  refine wpIn_rangeFunc fun fn _ => ?_
  obtain ⟨rec, hrec⟩ : ∃ rec : LoopState → Option Code → Loop, rec = fun st pe => { state := st, pending := pe, fn, tmps := a.tmps, params := #[p], assign, body, defers := w.heap.size } := ⟨_, rfl⟩
  obtain ⟨W1, hW1⟩ : ∃ W1, (w.alloc (.deferred (some []))).alloc (.loop (rec .ready none)) = W1 := ⟨_, rfl⟩
  obtain ⟨vs, hvs, hvn, hvc⟩ : Has w F (.fn gf m caps) (a.eval g) := hg ▸ sv_has hs.fr g
  have hbelow : ∀ b, b < w.heap.size → W1.heap[b]? = w.heap[b]? := fun b hb => by
    rw [← hW1]
    exact (Below.heap_alloc _ _ b (by simp; omega)).trans (Below.heap_alloc w _ b hb)
  have hsz : W1.heap.size = w.heap.size + 2 := by rw [← hW1]; simp
  have hL1 : W1.heap[w.heap.size + 1]? = some (.loop (rec .ready none)) := by
    rw [← hW1]; have := World.alloc_heap_new (w.alloc (.deferred (some []))) (.loop (rec .ready none)); rwa [World.size_alloc] at this
  have hD1 : W1.heap[w.heap.size]? = some (.deferred (some [])) := by
    rw [← hW1]; exact (Below.heap_alloc _ _ _ (by simp)).trans (World.alloc_heap_new w _)
  have hkW : Keep F w W1 := ⟨by rw [← hW1]; rfl, by rw [← hW1]; rfl, by rw [← hW1]; rfl, by omega, fun b hb => hbelow b (hs.heap.lt b hb), by rw [← hW1]; exact Nat.le_refl _⟩
  have hs0 := (hs.heap.perm hp)
  -- the new blocks
  have hsD : HSat W1 F (.cust (dfrH w.heap.size) :: (A ++ Lc.map Prod.snd)) := hs0.cons (by omega) (fun b hb => hbelow b hb) hD1 fun b hb => by
    have : b = w.heap.size := hb
    omega
  have hsY : HSat W1 F (.cust (yH s.σ a (w.heap.size + 1) (rec .ready none) []) :: (.cust (dfrH w.heap.size) :: (A ++ Lc.map Prod.snd))) := by
    have hfr : FrHas W1 F s.σ a := fun k => hkW.has (hs.fr k)
    refine ⟨fun x hx => ?_, fun x hx b hb => ?_, List.pairwise_cons.2 ⟨fun y hy b hb hby => ?_, hsD.apart⟩, hsD.lt⟩
    · rcases List.mem_cons.1 hx with rfl | hx
      · exact ⟨hL1, hfr, ⟨fun _ h => (by cases h), List.Pairwise.nil⟩, fun ⟨x, hx, _⟩ => by cases hx⟩
      · exact hsD.holds x hx
    · rcases List.mem_cons.1 hx with rfl | hx
      · rcases hb with rfl | ⟨x, hx, _⟩
        · exact ⟨by omega, fun hF => by have := hs.heap.lt _ hF; omega⟩
        · cases hx
      · exact hsD.fp x hx b hb
    · rcases hb with rfl | ⟨x, hx, _⟩
      · rcases List.mem_cons.1 hy with rfl | hy
        · have : w.heap.size + 1 = w.heap.size := hby
          omega
        · have := (hs0.fp y hy _ hby).1
          omega
      · cases hx
  have hsA : HSat W1 F (A ++ [.cust (yH s.σ a (w.heap.size + 1) (rec .ready none) (Lc.map Prod.snd)), .cust (dfrH w.heap.size)]) := by
    have h1 : HSat W1 F (.cust (yH s.σ a (w.heap.size + 1) (rec .ready none) []) :: (Lc.map Prod.snd ++ (.cust (dfrH w.heap.size) :: A))) :=
      hsY.perm (List.Perm.cons _ ((List.Perm.cons _ List.perm_append_comm).trans (List.perm_middle.symm)))
    refine (yH_close h1).perm ?_
    exact (List.perm_append_comm (l₁ := [Hp.cust (yH s.σ a (w.heap.size + 1) (rec .ready none) (Lc.map Prod.snd)), .cust (dfrH w.heap.size)]) (l₂ := A))
  have hcap : ∀ (q i : Nat), i + q ≤ m → HasL W1 F (tabF (fun k => (caps k).bare) q i) ((vs.toList.drop i).take q) := by
    intro q
    induction q with
    | zero => intro i _; simp [tabF, HasL]
    | succ q ih =>
      intro i hi
      have hlt : i < vs.toList.length := by simp; omega
      rw [List.drop_eq_getElem_cons hlt, List.take_succ_cons]
      refine ⟨?_, ih (i + 1) (by omega)⟩
      have := hkW.has (hvc i (by omega)).bare
      simpa [Array.getD, show i < vs.size by omega] using this
  have hc0 := hcap m 0 (by omega)
  rw [List.drop_zero, List.take_of_length_le (by simp; omega)] at hc0
  have hcall := hit.h (w.heap.size + 1) (fun k y => ∃ L1, J k L1 ∧ y = yH s.σ a (w.heap.size + 1) (rec .ready none) (L1.map Prod.snd)) (fun y => ∃ L1, Jr L1 ∧ y = yH s.σ a (w.heap.size + 1) (rec .done (some .ret)) (L1.map Prod.snd))
    (fun k y R hk ⟨L1, hJ, e⟩ => by subst e; exact round_y rec hrec hs.size hpn (hround k L1 · hk hJ) R) _ ⟨Lc, hJ0, rfl⟩ (dfrH w.heap.size)
  obtain ⟨⟨fnc, hfn, hnm, hb⟩, hcalls⟩ := hcall
  have hargs : HasL W1 F (.val (.func (.yield (w.heap.size + 1)) #[] #[]) :: tabF (fun k => (caps k).bare) m 0) (.func (.yield (w.heap.size + 1)) #[] #[] :: vs.toList) := ⟨rfl, hc0⟩
  have hcl := hcalls W1 F _ hsA hargs
  refine ⟨w.heap.size + 1, markD w.heap.size, W1, { target := .fn (.func gf) vs, args := #[.func (.yield (w.heap.size + 1)) #[] #[]] }, W1, gf, (.func (.yield (w.heap.size + 1)) #[] #[] :: vs.toList).toArray, W1, ?_, ?_, fun _ _ => trivial, ?_, fun hh => by simp [Fw, Fence.wide] at hh, ?_⟩
  · rw [← hW1, hrec]; exact run_enterLoop_outer _ _ _ _ _
  · simp only [resolve, hvs]
    simp [go_sem]
  · have h1 : ¬ fnc.name = "runtime.NumGoroutine" := by simpa using hnm
    have h2 : ¬ fnc.body = none := by intro e; rw [e] at hb; cases hb
    simp [invoke, callFunc, program, Sem.run, hfn, h1, h2]
  · refine calls_fw (hcl.mono ?_)
    rintro e w2 ⟨v, rfl, r, F2, H2, ⟨A', y', rfl, hJ⟩, hk2, hF2, hs2, _⟩
    have hs3 := hs2.dropN
    have key : ∀ (pe : Option Code) (st : LoopState) (L1 : Hpl), st ≠ .busy → y' = yH s.σ a (w.heap.size + 1) (rec st pe) (L1.map Prod.snd) →
        ∃ w3, (Instr.endLoop (w.heap.size + 1)).run P w2 = .ok pe w3 ∧ Sat n (markD w.heap.size) ⟨s.σ, (799, .cust (dfrH w.heap.size)) :: L1, nx1⟩ F2 { a with defers := markD w.heap.size ++ a.defers } w3 ∧ Keep F w w3 ∧ ∀ b, F b → F2 b := fun pe st L1 hst e => by
      subst e
      have hh : (yH s.σ a (w.heap.size + 1) (rec st pe) (L1.map Prod.snd)).holds w2 F2 := hs3.holds _ List.mem_cons_self
      have hnF : ¬ F2 (w.heap.size + 1) := (hs3.fp _ List.mem_cons_self _ (.inl rfl)).2
      have her := run_endLoop (P := P) hh.1 (by rw [hrec]; exact hst)
      have epe : (rec st pe).pending = pe := by rw [hrec]
      rw [epe] at her
      have hs4 := yH_swap (yH_put { rec st pe with state := .exhausted, pending := pe } hs3)
      refine ⟨_, her, ⟨hs.size, by show markD w.heap.size ++ a.defers = _; rw [hs.defers]; rfl, ?_, ?_⟩, (hkW.trans hk2 fun _ h => h).trans (Keep.putObj _ hnF) hF2, hF2⟩
      · exact fun k => (Keep.putObj _ hnF).has (hh.2.1 k)
      · exact (yH_open hs4).tail
    rcases hJ with ⟨L1, hJ, e⟩ | ⟨L1, hJ, e⟩
    · obtain ⟨w3, h1, h2, h3, h4⟩ := key none .ready L1 (by simp) e
      exact ⟨none, w3, h1, _, F2, _, hdone L1 _ hJ, h2, h3, h4⟩
    · obtain ⟨w3, h1, h2, h3, h4⟩ := key (some .ret) .done L1 (by simp) e
      exact ⟨some .ret, w3, h1, wpIn_ret ⟨_, F2, _, hret L1 _ hJ, h2, h3, h4⟩⟩⟩

/-! ### a function that ranges -/
/-- the end of a body behind a loop over a function: the block of the deferred calls is shut, then the results -/
inductive Qmk (tt : List (Nat × TI)) (rs : List ResultVar) (K : SV → List Hp → Prop) (D : Nat) (e : Exit) (s : St) : Prop
  | mk (hl : lk 799 s.L = .cust (dfrH D)) (h : Qret tt rs K e ⟨s.σ, setK 799 .emp s.L, s.nx⟩)
def QretM (tt : List (Nat × TI)) (rs : List ResultVar) (K : SV → List Hp → Prop) (e : Exit) (s : St) (ds : List Deferred) : Prop :=
  match ds with
  | [] => Qret tt rs K e s
  | _ :: _ => ∃ D, ds = markD D ∧ Qmk tt rs K D e s
theorem HT0.last {P : Program} {tt : List (Nat × TI)} {n : Nat} {c : Code} {rs : List ResultVar} {K : SV → List Hp → Prop} {D : Nat} {s : St} (h : HT P n c (Qmk tt rs K D) s) : HT0 P n c (markD D) (QretM tt rs K) s :=
  HT0.of (h.mono fun _ _ hq => ⟨D, rfl, hq⟩)
theorem HT0.ret {P : Program} {n : Nat} {ds : List Deferred} {Q : Exit → St → List Deferred → Prop} {s : St} (h : Q .ret s ds) : HT0 P n .ret ds Q s :=
  ⟨fun _ _ F hs => wpIn_ret ⟨s, F, ds, h, hs, Keep.refl _ _, fun _ h => h⟩⟩
set_option maxHeartbeats 1000000 in
theorem SCalls.enterM {P : Program} {tt : List (Nat × TI)} (htt : TTok P tt) {f : FuncId} {fn : Func} {c : Code} (hfn : P.funcs[f]? = some fn) (hnm : (fn.name == "runtime.NumGoroutine") = false) (hb : fn.body = some c) {ss : List SV} {H : List Hp} {K : SV → List Hp → Prop} (L : Hpl) (hL : L.map Prod.snd = H) (σ : Fr)
    (hσ : ∀ w F v k, Has w F (ss.getD k (.val undef)) v → Has w F (σ k) v) (hn : ss.length ≤ fn.ntmps)
    (h : HT0 P fn.ntmps c [] (QretM tt fn.results.toList K) ⟨σ, L, 100⟩) : SCalls P f ss H K := by
  refine ⟨⟨fn, hfn, hnm, by rw [hb]; rfl⟩, fun w F vs hs hv => ?_⟩
  subst hL
  have hvl := hv.length
  refine (callsIn_wide (n := 0)).1 (callsIn_of_wp_marks (F := Fence.wide) hfn hb trivial (Code.wpIn_mono ?_ (h.h _ w F ⟨?_, rfl, fun k => ?_, hs⟩)))
  · rintro e a' w' ⟨s', F', ds', hq, hs', hk, hF⟩
    -- the results, read where the block is shut
    have key : ∀ (s2 : St) (w2 : World), FrHas w2 F' s2.σ a' → HSat w2 F' (s2.L.map Prod.snd) → Keep F w w2 → sRes tt s2.σ s2.L fn.results.toList [] (fun l => fc (resV l).norm fun r => fcH (s2.L.map Prod.snd) fun H => Fin r H K) → ∃ v, (results fn a'.tmps).run P w2 = .ok v w2 ∧ ∃ v', Ending.returned v = .returned v' ∧ ∃ r F' H', K r H' ∧ Keep F w w2 ∧ (∀ b, F b → F' b) ∧ HSat w2 F' H' ∧ Has w2 F' r v' := fun s2 w2 hfr hsat hk2 hq => by
      obtain ⟨l, rv, h1, h2, h3⟩ := sRes_run htt hsat hfr fn.results.toList [] _ [] hq trivial
      rw [fc_eq, fcH_eq] at h2
      obtain ⟨r', H', he, hK⟩ := h2.h
      have h3' : HasL w2 F' l rv := h3
      obtain ⟨F2, q1, q2, q3⟩ := he w2 F' _ hsat (has_resV h3').norm
      refine ⟨_, ?_, _, rfl, r', F2, H', hK, hk2, fun b hb => q1 b (hF b hb), q2, q3⟩
      unfold results
      rw [Array.mapM_eq_mapM_toList]
      simp only [map_eq_pure_bind, Sem.run_bind]
      have fin : ∀ x : Result (List Value), x = .ok rv w2 → ((x.andThen fun a w' => Sem.run P (pure a.toArray) w').andThen fun (a : Array Value) w' => Sem.run P (pure (if h : a.size = 1 then a[0] else Value.tuple a)) w') = .ok (if h : rv.toArray.size = 1 then rv.toArray[0] else .tuple rv.toArray) w2 := fun x hx => by
        rw [hx]
        simp only [Result.andThen_ok, Sem.run_pure]
      exact fin _ h1
    have all : ∀ e0 : Exit, (e0 = .ret ∨ e0 = .normal) → QretM tt fn.results.toList K e0 s' ds' → LeavesInM Fence.wide 0 P fn a'.tmps (fun e w' => ∃ v', e = Ending.returned v' ∧ ∃ r F' H', K r H' ∧ Keep F w w' ∧ (∀ b, F b → F' b) ∧ HSat w' F' H' ∧ Has w' F' r v') a'.defers .returning w' := fun e0 he0 hq => by
      rw [hs'.defers]
      cases ds' with
      | nil =>
        obtain ⟨v, h1, h2⟩ := key s' w' hs'.fr hs'.heap hk (by rcases he0 with rfl | rfl <;> exact hq)
        exact ⟨v, h1, h2⟩
      | cons d ds =>
        obtain ⟨D, hd, hq⟩ := hq
        rw [hd]
        obtain ⟨hl, hq⟩ := hq
        have h1 : HSat w' F' (.cust (dfrH D) :: offK 799 s'.L) := hs'.heap.lk hl (by simp)
        have hD : w'.heap[D]? = some (.deferred (some [])) := h1.holds _ List.mem_cons_self
        have hnF : ¬ F' D := (h1.fp _ List.mem_cons_self D rfl).2
        have hkp : Keep F' w' (w'.putObj D (.deferred none)) := Keep.putObj _ hnF
        have h2 : HSat (w'.putObj D (.deferred none)) F' (.emp :: offK 799 s'.L) :=
          h1.turn (by simp) (fun b _ hb => World.putObj_heap_other (by rintro rfl; exact hb rfl)) trivial fun b hb => hb.elim
        have h3 := HSat.setK hl (by simp) h2
        obtain ⟨v, q1, q2⟩ := key ⟨s'.σ, setK 799 .emp s'.L, s'.nx⟩ _ (fun k => hkp.has (hs'.fr k)) h3 (hk.trans hkp hF) (by rcases he0 with rfl | rfl <;> exact hq)
        exact ⟨by simp, .inl ⟨D, _, rfl, run_takeDeferred hD, v, q1, q2⟩⟩
    have none : ∀ e0, e0 ≠ .ret → e0 ≠ .normal → QretM tt fn.results.toList K e0 s' ds' → False := fun e0 h1 h2 hq => by
      have : Qret tt fn.results.toList K e0 = fun _ => False := by cases e0 <;> first | rfl | exact absurd rfl h1 | exact absurd rfl h2
      cases ds' with
      | nil => have hq : Qret tt fn.results.toList K e0 s' := hq; rw [this] at hq; exact hq
      | cons d ds => obtain ⟨D, hd, hl, hq⟩ := hq; rw [this] at hq; exact hq
    cases e with
    | normal => exact all _ (.inr rfl) hq
    | ret => exact all _ (.inl rfl) hq
    | exit => exact (none _ (by simp) (by simp) hq).elim
    | goto => exact (none _ (by simp) (by simp) hq).elim
    | panic => exact (none _ (by simp) (by simp) hq).elim
    | outgrown => exact (none _ (by simp) (by simp) hq).elim
  · have : vs.toArray.size = ss.length := by simpa using hvl.symm
    simp only [Array.size_append, Array.size_replicate, this]
    omega
  · refine hσ w F _ k ?_
    have := hv.get k
    have e : (vs.toArray ++ Array.replicate (fn.ntmps - vs.toArray.size) undef).getD k undef = vs.getD k undef := by
      rw [Array.getD_eq_getD_getElem?, List.getD_eq_getElem?_getD]
      by_cases hk : k < vs.length
      · rw [Array.getElem?_append_left (by simpa using hk)]
        simp
      · rw [Array.getElem?_append_right (by simpa using hk), List.getElem?_eq_none (by omega)]
        simp only [Array.getElem?_replicate]
        split <;> rfl
    rw [e]
    exact this
end Go.Proofs.Ytcagfmbboliohaa
/-! YtcagfmbboliohaaExI -/
set_option linter.all false
namespace Go.Proofs.Ytcagfmbboliohaa
open Go.RowKit

theorem eqIntS_c (l : List Int) (hl : l.length ≤ 9223372036854775800) : SRet Try.prog 14 [isl l, isl l] (· = .b true) := ⟨fun R => by
  refine SCalls.enter tt_ok Try.func14 (by kernel_rfl) rfl [(900, .cust R)] rfl (argF _) (fun w F v k h => h) (by simp) ?_
  repeat' (first | (with_reducible first | refine HT.seq ?_ | refine HT.block ?_ | refine Br.not ?_) | ((with_reducible first | refine HT.region tt_ok ?_ | refine HT.drawn tt_ok (by kernel_rfl) (by decide +kernel) ?_ | refine HT.drawnL tt_ok (by kernel_rfl) (by decide +kernel) ?_ | refine HT.cond ?_ | refine HT.ret ?_ | refine HT.skip ?_ | refine HT.exit ?_ | refine Br.tt ?_ | refine Br.ff ?_); conv => whnf) | ((with_reducible first | refine Br.dec (fun hc => ?_) (fun hc => ?_) | refine Br.eq (fun hc => ?_) (fun hc => ?_) | refine Br.ne (fun hc => ?_) (fun hc => ?_)) <;> (first | (exfalso; omega) | conv => whnf)) | ((with_reducible first | refine Br.ttE (by decide) ?_ | refine Br.ffE (by decide) ?_ | refine Br.mk (fun hc => ?_) (fun hc => ?_) | refine Chk.mk (by first | omega | with_reducible rfl | (refine ⟨rfl, ?_⟩; omega) | decide | exact ⟨rfl, by omega, by omega, rfl⟩ | exact ⟨by assumption, rfl, by omega, by omega⟩) ?_ | refine Ar.fit (by omega) ?_ | refine Eqv.shr1 ?_ | refine Ar.u64 (by omega) ?_) <;> conv => whnf) | (with_reducible exact trivial) | ((with_reducible refine And.intro ?_ ?_) <;> conv => whnf) | (intro gn; conv => whnf))
  refine HT.loopS [0, 1, 10] (fun k : Nat => [(5, .i k)]) (fun k : Nat => k ≤ l.length) (fun k : Nat => l.length - k) 0 (Nat.zero_le _) ⟨rfl, trivial⟩ ?_
  conv => whnf
  intro k hk
  repeat' (first | (with_reducible first | refine HT.seq ?_ | refine HT.block ?_ | refine Br.not ?_) | ((with_reducible first | refine HT.region tt_ok ?_ | refine HT.drawn tt_ok (by kernel_rfl) (by decide +kernel) ?_ | refine HT.drawnL tt_ok (by kernel_rfl) (by decide +kernel) ?_ | refine HT.cond ?_ | refine HT.ret ?_ | refine HT.skip ?_ | refine HT.exit ?_ | refine Br.tt ?_ | refine Br.ff ?_); conv => whnf) | ((with_reducible first | refine Br.dec (fun hc => ?_) (fun hc => ?_) | refine Br.eq (fun hc => ?_) (fun hc => ?_) | refine Br.ne (fun hc => ?_) (fun hc => ?_)) <;> (first | (exfalso; omega) | conv => whnf)) | ((with_reducible first | refine Br.ttE (by decide) ?_ | refine Br.ffE (by decide) ?_ | refine Br.mk (fun hc => ?_) (fun hc => ?_) | refine Chk.mk (by first | omega | with_reducible rfl | (refine ⟨rfl, ?_⟩; omega) | decide | exact ⟨rfl, by omega, by omega, rfl⟩ | exact ⟨by assumption, rfl, by omega, by omega⟩) ?_ | refine Ar.fit (by omega) ?_ | refine Eqv.shr1 ?_ | refine Ar.u64 (by omega) ?_) <;> conv => whnf) | (with_reducible exact trivial) | ((with_reducible refine And.intro ?_ ?_) <;> conv => whnf) | (intro gn; conv => whnf))
  · exact ⟨⟨k + 1, by omega, by omega, (by repeat' (first | exact trivial | refine ⟨rfl, ?_⟩)), ⟨sv_i (by omega), trivial⟩, (HLe.sub (by repeat (first | exact List.Sublist.refl _ | refine List.Sublist.cons_cons _ ?_ | refine List.Sublist.cons _ ?_)))⟩⟩
  · exact Fin.pureS (by repeat (first | exact List.Sublist.refl _ | refine List.Sublist.cons_cons _ ?_ | refine List.Sublist.cons _ ?_)) (rfl)⟩
end Go.Proofs.Ytcagfmbboliohaa
