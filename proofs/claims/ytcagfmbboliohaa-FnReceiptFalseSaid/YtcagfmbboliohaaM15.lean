/- Texts of this proof put together: Ro, RoL. -/
import Derived.Test.YtcagfmbboliohaaM01
import Derived.Test.YtcagfmbboliohaaM02
import Derived.Test.YtcagfmbboliohaaM03
import Derived.Test.YtcagfmbboliohaaM04
import Derived.Test.YtcagfmbboliohaaM05
import Derived.Test.YtcagfmbboliohaaM06
import Derived.Test.YtcagfmbboliohaaM07
import Derived.Test.YtcagfmbboliohaaM08
import Derived.Test.YtcagfmbboliohaaM09
import Derived.Test.YtcagfmbboliohaaM10
import Derived.Test.YtcagfmbboliohaaM11
import Derived.Test.YtcagfmbboliohaaM12
import Derived.Test.YtcagfmbboliohaaM13
import Derived.Test.YtcagfmbboliohaaM14
/-! YtcagfmbboliohaaRo -/
set_option linter.all false
namespace Go.Proofs.Ytcagfmbboliohaa
open Go.RowKit

theorem rck_iff {root size : Int} {x : Rc} {pf : List Int} : rck root size x pf = true ↔ rcOk x = true ∧ chk root size x.i (rcD x) pf = true := by
  unfold rck; rw [Bool.and_eq_true]
theorem rck_idx {root size : Int} {x : Rc} {pf : List Int} (h : rck root size x pf = true) : x.i < size := (chk_iff.1 (rck_iff.1 h).2).1.2.2
/-- a longer proof is not accepted -/
theorem rck_more {root size : Int} {x : Rc} {pf : List Int} (h : rck root size x pf = true) : rck root size x (pf ++ [0]) = false := by
  have h1 := (chk_iff.1 (rck_iff.1 h).2).2.2.2
  have h2 := climb_more (z := 0) _ _ _ _ _ _ h1
  cases e : rck root size x (pf ++ [0])
  · rfl
  · have h3 := (chk_iff.1 (rck_iff.1 e).2).2.2.2
    rw [h2] at h3
    injection h3 with h3
    injection h3 with _ h3
    cases h3
theorem rpf_nat {l : List Rc} {i : Nat} (hok : rcsOk l = true) (hi : i < l.length) : rpf l i = prf (lvs l) i := by
  rw [rpf_ok hok, mpf_ok (lvs_ok hok) (by rw [lvs_len]; exact hi)]
theorem rrt_root {l : List Rc} (hok : rcsOk l = true) : rrt l = rootL (lvs l) := by
  rw [rrt_ok hok]; exact if_pos (lvs_ok hok)
/-- a receipt's proof is accepted -/
theorem rck_own {l : List Rc} {i : Nat} (hok : rcsOk l = true) (hi : i < l.length) : rck (rrt l) l.length (l.getD i default) (rpf l i) = true := by
  have h16 := (rcsOk_iff.1 hok).1
  obtain ⟨hr, hri⟩ := (rcsOk_iff.1 hok).2 i hi
  obtain ⟨f, h1, h2, _⟩ := climb_prf _ (lvs l) i rfl (lvs_d hok) (by rw [lvs_len]; exact hi)
  refine rck_iff.2 ⟨hr, chk_iff.2 ⟨⟨by omega, by omega⟩, rcD_d hr, ?_, ?_⟩⟩
  · rw [rpf_nat hok hi]; exact prf_d _ _ _ rfl (lvs_d hok)
  · rw [hri, Int.toNat_natCast, Int.toNat_natCast, rpf_nat hok hi, rrt_root hok, ← h2, lvs_get hi, ← lvs_len (l := l)]
    exact h1 _
/-- another one with its proof is not -/
theorem rck_other {l : List Rc} {i : Nat} {x : Rc} (hok : rcsOk l = true) (hi : i < l.length) (hx : x.i = i) (hd : rcOk x = true → rcD x ≠ rcD (l.getD i default)) : rck (rrt l) l.length x (rpf l i) = false := by
  obtain ⟨hr, hri⟩ := (rcsOk_iff.1 hok).2 i hi
  obtain ⟨f, h1, h2, h3⟩ := climb_prf _ (lvs l) i rfl (lvs_d hok) (by rw [lvs_len]; exact hi)
  cases e : rck (rrt l) l.length x (rpf l i)
  · rfl
  · obtain ⟨hxo, hc⟩ := rck_iff.1 e
    have h4 := (chk_iff.1 hc).2.2.2
    rw [hx, Int.toNat_natCast, Int.toNat_natCast, rpf_nat hok hi, rrt_root hok, ← lvs_len (l := l), h1, ← h2, lvs_get hi] at h4
    injection h4 with h4
    injection h4 with h4
    exact absurd (h3 _ _ (rcD_d hxo) (rcD_d hr) h4) (hd hxo)
/-- another outcome, another digest: another receipt's digest -/
theorem rcD_flip {x : Rc} (h : rcOk x = true) : rcD ⟨x.i, !x.b, x.d⟩ ≠ rcD x := fun e => by
  have h2 : rcOk ⟨x.i, !x.b, x.d⟩ = true := h
  rw [rcD_ok h, rcD_ok h2] at e
  have := hp_inj1 (rcN_d h2) (rcN_d h) (rcOk_iff.1 h).2 e
  unfold rcN at this
  cases hb : x.b
  · rw [hb] at this; simp at this; omega
  · rw [hb] at this; simp at this; omega
theorem rcD_next {x : Rc} {t : Int} (h : rcOk x = true) (h0 : 0 ≤ t) (h1 : t < 989) (h2 : rcOk ⟨x.i, x.b, (x.d + 1 + t).tmod 991⟩ = true) : rcD ⟨x.i, x.b, (x.d + 1 + t).tmod 991⟩ ≠ rcD x := fun e => by
  rw [rcD_ok h, rcD_ok h2] at e
  have hd := (rcOk_iff.1 h).2
  have := hp_inj2 (rcN_d h2) (rcOk_iff.1 h2).2 hd e
  have e2 : (x.d + 1 + t).tmod 991 = (x.d + 1 + t) % 991 := Int.tmod_eq_emod_of_nonneg (by unfold isD at hd; omega)
  unfold isD at hd
  simp only at this
  rw [e2] at this
  omega
theorem sameInts_c (l : List Int) (hl : l.length ≤ 1000000) : SRet Try.prog 20 [isl l, isl l] (· = .b true) := ⟨fun R => by
  refine SCalls.enter tt_ok Try.func20 (by kernel_rfl) rfl [(900, .cust R)] rfl (argF _) (fun w F v k h => h) (by simp) ?_
  repeat' (first | (with_reducible first | refine HT.seq ?_ | refine HT.block ?_ | refine Br.not ?_) | ((with_reducible first | refine HT.region tt_ok ?_ | refine HT.drawn tt_ok (by kernel_rfl) (by decide +kernel) ?_ | refine HT.drawnL tt_ok (by kernel_rfl) (by decide +kernel) ?_ | refine HT.cond ?_ | refine HT.ret ?_ | refine HT.skip ?_ | refine HT.exit ?_ | refine Br.tt ?_ | refine Br.ff ?_); conv => whnf) | ((with_reducible first | refine Br.dec (fun hc => ?_) (fun hc => ?_) | refine Br.eq (fun hc => ?_) (fun hc => ?_) | refine Br.ne (fun hc => ?_) (fun hc => ?_)) <;> (first | (exfalso; omega) | conv => whnf)) | ((with_reducible first | refine Br.ttE (by decide) ?_ | refine Br.ffE (by decide) ?_ | refine Br.mk (fun hc => ?_) (fun hc => ?_) | refine Chk.mk (by first | omega | with_reducible rfl | (refine ⟨rfl, ?_⟩; omega) | decide | exact ⟨rfl, by omega, by omega, rfl⟩ | exact ⟨by assumption, rfl, by omega, by omega⟩) ?_ | refine Ar.fit (by omega) ?_ | refine Eqv.shr1 ?_ | refine Ar.u64 (by omega) ?_) <;> conv => whnf) | (with_reducible exact trivial) | ((with_reducible refine And.intro ?_ ?_) <;> conv => whnf) | (intro gn; conv => whnf))
  refine HT.loopS [0, 1, 10] (fun k : Nat => [(5, .i k)]) (fun k : Nat => k ≤ l.length) (fun k : Nat => l.length - k) 0 (Nat.zero_le _) ⟨rfl, trivial⟩ ?_
  conv => whnf
  intro k hk
  repeat' (first | (with_reducible first | refine HT.seq ?_ | refine HT.block ?_ | refine Br.not ?_) | ((with_reducible first | refine HT.region tt_ok ?_ | refine HT.drawn tt_ok (by kernel_rfl) (by decide +kernel) ?_ | refine HT.drawnL tt_ok (by kernel_rfl) (by decide +kernel) ?_ | refine HT.cond ?_ | refine HT.ret ?_ | refine HT.skip ?_ | refine HT.exit ?_ | refine Br.tt ?_ | refine Br.ff ?_); conv => whnf) | ((with_reducible first | refine Br.dec (fun hc => ?_) (fun hc => ?_) | refine Br.eq (fun hc => ?_) (fun hc => ?_) | refine Br.ne (fun hc => ?_) (fun hc => ?_)) <;> (first | (exfalso; omega) | conv => whnf)) | ((with_reducible first | refine Br.ttE (by decide) ?_ | refine Br.ffE (by decide) ?_ | refine Br.mk (fun hc => ?_) (fun hc => ?_) | refine Chk.mk (by first | omega | with_reducible rfl | (refine ⟨rfl, ?_⟩; omega) | decide | exact ⟨rfl, by omega, by omega, rfl⟩ | exact ⟨by assumption, rfl, by omega, by omega⟩) ?_ | refine Ar.fit (by omega) ?_ | refine Eqv.shr1 ?_ | refine Ar.u64 (by omega) ?_) <;> conv => whnf) | (with_reducible exact trivial) | ((with_reducible refine And.intro ?_ ?_) <;> conv => whnf) | (intro gn; conv => whnf))
  · exact ⟨⟨k + 1, by omega, by omega, (by repeat' (first | exact trivial | refine ⟨rfl, ?_⟩)), ⟨sv_i (by omega), trivial⟩, (HLe.sub (by repeat (first | exact List.Sublist.refl _ | refine List.Sublist.cons_cons _ ?_ | refine List.Sublist.cons _ ?_)))⟩⟩
  · exact Fin.pureS (by repeat (first | exact List.Sublist.refl _ | refine List.Sublist.cons_cons _ ?_ | refine List.Sublist.cons _ ?_)) (rfl)⟩
set_option maxHeartbeats 1000000 in
theorem DrawRC_c (zs : List Int) (hz : ∀ z ∈ zs, 0 ≤ z ∧ z ≤ 255) (hl : zs.length ≤ 2000000) : SRet Try.prog 7 [.sl 1 zs.length (rowF u8F zs)] (fun r => ∃ (root size : Int) (x : Rc) (pf : List Int), pf.length ≤ 20 ∧ r = .tup 4 (litF [.i root, .i size, rcV x, isl pf])) := ⟨fun R => by
  refine SCalls.enter tt_ok Try.func7 (by kernel_rfl) rfl [(900, .cust R)] rfl (argF _) (fun w F v k h => h) (by simp) ?_
  repeat' (first | (with_reducible first | refine HT.seq ?_ | refine HT.block ?_ | refine Br.not ?_) | ((with_reducible first | refine HT.region tt_ok ?_ | refine HT.drawn tt_ok (by kernel_rfl) (by decide +kernel) ?_ | refine HT.drawnL tt_ok (by kernel_rfl) (by decide +kernel) ?_ | refine HT.cond ?_ | refine HT.ret ?_ | refine HT.skip ?_ | refine HT.exit ?_ | refine Br.tt ?_ | refine Br.ff ?_); conv => whnf) | ((with_reducible first | refine Br.dec (fun hc => ?_) (fun hc => ?_) | refine Br.eq (fun hc => ?_) (fun hc => ?_) | refine Br.ne (fun hc => ?_) (fun hc => ?_)) <;> (first | (exfalso; omega) | conv => whnf)) | ((with_reducible first | refine Br.ttE (by decide) ?_ | refine Br.ffE (by decide) ?_ | refine Br.mk (fun hc => ?_) (fun hc => ?_) | refine Chk.mk (by first | omega | with_reducible rfl | (refine ⟨rfl, ?_⟩; omega) | decide | exact ⟨rfl, by omega, by omega, rfl⟩ | exact ⟨by assumption, rfl, by omega, by omega⟩) ?_ | refine Ar.fit (by omega) ?_ | refine Eqv.shr1 ?_ | refine Ar.u64 (by omega) ?_) <;> conv => whnf) | ((first | (refine CallN.new _ (l6Open_c zs hz hl) ?_; rintro r N ⟨g, rfl, rfl⟩) | (refine CallN.turn 101 _ _ rfl (l92Proof_c _ _ (by omega)) ?_; rintro r N p' ⟨rfl, ⟨l, x, pf, hll, hpf, rfl⟩, rfl⟩) | (refine CallN.turn 101 _ _ rfl (pick_c _ _ _ (by omega) (by omega)) ?_; rintro r N p' ⟨⟨kt, hkt0, hkt1, rfl⟩, rfl, rfl⟩) | (refine CallN.turn 101 _ _ rfl (l91Digest_c _ _ (by omega)) ?_; rintro r N p' ⟨⟨dd, hdd0, hdd1, rfl⟩, rfl, rfl⟩) | (refine CallN.ret1 (specRR_c l (by omega)) ?_)) <;> conv => whnf) | ((with_reducible refine Ar.wrap ?_); conv => whnf) | (with_reducible exact trivial) | ((with_reducible refine And.intro ?_ ?_) <;> conv => whnf) | (intro gn; conv => whnf))
  all_goals first | exact Fin.pureS (by repeat (first | exact List.Sublist.refl _ | refine List.Sublist.cons_cons _ ?_ | refine List.Sublist.cons _ ?_)) ⟨_, _, ⟨_, _, _⟩, pf, hpf, rfl⟩ | trace_state⟩

set_option maxHeartbeats 2000000 in
theorem FnReceiptCheck_c (zs : List Int) (hz : ∀ z ∈ zs, 0 ≤ z ∧ z ≤ 255) : SRet Try.prog 3 [.sl 1 zs.length (rowF u8F zs)] (· = .b true) := ⟨fun R => by
  refine SCalls.enter tt_ok Try.func3 (by kernel_rfl) rfl [(900, .cust R)] rfl (argF _) (fun w F v k h => h) (by simp) ?_
  repeat' (first | (with_reducible first | refine HT.seq ?_ | refine HT.block ?_ | refine Br.not ?_) | ((with_reducible first | refine HT.region tt_ok ?_ | refine HT.drawn tt_ok (by kernel_rfl) (by decide +kernel) ?_ | refine HT.drawnL tt_ok (by kernel_rfl) (by decide +kernel) ?_ | refine HT.cond ?_ | refine HT.ret ?_ | refine HT.skip ?_ | refine HT.exit ?_ | refine Br.tt ?_ | refine Br.ff ?_); conv => whnf) | ((with_reducible first | refine Br.dec (fun hc => ?_) (fun hc => ?_) | refine Br.eq (fun hc => ?_) (fun hc => ?_) | refine Br.ne (fun hc => ?_) (fun hc => ?_)) <;> (first | (exfalso; omega) | conv => whnf)) | ((with_reducible first | refine Br.ttE (by decide) ?_ | refine Br.ffE (by decide) ?_ | refine Br.mk (fun hc => ?_) (fun hc => ?_) | refine Chk.mk (by first | omega | with_reducible rfl | (refine ⟨rfl, ?_⟩; omega) | decide | exact ⟨rfl, by omega, by omega, rfl⟩ | exact ⟨by assumption, rfl, by omega, by omega⟩) ?_ | refine Ar.fit (by omega) ?_ | refine Eqv.shr1 ?_ | refine Ar.u64 (by omega) ?_) <;> conv => whnf) | (with_reducible exact trivial) | ((with_reducible refine And.intro ?_ ?_) <;> conv => whnf) | (intro gn; conv => whnf))
  · exact Fin.pureS (by repeat (first | exact List.Sublist.refl _ | refine List.Sublist.cons_cons _ ?_ | refine List.Sublist.cons _ ?_)) rfl
  refine CallN.ret _ (DrawRC_c zs hz (by omega)) ?_
  rintro r ⟨root, size, x, pf, hpf, rfl⟩
  conv => whnf
  have hI := implRC_c root size x pf (by omega)
  have hS := specRC_c root size x pf (by omega)
  cases hb : rck root size x pf
  · repeat' (first | (with_reducible first | refine HT.seq ?_ | refine HT.block ?_ | refine Br.not ?_) | ((with_reducible first | refine HT.region tt_ok ?_ | refine HT.drawn tt_ok (by kernel_rfl) (by decide +kernel) ?_ | refine HT.drawnL tt_ok (by kernel_rfl) (by decide +kernel) ?_ | refine HT.cond ?_ | refine HT.ret ?_ | refine HT.skip ?_ | refine HT.exit ?_ | refine Br.tt ?_ | refine Br.ff ?_); conv => whnf) | ((with_reducible first | refine Br.dec (fun hc => ?_) (fun hc => ?_) | refine Br.eq (fun hc => ?_) (fun hc => ?_) | refine Br.ne (fun hc => ?_) (fun hc => ?_)) <;> (first | (exfalso; omega) | conv => whnf)) | ((with_reducible first | refine Br.ttE (by decide) ?_ | refine Br.ffE (by decide) ?_ | refine Br.mk (fun hc => ?_) (fun hc => ?_) | refine Chk.mk (by first | omega | with_reducible rfl | (refine ⟨rfl, ?_⟩; omega) | decide | exact ⟨rfl, by omega, by omega, rfl⟩ | exact ⟨by assumption, rfl, by omega, by omega⟩) ?_ | refine Ar.fit (by omega) ?_ | refine Eqv.shr1 ?_ | refine Ar.u64 (by omega) ?_) <;> conv => whnf) | ((first | refine CallN.ret1 (hI.bf hb) ?_ | refine CallN.ret1 (hS.bf hb) ?_) <;> conv => whnf) | (with_reducible exact trivial) | ((with_reducible refine And.intro ?_ ?_) <;> conv => whnf) | (intro gn; conv => whnf))
    all_goals exact Fin.pureS (by repeat (first | exact List.Sublist.refl _ | refine List.Sublist.cons_cons _ ?_ | refine List.Sublist.cons _ ?_)) (by first | rfl | exact sv_b rfl | exact sv_b (by simp_all))
  have hx := rck_idx hb
  have hE := (implRC_c root size x (pf ++ [0]) (by rw [List.length_append]; simp; omega)).bf (rck_more hb)
  repeat' (first | (with_reducible first | refine HT.seq ?_ | refine HT.block ?_ | refine Br.not ?_) | ((with_reducible first | refine HT.region tt_ok ?_ | refine HT.drawn tt_ok (by kernel_rfl) (by decide +kernel) ?_ | refine HT.drawnL tt_ok (by kernel_rfl) (by decide +kernel) ?_ | refine HT.cond ?_ | refine HT.ret ?_ | refine HT.skip ?_ | refine HT.exit ?_ | refine Br.tt ?_ | refine Br.ff ?_); conv => whnf) | ((with_reducible first | refine Br.dec (fun hc => ?_) (fun hc => ?_) | refine Br.eq (fun hc => ?_) (fun hc => ?_) | refine Br.ne (fun hc => ?_) (fun hc => ?_)) <;> (first | (exfalso; omega) | conv => whnf)) | ((with_reducible first | refine Br.ttE (by decide) ?_ | refine Br.ffE (by decide) ?_ | refine Br.mk (fun hc => ?_) (fun hc => ?_) | refine Chk.mk (by first | omega | with_reducible rfl | (refine ⟨rfl, ?_⟩; omega) | decide | exact ⟨rfl, by omega, by omega, rfl⟩ | exact ⟨by assumption, rfl, by omega, by omega⟩) ?_ | refine Ar.fit (by omega) ?_ | refine Eqv.shr1 ?_ | refine Ar.u64 (by omega) ?_) <;> conv => whnf) | ((first | refine CallN.ret1 (hI.bt hb) ?_ | refine CallN.ret1 (hS.bt hb) ?_ | (refine CallN.retB1 (ss' := [.i root, .i size, rcV x, isl (pf ++ [0])]) hE ⟨Lends.refl _, Lends.refl _, Lends.refl _, Lends.rowA (by repeat (first | exact List.mem_cons_self | refine List.mem_cons_of_mem _ ?_)) (by simp) (fun i j hi hj => cat_app hi hj), trivial⟩ (by exact trivial) ?_)) <;> conv => whnf) | (with_reducible exact trivial) | ((with_reducible refine And.intro ?_ ?_) <;> conv => whnf) | (intro gn; conv => whnf))
  all_goals first | (exfalso; omega) | exact Fin.pureS (by repeat (first | exact List.Sublist.refl _ | refine List.Sublist.cons_cons _ ?_ | refine List.Sublist.cons _ ?_)) (by first | rfl | exact sv_b rfl | exact sv_b (by simp_all)) | trace_state
  ⟩
set_option maxHeartbeats 2000000 in
theorem FnReceiptProof_c (zs : List Int) (hz : ∀ z ∈ zs, 0 ≤ z ∧ z ≤ 255) : SRet Try.prog 5 [.sl 1 zs.length (rowF u8F zs)] (· = .b true) := ⟨fun R => by
  refine SCalls.enter tt_ok Try.func5 (by kernel_rfl) rfl [(900, .cust R)] rfl (argF _) (fun w F v k h => h) (by simp) ?_
  repeat' (first | (with_reducible first | refine HT.seq ?_ | refine HT.block ?_ | refine Br.not ?_) | ((with_reducible first | refine HT.region tt_ok ?_ | refine HT.drawn tt_ok (by kernel_rfl) (by decide +kernel) ?_ | refine HT.drawnL tt_ok (by kernel_rfl) (by decide +kernel) ?_ | refine HT.cond ?_ | refine HT.ret ?_ | refine HT.skip ?_ | refine HT.exit ?_ | refine Br.tt ?_ | refine Br.ff ?_); conv => whnf) | ((with_reducible first | refine Br.dec (fun hc => ?_) (fun hc => ?_) | refine Br.eq (fun hc => ?_) (fun hc => ?_) | refine Br.ne (fun hc => ?_) (fun hc => ?_)) <;> (first | (exfalso; omega) | conv => whnf)) | ((with_reducible first | refine Br.ttE (by decide) ?_ | refine Br.ffE (by decide) ?_ | refine Br.mk (fun hc => ?_) (fun hc => ?_) | refine Chk.mk (by first | omega | with_reducible rfl | (refine ⟨rfl, ?_⟩; omega) | decide | exact ⟨rfl, by omega, by omega, rfl⟩ | exact ⟨by assumption, rfl, by omega, by omega⟩) ?_ | refine Ar.fit (by omega) ?_ | refine Eqv.shr1 ?_ | refine Ar.u64 (by omega) ?_) <;> conv => whnf) | (with_reducible exact trivial) | ((with_reducible refine And.intro ?_ ?_) <;> conv => whnf) | (intro gn; conv => whnf))
  · exact Fin.pureS (by repeat (first | exact List.Sublist.refl _ | refine List.Sublist.cons_cons _ ?_ | refine List.Sublist.cons _ ?_)) rfl
  refine CallN.ret _ (DrawRP_c zs hz (by omega)) ?_
  rintro r ⟨l, i, hll, rfl⟩
  conv => whnf
  have hI := implRP_c l i (by omega)
  have hS := specRP_c l i (by omega)
  have hm := sameInts_c (rpf l i) (by have := rpf_len (l := l) (i := i); omega)
  have hR := implRR_c l (by omega)
  by_cases hok : rcsOk l = true ∧ 0 ≤ i ∧ i < l.length
  rotate_left
  · have hz : rcsOk l = true ∨ rrt l = -1 := by cases h : rcsOk l; exact .inr (rrt_bad h); exact .inl rfl
    have hz2 : rrt l = -1 ∨ ¬ (0 ≤ i ∧ i < l.length) := hz.elim (fun h => .inr fun h2 => hok ⟨h, h2⟩) .inl
    repeat' (first | (with_reducible first | refine HT.seq ?_ | refine HT.block ?_ | refine Br.not ?_) | ((with_reducible first | refine HT.region tt_ok ?_ | refine HT.drawn tt_ok (by kernel_rfl) (by decide +kernel) ?_ | refine HT.drawnL tt_ok (by kernel_rfl) (by decide +kernel) ?_ | refine HT.cond ?_ | refine HT.ret ?_ | refine HT.skip ?_ | refine HT.exit ?_ | refine Br.tt ?_ | refine Br.ff ?_); conv => whnf) | ((with_reducible first | refine Br.dec (fun hc => ?_) (fun hc => ?_) | refine Br.eq (fun hc => ?_) (fun hc => ?_) | refine Br.ne (fun hc => ?_) (fun hc => ?_)) <;> (first | (exfalso; omega) | conv => whnf)) | ((with_reducible first | refine Br.ttE (by decide) ?_ | refine Br.ffE (by decide) ?_ | refine Br.mk (fun hc => ?_) (fun hc => ?_) | refine Chk.mk (by first | omega | with_reducible rfl | (refine ⟨rfl, ?_⟩; omega) | decide | exact ⟨rfl, by omega, by omega, rfl⟩ | exact ⟨by assumption, rfl, by omega, by omega⟩) ?_ | refine Ar.fit (by omega) ?_ | refine Eqv.shr1 ?_ | refine Ar.u64 (by omega) ?_) <;> conv => whnf) | ((first | refine CallN.ret1 (hI) ?_ | refine CallN.ret1 (hS) ?_ | refine CallN.ret1 (hm) ?_ | refine CallN.ret1 (hR) ?_) <;> conv => whnf) | (with_reducible exact trivial) | ((with_reducible refine And.intro ?_ ?_) <;> conv => whnf) | (intro gn; conv => whnf))
    all_goals first | (exfalso; omega) | exact Fin.pureS (by repeat (first | exact List.Sublist.refl _ | refine List.Sublist.cons_cons _ ?_ | refine List.Sublist.cons _ ?_)) (by first | rfl | exact sv_b rfl | exact sv_b (by simp_all)) | trace_state
  obtain ⟨i0, rfl⟩ : ∃ i0 : Nat, i = i0 := ⟨i.toNat, by omega⟩
  have e1 : (i0 : Int).toNat = i0 := Int.toNat_natCast i0
  have hC := (implRC_c (rrt l) l.length (l.getD (i0 : Int).toNat default) (rpf l i0) (by have := rpf_len (l := l) (i := (i0 : Int)); omega)).bt (by rw [e1]; exact rck_own hok.1 (by omega))
  repeat' (first | (with_reducible first | refine HT.seq ?_ | refine HT.block ?_ | refine Br.not ?_) | ((with_reducible first | refine HT.region tt_ok ?_ | refine HT.drawn tt_ok (by kernel_rfl) (by decide +kernel) ?_ | refine HT.drawnL tt_ok (by kernel_rfl) (by decide +kernel) ?_ | refine HT.cond ?_ | refine HT.ret ?_ | refine HT.skip ?_ | refine HT.exit ?_ | refine Br.tt ?_ | refine Br.ff ?_); conv => whnf) | ((with_reducible first | refine Br.dec (fun hc => ?_) (fun hc => ?_) | refine Br.eq (fun hc => ?_) (fun hc => ?_) | refine Br.ne (fun hc => ?_) (fun hc => ?_)) <;> (first | (exfalso; omega) | conv => whnf)) | ((with_reducible first | refine Br.ttE (by decide) ?_ | refine Br.ffE (by decide) ?_ | refine Br.mk (fun hc => ?_) (fun hc => ?_) | refine Chk.mk (by first | omega | with_reducible rfl | (refine ⟨rfl, ?_⟩; omega) | decide | exact ⟨rfl, by omega, by omega, rfl⟩ | exact ⟨by assumption, rfl, by omega, by omega⟩) ?_ | refine Ar.fit (by omega) ?_ | refine Eqv.shr1 ?_ | refine Ar.u64 (by omega) ?_) <;> conv => whnf) | ((first | refine CallN.ret1 (hI) ?_ | refine CallN.ret1 (hS) ?_ | refine CallN.ret1 (hm) ?_ | refine CallN.ret1 (hR) ?_ | refine CallN.ret1 (hC) ?_) <;> conv => whnf) | (with_reducible exact trivial) | ((with_reducible refine And.intro ?_ ?_) <;> conv => whnf) | (intro gn; conv => whnf))
  all_goals first | (exfalso; omega) | exact Fin.pureS (by repeat (first | exact List.Sublist.refl _ | refine List.Sublist.cons_cons _ ?_ | refine List.Sublist.cons _ ?_)) (by first | rfl | exact sv_b rfl | exact sv_b (by simp_all)) | trace_state
  ⟩
set_option maxHeartbeats 2000000 in
theorem FnReceiptFalse_c (zs zm : List Int) (hz : ∀ z ∈ zs, 0 ≤ z ∧ z ≤ 255) (hzm : ∀ z ∈ zm, 0 ≤ z ∧ z ≤ 255) : SRet Try.prog 6 [.sl 1 zs.length (rowF u8F zs), .sl 1 zm.length (rowF u8F zm)] (· = .b true) := ⟨fun R => by
  refine SCalls.enter tt_ok Try.func6 (by kernel_rfl) rfl [(900, .cust R)] rfl (argF _) (fun w F v k h => h) (by simp) ?_
  repeat' (first | (with_reducible first | refine HT.seq ?_ | refine HT.block ?_ | refine Br.not ?_) | ((with_reducible first | refine HT.region tt_ok ?_ | refine HT.drawn tt_ok (by kernel_rfl) (by decide +kernel) ?_ | refine HT.drawnL tt_ok (by kernel_rfl) (by decide +kernel) ?_ | refine HT.cond ?_ | refine HT.ret ?_ | refine HT.skip ?_ | refine HT.exit ?_ | refine Br.tt ?_ | refine Br.ff ?_); conv => whnf) | ((with_reducible first | refine Br.dec (fun hc => ?_) (fun hc => ?_) | refine Br.eq (fun hc => ?_) (fun hc => ?_) | refine Br.ne (fun hc => ?_) (fun hc => ?_)) <;> (first | (exfalso; omega) | conv => whnf)) | ((with_reducible first | refine Br.ttE (by decide) ?_ | refine Br.ffE (by decide) ?_ | refine Br.mk (fun hc => ?_) (fun hc => ?_) | refine Chk.mk (by first | omega | with_reducible rfl | (refine ⟨rfl, ?_⟩; omega) | decide | exact ⟨rfl, by omega, by omega, rfl⟩ | exact ⟨by assumption, rfl, by omega, by omega⟩) ?_ | refine Ar.fit (by omega) ?_ | refine Eqv.shr1 ?_ | refine Ar.u64 (by omega) ?_) <;> conv => whnf) | (with_reducible exact trivial) | ((with_reducible refine And.intro ?_ ?_) <;> conv => whnf) | (intro gn; conv => whnf))
  · exact Fin.pureS (by repeat (first | exact List.Sublist.refl _ | refine List.Sublist.cons_cons _ ?_ | refine List.Sublist.cons _ ?_)) rfl
  · exact Fin.pureS (by repeat (first | exact List.Sublist.refl _ | refine List.Sublist.cons_cons _ ?_ | refine List.Sublist.cons _ ?_)) rfl
  refine CallN.ret _ (DrawRP_c zs hz (by omega)) ?_
  rintro r ⟨l, i, hll, rfl⟩
  conv => whnf
  have hI := implRP_c l i (by omega)
  have hS := specRP_c l i (by omega)
  have hm := sameInts_c (rpf l i) (by have := rpf_len (l := l) (i := i); omega)
  have hR := implRR_c l (by omega)
  have hR2 := specRR_c l (by omega)
  by_cases hok : rcsOk l = true ∧ 0 ≤ i ∧ i < l.length
  rotate_left
  · have hz : rcsOk l = true ∨ rrt l = -1 := by cases h : rcsOk l; exact .inr (rrt_bad h); exact .inl rfl
    have hz2 : rrt l = -1 ∨ ¬ (0 ≤ i ∧ i < l.length) := hz.elim (fun h => .inr fun h2 => hok ⟨h, h2⟩) .inl
    repeat' (first | (with_reducible first | refine HT.seq ?_ | refine HT.block ?_ | refine Br.not ?_) | ((with_reducible first | refine HT.region tt_ok ?_ | refine HT.drawn tt_ok (by kernel_rfl) (by decide +kernel) ?_ | refine HT.drawnL tt_ok (by kernel_rfl) (by decide +kernel) ?_ | refine HT.cond ?_ | refine HT.ret ?_ | refine HT.skip ?_ | refine HT.exit ?_ | refine Br.tt ?_ | refine Br.ff ?_); conv => whnf) | ((with_reducible first | refine Br.dec (fun hc => ?_) (fun hc => ?_) | refine Br.eq (fun hc => ?_) (fun hc => ?_) | refine Br.ne (fun hc => ?_) (fun hc => ?_)) <;> (first | (exfalso; omega) | conv => whnf)) | ((with_reducible first | refine Br.ttE (by decide) ?_ | refine Br.ffE (by decide) ?_ | refine Br.mk (fun hc => ?_) (fun hc => ?_) | refine Chk.mk (by first | omega | with_reducible rfl | (refine ⟨rfl, ?_⟩; omega) | decide | exact ⟨rfl, by omega, by omega, rfl⟩ | exact ⟨by assumption, rfl, by omega, by omega⟩) ?_ | refine Ar.fit (by omega) ?_ | refine Eqv.shr1 ?_ | refine Ar.u64 (by omega) ?_) <;> conv => whnf) | ((first | refine CallN.ret1 (hI) ?_ | refine CallN.ret1 (hS) ?_ | refine CallN.ret1 (hm) ?_ | refine CallN.ret1 (hR) ?_ | refine CallN.ret1 (hR2) ?_) <;> conv => whnf) | (with_reducible exact trivial) | ((with_reducible refine And.intro ?_ ?_) <;> conv => whnf) | (intro gn; conv => whnf))
    all_goals first | (exfalso; omega) | exact Fin.pureS (by repeat (first | exact List.Sublist.refl _ | refine List.Sublist.cons_cons _ ?_ | refine List.Sublist.cons _ ?_)) (by first | rfl | exact sv_b rfl | exact sv_b (by simp_all)) | trace_state
  obtain ⟨i0, rfl⟩ : ∃ i0 : Nat, i = i0 := ⟨i.toNat, by omega⟩
  have e1 : (i0 : Int).toNat = i0 := Int.toNat_natCast i0
  have hrl := rpf_len (l := l) (i := (i0 : Int))
  have hi0 : i0 < l.length := by omega
  obtain ⟨hr, hri⟩ := (rcsOk_iff.1 hok.1).2 i0 hi0
  have hrd := (rcOk_iff.1 hr).2
  have hT : 0 ≤ (zm.length : Int).tmod 989 ∧ (zm.length : Int).tmod 989 < 989 := by rw [Int.tmod_eq_emod_of_nonneg (by omega)]; omega
  have hC1 := (implRC_c (rrt l) l.length ⟨(l.getD (i0 : Int).toNat default).i, !(l.getD (i0 : Int).toNat default).b, (l.getD (i0 : Int).toNat default).d⟩ (rpf l i0) (by omega)).bf (by rw [e1]; exact rck_other hok.1 hi0 hri (fun _ => rcD_flip hr))
  have hC2 := (implRC_c (rrt l) l.length ⟨(l.getD (i0 : Int).toNat default).i, (l.getD (i0 : Int).toNat default).b, ((l.getD (i0 : Int).toNat default).d + 1 + (zm.length : Int).tmod 989).tmod 991⟩ (rpf l i0) (by omega)).bf (by rw [e1]; exact rck_other hok.1 hi0 hri (fun h => rcD_next hr hT.1 hT.2 h))
  rw [← e1] at hrd
  have hrd2 : 0 ≤ (l.getD (i0 : Int).toNat default).d ∧ (l.getD (i0 : Int).toNat default).d < 991 := by rw [e1]; rw [e1] at hrd; exact hrd
  repeat' (first | (with_reducible first | refine HT.seq ?_ | refine HT.block ?_ | refine Br.not ?_) | ((with_reducible first | refine HT.region tt_ok ?_ | refine HT.drawn tt_ok (by kernel_rfl) (by decide +kernel) ?_ | refine HT.drawnL tt_ok (by kernel_rfl) (by decide +kernel) ?_ | refine HT.cond ?_ | refine HT.ret ?_ | refine HT.skip ?_ | refine HT.exit ?_ | refine Br.tt ?_ | refine Br.ff ?_); conv => whnf) | ((with_reducible first | refine Br.dec (fun hc => ?_) (fun hc => ?_) | refine Br.eq (fun hc => ?_) (fun hc => ?_) | refine Br.ne (fun hc => ?_) (fun hc => ?_)) <;> (first | (exfalso; omega) | conv => whnf)) | ((with_reducible first | refine Br.ttE (by decide) ?_ | refine Br.ffE (by decide) ?_ | refine Br.mk (fun hc => ?_) (fun hc => ?_) | refine Chk.mk (by first | omega | with_reducible rfl | (refine ⟨rfl, ?_⟩; omega) | decide | exact ⟨rfl, by omega, by omega, rfl⟩ | exact ⟨by assumption, rfl, by omega, by omega⟩) ?_ | refine Ar.fit (by omega) ?_ | refine Eqv.shr1 ?_ | refine Ar.u64 (by omega) ?_) <;> conv => whnf) | ((first | refine CallN.ret1 (hI) ?_ | refine CallN.ret1 (hS) ?_ | refine CallN.ret1 (hm) ?_ | refine CallN.ret1 (hR) ?_ | refine CallN.ret1 (hR2) ?_ | refine CallN.ret1 (hC1) ?_ | refine CallN.ret1 (hC2) ?_) <;> conv => whnf) | (with_reducible exact trivial) | ((with_reducible refine And.intro ?_ ?_) <;> conv => whnf) | (intro gn; conv => whnf))
  all_goals first | (exfalso; omega) | exact Fin.pureS (by repeat (first | exact List.Sublist.refl _ | refine List.Sublist.cons_cons _ ?_ | refine List.Sublist.cons _ ?_)) (by first | rfl | exact sv_b rfl | exact sv_b (by simp_all)) | trace_state
  ⟩
end Go.Proofs.Ytcagfmbboliohaa
/-! YtcagfmbboliohaaRoL -/
set_option linter.all false
namespace Go.Proofs.Ytcagfmbboliohaa
open Go.RowKit Go.ChangeShapes Go.WideShapes

set_option maxRecDepth 100000 in
theorem fnReceiptCheck_holds : Rows.FnReceiptCheckSaid := by
  refine OpenClaim.holds_of_wide 3 Try.f3 rfl rfl rfl rfl rfl rfl rfl ⟨rfl, rfl, rfl, rfl, rfl⟩ rfl rfl rfl rfl rfl (by kernel_rfl) Try.func3 (by kernel_rfl)
    (of_decide_eq_true (by kernel_rfl)) (by unfold Func.isWrapper; rw [if_neg (of_decide_eq_false (by kernel_rfl))]; exact ⟨rfl, rfl⟩)
    (fun os started H enc _ => ?_)
  refine law_lifted (s := Rows.fnReceiptCheckSpec) started Try.func3 (by kernel_rfl) Try.underlying4 rfl (by kernel_rfl) rfl (fun ds hl => ?_)
    (ChangeSpec.witness6 (enc := enc) (C := Try.checked) false ⟨#[], #[.slice none 0 0], []⟩ 8 (by kernel_rfl) (by kernel_rfl) (by kernel_rfl) (by kernel_rfl)) ?_
  · match ds, hl with
    | [d0], _ => exact ⟨rfl, rfl, rfl⟩
  · intro W base args ds ps hval hA
    obtain ⟨v0, d0, rfl, rfl, h0⟩ := Go.ChangeShapes.trodAll_one hA
    obtain ⟨zs0, a0, b0⟩ := code_has Try.underlying22 Try.underlying5 (by kernel_rfl) (hval 0 _ v0 rfl rfl) h0
    exact law_calls (FnReceiptCheck_c zs0 b0) ⟨a0, trivial⟩
set_option maxRecDepth 100000 in
theorem fnReceiptProof_holds : Rows.FnReceiptProofSaid := by
  refine OpenClaim.holds_of_wide 5 Try.f5 rfl rfl rfl rfl rfl rfl rfl ⟨rfl, rfl, rfl, rfl, rfl⟩ rfl rfl rfl rfl rfl (by kernel_rfl) Try.func5 (by kernel_rfl)
    (of_decide_eq_true (by kernel_rfl)) (by unfold Func.isWrapper; rw [if_neg (of_decide_eq_false (by kernel_rfl))]; exact ⟨rfl, rfl⟩)
    (fun os started H enc _ => ?_)
  refine law_lifted (s := Rows.fnReceiptProofSpec) started Try.func5 (by kernel_rfl) Try.underlying4 rfl (by kernel_rfl) rfl (fun ds hl => ?_)
    (ChangeSpec.witness6 (enc := enc) (C := Try.checked) false ⟨#[], #[.slice none 0 0], []⟩ 8 (by kernel_rfl) (by kernel_rfl) (by kernel_rfl) (by kernel_rfl)) ?_
  · match ds, hl with
    | [d0], _ => exact ⟨rfl, rfl, rfl⟩
  · intro W base args ds ps hval hA
    obtain ⟨v0, d0, rfl, rfl, h0⟩ := Go.ChangeShapes.trodAll_one hA
    obtain ⟨zs0, a0, b0⟩ := code_has Try.underlying22 Try.underlying5 (by kernel_rfl) (hval 0 _ v0 rfl rfl) h0
    exact law_calls (FnReceiptProof_c zs0 b0) ⟨a0, trivial⟩
set_option maxRecDepth 100000 in
theorem fnReceiptFalse_holds : Rows.FnReceiptFalseSaid := by
  refine OpenClaim.holds_of_wide 6 Try.f6 rfl rfl rfl rfl rfl rfl rfl ⟨rfl, rfl, rfl, rfl, rfl⟩ rfl rfl rfl rfl rfl (by kernel_rfl) Try.func6 (by kernel_rfl)
    (of_decide_eq_true (by kernel_rfl)) (by unfold Func.isWrapper; rw [if_neg (of_decide_eq_false (by kernel_rfl))]; exact ⟨rfl, rfl⟩)
    (fun os started H enc _ => ?_)
  refine law_lifted (s := Rows.fnReceiptFalseSpec) started Try.func6 (by kernel_rfl) Try.underlying4 rfl (by kernel_rfl) rfl (fun ds hl => ?_)
    (ChangeSpec.witness6 (enc := enc) (C := Try.checked) false ⟨#[], #[.slice none 0 0, .slice none 0 0], []⟩ 8 (by kernel_rfl) (by kernel_rfl) (by kernel_rfl) (by kernel_rfl)) ?_
  · match ds, hl with
    | [d0, d1], _ => exact ⟨rfl, rfl, rfl⟩
  · intro W base args ds ps hval hA
    obtain ⟨v0, v1, d0, d1, p0, p1, rfl, rfl, rfl, h0, h1⟩ := Go.ChangeShapes.trodAll_two hA
    obtain ⟨zs0, a0, b0⟩ := code_has Try.underlying22 Try.underlying5 (by kernel_rfl) (hval 0 _ v0 rfl rfl) h0
    obtain ⟨zs1, a1, b1⟩ := code_has Try.underlying22 Try.underlying5 (by kernel_rfl) (hval 1 _ v1 rfl rfl) h1
    exact law_calls (FnReceiptFalse_c zs0 zs1 b0 b1) ⟨a0, a1, trivial⟩
end Go.Proofs.Ytcagfmbboliohaa
