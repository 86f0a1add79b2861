/- Laws of voters: a vote repeated, a second vote, the order of votes. -/
import Derived.Test.YtbcmpfhemangpaaVoH
set_option linter.all false
namespace Go.Proofs.Ytbcmpfhemangpaa
open Go.RowKit

theorem sg_parts {f : Int} {vs : List Vo} {v : Vo} : ∃ f1 l1 β, sgn f vs v = (f1, l1, β) ∧ sgR f vs v = xvR f1 l1 β ∧ l1.length ≤ vs.length + 1 := by
  refine ⟨_, _, _, rfl, rfl, sgn_len⟩
theorem again_ok {f : Int} {vs l1 : List Vo} {v : Vo} {f1 : Int} (h : sgn f vs v = (f1, l1, true)) : f1 = f ∧ xvOk f l1 = true ∧ okV v = true ∧ xvOk f vs = true ∧ v ∈ l1 ∧ (∀ x, x ∈ l1 ↔ x = v ∨ x ∈ vs) := by
  have h0 : (sgn f vs v).2.2 = true := by rw [h]
  obtain ⟨q1, q2, q3, q4, q5, q6⟩ := sgn_ok h0
  rw [h] at q3 q4 q5
  exact ⟨q3, q4, q2, q1, (q5 v).2 (.inl rfl), q5⟩
theorem again_same {f : Int} {vs l1 : List Vo} {v u : Vo} {f1 : Int} (h : sgn f vs v = (f1, l1, true)) (hu : okV u = true) (hs : sameS v u) : sgn f l1 u = (f, l1, decide (v.d = u.d)) := by
  obtain ⟨_, q4, _, _, q5, _⟩ := again_ok h
  exact sgn_old q4 hu (fdv_of (xv_parts.1 q4).2.2.1 q5 hs)
set_option maxRecDepth 100000 in
set_option maxHeartbeats 4000000 in
theorem FnVoterRepeat_c (zs : List Int) (hz : ∀ z ∈ zs, 0 ≤ z ∧ z ≤ 255) : SRet Try.prog 12 [.sl 1 zs.length (rowF u8F zs)] (· = .b true) := ⟨fun R => by
  refine SCalls.enter tt_ok Try.func12 (by kernel_rfl) rfl [(900, .cust R)] rfl (argF _) (fun w F v k h => h) (by simp) ?_
  repeat' (first | (with_reducible first | refine HT.seq ?_ | refine HT.block ?_ | refine Br.not ?_) | ((with_reducible first | refine HT.region tt_ok ?_ | refine HT.drawn tt_ok (by kernel_rfl) (by decide +kernel) ?_ | refine HT.drawnL tt_ok (by kernel_rfl) (by decide +kernel) ?_ | refine HT.cond ?_ | refine HT.ret ?_ | refine HT.skip ?_ | refine HT.exit ?_ | refine Br.tt ?_ | refine Br.ff ?_); conv => whnf) | ((with_reducible first | refine Br.dec (fun hc => ?_) (fun hc => ?_) | refine Br.eq (fun hc => ?_) (fun hc => ?_) | refine Br.ne (fun hc => ?_) (fun hc => ?_)) <;> (first | (exfalso; omega) | conv => whnf)) | ((with_reducible first | refine Br.ttE (by decide) ?_ | refine Br.ffE (by decide) ?_ | refine Br.mk (fun hc => ?_) (fun hc => ?_) | refine Chk.mk (by first | omega | with_reducible rfl | (refine ⟨rfl, ?_⟩; omega) | decide | exact ⟨rfl, by omega, by omega, rfl⟩ | exact ⟨by assumption, rfl, by omega, by omega⟩) ?_ | refine Ar.fit (by omega) ?_ | refine Eqv.shr1 ?_ | refine Ar.u64 (by omega) ?_) <;> conv => whnf) | (with_reducible exact trivial) | ((with_reducible refine And.intro ?_ ?_) <;> conv => whnf) | (intro gn; conv => whnf))
  all_goals (try (exact Fin.pureS (by repeat (first | exact List.Sublist.refl _ | refine List.Sublist.cons_cons _ ?_ | refine List.Sublist.cons _ ?_)) rfl))
  refine CallN.ret _ (DrawXS_c zs hz (by omega)) ?_
  rintro r ⟨f, vs, v, hvl, rfl⟩
  have hI := implXS_c f vs v (by omega)
  have hS := specXS_c f vs v (by omega)
  obtain ⟨f1, l1, β, hsg, hR, hl1⟩ := sg_parts (f := f) (vs := vs) (v := v)
  rw [hR] at hI hS
  have hE := sameVo_c f1 l1 (by omega)
  conv => whnf
  cases β
  · repeat' (first | (with_reducible first | refine HT.seq ?_ | refine HT.block ?_ | refine Br.not ?_) | ((with_reducible first | refine HT.region tt_ok ?_ | refine HT.drawn tt_ok (by kernel_rfl) (by decide +kernel) ?_ | refine HT.drawnL tt_ok (by kernel_rfl) (by decide +kernel) ?_ | refine HT.cond ?_ | refine HT.ret ?_ | refine HT.skip ?_ | refine HT.exit ?_ | refine Br.tt ?_ | refine Br.ff ?_); conv => whnf) | ((with_reducible first | refine Br.dec (fun hc => ?_) (fun hc => ?_) | refine Br.eq (fun hc => ?_) (fun hc => ?_) | refine Br.ne (fun hc => ?_) (fun hc => ?_)) <;> (first | (exfalso; omega) | conv => whnf)) | ((with_reducible first | refine Br.ttE (by decide) ?_ | refine Br.ffE (by decide) ?_ | refine Br.mk (fun hc => ?_) (fun hc => ?_) | refine Chk.mk (by first | omega | with_reducible rfl | (refine ⟨rfl, ?_⟩; omega) | decide | exact ⟨rfl, by omega, by omega, rfl⟩ | exact ⟨by assumption, rfl, by omega, by omega⟩) ?_ | refine Ar.fit (by omega) ?_ | refine Eqv.shr1 ?_ | refine Ar.u64 (by omega) ?_) <;> conv => whnf) | ((first | refine CallN.ret1 (hI) ?_ | refine CallN.ret1 (hS) ?_ | refine CallN.ret1 (hE) ?_) <;> conv => whnf) | (with_reducible exact trivial) | ((with_reducible refine And.intro ?_ ?_) <;> conv => whnf) | (intro gn; conv => whnf))
    all_goals first | exact Fin.pureS (by repeat (first | exact List.Sublist.refl _ | refine List.Sublist.cons_cons _ ?_ | refine List.Sublist.cons _ ?_)) rfl | (exfalso; simp_all; done) | exact Fin.pureS (by repeat (first | exact List.Sublist.refl _ | refine List.Sublist.cons_cons _ ?_ | refine List.Sublist.cons _ ?_)) (sv_b (by simp_all))
  obtain ⟨rfl, q1, q2, q3, q4, q5⟩ := again_ok hsg
  have hA := implXS_c f1 l1 v (by omega)
  rw [show sgR f1 l1 v = xvR f1 l1 true by unfold sgR; rw [again_same hsg q2 ⟨rfl, rfl⟩, decide_eq_true rfl]] at hA
  have hV := (implXV_c f1 l1 (by omega)).bt q1
  repeat' (first | (with_reducible first | refine HT.seq ?_ | refine HT.block ?_ | refine Br.not ?_) | ((with_reducible first | refine HT.region tt_ok ?_ | refine HT.drawn tt_ok (by kernel_rfl) (by decide +kernel) ?_ | refine HT.drawnL tt_ok (by kernel_rfl) (by decide +kernel) ?_ | refine HT.cond ?_ | refine HT.ret ?_ | refine HT.skip ?_ | refine HT.exit ?_ | refine Br.tt ?_ | refine Br.ff ?_); conv => whnf) | ((with_reducible first | refine Br.dec (fun hc => ?_) (fun hc => ?_) | refine Br.eq (fun hc => ?_) (fun hc => ?_) | refine Br.ne (fun hc => ?_) (fun hc => ?_)) <;> (first | (exfalso; omega) | conv => whnf)) | ((with_reducible first | refine Br.ttE (by decide) ?_ | refine Br.ffE (by decide) ?_ | refine Br.mk (fun hc => ?_) (fun hc => ?_) | refine Chk.mk (by first | omega | with_reducible rfl | (refine ⟨rfl, ?_⟩; omega) | decide | exact ⟨rfl, by omega, by omega, rfl⟩ | exact ⟨by assumption, rfl, by omega, by omega⟩) ?_ | refine Ar.fit (by omega) ?_ | refine Eqv.shr1 ?_ | refine Ar.u64 (by omega) ?_) <;> conv => whnf) | ((first | refine CallN.ret1 (hI) ?_ | refine CallN.ret1 (hS) ?_ | refine CallN.ret1 (hE) ?_ | refine CallN.ret1 (hA) ?_ | refine CallN.ret1 (hV) ?_) <;> conv => whnf) | (with_reducible exact trivial) | ((with_reducible refine And.intro ?_ ?_) <;> conv => whnf) | (intro gn; conv => whnf))
  all_goals first | exact Fin.pureS (by repeat (first | exact List.Sublist.refl _ | refine List.Sublist.cons_cons _ ?_ | refine List.Sublist.cons _ ?_)) rfl | (exfalso; simp_all; done) | exact Fin.pureS (by repeat (first | exact List.Sublist.refl _ | refine List.Sublist.cons_cons _ ?_ | refine List.Sublist.cons _ ?_)) (sv_b (by simp_all))
  ⟩
set_option maxRecDepth 100000 in
set_option maxHeartbeats 4000000 in
theorem FnVoterOnce_c (zs ys : List Int) (hz : ∀ z ∈ zs, 0 ≤ z ∧ z ≤ 255) (hy : ∀ z ∈ ys, 0 ≤ z ∧ z ≤ 255) : SRet Try.prog 10 [.sl 1 zs.length (rowF u8F zs), .sl 1 ys.length (rowF u8F ys)] (· = .b true) := ⟨fun R => by
  refine SCalls.enter tt_ok Try.func10 (by kernel_rfl) rfl [(900, .cust R)] rfl (argF _) (fun w F v k h => h) (by simp) ?_
  repeat' (first | (with_reducible first | refine HT.seq ?_ | refine HT.block ?_ | refine Br.not ?_) | ((with_reducible first | refine HT.region tt_ok ?_ | refine HT.drawn tt_ok (by kernel_rfl) (by decide +kernel) ?_ | refine HT.drawnL tt_ok (by kernel_rfl) (by decide +kernel) ?_ | refine HT.cond ?_ | refine HT.ret ?_ | refine HT.skip ?_ | refine HT.exit ?_ | refine Br.tt ?_ | refine Br.ff ?_); conv => whnf) | ((with_reducible first | refine Br.dec (fun hc => ?_) (fun hc => ?_) | refine Br.eq (fun hc => ?_) (fun hc => ?_) | refine Br.ne (fun hc => ?_) (fun hc => ?_)) <;> (first | (exfalso; omega) | conv => whnf)) | ((with_reducible first | refine Br.ttE (by decide) ?_ | refine Br.ffE (by decide) ?_ | refine Br.mk (fun hc => ?_) (fun hc => ?_) | refine Chk.mk (by first | omega | with_reducible rfl | (refine ⟨rfl, ?_⟩; omega) | decide | exact ⟨rfl, by omega, by omega, rfl⟩ | exact ⟨by assumption, rfl, by omega, by omega⟩) ?_ | refine Ar.fit (by omega) ?_ | refine Eqv.shr1 ?_ | refine Ar.u64 (by omega) ?_) <;> conv => whnf) | (with_reducible exact trivial) | ((with_reducible refine And.intro ?_ ?_) <;> conv => whnf) | (intro gn; conv => whnf))
  all_goals (try (exact Fin.pureS (by repeat (first | exact List.Sublist.refl _ | refine List.Sublist.cons_cons _ ?_ | refine List.Sublist.cons _ ?_)) rfl))
  refine CallN.ret _ (DrawXS_c zs hz (by omega)) ?_
  rintro r ⟨f, vs, v, hvl, rfl⟩
  have hI := implXS_c f vs v (by omega)
  have hS := specXS_c f vs v (by omega)
  obtain ⟨f1, l1, β, hsg, hR, hl1⟩ := sg_parts (f := f) (vs := vs) (v := v)
  rw [hR] at hI hS
  have hE := sameVo_c f1 l1 (by omega)
  conv => whnf
  cases β
  · repeat' (first | (with_reducible first | refine HT.seq ?_ | refine HT.block ?_ | refine Br.not ?_) | ((with_reducible first | refine HT.region tt_ok ?_ | refine HT.drawn tt_ok (by kernel_rfl) (by decide +kernel) ?_ | refine HT.drawnL tt_ok (by kernel_rfl) (by decide +kernel) ?_ | refine HT.cond ?_ | refine HT.ret ?_ | refine HT.skip ?_ | refine HT.exit ?_ | refine Br.tt ?_ | refine Br.ff ?_); conv => whnf) | ((with_reducible first | refine Br.dec (fun hc => ?_) (fun hc => ?_) | refine Br.eq (fun hc => ?_) (fun hc => ?_) | refine Br.ne (fun hc => ?_) (fun hc => ?_)) <;> (first | (exfalso; omega) | conv => whnf)) | ((with_reducible first | refine Br.ttE (by decide) ?_ | refine Br.ffE (by decide) ?_ | refine Br.mk (fun hc => ?_) (fun hc => ?_) | refine Chk.mk (by first | omega | with_reducible rfl | (refine ⟨rfl, ?_⟩; omega) | decide | exact ⟨rfl, by omega, by omega, rfl⟩ | exact ⟨by assumption, rfl, by omega, by omega⟩) ?_ | refine Ar.fit (by omega) ?_ | refine Eqv.shr1 ?_ | refine Ar.u64 (by omega) ?_) <;> conv => whnf) | ((first | refine CallN.ret1 (hI) ?_ | refine CallN.ret1 (hS) ?_ | refine CallN.ret1 (hE) ?_) <;> conv => whnf) | (with_reducible exact trivial) | ((with_reducible refine And.intro ?_ ?_) <;> conv => whnf) | (intro gn; conv => whnf))
    all_goals first | exact Fin.pureS (by repeat (first | exact List.Sublist.refl _ | refine List.Sublist.cons_cons _ ?_ | refine List.Sublist.cons _ ?_)) rfl | (exfalso; simp_all; done) | exact Fin.pureS (by repeat (first | exact List.Sublist.refl _ | refine List.Sublist.cons_cons _ ?_ | refine List.Sublist.cons _ ?_)) (sv_b (by simp_all))
  obtain ⟨rfl, q1, q2, q3, q4, q5⟩ := again_ok hsg
  have hok := okV_iff.1 q2
  have hm1 : (ys.length : Int).tmod 989 = (ys.length : Int) % 989 := Int.tmod_eq_emod_of_nonneg (by omega)
  have hm2 : (v.d + 1 + (ys.length : Int).tmod 989).tmod 991 = (v.d + 1 + (ys.length : Int) % 989) % 991 := by rw [hm1]; exact Int.tmod_eq_emod_of_nonneg (by omega)
  have hu : okV ⟨v.r, v.a, (v.d + 1 + (ys.length : Int).tmod 989).tmod 991⟩ = true := okV_iff.2 ⟨hok.1, hok.2.1, by dsimp only; omega, by dsimp only; omega⟩
  have hA := implXS_c f1 l1 ⟨v.r, v.a, (v.d + 1 + (ys.length : Int).tmod 989).tmod 991⟩ (by omega)
  rw [show sgR f1 l1 ⟨v.r, v.a, (v.d + 1 + (ys.length : Int).tmod 989).tmod 991⟩ = xvR f1 l1 false by unfold sgR; rw [again_same hsg hu ⟨rfl, rfl⟩, decide_eq_false (by dsimp only; omega)]] at hA
  repeat' (first | (with_reducible first | refine HT.seq ?_ | refine HT.block ?_ | refine Br.not ?_) | ((with_reducible first | refine HT.region tt_ok ?_ | refine HT.drawn tt_ok (by kernel_rfl) (by decide +kernel) ?_ | refine HT.drawnL tt_ok (by kernel_rfl) (by decide +kernel) ?_ | refine HT.cond ?_ | refine HT.ret ?_ | refine HT.skip ?_ | refine HT.exit ?_ | refine Br.tt ?_ | refine Br.ff ?_); conv => whnf) | ((with_reducible first | refine Br.dec (fun hc => ?_) (fun hc => ?_) | refine Br.eq (fun hc => ?_) (fun hc => ?_) | refine Br.ne (fun hc => ?_) (fun hc => ?_)) <;> (first | (exfalso; omega) | conv => whnf)) | ((with_reducible first | refine Br.ttE (by decide) ?_ | refine Br.ffE (by decide) ?_ | refine Br.mk (fun hc => ?_) (fun hc => ?_) | refine Chk.mk (by first | omega | with_reducible rfl | (refine ⟨rfl, ?_⟩; omega) | decide | exact ⟨rfl, by omega, by omega, rfl⟩ | exact ⟨by assumption, rfl, by omega, by omega⟩) ?_ | refine Ar.fit (by omega) ?_ | refine Eqv.shr1 ?_ | refine Ar.u64 (by omega) ?_) <;> conv => whnf) | ((first | refine CallN.ret1 (hI) ?_ | refine CallN.ret1 (hS) ?_ | refine CallN.ret1 (hE) ?_ | refine CallN.ret1 (hA) ?_) <;> conv => whnf) | (with_reducible exact trivial) | ((with_reducible refine And.intro ?_ ?_) <;> conv => whnf) | (intro gn; conv => whnf))
  all_goals first | exact Fin.pureS (by repeat (first | exact List.Sublist.refl _ | refine List.Sublist.cons_cons _ ?_ | refine List.Sublist.cons _ ?_)) rfl | (exfalso; simp_all; done) | exact Fin.pureS (by repeat (first | exact List.Sublist.refl _ | refine List.Sublist.cons_cons _ ?_ | refine List.Sublist.cons _ ?_)) (sv_b (by simp_all))
  ⟩
end Go.Proofs.Ytbcmpfhemangpaa
