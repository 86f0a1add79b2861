/- Texts of this proof put together: Et, Eu, Wg. -/
import Derived.Test.YtpmhikdefbcofaaDoorM01
import Derived.Test.YtpmhikdefbcofaaDoorM02
import Derived.Test.YtpmhikdefbcofaaDoorM03
import Derived.Test.YtpmhikdefbcofaaDoorM04
import Derived.Test.YtpmhikdefbcofaaDoorM05
import Derived.Test.YtpmhikdefbcofaaDoorM06
import Derived.Test.YtpmhikdefbcofaaDoorM07
import Derived.Test.YtpmhikdefbcofaaDoorM08
import Derived.Test.YtpmhikdefbcofaaDoorM09
import Derived.Test.YtpmhikdefbcofaaDoorM10
import Derived.Test.YtpmhikdefbcofaaDoorM11
import Derived.Test.YtpmhikdefbcofaaDoorM12
import Derived.Test.YtpmhikdefbcofaaDoorM13
import Derived.Test.YtpmhikdefbcofaaDoorM14
import Derived.Test.YtpmhikdefbcofaaDoorM15
import Derived.Test.YtpmhikdefbcofaaDoorM16
import Derived.Test.YtpmhikdefbcofaaDoorM17
import Derived.Test.YtpmhikdefbcofaaDoorM18
import Derived.Test.YtpmhikdefbcofaaDoorM19
import Derived.Test.YtpmhikdefbcofaaDoorM20
/-! YtpmhikdefbcofaaDoorEt -/
set_option linter.all false
namespace Go.Proofs.YtpmhikdefbcofaaDoor
open Go.RowKit Go.ChangeShapes Go.WideShapes

theorem take_lk {k : Nat} {L : Hpl} {p : Hp} (h : lk k L = p) (hp : p ≠ .emp) : (.emp :: L.map Prod.snd).Perm (p :: (setK k .emp L).map Prod.snd) := by
  have hk : hasK k L = true := hasK_of (by rw [h]; exact hp)
  have q1 : (L.map Prod.snd).Perm (p :: offK k L) := by have := lk_perm hk; rwa [h] at this
  have q2 : ((setK k .emp L).map Prod.snd).Perm (.emp :: offK k L) := setK_perm hk
  exact ((q1.cons _).trans (List.Perm.swap _ _ _)).trans (q2.symm.cons _)
theorem CallN.gx {P : Program} {f : FuncId} {ss : List SV} {L : Hpl} {nx : Nat} {K : KK} {u : Ers} {Φ : SV → Prop} (h0 : lk 800 L = erH 0 u.y0 u.t0 u.v0) (h1 : lk 801 L = erH 1 u.y1 u.t1 u.v1) (h2 : lk 802 L = erH 2 u.y2 u.t2 u.v2) (h3 : lk 803 L = .cust (erC u))
    (h : SGx P u f ss Φ) (k : ∀ r, Φ r → K (r.lift nx) L (nx + 10)) : CallN P f ss L nx K := by
  have q3 := take_lk h3 (by simp)
  have e2 : lk 802 (setK 803 .emp L) = erH 2 u.y2 u.t2 u.v2 := by rw [lk_setK_self_ne (by decide)]; exact h2
  have q2 := take_lk e2 (Hp.ne_emp rfl)
  have e1 : lk 801 (setK 802 .emp (setK 803 .emp L)) = erH 1 u.y1 u.t1 u.v1 := by rw [lk_setK_self_ne (by decide), lk_setK_self_ne (by decide)]; exact h1
  have q1 := take_lk e1 (Hp.ne_emp rfl)
  have e0 : lk 800 (setK 801 .emp (setK 802 .emp (setK 803 .emp L))) = erH 0 u.y0 u.t0 u.v0 := by rw [lk_setK_self_ne (by decide), lk_setK_self_ne (by decide), lk_setK_self_ne (by decide)]; exact h0
  have q0 := take_lk e0 (Hp.ne_emp rfl)
  generalize (setK 800 .emp (setK 801 .emp (setK 802 .emp (setK 803 .emp L)))).map Prod.snd = rest at q0
  have hall : (.emp :: .emp :: .emp :: .emp :: L.map Prod.snd).Perm ([erH 0 u.y0 u.t0 u.v0, erH 1 u.y1 u.t1 u.v1, erH 2 u.y2 u.t2 u.v2, .cust (erC u)] ++ rest) := by
    have a3 : ((.emp : Hp) :: .emp :: .emp :: .emp :: L.map Prod.snd).Perm (.cust (erC u) :: .emp :: .emp :: .emp :: (setK 803 .emp L).map Prod.snd) := (((q3.cons _).cons _).cons _).trans ((@List.perm_middle Hp (Hp.cust (erC u)) [Hp.emp, Hp.emp, Hp.emp] _ : _))
    have a2 : ((.emp : Hp) :: .emp :: .emp :: (setK 803 .emp L).map Prod.snd).Perm (erH 2 u.y2 u.t2 u.v2 :: .emp :: .emp :: (setK 802 .emp (setK 803 .emp L)).map Prod.snd) := ((q2.cons _).cons _).trans (@List.perm_middle Hp (erH 2 u.y2 u.t2 u.v2) [Hp.emp, Hp.emp] _)
    have a1 : ((.emp : Hp) :: .emp :: (setK 802 .emp (setK 803 .emp L)).map Prod.snd).Perm (erH 1 u.y1 u.t1 u.v1 :: .emp :: (setK 801 .emp (setK 802 .emp (setK 803 .emp L))).map Prod.snd) := (q1.cons _).trans (@List.perm_middle Hp (erH 1 u.y1 u.t1 u.v1) [Hp.emp] _)
    have a := a3.trans ((a2.trans ((a1.trans (q0.cons _)).cons _)).cons _)
    exact a.trans ((List.reverse_perm [erH 0 u.y0 u.t0 u.v0, erH 1 u.y1 u.t1 u.v1, erH 2 u.y2 u.t2 u.v2, .cust (erC u)]).append_right rest)
  have key : SCalls P f ss (.emp :: .emp :: .emp :: .emp :: L.map Prod.snd) fun r H => Φ r ∧ H = [erH 0 u.y0 u.t0 u.v0, erH 1 u.y1 u.t1 u.v1, erH 2 u.y2 u.t2 u.v2, .cust (erC u)] ++ rest := by
    refine SCalls.perm hall ?_
    refine (SCalls.frame (A := [erH 0 u.y0 u.t0 u.v0, erH 1 u.y1 u.t1 u.v1, erH 2 u.y2 u.t2 u.v2, .cust (erC u)]) (H := rest) (K := fun r H => Φ r ∧ H = [erH 0 u.y0 u.t0 u.v0, erH 1 u.y1 u.t1 u.v1, erH 2 u.y2 u.t2 u.v2, .cust (erC u)] ++ rest) fun R => (h.h R).mono fun r H' ⟨e, hΦ⟩ => ⟨[erH 0 u.y0 u.t0 u.v0, erH 1 u.y1 u.t1 u.v1, erH 2 u.y2 u.t2 u.v2, .cust (erC u)], e, hΦ, rfl⟩).mono ?_
    rintro r H' ⟨hΦ, rfl⟩
    exact ⟨_, List.Perm.refl _, hΦ, rfl⟩
  have addE : ∀ {w : World} {F : Nat → Prop} {l : List Hp}, HSat w F l → HSat w F (.emp :: l) := fun hs =>
    hs.cons (Nat.le_refl _) (fun _ _ => rfl) trivial fun _ hb => hb.elim
  refine .gen ((SCalls.le (fun w F hs => addE (addE (addE (addE hs)))) key).post ?_)
  rintro r H' ⟨hΦ, rfl⟩
  exact ⟨r, L.map Prod.snd, fun w F v hs hv => ⟨F, fun _ h => h, (hs.perm hall.symm).tail.tail.tail.tail, hv⟩, L, rfl, fun _ _ _ _ _ _ h => h, k r hΦ⟩
theorem bv_ps {vs : List Vx} (h : ∀ v ∈ vs, BV v) {b : Nat} (hb : 1000 ≤ b) : ∀ v ∈ vs, v.ps.length ≤ b := fun v hv => by have := (h v hv).2.2.1; omega
/-- where the leader is not there, nobody votes for it -/
theorem votes_zero {c : List Int} {vs : List Vx} {wave ld : Int} (hG : GoodN c vs vs.length) (h : fdV vs (2 * wave - 1) ld = none) : vtS c vs (2 * wave) ld = 0 := by
  rw [← votes_eq hG]
  refine sumTo_zero fun i hi => if_neg fun ⟨hr, hm⟩ => ?_
  obtain ⟨j, hj, e⟩ := List.getElem_of_mem hm
  have h1 := (st_parts (hG i hi)).2.2 j hj
  obtain ⟨q, hq⟩ := Option.isSome_iff_exists.1 h1
  rw [gDe hj, e, hr] at hq
  obtain ⟨q1, q2, q3, q4⟩ := fd_some hq
  have hqi : q < i := by rw [List.length_take] at q1; omega
  have := fd_of (vs := vs) (r := 2 * wave - 1) (a := ld) (i := q) (by omega) (by rw [← vg_take hqi]; exact q2) (by rw [← vg_take hqi]; exact q3) fun j' hj' => by
    have := q4 j' hj'
    rwa [vg_take (by omega)] at this
  rw [h] at this
  cases this
set_option maxRecDepth 100000 in
set_option maxHeartbeats 2000000 in
theorem FnExactWaveVotes_c (u : Ers) (c : List Int) (a : List Vx) (ls : List Int) (wave : Int) (hla : a.length ≤ 9223372036854775807) (hcl : c.length ≤ 9223372036854775807) (hll : ls.length ≤ 9223372036854775807) (hva : ∀ v ∈ a, okVx v) : SGx Tryd.prog u 6 [isl c, vsl a, isl ls, .i wave] (· = .b true) := ⟨fun R => by
  refine SCalls.enter tt_ok Tryd.func6 (by kernel_rfl) rfl [(800, erH 0 u.y0 u.t0 u.v0), (801, erH 1 u.y1 u.t1 u.v1), (802, erH 2 u.y2 u.t2 u.v2), (803, .cust (erC u)), (900, .cust R)] rfl (argF _) (fun w F v k h => h) (by simp) ?_
  repeat' (first | (with_reducible first | refine HT.seq ?_ | refine HT.block ?_ | refine Br.not ?_) | ((with_reducible first | refine HT.region tt_ok ?_ | refine HT.drawn tt_ok (by kernel_rfl) (by decide +kernel) ?_ | refine HT.drawnL tt_ok (by kernel_rfl) (by decide +kernel) ?_ | refine HT.cond ?_ | refine HT.ret ?_ | refine HT.skip ?_ | refine HT.exit ?_ | refine Br.tt ?_ | refine Br.ff ?_); conv => whnf) | ((with_reducible first | refine Br.dec (fun hc => ?_) (fun hc => ?_) | refine Br.eq (fun hc => ?_) (fun hc => ?_) | refine Br.ne (fun hc => ?_) (fun hc => ?_)) <;> (first | (exfalso; omega) | conv => whnf)) | ((with_reducible first | refine Br.ttE (by decide) ?_ | refine Br.ffE (by decide) ?_ | refine Br.mk (fun hc => ?_) (fun hc => ?_) | refine Chk.mk (by first | omega | with_reducible rfl | (refine ⟨rfl, ?_⟩; omega) | decide | exact ⟨rfl, by omega, by omega, rfl⟩ | exact ⟨by assumption, rfl, by omega, by omega⟩) ?_ | refine Ar.fit (by omega) ?_ | refine Eqv.shr1 ?_ | refine Ar.u64 (by omega) ?_) <;> conv => whnf) | (with_reducible exact trivial) | ((with_reducible refine And.intro ?_ ?_) <;> conv => whnf) | (intro gn; conv => whnf))
  · exact Fin.gx (r' := .b true) (by refine PP.start ?_; repeat (first | exact PP.nil | refine PP.take (by first | with_reducible exact Hp.Sub.refl _ | exact Hp.Sub.rd (by omega) | exact Hp.Sub.boxA (by (repeat (first | exact all_lt_zero | refine all_lt_succ (p := fun j => CellLe _ _) (by first | with_reducible exact CellLe.refl _ | exact CellLe.own | exact CellLe.i (by omega) | exact CellLe.nil | exact CellLe.slNil | exact CellLe.refl _) ?_))) | exact Hp.Sub.refl _) ?_ | refine PP.skip ?_)) (CellLe.refl _) rfl
  · exact Fin.gx (r' := .b true) (by refine PP.start ?_; repeat (first | exact PP.nil | refine PP.take (by first | with_reducible exact Hp.Sub.refl _ | exact Hp.Sub.rd (by omega) | exact Hp.Sub.boxA (by (repeat (first | exact all_lt_zero | refine all_lt_succ (p := fun j => CellLe _ _) (by first | with_reducible exact CellLe.refl _ | exact CellLe.own | exact CellLe.i (by omega) | exact CellLe.nil | exact CellLe.slNil | exact CellLe.refl _) ?_))) | exact Hp.Sub.refl _) ?_ | refine PP.skip ?_)) (CellLe.refl _) rfl
  refine CallN.ret _ (szVertexS_c a 1048576 hla hva (by omega)) ?_
  rintro r (rfl | ⟨hza, hpa, y, hya, hxa, rfl⟩)
  · conv => whnf
    repeat' (first | (with_reducible first | refine HT.seq ?_ | refine HT.block ?_ | refine Br.not ?_) | ((with_reducible first | refine HT.region tt_ok ?_ | refine HT.drawn tt_ok (by kernel_rfl) (by decide +kernel) ?_ | refine HT.drawnL tt_ok (by kernel_rfl) (by decide +kernel) ?_ | refine HT.cond ?_ | refine HT.ret ?_ | refine HT.skip ?_ | refine HT.exit ?_ | refine Br.tt ?_ | refine Br.ff ?_); conv => whnf) | ((with_reducible first | refine Br.dec (fun hc => ?_) (fun hc => ?_) | refine Br.eq (fun hc => ?_) (fun hc => ?_) | refine Br.ne (fun hc => ?_) (fun hc => ?_)) <;> (first | (exfalso; omega) | conv => whnf)) | ((with_reducible first | refine Br.ttE (by decide) ?_ | refine Br.ffE (by decide) ?_ | refine Br.mk (fun hc => ?_) (fun hc => ?_) | refine Chk.mk (by first | omega | with_reducible rfl | (refine ⟨rfl, ?_⟩; omega) | decide | exact ⟨rfl, by omega, by omega, rfl⟩ | exact ⟨by assumption, rfl, by omega, by omega⟩) ?_ | refine Ar.fit (by omega) ?_ | refine Eqv.shr1 ?_ | refine Ar.u64 (by omega) ?_) <;> conv => whnf) | (with_reducible exact trivial) | ((with_reducible refine And.intro ?_ ?_) <;> conv => whnf) | (intro gn; conv => whnf))
    exact Fin.gx (r' := .b true) (by refine PP.start ?_; repeat (first | exact PP.nil | refine PP.take (by first | with_reducible exact Hp.Sub.refl _ | exact Hp.Sub.rd (by omega) | exact Hp.Sub.boxA (by (repeat (first | exact all_lt_zero | refine all_lt_succ (p := fun j => CellLe _ _) (by first | with_reducible exact CellLe.refl _ | exact CellLe.own | exact CellLe.i (by omega) | exact CellLe.nil | exact CellLe.slNil | exact CellLe.refl _) ?_))) | exact Hp.Sub.refl _) ?_ | refine PP.skip ?_)) (CellLe.refl _) rfl
  conv => whnf
  have hpa : ∀ v ∈ a, v.ps.length ≤ 1048576 := fun v hv => by have := hpa v hv; omega
  have p7 : ∀ v ∈ a, v.ps.length ≤ 10000000 := fun v hv => by have := hpa v hv; omega
  have p8 : ∀ v ∈ a, v.ps.length ≤ 100000000 := fun v hv => by have := hpa v hv; omega
  have p2 : ∀ v ∈ a, v.ps.length ≤ 1000000000 := fun v hv => by have := hpa v hv; omega
  have p3 : ∀ v ∈ a, v.ps.length ≤ 9223372036854775800 := fun v hv => by have := hpa v hv; omega
  have hal2 : a.length ≤ 1048576 := by omega
  have hcl2 : c.length ≤ 1048576 := by omega
  have hll2 : ls.length ≤ 1048576 := by omega
  repeat' (first | (with_reducible first | refine HT.seq ?_ | refine HT.block ?_ | refine Br.not ?_) | ((with_reducible first | refine HT.region tt_ok ?_ | refine HT.drawn tt_ok (by kernel_rfl) (by decide +kernel) ?_ | refine HT.drawnL tt_ok (by kernel_rfl) (by decide +kernel) ?_ | refine HT.cond ?_ | refine HT.ret ?_ | refine HT.skip ?_ | refine HT.exit ?_ | refine Br.tt ?_ | refine Br.ff ?_); conv => whnf) | ((with_reducible first | refine Br.dec (fun hc => ?_) (fun hc => ?_) | refine Br.eq (fun hc => ?_) (fun hc => ?_) | refine Br.ne (fun hc => ?_) (fun hc => ?_)) <;> (first | (exfalso; omega) | conv => whnf)) | ((with_reducible first | refine Br.ttE (by decide) ?_ | refine Br.ffE (by decide) ?_ | refine Br.mk (fun hc => ?_) (fun hc => ?_) | refine Chk.mk (by first | omega | with_reducible rfl | (refine ⟨rfl, ?_⟩; omega) | decide | exact ⟨rfl, by omega, by omega, rfl⟩ | exact ⟨by assumption, rfl, by omega, by omega⟩) ?_ | refine Ar.fit (by omega) ?_ | refine Eqv.shr1 ?_ | refine Ar.u64 (by omega) ?_) <;> conv => whnf) | ((first | refine CallN.ret1 (toIntS_c c (by omega)) ?_ | refine CallN.ret1 (toVertexS_c a (by omega) p2) ?_ | refine CallN.ret1 (toIntS_c ls (by omega)) ?_ | refine CallN.ret1 (specWV_c c a ls wave (by omega) (by omega) p7 (by omega)) ?_ | refine CallN.ret1 (eqIntS_c c (by omega)) ?_ | refine CallN.ret1 (eqIntS_c ls (by omega)) ?_ | refine CallN.ret1 (eqVertexS_c a (by omega) p3) ?_ | (refine CallN.gx rfl rfl rfl rfl (implWV_c u c a ls wave (by omega) (by omega) p7 (by omega)) ?_; rintro r rfl)) <;> conv => whnf) | (with_reducible exact trivial) | ((with_reducible refine And.intro ?_ ?_) <;> conv => whnf) | (intro gn; conv => whnf))
  all_goals first | exact Fin.gx (r' := .b true) (by refine PP.start ?_; repeat (first | exact PP.nil | refine PP.take (by first | with_reducible exact Hp.Sub.refl _ | exact Hp.Sub.rd (by omega) | exact Hp.Sub.boxA (by (repeat (first | exact all_lt_zero | refine all_lt_succ (p := fun j => CellLe _ _) (by first | with_reducible exact CellLe.refl _ | exact CellLe.own | exact CellLe.i (by omega) | exact CellLe.nil | exact CellLe.slNil | exact CellLe.refl _) ?_))) | exact Hp.Sub.refl _) ?_ | refine PP.skip ?_)) (CellLe.refl _) rfl | (exfalso; simp_all; done)⟩
end Go.Proofs.YtpmhikdefbcofaaDoor
/-! YtpmhikdefbcofaaDoorEu -/
set_option linter.all false
namespace Go.Proofs.YtpmhikdefbcofaaDoor
open Go.RowKit Go.ChangeShapes Go.WideShapes

theorem hasIW_c (l : List Int) (x : Int) (hl : l.length ≤ 2000000) : SRet Tryd.prog 24 [isl l, .i x] (· = .b (decide (x ∈ l))) := ⟨fun R => by
  refine SCalls.enter tt_ok Tryd.func24 (by kernel_rfl) rfl [(900, .cust R)] rfl (argF _) (fun w F v k h => h) (by simp) ?_
  repeat' (first | (with_reducible first | refine HT.seq ?_ | refine HT.block ?_ | refine Br.not ?_) | ((with_reducible first | refine HT.region tt_ok ?_ | refine HT.drawn tt_ok (by kernel_rfl) (by decide +kernel) ?_ | refine HT.drawnL tt_ok (by kernel_rfl) (by decide +kernel) ?_ | refine HT.cond ?_ | refine HT.ret ?_ | refine HT.skip ?_ | refine HT.exit ?_ | refine Br.tt ?_ | refine Br.ff ?_); conv => whnf) | ((with_reducible first | refine Br.dec (fun hc => ?_) (fun hc => ?_) | refine Br.eq (fun hc => ?_) (fun hc => ?_) | refine Br.ne (fun hc => ?_) (fun hc => ?_)) <;> (first | (exfalso; omega) | conv => whnf)) | ((with_reducible first | refine Br.ttE (by decide) ?_ | refine Br.ffE (by decide) ?_ | refine Br.mk (fun hc => ?_) (fun hc => ?_) | refine Chk.mk (by first | omega | with_reducible rfl | (refine ⟨rfl, ?_⟩; omega) | decide | exact ⟨rfl, by omega, by omega, rfl⟩ | exact ⟨by assumption, rfl, by omega, by omega⟩) ?_ | refine Ar.fit (by omega) ?_ | refine Eqv.shr1 ?_ | refine Ar.u64 (by omega) ?_) <;> conv => whnf) | (with_reducible exact trivial) | ((with_reducible refine And.intro ?_ ?_) <;> conv => whnf) | (intro gn; conv => whnf))
  refine HT.loopS [0, 1] (fun k : Nat => [(5, .i k)]) (fun k : Nat => k ≤ l.length ∧ ∀ j, j < k → l.getD j default ≠ x) (fun k : Nat => l.length - k) 0 ⟨Nat.zero_le _, fun j hj => absurd hj (by omega)⟩ ⟨rfl, trivial⟩ ?_
  conv => whnf
  rintro k ⟨hk, hall⟩
  repeat' (first | (with_reducible first | refine HT.seq ?_ | refine HT.block ?_ | refine Br.not ?_) | ((with_reducible first | refine HT.region tt_ok ?_ | refine HT.drawn tt_ok (by kernel_rfl) (by decide +kernel) ?_ | refine HT.drawnL tt_ok (by kernel_rfl) (by decide +kernel) ?_ | refine HT.cond ?_ | refine HT.ret ?_ | refine HT.skip ?_ | refine HT.exit ?_ | refine Br.tt ?_ | refine Br.ff ?_); conv => whnf) | ((with_reducible first | refine Br.dec (fun hc => ?_) (fun hc => ?_) | refine Br.eq (fun hc => ?_) (fun hc => ?_) | refine Br.ne (fun hc => ?_) (fun hc => ?_)) <;> (first | (exfalso; omega) | conv => whnf)) | ((with_reducible first | refine Br.ttE (by decide) ?_ | refine Br.ffE (by decide) ?_ | refine Br.mk (fun hc => ?_) (fun hc => ?_) | refine Chk.mk (by first | omega | with_reducible rfl | (refine ⟨rfl, ?_⟩; omega) | decide | exact ⟨rfl, by omega, by omega, rfl⟩ | exact ⟨by assumption, rfl, by omega, by omega⟩) ?_ | refine Ar.fit (by omega) ?_ | refine Eqv.shr1 ?_ | refine Ar.u64 (by omega) ?_) <;> conv => whnf) | (with_reducible exact trivial) | ((with_reducible refine And.intro ?_ ?_) <;> conv => whnf) | (intro gn; conv => whnf))
  all_goals (try simp only [Int.toNat_natCast] at *)
  · exact Fin.pureS (by repeat (first | exact List.Sublist.refl _ | refine List.Sublist.cons_cons _ ?_ | refine List.Sublist.cons _ ?_)) (sv_b (decide_eq_true (by rw [← hc, gDe (by omega)]; exact List.getElem_mem _)).symm)
  · exact ⟨⟨k + 1, ⟨by omega, all_lt_succ hc hall⟩, by omega, (by repeat' (first | exact trivial | refine ⟨rfl, ?_⟩)), ⟨sv_i (by omega), trivial⟩, (HLe.sub (by repeat (first | exact List.Sublist.refl _ | refine List.Sublist.cons_cons _ ?_ | refine List.Sublist.cons _ ?_)))⟩⟩
  · exact Fin.pureS (by repeat (first | exact List.Sublist.refl _ | refine List.Sublist.cons_cons _ ?_ | refine List.Sublist.cons _ ?_)) (sv_b (decide_eq_false (fun hm => by obtain ⟨i, hi, e⟩ := List.getElem_of_mem hm; exact hall i (by omega) ((gDe hi).trans e))).symm)⟩
set_option maxRecDepth 100000 in
set_option maxHeartbeats 4000000 in
theorem FnWaveDirect_c (u : Ers) (zs : List Int) (hz : ∀ z ∈ zs, 0 ≤ z ∧ z ≤ 255) : SGx Tryd.prog u 8 [.sl 1 zs.length (rowF u8F zs)] (· = .b true) := ⟨fun R => by
  refine SCalls.enter tt_ok Tryd.func8 (by kernel_rfl) rfl [(800, erH 0 u.y0 u.t0 u.v0), (801, erH 1 u.y1 u.t1 u.v1), (802, erH 2 u.y2 u.t2 u.v2), (803, .cust (erC u)), (900, .cust R)] rfl (argF _) (fun w F v k h => h) (by simp) ?_
  repeat' (first | (with_reducible first | refine HT.seq ?_ | refine HT.block ?_ | refine Br.not ?_) | ((with_reducible first | refine HT.region tt_ok ?_ | refine HT.drawn tt_ok (by kernel_rfl) (by decide +kernel) ?_ | refine HT.drawnL tt_ok (by kernel_rfl) (by decide +kernel) ?_ | refine HT.cond ?_ | refine HT.ret ?_ | refine HT.skip ?_ | refine HT.exit ?_ | refine Br.tt ?_ | refine Br.ff ?_); conv => whnf) | ((with_reducible first | refine Br.dec (fun hc => ?_) (fun hc => ?_) | refine Br.eq (fun hc => ?_) (fun hc => ?_) | refine Br.ne (fun hc => ?_) (fun hc => ?_)) <;> (first | (exfalso; omega) | conv => whnf)) | ((with_reducible first | refine Br.ttE (by decide) ?_ | refine Br.ffE (by decide) ?_ | refine Br.mk (fun hc => ?_) (fun hc => ?_) | refine Chk.mk (by first | omega | with_reducible rfl | (refine ⟨rfl, ?_⟩; omega) | decide | exact ⟨rfl, by omega, by omega, rfl⟩ | exact ⟨by assumption, rfl, by omega, by omega⟩) ?_ | refine Ar.fit (by omega) ?_ | refine Eqv.shr1 ?_ | refine Ar.u64 (by omega) ?_) <;> conv => whnf) | (with_reducible exact trivial) | ((with_reducible refine And.intro ?_ ?_) <;> conv => whnf) | (intro gn; conv => whnf))
  · exact Fin.gx (r' := .b true) (by refine PP.start ?_; repeat (first | exact PP.nil | refine PP.take (by first | with_reducible exact Hp.Sub.refl _ | exact Hp.Sub.rd (by omega) | exact Hp.Sub.boxA (by (repeat (first | exact all_lt_zero | refine all_lt_succ (p := fun j => CellLe _ _) (by first | with_reducible exact CellLe.refl _ | exact CellLe.own | exact CellLe.i (by omega) | exact CellLe.nil | exact CellLe.slNil | exact CellLe.refl _) ?_))) | exact Hp.Sub.refl _) ?_ | refine PP.skip ?_)) (CellLe.refl _) rfl
  refine CallN.ret _ (DrawWD_c zs hz (by omega)) ?_
  rintro r ⟨c, vs, ls, wave, hcl, hvl, hbv, hll, rfl⟩
  have hp : ∀ v ∈ vs, v.ps.length ≤ 10000000 := bv_ps hbv (by omega)
  conv => whnf
  by_cases hb : wvOk c vs ls = true ∧ 1 ≤ wave ∧ wave ≤ (ls.length : Int)
  rotate_left
  · have hI : vwI c vs ls wave = -1 := if_neg hb
    have hD : vdB c vs ls wave = false := by unfold vdB; rw [hI]; rfl
    have hW := implWV_c u c vs ls wave (by omega) (by omega) hp (by omega)
    have hD1 := implWD_c u c vs ls wave (by omega) (by omega) hp (by omega)
    have hD2 := specWD_c c vs ls wave (by omega) (by omega) hp (by omega)
    rw [hI] at hW
    rw [hD] at hD1 hD2
    repeat' (first | (with_reducible first | refine HT.seq ?_ | refine HT.block ?_ | refine Br.not ?_) | ((with_reducible first | refine HT.region tt_ok ?_ | refine HT.drawn tt_ok (by kernel_rfl) (by decide +kernel) ?_ | refine HT.drawnL tt_ok (by kernel_rfl) (by decide +kernel) ?_ | refine HT.cond ?_ | refine HT.ret ?_ | refine HT.skip ?_ | refine HT.exit ?_ | refine Br.tt ?_ | refine Br.ff ?_); conv => whnf) | ((with_reducible first | refine Br.dec (fun hc => ?_) (fun hc => ?_) | refine Br.eq (fun hc => ?_) (fun hc => ?_) | refine Br.ne (fun hc => ?_) (fun hc => ?_)) <;> (first | (exfalso; omega) | conv => whnf)) | ((with_reducible first | refine Br.ttE (by decide) ?_ | refine Br.ffE (by decide) ?_ | refine Br.mk (fun hc => ?_) (fun hc => ?_) | refine Chk.mk (by first | omega | with_reducible rfl | (refine ⟨rfl, ?_⟩; omega) | decide | exact ⟨rfl, by omega, by omega, rfl⟩ | exact ⟨by assumption, rfl, by omega, by omega⟩) ?_ | refine Ar.fit (by omega) ?_ | refine Eqv.shr1 ?_ | refine Ar.u64 (by omega) ?_) <;> conv => whnf) | ((first | refine CallN.ret1 (hD2) ?_ | (refine CallN.gl rfl rfl rfl (hD1) ?_; rintro r rfl) | (refine CallN.gx rfl rfl rfl rfl (hW) ?_; rintro r rfl)) <;> conv => whnf) | (with_reducible exact trivial) | ((with_reducible refine And.intro ?_ ?_) <;> conv => whnf) | (intro gn; conv => whnf))
    all_goals first | (exfalso; omega) | (exfalso; simp_all; done) | exact Fin.gx (r' := .b true) (by refine PP.start ?_; repeat (first | exact PP.nil | refine PP.take (by first | with_reducible exact Hp.Sub.refl _ | exact Hp.Sub.rd (by omega) | exact Hp.Sub.boxA (by (repeat (first | exact all_lt_zero | refine all_lt_succ (p := fun j => CellLe _ _) (by first | with_reducible exact CellLe.refl _ | exact CellLe.own | exact CellLe.i (by omega) | exact CellLe.nil | exact CellLe.slNil | exact CellLe.refl _) ?_))) | exact Hp.Sub.refl _) ?_ | refine PP.skip ?_)) (CellLe.of_eq (sv_b (by first | rfl | simp_all))) rfl | trace_state
  have hI : vwI c vs ls wave = vwS c vs ls wave := if_pos hb
  have hcm := (grOk_iff.1 (wv_parts hb.1).1).1
  have hbd := vwS_bd (c := c) (vs := vs) (ls := ls) (wave := wave) hcm
  have hD : vdB c vs ls wave = decide (tot c / 3 + 1 ≤ vwS c vs ls wave) := by unfold vdB; rw [hI, decide_eq_true hbd.1]; simp
  have hW := implWV_c u c vs ls wave (by omega) (by omega) hp (by omega)
  have hD1 := implWD_c u c vs ls wave (by omega) (by omega) hp (by omega)
  have hD2 := specWD_c c vs ls wave (by omega) (by omega) hp (by omega)
  rw [hI] at hW
  by_cases hge : tot c / 3 + 1 ≤ vwS c vs ls wave
  · rw [hD, decide_eq_true hge] at hD1 hD2
    repeat' (first | (with_reducible first | refine HT.seq ?_ | refine HT.block ?_ | refine Br.not ?_) | ((with_reducible first | refine HT.region tt_ok ?_ | refine HT.drawn tt_ok (by kernel_rfl) (by decide +kernel) ?_ | refine HT.drawnL tt_ok (by kernel_rfl) (by decide +kernel) ?_ | refine HT.cond ?_ | refine HT.ret ?_ | refine HT.skip ?_ | refine HT.exit ?_ | refine Br.tt ?_ | refine Br.ff ?_); conv => whnf) | ((with_reducible first | refine Br.dec (fun hc => ?_) (fun hc => ?_) | refine Br.eq (fun hc => ?_) (fun hc => ?_) | refine Br.ne (fun hc => ?_) (fun hc => ?_)) <;> (first | (exfalso; omega) | conv => whnf)) | ((with_reducible first | refine Br.ttE (by decide) ?_ | refine Br.ffE (by decide) ?_ | refine Br.mk (fun hc => ?_) (fun hc => ?_) | refine Chk.mk (by first | omega | with_reducible rfl | (refine ⟨rfl, ?_⟩; omega) | decide | exact ⟨rfl, by omega, by omega, rfl⟩ | exact ⟨by assumption, rfl, by omega, by omega⟩) ?_ | refine Ar.fit (by omega) ?_ | refine Eqv.shr1 ?_ | refine Ar.u64 (by omega) ?_) <;> conv => whnf) | ((first | refine CallN.ret1 (hD2) ?_ | refine CallN.ret1 (implCmSup_c c hcm) ?_ | (refine CallN.gl rfl rfl rfl (hD1) ?_; rintro r rfl) | (refine CallN.gx rfl rfl rfl rfl (hW) ?_; rintro r rfl)) <;> conv => whnf) | (with_reducible exact trivial) | ((with_reducible refine And.intro ?_ ?_) <;> conv => whnf) | (intro gn; conv => whnf))
    all_goals first | (exfalso; omega) | (exfalso; simp_all; done) | exact Fin.gx (r' := .b true) (by refine PP.start ?_; repeat (first | exact PP.nil | refine PP.take (by first | with_reducible exact Hp.Sub.refl _ | exact Hp.Sub.rd (by omega) | exact Hp.Sub.boxA (by (repeat (first | exact all_lt_zero | refine all_lt_succ (p := fun j => CellLe _ _) (by first | with_reducible exact CellLe.refl _ | exact CellLe.own | exact CellLe.i (by omega) | exact CellLe.nil | exact CellLe.slNil | exact CellLe.refl _) ?_))) | exact Hp.Sub.refl _) ?_ | refine PP.skip ?_)) (CellLe.of_eq (sv_b (by first | rfl | simp_all))) rfl | trace_state
  · rw [hD, decide_eq_false hge] at hD1 hD2
    repeat' (first | (with_reducible first | refine HT.seq ?_ | refine HT.block ?_ | refine Br.not ?_) | ((with_reducible first | refine HT.region tt_ok ?_ | refine HT.drawn tt_ok (by kernel_rfl) (by decide +kernel) ?_ | refine HT.drawnL tt_ok (by kernel_rfl) (by decide +kernel) ?_ | refine HT.cond ?_ | refine HT.ret ?_ | refine HT.skip ?_ | refine HT.exit ?_ | refine Br.tt ?_ | refine Br.ff ?_); conv => whnf) | ((with_reducible first | refine Br.dec (fun hc => ?_) (fun hc => ?_) | refine Br.eq (fun hc => ?_) (fun hc => ?_) | refine Br.ne (fun hc => ?_) (fun hc => ?_)) <;> (first | (exfalso; omega) | conv => whnf)) | ((with_reducible first | refine Br.ttE (by decide) ?_ | refine Br.ffE (by decide) ?_ | refine Br.mk (fun hc => ?_) (fun hc => ?_) | refine Chk.mk (by first | omega | with_reducible rfl | (refine ⟨rfl, ?_⟩; omega) | decide | exact ⟨rfl, by omega, by omega, rfl⟩ | exact ⟨by assumption, rfl, by omega, by omega⟩) ?_ | refine Ar.fit (by omega) ?_ | refine Eqv.shr1 ?_ | refine Ar.u64 (by omega) ?_) <;> conv => whnf) | ((first | refine CallN.ret1 (hD2) ?_ | refine CallN.ret1 (implCmSup_c c hcm) ?_ | (refine CallN.gl rfl rfl rfl (hD1) ?_; rintro r rfl) | (refine CallN.gx rfl rfl rfl rfl (hW) ?_; rintro r rfl)) <;> conv => whnf) | (with_reducible exact trivial) | ((with_reducible refine And.intro ?_ ?_) <;> conv => whnf) | (intro gn; conv => whnf))
    all_goals first | (exfalso; omega) | (exfalso; simp_all; done) | exact Fin.gx (r' := .b true) (by refine PP.start ?_; repeat (first | exact PP.nil | refine PP.take (by first | with_reducible exact Hp.Sub.refl _ | exact Hp.Sub.rd (by omega) | exact Hp.Sub.boxA (by (repeat (first | exact all_lt_zero | refine all_lt_succ (p := fun j => CellLe _ _) (by first | with_reducible exact CellLe.refl _ | exact CellLe.own | exact CellLe.i (by omega) | exact CellLe.nil | exact CellLe.slNil | exact CellLe.refl _) ?_))) | exact Hp.Sub.refl _) ?_ | refine PP.skip ?_)) (CellLe.of_eq (sv_b (by first | rfl | simp_all))) rfl | trace_state
  ⟩
set_option maxRecDepth 100000 in
set_option maxHeartbeats 4000000 in
theorem FnWaveLeader_c (u : Ers) (zs : List Int) (hz : ∀ z ∈ zs, 0 ≤ z ∧ z ≤ 255) : SGx Tryd.prog u 5 [.sl 1 zs.length (rowF u8F zs)] (· = .b true) := ⟨fun R => by
  refine SCalls.enter tt_ok Tryd.func5 (by kernel_rfl) rfl [(800, erH 0 u.y0 u.t0 u.v0), (801, erH 1 u.y1 u.t1 u.v1), (802, erH 2 u.y2 u.t2 u.v2), (803, .cust (erC u)), (900, .cust R)] rfl (argF _) (fun w F v k h => h) (by simp) ?_
  repeat' (first | (with_reducible first | refine HT.seq ?_ | refine HT.block ?_ | refine Br.not ?_) | ((with_reducible first | refine HT.region tt_ok ?_ | refine HT.drawn tt_ok (by kernel_rfl) (by decide +kernel) ?_ | refine HT.drawnL tt_ok (by kernel_rfl) (by decide +kernel) ?_ | refine HT.cond ?_ | refine HT.ret ?_ | refine HT.skip ?_ | refine HT.exit ?_ | refine Br.tt ?_ | refine Br.ff ?_); conv => whnf) | ((with_reducible first | refine Br.dec (fun hc => ?_) (fun hc => ?_) | refine Br.eq (fun hc => ?_) (fun hc => ?_) | refine Br.ne (fun hc => ?_) (fun hc => ?_)) <;> (first | (exfalso; omega) | conv => whnf)) | ((with_reducible first | refine Br.ttE (by decide) ?_ | refine Br.ffE (by decide) ?_ | refine Br.mk (fun hc => ?_) (fun hc => ?_) | refine Chk.mk (by first | omega | with_reducible rfl | (refine ⟨rfl, ?_⟩; omega) | decide | exact ⟨rfl, by omega, by omega, rfl⟩ | exact ⟨by assumption, rfl, by omega, by omega⟩) ?_ | refine Ar.fit (by omega) ?_ | refine Eqv.shr1 ?_ | refine Ar.u64 (by omega) ?_) <;> conv => whnf) | (with_reducible exact trivial) | ((with_reducible refine And.intro ?_ ?_) <;> conv => whnf) | (intro gn; conv => whnf))
  · exact Fin.gx (r' := .b true) (by refine PP.start ?_; repeat (first | exact PP.nil | refine PP.take (by first | with_reducible exact Hp.Sub.refl _ | exact Hp.Sub.rd (by omega) | exact Hp.Sub.boxA (by (repeat (first | exact all_lt_zero | refine all_lt_succ (p := fun j => CellLe _ _) (by first | with_reducible exact CellLe.refl _ | exact CellLe.own | exact CellLe.i (by omega) | exact CellLe.nil | exact CellLe.slNil | exact CellLe.refl _) ?_))) | exact Hp.Sub.refl _) ?_ | refine PP.skip ?_)) (CellLe.refl _) rfl
  refine CallN.ret _ (DrawWL_c zs hz (by omega)) ?_
  rintro r ⟨c, vs, ls, wave, hcl, hvl, hbv, hll, rfl⟩
  have hp : ∀ v ∈ vs, v.ps.length ≤ 10000000 := bv_ps hbv (by omega)
  conv => whnf
  have hL1 := implWL_c u c vs ls wave (by omega) (by omega) hp (by omega)
  have hL2 := specWL_c c vs ls wave (by omega) (by omega) hp (by omega)
  by_cases hb : wvOk c vs ls = true ∧ 1 ≤ wave ∧ wave ≤ (ls.length : Int)
  rotate_left
  · rw [show wlI c vs ls wave = -1 from if_neg hb] at hL1 hL2
    repeat' (first | (with_reducible first | refine HT.seq ?_ | refine HT.block ?_ | refine Br.not ?_) | ((with_reducible first | refine HT.region tt_ok ?_ | refine HT.drawn tt_ok (by kernel_rfl) (by decide +kernel) ?_ | refine HT.drawnL tt_ok (by kernel_rfl) (by decide +kernel) ?_ | refine HT.cond ?_ | refine HT.ret ?_ | refine HT.skip ?_ | refine HT.exit ?_ | refine Br.tt ?_ | refine Br.ff ?_); conv => whnf) | ((with_reducible first | refine Br.dec (fun hc => ?_) (fun hc => ?_) | refine Br.eq (fun hc => ?_) (fun hc => ?_) | refine Br.ne (fun hc => ?_) (fun hc => ?_)) <;> (first | (exfalso; omega) | conv => whnf)) | ((with_reducible first | refine Br.ttE (by decide) ?_ | refine Br.ffE (by decide) ?_ | refine Br.mk (fun hc => ?_) (fun hc => ?_) | refine Chk.mk (by first | omega | with_reducible rfl | (refine ⟨rfl, ?_⟩; omega) | decide | exact ⟨rfl, by omega, by omega, rfl⟩ | exact ⟨by assumption, rfl, by omega, by omega⟩) ?_ | refine Ar.fit (by omega) ?_ | refine Eqv.shr1 ?_ | refine Ar.u64 (by omega) ?_) <;> conv => whnf) | ((first | refine CallN.ret1 (hL2) ?_ | (refine CallN.gl rfl rfl rfl (hL1) ?_; rintro r rfl)) <;> conv => whnf) | (with_reducible exact trivial) | ((with_reducible refine And.intro ?_ ?_) <;> conv => whnf) | (intro gn; conv => whnf))
    all_goals first | (exfalso; omega) | (exfalso; simp_all; done) | exact Fin.gx (r' := .b true) (by refine PP.start ?_; repeat (first | exact PP.nil | refine PP.take (by first | with_reducible exact Hp.Sub.refl _ | exact Hp.Sub.rd (by omega) | exact Hp.Sub.boxA (by (repeat (first | exact all_lt_zero | refine all_lt_succ (p := fun j => CellLe _ _) (by first | with_reducible exact CellLe.refl _ | exact CellLe.own | exact CellLe.i (by omega) | exact CellLe.nil | exact CellLe.slNil | exact CellLe.refl _) ?_))) | exact Hp.Sub.refl _) ?_ | refine PP.skip ?_)) (CellLe.of_eq (sv_b (by first | rfl | simp_all))) rfl | trace_state
  have hgr := (wv_parts hb.1).1
  have h15 := (wv_parts hb.1).2.1
  cases hfd : fdV vs (2 * wave - 1) (ls.getD (wave - 1).toNat default) with
  | none =>
    rw [wl_none hb.1 hb.2 hfd] at hL1 hL2
    repeat' (first | (with_reducible first | refine HT.seq ?_ | refine HT.block ?_ | refine Br.not ?_) | ((with_reducible first | refine HT.region tt_ok ?_ | refine HT.drawn tt_ok (by kernel_rfl) (by decide +kernel) ?_ | refine HT.drawnL tt_ok (by kernel_rfl) (by decide +kernel) ?_ | refine HT.cond ?_ | refine HT.ret ?_ | refine HT.skip ?_ | refine HT.exit ?_ | refine Br.tt ?_ | refine Br.ff ?_); conv => whnf) | ((with_reducible first | refine Br.dec (fun hc => ?_) (fun hc => ?_) | refine Br.eq (fun hc => ?_) (fun hc => ?_) | refine Br.ne (fun hc => ?_) (fun hc => ?_)) <;> (first | (exfalso; omega) | conv => whnf)) | ((with_reducible first | refine Br.ttE (by decide) ?_ | refine Br.ffE (by decide) ?_ | refine Br.mk (fun hc => ?_) (fun hc => ?_) | refine Chk.mk (by first | omega | with_reducible rfl | (refine ⟨rfl, ?_⟩; omega) | decide | exact ⟨rfl, by omega, by omega, rfl⟩ | exact ⟨by assumption, rfl, by omega, by omega⟩) ?_ | refine Ar.fit (by omega) ?_ | refine Eqv.shr1 ?_ | refine Ar.u64 (by omega) ?_) <;> conv => whnf) | ((first | refine CallN.ret1 (hL2) ?_ | (refine CallN.gl rfl rfl rfl (hL1) ?_; rintro r rfl)) <;> conv => whnf) | (with_reducible exact trivial) | ((with_reducible refine And.intro ?_ ?_) <;> conv => whnf) | (intro gn; conv => whnf))
    all_goals first | (exfalso; omega) | (exfalso; simp_all; done) | exact Fin.gx (r' := .b true) (by refine PP.start ?_; repeat (first | exact PP.nil | refine PP.take (by first | with_reducible exact Hp.Sub.refl _ | exact Hp.Sub.rd (by omega) | exact Hp.Sub.boxA (by (repeat (first | exact all_lt_zero | refine all_lt_succ (p := fun j => CellLe _ _) (by first | with_reducible exact CellLe.refl _ | exact CellLe.own | exact CellLe.i (by omega) | exact CellLe.nil | exact CellLe.slNil | exact CellLe.refl _) ?_))) | exact Hp.Sub.refl _) ?_ | refine PP.skip ?_)) (CellLe.of_eq (sv_b (by first | rfl | simp_all))) rfl | trace_state
  | some i =>
    rw [wl_some hb.1 hb.2 hfd] at hL1 hL2
    obtain ⟨hil, hir, hia, -⟩ := fd_some hfd
    have hir2 : (vs.getD ((i : Int)).toNat default).r = 2 * wave - 1 := by rw [Int.toNat_natCast]; exact hir
    have hia2 : (vs.getD ((i : Int)).toNat default).a = ls.getD (wave - 1).toNat default := by rw [Int.toNat_natCast]; exact hia
    have hG := implGF_c c vs (2 * wave - 1) (ls.getD (wave - 1).toNat default) (by omega) (by omega) hp
    rw [show gfI c vs (2 * wave - 1) (ls.getD (wave - 1).toNat default) = (i : Int) by unfold gfI; rw [if_pos hgr]; exact fdI_some hfd] at hG
    repeat' (first | (with_reducible first | refine HT.seq ?_ | refine HT.block ?_ | refine Br.not ?_) | ((with_reducible first | refine HT.region tt_ok ?_ | refine HT.drawn tt_ok (by kernel_rfl) (by decide +kernel) ?_ | refine HT.drawnL tt_ok (by kernel_rfl) (by decide +kernel) ?_ | refine HT.cond ?_ | refine HT.ret ?_ | refine HT.skip ?_ | refine HT.exit ?_ | refine Br.tt ?_ | refine Br.ff ?_); conv => whnf) | ((with_reducible first | refine Br.dec (fun hc => ?_) (fun hc => ?_) | refine Br.eq (fun hc => ?_) (fun hc => ?_) | refine Br.ne (fun hc => ?_) (fun hc => ?_)) <;> (first | (exfalso; omega) | conv => whnf)) | ((with_reducible first | refine Br.ttE (by decide) ?_ | refine Br.ffE (by decide) ?_ | refine Br.mk (fun hc => ?_) (fun hc => ?_) | refine Chk.mk (by first | omega | with_reducible rfl | (refine ⟨rfl, ?_⟩; omega) | decide | exact ⟨rfl, by omega, by omega, rfl⟩ | exact ⟨by assumption, rfl, by omega, by omega⟩) ?_ | refine Ar.fit (by omega) ?_ | refine Eqv.shr1 ?_ | refine Ar.u64 (by omega) ?_) <;> conv => whnf) | ((first | refine CallN.ret1 (hL2) ?_ | refine CallN.ret1 (hG) ?_ | (refine CallN.gl rfl rfl rfl (hL1) ?_; rintro r rfl)) <;> conv => whnf) | (with_reducible exact trivial) | ((with_reducible refine And.intro ?_ ?_) <;> conv => whnf) | (intro gn; conv => whnf))
    all_goals first | (exfalso; omega) | (exfalso; simp_all; done) | exact Fin.gx (r' := .b true) (by refine PP.start ?_; repeat (first | exact PP.nil | refine PP.take (by first | with_reducible exact Hp.Sub.refl _ | exact Hp.Sub.rd (by omega) | exact Hp.Sub.boxA (by (repeat (first | exact all_lt_zero | refine all_lt_succ (p := fun j => CellLe _ _) (by first | with_reducible exact CellLe.refl _ | exact CellLe.own | exact CellLe.i (by omega) | exact CellLe.nil | exact CellLe.slNil | exact CellLe.refl _) ?_))) | exact Hp.Sub.refl _) ?_ | refine PP.skip ?_)) (CellLe.of_eq (sv_b (by first | rfl | simp_all))) rfl | trace_state
  ⟩
set_option maxRecDepth 100000 in
set_option maxHeartbeats 4000000 in
theorem FnWaveVotes_c (u : Ers) (zs : List Int) (hz : ∀ z ∈ zs, 0 ≤ z ∧ z ≤ 255) : SGx Tryd.prog u 7 [.sl 1 zs.length (rowF u8F zs)] (· = .b true) := ⟨fun R => by
  refine SCalls.enter tt_ok Tryd.func7 (by kernel_rfl) rfl [(800, erH 0 u.y0 u.t0 u.v0), (801, erH 1 u.y1 u.t1 u.v1), (802, erH 2 u.y2 u.t2 u.v2), (803, .cust (erC u)), (900, .cust R)] rfl (argF _) (fun w F v k h => h) (by simp) ?_
  repeat' (first | (with_reducible first | refine HT.seq ?_ | refine HT.block ?_ | refine Br.not ?_) | ((with_reducible first | refine HT.region tt_ok ?_ | refine HT.drawn tt_ok (by kernel_rfl) (by decide +kernel) ?_ | refine HT.drawnL tt_ok (by kernel_rfl) (by decide +kernel) ?_ | refine HT.cond ?_ | refine HT.ret ?_ | refine HT.skip ?_ | refine HT.exit ?_ | refine Br.tt ?_ | refine Br.ff ?_); conv => whnf) | ((with_reducible first | refine Br.dec (fun hc => ?_) (fun hc => ?_) | refine Br.eq (fun hc => ?_) (fun hc => ?_) | refine Br.ne (fun hc => ?_) (fun hc => ?_)) <;> (first | (exfalso; omega) | conv => whnf)) | ((with_reducible first | refine Br.ttE (by decide) ?_ | refine Br.ffE (by decide) ?_ | refine Br.mk (fun hc => ?_) (fun hc => ?_) | refine Chk.mk (by first | omega | with_reducible rfl | (refine ⟨rfl, ?_⟩; omega) | decide | exact ⟨rfl, by omega, by omega, rfl⟩ | exact ⟨by assumption, rfl, by omega, by omega⟩) ?_ | refine Ar.fit (by omega) ?_ | refine Eqv.shr1 ?_ | refine Ar.u64 (by omega) ?_) <;> conv => whnf) | (with_reducible exact trivial) | ((with_reducible refine And.intro ?_ ?_) <;> conv => whnf) | (intro gn; conv => whnf))
  · exact Fin.gx (r' := .b true) (by refine PP.start ?_; repeat (first | exact PP.nil | refine PP.take (by first | with_reducible exact Hp.Sub.refl _ | exact Hp.Sub.rd (by omega) | exact Hp.Sub.boxA (by (repeat (first | exact all_lt_zero | refine all_lt_succ (p := fun j => CellLe _ _) (by first | with_reducible exact CellLe.refl _ | exact CellLe.own | exact CellLe.i (by omega) | exact CellLe.nil | exact CellLe.slNil | exact CellLe.refl _) ?_))) | exact Hp.Sub.refl _) ?_ | refine PP.skip ?_)) (CellLe.refl _) rfl
  refine CallN.ret _ (DrawWV_c zs hz (by omega)) ?_
  rintro r ⟨c, vs, ls, wave, hcl, hvl, hbv, hll, rfl⟩
  have hp : ∀ v ∈ vs, v.ps.length ≤ 10000000 := bv_ps hbv (by omega)
  conv => whnf
  have hV1 := implWV_c u c vs ls wave (by omega) (by omega) hp (by omega)
  have hV2 := specWV_c c vs ls wave (by omega) (by omega) hp (by omega)
  have hL1 := implWL_c u c vs ls wave (by omega) (by omega) hp (by omega)
  by_cases hb : wvOk c vs ls = true ∧ 1 ≤ wave ∧ wave ≤ (ls.length : Int)
  rotate_left
  · rw [show vwI c vs ls wave = -1 from if_neg hb] at hV1 hV2
    repeat' (first | (with_reducible first | refine HT.seq ?_ | refine HT.block ?_ | refine Br.not ?_) | ((with_reducible first | refine HT.region tt_ok ?_ | refine HT.drawn tt_ok (by kernel_rfl) (by decide +kernel) ?_ | refine HT.drawnL tt_ok (by kernel_rfl) (by decide +kernel) ?_ | refine HT.cond ?_ | refine HT.ret ?_ | refine HT.skip ?_ | refine HT.exit ?_ | refine Br.tt ?_ | refine Br.ff ?_); conv => whnf) | ((with_reducible first | refine Br.dec (fun hc => ?_) (fun hc => ?_) | refine Br.eq (fun hc => ?_) (fun hc => ?_) | refine Br.ne (fun hc => ?_) (fun hc => ?_)) <;> (first | (exfalso; omega) | conv => whnf)) | ((with_reducible first | refine Br.ttE (by decide) ?_ | refine Br.ffE (by decide) ?_ | refine Br.mk (fun hc => ?_) (fun hc => ?_) | refine Chk.mk (by first | omega | with_reducible rfl | (refine ⟨rfl, ?_⟩; omega) | decide | exact ⟨rfl, by omega, by omega, rfl⟩ | exact ⟨by assumption, rfl, by omega, by omega⟩) ?_ | refine Ar.fit (by omega) ?_ | refine Eqv.shr1 ?_ | refine Ar.u64 (by omega) ?_) <;> conv => whnf) | ((first | refine CallN.ret1 (hV2) ?_ | (refine CallN.gx rfl rfl rfl rfl (hV1) ?_; rintro r rfl)) <;> conv => whnf) | (with_reducible exact trivial) | ((with_reducible refine And.intro ?_ ?_) <;> conv => whnf) | (intro gn; conv => whnf))
    all_goals first | (exfalso; omega) | (exfalso; simp_all; done) | exact Fin.gx (r' := .b true) (by refine PP.start ?_; repeat (first | exact PP.nil | refine PP.take (by first | with_reducible exact Hp.Sub.refl _ | exact Hp.Sub.rd (by omega) | exact Hp.Sub.boxA (by (repeat (first | exact all_lt_zero | refine all_lt_succ (p := fun j => CellLe _ _) (by first | with_reducible exact CellLe.refl _ | exact CellLe.own | exact CellLe.i (by omega) | exact CellLe.nil | exact CellLe.slNil | exact CellLe.refl _) ?_))) | exact Hp.Sub.refl _) ?_ | refine PP.skip ?_)) (CellLe.of_eq (sv_b (by first | rfl | simp_all))) rfl | trace_state
  have hgr := (wv_parts hb.1).1
  have h15 := (wv_parts hb.1).2.1
  have hcm := (grOk_iff.1 hgr).1
  have hG := (grOk_iff.1 hgr).2
  have h7 := (cmOk_iff.1 hcm).1
  have hvv : vwI c vs ls wave = vtS c vs (2 * wave) (ls.getD (wave - 1).toNat default) := by
    rw [vw_in hb.1 hb.2]
    cases hfd : fdV vs (2 * wave - 1) (ls.getD (wave - 1).toNat default) with
    | none => rw [vwS_none hfd, votes_zero hG hfd]
    | some i => exact vwS_some hfd
  have hwl : vtS c vs (2 * wave) (ls.getD (wave - 1).toNat default) ≠ 0 → 0 ≤ wlI c vs ls wave := fun hne => by
    rw [wl_in hb.1 hb.2]
    cases hfd : fdV vs (2 * wave - 1) (ls.getD (wave - 1).toNat default) with
    | none => exact absurd (votes_zero hG hfd) hne
    | some i => rw [fdI_some hfd]; omega
  have hbd := vtS_part (c := c) (vs := vs) (r := 2 * wave) (ld := ls.getD (wave - 1).toNat default) hcm (Nat.le_refl _)
  rw [hvv] at hV1 hV2
  obtain ⟨vt, hvt⟩ : ∃ vt, vtS c vs (2 * wave) (ls.getD (wave - 1).toNat default) = vt := ⟨_, rfl⟩
  have hbd2 : 0 ≤ vt ∧ vt ≤ 63 := by rw [← hvt]; exact hbd
  rw [hvt] at hV1 hV2 hwl
  repeat' (first | (with_reducible first | refine HT.seq ?_ | refine HT.block ?_ | refine Br.not ?_) | ((with_reducible first | refine HT.region tt_ok ?_ | refine HT.drawn tt_ok (by kernel_rfl) (by decide +kernel) ?_ | refine HT.drawnL tt_ok (by kernel_rfl) (by decide +kernel) ?_ | refine HT.cond ?_ | refine HT.ret ?_ | refine HT.skip ?_ | refine HT.exit ?_ | refine Br.tt ?_ | refine Br.ff ?_); conv => whnf) | ((with_reducible first | refine Br.dec (fun hc => ?_) (fun hc => ?_) | refine Br.eq (fun hc => ?_) (fun hc => ?_) | refine Br.ne (fun hc => ?_) (fun hc => ?_)) <;> (first | (exfalso; omega) | conv => whnf)) | ((with_reducible first | refine Br.ttE (by decide) ?_ | refine Br.ffE (by decide) ?_ | refine Br.mk (fun hc => ?_) (fun hc => ?_) | refine Chk.mk (by first | omega | with_reducible rfl | (refine ⟨rfl, ?_⟩; omega) | decide | exact ⟨rfl, by omega, by omega, rfl⟩ | exact ⟨by assumption, rfl, by omega, by omega⟩) ?_ | refine Ar.fit (by omega) ?_ | refine Eqv.shr1 ?_ | refine Ar.u64 (by omega) ?_) <;> conv => whnf) | ((first | refine CallN.ret1 (hV2) ?_ | (refine CallN.gx rfl rfl rfl rfl (hV1) ?_; rintro r rfl)) <;> conv => whnf) | (with_reducible exact trivial) | ((with_reducible refine And.intro ?_ ?_) <;> conv => whnf) | (intro gn; conv => whnf))
  all_goals (try (exfalso; omega))
  refine HT.loopS [0, 2, 3, 4, 5, 6, 7, 8, 13, 37] (fun k : Nat => [(10, .i k), (9, .i (sumTo (vwF c vs (2 * wave) (ls.getD (wave - 1).toNat default)) k))]) (fun k : Nat => k ≤ vs.length) (fun k : Nat => vs.length - k) 0 (Nat.zero_le _) ⟨rfl, rfl, trivial⟩ ?_
  conv => whnf
  intro k hk
  have hb2 := vwF_part (r := 2 * wave) (ld := ls.getD (wave - 1).toNat default) hcm hG hk
  by_cases hkl : k < vs.length
  rotate_left
  · obtain rfl : k = vs.length := by omega
    have hsum : sumTo (vwF c vs (2 * wave) (ls.getD (wave - 1).toNat default)) vs.length = vt := by rw [votes_eq hG]; exact hvt
    rw [hsum]
    by_cases h0 : vt = 0
    · repeat' (first | (with_reducible first | refine HT.seq ?_ | refine HT.block ?_ | refine Br.not ?_) | ((with_reducible first | refine HT.region tt_ok ?_ | refine HT.drawn tt_ok (by kernel_rfl) (by decide +kernel) ?_ | refine HT.drawnL tt_ok (by kernel_rfl) (by decide +kernel) ?_ | refine HT.cond ?_ | refine HT.ret ?_ | refine HT.skip ?_ | refine HT.exit ?_ | refine Br.tt ?_ | refine Br.ff ?_); conv => whnf) | ((with_reducible first | refine Br.dec (fun hc => ?_) (fun hc => ?_) | refine Br.eq (fun hc => ?_) (fun hc => ?_) | refine Br.ne (fun hc => ?_) (fun hc => ?_)) <;> (first | (exfalso; omega) | conv => whnf)) | ((with_reducible first | refine Br.ttE (by decide) ?_ | refine Br.ffE (by decide) ?_ | refine Br.mk (fun hc => ?_) (fun hc => ?_) | refine Chk.mk (by first | omega | with_reducible rfl | (refine ⟨rfl, ?_⟩; omega) | decide | exact ⟨rfl, by omega, by omega, rfl⟩ | exact ⟨by assumption, rfl, by omega, by omega⟩) ?_ | refine Ar.fit (by omega) ?_ | refine Eqv.shr1 ?_ | refine Ar.u64 (by omega) ?_) <;> conv => whnf) | ((first | (refine CallN.gl rfl rfl rfl (hL1) ?_; rintro r rfl)) <;> conv => whnf) | (with_reducible exact trivial) | ((with_reducible refine And.intro ?_ ?_) <;> conv => whnf) | (intro gn; conv => whnf))
      all_goals first | (exfalso; omega) | (exfalso; simp_all; done) | exact Fin.gx (r' := .b true) (by refine PP.start ?_; repeat (first | exact PP.nil | refine PP.take (by first | with_reducible exact Hp.Sub.refl _ | exact Hp.Sub.rd (by omega) | exact Hp.Sub.boxA (by (repeat (first | exact all_lt_zero | refine all_lt_succ (p := fun j => CellLe _ _) (by first | with_reducible exact CellLe.refl _ | exact CellLe.own | exact CellLe.i (by omega) | exact CellLe.nil | exact CellLe.slNil | exact CellLe.refl _) ?_))) | exact Hp.Sub.refl _) ?_ | refine PP.skip ?_)) (CellLe.of_eq (sv_b (by first | rfl | simp_all))) rfl | trace_state
    · have hwl0 := hwl h0
      repeat' (first | (with_reducible first | refine HT.seq ?_ | refine HT.block ?_ | refine Br.not ?_) | ((with_reducible first | refine HT.region tt_ok ?_ | refine HT.drawn tt_ok (by kernel_rfl) (by decide +kernel) ?_ | refine HT.drawnL tt_ok (by kernel_rfl) (by decide +kernel) ?_ | refine HT.cond ?_ | refine HT.ret ?_ | refine HT.skip ?_ | refine HT.exit ?_ | refine Br.tt ?_ | refine Br.ff ?_); conv => whnf) | ((with_reducible first | refine Br.dec (fun hc => ?_) (fun hc => ?_) | refine Br.eq (fun hc => ?_) (fun hc => ?_) | refine Br.ne (fun hc => ?_) (fun hc => ?_)) <;> (first | (exfalso; omega) | conv => whnf)) | ((with_reducible first | refine Br.ttE (by decide) ?_ | refine Br.ffE (by decide) ?_ | refine Br.mk (fun hc => ?_) (fun hc => ?_) | refine Chk.mk (by first | omega | with_reducible rfl | (refine ⟨rfl, ?_⟩; omega) | decide | exact ⟨rfl, by omega, by omega, rfl⟩ | exact ⟨by assumption, rfl, by omega, by omega⟩) ?_ | refine Ar.fit (by omega) ?_ | refine Eqv.shr1 ?_ | refine Ar.u64 (by omega) ?_) <;> conv => whnf) | ((first | (refine CallN.gl rfl rfl rfl (hL1) ?_; rintro r rfl)) <;> conv => whnf) | (with_reducible exact trivial) | ((with_reducible refine And.intro ?_ ?_) <;> conv => whnf) | (intro gn; conv => whnf))
      all_goals first | (exfalso; omega) | (exfalso; simp_all; done) | exact Fin.gx (r' := .b true) (by refine PP.start ?_; repeat (first | exact PP.nil | refine PP.take (by first | with_reducible exact Hp.Sub.refl _ | exact Hp.Sub.rd (by omega) | exact Hp.Sub.boxA (by (repeat (first | exact all_lt_zero | refine all_lt_succ (p := fun j => CellLe _ _) (by first | with_reducible exact CellLe.refl _ | exact CellLe.own | exact CellLe.i (by omega) | exact CellLe.nil | exact CellLe.slNil | exact CellLe.refl _) ?_))) | exact Hp.Sub.refl _) ?_ | refine PP.skip ?_)) (CellLe.of_eq (sv_b (by first | rfl | simp_all))) rfl | trace_state
  have hvb := vxOk_iff (st_parts (hG k hkl)).1
  have hpk : (vg vs k).ps.length ≤ 7 := by have h1 := ms_len hvb.2.2.1; omega
  have hca := (cmOk_iff.1 hcm).2 (vg vs k).a.toNat (by omega)
  have hvb2 : 0 ≤ (vs.getD ((k : Int)).toNat default).a ∧ (vs.getD ((k : Int)).toNat default).a < c.length := by rw [Int.toNat_natCast]; show 0 ≤ (vg vs k).a ∧ (vg vs k).a < c.length; omega
  have hca2 : 1 ≤ c.getD (vs.getD ((k : Int)).toNat default).a.toNat default ∧ c.getD (vs.getD ((k : Int)).toNat default).a.toNat default ≤ 9 := by rw [Int.toNat_natCast]; exact hca
  have hH : SRet Tryd.prog 24 [isl (vs.getD ((k : Int)).toNat default).ps, .i (ls.getD (wave - 1).toNat default)] (· = .b (decide (ls.getD (wave - 1).toNat default ∈ (vg vs k).ps))) := by rw [Int.toNat_natCast]; exact hasIW_c _ _ (by show (vg vs k).ps.length ≤ _; omega)
  by_cases hr : (vg vs k).r = 2 * wave
  · have hr2 : (vs.getD ((k : Int)).toNat default).r = 2 * wave := by rw [Int.toNat_natCast]; exact hr
    by_cases hm : ls.getD (wave - 1).toNat default ∈ (vg vs k).ps
    · have hw1 : vwF c vs (2 * wave) (ls.getD (wave - 1).toNat default) k = c.getD (vs.getD k default).a.toNat default := if_pos ⟨hr, hm⟩
      repeat' (first | (with_reducible first | refine HT.seq ?_ | refine HT.block ?_ | refine Br.not ?_) | ((with_reducible first | refine HT.region tt_ok ?_ | refine HT.drawn tt_ok (by kernel_rfl) (by decide +kernel) ?_ | refine HT.drawnL tt_ok (by kernel_rfl) (by decide +kernel) ?_ | refine HT.cond ?_ | refine HT.ret ?_ | refine HT.skip ?_ | refine HT.exit ?_ | refine Br.tt ?_ | refine Br.ff ?_); conv => whnf) | ((with_reducible first | refine Br.dec (fun hc => ?_) (fun hc => ?_) | refine Br.eq (fun hc => ?_) (fun hc => ?_) | refine Br.ne (fun hc => ?_) (fun hc => ?_)) <;> (first | (exfalso; omega) | conv => whnf)) | ((with_reducible first | refine Br.ttE (by decide) ?_ | refine Br.ffE (by decide) ?_ | refine Br.mk (fun hc => ?_) (fun hc => ?_) | refine Chk.mk (by first | omega | with_reducible rfl | (refine ⟨rfl, ?_⟩; omega) | decide | exact ⟨rfl, by omega, by omega, rfl⟩ | exact ⟨by assumption, rfl, by omega, by omega⟩) ?_ | refine Ar.fit (by omega) ?_ | refine Eqv.shr1 ?_ | refine Ar.u64 (by omega) ?_) <;> conv => whnf) | ((first | refine CallN.ret1 (hH.bt (decide_eq_true hm)) ?_) <;> conv => whnf) | (with_reducible exact trivial) | ((with_reducible refine And.intro ?_ ?_) <;> conv => whnf) | (intro gn; conv => whnf))
      all_goals (try simp only [Int.toNat_natCast] at *)
      all_goals first | (exfalso; omega) | exact ⟨⟨k + 1, by omega, by omega, (by repeat' (first | exact trivial | refine ⟨rfl, ?_⟩)), ⟨sv_i (by omega), sv_i (by show _ = sumTo _ k + vwF c vs (2 * wave) _ k; omega), trivial⟩, (HLe.sub (by repeat (first | exact List.Sublist.refl _ | refine List.Sublist.cons_cons _ ?_ | refine List.Sublist.cons _ ?_)))⟩⟩
    · have hw0 : vwF c vs (2 * wave) (ls.getD (wave - 1).toNat default) k = 0 := if_neg fun h => hm h.2
      repeat' (first | (with_reducible first | refine HT.seq ?_ | refine HT.block ?_ | refine Br.not ?_) | ((with_reducible first | refine HT.region tt_ok ?_ | refine HT.drawn tt_ok (by kernel_rfl) (by decide +kernel) ?_ | refine HT.drawnL tt_ok (by kernel_rfl) (by decide +kernel) ?_ | refine HT.cond ?_ | refine HT.ret ?_ | refine HT.skip ?_ | refine HT.exit ?_ | refine Br.tt ?_ | refine Br.ff ?_); conv => whnf) | ((with_reducible first | refine Br.dec (fun hc => ?_) (fun hc => ?_) | refine Br.eq (fun hc => ?_) (fun hc => ?_) | refine Br.ne (fun hc => ?_) (fun hc => ?_)) <;> (first | (exfalso; omega) | conv => whnf)) | ((with_reducible first | refine Br.ttE (by decide) ?_ | refine Br.ffE (by decide) ?_ | refine Br.mk (fun hc => ?_) (fun hc => ?_) | refine Chk.mk (by first | omega | with_reducible rfl | (refine ⟨rfl, ?_⟩; omega) | decide | exact ⟨rfl, by omega, by omega, rfl⟩ | exact ⟨by assumption, rfl, by omega, by omega⟩) ?_ | refine Ar.fit (by omega) ?_ | refine Eqv.shr1 ?_ | refine Ar.u64 (by omega) ?_) <;> conv => whnf) | ((first | refine CallN.ret1 (hH.bf (decide_eq_false hm)) ?_) <;> conv => whnf) | (with_reducible exact trivial) | ((with_reducible refine And.intro ?_ ?_) <;> conv => whnf) | (intro gn; conv => whnf))
      all_goals (try simp only [Int.toNat_natCast] at *)
      all_goals first | (exfalso; omega) | exact ⟨⟨k + 1, by omega, by omega, (by repeat' (first | exact trivial | refine ⟨rfl, ?_⟩)), ⟨sv_i (by omega), sv_i (by show _ = sumTo _ k + vwF c vs (2 * wave) _ k; omega), trivial⟩, (HLe.sub (by repeat (first | exact List.Sublist.refl _ | refine List.Sublist.cons_cons _ ?_ | refine List.Sublist.cons _ ?_)))⟩⟩
  · have hr2 : ¬ (vs.getD ((k : Int)).toNat default).r = 2 * wave := by rw [Int.toNat_natCast]; exact hr
    have hw0 : vwF c vs (2 * wave) (ls.getD (wave - 1).toNat default) k = 0 := if_neg fun h => hr h.1
    repeat' (first | (with_reducible first | refine HT.seq ?_ | refine HT.block ?_ | refine Br.not ?_) | ((with_reducible first | refine HT.region tt_ok ?_ | refine HT.drawn tt_ok (by kernel_rfl) (by decide +kernel) ?_ | refine HT.drawnL tt_ok (by kernel_rfl) (by decide +kernel) ?_ | refine HT.cond ?_ | refine HT.ret ?_ | refine HT.skip ?_ | refine HT.exit ?_ | refine Br.tt ?_ | refine Br.ff ?_); conv => whnf) | ((with_reducible first | refine Br.dec (fun hc => ?_) (fun hc => ?_) | refine Br.eq (fun hc => ?_) (fun hc => ?_) | refine Br.ne (fun hc => ?_) (fun hc => ?_)) <;> (first | (exfalso; omega) | conv => whnf)) | ((with_reducible first | refine Br.ttE (by decide) ?_ | refine Br.ffE (by decide) ?_ | refine Br.mk (fun hc => ?_) (fun hc => ?_) | refine Chk.mk (by first | omega | with_reducible rfl | (refine ⟨rfl, ?_⟩; omega) | decide | exact ⟨rfl, by omega, by omega, rfl⟩ | exact ⟨by assumption, rfl, by omega, by omega⟩) ?_ | refine Ar.fit (by omega) ?_ | refine Eqv.shr1 ?_ | refine Ar.u64 (by omega) ?_) <;> conv => whnf) | (with_reducible exact trivial) | ((with_reducible refine And.intro ?_ ?_) <;> conv => whnf) | (intro gn; conv => whnf))
    all_goals (try simp only [Int.toNat_natCast] at *)
    all_goals first | (exfalso; omega) | exact ⟨⟨k + 1, by omega, by omega, (by repeat' (first | exact trivial | refine ⟨rfl, ?_⟩)), ⟨sv_i (by omega), sv_i (by show _ = sumTo _ k + vwF c vs (2 * wave) _ k; omega), trivial⟩, (HLe.sub (by repeat (first | exact List.Sublist.refl _ | refine List.Sublist.cons_cons _ ?_ | refine List.Sublist.cons _ ?_)))⟩⟩
  ⟩
end Go.Proofs.YtpmhikdefbcofaaDoor
/-! YtpmhikdefbcofaaDoorWg -/
set_option linter.all false
set_option maxRecDepth 100000
namespace Go.Proofs.YtpmhikdefbcofaaDoor
open Go.ChangeShapes Go.WideShapes Go.ChangeAt Go.RowKit

theorem not_str {W : World} {b : Nat} {t y : TypeId} {v : Value} {a : Addr} {s : ByteArray} (h : W.heap[b]? = some (.cells #[.iface t v] y (0, 0))) (hu : W.cell? a = some (.string s)) (e : a.block = b) : False := by
  subst e
  simp only [World.cell?, h] at hu
  split at hu
  · cases hu
  · have hu' : (#[Value.iface t v] : Array Value)[a.off]? = some (.string s) := hu
    obtain ⟨hlt, e⟩ := Array.getElem?_eq_some_iff.1 hu'
    have h0 : a.off = 0 := by simp at hlt; omega
    simp only [h0] at e
    cases e
theorem u8_out {W : World} {u : Ers} (g : GAt W u) {l : List Int} {v : Value} (h : Has W (allF W) (.sl 1 l.length (rowF u8F l)) v) : Has W (GF W) (.sl 1 l.length (rowF u8F l)) v := by
  obtain ⟨A, c, e, h1, h2, h⟩ := h
  refine ⟨A, c, e, h1, h2, fun hp => ?_⟩
  obtain ⟨b, off, eA, hb, hc⟩ := h hp
  obtain ⟨x, hx, _, hz⟩ := hc 0 0 hp (by omega)
  have ng : ∀ {b off : Nat} {t y : TypeId} {v u : Value} {z : Int}, W.heap[b]? = some (.cells #[.iface t v] y (0, 0)) → W.cell? ⟨b, off, none⟩ = some u → u = .int .u8 z → False := fun {b off t y v u z} h hu hz => by
    subst hz
    simp only [World.cell?, h] at hu
    have hu' : (#[Value.iface t v] : Array Value)[off]? = some (.int .u8 z) := by simpa using hu
    obtain ⟨hlt, e⟩ := Array.getElem?_eq_some_iff.1 hu'
    have h0 : off = 0 := by simp at hlt; omega
    subst h0
    cases e
  refine ⟨b, off, eA, ⟨hb, ?_, ?_, ?_⟩, fun i k hi hk => ?_⟩
  · rintro rfl; exact ng g.b0 hx hz
  · rintro rfl; exact ng g.b1 hx hz
  · rintro rfl; exact ng g.b2 hx hz
  · obtain ⟨y, hy, ho, hyz⟩ := hc i k hi hk
    refine ⟨y, hy, ho, ?_⟩
    obtain rfl : k = 0 := by omega
    exact hyz
theorem sentX_of_laid {W : World} (h : laidMet Tryd.prog laid3 W) :
    ∃ (a0 a1 a2 : Addr) (y0 y1 y2 : TypeId), W.heap[0]? = some (.cells #[.iface 129 (.pointer (some a0))] y0 (0, 0)) ∧ W.heap[1]? = some (.cells #[.iface 129 (.pointer (some a1))] y1 (0, 0)) ∧ W.heap[2]? = some (.cells #[.iface 129 (.pointer (some a2))] y2 (0, 0)) ∧ (a0 ≠ a1 ∧ a0 ≠ a2 ∧ a1 ≠ a2) ∧ (GF W a0.block ∧ GF W a1.block ∧ GF W a2.block) ∧ (∃ c t, W.heap[a0.block]? = some (.cells c t (0, 0))) ∧ (∃ c t, W.heap[a1.block]? = some (.cells c t (0, 0))) ∧ (∃ c t, W.heap[a2.block]? = some (.cells c t (0, 0))) := by
  obtain ⟨ps, ⟨g0, t0, cs0, f0, p0, q0, hg0, ht0, hv0, hd0, ⟨g1, t1, cs1, f1, p1, q1, hg1, ht1, hv1, hd1, ⟨g2, t2, cs2, f2, p2, q2, hg2, ht2, hv2, hd2, hq2, e2⟩, e1⟩, e0⟩, hnd, hrows⟩ := h
  obtain rfl := Option.some.inj (Tryd.gn0.symm.trans hg0)
  obtain rfl := Option.some.inj (Tryd.gn1.symm.trans hg1)
  obtain rfl := Option.some.inj (Tryd.gn2.symm.trans hg2)
  obtain rfl := Option.some.inj (Tryd.gt0.symm.trans ht0)
  obtain rfl := Option.some.inj (Tryd.gt1.symm.trans ht1)
  obtain rfl := Option.some.inj (Tryd.gt2.symm.trans ht2)
  have hq2' : q2 = [] := hq2
  subst hq2'
  subst e2
  subst e1
  subst e0
  obtain ⟨l0⟩ := cs0
  obtain ⟨l1⟩ := cs1
  obtain ⟨l2⟩ := cs2
  have ok0 : ∀ u v, l0 = [.iface u v] → Value.okWide Tryd.prog W .any 0 u v := fun u v e => by
    subst e
    exact (hrows 0 0 (by simp [MemPlace.row])).2 u v (by simpa using World.var?_cell hg0 hv0 0)
  have ok1 : ∀ u v, l1 = [.iface u v] → Value.okWide Tryd.prog W .any 0 u v := fun u v e => by
    subst e
    exact (hrows 1 0 (by simp [MemPlace.row])).2 u v (by simpa using World.var?_cell hg1 hv1 0)
  have ok2 : ∀ u v, l2 = [.iface u v] → Value.okWide Tryd.prog W .any 0 u v := fun u v e => by
    subst e
    exact (hrows 2 0 (by simp [MemPlace.row])).2 u v (by simpa using World.var?_cell hg2 hv2 0)
  obtain ⟨a0, s0, rfl, hc0, hs0, hz0, rfl⟩ := errorString_of_trod Tryd.underlying56 Tryd.rowE Tryd.underlying129 Tryd.underlying155 rfl rfl Tryd.underlying9 Tryd.cellsE Tryd.cellsS hd0 ok0
  obtain ⟨a1, s1, rfl, hc1, hs1, hz1, rfl⟩ := errorString_of_trod Tryd.underlying56 Tryd.rowE Tryd.underlying129 Tryd.underlying155 rfl rfl Tryd.underlying9 Tryd.cellsE Tryd.cellsS hd1 ok1
  obtain ⟨a2, s2, rfl, hc2, hs2, hz2, rfl⟩ := errorString_of_trod Tryd.underlying56 Tryd.rowE Tryd.underlying129 Tryd.underlying155 rfl rfl Tryd.underlying9 Tryd.cellsE Tryd.cellsS hd2 ok2
  obtain ⟨c0, y0, hb0⟩ := (hrows 0 0 (by simp [MemPlace.row])).1
  obtain ⟨c1, y1, hb1⟩ := (hrows 1 0 (by simp [MemPlace.row])).1
  obtain ⟨c2, y2, hb2⟩ := (hrows 2 0 (by simp [MemPlace.row])).1
  obtain rfl := var_row hg0 hv0 hb0
  obtain rfl := var_row hg1 hv1 hb1
  obtain rfl := var_row hg2 hv2 hb2
  have k0 := (hrows a0.block a0.off (by simp [MemPlace.row])).1
  have k1 := (hrows a1.block a1.off (by simp [MemPlace.row])).1
  have k2 := (hrows a2.block a2.off (by simp [MemPlace.row])).1
  have gf : ∀ {a : Addr} {s : ByteArray}, W.cell? a = some (.string s) → (∃ c t, W.heap[a.block]? = some (.cells c t (0, 0))) → GF W a.block := fun {a s} hc ⟨c, t, hk⟩ =>
    ⟨(Array.getElem?_eq_some_iff.1 hk).1, fun e => not_str hb0 hc e, fun e => not_str hb1 hc e, fun e => not_str hb2 hc e⟩
  refine ⟨a0, a1, a2, y0, y1, y2, hb0, hb1, hb2, ⟨?_, ?_, ?_⟩, ⟨gf hc0 k0, gf hc1 k1, gf hc2 k2⟩, k0, k1, k2⟩
  all_goals
    rintro rfl
    simp [MemPlace.row] at hnd
theorem law_callsX {f : FuncId} {ss : List SV} (h : ∀ u, SGx Tryd.prog u f ss (· = .b true)) {W : World} {u : Ers} (g : GAt W u) (gk : ErK u W (GF W)) {args : Array Value} (ha : HasL W (GF W) ss args.toList) : Calls Tryd.prog f args W fun e W' => e = .returned (.bool true) ∧ Below W.heap.size W W' := by
  let R0 : Heaplet := ⟨fun _ => False, fun _ _ => True, fun _ _ => trivial, fun _ _ => trivial⟩
  have lt : ∀ {k : Nat} {o : Obj}, W.heap[k]? = some o → k < W.heap.size := fun h => (Array.getElem?_eq_some_iff.1 h).1
  have hbx : ∀ {k y t : Nat} {v : Value}, W.heap[k]? = some (.cells #[.iface t v] y (0, 0)) → (erH k y t v).holds W (GF W) := fun h => ⟨_, h, rfl, fun j hj => by
    obtain rfl : j = 0 := by omega
    exact ⟨rfl, rfl⟩⟩
  have hs0 : HSat W (GF W) (erL u R0) := by
    refine ⟨fun x hx => ?_, fun x hx b hb => ?_, ?_, fun b hb => hb.1⟩
    · simp only [List.mem_cons, List.not_mem_nil, or_false] at hx
      rcases hx with rfl | rfl | rfl | rfl | rfl
      · exact hbx g.b0
      · exact hbx g.b1
      · exact hbx g.b2
      · exact gk
      · trivial
    · simp only [List.mem_cons, List.not_mem_nil, or_false] at hx
      rcases hx with rfl | rfl | rfl | rfl | rfl
      · obtain rfl : b = 0 := hb
        exact ⟨lt g.b0, fun h => h.2.1 rfl⟩
      · obtain rfl : b = 1 := hb
        exact ⟨lt g.b1, fun h => h.2.2.1 rfl⟩
      · obtain rfl : b = 2 := hb
        exact ⟨lt g.b2, fun h => h.2.2.2 rfl⟩
      · exact hb.elim
      · exact hb.elim
    · refine List.pairwise_cons.2 ⟨fun x hx b hb hbx => ?_, List.pairwise_cons.2 ⟨fun x hx b hb hbx => ?_, List.pairwise_cons.2 ⟨fun x hx b hb hbx => ?_, List.pairwise_cons.2 ⟨fun x hx b hb hbx => hb.elim, List.pairwise_singleton _ _⟩⟩⟩⟩
      · obtain rfl : b = 0 := hb
        simp only [List.mem_cons, List.not_mem_nil, or_false] at hx
        rcases hx with rfl | rfl | rfl | rfl
        · cases (show (0 : Nat) = 1 from hbx)
        · cases (show (0 : Nat) = 2 from hbx)
        · exact hbx
        · exact hbx
      · obtain rfl : b = 1 := hb
        simp only [List.mem_cons, List.not_mem_nil, or_false] at hx
        rcases hx with rfl | rfl | rfl
        · cases (show (1 : Nat) = 2 from hbx)
        · exact hbx
        · exact hbx
      · simp only [List.mem_cons, List.not_mem_nil, or_false] at hx
        rcases hx with rfl | rfl
        · exact hbx
        · exact hbx
  refine (((h u).h R0).2 W _ args.toList hs0 ha).mono ?_
  rintro e W' ⟨v, rfl, r, F', H', ⟨rfl, rfl⟩, hk, hF, hs', hr⟩
  have hr : v = .bool true := hr
  subst hr
  have back : ∀ {k y t : Nat} {v : Value}, (erH k y t v).holds W' F' → W'.heap[k]? = some (.cells #[.iface t v] y (0, 0)) := fun ⟨cs, e, hn, hc⟩ => by
    have h0 : cs.getD 0 undef = _ := (hc 0 (by omega)).2
    obtain ⟨l⟩ := cs
    match l, hn with
    | [x], _ =>
      have : x = _ := h0
      rw [e, this]
  refine ⟨rfl, hk.os, hk.tape, hk.output, hk.size, fun b hb => ?_⟩
  by_cases c0 : b = 0
  · subst c0; exact (back (hs'.holds _ List.mem_cons_self)).trans g.b0.symm
  by_cases c1 : b = 1
  · subst c1; exact (back (hs'.holds _ (by simp))).trans g.b1.symm
  by_cases c2 : b = 2
  · subst c2; exact (back (hs'.holds _ (by simp))).trans g.b2.symm
  exact hk.blk b ⟨hb, c0, c1, c2⟩
theorem law_liftedX {H : Type} {enc : TypeId × Value → H} {f : FuncId} {fn : Func} {s : ChangeSpec} {os : Os} (started : os.Started) (hfn : Tryd.checked.prog.funcs[f]? = some fn) (hno : Tryd.checked.prog.inits.idxOf? f = none) {bt : TypeId} (hbt : Tryd.prog.underlying bt = some .bool) (hrt : fn.resultTypes = #[bt])
    (hpr : (fn.params.toList.all fun t => Tryd.prog.readableRec t && Nat.blt t Tryd.prog.types.size) = true) (hv : s.vars = vars3) (hs : ∀ (ds : List (DataW H)) (g0 g1 g2 : DataW H), ds.length = fn.params.size → (s.fn H (ds ++ [g0, g1, g2])).results = [.lit (.bool true)] ∧ (s.fn H (ds ++ [g0, g1, g2])).args = ds ∧ (s.fn H (ds ++ [g0, g1, g2])).vars = [g0, g1, g2])
    (wit : ∃ (w : World) (tape : Tape) (i : Input), w.os = os ∧ (w.forCall tape i).Shaped Tryd.checked.prog ∧ i.vars = [] ∧ Input.okWide Tryd.checked.prog (w.forCall tape i) .any w.heap.size f i ∧
      ((s.pre enc Tryd.checked.prog fn [] false (w.forCall tape i).memory i.args ∧ laidMet Tryd.prog laid3 (w.forCall tape i).memory) ∧ sizedMet enc Tryd.checked.prog fn (OpenSpec.ofChange s) false (w.forCall tape i).memory i.args) ∧ ({} : Assume).holds Tryd.checked.prog (lone (Frame.enter Tryd.checked.prog f i.args .normal) [] (w.forCall tape i)))
    (hc : ∀ (W : World) (base : Nat) (args : Array Value) (ds : List (DataW H)) (ps : List MemPlace) (u : Ers), GAt W u → ErK u W (GF W) → (∀ (j : Nat) t v, fn.params[j]? = some t → args[j]? = some v → Value.okWide Tryd.prog W .any base t v) →
      DataW.TrodAll enc Tryd.prog W 0 (fun _ => true) true fn.params.toList args.toList ds ps → Calls Tryd.prog f args W fun e W' => e = .returned (.bool true) ∧ Below W.heap.size W W') :
    ReturnsInHanded {} Tryd.checked os f .any (fun w args => (s.pre enc Tryd.checked.prog fn [] false w args ∧ laidMet Tryd.prog laid3 w) ∧ sizedMet enc Tryd.checked.prog fn (OpenSpec.ofChange s) false w args) (s.post enc Tryd.checked.prog fn false true false false) := by
  refine returnsInHanded_of_change_and (C := Tryd.checked) (X := fun w _ => laidMet Tryd.prog laid3 w) (fun _ _ _ hh h => h.of_heap hh) Tryd.own started hno hfn wit ?_
  intro W base args ds gs before hval hW _ _ hL _
  have hW' := hW
  obtain ⟨p, q, hA0, hV, rfl, hfz, hnd⟩ := hW
  have hA : DataW.TrodAll enc Tryd.prog W 0 (fun _ => true) true fn.params.toList args.toList ds p := hA0
  have hl : ds.length = fn.params.size := by
    have := trodAll_len hA
    simpa using this
  rw [hv] at hV
  obtain ⟨a0, a1, a2, y0, y1, y2, hb0, hb1, hb2, hne, hgf, hk0, hk1, hk2⟩ := sentX_of_laid hL
  let u : Ers := ⟨y0, y1, y2, 129, 129, 129, .pointer (some a0), .pointer (some a1), .pointer (some a2)⟩
  have g : GAt W u := ⟨hb0, hb1, hb2⟩
  have gk : ErK u W (GF W) := ⟨⟨rfl, rfl, rfl⟩, a0, a1, a2, ⟨rfl, rfl, rfl⟩, hne, hgf, hk0, hk1, hk2⟩
  obtain ⟨rfl, rfl⟩ := hV.unique (vars3_read enc g _)
  obtain ⟨hs1, hs2, hs3⟩ := hs ds _ _ _ hl
  refine (hc W base args ds p u g gk hval hA).mono fun e W' ⟨he, hb⟩ => ⟨_, he, ds, _, _, [], p, [.cell 0 0, .cell 1 0, .cell 2 0], hW', ?_, ?_, ?_, hb.frame _, fun h => by cases h⟩
  · rw [hs1, hrt]
    exact trodAll_mk1 (shut_bool hbt true)
  · rw [hs2]
    exact trodAll_below hb (readable_ok hpr) hA fun x hx => hW'.lt x (by simp [hx])
  · rw [hs3, hv]
    exact vars3_read enc (g.below hb) _
end Go.Proofs.YtpmhikdefbcofaaDoor
