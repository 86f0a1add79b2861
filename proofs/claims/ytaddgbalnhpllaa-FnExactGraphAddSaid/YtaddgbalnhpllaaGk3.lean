/- A vertex is added to a graph: the reference's side. -/
import Derived.Test.YtaddgbalnhpllaaGk
set_option linter.all false
namespace Go.Proofs.Ytaddgbalnhpllaa
open Go.RowKit

theorem drop_vx {vs : List Vx} {n i j : Nat} : rowF vxF vs (n + i) j = rowF vxF (vs.drop n) i j := by
  show vxF (vs.getD (n + i) default) j = vxF ((vs.drop n).getD i default) j
  rw [List.getD_eq_getElem?_getD, List.getD_eq_getElem?_getD, List.getElem?_drop]
theorem add_vx {w : World} {F : Nat → Prop} {vs : List Vx} {v : Vx} {q i j : Nat} {g0 : Nat → Nat → SV} (h : ∀ j, j < 4 → g0 0 j = vxF v j) (hq : q ≤ vs.length) (hj : j < 4) : LeW w F (catF (q + 1) (catF q (rowF vxF vs) g0) (rowF vxF (vs.drop q)) i j) (rowF vxF (insAt vs q v) i j) := by
  refine LeW.of_eq ?_
  show _ = vxF (vg (insAt vs q v) i) j
  rw [insAt_get hq]
  unfold catF
  by_cases h1 : i < q
  · rw [if_pos (by omega), if_pos h1, if_pos h1]; rfl
  · by_cases h2 : i = q
    · rw [if_pos (by omega), if_neg h1, if_neg h1, if_pos h2, show i - q = 0 by omega]; exact h j hj
    · rw [if_neg (by omega), if_neg h1, if_neg h2, ← drop_vx, show q + (i - (q + 1)) = i - 1 by omega]; rfl
theorem l11CopyD_c (vs : List Vx) (q : Nat) (hl : vs.length ≤ 100000000) (hv : ∀ v ∈ vs, v.ps.length ≤ 100000000) : SRet Try.prog 91 [.sl 4 (vs.length - q) fun i => rowF vxF vs (q + i)] (· = .sl 4 (vs.length - q) (rowF vxF (vs.drop q))) :=
  SRet.imp (Φ := (· = vsl (vs.drop q))) ((l11Copy_c (vs.drop q) (by simp; omega) fun v hm => hv v (List.mem_of_mem_drop hm)).arg fun w F l h => match l, h with
    | [x], h => ⟨by
      have := h.1
      rw [← List.length_drop] at this
      exact Has.slL (fun i j hi hj u hu => by rw [← drop_vx]; exact hu) this, trivial⟩) fun r h => by rw [h, ← List.length_drop]
set_option maxRecDepth 100000 in
set_option maxHeartbeats 1000000 in
theorem l11Add_c (c : List Int) (vs : List Vx) (v : Vx) (hv : vs.length ≤ 10000000) (hp : ∀ v ∈ vs, v.ps.length ≤ 10000000) (hvp : v.ps.length ≤ 10000000) (hok : grOk c vs = true) (hvv : vxOkA c v = true) : SRet Try.prog 69 [vsl vs, vxV v] (· = gaV c vs v) := ⟨fun R => by
  have hp8 : ∀ v ∈ vs, v.ps.length ≤ 100000000 := fun v hv => by have := hp v hv; omega
  have hvb := vxOk_iff (vxA_iff hvv).2
  have hF := l11Find_c vs v.r v.a hv
  refine SCalls.enter tt_ok Try.func69 (by kernel_rfl) rfl [(900, .cust R)] rfl (argF _) (fun w F v k h => h) (by simp) ?_
  cases hfd : fdV vs v.r v.a with
  | some i =>
    have hi := fd_some hfd
    rw [fdI_some hfd] at hF
    have hpi : (vg vs i).ps.length ≤ 100000000 := by rw [vg_eq hi.1]; exact hp8 _ (List.getElem_mem _)
    have hil := hi.1
    have hz := gaC_known hok hvv hfd
    repeat' (first | (with_reducible first | refine HT.seq ?_ | refine HT.block ?_ | refine Br.not ?_) | ((with_reducible first | refine HT.region tt_ok ?_ | refine HT.drawn tt_ok (by kernel_rfl) (by decide +kernel) ?_ | refine HT.drawnL tt_ok (by kernel_rfl) (by decide +kernel) ?_ | refine HT.cond ?_ | refine HT.ret ?_ | refine HT.skip ?_ | refine HT.exit ?_ | refine Br.tt ?_ | refine Br.ff ?_); conv => whnf) | ((with_reducible first | refine Br.dec (fun hc => ?_) (fun hc => ?_) | refine Br.eq (fun hc => ?_) (fun hc => ?_) | refine Br.ne (fun hc => ?_) (fun hc => ?_)) <;> (first | (exfalso; omega) | conv => whnf)) | ((with_reducible first | refine Br.ttE (by decide) ?_ | refine Br.ffE (by decide) ?_ | refine Br.mk (fun hc => ?_) (fun hc => ?_) | refine Chk.mk (by first | omega | with_reducible rfl | (refine ⟨rfl, ?_⟩; omega) | decide | exact ⟨rfl, by omega, by omega, rfl⟩ | exact ⟨by assumption, rfl, by omega, by omega⟩) ?_ | refine Ar.fit (by omega) ?_ | refine Eqv.shr1 ?_ | refine Ar.u64 (by omega) ?_) <;> conv => whnf) | ((first | refine CallN.ret1 (hF) ?_ | refine CallN.ret1 (l11Same_c (vg vs i) v hpi (by omega)) ?_ | refine CallN.ret1 (l11Copy_c vs (by omega) hp8) ?_) <;> conv => whnf) | (with_reducible exact trivial) | ((with_reducible refine And.intro ?_ ?_) <;> conv => whnf) | (intro gn; conv => whnf))
    · have e : vg vs i = v := of_decide_eq_true hc
      rw [if_pos e] at hz
      exact Fin.pureLe (r' := .tup 2 (litF [vsl vs, .i 1])) (by repeat (first | exact List.Sublist.refl _ | refine List.Sublist.cons_cons _ ?_ | refine List.Sublist.cons _ ?_)) (CellLe.of_eq rfl) (by unfold gaV; rw [hz, gaL_vs (by omega) (by omega)])
    · have e : vg vs i ≠ v := of_decide_eq_false (by assumption)
      rw [if_neg e] at hz
      exact Fin.pureLe (r' := .tup 2 (litF [vsl vs, .i 2])) (by repeat (first | exact List.Sublist.refl _ | refine List.Sublist.cons_cons _ ?_ | refine List.Sublist.cons _ ?_)) (CellLe.of_eq rfl) (by unfold gaV; rw [hz, gaL_vs (by omega) (by omega)])
  | none =>
    rw [fdI_none hfd] at hF
    have hz := gaC_new hok hvv hfd
    by_cases hpo : parOk vs v = true
    rotate_left
    · rw [if_neg hpo] at hz
      have hpo : parOk vs v = false := by simpa using hpo
      repeat' (first | (with_reducible first | refine HT.seq ?_ | refine HT.block ?_ | refine Br.not ?_) | ((with_reducible first | refine HT.region tt_ok ?_ | refine HT.drawn tt_ok (by kernel_rfl) (by decide +kernel) ?_ | refine HT.drawnL tt_ok (by kernel_rfl) (by decide +kernel) ?_ | refine HT.cond ?_ | refine HT.ret ?_ | refine HT.skip ?_ | refine HT.exit ?_ | refine Br.tt ?_ | refine Br.ff ?_); conv => whnf) | ((with_reducible first | refine Br.dec (fun hc => ?_) (fun hc => ?_) | refine Br.eq (fun hc => ?_) (fun hc => ?_) | refine Br.ne (fun hc => ?_) (fun hc => ?_)) <;> (first | (exfalso; omega) | conv => whnf)) | ((with_reducible first | refine Br.ttE (by decide) ?_ | refine Br.ffE (by decide) ?_ | refine Br.mk (fun hc => ?_) (fun hc => ?_) | refine Chk.mk (by first | omega | with_reducible rfl | (refine ⟨rfl, ?_⟩; omega) | decide | exact ⟨rfl, by omega, by omega, rfl⟩ | exact ⟨by assumption, rfl, by omega, by omega⟩) ?_ | refine Ar.fit (by omega) ?_ | refine Eqv.shr1 ?_ | refine Ar.u64 (by omega) ?_) <;> conv => whnf) | ((first | refine CallN.ret1 (hF) ?_ | refine CallN.ret1 ((l11Parents_c vs v hv (by omega) hvp).bf hpo) ?_ | refine CallN.ret1 (l11Copy_c vs (by omega) hp8) ?_) <;> conv => whnf) | (with_reducible exact trivial) | ((with_reducible refine And.intro ?_ ?_) <;> conv => whnf) | (intro gn; conv => whnf))
      exact Fin.pureLe (r' := .tup 2 (litF [vsl vs, .i 3])) (by repeat (first | exact List.Sublist.refl _ | refine List.Sublist.cons_cons _ ?_ | refine List.Sublist.cons _ ?_)) (CellLe.of_eq rfl) (by unfold gaV; rw [hz, gaL_vs (by omega) (by omega)])
    rw [if_pos hpo] at hz
    repeat' (first | (with_reducible first | refine HT.seq ?_ | refine HT.block ?_ | refine Br.not ?_) | ((with_reducible first | refine HT.region tt_ok ?_ | refine HT.drawn tt_ok (by kernel_rfl) (by decide +kernel) ?_ | refine HT.drawnL tt_ok (by kernel_rfl) (by decide +kernel) ?_ | refine HT.cond ?_ | refine HT.ret ?_ | refine HT.skip ?_ | refine HT.exit ?_ | refine Br.tt ?_ | refine Br.ff ?_); conv => whnf) | ((with_reducible first | refine Br.dec (fun hc => ?_) (fun hc => ?_) | refine Br.eq (fun hc => ?_) (fun hc => ?_) | refine Br.ne (fun hc => ?_) (fun hc => ?_)) <;> (first | (exfalso; omega) | conv => whnf)) | ((with_reducible first | refine Br.ttE (by decide) ?_ | refine Br.ffE (by decide) ?_ | refine Br.mk (fun hc => ?_) (fun hc => ?_) | refine Chk.mk (by first | omega | with_reducible rfl | (refine ⟨rfl, ?_⟩; omega) | decide | exact ⟨rfl, by omega, by omega, rfl⟩ | exact ⟨by assumption, rfl, by omega, by omega⟩) ?_ | refine Ar.fit (by omega) ?_ | refine Eqv.shr1 ?_ | refine Ar.u64 (by omega) ?_) <;> conv => whnf) | ((first | refine CallN.ret1 (hF) ?_ | refine CallN.ret1 ((l11Parents_c vs v hv (by omega) hvp).bt hpo) ?_) <;> conv => whnf) | (with_reducible exact trivial) | ((with_reducible refine And.intro ?_ ?_) <;> conv => whnf) | (intro gn; conv => whnf))
    refine HT.loopC [0, 1, 3, 4, 5, 6, 9, 16, 29, 34] (fun x : Nat × Option Addr × Nat × Nat => [(8, .i x.1), (7, .own 121 (.slice x.2.1 x.2.2.1 x.2.2.2))]) (fun x : Nat × Option Addr × Nat × Nat => [(121, .row (.slice x.2.1 x.2.2.1 x.2.2.2) x.1 (rowF vxF vs))]) (fun x : Nat × Option Addr × Nat × Nat => (x.1 ≤ vs.length ∧ x.2.2.1 = x.1) ∧ ∀ j, j < x.1 → bef (vg vs j) v = true) (fun x : Nat × Option Addr × Nat × Nat => vs.length - x.1) (0, some ⟨gn, 0, none⟩, 0, 0) ⟨⟨Nat.zero_le _, rfl⟩, fun j hj => absurd hj (by simp)⟩ ⟨(by first | with_reducible exact CellLe.refl _ | exact CellLe.own | exact CellLe.i (by omega) | exact CellLe.nil | exact CellLe.slNil | exact CellLe.refl _), (by first | with_reducible exact CellLe.refl _ | exact CellLe.own | exact CellLe.i (by omega) | exact CellLe.nil | exact CellLe.slNil | exact CellLe.refl _), trivial⟩ ?_ ?_
    · conv => whnf
      refine PP.start ?_; repeat (first | exact PP.nil | refine PP.take (by first | with_reducible exact Hp.Sub.refl _ | exact Hp.Sub.rd (by omega) | exact Hp.Sub.rowA rfl (fun i j hi hj => absurd hi (by omega)) | exact Hp.Sub.boxA (by (repeat (first | exact all_lt_zero | refine all_lt_succ (p := fun j => CellLe _ _) (by first | with_reducible exact CellLe.refl _ | exact CellLe.own | exact CellLe.i (by omega) | exact CellLe.nil | exact CellLe.slNil | exact CellLe.refl _) ?_))) | exact Hp.Sub.refl _) ?_ | refine PP.skip ?_)
    conv => whnf
    rintro ⟨k, A, q, cp⟩ ⟨⟨hk, hq⟩, hall⟩
    dsimp only at hk hq hall ⊢
    subst hq
    have hvk : q < vs.length → (vs.getD q default).ps.length ≤ 100000000 := fun h => hp8 _ (by rw [show vs.getD q default = vs[q] by simp [h]]; exact List.getElem_mem _)
    conv => whnf
    repeat' (first | (with_reducible first | refine HT.seq ?_ | refine HT.block ?_ | refine Br.not ?_) | ((with_reducible first | refine HT.region tt_ok ?_ | refine HT.drawn tt_ok (by kernel_rfl) (by decide +kernel) ?_ | refine HT.drawnL tt_ok (by kernel_rfl) (by decide +kernel) ?_ | refine HT.cond ?_ | refine HT.ret ?_ | refine HT.skip ?_ | refine HT.exit ?_ | refine Br.tt ?_ | refine Br.ff ?_); conv => whnf) | ((with_reducible first | refine Br.dec (fun hc => ?_) (fun hc => ?_) | refine Br.eq (fun hc => ?_) (fun hc => ?_) | refine Br.ne (fun hc => ?_) (fun hc => ?_)) <;> (first | (exfalso; omega) | conv => whnf)) | ((with_reducible first | refine Br.ttE (by decide) ?_ | refine Br.ffE (by decide) ?_ | refine Br.mk (fun hc => ?_) (fun hc => ?_) | refine Chk.mk (by first | omega | with_reducible rfl | (refine ⟨rfl, ?_⟩; omega) | decide | exact ⟨rfl, by omega, by omega, rfl⟩ | exact ⟨by assumption, rfl, by omega, by omega⟩) ?_ | refine Ar.fit (by omega) ?_ | refine Eqv.shr1 ?_ | refine Ar.u64 (by omega) ?_) <;> conv => whnf) | ((first | (refine CallN.ret1 (l11Before_c (vg vs q) v) ?_) | (refine CallN.ret1 (oneS_c (vs.getD q default) (hvk (by omega))) ?_) | (refine CallN.ret1 (oneS_c v (by omega)) ?_) | (refine CallN.ret1 (l11CopyD_c vs _ (by omega) hp8) ?_)) <;> conv => whnf) | (with_reducible exact trivial) | ((with_reducible refine And.intro ?_ ?_) <;> conv => whnf) | (intro gn; conv => whnf))
    all_goals (try simp only [Int.toNat_natCast] at *)
    · rename_i A2
      exact ⟨⟨(q + 1, A2, q + 1, gn), ⟨⟨by dsimp only; omega, rfl⟩, all_lt_succ hc hall⟩, by dsimp only; omega, (by repeat' (first | exact trivial | refine ⟨rfl, ?_⟩)), ⟨(by first | with_reducible exact CellLe.refl _ | exact CellLe.own | exact CellLe.i (by omega) | exact CellLe.nil | exact CellLe.slNil | exact CellLe.refl _), (by first | with_reducible exact CellLe.refl _ | exact CellLe.own | exact CellLe.i (by omega) | exact CellLe.nil | exact CellLe.slNil | exact CellLe.refl _), trivial⟩, HLe.pk (by
        conv => whnf
        refine PP.start ?_; repeat (first | exact PP.nil | refine PP.take (by first | with_reducible exact Hp.Sub.refl _ | exact Hp.Sub.rd (by omega) | exact Hp.Sub.rowL rfl (fun w F i j hi hj => next_vx (fun j hj => by rcases (by omega : j = 0 ∨ j = 1 ∨ j = 2 ∨ j = 3) with rfl | rfl | rfl | rfl <;> rfl) hi hj) | exact Hp.Sub.boxA (by (repeat (first | exact all_lt_zero | refine all_lt_succ (p := fun j => CellLe _ _) (by first | with_reducible exact CellLe.refl _ | exact CellLe.own | exact CellLe.i (by omega) | exact CellLe.nil | exact CellLe.slNil | exact CellLe.refl _) ?_))) | exact Hp.Sub.refl _) ?_ | refine PP.skip ?_))⟩⟩
    all_goals have hpl : plc vs v = q := plc_eq hk hall (fun h => by first | assumption | (exfalso; omega))
    all_goals exact Fin.gaL (by refine PP.start ?_; repeat (first | exact PP.nil | refine PP.take (by first | with_reducible exact Hp.Sub.refl _ | exact Hp.Sub.rd (by omega) | exact Hp.Sub.rowL rfl (fun w F i j hi hj => add_vx (v := v) (fun j hj => by rcases (by omega : j = 0 ∨ j = 1 ∨ j = 2 ∨ j = 3) with rfl | rfl | rfl | rfl <;> rfl) hk hj) | exact Hp.Sub.boxA (by (repeat (first | exact all_lt_zero | refine all_lt_succ (p := fun j => CellLe _ _) (by first | with_reducible exact CellLe.refl _ | exact CellLe.own | exact CellLe.i (by omega) | exact CellLe.nil | exact CellLe.slNil | exact CellLe.refl _) ?_))) | exact Hp.Sub.refl _) ?_ | refine PP.skip ?_)) (l := insAt vs q v) (by rw [insAt_len hk]; omega) (fun w F => LeW.tup2 (fun _ h => h) (fun _ h => h)) hz (by rw [gaL_0 hz, hpl])⟩
end Go.Proofs.Ytaddgbalnhpllaa
