/- Texts of this proof put together: Vg, Vs, Gi, Gj, Gk. -/
import Derived.Test.YtpmhikdefbcofaaDoorM01
import Derived.Test.YtpmhikdefbcofaaDoorM02
import Derived.Test.YtpmhikdefbcofaaDoorM03
import Derived.Test.YtpmhikdefbcofaaDoorM04
import Derived.Test.YtpmhikdefbcofaaDoorM05
import Derived.Test.YtpmhikdefbcofaaDoorM06
import Derived.Test.YtpmhikdefbcofaaDoorM07
import Derived.Test.YtpmhikdefbcofaaDoorM08
import Derived.Test.YtpmhikdefbcofaaDoorM09
import Derived.Test.YtpmhikdefbcofaaDoorM10
import Derived.Test.YtpmhikdefbcofaaDoorM11
import Derived.Test.YtpmhikdefbcofaaDoorM12
import Derived.Test.YtpmhikdefbcofaaDoorM13
import Derived.Test.YtpmhikdefbcofaaDoorM14
import Derived.Test.YtpmhikdefbcofaaDoorM15
/-! YtpmhikdefbcofaaDoorVg -/
set_option linter.all false
namespace Go.Proofs.YtpmhikdefbcofaaDoor
open Go.RowKit

theorem auths_in {c : List Int} {g : List Vx} {n : Int} (h : ∀ v ∈ g, vxOk c v = true) : ∀ {k : Nat}, k ≤ g.length → ∀ x ∈ auths g n k, 0 ≤ x ∧ x < c.length
  | 0, _, x, hx => by cases hx
  | k + 1, hk, x, hx => by
    by_cases e : (g.getD k default).r = n
    · rw [auths1 e, List.mem_append, List.mem_singleton] at hx
      rcases hx with hx | rfl
      · exact auths_in h (by omega) x hx
      · exact (vxOk_iff (h _ (by rw [show g.getD k default = g[k] by simp [show k < g.length by omega]]; exact List.getElem_mem _))).2.1
    · rw [auths0 e] at hx
      exact auths_in h (by omega) x hx
theorem InC.of {c ms : List Int} (h : ∀ x ∈ ms, 0 ≤ x ∧ x < c.length) : InC c ms := fun i hi => h _ (by rw [show ms.getD i default = ms[i] by simp [hi]]; exact List.getElem_mem _)
theorem all_app {c ps : List Int} {x : Int} (h : ∀ x ∈ ps, 0 ≤ x ∧ x < (c.length : Int)) (hx : 0 ≤ x ∧ x < (c.length : Int)) : ∀ y ∈ ps ++ [x], 0 ≤ y ∧ y < (c.length : Int) := fun y hy => by
  rcases List.mem_append.1 hy with hy | hy
  · exact h y hy
  · rw [List.mem_singleton.1 hy]; exact hx
theorem all_vx {c : List Int} {vs : List Vx} {v : Vx} (h : ∀ v ∈ vs, vxOk c v = true) (hv : vxOk c v = true) : ∀ u ∈ vs ++ [v], vxOk c u = true := fun u hu => by
  rcases List.mem_append.1 hu with hu | hu
  · exact h u hu
  · rw [List.mem_singleton.1 hu]; exact hv
theorem vx_cat {w : World} {F : Nat → Prop} {ws : List Vx} {v : Vx} {g0 : Nat → Nat → SV} (h : ∀ j, j < 4 → ∀ x, Has w F (g0 0 j) x → Has w F (vxF v j) x) {i j : Nat} (hi : i < ws.length + 1) (hj : j < 4) (x : Value) (hx : Has w F (catF ws.length (rowF vxF ws) g0 i j) x) : Has w F (rowF vxF (ws ++ [v]) i j) x := by
  unfold catF at hx
  unfold rowF at hx ⊢
  by_cases hlt : i < ws.length
  · rw [if_pos hlt] at hx
    rwa [List.getD_eq_getElem?_getD, List.getElem?_append_left hlt, ← List.getD_eq_getElem?_getD]
  · obtain rfl : i = ws.length := by omega
    rw [if_neg hlt, Nat.sub_self] at hx
    rw [show (ws ++ [v]).getD ws.length default = v by simp]
    exact h j hj x hx
/-- a graph was drawn: it is owned -/
def DrewG (c : List Int) (b : Nat) (g : Nat) (m : Int) (r : SV) (N : List Hp) (p' : Hp) : Prop :=
  ∃ vs A n cp, (∀ v ∈ vs, vxOk c v = true) ∧ vs.length ≤ b ∧ n = vs.length ∧ r = .own 0 (.slice A n cp) ∧ N = [.row (.slice A n cp) 37 4 vs.length (rowF vxF vs)] ∧ p' = .cust (rdH g (m + 30000))
set_option maxRecDepth 100000 in
set_option maxHeartbeats 4000000 in
theorem l91Graph_c (c : List Int) (rn : Int) (g : Nat) (m : Int) (hcm : cmOk c = true) (hm : m ≤ 1000000) (hrn : rn ≤ 14) : SMut Tryd.prog 80 [.val (.pointer (some ⟨g, 0, none⟩)), isl c, .i rn] (.cust (rdH g m)) (DrewG c 98 g m) := ⟨fun R => by
  have h7 := (cmOk_iff.1 hcm).1
  refine SCalls.enter tt_ok Tryd.func80 (by kernel_rfl) rfl [(0, .cust (rdH g m)), (900, .cust R)] rfl (argF _) (fun w F v k h => h) (by simp) ?_
  repeat' (first | (with_reducible first | refine HT.seq ?_ | refine HT.block ?_ | refine Br.not ?_) | ((with_reducible first | refine HT.region tt_ok ?_ | refine HT.drawn tt_ok (by kernel_rfl) (by decide +kernel) ?_ | refine HT.drawnL tt_ok (by kernel_rfl) (by decide +kernel) ?_ | refine HT.cond ?_ | refine HT.ret ?_ | refine HT.skip ?_ | refine HT.exit ?_ | refine Br.tt ?_ | refine Br.ff ?_); conv => whnf) | ((with_reducible first | refine Br.dec (fun hc => ?_) (fun hc => ?_) | refine Br.eq (fun hc => ?_) (fun hc => ?_) | refine Br.ne (fun hc => ?_) (fun hc => ?_)) <;> (first | (exfalso; omega) | conv => whnf)) | ((with_reducible first | refine Br.ttE (by decide) ?_ | refine Br.ffE (by decide) ?_ | refine Br.mk (fun hc => ?_) (fun hc => ?_) | refine Chk.mk (by first | omega | with_reducible rfl | (refine ⟨rfl, ?_⟩; omega) | decide | exact ⟨rfl, by omega, by omega, rfl⟩ | exact ⟨by assumption, rfl, by omega, by omega⟩) ?_ | refine Ar.fit (by omega) ?_ | refine Eqv.shr1 ?_ | refine Ar.u64 (by omega) ?_) <;> conv => whnf) | (with_reducible exact trivial) | ((with_reducible refine And.intro ?_ ?_) <;> conv => whnf) | (intro gn; conv => whnf))
  refine HT.loopC [0, 1, 2, 6] (fun x : Nat × List Vx × Option Addr × Nat × Nat => [(7, .own 100 (.slice x.2.2.1 x.2.2.2.1 x.2.2.2.2)), (8, .i x.1)]) (fun x : Nat × List Vx × Option Addr × Nat × Nat => [(100, .row (.slice x.2.2.1 x.2.2.2.1 x.2.2.2.2) x.2.1.length (rowF vxF x.2.1)), (0, .cust (rdH g (m + 2000 * x.1)))]) (fun x : Nat × List Vx × Option Addr × Nat × Nat => (x.1 = 0 ∨ (x.1 : Int) ≤ rn) ∧ (∀ v ∈ x.2.1, vxOk c v = true) ∧ x.2.1.length ≤ 7 * x.1 ∧ x.2.2.2.1 = x.2.1.length) (fun x : Nat × List Vx × Option Addr × Nat × Nat => rn.toNat - x.1) (0, [], some ⟨gn, 0, none⟩, 0, 0) ⟨.inl rfl, (by simp), (by simp), rfl⟩ ⟨(by first | with_reducible exact CellLe.refl _ | exact CellLe.own | exact CellLe.i (by omega) | exact CellLe.nil | exact CellLe.slNil | exact CellLe.refl _), (by first | with_reducible exact CellLe.refl _ | exact CellLe.own | exact CellLe.i (by omega) | exact CellLe.nil | exact CellLe.slNil | exact CellLe.refl _), trivial⟩ ?_ ?_
  · conv => whnf
    refine PP.start ?_; repeat (first | exact PP.nil | refine PP.take (by first | with_reducible exact Hp.Sub.refl _ | exact Hp.Sub.rd (by omega) | exact Hp.Sub.row (fun i j hi hj => absurd hi (by simp)) | exact Hp.Sub.boxA (by (repeat (first | exact all_lt_zero | refine all_lt_succ (p := fun j => CellLe _ _) (by first | with_reducible exact CellLe.refl _ | exact CellLe.own | exact CellLe.i (by omega) | exact CellLe.nil | exact CellLe.slNil | exact CellLe.refl _) ?_))) | exact Hp.Sub.refl _) ?_ | refine PP.skip ?_)
  conv => whnf
  rintro ⟨n, vs, A, q, cp⟩ ⟨hn, hv, hl, hq⟩
  dsimp only at hn hv hl hq ⊢
  conv => whnf
  repeat' (first | (with_reducible first | refine HT.seq ?_ | refine HT.block ?_ | refine Br.not ?_) | ((with_reducible first | refine HT.region tt_ok ?_ | refine HT.drawn tt_ok (by kernel_rfl) (by decide +kernel) ?_ | refine HT.drawnL tt_ok (by kernel_rfl) (by decide +kernel) ?_ | refine HT.cond ?_ | refine HT.ret ?_ | refine HT.skip ?_ | refine HT.exit ?_ | refine Br.tt ?_ | refine Br.ff ?_); conv => whnf) | ((with_reducible first | refine Br.dec (fun hc => ?_) (fun hc => ?_) | refine Br.eq (fun hc => ?_) (fun hc => ?_) | refine Br.ne (fun hc => ?_) (fun hc => ?_)) <;> (first | (exfalso; omega) | conv => whnf)) | ((with_reducible first | refine Br.ttE (by decide) ?_ | refine Br.ffE (by decide) ?_ | refine Br.mk (fun hc => ?_) (fun hc => ?_) | refine Chk.mk (by first | omega | with_reducible rfl | (refine ⟨rfl, ?_⟩; omega) | decide | exact ⟨rfl, by omega, by omega, rfl⟩ | exact ⟨by assumption, rfl, by omega, by omega⟩) ?_ | refine Ar.fit (by omega) ?_ | refine Eqv.shr1 ?_ | refine Ar.u64 (by omega) ?_) <;> conv => whnf) | ((first | (refine CallN.stillB (ss' := [vsl vs, .i _]) (l11Authors_o vs _ (by omega)) ⟨Lends.row (by repeat (first | exact List.mem_cons_self | refine List.mem_cons_of_mem _ ?_)), Lends.refl _, trivial⟩ ?_; rintro l hle)) <;> conv => whnf) | (with_reducible exact trivial) | ((with_reducible refine And.intro ?_ ?_) <;> conv => whnf) | (intro gn; conv => whnf))
  rotate_left
  · exact Fin.mut [_] _ (fun _ => 0) (by refine PP.start ?_; repeat (first | exact PP.nil | refine PP.take (by first | with_reducible exact Hp.Sub.refl _ | exact Hp.Sub.rd (by omega) | exact Hp.Sub.boxA (by (repeat (first | exact all_lt_zero | refine all_lt_succ (p := fun j => CellLe _ _) (by first | with_reducible exact CellLe.refl _ | exact CellLe.own | exact CellLe.i (by omega) | exact CellLe.nil | exact CellLe.slNil | exact CellLe.refl _) ?_))) | exact Hp.Sub.refl _) ?_ | refine PP.skip ?_)) ⟨vs, _, _, _, hv, by omega, by omega, rfl, rfl, rfl⟩
  have hin : ∀ x ∈ l, 0 ≤ x ∧ x < (c.length : Int) := by rw [hle]; exact auths_in hv (Nat.le_refl _)
  have hll : l.length ≤ vs.length := by rw [hle]; exact auths_len
  clear hle
  refine HT.loopC [0, 1, 2, 6, 8, 9, 16] (fun x : Nat × List Vx × Option Addr × Nat × Nat => [(7, .own 100 (.slice x.2.2.1 x.2.2.2.1 x.2.2.2.2)), (10, .i x.1)]) (fun x : Nat × List Vx × Option Addr × Nat × Nat => [(100, .row (.slice x.2.2.1 x.2.2.2.1 x.2.2.2.2) x.2.1.length (rowF vxF x.2.1)), (0, .cust (rdH g (m + 2000 * n + 100 * x.1)))]) (fun x : Nat × List Vx × Option Addr × Nat × Nat => x.1 ≤ c.length ∧ (∀ v ∈ x.2.1, vxOk c v = true) ∧ x.2.1.length ≤ vs.length + x.1 ∧ x.2.2.2.1 = x.2.1.length) (fun x : Nat × List Vx × Option Addr × Nat × Nat => c.length - x.1) (0, vs, A, q, cp) ⟨Nat.zero_le _, hv, by simp, hq⟩ ⟨(by first | with_reducible exact CellLe.refl _ | exact CellLe.own | exact CellLe.i (by omega) | exact CellLe.nil | exact CellLe.slNil | exact CellLe.refl _), (by first | with_reducible exact CellLe.refl _ | exact CellLe.own | exact CellLe.i (by omega) | exact CellLe.nil | exact CellLe.slNil | exact CellLe.refl _), trivial⟩ ?_ ?_
  · conv => whnf
    refine PP.start ?_; repeat (first | exact PP.nil | refine PP.take (by first | with_reducible exact Hp.Sub.refl _ | exact Hp.Sub.rd (by omega) | exact Hp.Sub.boxA (by (repeat (first | exact all_lt_zero | refine all_lt_succ (p := fun j => CellLe _ _) (by first | with_reducible exact CellLe.refl _ | exact CellLe.own | exact CellLe.i (by omega) | exact CellLe.nil | exact CellLe.slNil | exact CellLe.refl _) ?_))) | exact Hp.Sub.refl _) ?_ | refine PP.skip ?_)
  conv => whnf
  rintro ⟨a, ws, B, q2, cp2⟩ ⟨ha, hw, hlw, hq2⟩
  dsimp only at ha hw hlw hq2 ⊢
  conv => whnf
  repeat' (first | (with_reducible first | refine HT.seq ?_ | refine HT.block ?_ | refine Br.not ?_) | ((with_reducible first | refine HT.region tt_ok ?_ | refine HT.drawn tt_ok (by kernel_rfl) (by decide +kernel) ?_ | refine HT.drawnL tt_ok (by kernel_rfl) (by decide +kernel) ?_ | refine HT.cond ?_ | refine HT.ret ?_ | refine HT.skip ?_ | refine HT.exit ?_ | refine Br.tt ?_ | refine Br.ff ?_); conv => whnf) | ((with_reducible first | refine Br.dec (fun hc => ?_) (fun hc => ?_) | refine Br.eq (fun hc => ?_) (fun hc => ?_) | refine Br.ne (fun hc => ?_) (fun hc => ?_)) <;> (first | (exfalso; omega) | conv => whnf)) | ((with_reducible first | refine Br.ttE (by decide) ?_ | refine Br.ffE (by decide) ?_ | refine Br.mk (fun hc => ?_) (fun hc => ?_) | refine Chk.mk (by first | omega | with_reducible rfl | (refine ⟨rfl, ?_⟩; omega) | decide | exact ⟨rfl, by omega, by omega, rfl⟩ | exact ⟨by assumption, rfl, by omega, by omega⟩) ?_ | refine Ar.fit (by omega) ?_ | refine Eqv.shr1 ?_ | refine Ar.u64 (by omega) ?_) <;> conv => whnf) | ((first | (refine CallN.turn 0 _ _ rfl (pick_c _ _ 6 (by omega) (by omega)) ?_; rintro r N p' ⟨⟨p6, hp0, hp1, rfl⟩, rfl, rfl⟩) | (refine CallN.turn 0 _ _ rfl (pick_c _ _ 90 (by omega) (by omega)) ?_; rintro r N p' ⟨⟨pd, hd0, hd1, rfl⟩, rfl, rfl⟩)) <;> conv => whnf) | (with_reducible exact trivial) | ((with_reducible refine And.intro ?_ ?_) <;> conv => whnf) | (intro gn; conv => whnf))
  · exact ⟨⟨(a + 1, ws, B, q2, cp2), ⟨by dsimp only; omega, hw, by dsimp only; omega, hq2⟩, by dsimp only; omega, (by repeat' (first | exact trivial | refine ⟨rfl, ?_⟩)), ⟨(by first | with_reducible exact CellLe.refl _ | exact CellLe.own | exact CellLe.i (by omega) | exact CellLe.nil | exact CellLe.slNil | exact CellLe.refl _), (by first | with_reducible exact CellLe.refl _ | exact CellLe.own | exact CellLe.i (by omega) | exact CellLe.nil | exact CellLe.slNil | exact CellLe.refl _), trivial⟩, HLe.pk (by
      conv => whnf
      refine PP.start ?_; repeat (first | exact PP.nil | refine PP.take (by first | with_reducible exact Hp.Sub.refl _ | exact Hp.Sub.rd (by omega) | exact Hp.Sub.boxA (by (repeat (first | exact all_lt_zero | refine all_lt_succ (p := fun j => CellLe _ _) (by first | with_reducible exact CellLe.refl _ | exact CellLe.own | exact CellLe.i (by omega) | exact CellLe.nil | exact CellLe.slNil | exact CellLe.refl _) ?_))) | exact Hp.Sub.refl _) ?_ | refine PP.skip ?_))⟩⟩
  rotate_left
  · exact ⟨⟨(n + 1, ws, B, q2, cp2), ⟨by dsimp only; omega, hw, by dsimp only; omega, hq2⟩, by dsimp only; omega, (by repeat' (first | exact trivial | refine ⟨rfl, ?_⟩)), ⟨(by first | with_reducible exact CellLe.refl _ | exact CellLe.own | exact CellLe.i (by omega) | exact CellLe.nil | exact CellLe.slNil | exact CellLe.refl _), (by first | with_reducible exact CellLe.refl _ | exact CellLe.own | exact CellLe.i (by omega) | exact CellLe.nil | exact CellLe.slNil | exact CellLe.refl _), trivial⟩, HLe.pk (by
      conv => whnf
      refine PP.start ?_; repeat (first | exact PP.nil | refine PP.take (by first | with_reducible exact Hp.Sub.refl _ | exact Hp.Sub.rd (by omega) | exact Hp.Sub.boxA (by (repeat (first | exact all_lt_zero | refine all_lt_succ (p := fun j => CellLe _ _) (by first | with_reducible exact CellLe.refl _ | exact CellLe.own | exact CellLe.i (by omega) | exact CellLe.nil | exact CellLe.slNil | exact CellLe.refl _) ?_))) | exact Hp.Sub.refl _) ?_ | refine PP.skip ?_))⟩⟩
  rename_i gr
  refine HT.loopC [0, 1, 2, 6, 7, 8, 9, 10, 11, 16, 26, 31, 77, 84] (fun x : Nat × List Int × Option Addr × Nat × Nat => [(12, .i x.1)]) (fun x : Nat × List Int × Option Addr × Nat × Nat => [(132, .box (litF [.i n, .i a, .own 121 (.slice x.2.2.1 x.2.2.2.1 x.2.2.2.2), .i ((31 * (n : Int) + 7 * (a : Int) + pd).tmod 991)])), (121, .row (.slice x.2.2.1 x.2.2.2.1 x.2.2.2.2) x.2.1.length (rowF intF x.2.1)), (0, .cust (rdH g (m + 2000 * n + 100 * a + 2 + x.1)))]) (fun x : Nat × List Int × Option Addr × Nat × Nat => x.1 ≤ l.length ∧ (∀ y ∈ x.2.1, 0 ≤ y ∧ y < (c.length : Int)) ∧ x.2.1.length ≤ x.1 ∧ x.2.2.2.1 = x.2.1.length) (fun x : Nat × List Int × Option Addr × Nat × Nat => l.length - x.1) (0, [], some ⟨gr, 0, none⟩, 0, 0) ⟨Nat.zero_le _, (by simp), Nat.le_refl _, rfl⟩ ⟨(by first | with_reducible exact CellLe.refl _ | exact CellLe.own | exact CellLe.i (by omega) | exact CellLe.nil | exact CellLe.slNil | exact CellLe.refl _), trivial⟩ ?_ ?_
  · conv => whnf
    refine PP.start ?_; repeat (first | exact PP.nil | refine PP.take (by first | with_reducible exact Hp.Sub.refl _ | exact Hp.Sub.rd (by omega) | exact Hp.Sub.boxA (by (repeat (first | exact all_lt_zero | refine all_lt_succ (p := fun j => CellLe _ _) (by first | with_reducible exact CellLe.refl _ | exact CellLe.own | exact CellLe.i (by omega) | exact CellLe.nil | exact CellLe.slNil | exact CellLe.refl _) ?_))) | exact Hp.Sub.refl _) ?_ | refine PP.skip ?_)
  conv => whnf
  rintro ⟨k, ps, P, qp, cpp⟩ ⟨hk, hp, hlp, hqp⟩
  dsimp only at hk hp hlp hqp ⊢
  have hlk : ∀ h : k < l.length, 0 ≤ l.getD k default ∧ l.getD k default < (c.length : Int) := fun h => hin _ (by rw [show l.getD k default = l[k] by simp [h]]; exact List.getElem_mem _)
  conv => whnf
  repeat' (first | (with_reducible first | refine HT.seq ?_ | refine HT.block ?_ | refine Br.not ?_) | ((with_reducible first | refine HT.region tt_ok ?_ | refine HT.drawn tt_ok (by kernel_rfl) (by decide +kernel) ?_ | refine HT.drawnL tt_ok (by kernel_rfl) (by decide +kernel) ?_ | refine HT.cond ?_ | refine HT.ret ?_ | refine HT.skip ?_ | refine HT.exit ?_ | refine Br.tt ?_ | refine Br.ff ?_); conv => whnf) | ((with_reducible first | refine Br.dec (fun hc => ?_) (fun hc => ?_) | refine Br.eq (fun hc => ?_) (fun hc => ?_) | refine Br.ne (fun hc => ?_) (fun hc => ?_)) <;> (first | (exfalso; omega) | conv => whnf)) | ((with_reducible first | refine Br.ttE (by decide) ?_ | refine Br.ffE (by decide) ?_ | refine Br.mk (fun hc => ?_) (fun hc => ?_) | refine Chk.mk (by first | omega | with_reducible rfl | (refine ⟨rfl, ?_⟩; omega) | decide | exact ⟨rfl, by omega, by omega, rfl⟩ | exact ⟨by assumption, rfl, by omega, by omega⟩) ?_ | refine Ar.fit (by omega) ?_ | refine Eqv.shr1 ?_ | refine Ar.u64 (by omega) ?_) <;> conv => whnf) | ((first | (refine CallN.turn 0 _ _ rfl (pick_c _ _ 8 (by omega) (by omega)) ?_; rintro r N p' ⟨⟨p8, hp80, hp81, rfl⟩, rfl, rfl⟩) | (refine CallN.retB (ss' := [isl c, isl ps]) (l1WtR_c c ps hcm (InC.of hp) (by omega)) ⟨Lends.refl _, Lends.row (by repeat (first | exact List.mem_cons_self | refine List.mem_cons_of_mem _ ?_)), trivial⟩ (fun r ⟨z, e⟩ => e ▸ trivial) ?_; rintro r ⟨z, rfl⟩) | refine CallN.ret1 (specQuo_c c hcm) ?_ | (refine CallN.retB1 (ss' := [isl c, vxV ⟨n, a, ps, ((31 * (n : Int) + 7 * (a : Int) + pd).tmod 991)⟩]) (l11Vertex_c c ⟨n, a, ps, ((31 * (n : Int) + 7 * (a : Int) + pd).tmod 991)⟩ hcm (by dsimp only; omega)) ⟨Lends.refl _, Lends.agg ⟨Lends.refl _, Lends.refl _, Lends.row (by repeat (first | exact List.mem_cons_self | refine List.mem_cons_of_mem _ ?_)), Lends.refl _, trivial⟩ rfl, trivial⟩ (by exact trivial) ?_) | (refine CallN.retB1 (ss' := [isl c, vxV ⟨n, a, l, ((31 * (n : Int) + 7 * (a : Int) + pd).tmod 991)⟩]) (l11Vertex_c c ⟨n, a, l, ((31 * (n : Int) + 7 * (a : Int) + pd).tmod 991)⟩ hcm (by dsimp only; omega)) ⟨Lends.refl _, Lends.agg ⟨Lends.refl _, Lends.refl _, Lends.rowA (by repeat (first | exact List.mem_cons_self | refine List.mem_cons_of_mem _ ?_)) (by simp) (fun i j hi hj => cat_ints (l := []) hi hj), Lends.refl _, trivial⟩ rfl, trivial⟩ (by exact trivial) ?_)) <;> conv => whnf) | (with_reducible exact trivial) | ((with_reducible refine And.intro ?_ ?_) <;> conv => whnf) | (intro gn; conv => whnf))
  all_goals (try simp only [Int.toNat_natCast] at *)
  · rename_i A4
    exact ⟨⟨(k + 1, ps ++ [_], A4, ps.length + 1, gn), ⟨by dsimp only; omega, all_app hp (hlk (by omega)), by dsimp only; rw [List.length_append]; simp; omega, by dsimp only; rw [List.length_append]; rfl⟩, by dsimp only; omega, (by repeat' (first | exact trivial | refine ⟨rfl, ?_⟩)), ⟨(by first | with_reducible exact CellLe.refl _ | exact CellLe.own | exact CellLe.i (by omega) | exact CellLe.nil | exact CellLe.slNil | exact CellLe.refl _), trivial⟩, HLe.pk (by
      conv => whnf
      refine PP.start ?_; repeat (first | exact PP.nil | refine PP.take (by first | with_reducible exact Hp.Sub.refl _ | exact Hp.Sub.rd (by omega) | exact Hp.Sub.rowA (by simp) (fun i j hi hj => cat_ints hi hj) | exact Hp.Sub.boxA (by (repeat (first | exact all_lt_zero | refine all_lt_succ (p := fun j => CellLe _ _) (by first | with_reducible exact CellLe.refl _ | exact CellLe.own | exact CellLe.i (by omega) | exact CellLe.nil | exact CellLe.slNil | exact CellLe.refl _) ?_))) | exact Hp.Sub.refl _) ?_ | refine PP.skip ?_))⟩⟩
  · exact ⟨⟨(k + 1, ps, P, qp, cpp), ⟨by dsimp only; omega, hp, by dsimp only; omega, hqp⟩, by dsimp only; omega, (by repeat' (first | exact trivial | refine ⟨rfl, ?_⟩)), ⟨(by first | with_reducible exact CellLe.refl _ | exact CellLe.own | exact CellLe.i (by omega) | exact CellLe.nil | exact CellLe.slNil | exact CellLe.refl _), trivial⟩, HLe.pk (by
      conv => whnf
      refine PP.start ?_; repeat (first | exact PP.nil | refine PP.take (by first | with_reducible exact Hp.Sub.refl _ | exact Hp.Sub.rd (by omega) | exact Hp.Sub.boxA (by (repeat (first | exact all_lt_zero | refine all_lt_succ (p := fun j => CellLe _ _) (by first | with_reducible exact CellLe.refl _ | exact CellLe.own | exact CellLe.i (by omega) | exact CellLe.nil | exact CellLe.slNil | exact CellLe.refl _) ?_))) | exact Hp.Sub.refl _) ?_ | refine PP.skip ?_))⟩⟩
  · rename_i A4
    refine ⟨⟨(a + 1, ws ++ [⟨n, a, l, ((31 * (n : Int) + 7 * (a : Int) + pd).tmod 991)⟩], A4, ws.length + 1, gn), ⟨by dsimp only; omega, all_vx hw hc, by dsimp only; rw [List.length_append]; simp; omega, by dsimp only; rw [List.length_append]; rfl⟩, by dsimp only; omega, (by repeat' (first | exact trivial | refine ⟨rfl, ?_⟩)), ⟨(by first | with_reducible exact CellLe.refl _ | exact CellLe.own | exact CellLe.i (by omega) | exact CellLe.nil | exact CellLe.slNil | exact CellLe.refl _), (by first | with_reducible exact CellLe.refl _ | exact CellLe.own | exact CellLe.i (by omega) | exact CellLe.nil | exact CellLe.slNil | exact CellLe.refl _), trivial⟩, ?_⟩⟩
    refine HLe.frz (e := 3) (sz := 1) (n := l.length) (f := rowF intF l) (H1 := [.row (.slice A4 (ws.length + 1) gn) 37 4 (ws.length + 1) _, .cust (rdH g (m + 2000 * n + 100 * ((a + 1 : Nat) : Int))), .cust R]) (by
      conv => whnf
      refine PP.start ?_; repeat (first | exact PP.nil | refine PP.take (by first | with_reducible exact Hp.Sub.refl _ | exact Hp.Sub.rd (by omega) | exact Hp.Sub.rowA (by first | rfl | simp | omega) (fun i j hi hj => by first | rfl | exact cat_ints (l := []) hi hj) | exact Hp.Sub.boxA (by (repeat (first | exact all_lt_zero | refine all_lt_succ (p := fun j => CellLe _ _) (by first | with_reducible exact CellLe.refl _ | exact CellLe.own | exact CellLe.i (by omega) | exact CellLe.nil | exact CellLe.slNil | exact CellLe.refl _) ?_))) | exact Hp.Sub.refl _) ?_ | refine PP.skip ?_)) (fun w F hsl => ⟨SubW.row (by rw [List.length_append]; rfl) (fun i j hi hj x hx => vx_cat (by (repeat (first | exact all_lt_zero | refine all_lt_succ (p := fun k => ∀ v, Has _ _ _ v → Has _ _ _ v) (by (first | exact fun _ h => h | exact (fun u hu => (show u = _ from hu) ▸ hsl))) ?_))) hi hj x hx), SubW.refl _, SubW.refl _, trivial⟩)
  · exact ⟨⟨(a + 1, ws, B, q2, cp2), ⟨by dsimp only; omega, hw, by dsimp only; omega, hq2⟩, by dsimp only; omega, (by repeat' (first | exact trivial | refine ⟨rfl, ?_⟩)), ⟨(by first | with_reducible exact CellLe.refl _ | exact CellLe.own | exact CellLe.i (by omega) | exact CellLe.nil | exact CellLe.slNil | exact CellLe.refl _), (by first | with_reducible exact CellLe.refl _ | exact CellLe.own | exact CellLe.i (by omega) | exact CellLe.nil | exact CellLe.slNil | exact CellLe.refl _), trivial⟩, HLe.pk (by
      conv => whnf
      refine PP.start ?_; repeat (first | exact PP.nil | refine PP.take (by first | with_reducible exact Hp.Sub.refl _ | exact Hp.Sub.rd (by omega) | exact Hp.Sub.boxA (by (repeat (first | exact all_lt_zero | refine all_lt_succ (p := fun j => CellLe _ _) (by first | with_reducible exact CellLe.refl _ | exact CellLe.own | exact CellLe.i (by omega) | exact CellLe.nil | exact CellLe.slNil | exact CellLe.refl _) ?_))) | exact Hp.Sub.refl _) ?_ | refine PP.skip ?_))⟩⟩
  · rename_i A4
    refine ⟨⟨(a + 1, ws ++ [⟨n, a, ps, ((31 * (n : Int) + 7 * (a : Int) + pd).tmod 991)⟩], A4, ws.length + 1, gn), ⟨by dsimp only; omega, all_vx hw hc, by dsimp only; rw [List.length_append]; simp; omega, by dsimp only; rw [List.length_append]; rfl⟩, by dsimp only; omega, (by repeat' (first | exact trivial | refine ⟨rfl, ?_⟩)), ⟨(by first | with_reducible exact CellLe.refl _ | exact CellLe.own | exact CellLe.i (by omega) | exact CellLe.nil | exact CellLe.slNil | exact CellLe.refl _), (by first | with_reducible exact CellLe.refl _ | exact CellLe.own | exact CellLe.i (by omega) | exact CellLe.nil | exact CellLe.slNil | exact CellLe.refl _), trivial⟩, ?_⟩⟩
    refine HLe.frz (e := 3) (sz := 1) (n := ps.length) (f := rowF intF ps) (H1 := [.row (.slice A4 (ws.length + 1) gn) 37 4 (ws.length + 1) _, .cust (rdH g (m + 2000 * n + 100 * ((a + 1 : Nat) : Int))), .cust R]) (by
      conv => whnf
      refine PP.start ?_; repeat (first | exact PP.nil | refine PP.take (by first | with_reducible exact Hp.Sub.refl _ | exact Hp.Sub.rd (by omega) | exact Hp.Sub.rowA (by first | rfl | simp | omega) (fun i j hi hj => by first | rfl | exact cat_ints (l := []) hi hj) | exact Hp.Sub.boxA (by (repeat (first | exact all_lt_zero | refine all_lt_succ (p := fun j => CellLe _ _) (by first | with_reducible exact CellLe.refl _ | exact CellLe.own | exact CellLe.i (by omega) | exact CellLe.nil | exact CellLe.slNil | exact CellLe.refl _) ?_))) | exact Hp.Sub.refl _) ?_ | refine PP.skip ?_)) (fun w F hsl => ⟨SubW.row (by rw [List.length_append]; rfl) (fun i j hi hj x hx => vx_cat (by (repeat (first | exact all_lt_zero | refine all_lt_succ (p := fun k => ∀ v, Has _ _ _ v → Has _ _ _ v) (by (first | exact fun _ h => h | exact (fun u hu => (show u = _ from hu) ▸ hsl))) ?_))) hi hj x hx), SubW.refl _, SubW.refl _, trivial⟩)
  · exact ⟨⟨(a + 1, ws, B, q2, cp2), ⟨by dsimp only; omega, hw, by dsimp only; omega, hq2⟩, by dsimp only; omega, (by repeat' (first | exact trivial | refine ⟨rfl, ?_⟩)), ⟨(by first | with_reducible exact CellLe.refl _ | exact CellLe.own | exact CellLe.i (by omega) | exact CellLe.nil | exact CellLe.slNil | exact CellLe.refl _), (by first | with_reducible exact CellLe.refl _ | exact CellLe.own | exact CellLe.i (by omega) | exact CellLe.nil | exact CellLe.slNil | exact CellLe.refl _), trivial⟩, HLe.pk (by
      conv => whnf
      refine PP.start ?_; repeat (first | exact PP.nil | refine PP.take (by first | with_reducible exact Hp.Sub.refl _ | exact Hp.Sub.rd (by omega) | exact Hp.Sub.boxA (by (repeat (first | exact all_lt_zero | refine all_lt_succ (p := fun j => CellLe _ _) (by first | with_reducible exact CellLe.refl _ | exact CellLe.own | exact CellLe.i (by omega) | exact CellLe.nil | exact CellLe.slNil | exact CellLe.refl _) ?_))) | exact Hp.Sub.refl _) ?_ | refine PP.skip ?_))⟩⟩
  · rename_i A4
    refine ⟨⟨(a + 1, ws ++ [⟨n, a, ps, ((31 * (n : Int) + 7 * (a : Int) + pd).tmod 991)⟩], A4, ws.length + 1, gn), ⟨by dsimp only; omega, all_vx hw hc, by dsimp only; rw [List.length_append]; simp; omega, by dsimp only; rw [List.length_append]; rfl⟩, by dsimp only; omega, (by repeat' (first | exact trivial | refine ⟨rfl, ?_⟩)), ⟨(by first | with_reducible exact CellLe.refl _ | exact CellLe.own | exact CellLe.i (by omega) | exact CellLe.nil | exact CellLe.slNil | exact CellLe.refl _), (by first | with_reducible exact CellLe.refl _ | exact CellLe.own | exact CellLe.i (by omega) | exact CellLe.nil | exact CellLe.slNil | exact CellLe.refl _), trivial⟩, ?_⟩⟩
    refine HLe.frz (e := 3) (sz := 1) (n := ps.length) (f := rowF intF ps) (H1 := [.row (.slice A4 (ws.length + 1) gn) 37 4 (ws.length + 1) _, .cust (rdH g (m + 2000 * n + 100 * ((a + 1 : Nat) : Int))), .cust R]) (by
      conv => whnf
      refine PP.start ?_; repeat (first | exact PP.nil | refine PP.take (by first | with_reducible exact Hp.Sub.refl _ | exact Hp.Sub.rd (by omega) | exact Hp.Sub.rowA (by first | rfl | simp | omega) (fun i j hi hj => by first | rfl | exact cat_ints (l := []) hi hj) | exact Hp.Sub.boxA (by (repeat (first | exact all_lt_zero | refine all_lt_succ (p := fun j => CellLe _ _) (by first | with_reducible exact CellLe.refl _ | exact CellLe.own | exact CellLe.i (by omega) | exact CellLe.nil | exact CellLe.slNil | exact CellLe.refl _) ?_))) | exact Hp.Sub.refl _) ?_ | refine PP.skip ?_)) (fun w F hsl => ⟨SubW.row (by rw [List.length_append]; rfl) (fun i j hi hj x hx => vx_cat (by (repeat (first | exact all_lt_zero | refine all_lt_succ (p := fun k => ∀ v, Has _ _ _ v → Has _ _ _ v) (by (first | exact fun _ h => h | exact (fun u hu => (show u = _ from hu) ▸ hsl))) ?_))) hi hj x hx), SubW.refl _, SubW.refl _, trivial⟩)
  · exact ⟨⟨(a + 1, ws, B, q2, cp2), ⟨by dsimp only; omega, hw, by dsimp only; omega, hq2⟩, by dsimp only; omega, (by repeat' (first | exact trivial | refine ⟨rfl, ?_⟩)), ⟨(by first | with_reducible exact CellLe.refl _ | exact CellLe.own | exact CellLe.i (by omega) | exact CellLe.nil | exact CellLe.slNil | exact CellLe.refl _), (by first | with_reducible exact CellLe.refl _ | exact CellLe.own | exact CellLe.i (by omega) | exact CellLe.nil | exact CellLe.slNil | exact CellLe.refl _), trivial⟩, HLe.pk (by
      conv => whnf
      refine PP.start ?_; repeat (first | exact PP.nil | refine PP.take (by first | with_reducible exact Hp.Sub.refl _ | exact Hp.Sub.rd (by omega) | exact Hp.Sub.boxA (by (repeat (first | exact all_lt_zero | refine all_lt_succ (p := fun j => CellLe _ _) (by first | with_reducible exact CellLe.refl _ | exact CellLe.own | exact CellLe.i (by omega) | exact CellLe.nil | exact CellLe.slNil | exact CellLe.refl _) ?_))) | exact Hp.Sub.refl _) ?_ | refine PP.skip ?_))⟩⟩⟩
end Go.Proofs.YtpmhikdefbcofaaDoor
/-! YtpmhikdefbcofaaDoorVs -/
set_option linter.all false
namespace Go.Proofs.YtpmhikdefbcofaaDoor
open Go.RowKit

/-- cells of a vertex in a row are written -/
theorem put_vx {vs : List Vx} {p o m i j : Nat} {fv : Nat → SV} {v : Vx} (hp : p < vs.length) (hv : ∀ j, j < 4 → putF o m fv (vxF (vs.getD p default)) j = vxF v j) (hj : j < 4) : putR p o m fv (rowF vxF vs) i j = rowF vxF (vs.set p v) i j := by
  show _ = vxF ((vs.set p v).getD i default) j
  unfold putR
  by_cases h : i = p
  · subst h
    rw [Nat.beq_refl, cond_true, List.getD_eq_getElem?_getD, List.getElem?_set_self hp]
    exact hv j hj
  · have e : Nat.beq i p = false := by rw [Bool.eq_false_iff]; exact fun hb => h (Nat.eq_of_beq_eq_true hb)
    rw [e, cond_false, List.getD_eq_getElem?_getD, List.getElem?_set_ne (fun e => h e.symm), ← List.getD_eq_getElem?_getD]
    rfl
/-- a vertex with modest numbers -/
def BV (v : Vx) : Prop := (-10 ≤ v.r ∧ v.r ≤ 1000) ∧ (-10 ≤ v.a ∧ v.a ≤ 1000) ∧ v.ps.length ≤ 200 ∧ (-10 ≤ v.d ∧ v.d ≤ 1000)
theorem vxOk_bv {c : List Int} {v : Vx} (hc : cmOk c = true) (h : vxOk c v = true) : BV v := by
  have h1 := vxOk_iff h
  have h2 := (cmOk_iff.1 hc).1
  have h3 := ms_len h1.2.2.1
  exact ⟨by omega, by omega, by omega, by omega⟩
theorem bv_get {vs : List Vx} (h : ∀ v ∈ vs, BV v) {i : Nat} (hi : i < vs.length) : BV (vs.getD i default) := h _ (by rw [show vs.getD i default = vs[i] by simp [hi]]; exact List.getElem_mem _)
theorem bv_set {vs : List Vx} {v : Vx} (h : ∀ v ∈ vs, BV v) (hv : BV v) (i : Nat) : ∀ u ∈ vs.set i v, BV u := fun u hu => by
  rcases List.mem_or_eq_of_mem_set hu with hu | rfl
  · exact h u hu
  · exact hv
theorem bv_app {vs : List Vx} {v : Vx} (h : ∀ v ∈ vs, BV v) (hv : BV v) : ∀ u ∈ vs ++ [v], BV u := fun u hu => by
  rcases List.mem_append.1 hu with hu | hu
  · exact h u hu
  · rw [List.mem_singleton.1 hu]; exact hv
theorem bv_cut {vs : List Vx} (h : ∀ v ∈ vs, BV v) (k : Nat) : ∀ u ∈ vs.take k ++ vs.drop (k + 1), BV u := fun u hu => by
  rcases List.mem_append.1 hu with hu | hu
  · exact h u (List.mem_of_mem_take hu)
  · exact h u (List.mem_of_mem_drop hu)
theorem cut_vx {vs : List Vx} {k q : Nat} {g0 : Nat → Nat → SV} {i j : Nat} (hk : k < vs.length) (hq : q = k + 1) (hi : i < vs.length - 1) : catF (0 + k) (catF 0 g0 (rowF vxF vs)) (fun i => rowF vxF vs (q + i)) i j = rowF vxF (vs.take k ++ vs.drop (k + 1)) i j := by
  subst hq
  unfold catF
  show _ = vxF ((vs.take k ++ vs.drop (k + 1)).getD i default) j
  rw [List.getD_eq_getElem?_getD, List.getElem?_append, List.length_take, Nat.min_eq_left (by omega)]
  by_cases h : i < k
  · rw [if_pos (by omega), if_neg (by omega), if_pos h, List.getElem?_take, if_pos h, ← List.getD_eq_getElem?_getD]
    rfl
  · rw [if_neg (by omega), if_neg h, List.getElem?_drop, ← List.getD_eq_getElem?_getD]
    show vxF (vs.getD (k + 1 + (i - (0 + k))) default) j = _
    rw [show k + 1 + (i - (0 + k)) = k + 1 + (i - k) by omega]
theorem one_vx {vs : List Vx} {v : Vx} {g0 : Nat → Nat → SV} {i j : Nat} (h : g0 0 j = vxF v j) (hi : i < vs.length + 1) : catF vs.length (rowF vxF vs) g0 i j = rowF vxF (vs ++ [v]) i j := by
  unfold catF
  show _ = vxF ((vs ++ [v]).getD i default) j
  by_cases hlt : i < vs.length
  · rw [if_pos hlt, List.getD_eq_getElem?_getD, List.getElem?_append_left hlt, ← List.getD_eq_getElem?_getD]; rfl
  · obtain rfl : i = vs.length := by omega
    rw [if_neg hlt, Nat.sub_self, h]
    simp
/-- a committee and a graph were drawn -/
def DrewCG (d : Int) (g : Nat) (m : Int) (r : SV) (N : List Hp) (p' : Hp) : Prop :=
  N = [] ∧ (∃ c vs, c.length ≤ 11 ∧ vs.length ≤ 99 ∧ (∀ v ∈ vs, BV v) ∧ r = .tup 2 (litF [isl c, vsl vs])) ∧ p' = .cust (rdH g (m + d))
theorem Fin.cg {v : Value} {k n : Nat} {f : Nat → Nat → SV} {c : List Int} {vs : List Vx} {g : Nat} {m : Int} {R : Heaplet} {H : List Hp} {r : SV} (hp : PPick H [.row v 37 4 n f, .cust (rdH g (m + 30500)), .cust R]) (hn : n = vs.length) (hf : ∀ i j, i < n → j < 4 → f i j = rowF vxF vs i j)
    (hr : ∀ w F, LeW w F r (.tup 2 (litF [isl c, .own k v]))) (hc : c.length ≤ 11) (hl : vs.length ≤ 99) (hb : ∀ v ∈ vs, BV v) : Fin r H (fun r H' => ∃ N p', H' = N ++ [p', .cust R] ∧ DrewCG 30500 g m r N p') := by
  subst hn
  refine Fin.frz (r' := .tup 2 (litF [isl c, vsl vs])) [.row v 37 4 vs.length f] [.cust (rdH g (m + 30500)), .cust R] hp (fun w F hz => ?_) ⟨[], _, rfl, rfl, ⟨c, vs, hc, hl, hb, rfl⟩, rfl⟩
  refine ⟨AllW.refl _ _ _, fun x hx => LeW.tup2 (f := litF [isl c, .own k v]) (g := litF [isl c, vsl vs]) (fun _ h => h) (fun u hu => ?_) x (hr w F x hx)⟩
  have e : u = v := hu
  subst e
  exact Has.slL (fun i j hi hj x hx => by rw [hf i j hi hj] at hx; exact hx) hz.1
set_option maxRecDepth 100000 in
set_option maxHeartbeats 4000000 in
theorem l91Spoilt_c (rn : Int) (g : Nat) (m : Int) (hm : m ≤ 100000) (hrn : rn ≤ 14) : SMut Tryd.prog 61 [.val (.pointer (some ⟨g, 0, none⟩)), .i rn] (.cust (rdH g m)) (DrewCG 30500 g m) := ⟨fun R => by
  refine SCalls.enter tt_ok Tryd.func61 (by kernel_rfl) rfl [(0, .cust (rdH g m)), (900, .cust R)] rfl (argF _) (fun w F v k h => h) (by simp) ?_
  repeat' (first | (with_reducible first | refine HT.seq ?_ | refine HT.block ?_ | refine Br.not ?_) | ((with_reducible first | refine HT.region tt_ok ?_ | refine HT.drawn tt_ok (by kernel_rfl) (by decide +kernel) ?_ | refine HT.drawnL tt_ok (by kernel_rfl) (by decide +kernel) ?_ | refine HT.cond ?_ | refine HT.ret ?_ | refine HT.skip ?_ | refine HT.exit ?_ | refine Br.tt ?_ | refine Br.ff ?_); conv => whnf) | ((with_reducible first | refine Br.dec (fun hc => ?_) (fun hc => ?_) | refine Br.eq (fun hc => ?_) (fun hc => ?_) | refine Br.ne (fun hc => ?_) (fun hc => ?_)) <;> (first | (exfalso; omega) | conv => whnf)) | ((with_reducible first | refine Br.ttE (by decide) ?_ | refine Br.ffE (by decide) ?_ | refine Br.mk (fun hc => ?_) (fun hc => ?_) | refine Chk.mk (by first | omega | with_reducible rfl | (refine ⟨rfl, ?_⟩; omega) | decide | exact ⟨rfl, by omega, by omega, rfl⟩ | exact ⟨by assumption, rfl, by omega, by omega⟩) ?_ | refine Ar.fit (by omega) ?_ | refine Eqv.shr1 ?_ | refine Ar.u64 (by omega) ?_) <;> conv => whnf) | ((first | (refine CallN.turn 0 _ _ rfl ((l91Good_c _ _ (by omega)).stillL) ?_; rintro r N p' ⟨rfl, ⟨c, hcm, rfl⟩, rfl⟩; have h7 := (cmOk_iff.1 hcm).1) | (refine CallN.turn 0 _ _ rfl (l91Graph_c c _ _ _ hcm (by omega) (by omega)) ?_; rintro r N p' ⟨vs, A, _, cp, hvs, hvl, rfl, rfl, rfl, rfl⟩) | (refine CallN.turn 0 _ _ rfl (pick_c _ _ vs.length (by omega) (by omega)) ?_; rintro r N p' ⟨⟨kv, hkv0, hkv1, rfl⟩, rfl, rfl⟩)) <;> conv => whnf) | (with_reducible exact trivial) | ((with_reducible refine And.intro ?_ ?_) <;> conv => whnf) | (intro gn; conv => whnf))
  · have hbv : ∀ v ∈ vs, BV v := fun v hv => vxOk_bv hcm (hvs v hv)
    refine Fin.cg (c := c) (vs := vs) (by refine PP.start ?_; repeat (first | exact PP.nil | refine PP.take (by first | with_reducible exact Hp.Sub.refl _ | exact Hp.Sub.rd (by omega) | exact Hp.Sub.boxA (by (repeat (first | exact all_lt_zero | refine all_lt_succ (p := fun j => CellLe _ _) (by first | with_reducible exact CellLe.refl _ | exact CellLe.own | exact CellLe.i (by omega) | exact CellLe.nil | exact CellLe.slNil | exact CellLe.refl _) ?_))) | exact Hp.Sub.refl _) ?_ | refine PP.skip ?_)) rfl (fun _ _ _ _ => rfl) (fun w F => LeW.tup2 (fun _ h => h) (fun _ h => h)) (by omega) (by omega) hbv
  have hbv : ∀ v ∈ vs, BV v := fun v hv => vxOk_bv hcm (hvs v hv)
  have hbk : kv.toNat < vs.length := by omega
  have hb := bv_get hbv hbk
  refine CallN.turn 0 _ _ rfl (pick_c _ _ 20 (by omega) (by omega)) ?_
  rintro r N p' ⟨⟨kw, hkw0, hkw1, rfl⟩, rfl, rfl⟩
  conv => whnf
  by_cases h4 : kw = 4
  · subst h4
    refine HT.frz [.row (.slice A vs.length cp) 37 4 vs.length (rowF vxF vs)] [.cust (rdH g (m + 30 + 30000 + 1 + 1)), .cust R] [(7, vsl vs)] [(0, .cust (rdH g (m + 30 + 30000 + 1 + 1))), (900, .cust R)] (by
      conv => whnf
      refine PP.start ?_; repeat (first | exact PP.nil | refine PP.take (by first | with_reducible exact Hp.Sub.refl _ | exact Hp.Sub.rd (by omega) | exact Hp.Sub.boxA (by (repeat (first | exact all_lt_zero | refine all_lt_succ (p := fun j => CellLe _ _) (by first | with_reducible exact CellLe.refl _ | exact CellLe.own | exact CellLe.i (by omega) | exact CellLe.nil | exact CellLe.slNil | exact CellLe.refl _) ?_))) | exact Hp.Sub.refl _) ?_ | refine PP.skip ?_)) (fun w F hz => ⟨AllW.refl _ _ _, fun x hx => (show x = _ from hx) ▸ hz.1, trivial⟩) ?_
    conv => whnf
    repeat' (first | (with_reducible first | refine HT.seq ?_ | refine HT.block ?_ | refine Br.not ?_) | ((with_reducible first | refine HT.region tt_ok ?_ | refine HT.drawn tt_ok (by kernel_rfl) (by decide +kernel) ?_ | refine HT.drawnL tt_ok (by kernel_rfl) (by decide +kernel) ?_ | refine HT.cond ?_ | refine HT.ret ?_ | refine HT.skip ?_ | refine HT.exit ?_ | refine Br.tt ?_ | refine Br.ff ?_); conv => whnf) | ((with_reducible first | refine Br.dec (fun hc => ?_) (fun hc => ?_) | refine Br.eq (fun hc => ?_) (fun hc => ?_) | refine Br.ne (fun hc => ?_) (fun hc => ?_)) <;> (first | (exfalso; omega) | conv => whnf)) | ((with_reducible first | refine Br.ttE (by decide) ?_ | refine Br.ffE (by decide) ?_ | refine Br.mk (fun hc => ?_) (fun hc => ?_) | refine Chk.mk (by first | omega | with_reducible rfl | (refine ⟨rfl, ?_⟩; omega) | decide | exact ⟨rfl, by omega, by omega, rfl⟩ | exact ⟨by assumption, rfl, by omega, by omega⟩) ?_ | refine Ar.fit (by omega) ?_ | refine Eqv.shr1 ?_ | refine Ar.u64 (by omega) ?_) <;> conv => whnf) | (with_reducible exact trivial) | ((with_reducible refine And.intro ?_ ?_) <;> conv => whnf) | (intro gn; conv => whnf))
    all_goals refine Fin.cg (c := c) (vs := vs.take kv.toNat ++ vs.drop (kv.toNat + 1)) (by refine PP.start ?_; repeat (first | exact PP.nil | refine PP.take (by first | with_reducible exact Hp.Sub.refl _ | exact Hp.Sub.rd (by omega) | exact Hp.Sub.boxA (by (repeat (first | exact all_lt_zero | refine all_lt_succ (p := fun j => CellLe _ _) (by first | with_reducible exact CellLe.refl _ | exact CellLe.own | exact CellLe.i (by omega) | exact CellLe.nil | exact CellLe.slNil | exact CellLe.refl _) ?_))) | exact Hp.Sub.refl _) ?_ | refine PP.skip ?_)) (by simp; omega) (fun i j hi hj => cut_vx hbk (by omega) (by omega)) (fun w F => LeW.tup2 (fun _ h => h) (fun _ h => h)) (by omega) (by simp; omega) (bv_cut hbv _)
  have hl1 : ∀ v, (vs.set kv.toNat v).length ≤ 99 := fun v => by rw [List.length_set]; omega
  repeat' (first | (with_reducible first | refine HT.seq ?_ | refine HT.block ?_ | refine Br.not ?_) | ((with_reducible first | refine HT.region tt_ok ?_ | refine HT.drawn tt_ok (by kernel_rfl) (by decide +kernel) ?_ | refine HT.drawnL tt_ok (by kernel_rfl) (by decide +kernel) ?_ | refine HT.cond ?_ | refine HT.ret ?_ | refine HT.skip ?_ | refine HT.exit ?_ | refine Br.tt ?_ | refine Br.ff ?_); conv => whnf) | ((with_reducible first | refine Br.dec (fun hc => ?_) (fun hc => ?_) | refine Br.eq (fun hc => ?_) (fun hc => ?_) | refine Br.ne (fun hc => ?_) (fun hc => ?_)) <;> (first | (exfalso; omega) | conv => whnf)) | ((with_reducible first | refine Br.ttE (by decide) ?_ | refine Br.ffE (by decide) ?_ | refine Br.mk (fun hc => ?_) (fun hc => ?_) | refine Chk.mk (by first | omega | with_reducible rfl | (refine ⟨rfl, ?_⟩; omega) | decide | exact ⟨rfl, by omega, by omega, rfl⟩ | exact ⟨by assumption, rfl, by omega, by omega⟩) ?_ | refine Ar.fit (by omega) ?_ | refine Eqv.shr1 ?_ | refine Ar.u64 (by omega) ?_) <;> conv => whnf) | ((first | (refine CallN.turn 0 _ _ rfl (l91Digest_c _ _ (by omega)) ?_; rintro r N p' ⟨⟨dd, hdd0, hdd1, rfl⟩, rfl, rfl⟩) | (refine CallN.turn 0 _ _ rfl (pick_c _ _ 33 (by omega) (by omega)) ?_; rintro r N p' ⟨⟨k33, hk330, hk331, rfl⟩, rfl, rfl⟩) | (refine CallN.turn 0 _ _ rfl (pick_c _ _ 9 (by omega) (by omega)) ?_; rintro r N p' ⟨⟨k9, hk90, hk91, rfl⟩, rfl, rfl⟩) | (refine CallN.turn 0 _ _ rfl ((l91Members_c _ _ _ (by omega) (by omega)).stillL) ?_; rintro r N p' ⟨rfl, ⟨ms, hms, rfl⟩, rfl⟩) | (refine CallN.turn 0 _ _ rfl ((l91Committee_c _ _ (by omega)).stillL) ?_; rintro r N p' ⟨rfl, ⟨c2, hc2, rfl⟩, rfl⟩)) <;> conv => whnf) | (with_reducible exact trivial) | ((with_reducible refine And.intro ?_ ?_) <;> conv => whnf) | (intro gn; conv => whnf))
  all_goals first
    | refine Fin.cg (c := c) (vs := vs.set kv.toNat ⟨(vs.getD kv.toNat default).r, (vs.getD kv.toNat default).a, (vs.getD kv.toNat default).ps, dd⟩) (by refine PP.start ?_; repeat (first | exact PP.nil | refine PP.take (by first | with_reducible exact Hp.Sub.refl _ | exact Hp.Sub.rd (by omega) | exact Hp.Sub.boxA (by (repeat (first | exact all_lt_zero | refine all_lt_succ (p := fun j => CellLe _ _) (by first | with_reducible exact CellLe.refl _ | exact CellLe.own | exact CellLe.i (by omega) | exact CellLe.nil | exact CellLe.slNil | exact CellLe.refl _) ?_))) | exact Hp.Sub.refl _) ?_ | refine PP.skip ?_)) (by rw [List.length_set]) (fun i j hi hj => put_vx hbk (fun j hj => by rcases (by omega : j = 0 ∨ j = 1 ∨ j = 2 ∨ j = 3) with rfl | rfl | rfl | rfl <;> rfl) hj) (fun w F => LeW.tup2 (fun _ h => h) (fun _ h => h)) (by omega) (hl1 _) (bv_set hbv (by unfold BV at hb ⊢; dsimp only; omega) _)
    | refine Fin.cg (c := c) (vs := vs.set kv.toNat ⟨k33 - 1, (vs.getD kv.toNat default).a, (vs.getD kv.toNat default).ps, (vs.getD kv.toNat default).d⟩) (by refine PP.start ?_; repeat (first | exact PP.nil | refine PP.take (by first | with_reducible exact Hp.Sub.refl _ | exact Hp.Sub.rd (by omega) | exact Hp.Sub.boxA (by (repeat (first | exact all_lt_zero | refine all_lt_succ (p := fun j => CellLe _ _) (by first | with_reducible exact CellLe.refl _ | exact CellLe.own | exact CellLe.i (by omega) | exact CellLe.nil | exact CellLe.slNil | exact CellLe.refl _) ?_))) | exact Hp.Sub.refl _) ?_ | refine PP.skip ?_)) (by rw [List.length_set]) (fun i j hi hj => put_vx hbk (fun j hj => by rcases (by omega : j = 0 ∨ j = 1 ∨ j = 2 ∨ j = 3) with rfl | rfl | rfl | rfl <;> rfl) hj) (fun w F => LeW.tup2 (fun _ h => h) (fun _ h => h)) (by omega) (hl1 _) (bv_set hbv (by unfold BV at hb ⊢; dsimp only; omega) _)
    | refine Fin.cg (c := c) (vs := vs.set kv.toNat ⟨(vs.getD kv.toNat default).r, k9 - 1, (vs.getD kv.toNat default).ps, (vs.getD kv.toNat default).d⟩) (by refine PP.start ?_; repeat (first | exact PP.nil | refine PP.take (by first | with_reducible exact Hp.Sub.refl _ | exact Hp.Sub.rd (by omega) | exact Hp.Sub.boxA (by (repeat (first | exact all_lt_zero | refine all_lt_succ (p := fun j => CellLe _ _) (by first | with_reducible exact CellLe.refl _ | exact CellLe.own | exact CellLe.i (by omega) | exact CellLe.nil | exact CellLe.slNil | exact CellLe.refl _) ?_))) | exact Hp.Sub.refl _) ?_ | refine PP.skip ?_)) (by rw [List.length_set]) (fun i j hi hj => put_vx hbk (fun j hj => by rcases (by omega : j = 0 ∨ j = 1 ∨ j = 2 ∨ j = 3) with rfl | rfl | rfl | rfl <;> rfl) hj) (fun w F => LeW.tup2 (fun _ h => h) (fun _ h => h)) (by omega) (hl1 _) (bv_set hbv (by unfold BV at hb ⊢; dsimp only; omega) _)
    | refine Fin.cg (c := c) (vs := vs.set kv.toNat ⟨(vs.getD kv.toNat default).r, (vs.getD kv.toNat default).a, ms, (vs.getD kv.toNat default).d⟩) (by refine PP.start ?_; repeat (first | exact PP.nil | refine PP.take (by first | with_reducible exact Hp.Sub.refl _ | exact Hp.Sub.rd (by omega) | exact Hp.Sub.boxA (by (repeat (first | exact all_lt_zero | refine all_lt_succ (p := fun j => CellLe _ _) (by first | with_reducible exact CellLe.refl _ | exact CellLe.own | exact CellLe.i (by omega) | exact CellLe.nil | exact CellLe.slNil | exact CellLe.refl _) ?_))) | exact Hp.Sub.refl _) ?_ | refine PP.skip ?_)) (by rw [List.length_set]) (fun i j hi hj => put_vx hbk (fun j hj => by rcases (by omega : j = 0 ∨ j = 1 ∨ j = 2 ∨ j = 3) with rfl | rfl | rfl | rfl <;> rfl) hj) (fun w F => LeW.tup2 (fun _ h => h) (fun _ h => h)) (by omega) (hl1 _) (bv_set hbv (by unfold BV at hb ⊢; dsimp only; omega) _)
    | refine Fin.cg (c := c) (vs := vs ++ [(vs.getD kv.toNat default)]) (by refine PP.start ?_; repeat (first | exact PP.nil | refine PP.take (by first | with_reducible exact Hp.Sub.refl _ | exact Hp.Sub.rd (by omega) | exact Hp.Sub.boxA (by (repeat (first | exact all_lt_zero | refine all_lt_succ (p := fun j => CellLe _ _) (by first | with_reducible exact CellLe.refl _ | exact CellLe.own | exact CellLe.i (by omega) | exact CellLe.nil | exact CellLe.slNil | exact CellLe.refl _) ?_))) | exact Hp.Sub.refl _) ?_ | refine PP.skip ?_)) (by simp) (fun i j hi hj => one_vx (by rcases (by omega : j = 0 ∨ j = 1 ∨ j = 2 ∨ j = 3) with rfl | rfl | rfl | rfl <;> rfl) hi) (fun w F => LeW.tup2 (fun _ h => h) (fun _ h => h)) (by omega) (by simp; omega) (bv_app hbv hb)
    | refine Fin.cg (c := c2) (vs := vs) (by refine PP.start ?_; repeat (first | exact PP.nil | refine PP.take (by first | with_reducible exact Hp.Sub.refl _ | exact Hp.Sub.rd (by omega) | exact Hp.Sub.boxA (by (repeat (first | exact all_lt_zero | refine all_lt_succ (p := fun j => CellLe _ _) (by first | with_reducible exact CellLe.refl _ | exact CellLe.own | exact CellLe.i (by omega) | exact CellLe.nil | exact CellLe.slNil | exact CellLe.refl _) ?_))) | exact Hp.Sub.refl _) ?_ | refine PP.skip ?_)) rfl (fun i j hi hj => rfl) (fun w F => LeW.tup2 (fun _ h => h) (fun _ h => h)) (by omega) (by omega) hbv
    | refine Fin.cg (c := c) (vs := vs) (by refine PP.start ?_; repeat (first | exact PP.nil | refine PP.take (by first | with_reducible exact Hp.Sub.refl _ | exact Hp.Sub.rd (by omega) | exact Hp.Sub.boxA (by (repeat (first | exact all_lt_zero | refine all_lt_succ (p := fun j => CellLe _ _) (by first | with_reducible exact CellLe.refl _ | exact CellLe.own | exact CellLe.i (by omega) | exact CellLe.nil | exact CellLe.slNil | exact CellLe.refl _) ?_))) | exact Hp.Sub.refl _) ?_ | refine PP.skip ?_)) rfl (fun i j hi hj => rfl) (fun w F => LeW.tup2 (fun _ h => h) (fun _ h => h)) (by omega) (by omega) hbv
  ⟩
end Go.Proofs.YtpmhikdefbcofaaDoor
/-! YtpmhikdefbcofaaDoorGi -/
set_option linter.all false
namespace Go.Proofs.YtpmhikdefbcofaaDoor
open Go.RowKit

/-! ### lists of ints compared -/
theorem list_ext {α : Type} [Inhabited α] {a b : List α} (hl : a.length = b.length) (h : ∀ i, i < a.length → a.getD i default = b.getD i default) : a = b := by
  apply List.ext_getElem hl
  intro i h1 h2
  have := h i h1
  simpa [List.getD_eq_getElem?_getD, h1, h2] using this
theorem list_ne {α : Type} [Inhabited α] {a b : List α} {i : Nat} (h : a.getD i default ≠ b.getD i default) : a ≠ b := fun e => h (by rw [e])
theorem vx_ext {u v : Vx} (h0 : u.r = v.r) (h1 : u.a = v.a) (h2 : u.ps = v.ps) (h3 : u.d = v.d) : u = v := by
  cases u; cases v; simp at *; exact ⟨h0, h1, h2, h3⟩
instance : DecidableEq Vx := fun u v => if h : u.r = v.r ∧ u.a = v.a ∧ u.ps = v.ps ∧ u.d = v.d then .isTrue (vx_ext h.1 h.2.1 h.2.2.1 h.2.2.2) else .isFalse fun e => h (by rw [e]; simp)

def sameV (u v : Vx) : Bool := decide (u = v)
theorem sameV_eq {u v : Vx} : sameV u v = (decide (u.r = v.r) && (decide (u.a = v.a) && (decide (u.d = v.d) && decide (u.ps = v.ps)))) := by
  unfold sameV
  rw [Bool.eq_iff_iff]
  simp only [Bool.and_eq_true, decide_eq_true_eq]
  constructor
  · rintro rfl; exact ⟨rfl, rfl, rfl, rfl⟩
  · rintro ⟨h0, h1, h2, h3⟩; exact vx_ext h0 h1 h3 h2

end Go.Proofs.YtpmhikdefbcofaaDoor
/-! YtpmhikdefbcofaaDoorGj -/
set_option linter.all false
namespace Go.Proofs.YtpmhikdefbcofaaDoor
open Go.RowKit


/-- vertices in a row of their own, that has no room for more -/
def MadeV (vs : List Vx) (r : SV) (N : List Hp) : Prop := ∃ g n, n = vs.length ∧ r = .own 0 (.slice (some ⟨g, 0, none⟩) n n) ∧ N = [.row (.slice (some ⟨g, 0, none⟩) n n) 37 4 vs.length (rowF vxF vs)]
/-- the vertices with one more at place p -/
def insAt (vs : List Vx) (p : Nat) (v : Vx) : List Vx := vs.take p ++ v :: vs.drop p
theorem insAt_len {vs : List Vx} {p : Nat} {v : Vx} (h : p ≤ vs.length) : (insAt vs p v).length = vs.length + 1 := by
  unfold insAt; simp; omega
theorem insAt_get {vs : List Vx} {p i : Nat} {v : Vx} (h : p ≤ vs.length) : vg (insAt vs p v) i = if i < p then vg vs i else if i = p then v else vg vs (i - 1) := by
  unfold insAt vg
  rw [List.getD_eq_getElem?_getD, List.getElem?_append, List.length_take, Nat.min_eq_left h]
  by_cases h1 : i < p
  · rw [if_pos h1, if_pos h1, List.getElem?_take, if_pos h1, ← List.getD_eq_getElem?_getD]
  · rw [if_neg h1, if_neg h1]
    by_cases h2 : i = p
    · subst h2; simp
    · rw [if_neg h2, show i - p = (i - p - 1) + 1 by omega, List.getElem?_cons_succ, List.getElem?_drop, show p + (i - p - 1) = i - 1 by omega, ← List.getD_eq_getElem?_getD]
end Go.Proofs.YtpmhikdefbcofaaDoor
/-! YtpmhikdefbcofaaDoorGk -/
set_option linter.all false
namespace Go.Proofs.YtpmhikdefbcofaaDoor
open Go.RowKit

theorem SRet.arg {P : Program} {f : FuncId} {ss ss' : List SV} {Φ : SV → Prop} (h : SRet P f ss' Φ) (hl : ∀ w F vs, HasL w F ss vs → HasL w F ss' vs) : SRet P f ss Φ :=
  ⟨fun R => ⟨(h.h R).1, fun w F vs hs hv => (h.h R).2 w F vs hs (hl w F vs hv)⟩⟩
/-- where a vertex belongs -/
def plc (vs : List Vx) (v : Vx) : Nat := vs.findIdx fun u => !bef u v
theorem plc_le {vs : List Vx} {v : Vx} : plc vs v ≤ vs.length := List.findIdx_le_length
theorem plc_eq {vs : List Vx} {v : Vx} {k : Nat} (hk : k ≤ vs.length) (h : ∀ j, j < k → bef (vg vs j) v = true) (h2 : k < vs.length → bef (vg vs k) v = false) : plc vs v = k := by
  unfold plc
  rcases Nat.lt_or_ge k vs.length with hlt | hge
  · rw [List.findIdx_eq hlt]
    refine ⟨?_, fun j hj => ?_⟩
    · have := h2 hlt; rw [vg_eq hlt] at this; rw [this]; rfl
    · have := h j hj; rw [vg_eq (by omega)] at this; rw [this]; rfl
  · obtain rfl : k = vs.length := by omega
    rw [List.findIdx_eq_length]
    intro x hx
    obtain ⟨j, hj, rfl⟩ := List.getElem_of_mem hx
    have := h j hj; rw [vg_eq hj] at this; rw [this]; rfl
def gaC (c : List Int) (vs : List Vx) (v : Vx) : Int :=
  if grOk c vs = true ∧ vxOkA c v = true then (match fdV vs v.r v.a with
    | some i => if vg vs i = v then 1 else 2
    | none => if parOk vs v = true then 0 else 3) else 4
def gaL (c : List Int) (vs : List Vx) (v : Vx) : List Vx := if gaC c vs v = 0 then insAt vs (plc vs v) v else if gaC c vs v = 4 then [] else vs
def gaV (c : List Int) (vs : List Vx) (v : Vx) : SV := .tup 2 (litF [vsl (gaL c vs v), .i (gaC c vs v)])
theorem gaC_bad {c : List Int} {vs : List Vx} {v : Vx} (h : grOk c vs = false ∨ vxOkA c v = false) : gaC c vs v = 4 := by
  unfold gaC
  rw [if_neg]
  rintro ⟨h1, h2⟩
  rw [h1, h2] at h
  rcases h with h | h <;> cases h
theorem gaC_known {c : List Int} {vs : List Vx} {v : Vx} {i : Nat} (h1 : grOk c vs = true) (h2 : vxOkA c v = true) (hi : fdV vs v.r v.a = some i) : gaC c vs v = if vg vs i = v then 1 else 2 := by
  unfold gaC
  rw [if_pos ⟨h1, h2⟩, hi]
theorem gaC_new {c : List Int} {vs : List Vx} {v : Vx} (h1 : grOk c vs = true) (h2 : vxOkA c v = true) (hi : fdV vs v.r v.a = none) : gaC c vs v = if parOk vs v = true then 0 else 3 := by
  unfold gaC
  rw [if_pos ⟨h1, h2⟩, hi]
theorem gaL_0 {c : List Int} {vs : List Vx} {v : Vx} (h : gaC c vs v = 0) : gaL c vs v = insAt vs (plc vs v) v := if_pos h
theorem gaL_4 {c : List Int} {vs : List Vx} {v : Vx} (h : gaC c vs v = 4) : gaL c vs v = [] := by
  unfold gaL; rw [if_neg (by omega), if_pos h]
theorem gaL_vs {c : List Int} {vs : List Vx} {v : Vx} (h0 : gaC c vs v ≠ 0) (h4 : gaC c vs v ≠ 4) : gaL c vs v = vs := by
  unfold gaL; rw [if_neg h0, if_neg h4]
/-- a row and a code are handed back; the row stands still -/
theorem Fin.ga {v : Value} {k n : Nat} {f : Nat → Nat → SV} {c : List Int} {vs : List Vx} {u : Vx} {l : List Vx} {z : Int} {R : Heaplet} {H : List Hp} {r : SV} (hp : PPick H [.row v 37 4 n f, .cust R]) (hn : n = l.length) (hf : ∀ i j, i < n → j < 4 → f i j = rowF vxF l i j)
    (hr : ∀ w F, LeW w F r (.tup 2 (litF [.own k v, .i z]))) (hz : gaC c vs u = z) (hl : gaL c vs u = l) : Fin r H (fun r H' => H' = [.cust R] ∧ r = gaV c vs u) := by
  subst hn
  refine Fin.frz (r' := gaV c vs u) [.row v 37 4 l.length f] [.cust R] hp (fun w F hz' => ⟨AllW.refl _ _ _, fun x hx => ?_⟩) ⟨rfl, rfl⟩
  unfold gaV
  rw [hz, hl]
  refine LeW.tup2 (f := litF [.own k v, .i z]) (g := litF [vsl l, .i z]) (fun u hu => ?_) (fun _ h => h) x (hr w F x hx)
  have e : u = v := hu
  subst e
  exact Has.slL (fun i j hi hj x hx => by rw [hf i j hi hj] at hx; exact hx) hz'.1
theorem Fin.gaL {v : Value} {k n : Nat} {c : List Int} {vs : List Vx} {u : Vx} {l : List Vx} {z : Int} {R : Heaplet} {H : List Hp} {r : SV} (hp : PPick H [.row v 37 4 n (rowF vxF l), .cust R]) (hn : n = l.length)
    (hr : ∀ w F, LeW w F r (.tup 2 (litF [.own k v, .i z]))) (hz : gaC c vs u = z) (hl : gaL c vs u = l) : Fin r H (fun r H' => H' = [.cust R] ∧ r = gaV c vs u) := Fin.ga hp hn (fun _ _ _ _ => rfl) hr hz hl
theorem next_vx {w : World} {F : Nat → Prop} {vs : List Vx} {k i j : Nat} {g0 : Nat → Nat → SV} (h : ∀ j, j < 4 → g0 0 j = vxF (vs.getD k default) j) (hi : i < k + 1) (hj : j < 4) : LeW w F (catF k (rowF vxF vs) g0 i j) (rowF vxF vs i j) := by
  refine LeW.of_eq ?_
  unfold catF
  by_cases hlt : i < k
  · rw [if_pos hlt]
  · obtain rfl : i = k := by omega
    rw [if_neg hlt, Nat.sub_self]; exact h j hj
end Go.Proofs.YtpmhikdefbcofaaDoor
