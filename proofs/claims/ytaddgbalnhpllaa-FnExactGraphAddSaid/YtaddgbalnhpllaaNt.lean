/- Vertices copied into memory of their own, marked, looked at. -/
import Derived.Test.YtaddgbalnhpllaaNs
import Derived.Test.YtaddgbalnhpllaaGl
set_option linter.all false
namespace Go.Proofs.Ytaddgbalnhpllaa
open Go.RowKit

/-- a vertex whose parents are owned -/
def MadeVx (v : Vx) (r : SV) (N : List Hp) : Prop := ∃ A n c, n = v.ps.length ∧ r = .agg 4 (litF [.i v.r, .i v.a, .own 0 (.slice A n c), .i v.d]) ∧ N = [.row (.slice A n c) 3 1 v.ps.length (rowF intF v.ps)]
theorem toVertex_o (v : Vx) (hv : v.ps.length ≤ 1000000000) : SNew Try.prog 37 [vxV v] (MadeVx v) := ⟨fun R => by
  refine SCalls.enter tt_ok Try.func37 (by kernel_rfl) rfl [(900, .cust R)] rfl (argF _) (fun w F v k h => h) (by simp) ?_
  repeat' (first | (with_reducible first | refine HT.seq ?_ | refine HT.block ?_ | refine Br.not ?_) | ((with_reducible first | refine HT.region tt_ok ?_ | refine HT.drawn tt_ok (by kernel_rfl) (by decide +kernel) ?_ | refine HT.drawnL tt_ok (by kernel_rfl) (by decide +kernel) ?_ | refine HT.cond ?_ | refine HT.ret ?_ | refine HT.skip ?_ | refine HT.exit ?_ | refine Br.tt ?_ | refine Br.ff ?_); conv => whnf) | ((with_reducible first | refine Br.dec (fun hc => ?_) (fun hc => ?_) | refine Br.eq (fun hc => ?_) (fun hc => ?_) | refine Br.ne (fun hc => ?_) (fun hc => ?_)) <;> (first | (exfalso; omega) | conv => whnf)) | ((with_reducible first | refine Br.ttE (by decide) ?_ | refine Br.ffE (by decide) ?_ | refine Br.mk (fun hc => ?_) (fun hc => ?_) | refine Chk.mk (by first | omega | with_reducible rfl | (refine ⟨rfl, ?_⟩; omega) | decide | exact ⟨rfl, by omega, by omega, rfl⟩ | exact ⟨by assumption, rfl, by omega, by omega⟩) ?_ | refine Ar.fit (by omega) ?_ | refine Eqv.shr1 ?_ | refine Ar.u64 (by omega) ?_) <;> conv => whnf) | ((first | (refine CallN.new _ (toIntS_o v.ps hv) ?_; rintro r N ⟨l, A, n, c, rfl, hn, rfl, rfl⟩)) <;> conv => whnf) | (with_reducible exact trivial) | ((with_reducible refine And.intro ?_ ?_) <;> conv => whnf) | (intro gn; conv => whnf))
  exact Fin.news [_] (fun _ => 0) (by refine PP.start ?_; repeat (first | exact PP.nil | refine PP.take (by first | with_reducible exact Hp.Sub.refl _ | exact Hp.Sub.rd (by omega) | exact Hp.Sub.rowA rfl (fun i j hi hj => rfl) | exact Hp.Sub.boxA (by (repeat (first | exact all_lt_zero | refine all_lt_succ (p := fun j => CellLe _ _) (by first | with_reducible exact CellLe.refl _ | exact CellLe.own | exact CellLe.i (by omega) | exact CellLe.nil | exact CellLe.slNil | exact CellLe.refl _) ?_))) | exact Hp.Sub.refl _) ?_ | refine PP.skip ?_)) ⟨_, _, _, hn, rfl, rfl⟩⟩
/-- one more place -/
def owS (O : Ow) (k : Nat) (a : Option Addr × Nat) : Ow := fun i => if i = k then a else O i
theorem owS_ne {O : Ow} {k i : Nat} {a : Option Addr × Nat} (h : i ≠ k) : owS O k a i = O i := if_neg h
theorem owS_eq {O : Ow} {k : Nat} {a : Option Addr × Nat} : owS O k a k = a := if_pos rfl
theorem vxO_ow {O : Ow} {l : List Vx} {k i j : Nat} {a : Option Addr × Nat} (h : i ≠ k) : vxO (owS O k a) l i j = vxO O l i j := by
  unfold vxO vxC inV
  rw [owS_ne h]
theorem psH_ow {O : Ow} {l : List Vx} {k : Nat} {a : Option Addr × Nat} : psH (owS O k a) l k = psH O l k := psH_congr fun i hi => by
  unfold prow inV
  rw [owS_ne (by omega)]
set_option maxRecDepth 100000 in
theorem toVertexS_o (vs : List Vx) (hl : vs.length ≤ 100000000) (hv : ∀ v ∈ vs, v.ps.length ≤ 1000000000) : SNew Try.prog 22 [vsl vs] (MadeVs vs) := ⟨fun R => by
  refine SCalls.enter tt_ok Try.func22 (by kernel_rfl) rfl [(900, .cust R)] rfl (argF _) (fun w F v k h => h) (by simp) ?_
  repeat' (first | (with_reducible first | refine HT.seq ?_ | refine HT.block ?_ | refine Br.not ?_) | ((with_reducible first | refine HT.region tt_ok ?_ | refine HT.drawn tt_ok (by kernel_rfl) (by decide +kernel) ?_ | refine HT.drawnL tt_ok (by kernel_rfl) (by decide +kernel) ?_ | refine HT.cond ?_ | refine HT.ret ?_ | refine HT.skip ?_ | refine HT.exit ?_ | refine Br.tt ?_ | refine Br.ff ?_); conv => whnf) | ((with_reducible first | refine Br.dec (fun hc => ?_) (fun hc => ?_) | refine Br.eq (fun hc => ?_) (fun hc => ?_) | refine Br.ne (fun hc => ?_) (fun hc => ?_)) <;> (first | (exfalso; omega) | conv => whnf)) | ((with_reducible first | refine Br.ttE (by decide) ?_ | refine Br.ffE (by decide) ?_ | refine Br.mk (fun hc => ?_) (fun hc => ?_) | refine Chk.mk (by first | omega | with_reducible rfl | (refine ⟨rfl, ?_⟩; omega) | decide | exact ⟨rfl, by omega, by omega, rfl⟩ | exact ⟨by assumption, rfl, by omega, by omega⟩) ?_ | refine Ar.fit (by omega) ?_ | refine Eqv.shr1 ?_ | refine Ar.u64 (by omega) ?_) <;> conv => whnf) | (with_reducible exact trivial) | ((with_reducible refine And.intro ?_ ?_) <;> conv => whnf) | (intro gn; conv => whnf))
  revert gn; intro gb
  refine HT.bundleN 110 [] (L' := [(100, .row (.slice (some ⟨gb, 0, none⟩) (vs.length : Int).toNat (vs.length : Int).toNat) 25 4 (vs.length : Int).toNat (fun _ => (zF [.int .i64 0, .int .i64 0, .slice none 0 0, .int .i64 0]))), (900, .cust R)]) (fun w F hs => hs) ?_
  refine HT.loopC [0, 2, 3] (fun x : Nat × Ow => [(4, .i x.1)]) (fun x : Nat × Ow => [(110, .cust (bundle (psH x.2 vs x.1))), (100, .cells (part (vxO x.2 vs) (zF [.int .i64 0, .int .i64 0, .slice none 0 0, .int .i64 0]) x.1))]) (fun x : Nat × Ow => x.1 ≤ vs.length) (fun x : Nat × Ow => vs.length - x.1) (0, fun _ => (none, 0)) (Nat.zero_le _) ⟨(by first | with_reducible exact CellLe.refl _ | exact CellLe.own | exact CellLe.i (by omega) | exact CellLe.nil | exact CellLe.slNil | exact CellLe.refl _), trivial⟩ ?_ ?_
  · conv => whnf
    refine PP.start ?_; repeat (first | exact PP.nil | refine PP.take (by first | with_reducible exact Hp.Sub.refl _ | exact Hp.Sub.rd (by omega) | exact Hp.Sub.rowL rfl (fun w F i j hi hj => LeW.of_eq (part_ge (Nat.zero_le _)).symm) | exact Hp.Sub.boxA (by (repeat (first | exact all_lt_zero | refine all_lt_succ (p := fun j => CellLe _ _) (by first | with_reducible exact CellLe.refl _ | exact CellLe.own | exact CellLe.i (by omega) | exact CellLe.nil | exact CellLe.slNil | exact CellLe.refl _) ?_))) | exact Hp.Sub.refl _) ?_ | refine PP.skip ?_)
  conv => whnf
  rintro ⟨k, O⟩ hk
  dsimp only at hk ⊢
  have hvk : k < vs.length → (vs.getD k default).ps.length ≤ 1000000000 := fun h => hv _ (by rw [show vs.getD k default = vs[k] by simp [h]]; exact List.getElem_mem _)
  conv => whnf
  repeat' (first | (with_reducible first | refine HT.seq ?_ | refine HT.block ?_ | refine Br.not ?_) | ((with_reducible first | refine HT.region tt_ok ?_ | refine HT.drawn tt_ok (by kernel_rfl) (by decide +kernel) ?_ | refine HT.drawnL tt_ok (by kernel_rfl) (by decide +kernel) ?_ | refine HT.cond ?_ | refine HT.ret ?_ | refine HT.skip ?_ | refine HT.exit ?_ | refine Br.tt ?_ | refine Br.ff ?_); conv => whnf) | ((with_reducible first | refine Br.dec (fun hc => ?_) (fun hc => ?_) | refine Br.eq (fun hc => ?_) (fun hc => ?_) | refine Br.ne (fun hc => ?_) (fun hc => ?_)) <;> (first | (exfalso; omega) | conv => whnf)) | ((with_reducible first | refine Br.ttE (by decide) ?_ | refine Br.ffE (by decide) ?_ | refine Br.mk (fun hc => ?_) (fun hc => ?_) | refine Chk.mk (by first | omega | with_reducible rfl | (refine ⟨rfl, ?_⟩; omega) | decide | exact ⟨rfl, by omega, by omega, rfl⟩ | exact ⟨by assumption, rfl, by omega, by omega⟩) ?_ | refine Ar.fit (by omega) ?_ | refine Eqv.shr1 ?_ | refine Ar.u64 (by omega) ?_) <;> conv => whnf) | ((first | (refine CallN.new _ (toVertex_o (vs.getD k default) (hvk (by omega))) ?_; rintro r N ⟨A, n, c, hn, rfl, rfl⟩; subst hn)) <;> conv => whnf) | (with_reducible exact trivial) | ((with_reducible refine And.intro ?_ ?_) <;> conv => whnf) | (intro gn; conv => whnf))
  all_goals (try simp only [Int.toNat_natCast] at *)
  · refine ⟨⟨(k + 1, owS O k (A, c)), by dsimp only; omega, by dsimp only; omega, (by repeat' (first | exact trivial | refine ⟨rfl, ?_⟩)), ⟨(by first | with_reducible exact CellLe.refl _ | exact CellLe.own | exact CellLe.i (by omega) | exact CellLe.nil | exact CellLe.slNil | exact CellLe.refl _), trivial⟩, ?_⟩⟩
    refine HLe.via [.cust (bundle (psH O vs k)), .row (.slice A (vs.getD k default).ps.length c) 3 1 (vs.getD k default).ps.length (rowF intF (vs.getD k default).ps), .row (.slice (some ⟨gb, 0, none⟩) vs.length vs.length) 25 4 vs.length (part (vxO (owS O k (A, c)) vs) (zF [.int .i64 0, .int .i64 0, .slice none 0 0, .int .i64 0]) (k + 1)), .cust R] (by
      conv => whnf
      refine PP.start ?_; repeat (first | exact PP.nil | refine PP.take (by first | with_reducible exact Hp.Sub.refl _ | exact Hp.Sub.rd (by omega) | exact Hp.Sub.rowA rfl (fun i j hi hj => rfl) | exact Hp.Sub.rowL (by omega) (fun w F i j hi hj => put_row (fun j hj => by rw [part_lt (Nat.lt_succ_self k)]; unfold vxO vxC inV; rw [owS_eq]; rcases (by omega : j = 0 ∨ j = 1 ∨ j = 2 ∨ j = 3) with rfl | rfl | rfl | rfl <;> exact fun _ h => h) (fun hne j hj => LeW.of_eq (by rw [part_next hne]; unfold part; split; exact (vxO_ow hne).symm; rfl)) hj) | exact Hp.Sub.boxA (by (repeat (first | exact all_lt_zero | refine all_lt_succ (p := fun j => CellLe _ _) (by first | with_reducible exact CellLe.refl _ | exact CellLe.own | exact CellLe.i (by omega) | exact CellLe.nil | exact CellLe.slNil | exact CellLe.refl _) ?_))) | exact Hp.Sub.refl _) ?_ | refine PP.skip ?_)) (fun w F hs => ?_)
    have h1 := HSat.push (A := []) hs
    show HSat w F [.cust (bundle (psH (owS O k (A, c)) vs (k + 1))), .row (.slice (some ⟨gb, 0, none⟩) (vs.length : Int).toNat (vs.length : Int).toNat) 25 4 (vs.length : Int).toNat (part (vxO (owS O k (A, c)) vs) (zF [.int .i64 0, .int .i64 0, .slice none 0 0, .int .i64 0]) (k + 1)), .cust R]
    rw [psH_succ, psH_ow]
    unfold prow inV
    rw [owS_eq]
    simpa using h1
  · obtain rfl : k = vs.length := by omega
    exact Fin.news [_, _] (fun _ => 0) (by refine PP.start ?_; repeat (first | exact PP.nil | refine PP.take (by first | with_reducible exact Hp.Sub.refl _ | exact Hp.Sub.rd (by omega) | exact Hp.Sub.rowA (by first | rfl | simp) (fun i j hi hj => part_lt (by omega)) | exact Hp.Sub.boxA (by (repeat (first | exact all_lt_zero | refine all_lt_succ (p := fun j => CellLe _ _) (by first | with_reducible exact CellLe.refl _ | exact CellLe.own | exact CellLe.i (by omega) | exact CellLe.nil | exact CellLe.slNil | exact CellLe.refl _) ?_))) | exact Hp.Sub.refl _) ?_ | refine PP.skip ?_)) ⟨_, _, _, O, (by first | rfl | simp), rfl, rfl⟩⟩
end Go.Proofs.Ytaddgbalnhpllaa
