/- Texts of this proof put together: Tu, Tv, Frame, Ex. -/
import Derived.Test.YtcagfmbboliohaaDoorRows
import Derived.ProofKit
import Derived.Carry
import Derived.DataReads
import Derived.Deep.Slices
import Derived.Test.YtcagfmbboliohaaDoorQ01
import Derived.Test.YtcagfmbboliohaaDoorQ02
import Derived.Test.YtcagfmbboliohaaDoorQ03
import Derived.Test.YtcagfmbboliohaaDoorQ04
import Derived.Test.YtcagfmbboliohaaDoorQ05
import Derived.Test.YtcagfmbboliohaaDoorQ06
import Derived.Test.YtcagfmbboliohaaDoorQ07
import Derived.Test.YtcagfmbboliohaaDoorQ08
import Derived.Test.YtcagfmbboliohaaDoorQ09
import Derived.Test.YtcagfmbboliohaaDoorQ10
import Derived.Test.YtcagfmbboliohaaDoorQ11
/-! YtcagfmbboliohaaDoorTu -/
set_option linter.all false
namespace Go.Proofs.YtcagfmbboliohaaDoor
open Go.RowKit

theorem cat_en {α : Type} [Inhabited α] {enc : α → Nat → SV} {l : List α} {x : α} {n sz i j : Nat} {g0 : Nat → Nat → SV} (hn : n = l.length) (h : ∀ j, j < sz → g0 0 j = enc x j) (hi : i < n + 1) (hj : j < sz) : catF n (rowF enc l) g0 i j = rowF enc (l ++ [x]) i j := by
  subst hn
  show _ = enc ((l ++ [x]).getD i default) j
  unfold catF
  by_cases h1 : i < l.length
  · rw [if_pos h1, List.getD_eq_getElem?_getD, List.getElem?_append_left h1, ← List.getD_eq_getElem?_getD]; rfl
  · obtain rfl : i = l.length := by omega
    rw [if_neg h1, Nat.sub_self, h j hj]; simp
theorem l4 {p : Nat → Prop} (h0 : p 0) (h1 : p 1) (h2 : p 2) (h3 : p 3) : ∀ j, j < 4 → p j := fun j hj => by
  rcases (by omega : j = 0 ∨ j = 1 ∨ j = 2 ∨ j = 3) with rfl | rfl | rfl | rfl <;> assumption
theorem l1 {p : Nat → Prop} (h0 : p 0) : ∀ j, j < 1 → p j := fun j hj => by
  obtain rfl : j = 0 := by omega
  assumption
def DrewTs (d : Int) (g : Nat) (m : Int) (r : SV) (N : List Hp) (p' : Hp) : Prop :=
  ∃ (l : List Tx) (A : Option Addr) (n c : Nat), l.length ≤ 20 ∧ n = l.length ∧ r = .own 0 (.slice A n c) ∧ N = [.row (.slice A n c) 25 4 l.length (rowF txF l)] ∧ p' = .cust (rdH g (m + d))
def DrewTsS (d : Int) (g : Nat) (m : Int) (r : SV) (N : List Hp) (p' : Hp) : Prop := N = [] ∧ (∃ l : List Tx, l.length ≤ 20 ∧ r = tsl l) ∧ p' = .cust (rdH g (m + d))
set_option maxHeartbeats 2000000 in
theorem l92Txns_o (g : Nat) (m : Int) (hm : m ≤ 700000000000) : SMut Tryd.prog 33 [.val (.pointer (some ⟨g, 0, none⟩))] (.cust (rdH g m)) (DrewTs 500 g m) := ⟨fun R => by
  refine SCalls.enter tt_ok Tryd.func33 (by kernel_rfl) rfl [(0, .cust (rdH g m)), (900, .cust R)] rfl (argF _) (fun w F v k h => h) (by simp) ?_
  repeat' (first | (with_reducible first | refine HT.seq ?_ | refine HT.block ?_ | refine Br.not ?_) | ((with_reducible first | refine HT.region tt_ok ?_ | refine HT.drawn tt_ok (by kernel_rfl) (by decide +kernel) ?_ | refine HT.drawnL tt_ok (by kernel_rfl) (by decide +kernel) ?_ | refine HT.cond ?_ | refine HT.ret ?_ | refine HT.skip ?_ | refine HT.exit ?_ | refine Br.tt ?_ | refine Br.ff ?_); conv => whnf) | ((with_reducible first | refine Br.dec (fun hc => ?_) (fun hc => ?_) | refine Br.eq (fun hc => ?_) (fun hc => ?_) | refine Br.ne (fun hc => ?_) (fun hc => ?_)) <;> (first | (exfalso; omega) | conv => whnf)) | ((with_reducible first | refine Br.ttE (by decide) ?_ | refine Br.ffE (by decide) ?_ | refine Br.mk (fun hc => ?_) (fun hc => ?_) | refine Chk.mk (by first | omega | with_reducible rfl | (refine ⟨rfl, ?_⟩; omega) | decide | exact ⟨rfl, by omega, by omega, rfl⟩ | exact ⟨by assumption, rfl, by omega, by omega⟩) ?_ | refine Ar.fit (by omega) ?_ | refine Eqv.shr1 ?_ | refine Ar.u64 (by omega) ?_) <;> conv => whnf) | ((first | (refine CallN.turn 0 _ _ rfl (pick_c _ _ 9 (by omega) (by omega)) ?_; rintro r N p' ⟨⟨kz, hkz0, hkz1, rfl⟩, rfl, rfl⟩) | (refine CallN.turn 0 _ _ rfl (pick_c _ _ 14 (by omega) (by omega)) ?_; rintro r N p' ⟨⟨kw, hkw0, hkw1, rfl⟩, rfl, rfl⟩) | (refine CallN.turn 0 _ _ rfl (pick_c _ _ 3 (by omega) (by omega)) ?_; rintro r N p' ⟨⟨kt, hkt0, hkt1, rfl⟩, rfl, rfl⟩)) <;> conv => whnf) | (with_reducible exact trivial) | ((with_reducible refine And.intro ?_ ?_) <;> conv => whnf) | (intro gn; conv => whnf))
  · skip
    refine HT.loopC [0, 2, 4, 12] (fun x : Nat × List Tx × Option Addr × Nat × Nat => [(3, .own 100 (.slice x.2.2.1 x.2.2.2.1 x.2.2.2.2)), (5, .i x.1)]) (fun x : Nat × List Tx × Option Addr × Nat × Nat => [(100, .row (.slice x.2.2.1 x.2.2.2.1 x.2.2.2.2) x.2.1.length (rowF txF x.2.1)), (0, .cust (rdH g (m + 10 + 20 * x.1)))]) (fun x : Nat × List Tx × Option Addr × Nat × Nat => (x.1 : Int) ≤ (15 + kt) ∧ x.2.1.length = x.1 ∧ x.2.2.2.1 = x.2.1.length) (fun x : Nat × List Tx × Option Addr × Nat × Nat => ((15 + kt) - x.1).toNat) (0, [], some ⟨gn, 0, none⟩, 0, 0) ⟨by dsimp only; omega, rfl, rfl⟩ ⟨(by first | with_reducible exact CellLe.refl _ | exact CellLe.own | exact CellLe.i (by omega) | exact CellLe.nil | exact CellLe.slNil | exact CellLe.refl _), (by first | with_reducible exact CellLe.refl _ | exact CellLe.own | exact CellLe.i (by omega) | exact CellLe.nil | exact CellLe.slNil | exact CellLe.refl _), trivial⟩ ?_ ?_
    · conv => whnf
      refine PP.start ?_; repeat (first | exact PP.nil | refine PP.take (by first | with_reducible exact Hp.Sub.refl _ | exact Hp.Sub.rd (by omega) | exact Hp.Sub.rowA rfl (fun i j hi hj => absurd hi (by simp)) | exact Hp.Sub.boxA (by (repeat (first | exact all_lt_zero | refine all_lt_succ (p := fun j => CellLe _ _) (by first | with_reducible exact CellLe.refl _ | exact CellLe.own | exact CellLe.i (by omega) | exact CellLe.nil | exact CellLe.slNil | exact CellLe.refl _) ?_))) | exact Hp.Sub.refl _) ?_ | refine PP.skip ?_)
    conv => whnf
    rintro ⟨i, l, A, n, cp⟩ ⟨hi, hli, hn⟩
    dsimp only at hi hli hn ⊢
    subst hn
    conv => whnf
    repeat' (first | (with_reducible first | refine HT.seq ?_ | refine HT.block ?_ | refine Br.not ?_) | ((with_reducible first | refine HT.region tt_ok ?_ | refine HT.drawn tt_ok (by kernel_rfl) (by decide +kernel) ?_ | refine HT.drawnL tt_ok (by kernel_rfl) (by decide +kernel) ?_ | refine HT.cond ?_ | refine HT.ret ?_ | refine HT.skip ?_ | refine HT.exit ?_ | refine Br.tt ?_ | refine Br.ff ?_); conv => whnf) | ((with_reducible first | refine Br.dec (fun hc => ?_) (fun hc => ?_) | refine Br.eq (fun hc => ?_) (fun hc => ?_) | refine Br.ne (fun hc => ?_) (fun hc => ?_)) <;> (first | (exfalso; omega) | conv => whnf)) | ((with_reducible first | refine Br.ttE (by decide) ?_ | refine Br.ffE (by decide) ?_ | refine Br.mk (fun hc => ?_) (fun hc => ?_) | refine Chk.mk (by first | omega | with_reducible rfl | (refine ⟨rfl, ?_⟩; omega) | decide | exact ⟨rfl, by omega, by omega, rfl⟩ | exact ⟨by assumption, rfl, by omega, by omega⟩) ?_ | refine Ar.fit (by omega) ?_ | refine Eqv.shr1 ?_ | refine Ar.u64 (by omega) ?_) <;> conv => whnf) | ((first | (refine CallN.turn 0 _ _ rfl (l92Txn_c _ _ (by omega)) ?_; rintro r N p' ⟨⟨x, rfl⟩, rfl, rfl⟩) | (refine CallN.turn 0 _ _ rfl (pick_c _ _ 3 (by omega) (by omega)) ?_; rintro r N p' ⟨⟨kt, hkt0, hkt1, rfl⟩, rfl, rfl⟩)) <;> conv => whnf) | ((with_reducible refine Ar.wrap ?_); conv => whnf) | (with_reducible exact trivial) | ((with_reducible refine And.intro ?_ ?_) <;> conv => whnf) | (intro gn; conv => whnf))
    all_goals (try (exfalso; omega))
    all_goals first
      | (have h9 : ¬ (i : Int) < (15 + _) := (by assumption); exact Fin.mut [_] _ (fun _ => 0) (by refine PP.start ?_; repeat (first | exact PP.nil | refine PP.take (by first | with_reducible exact Hp.Sub.refl _ | exact Hp.Sub.rd (by omega) | exact Hp.Sub.rowA rfl (fun i j hi hj => rfl) | exact Hp.Sub.boxA (by (repeat (first | exact all_lt_zero | refine all_lt_succ (p := fun j => CellLe _ _) (by first | with_reducible exact CellLe.refl _ | exact CellLe.own | exact CellLe.i (by omega) | exact CellLe.nil | exact CellLe.slNil | exact CellLe.refl _) ?_))) | exact Hp.Sub.refl _) ?_ | refine PP.skip ?_)) ⟨l, _, _, _, (by omega), rfl, rfl, rfl, rfl⟩)
      | (have h9 : ¬ kt > 0 := (by assumption); rename_i A2; exact ⟨⟨(i + 1, l ++ [x], A2, l.length + 1, gn), ⟨by dsimp only; omega, by dsimp only; rw [List.length_append, hli]; rfl, by dsimp only; rw [List.length_append]; rfl⟩, by dsimp only; omega, (by repeat' (first | exact trivial | refine ⟨rfl, ?_⟩)), ⟨(by first | with_reducible exact CellLe.refl _ | exact CellLe.own | exact CellLe.i (by omega) | exact CellLe.nil | exact CellLe.slNil | exact CellLe.refl _), (by first | with_reducible exact CellLe.refl _ | exact CellLe.own | exact CellLe.i (by omega) | exact CellLe.nil | exact CellLe.slNil | exact CellLe.refl _), trivial⟩, HLe.pk (by (conv => whnf); (refine PP.start ?_; repeat (first | exact PP.nil | refine PP.take (by first | with_reducible exact Hp.Sub.refl _ | exact Hp.Sub.rd (by omega) | exact Hp.Sub.rowA (by rw [List.length_append]; rfl) (fun i j hi hj => cat_en rfl (l4 rfl rfl rfl rfl) hi hj) | exact Hp.Sub.boxA (by (repeat (first | exact all_lt_zero | refine all_lt_succ (p := fun j => CellLe _ _) (by first | with_reducible exact CellLe.refl _ | exact CellLe.own | exact CellLe.i (by omega) | exact CellLe.nil | exact CellLe.slNil | exact CellLe.refl _) ?_))) | exact Hp.Sub.refl _) ?_ | refine PP.skip ?_)))⟩⟩)
      | (rename_i A2; exact ⟨⟨(i + 1, l ++ [⟨2 * kt, 2 * kt + 1, x.s, x.e⟩], A2, l.length + 1, gn), ⟨by dsimp only; omega, by dsimp only; rw [List.length_append, hli]; rfl, by dsimp only; rw [List.length_append]; rfl⟩, by dsimp only; omega, (by repeat' (first | exact trivial | refine ⟨rfl, ?_⟩)), ⟨(by first | with_reducible exact CellLe.refl _ | exact CellLe.own | exact CellLe.i (by omega) | exact CellLe.nil | exact CellLe.slNil | exact CellLe.refl _), (by first | with_reducible exact CellLe.refl _ | exact CellLe.own | exact CellLe.i (by omega) | exact CellLe.nil | exact CellLe.slNil | exact CellLe.refl _), trivial⟩, HLe.pk (by (conv => whnf); (refine PP.start ?_; repeat (first | exact PP.nil | refine PP.take (by first | with_reducible exact Hp.Sub.refl _ | exact Hp.Sub.rd (by omega) | exact Hp.Sub.rowA (by rw [List.length_append]; rfl) (fun i j hi hj => cat_en rfl (l4 rfl rfl rfl rfl) hi hj) | exact Hp.Sub.boxA (by (repeat (first | exact all_lt_zero | refine all_lt_succ (p := fun j => CellLe _ _) (by first | with_reducible exact CellLe.refl _ | exact CellLe.own | exact CellLe.i (by omega) | exact CellLe.nil | exact CellLe.slNil | exact CellLe.refl _) ?_))) | exact Hp.Sub.refl _) ?_ | refine PP.skip ?_)))⟩⟩)
      | trace_state
  · skip
    refine HT.loopC [0, 2, 4, 12] (fun x : Nat × List Tx × Option Addr × Nat × Nat => [(3, .own 100 (.slice x.2.2.1 x.2.2.2.1 x.2.2.2.2)), (5, .i x.1)]) (fun x : Nat × List Tx × Option Addr × Nat × Nat => [(100, .row (.slice x.2.2.1 x.2.2.2.1 x.2.2.2.2) x.2.1.length (rowF txF x.2.1)), (0, .cust (rdH g (m + 10 + 20 * x.1)))]) (fun x : Nat × List Tx × Option Addr × Nat × Nat => (x.1 : Int) ≤ kz ∧ x.2.1.length = x.1 ∧ x.2.2.2.1 = x.2.1.length) (fun x : Nat × List Tx × Option Addr × Nat × Nat => (kz - x.1).toNat) (0, [], some ⟨gn, 0, none⟩, 0, 0) ⟨by dsimp only; omega, rfl, rfl⟩ ⟨(by first | with_reducible exact CellLe.refl _ | exact CellLe.own | exact CellLe.i (by omega) | exact CellLe.nil | exact CellLe.slNil | exact CellLe.refl _), (by first | with_reducible exact CellLe.refl _ | exact CellLe.own | exact CellLe.i (by omega) | exact CellLe.nil | exact CellLe.slNil | exact CellLe.refl _), trivial⟩ ?_ ?_
    · conv => whnf
      refine PP.start ?_; repeat (first | exact PP.nil | refine PP.take (by first | with_reducible exact Hp.Sub.refl _ | exact Hp.Sub.rd (by omega) | exact Hp.Sub.rowA rfl (fun i j hi hj => absurd hi (by simp)) | exact Hp.Sub.boxA (by (repeat (first | exact all_lt_zero | refine all_lt_succ (p := fun j => CellLe _ _) (by first | with_reducible exact CellLe.refl _ | exact CellLe.own | exact CellLe.i (by omega) | exact CellLe.nil | exact CellLe.slNil | exact CellLe.refl _) ?_))) | exact Hp.Sub.refl _) ?_ | refine PP.skip ?_)
    conv => whnf
    rintro ⟨i, l, A, n, cp⟩ ⟨hi, hli, hn⟩
    dsimp only at hi hli hn ⊢
    subst hn
    conv => whnf
    repeat' (first | (with_reducible first | refine HT.seq ?_ | refine HT.block ?_ | refine Br.not ?_) | ((with_reducible first | refine HT.region tt_ok ?_ | refine HT.drawn tt_ok (by kernel_rfl) (by decide +kernel) ?_ | refine HT.drawnL tt_ok (by kernel_rfl) (by decide +kernel) ?_ | refine HT.cond ?_ | refine HT.ret ?_ | refine HT.skip ?_ | refine HT.exit ?_ | refine Br.tt ?_ | refine Br.ff ?_); conv => whnf) | ((with_reducible first | refine Br.dec (fun hc => ?_) (fun hc => ?_) | refine Br.eq (fun hc => ?_) (fun hc => ?_) | refine Br.ne (fun hc => ?_) (fun hc => ?_)) <;> (first | (exfalso; omega) | conv => whnf)) | ((with_reducible first | refine Br.ttE (by decide) ?_ | refine Br.ffE (by decide) ?_ | refine Br.mk (fun hc => ?_) (fun hc => ?_) | refine Chk.mk (by first | omega | with_reducible rfl | (refine ⟨rfl, ?_⟩; omega) | decide | exact ⟨rfl, by omega, by omega, rfl⟩ | exact ⟨by assumption, rfl, by omega, by omega⟩) ?_ | refine Ar.fit (by omega) ?_ | refine Eqv.shr1 ?_ | refine Ar.u64 (by omega) ?_) <;> conv => whnf) | ((first | (refine CallN.turn 0 _ _ rfl (l92Txn_c _ _ (by omega)) ?_; rintro r N p' ⟨⟨x, rfl⟩, rfl, rfl⟩) | (refine CallN.turn 0 _ _ rfl (pick_c _ _ 3 (by omega) (by omega)) ?_; rintro r N p' ⟨⟨kt, hkt0, hkt1, rfl⟩, rfl, rfl⟩)) <;> conv => whnf) | ((with_reducible refine Ar.wrap ?_); conv => whnf) | (with_reducible exact trivial) | ((with_reducible refine And.intro ?_ ?_) <;> conv => whnf) | (intro gn; conv => whnf))
    all_goals (try (exfalso; omega))
    all_goals first
      | (have h9 : ¬ (i : Int) < kz := (by assumption); exact Fin.mut [_] _ (fun _ => 0) (by refine PP.start ?_; repeat (first | exact PP.nil | refine PP.take (by first | with_reducible exact Hp.Sub.refl _ | exact Hp.Sub.rd (by omega) | exact Hp.Sub.rowA rfl (fun i j hi hj => rfl) | exact Hp.Sub.boxA (by (repeat (first | exact all_lt_zero | refine all_lt_succ (p := fun j => CellLe _ _) (by first | with_reducible exact CellLe.refl _ | exact CellLe.own | exact CellLe.i (by omega) | exact CellLe.nil | exact CellLe.slNil | exact CellLe.refl _) ?_))) | exact Hp.Sub.refl _) ?_ | refine PP.skip ?_)) ⟨l, _, _, _, (by omega), rfl, rfl, rfl, rfl⟩)
      | (have h9 : ¬ kt > 0 := (by assumption); rename_i A2; exact ⟨⟨(i + 1, l ++ [x], A2, l.length + 1, gn), ⟨by dsimp only; omega, by dsimp only; rw [List.length_append, hli]; rfl, by dsimp only; rw [List.length_append]; rfl⟩, by dsimp only; omega, (by repeat' (first | exact trivial | refine ⟨rfl, ?_⟩)), ⟨(by first | with_reducible exact CellLe.refl _ | exact CellLe.own | exact CellLe.i (by omega) | exact CellLe.nil | exact CellLe.slNil | exact CellLe.refl _), (by first | with_reducible exact CellLe.refl _ | exact CellLe.own | exact CellLe.i (by omega) | exact CellLe.nil | exact CellLe.slNil | exact CellLe.refl _), trivial⟩, HLe.pk (by (conv => whnf); (refine PP.start ?_; repeat (first | exact PP.nil | refine PP.take (by first | with_reducible exact Hp.Sub.refl _ | exact Hp.Sub.rd (by omega) | exact Hp.Sub.rowA (by rw [List.length_append]; rfl) (fun i j hi hj => cat_en rfl (l4 rfl rfl rfl rfl) hi hj) | exact Hp.Sub.boxA (by (repeat (first | exact all_lt_zero | refine all_lt_succ (p := fun j => CellLe _ _) (by first | with_reducible exact CellLe.refl _ | exact CellLe.own | exact CellLe.i (by omega) | exact CellLe.nil | exact CellLe.slNil | exact CellLe.refl _) ?_))) | exact Hp.Sub.refl _) ?_ | refine PP.skip ?_)))⟩⟩)
      | (rename_i A2; exact ⟨⟨(i + 1, l ++ [⟨2 * kt, 2 * kt + 1, x.s, x.e⟩], A2, l.length + 1, gn), ⟨by dsimp only; omega, by dsimp only; rw [List.length_append, hli]; rfl, by dsimp only; rw [List.length_append]; rfl⟩, by dsimp only; omega, (by repeat' (first | exact trivial | refine ⟨rfl, ?_⟩)), ⟨(by first | with_reducible exact CellLe.refl _ | exact CellLe.own | exact CellLe.i (by omega) | exact CellLe.nil | exact CellLe.slNil | exact CellLe.refl _), (by first | with_reducible exact CellLe.refl _ | exact CellLe.own | exact CellLe.i (by omega) | exact CellLe.nil | exact CellLe.slNil | exact CellLe.refl _), trivial⟩, HLe.pk (by (conv => whnf); (refine PP.start ?_; repeat (first | exact PP.nil | refine PP.take (by first | with_reducible exact Hp.Sub.refl _ | exact Hp.Sub.rd (by omega) | exact Hp.Sub.rowA (by rw [List.length_append]; rfl) (fun i j hi hj => cat_en rfl (l4 rfl rfl rfl rfl) hi hj) | exact Hp.Sub.boxA (by (repeat (first | exact all_lt_zero | refine all_lt_succ (p := fun j => CellLe _ _) (by first | with_reducible exact CellLe.refl _ | exact CellLe.own | exact CellLe.i (by omega) | exact CellLe.nil | exact CellLe.slNil | exact CellLe.refl _) ?_))) | exact Hp.Sub.refl _) ?_ | refine PP.skip ?_)))⟩⟩)
      | trace_state⟩
theorem l92Txns_c (g : Nat) (m : Int) (hm : m ≤ 700000000000) : SMut Tryd.prog 33 [.val (.pointer (some ⟨g, 0, none⟩))] (.cust (rdH g m)) (DrewTsS 500 g m) :=
  ⟨fun R => (((l92Txns_o g m hm).frozen (Ψ := fun r p' => (∃ l : List Tx, l.length ≤ 20 ∧ r = tsl l) ∧ p' = .cust (rdH g (m + 500))) fun r N p' ⟨l, A, n, c, hl, hn, hr, hN, hp⟩ => by
    subst hr hN hp hn
    exact ⟨_, ⟨⟨l, hl, rfl⟩, rfl⟩, fun R => Ent.row fun w F x hv hx => by have e : x = _ := hx; subst e; exact hv⟩).h R).mono fun r H' ⟨N, p', e, hN, hh⟩ => ⟨N, p', e, hN, hh⟩⟩
set_option maxHeartbeats 2000000 in
theorem DrawRO_c (zs : List Int) (hz : ∀ z ∈ zs, 0 ≤ z ∧ z ≤ 255) (hl : zs.length ≤ 2000000) : SRet Tryd.prog 11 [.sl 1 zs.length (rowF u8F zs)] (fun r => ∃ (l : List Tx) (bs : List Bool), l.length ≤ 20 ∧ bs.length ≤ 30 ∧ r = .tup 2 (litF [tsl l, bql bs])) := ⟨fun R => by
  refine SCalls.enter tt_ok Tryd.func11 (by kernel_rfl) rfl [(900, .cust R)] rfl (argF _) (fun w F v k h => h) (by simp) ?_
  repeat' (first | (with_reducible first | refine HT.seq ?_ | refine HT.block ?_ | refine Br.not ?_) | ((with_reducible first | refine HT.region tt_ok ?_ | refine HT.drawn tt_ok (by kernel_rfl) (by decide +kernel) ?_ | refine HT.drawnL tt_ok (by kernel_rfl) (by decide +kernel) ?_ | refine HT.cond ?_ | refine HT.ret ?_ | refine HT.skip ?_ | refine HT.exit ?_ | refine Br.tt ?_ | refine Br.ff ?_); conv => whnf) | ((with_reducible first | refine Br.dec (fun hc => ?_) (fun hc => ?_) | refine Br.eq (fun hc => ?_) (fun hc => ?_) | refine Br.ne (fun hc => ?_) (fun hc => ?_)) <;> (first | (exfalso; omega) | conv => whnf)) | ((with_reducible first | refine Br.ttE (by decide) ?_ | refine Br.ffE (by decide) ?_ | refine Br.mk (fun hc => ?_) (fun hc => ?_) | refine Chk.mk (by first | omega | with_reducible rfl | (refine ⟨rfl, ?_⟩; omega) | decide | exact ⟨rfl, by omega, by omega, rfl⟩ | exact ⟨by assumption, rfl, by omega, by omega⟩) ?_ | refine Ar.fit (by omega) ?_ | refine Eqv.shr1 ?_ | refine Ar.u64 (by omega) ?_) <;> conv => whnf) | ((first | (refine CallN.new _ (l6Open_c zs hz hl) ?_; rintro r N ⟨g, rfl, rfl⟩) | (refine CallN.turn 100 _ _ rfl (l92Txns_c _ _ (by omega)) ?_; rintro r N p' ⟨rfl, ⟨l, hll, rfl⟩, rfl⟩)) <;> conv => whnf) | (with_reducible exact trivial) | ((with_reducible refine And.intro ?_ ?_) <;> conv => whnf) | (intro gn; conv => whnf))
  refine HT.loopC [0, 2, 3, 4, 5, 27] (fun x : Nat × List Bool × Option Addr × Nat × Nat => [(6, .own 120 (.slice x.2.2.1 x.2.2.2.1 x.2.2.2.2)), (7, .i x.1)]) (fun x : Nat × List Bool × Option Addr × Nat × Nat => [(120, .row (.slice x.2.2.1 x.2.2.2.1 x.2.2.2.2) x.2.1.length (rowF bqF x.2.1)), (100, .cust (rdH g (1000 + x.1)))]) (fun x : Nat × List Bool × Option Addr × Nat × Nat => x.1 ≤ l.length ∧ x.2.1.length = x.1 ∧ x.2.2.2.1 = x.2.1.length) (fun x : Nat × List Bool × Option Addr × Nat × Nat => l.length - x.1) (0, [], some ⟨gn, 0, none⟩, 0, 0) ⟨by dsimp only; omega, rfl, rfl⟩ ⟨(by first | with_reducible exact CellLe.refl _ | exact CellLe.own | exact CellLe.i (by omega) | exact CellLe.nil | exact CellLe.slNil | exact CellLe.refl _), (by first | with_reducible exact CellLe.refl _ | exact CellLe.own | exact CellLe.i (by omega) | exact CellLe.nil | exact CellLe.slNil | exact CellLe.refl _), trivial⟩ ?_ ?_
  · conv => whnf
    refine PP.start ?_; repeat (first | exact PP.nil | refine PP.take (by first | with_reducible exact Hp.Sub.refl _ | exact Hp.Sub.rd (by omega) | exact Hp.Sub.rowA rfl (fun i j hi hj => absurd hi (by simp)) | exact Hp.Sub.boxA (by (repeat (first | exact all_lt_zero | refine all_lt_succ (p := fun j => CellLe _ _) (by first | with_reducible exact CellLe.refl _ | exact CellLe.own | exact CellLe.i (by omega) | exact CellLe.nil | exact CellLe.slNil | exact CellLe.refl _) ?_))) | exact Hp.Sub.refl _) ?_ | refine PP.skip ?_)
  conv => whnf
  rintro ⟨i, bs, A, n, cp⟩ ⟨hi, hli, hn⟩
  dsimp only at hi hli hn ⊢
  subst hn
  conv => whnf
  repeat' (first | (with_reducible first | refine HT.seq ?_ | refine HT.block ?_ | refine Br.not ?_) | ((with_reducible first | refine HT.region tt_ok ?_ | refine HT.drawn tt_ok (by kernel_rfl) (by decide +kernel) ?_ | refine HT.drawnL tt_ok (by kernel_rfl) (by decide +kernel) ?_ | refine HT.cond ?_ | refine HT.ret ?_ | refine HT.skip ?_ | refine HT.exit ?_ | refine Br.tt ?_ | refine Br.ff ?_); conv => whnf) | ((with_reducible first | refine Br.dec (fun hc => ?_) (fun hc => ?_) | refine Br.eq (fun hc => ?_) (fun hc => ?_) | refine Br.ne (fun hc => ?_) (fun hc => ?_)) <;> (first | (exfalso; omega) | conv => whnf)) | ((with_reducible first | refine Br.ttE (by decide) ?_ | refine Br.ffE (by decide) ?_ | refine Br.mk (fun hc => ?_) (fun hc => ?_) | refine Chk.mk (by first | omega | with_reducible rfl | (refine ⟨rfl, ?_⟩; omega) | decide | exact ⟨rfl, by omega, by omega, rfl⟩ | exact ⟨by assumption, rfl, by omega, by omega⟩) ?_ | refine Ar.fit (by omega) ?_ | refine Eqv.shr1 ?_ | refine Ar.u64 (by omega) ?_) <;> conv => whnf) | ((first | (refine CallN.turn 100 _ _ rfl (pick_c _ _ 3 (by omega) (by omega)) ?_; rintro r N p' ⟨⟨kt, hkt0, hkt1, rfl⟩, rfl, rfl⟩) | (refine CallN.turn 100 _ _ rfl (pick_c _ _ 16 (by omega) (by omega)) ?_; rintro r N p' ⟨⟨kw, hkw0, hkw1, rfl⟩, rfl, rfl⟩)) <;> conv => whnf) | (with_reducible exact trivial) | ((with_reducible refine And.intro ?_ ?_) <;> conv => whnf) | (intro gn; conv => whnf))
  all_goals (try (exfalso; omega))
  all_goals first
    | (rename_i A2; exact ⟨⟨(i + 1, bs ++ [decide (kt > 0)], A2, bs.length + 1, gn), ⟨by dsimp only; omega, by dsimp only; rw [List.length_append, hli]; rfl, by dsimp only; rw [List.length_append]; rfl⟩, by dsimp only; omega, (by repeat' (first | exact trivial | refine ⟨rfl, ?_⟩)), ⟨(by first | with_reducible exact CellLe.refl _ | exact CellLe.own | exact CellLe.i (by omega) | exact CellLe.nil | exact CellLe.slNil | exact CellLe.refl _), (by first | with_reducible exact CellLe.refl _ | exact CellLe.own | exact CellLe.i (by omega) | exact CellLe.nil | exact CellLe.slNil | exact CellLe.refl _), trivial⟩, HLe.pk (by (conv => whnf); (refine PP.start ?_; repeat (first | exact PP.nil | refine PP.take (by first | with_reducible exact Hp.Sub.refl _ | exact Hp.Sub.rd (by omega) | exact Hp.Sub.rowA (by rw [List.length_append]; rfl) (fun i j hi hj => cat_en rfl (l1 rfl) hi hj) | exact Hp.Sub.boxA (by (repeat (first | exact all_lt_zero | refine all_lt_succ (p := fun j => CellLe _ _) (by first | with_reducible exact CellLe.refl _ | exact CellLe.own | exact CellLe.i (by omega) | exact CellLe.nil | exact CellLe.slNil | exact CellLe.refl _) ?_))) | exact Hp.Sub.refl _) ?_ | refine PP.skip ?_)))⟩⟩)
    | (have h9 : kw ≠ 0 := (by assumption); (refine Fin.still (r' := .tup 2 (litF [tsl l, bql (bs)])) (e := 4) (sz := 1) (f' := rowF bqF (bs)) (n := (bs).length) (H' := [.cust R]) (by refine PP.start ?_; repeat (first | exact PP.nil | refine PP.take (by first | with_reducible exact Hp.Sub.refl _ | exact Hp.Sub.rd (by omega) | exact Hp.Sub.rowA rfl (fun i j hi hj => rfl) | exact Hp.Sub.boxA (by (repeat (first | exact all_lt_zero | refine all_lt_succ (p := fun j => CellLe _ _) (by first | with_reducible exact CellLe.refl _ | exact CellLe.own | exact CellLe.i (by omega) | exact CellLe.nil | exact CellLe.slNil | exact CellLe.refl _) ?_))) | exact Hp.Sub.refl _) ?_ | refine PP.skip ?_)) (fun w F x hsl hx => Has.tup (by (repeat (first | exact all_lt_zero | refine all_lt_succ (p := fun k => ∀ v, Has _ _ _ v → Has _ _ _ v) (by (first | exact fun _ h => h | exact (fun u hu => (show u = _ from hu) ▸ hsl) | (intro u hu; refine Has.agg ?_ hu; (repeat (first | exact all_lt_zero | refine all_lt_succ (p := fun k => ∀ v, Has _ _ _ v → Has _ _ _ v) (by (first | exact fun _ h => h | exact (fun u hu => (show u = _ from hu) ▸ hsl))) ?_))))) ?_))) hx) ⟨rfl, l, _, hll, (by omega), rfl⟩))
    | (refine Fin.still (r' := .tup 2 (litF [tsl l, bql (bs ++ [true])])) (e := 4) (sz := 1) (f' := rowF bqF (bs ++ [true])) (n := (bs ++ [true]).length) (H' := [.cust R]) (by refine PP.start ?_; repeat (first | exact PP.nil | refine PP.take (by first | with_reducible exact Hp.Sub.refl _ | exact Hp.Sub.rd (by omega) | exact Hp.Sub.rowA (by rw [List.length_append]; rfl) (fun i j hi hj => cat_en rfl (l1 rfl) hi hj) | exact Hp.Sub.boxA (by (repeat (first | exact all_lt_zero | refine all_lt_succ (p := fun j => CellLe _ _) (by first | with_reducible exact CellLe.refl _ | exact CellLe.own | exact CellLe.i (by omega) | exact CellLe.nil | exact CellLe.slNil | exact CellLe.refl _) ?_))) | exact Hp.Sub.refl _) ?_ | refine PP.skip ?_)) (fun w F x hsl hx => Has.tup (by (repeat (first | exact all_lt_zero | refine all_lt_succ (p := fun k => ∀ v, Has _ _ _ v → Has _ _ _ v) (by (first | exact fun _ h => h | exact (fun u hu => (show u = _ from hu) ▸ hsl) | (intro u hu; refine Has.agg ?_ hu; (repeat (first | exact all_lt_zero | refine all_lt_succ (p := fun k => ∀ v, Has _ _ _ v → Has _ _ _ v) (by (first | exact fun _ h => h | exact (fun u hu => (show u = _ from hu) ▸ hsl))) ?_))))) ?_))) hx) ⟨rfl, l, _, hll, (by rw [List.length_append]; simp; omega), rfl⟩)
    | trace_state⟩
theorem sameRs_c (l : List Rc) (hl : l.length ≤ 1000000) : SRet Tryd.prog 14 [rcl l, rcl l] (· = .b true) := ⟨fun R => by
  refine SCalls.enter tt_ok Tryd.func14 (by kernel_rfl) rfl [(900, .cust R)] rfl (argF _) (fun w F v k h => h) (by simp) ?_
  repeat' (first | (with_reducible first | refine HT.seq ?_ | refine HT.block ?_ | refine Br.not ?_) | ((with_reducible first | refine HT.region tt_ok ?_ | refine HT.drawn tt_ok (by kernel_rfl) (by decide +kernel) ?_ | refine HT.drawnL tt_ok (by kernel_rfl) (by decide +kernel) ?_ | refine HT.cond ?_ | refine HT.ret ?_ | refine HT.skip ?_ | refine HT.exit ?_ | refine Br.tt ?_ | refine Br.ff ?_); conv => whnf) | ((with_reducible first | refine Br.dec (fun hc => ?_) (fun hc => ?_) | refine Br.eq (fun hc => ?_) (fun hc => ?_) | refine Br.ne (fun hc => ?_) (fun hc => ?_)) <;> (first | (exfalso; omega) | conv => whnf)) | ((with_reducible first | refine Br.ttE (by decide) ?_ | refine Br.ffE (by decide) ?_ | refine Br.mk (fun hc => ?_) (fun hc => ?_) | refine Chk.mk (by first | omega | with_reducible rfl | (refine ⟨rfl, ?_⟩; omega) | decide | exact ⟨rfl, by omega, by omega, rfl⟩ | exact ⟨by assumption, rfl, by omega, by omega⟩) ?_ | refine Ar.fit (by omega) ?_ | refine Eqv.shr1 ?_ | refine Ar.u64 (by omega) ?_) <;> conv => whnf) | (with_reducible exact trivial) | ((with_reducible refine And.intro ?_ ?_) <;> conv => whnf) | (intro gn; conv => whnf))
  refine HT.loopS [0, 1, 10] (fun k : Nat => [(5, .i k)]) (fun k : Nat => k ≤ l.length) (fun k : Nat => l.length - k) 0 (Nat.zero_le _) ⟨rfl, trivial⟩ ?_
  conv => whnf
  intro k hk
  repeat' (first | (with_reducible first | refine HT.seq ?_ | refine HT.block ?_ | refine Br.not ?_) | ((with_reducible first | refine HT.region tt_ok ?_ | refine HT.drawn tt_ok (by kernel_rfl) (by decide +kernel) ?_ | refine HT.drawnL tt_ok (by kernel_rfl) (by decide +kernel) ?_ | refine HT.cond ?_ | refine HT.ret ?_ | refine HT.skip ?_ | refine HT.exit ?_ | refine Br.tt ?_ | refine Br.ff ?_); conv => whnf) | ((with_reducible first | refine Br.dec (fun hc => ?_) (fun hc => ?_) | refine Br.eq (fun hc => ?_) (fun hc => ?_) | refine Br.ne (fun hc => ?_) (fun hc => ?_)) <;> (first | (exfalso; omega) | conv => whnf)) | ((with_reducible first | refine Br.ttE (by decide) ?_ | refine Br.ffE (by decide) ?_ | refine Br.mk (fun hc => ?_) (fun hc => ?_) | refine Chk.mk (by first | omega | with_reducible rfl | (refine ⟨rfl, ?_⟩; omega) | decide | exact ⟨rfl, by omega, by omega, rfl⟩ | exact ⟨by assumption, rfl, by omega, by omega⟩) ?_ | refine Ar.fit (by omega) ?_ | refine Eqv.shr1 ?_ | refine Ar.u64 (by omega) ?_) <;> conv => whnf) | (with_reducible exact trivial) | ((with_reducible refine And.intro ?_ ?_) <;> conv => whnf) | (intro gn; conv => whnf))
  all_goals first
    | (exfalso; simp_all; done)
    | exact ⟨⟨k + 1, by omega, by omega, (by repeat' (first | exact trivial | refine ⟨rfl, ?_⟩)), ⟨sv_i (by omega), trivial⟩, (HLe.sub (by repeat (first | exact List.Sublist.refl _ | refine List.Sublist.cons_cons _ ?_ | refine List.Sublist.cons _ ?_)))⟩⟩
    | exact Fin.pureS (by repeat (first | exact List.Sublist.refl _ | refine List.Sublist.cons_cons _ ?_ | refine List.Sublist.cons _ ?_)) rfl
    | trace_state⟩
end Go.Proofs.YtcagfmbboliohaaDoor
/-! YtcagfmbboliohaaDoorTv -/
set_option linter.all false
namespace Go.Proofs.YtcagfmbboliohaaDoor
open Go.RowKit

theorem implRO_c (l : List Tx) (bs : List Bool) (hl : l.length ≤ 10000000) (hb : bs.length ≤ 10000000) : SRet Tryd.prog 12 [tsl l, bql bs] (· = rcl (rOf l bs)) := (implRO_o l bs hl hb).stillRk
theorem specRO_c (l : List Tx) (bs : List Bool) (hl : l.length ≤ 10000000) (hb : bs.length ≤ 10000000) : SRet Tryd.prog 13 [tsl l, bql bs] (· = rcl (rOf l bs)) := (specRO_o l bs hl hb).stillRk
set_option maxHeartbeats 2000000 in
theorem FnReceiptsOf_c (zs : List Int) (hz : ∀ z ∈ zs, 0 ≤ z ∧ z ≤ 255) : SRet Tryd.prog 5 [.sl 1 zs.length (rowF u8F zs)] (· = .b true) := ⟨fun R => by
  refine SCalls.enter tt_ok Tryd.func5 (by kernel_rfl) rfl [(900, .cust R)] rfl (argF _) (fun w F v k h => h) (by simp) ?_
  repeat' (first | (with_reducible first | refine HT.seq ?_ | refine HT.block ?_ | refine Br.not ?_) | ((with_reducible first | refine HT.region tt_ok ?_ | refine HT.drawn tt_ok (by kernel_rfl) (by decide +kernel) ?_ | refine HT.drawnL tt_ok (by kernel_rfl) (by decide +kernel) ?_ | refine HT.cond ?_ | refine HT.ret ?_ | refine HT.skip ?_ | refine HT.exit ?_ | refine Br.tt ?_ | refine Br.ff ?_); conv => whnf) | ((with_reducible first | refine Br.dec (fun hc => ?_) (fun hc => ?_) | refine Br.eq (fun hc => ?_) (fun hc => ?_) | refine Br.ne (fun hc => ?_) (fun hc => ?_)) <;> (first | (exfalso; omega) | conv => whnf)) | ((with_reducible first | refine Br.ttE (by decide) ?_ | refine Br.ffE (by decide) ?_ | refine Br.mk (fun hc => ?_) (fun hc => ?_) | refine Chk.mk (by first | omega | with_reducible rfl | (refine ⟨rfl, ?_⟩; omega) | decide | exact ⟨rfl, by omega, by omega, rfl⟩ | exact ⟨by assumption, rfl, by omega, by omega⟩) ?_ | refine Ar.fit (by omega) ?_ | refine Eqv.shr1 ?_ | refine Ar.u64 (by omega) ?_) <;> conv => whnf) | (with_reducible exact trivial) | ((with_reducible refine And.intro ?_ ?_) <;> conv => whnf) | (intro gn; conv => whnf))
  · exact Fin.pureS (by repeat (first | exact List.Sublist.refl _ | refine List.Sublist.cons_cons _ ?_ | refine List.Sublist.cons _ ?_)) rfl
  refine CallN.ret _ (DrawRO_c zs hz (by omega)) ?_
  rintro r ⟨l, bs, hll, hbl, rfl⟩
  conv => whnf
  have hI := implRO_c l bs (by omega) (by omega)
  have hS := specRO_c l bs (by omega) (by omega)
  have hM := sameRs_c (rOf l bs) (by have := rOf_len (l := l) (bs := bs); omega)
  cases hr : rOk l bs
  · rw [rOf_bad hr] at hI hS hM
    repeat' (first | (with_reducible first | refine HT.seq ?_ | refine HT.block ?_ | refine Br.not ?_) | ((with_reducible first | refine HT.region tt_ok ?_ | refine HT.drawn tt_ok (by kernel_rfl) (by decide +kernel) ?_ | refine HT.drawnL tt_ok (by kernel_rfl) (by decide +kernel) ?_ | refine HT.cond ?_ | refine HT.ret ?_ | refine HT.skip ?_ | refine HT.exit ?_ | refine Br.tt ?_ | refine Br.ff ?_); conv => whnf) | ((with_reducible first | refine Br.dec (fun hc => ?_) (fun hc => ?_) | refine Br.eq (fun hc => ?_) (fun hc => ?_) | refine Br.ne (fun hc => ?_) (fun hc => ?_)) <;> (first | (exfalso; omega) | conv => whnf)) | ((with_reducible first | refine Br.ttE (by decide) ?_ | refine Br.ffE (by decide) ?_ | refine Br.mk (fun hc => ?_) (fun hc => ?_) | refine Chk.mk (by first | omega | with_reducible rfl | (refine ⟨rfl, ?_⟩; omega) | decide | exact ⟨rfl, by omega, by omega, rfl⟩ | exact ⟨by assumption, rfl, by omega, by omega⟩) ?_ | refine Ar.fit (by omega) ?_ | refine Eqv.shr1 ?_ | refine Ar.u64 (by omega) ?_) <;> conv => whnf) | ((first | refine CallN.ret1 (hI) ?_ | refine CallN.ret1 (hS) ?_ | refine CallN.ret1 (hM) ?_) <;> conv => whnf) | (with_reducible exact trivial) | ((with_reducible refine And.intro ?_ ?_) <;> conv => whnf) | (intro gn; conv => whnf))
    all_goals first | exact Fin.pureS (by repeat (first | exact List.Sublist.refl _ | refine List.Sublist.cons_cons _ ?_ | refine List.Sublist.cons _ ?_)) rfl | (exfalso; simp_all; done) | trace_state
  have hlen := (rOk_iff.1 hr).2
  rw [rOf_ok hr] at hI hS hM
  have hL : (rcL l bs l.length).length = l.length := rcL_len
  generalize hq : rcL l bs l.length = q at hI hS hM hL ⊢
  repeat' (first | (with_reducible first | refine HT.seq ?_ | refine HT.block ?_ | refine Br.not ?_) | ((with_reducible first | refine HT.region tt_ok ?_ | refine HT.drawn tt_ok (by kernel_rfl) (by decide +kernel) ?_ | refine HT.drawnL tt_ok (by kernel_rfl) (by decide +kernel) ?_ | refine HT.cond ?_ | refine HT.ret ?_ | refine HT.skip ?_ | refine HT.exit ?_ | refine Br.tt ?_ | refine Br.ff ?_); conv => whnf) | ((with_reducible first | refine Br.dec (fun hc => ?_) (fun hc => ?_) | refine Br.eq (fun hc => ?_) (fun hc => ?_) | refine Br.ne (fun hc => ?_) (fun hc => ?_)) <;> (first | (exfalso; omega) | conv => whnf)) | ((with_reducible first | refine Br.ttE (by decide) ?_ | refine Br.ffE (by decide) ?_ | refine Br.mk (fun hc => ?_) (fun hc => ?_) | refine Chk.mk (by first | omega | with_reducible rfl | (refine ⟨rfl, ?_⟩; omega) | decide | exact ⟨rfl, by omega, by omega, rfl⟩ | exact ⟨by assumption, rfl, by omega, by omega⟩) ?_ | refine Ar.fit (by omega) ?_ | refine Eqv.shr1 ?_ | refine Ar.u64 (by omega) ?_) <;> conv => whnf) | ((first | refine CallN.ret1 (hI) ?_ | refine CallN.ret1 (hS) ?_ | refine CallN.ret1 (hM) ?_) <;> conv => whnf) | (with_reducible exact trivial) | ((with_reducible refine And.intro ?_ ?_) <;> conv => whnf) | (intro gn; conv => whnf))
  all_goals first | exact Fin.pureS (by repeat (first | exact List.Sublist.refl _ | refine List.Sublist.cons_cons _ ?_ | refine List.Sublist.cons _ ?_)) rfl | (exfalso; simp_all; done) | skip
  refine HT.loopS [0, 3, 4, 5, 6, 10, 30] (fun k : Nat => [(7, .i k)]) (fun k : Nat => k ≤ q.length) (fun k : Nat => q.length - k) 0 (Nat.zero_le _) ⟨rfl, trivial⟩ ?_
  conv => whnf
  intro k hk
  have hT := implTD_c (l.getD ((k : Int)).toNat default)
  have hg : k < q.length → q.getD ((k : Int)).toNat default = ⟨(k : Int), bs.getD ((k : Int)).toNat default, txD (l.getD ((k : Int)).toNat default)⟩ := fun h => by
    rw [Int.toNat_natCast, ← hq, rcL_get (by omega)]
  conv => whnf
  repeat' (first | (with_reducible first | refine HT.seq ?_ | refine HT.block ?_ | refine Br.not ?_) | ((with_reducible first | refine HT.region tt_ok ?_ | refine HT.drawn tt_ok (by kernel_rfl) (by decide +kernel) ?_ | refine HT.drawnL tt_ok (by kernel_rfl) (by decide +kernel) ?_ | refine HT.cond ?_ | refine HT.ret ?_ | refine HT.skip ?_ | refine HT.exit ?_ | refine Br.tt ?_ | refine Br.ff ?_); conv => whnf) | ((with_reducible first | refine Br.dec (fun hc => ?_) (fun hc => ?_) | refine Br.eq (fun hc => ?_) (fun hc => ?_) | refine Br.ne (fun hc => ?_) (fun hc => ?_)) <;> (first | (exfalso; omega) | conv => whnf)) | ((with_reducible first | refine Br.ttE (by decide) ?_ | refine Br.ffE (by decide) ?_ | refine Br.mk (fun hc => ?_) (fun hc => ?_) | refine Chk.mk (by first | omega | with_reducible rfl | (refine ⟨rfl, ?_⟩; omega) | decide | exact ⟨rfl, by omega, by omega, rfl⟩ | exact ⟨by assumption, rfl, by omega, by omega⟩) ?_ | refine Ar.fit (by omega) ?_ | refine Eqv.shr1 ?_ | refine Ar.u64 (by omega) ?_) <;> conv => whnf) | ((first | refine CallN.ret1 (hT) ?_) <;> conv => whnf) | (with_reducible exact trivial) | ((with_reducible refine And.intro ?_ ?_) <;> conv => whnf) | (intro gn; conv => whnf))
  all_goals (try (exfalso; omega))
  all_goals first
    | (exfalso; rw [hg (by omega)] at hc; first | exact hc rfl | (simp at hc; done))
    | exact ⟨⟨k + 1, by omega, by omega, (by repeat' (first | exact trivial | refine ⟨rfl, ?_⟩)), ⟨sv_i (by omega), trivial⟩, (HLe.sub (by repeat (first | exact List.Sublist.refl _ | refine List.Sublist.cons_cons _ ?_ | refine List.Sublist.cons _ ?_)))⟩⟩
    | exact Fin.pureS (by repeat (first | exact List.Sublist.refl _ | refine List.Sublist.cons_cons _ ?_ | refine List.Sublist.cons _ ?_)) (sv_b (by rw [hL]; simp))
    | trace_state⟩
end Go.Proofs.YtcagfmbboliohaaDoor
/-! YtcagfmbboliohaaDoorFrame -/
set_option linter.all false

set_option maxRecDepth 100000
namespace Go.Proofs.YtcagfmbboliohaaDoor
open Go.ChangeShapes Go.WideShapes Go.ChangeAt Go.RowKit

theorem Tryd.own : ownKnob Tryd.prog.godebug = none := by kernel_rfl
theorem Tryd.laidOut : laidOutB Tryd.prog = true := by kernel_rfl

section
variable {H : Type} {enc : TypeId × Value → H}
theorem trodAll_below {W W' : World} (hb : Below W.heap.size W W') : ∀ {ts : List TypeId} {vs : List Value} {ds : List (DataW H)} {ps : List MemPlace}, (∀ t ∈ ts, Tryd.prog.readableRec t = true ∧ t < Tryd.prog.types.size) →
    DataW.TrodAll enc Tryd.prog W 0 (fun _ => true) true ts vs ds ps → (∀ x ∈ ps, x.block < W.heap.size) → DataW.TrodAll enc Tryd.prog W' 0 (fun b => decide (b < W.heap.size)) true ts vs ds ps
  | [], [], [], ps, _, h, _ => h
  | t :: ts, v :: vs, d :: ds, ps, hr, ⟨p, q, h1, h2, e⟩, hl => by
    subst e
    exact ⟨p, q, Below.trod Tryd.laidOut (hr t List.mem_cons_self).1 (hr t List.mem_cons_self).2 h1 hb fun x hx => hl x (List.mem_append_left _ hx),
      trodAll_below hb (fun t ht => hr t (List.mem_cons_of_mem _ ht)) h2 fun x hx => hl x (List.mem_append_right _ hx), rfl⟩
  | [], _ :: _, _, _, _, h, _ => h.elim
  | [], [], _ :: _, _, _, h, _ => h.elim
  | _ :: _, [], _, _, _, h, _ => h.elim
  | _ :: _, _ :: _, [], _, _, h, _ => h.elim

/-- the types of the parameters can be read -/
theorem readable_ok {ts : List TypeId} (h : (ts.all fun t => Tryd.prog.readableRec t && Nat.blt t Tryd.prog.types.size) = true) : ∀ t ∈ ts, Tryd.prog.readableRec t = true ∧ t < Tryd.prog.types.size := fun t ht => by
  have := List.all_eq_true.1 h t ht
  rw [Bool.and_eq_true] at this
  exact ⟨this.1, Nat.le_of_ble_eq_true this.2⟩


theorem law_lifted {f : FuncId} {fn : Func} {s : ChangeSpec} {os : Os} (started : os.Started) (hfn : Tryd.checked.prog.funcs[f]? = some fn) (hno : Tryd.checked.prog.inits.idxOf? f = none) {bt : TypeId} (hbt : Tryd.prog.underlying bt = some .bool) (hrt : fn.resultTypes = #[bt])
    (hpr : (fn.params.toList.all fun t => Tryd.prog.readableRec t && Nat.blt t Tryd.prog.types.size) = true) (hv : s.vars = []) (hs : ∀ ds : List (DataW H), ds.length = fn.params.size → (s.fn H (ds ++ [])).results = [.lit (.bool true)] ∧ (s.fn H (ds ++ [])).args = ds ∧ (s.fn H (ds ++ [])).vars = [])
    (wit : ∃ (w : World) (tape : Tape) (i : Input), w.os = os ∧ (w.forCall tape i).Shaped Tryd.checked.prog ∧ i.vars = [] ∧ Input.okWide Tryd.checked.prog (w.forCall tape i) .any w.heap.size f i ∧
      s.pre6 enc Tryd.checked.prog fn [] false (w.forCall tape i).memory i.args ∧ ({} : Assume).holds Tryd.checked.prog (lone (Frame.enter Tryd.checked.prog f i.args .normal) [] (w.forCall tape i)))
    (hc : ∀ (W : World) (base : Nat) (args : Array Value) (ds : List (DataW H)) (ps : List MemPlace), (∀ (j : Nat) t v, fn.params[j]? = some t → args[j]? = some v → Value.okWide Tryd.prog W .any base t v) →
      DataW.TrodAll enc Tryd.prog W 0 (fun _ => true) true fn.params.toList args.toList ds ps → Calls Tryd.prog f args W fun e W' => e = .returned (.bool true) ∧ Below W.heap.size W W') :
    ReturnsInHanded {} Tryd.checked os f .any (s.pre6 enc Tryd.checked.prog fn [] false) (s.post enc Tryd.checked.prog fn false true false false) := by
  refine returnsInHanded_of_change (C := Tryd.checked) Tryd.own started hno hfn wit ?_
  intro W base args ds gs before hval hW hcnd _
  have hW' := hW
  obtain ⟨p, q, hA0, hV, rfl, hfz, hnd⟩ := hW
  have hA : DataW.TrodAll enc Tryd.prog W 0 (fun _ => true) true fn.params.toList args.toList ds p := hA0
  have hl : ds.length = fn.params.size := by
    have : ∀ (ts : List TypeId) (vs : List Value) (ds : List (DataW H)) (p : List MemPlace), DataW.TrodAll enc Tryd.prog W 0 (fun _ => true) true ts vs ds p → ds.length = ts.length := by
      intro ts
      induction ts with
      | nil => intro vs ds p h; cases vs <;> cases ds <;> simp [DataW.TrodAll] at h ⊢
      | cons t ts ih => intro vs ds p h; cases vs <;> cases ds <;> simp [DataW.TrodAll] at h ⊢; obtain ⟨_, _, _, h, _⟩ := h; exact ih _ _ _ h
    have := this _ _ _ _ hA
    simpa using this
  rw [hv] at hV
  have hg : gs = [] ∧ q = [] := by cases gs <;> simp [DataW.TrodVars] at hV; exact ⟨rfl, hV⟩
  obtain ⟨rfl, rfl⟩ := hg
  obtain ⟨hs1, hs2, hs3⟩ := hs ds hl
  refine (hc W base args ds p hval hA).mono fun e W' ⟨he, hb⟩ => ⟨_, he, ds, [], _, [], p, [], hW', ?_, ?_, ?_, hb.frame _, fun h => by cases h⟩
  · rw [hs1, hrt]
    exact trodAll_mk1 (shut_bool hbt true)
  · rw [hs2]
    exact trodAll_below hb (readable_ok hpr) hA fun x hx => hW'.lt x (by simpa using hx)
  · rw [hs3, hv]
    exact rfl

/-- a code that came in, as data -/

theorem code_has {t e : TypeId} (ht : Tryd.prog.underlying t = some (.slice e)) (he : Tryd.prog.underlying e = some (.int .u8)) (hc : Tryd.prog.cellsOf e = 1) {W : World} {v : Value} {d : DataW H} {p : List MemPlace} {base : Nat} (hv : Value.okWide Tryd.prog W .any base t v) (h : DataW.Trod enc Tryd.prog W 0 (fun _ => true) true t v d p) :
    ∃ zs : List Int, Has W (fun b => b < W.heap.size) (.sl 1 zs.length (rowF u8F zs)) v ∧ (∀ z ∈ zs, 0 ≤ z ∧ z ≤ 255) := by
  obtain ⟨a0, len, cap, rfl⟩ := okWide_slice ht hv
  obtain ⟨fuel, hf⟩ := h
  rcases open_ints ht he hc hf with ⟨hcs, hx⟩ | ⟨a, len', cap', zs, hcs, _, hl, hm, hz, hx, hcell, hwz⟩
  · simp [Value.cells] at hcs
    obtain ⟨rfl, rfl, rfl⟩ := hcs
    exact ⟨[], ⟨none, 0, rfl, Nat.le_refl _, Nat.zero_le _, fun h => absurd h (by simp)⟩, by simp⟩
  · simp [Value.cells] at hcs
    obtain ⟨rfl, rfl, rfl⟩ := hcs
    have hz : zs.length = cap := by simpa using hz
    have hlen : (zs.take len).length = len := by simp; omega
    refine ⟨zs.take len, ?_, fun z hz' => ?_⟩
    · rw [hlen]
      refine ⟨some a, cap, rfl, hl, hm, fun hp => ?_⟩
      have h0 := hcell 0 (by omega)
      have hsp := World.cell?_spot h0
      have hsp : a.spot = none := hsp
      obtain ⟨b, off, spot⟩ := a
      simp only at hsp
      subst hsp
      refine ⟨b, off, rfl, ?_, fun i k hi hk => ?_⟩
      · rcases Nat.lt_or_ge b W.heap.size with hlt | hge
        · exact hlt
        · have h0 : W.cell? ⟨b, off, none⟩ = _ := h0
          simp [World.cell?, Array.getElem?_eq_none hge] at h0
      · have hk : k = 0 := by omega
        subst hk
        have h1 := hcell i (by omega)
        rw [addr_add'] at h1
        refine ⟨_, by simpa using h1, rfl, ?_⟩
        show Value.int .u8 _ = .int .u8 _
        congr 1
        simp [List.getD_eq_getElem?_getD, List.getElem?_take, hi]
    · have := hwz z (List.mem_of_mem_take hz')
      simpa [Lit.wf, IntKind.min, IntKind.max, IntKind.signed, IntKind.bits] using this
end

/-- a law's contract in the frame's words -/
theorem law_calls {f : FuncId} {ss : List SV} (h : SRet Tryd.prog f ss (· = .b true)) {W : World} {args : Array Value} (ha : HasL W (fun b => b < W.heap.size) ss args.toList) : Calls Tryd.prog f args W fun e W' => e = .returned (.bool true) ∧ Below W.heap.size W W' := by
  let R0 : Heaplet := ⟨fun _ => False, fun _ _ => True, fun _ _ => trivial, fun _ _ => trivial⟩
  have hs0 : HSat W (fun b => b < W.heap.size) [.cust R0] := ⟨fun x hx => by rw [List.mem_singleton.1 hx]; trivial, fun x hx b hb => by rw [List.mem_singleton.1 hx] at hb; exact hb.elim, by simp, fun b hb => hb⟩
  refine ((h.h R0).2 W _ args.toList hs0 ha).mono ?_
  rintro e W' ⟨v, rfl, r, F', H', ⟨_, rfl⟩, hk, hF, hs', hr⟩
  have hr : v = .bool true := hr
  subst hr
  exact ⟨rfl, hk.os, hk.tape, hk.output, hk.size, hk.blk⟩
end Go.Proofs.YtcagfmbboliohaaDoor
/-! YtcagfmbboliohaaDoorEx -/
set_option linter.all false
namespace Go.Proofs.YtcagfmbboliohaaDoor
open Go.ChangeShapes Go.WideShapes Go.RowKit

section
variable {H : Type} {enc : TypeId × Value → H} {base : Nat}

/-- these cells read as data of this type -/
def Td (enc : TypeId × Value → H) (W : World) (t : TypeId) (cs : List Value) : Prop := ∃ fuel x, DataW.trod enc Tryd.prog W 0 (fun _ => true) true fuel t cs = some x
abbrev allF (W : World) : Nat → Prop := fun b => b < W.heap.size
/-- cells, told one by one -/
def Cls (W : World) (sz : Nat) (f : Nat → SV) (cs : List Value) : Prop := cs.length = sz ∧ ∀ j, j < sz → (cs.getD j undef).oneCell' = true ∧ Has W (allF W) (f j) (cs.getD j undef)
def IR (n : Int) : Prop := -9223372036854775808 ≤ n ∧ n ≤ 9223372036854775807

theorem td_int {W : World} {t : TypeId} {cs : List Value} (ht : Tryd.prog.underlying t = some (.int .i64)) (h : Td enc W t cs) : ∃ n, IR n ∧ cs = [.int .i64 n] := by
  obtain ⟨fuel, x, h⟩ := h
  obtain ⟨n, e, _, hw⟩ := DataW.trod_int ht h
  refine ⟨n, ?_, e⟩
  simp [Lit.wf, IntKind.min, IntKind.max, IntKind.signed, IntKind.bits] at hw
  exact hw
theorem td_bool {W : World} {t : TypeId} {cs : List Value} (ht : Tryd.prog.underlying t = some .bool) (h : Td enc W t cs) : ∃ b, cs = [.bool b] := by
  obtain ⟨fuel, x, h⟩ := h
  cases fuel with
  | zero => simp [DataW.trod] at h
  | succ n =>
    unfold DataW.trod at h
    rw [ht] at h
    split at h <;> simp_all
theorem Cls.one {W : World} {s : SV} {v : Value} (h1 : v.oneCell' = true) (h : Has W (allF W) s v) : Cls W 1 (fun _ => s) [v] := ⟨rfl, fun j hj => by
  obtain rfl : j = 0 := by omega
  exact ⟨h1, h⟩⟩
theorem td_slice {α : Type} [Inhabited α] {W : World} (en : α → Nat → SV) (ok : α → Prop) {t e : TypeId} {sz : Nat} (ht : Tryd.prog.underlying t = some (.slice e)) (hc : Tryd.prog.cellsOf e = sz) (h0 : 0 < sz)
    (hel : ∀ cs, Td enc W e cs → ∃ a, ok a ∧ Cls W sz (en a) cs) {cs : List Value} (h : Td enc W t cs) : ∃ (l : List α) (v : Value), (∀ a ∈ l, ok a) ∧ l.length ≤ 9223372036854775807 ∧ cs = [v] ∧ v.oneCell' = true ∧ Has W (allF W) (.sl sz l.length (rowF en l)) v := by
  obtain ⟨fuel, x, h⟩ := h
  rcases Deep.open_slice ht h with ⟨rfl, _⟩ | ⟨a, len, cap, m, n, D, Pl, rfl, hb, hl, hm, hmm, _, hx⟩
  · exact ⟨[], _, by simp, by simp, rfl, rfl, none, 0, rfl, Nat.le_refl _, Nat.zero_le _, fun h => absurd h (by simp)⟩
  · have hlm : len ≤ m := by rw [hmm]; simp; omega
    obtain ⟨F, hF⟩ := Deep.choose_lt (α := α) (n := len) (p := fun i y => ok y ∧ ∀ j, j < sz → ∃ u, W.cell? ((a.add (i * sz)).add j) = some u ∧ u.oneCell' = true ∧ Has W (allF W) (en y j) u) (fun i hi => by
      obtain ⟨cs', h1, h2⟩ := hx i (by omega)
      rw [hc] at h1
      obtain ⟨y, hy, hlen, hcl⟩ := hel cs' ⟨_, _, h2⟩
      refine ⟨y, hy, fun j hj => ?_⟩
      have := (World.cells?_some h1).2.2 j hj
      refine ⟨cs'.getD j undef, ?_, hcl j hj⟩
      rw [this, List.getD_eq_getElem?_getD, List.getElem?_eq_getElem (by omega)]
      rfl)
    have hlen : ((List.range len).map F).length = len := by simp
    have hget : ∀ i, i < len → ((List.range len).map F).getD i default = F i := fun i hi => by simp [List.getD_eq_getElem?_getD, hi]
    refine ⟨(List.range len).map F, _, fun y hy => ?_, by rw [hlen]; unfold maxLen at hm; omega, rfl, rfl, some a, cap, by rw [hlen], by rw [hlen]; exact hl, hm, fun hp => ?_⟩
    · obtain ⟨i, hi, rfl⟩ := List.mem_map.1 hy
      exact (hF i (List.mem_range.1 hi)).1
    · rw [hlen] at hp
      obtain ⟨u0, hu0, _, _⟩ := (hF 0 hp).2 0 h0
      have hs : a.spot = none := by
        have := World.cell?_spot hu0
        simpa [Addr.add] using this
      obtain ⟨b, off, sp⟩ := a
      simp only at hs
      subst hs
      refine ⟨b, off, rfl, ?_, fun i k hi hk => ?_⟩
      · rcases Nat.lt_or_ge b W.heap.size with hlt | hge
        · exact hlt
        · rw [addr_add', addr_add'] at hu0
          simp [World.cell?, Array.getElem?_eq_none hge] at hu0
      · rw [hlen] at hi
        obtain ⟨u, hu, h1, h2⟩ := (hF i hi).2 k hk
        rw [addr_add', addr_add', Nat.add_assoc] at hu
        refine ⟨u, hu, h1, ?_⟩
        show Has W (allF W) (en (((List.range len).map F).getD i default) k) u
        rw [hget i hi]
        exact h2
/-- a field of a struct -/
theorem td_field {W : World} {t : TypeId} {fs : Array Field} {cs : List Value} (ht : Tryd.prog.underlying t = some (.struct fs)) (h : Td enc W t cs) : cs.length = Tryd.prog.cellsOf t ∧ ∀ (i : Nat) (f : Field), fs[i]? = some f → Td enc W f.type ((cs.drop f.offset).take (Tryd.prog.cellsOf f.type)) := by
  obtain ⟨fuel, x, h⟩ := h
  obtain ⟨xs, n, _, _, hl, hx, hf⟩ := DataW.trod_struct ht h
  refine ⟨hl, fun i f hi => ?_⟩
  have hlt : i < fs.size := (Array.getElem?_eq_some_iff.1 hi).1
  have := hf i f hi
  rw [List.getElem?_eq_getElem (by omega)] at this
  exact ⟨n, _, this⟩
theorem td_at {W : World} {t : TypeId} {fs : Array Field} {cs : List Value} (ht : Tryd.prog.underlying t = some (.struct fs)) (h : Td enc W t cs) (i : Nat) {f : Field} (hi : fs[i]? = some f) (o n : Nat) (ft : TypeId) (ho : f.offset = o) (hft : f.type = ft) (hc : Tryd.prog.cellsOf ft = n) : Td enc W ft ((cs.drop o).take n) := by
  have := (td_field ht h).2 i f hi
  rwa [ho, hft, hc] at this
/-- a list of ints that came in -/
theorem td_ints {W : World} {t e : TypeId} {cs : List Value} (ht : Tryd.prog.underlying t = some (.slice e)) (he : Tryd.prog.underlying e = some (.int .i64)) (hc : Tryd.prog.cellsOf e = 1) (h : Td enc W t cs) : ∃ (l : List Int) (v : Value), (∀ a ∈ l, IR a) ∧ l.length ≤ 9223372036854775807 ∧ cs = [v] ∧ v.oneCell' = true ∧ Has W (allF W) (isl l) v :=
  td_slice (W := W) intF IR ht hc (by omega) (fun cs h => by
    obtain ⟨n, hn, rfl⟩ := td_int he h
    exact ⟨n, hn, Cls.one rfl rfl⟩) h
set_option maxRecDepth 100000 in
/-- arguments -/
theorem arg_ints {W : World} {t e : TypeId} {v : Value} {d : DataW H} {p : List MemPlace} (ht : Tryd.prog.underlying t = some (.slice e)) (he : Tryd.prog.underlying e = some (.int .i64)) (hc : Tryd.prog.cellsOf e = 1) (hv : Value.okWide Tryd.prog W .any base t v) (h : DataW.Trod enc Tryd.prog W 0 (fun _ => true) true t v d p) : ∃ (l : List Int), (∀ a ∈ l, IR a) ∧ l.length ≤ 9223372036854775807 ∧ Has W (allF W) (isl l) v := by
  obtain ⟨a0, len, cap, rfl⟩ := okWide_slice ht hv
  obtain ⟨fuel, h⟩ := h
  obtain ⟨l, v, h1, h2, h3, _, h4⟩ := td_ints ht he hc ⟨fuel, _, h⟩
  simp [Value.cells] at h3
  subst h3
  exact ⟨l, h1, h2, h4⟩
set_option maxRecDepth 100000 in
theorem arg_int {W : World} {t : TypeId} {v : Value} {d : DataW H} {p : List MemPlace} (ht : Tryd.prog.underlying t = some (.int .i64)) (hv : Value.okWide Tryd.prog W .any base t v) (h : DataW.Trod enc Tryd.prog W 0 (fun _ => true) true t v d p) : ∃ n, IR n ∧ Has W (allF W) (.i n) v := by
  obtain ⟨n, rfl⟩ := okWide_int ht hv
  obtain ⟨fuel, h⟩ := h
  obtain ⟨m, hm, e⟩ := td_int ht ⟨fuel, _, h⟩
  simp [Value.cells] at e
  subst e
  exact ⟨n, hm, rfl⟩
set_option maxRecDepth 100000 in
theorem arg_slice {α : Type} [Inhabited α] {W : World} (en : α → Nat → SV) (ok : α → Prop) {t e : TypeId} {sz : Nat} {v : Value} {d : DataW H} {p : List MemPlace} (ht : Tryd.prog.underlying t = some (.slice e)) (hc : Tryd.prog.cellsOf e = sz) (h0 : 0 < sz)
    (hel : ∀ cs, Td enc W e cs → ∃ a, ok a ∧ Cls W sz (en a) cs) (hv : Value.okWide Tryd.prog W .any base t v) (h : DataW.Trod enc Tryd.prog W 0 (fun _ => true) true t v d p) : ∃ (l : List α), (∀ a ∈ l, ok a) ∧ l.length ≤ 9223372036854775807 ∧ Has W (allF W) (.sl sz l.length (rowF en l)) v := by
  obtain ⟨a0, len, cap, rfl⟩ := okWide_slice ht hv
  obtain ⟨fuel, h⟩ := h
  obtain ⟨l, v, h1, h2, h3, _, h4⟩ := td_slice en ok ht hc h0 hel ⟨fuel, _, h⟩
  simp [Value.cells] at h3
  subst h3
  exact ⟨l, h1, h2, h4⟩
set_option maxRecDepth 100000 in
theorem arg_struct {α : Type} {W : World} (en : α → Nat → SV) (ok : α → Prop) {t : TypeId} {fs : Array Field} {sz : Nat} {v : Value} {d : DataW H} {p : List MemPlace} (ht : Tryd.prog.underlying t = some (.struct fs)) (hel : ∀ cs, Td enc W t cs → ∃ a, ok a ∧ Cls W sz (en a) cs) (hv : Value.okWide Tryd.prog W .any base t v) (h : DataW.Trod enc Tryd.prog W 0 (fun _ => true) true t v d p) :
    ∃ a : α, ok a ∧ Has W (allF W) (.agg sz (en a)) v := by
  obtain ⟨vs, rfl, _⟩ := okWide_struct ht hv
  obtain ⟨fuel, h⟩ := h
  obtain ⟨a, h1, h2, h3⟩ := hel _ ⟨fuel, _, h⟩
  refine ⟨a, h1, vs, rfl, by simpa [Value.cells] using h2, fun k hk => ?_⟩
  have := (h3 k hk).2
  simpa [Value.cells] using this
end
theorem trodAll_four {H : Type} {enc : TypeId × Value → H} {P : Program} {w : World} {base : Nat} {spare : Nat → Bool} {held : Bool} {t0 t1 t2 t3 : TypeId} {vs : List Value} {d0 d1 d2 d3 : DataW H} {ps : List MemPlace} (h : DataW.TrodAll enc P w base spare held [t0, t1, t2, t3] vs [d0, d1, d2, d3] ps) :
    ∃ v0 v1 v2 v3 p0 p1 p2 p3, vs = [v0, v1, v2, v3] ∧ DataW.Trod enc P w base spare held t0 v0 d0 p0 ∧ DataW.Trod enc P w base spare held t1 v1 d1 p1 ∧ DataW.Trod enc P w base spare held t2 v2 d2 p2 ∧ DataW.Trod enc P w base spare held t3 v3 d3 p3 := by
  match vs, h with
  | [], h => exact h.elim
  | v0 :: vs, ⟨p0, q0, h0, h, _⟩ =>
    match vs, h with
    | [], h => exact h.elim
    | v1 :: vs, ⟨p1, q1, h1, h, _⟩ =>
      match vs, h with
      | [], h => exact h.elim
      | v2 :: vs, ⟨p2, q2, h2, h, _⟩ =>
        match vs, h with
        | [], h => exact h.elim
        | v3 :: vs, ⟨p3, q3, h3, h, _⟩ =>
          match vs, h with
          | [], _ => exact ⟨v0, v1, v2, v3, p0, p1, p2, p3, rfl, h0, h1, h2, h3⟩
          | _ :: _, h => exact h.elim
theorem trodAll_three {H : Type} {enc : TypeId × Value → H} {P : Program} {w : World} {base : Nat} {spare : Nat → Bool} {held : Bool} {t0 t1 t2 : TypeId} {vs : List Value} {d0 d1 d2 : DataW H} {ps : List MemPlace} (h : DataW.TrodAll enc P w base spare held [t0, t1, t2] vs [d0, d1, d2] ps) :
    ∃ v0 v1 v2 p0 p1 p2, vs = [v0, v1, v2] ∧ DataW.Trod enc P w base spare held t0 v0 d0 p0 ∧ DataW.Trod enc P w base spare held t1 v1 d1 p1 ∧ DataW.Trod enc P w base spare held t2 v2 d2 p2 := by
  match vs, h with
  | [], h => exact h.elim
  | v0 :: vs, ⟨p0, q0, h0, h, _⟩ =>
    match vs, h with
    | [], h => exact h.elim
    | v1 :: vs, ⟨p1, q1, h1, h, _⟩ =>
      match vs, h with
      | [], h => exact h.elim
      | v2 :: vs, ⟨p2, q2, h2, h, _⟩ =>
        match vs, h with
        | [], _ => exact ⟨v0, v1, v2, p0, p1, p2, rfl, h0, h1, h2⟩
        | _ :: _, h => exact h.elim
theorem trodAll_len {H : Type} {enc : TypeId × Value → H} {P : Program} {w : World} {base : Nat} {spare : Nat → Bool} {held : Bool} : ∀ {ts : List TypeId} {vs : List Value} {ds : List (DataW H)} {ps : List MemPlace}, DataW.TrodAll enc P w base spare held ts vs ds ps → ds.length = ts.length
  | [], [], [], _, _ => rfl
  | _ :: _, _ :: _, _ :: _, _, ⟨_, _, _, h, _⟩ => congrArg (· + 1) (trodAll_len h)
  | [], _ :: _, _, _, h => h.elim
  | [], [], _ :: _, _, h => h.elim
  | _ :: _, [], _, _, h => h.elim
  | _ :: _, _ :: _, [], _, h => h.elim
end Go.Proofs.YtcagfmbboliohaaDoor
