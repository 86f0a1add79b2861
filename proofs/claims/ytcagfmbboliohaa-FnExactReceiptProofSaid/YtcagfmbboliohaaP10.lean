/- Texts of this proof put together: Rb, Re. -/
import Derived.Test.YtcagfmbboliohaaP01
import Derived.Test.YtcagfmbboliohaaP02
import Derived.Test.YtcagfmbboliohaaP03
import Derived.Test.YtcagfmbboliohaaP04
import Derived.Test.YtcagfmbboliohaaP05
import Derived.Test.YtcagfmbboliohaaP06
import Derived.Test.YtcagfmbboliohaaP07
import Derived.Test.YtcagfmbboliohaaP08
import Derived.Test.YtcagfmbboliohaaP09
/-! YtcagfmbboliohaaRb -/
set_option linter.all false
namespace Go.Proofs.Ytcagfmbboliohaa
open Go.RowKit

theorem tm2 (i : Nat) : (i : Int).tmod 2 = ((i % 2 : Nat) : Int) := by rw [Int.tmod_eq_emod_of_nonneg (by omega)]; omega
theorem td2 (i : Nat) : (i : Int).tdiv 2 = ((i / 2 : Nat) : Int) := by rw [Int.tdiv_eq_ediv_of_nonneg (by omega)]; omega
theorem sib_eq (i : Nat) : (i : Int) + 1 - (i : Int).tmod 2 * 2 = ((sib i : Nat) : Int) := by
  rw [tm2]; unfold sib; split <;> omega
theorem sib_toNat (i : Nat) : ((i : Int) + 1 - (i : Int).tmod 2 * 2).toNat = sib i := by rw [sib_eq]; omega
theorem take_up {l : List Int} {k : Nat} (h : k < (upL l).length) : (upL l).take (k + 1) = (upL l).take k ++ [(upL l).getD k default] := by
  rw [List.take_succ, List.getElem?_eq_getElem h, List.getD_eq_getElem?_getD, List.getElem?_eq_getElem h]; rfl
instance (l : List Int) : Decidable (allD l) := by unfold allD; infer_instance
/-- is a proof accepted? -/
def chk (root size i leaf : Int) (pf : List Int) : Bool := decide (((1 ≤ size ∧ size ≤ 16) ∧ (0 ≤ i ∧ i < size)) ∧ isD leaf ∧ allD pf ∧ climb size.toNat i.toNat leaf pf = some (root, []))
theorem chk_iff {root size i leaf : Int} {pf : List Int} : chk root size i leaf pf = true ↔ ((1 ≤ size ∧ size ≤ 16) ∧ (0 ≤ i ∧ i < size)) ∧ isD leaf ∧ allD pf ∧ climb size.toNat i.toNat leaf pf = some (root, []) := by
  unfold chk; rw [decide_eq_true_eq]
theorem chk_no {root size i leaf : Int} {pf : List Int} (h : ¬ (((1 ≤ size ∧ size ≤ 16) ∧ (0 ≤ i ∧ i < size)) ∧ isD leaf ∧ allD pf ∧ climb size.toNat i.toNat leaf pf = some (root, []))) : chk root size i leaf pf = false := decide_eq_false h
theorem tail_sl {p : Int} {r : List Int} : SV.sl 1 ((p :: r).length - (1 : Int).toNat) (fun i => rowF intF (p :: r) ((1 : Int).toNat + i)) = isl r := by
  have : (fun i => rowF intF (p :: r) ((1 : Int).toNat + i)) = rowF intF r := funext fun i => by
    show intF ((p :: r).getD (1 + i) default) = intF (r.getD i default)
    rw [Nat.add_comm 1 i, List.getD_cons_succ]
  rw [this]
  rfl
/-- the proof of a leaf, in any arguments -/
def mpf (l : List Int) (i : Int) : List Int := if lfOk l = true ∧ 0 ≤ i ∧ i < l.length then prf l i.toNat else []
theorem mpf_ok {l : List Int} {i : Nat} (h : lfOk l = true) (hi : i < l.length) : mpf l i = prf l i := if_pos ⟨h, by omega, by omega⟩
theorem mpf_bad {l : List Int} {i : Int} (h : lfOk l = false) : mpf l i = [] := if_neg fun h2 => by rw [h] at h2; cases h2.1
theorem mpf_out {l : List Int} {i : Int} (h : ¬ (0 ≤ i ∧ i < l.length)) : mpf l i = [] := if_neg fun h2 => h h2.2
def mrt (l : List Int) : Int := if lfOk l = true then rootL l else -1
theorem mpf_len {l : List Int} {i : Int} : (mpf l i).length ≤ 16 := by
  unfold mpf
  split
  · rename_i h
    have := prf_len _ l i.toNat rfl
    have := (lfOk_iff.1 h.1).1
    omega
  · exact Nat.zero_le _
theorem l2Leaves_c (l : List Int) (hl : l.length ≤ 10000000) : SRet Try.prog 50 [isl l] (· = .b (lfOk l)) := ⟨fun R => by
  refine SCalls.enter tt_ok Try.func50 (by kernel_rfl) rfl [(900, .cust R)] rfl (argF _) (fun w F v k h => h) (by simp) ?_
  repeat' (first | (with_reducible first | refine HT.seq ?_ | refine HT.block ?_ | refine Br.not ?_) | ((with_reducible first | refine HT.region tt_ok ?_ | refine HT.drawn tt_ok (by kernel_rfl) (by decide +kernel) ?_ | refine HT.drawnL tt_ok (by kernel_rfl) (by decide +kernel) ?_ | refine HT.cond ?_ | refine HT.ret ?_ | refine HT.skip ?_ | refine HT.exit ?_ | refine Br.tt ?_ | refine Br.ff ?_); conv => whnf) | ((with_reducible first | refine Br.dec (fun hc => ?_) (fun hc => ?_) | refine Br.eq (fun hc => ?_) (fun hc => ?_) | refine Br.ne (fun hc => ?_) (fun hc => ?_)) <;> (first | (exfalso; omega) | conv => whnf)) | ((with_reducible first | refine Br.ttE (by decide) ?_ | refine Br.ffE (by decide) ?_ | refine Br.mk (fun hc => ?_) (fun hc => ?_) | refine Chk.mk (by first | omega | with_reducible rfl | (refine ⟨rfl, ?_⟩; omega) | decide | exact ⟨rfl, by omega, by omega, rfl⟩ | exact ⟨by assumption, rfl, by omega, by omega⟩) ?_ | refine Ar.fit (by omega) ?_ | refine Eqv.shr1 ?_ | refine Ar.u64 (by omega) ?_) <;> conv => whnf) | (with_reducible exact trivial) | ((with_reducible refine And.intro ?_ ?_) <;> conv => whnf) | (intro gn; conv => whnf))
  refine HT.loopS [0] (fun k : Nat => [(3, .i k)]) (fun k : Nat => k ≤ l.length ∧ ∀ j, j < k → inB (l.getD j default) 0 990 = true) (fun k : Nat => l.length - k) 0 ⟨Nat.zero_le _, fun j hj => absurd hj (by omega)⟩ ⟨rfl, trivial⟩ ?_
  conv => whnf
  rintro k ⟨hk, hall⟩
  repeat' (first | (with_reducible first | refine HT.seq ?_ | refine HT.block ?_ | refine Br.not ?_) | ((with_reducible first | refine HT.region tt_ok ?_ | refine HT.drawn tt_ok (by kernel_rfl) (by decide +kernel) ?_ | refine HT.drawnL tt_ok (by kernel_rfl) (by decide +kernel) ?_ | refine HT.cond ?_ | refine HT.ret ?_ | refine HT.skip ?_ | refine HT.exit ?_ | refine Br.tt ?_ | refine Br.ff ?_); conv => whnf) | ((with_reducible first | refine Br.dec (fun hc => ?_) (fun hc => ?_) | refine Br.eq (fun hc => ?_) (fun hc => ?_) | refine Br.ne (fun hc => ?_) (fun hc => ?_)) <;> (first | (exfalso; omega) | conv => whnf)) | ((with_reducible first | refine Br.ttE (by decide) ?_ | refine Br.ffE (by decide) ?_ | refine Br.mk (fun hc => ?_) (fun hc => ?_) | refine Chk.mk (by first | omega | with_reducible rfl | (refine ⟨rfl, ?_⟩; omega) | decide | exact ⟨rfl, by omega, by omega, rfl⟩ | exact ⟨by assumption, rfl, by omega, by omega⟩) ?_ | refine Ar.fit (by omega) ?_ | refine Eqv.shr1 ?_ | refine Ar.u64 (by omega) ?_) <;> conv => whnf) | ((first | refine CallN.ret1 (l2Digest_c _) ?_ | refine CallN.ret1 (l6In_c _ _ _) ?_) <;> conv => whnf) | (with_reducible exact trivial) | ((with_reducible refine And.intro ?_ ?_) <;> conv => whnf) | (intro gn; conv => whnf))
  all_goals (try simp only [Int.toNat_natCast] at *)
  · exact ⟨⟨k + 1, ⟨by omega, all_lt_succ hc hall⟩, by omega, (by repeat' (first | exact trivial | refine ⟨rfl, ?_⟩)), ⟨sv_i (by omega), trivial⟩, (HLe.sub (by repeat (first | exact List.Sublist.refl _ | refine List.Sublist.cons_cons _ ?_ | refine List.Sublist.cons _ ?_)))⟩⟩
  · exact Fin.pureS (by repeat (first | exact List.Sublist.refl _ | refine List.Sublist.cons_cons _ ?_ | refine List.Sublist.cons _ ?_)) (sv_b (lf_no (k := k) (by omega) hc).symm)
  · exact Fin.pureS (by repeat (first | exact List.Sublist.refl _ | refine List.Sublist.cons_cons _ ?_ | refine List.Sublist.cons _ ?_)) (sv_b (by rw [← lf_eq (k := k) (by omega) hall]))⟩
theorem l2Up_o (l : List Int) (hl : l.length ≤ 1000) (hd : allD l) : SNew Try.prog 51 [isl l] (MadeL (· = upL l) 3) := ⟨fun R => by
  have hul : (upL l).length = (l.length + 1) / 2 := upL_len
  refine SCalls.enter tt_ok Try.func51 (by kernel_rfl) rfl [(900, .cust R)] rfl (argF _) (fun w F v k h => h) (by simp) ?_
  repeat' (first | (with_reducible first | refine HT.seq ?_ | refine HT.block ?_ | refine Br.not ?_) | ((with_reducible first | refine HT.region tt_ok ?_ | refine HT.drawn tt_ok (by kernel_rfl) (by decide +kernel) ?_ | refine HT.drawnL tt_ok (by kernel_rfl) (by decide +kernel) ?_ | refine HT.cond ?_ | refine HT.ret ?_ | refine HT.skip ?_ | refine HT.exit ?_ | refine Br.tt ?_ | refine Br.ff ?_); conv => whnf) | ((with_reducible first | refine Br.dec (fun hc => ?_) (fun hc => ?_) | refine Br.eq (fun hc => ?_) (fun hc => ?_) | refine Br.ne (fun hc => ?_) (fun hc => ?_)) <;> (first | (exfalso; omega) | conv => whnf)) | ((with_reducible first | refine Br.ttE (by decide) ?_ | refine Br.ffE (by decide) ?_ | refine Br.mk (fun hc => ?_) (fun hc => ?_) | refine Chk.mk (by first | omega | with_reducible rfl | (refine ⟨rfl, ?_⟩; omega) | decide | exact ⟨rfl, by omega, by omega, rfl⟩ | exact ⟨by assumption, rfl, by omega, by omega⟩) ?_ | refine Ar.fit (by omega) ?_ | refine Eqv.shr1 ?_ | refine Ar.u64 (by omega) ?_) <;> conv => whnf) | (with_reducible exact trivial) | ((with_reducible refine And.intro ?_ ?_) <;> conv => whnf) | (intro gn; conv => whnf))
  refine HT.loopC [0, 2] (fun x : Nat × List Int × Option Addr × Nat × Nat => [(3, .own 100 (.slice x.2.2.1 x.2.2.2.1 x.2.2.2.2)), (4, .i ((2 * x.1 : Nat) : Int))]) (fun x : Nat × List Int × Option Addr × Nat × Nat => [(100, .row (.slice x.2.2.1 x.2.2.2.1 x.2.2.2.2) x.2.1.length (rowF intF x.2.1))]) (fun x : Nat × List Int × Option Addr × Nat × Nat => 2 * x.1 ≤ l.length + 1 ∧ x.2.1 = (upL l).take x.1 ∧ x.2.2.2.1 = x.2.1.length) (fun x : Nat × List Int × Option Addr × Nat × Nat => l.length + 1 - 2 * x.1) (0, [], some ⟨gn, 0, none⟩, 0, 0) ⟨by omega, rfl, rfl⟩ ⟨(by first | with_reducible exact CellLe.refl _ | exact CellLe.own | exact CellLe.i (by omega) | exact CellLe.nil | exact CellLe.slNil | exact CellLe.refl _), (by first | with_reducible exact CellLe.refl _ | exact CellLe.own | exact CellLe.i (by omega) | exact CellLe.nil | exact CellLe.slNil | exact CellLe.refl _), trivial⟩ ?_ ?_
  · conv => whnf
    refine PP.start ?_; repeat (first | exact PP.nil | refine PP.take (by first | with_reducible exact Hp.Sub.refl _ | exact Hp.Sub.rd (by omega) | exact Hp.Sub.boxA (by (repeat (first | exact all_lt_zero | refine all_lt_succ (p := fun j => CellLe _ _) (by first | with_reducible exact CellLe.refl _ | exact CellLe.own | exact CellLe.i (by omega) | exact CellLe.nil | exact CellLe.slNil | exact CellLe.refl _) ?_))) | exact Hp.Sub.refl _) ?_ | refine PP.skip ?_)
  conv => whnf
  rintro ⟨k, acc, A, n, cp⟩ ⟨hk, hacc, hn⟩
  dsimp only at hk hacc hn ⊢
  subst hn
  have hal : acc.length ≤ 1000 := by rw [hacc, List.length_take]; omega
  have e1 : (((2 * k : Nat) : Int)).toNat = 2 * k := by omega
  have e2 : (((2 * k : Nat) : Int) + 1).toNat = 2 * k + 1 := by omega
  have h1 : 2 * k + 1 < l.length → SRet Try.prog 49 [.i (l.getD (((2 * k : Nat) : Int)).toNat default), .i (l.getD (((2 * k : Nat) : Int) + 1).toNat default)] (· = .i ((upL l).getD k default)) := fun h => by rw [e1, e2, upL_two h]; exact l2Pair_c _ _ (hd.getD (by omega)) (hd.getD (by omega))
  have h2 : 2 * k + 1 = l.length → l.getD (((2 * k : Nat) : Int)).toNat default = (upL l).getD k default := fun h => by rw [e1, upL_one h]
  conv => whnf
  repeat' (first | (with_reducible first | refine HT.seq ?_ | refine HT.block ?_ | refine Br.not ?_) | ((with_reducible first | refine HT.region tt_ok ?_ | refine HT.drawn tt_ok (by kernel_rfl) (by decide +kernel) ?_ | refine HT.drawnL tt_ok (by kernel_rfl) (by decide +kernel) ?_ | refine HT.cond ?_ | refine HT.ret ?_ | refine HT.skip ?_ | refine HT.exit ?_ | refine Br.tt ?_ | refine Br.ff ?_); conv => whnf) | ((with_reducible first | refine Br.dec (fun hc => ?_) (fun hc => ?_) | refine Br.eq (fun hc => ?_) (fun hc => ?_) | refine Br.ne (fun hc => ?_) (fun hc => ?_)) <;> (first | (exfalso; omega) | conv => whnf)) | ((with_reducible first | refine Br.ttE (by decide) ?_ | refine Br.ffE (by decide) ?_ | refine Br.mk (fun hc => ?_) (fun hc => ?_) | refine Chk.mk (by first | omega | with_reducible rfl | (refine ⟨rfl, ?_⟩; omega) | decide | exact ⟨rfl, by omega, by omega, rfl⟩ | exact ⟨by assumption, rfl, by omega, by omega⟩) ?_ | refine Ar.fit (by omega) ?_ | refine Eqv.shr1 ?_ | refine Ar.u64 (by omega) ?_) <;> conv => whnf) | ((first | (refine CallN.ret1 (h1 (by omega)) ?_)) <;> conv => whnf) | (with_reducible exact trivial) | ((with_reducible refine And.intro ?_ ?_) <;> conv => whnf) | (intro gn; conv => whnf))
  all_goals first
    | (have hkl : 2 * k + 1 < l.length := (by omega)
       rename_i A2
       exact ⟨⟨(k + 1, acc ++ [_], A2, acc.length + 1, gn), ⟨by dsimp only; omega, by dsimp only; rw [take_up (by omega), ← hacc], by dsimp only; rw [List.length_append]; rfl⟩, by dsimp only; omega, (by repeat' (first | exact trivial | refine ⟨rfl, ?_⟩)), ⟨(by first | with_reducible exact CellLe.refl _ | exact CellLe.own | exact CellLe.i (by omega) | exact CellLe.nil | exact CellLe.slNil | exact CellLe.refl _), (by first | with_reducible exact CellLe.refl _ | exact CellLe.own | exact CellLe.i (by omega) | exact CellLe.nil | exact CellLe.slNil | exact CellLe.refl _), trivial⟩, HLe.pk (by (conv => whnf); (refine PP.start ?_; repeat (first | exact PP.nil | refine PP.take (by first | with_reducible exact Hp.Sub.refl _ | exact Hp.Sub.rd (by omega) | exact Hp.Sub.rowA (by simp) (fun i j hi hj => cat_ints hi hj) | exact Hp.Sub.boxA (by (repeat (first | exact all_lt_zero | refine all_lt_succ (p := fun j => CellLe _ _) (by first | with_reducible exact CellLe.refl _ | exact CellLe.own | exact CellLe.i (by omega) | exact CellLe.nil | exact CellLe.slNil | exact CellLe.refl _) ?_))) | exact Hp.Sub.refl _) ?_ | refine PP.skip ?_)))⟩⟩)
    | (have hkl : 2 * k + 1 = l.length := (by omega)
       rename_i A2
       exact ⟨⟨(k + 1, acc ++ [_], A2, acc.length + 1, gn), ⟨by dsimp only; omega, by dsimp only; rw [take_up (by omega), ← hacc, ← h2 hkl], by dsimp only; rw [List.length_append]; rfl⟩, by dsimp only; omega, (by repeat' (first | exact trivial | refine ⟨rfl, ?_⟩)), ⟨(by first | with_reducible exact CellLe.refl _ | exact CellLe.own | exact CellLe.i (by omega) | exact CellLe.nil | exact CellLe.slNil | exact CellLe.refl _), (by first | with_reducible exact CellLe.refl _ | exact CellLe.own | exact CellLe.i (by omega) | exact CellLe.nil | exact CellLe.slNil | exact CellLe.refl _), trivial⟩, HLe.pk (by (conv => whnf); (refine PP.start ?_; repeat (first | exact PP.nil | refine PP.take (by first | with_reducible exact Hp.Sub.refl _ | exact Hp.Sub.rd (by omega) | exact Hp.Sub.rowA (by simp) (fun i j hi hj => cat_ints hi hj) | exact Hp.Sub.boxA (by (repeat (first | exact all_lt_zero | refine all_lt_succ (p := fun j => CellLe _ _) (by first | with_reducible exact CellLe.refl _ | exact CellLe.own | exact CellLe.i (by omega) | exact CellLe.nil | exact CellLe.slNil | exact CellLe.refl _) ?_))) | exact Hp.Sub.refl _) ?_ | refine PP.skip ?_)))⟩⟩)
    | exact Fin.news [_] (fun _ => 0) (by refine PP.start ?_; repeat (first | exact PP.nil | refine PP.take (by first | with_reducible exact Hp.Sub.refl _ | exact Hp.Sub.rd (by omega) | exact Hp.Sub.rowA (by first | rfl | simp) (fun i j hi hj => rfl) | exact Hp.Sub.boxA (by (repeat (first | exact all_lt_zero | refine all_lt_succ (p := fun j => CellLe _ _) (by first | with_reducible exact CellLe.refl _ | exact CellLe.own | exact CellLe.i (by omega) | exact CellLe.nil | exact CellLe.slNil | exact CellLe.refl _) ?_))) | exact Hp.Sub.refl _) ?_ | refine PP.skip ?_)) ⟨acc, _, _, _, by rw [hacc, List.take_of_length_le (by omega)], rfl, rfl, rfl⟩
    | trace_state⟩
theorem l2Up_c (l : List Int) (hl : l.length ≤ 1000) (hd : allD l) : SRet Try.prog 51 [isl l] (· = isl (upL l)) := (l2Up_o l hl hd).stillL.imp fun r ⟨l2, h, e⟩ => by rw [e, h]
theorem specMR_c (l : List Int) (hl : l.length ≤ 10000000) : SRet Try.prog 43 [isl l] (· = .i (mrt l)) := ⟨fun R => by
  have hO := l2Leaves_c l hl
  cases hok : lfOk l
  refine SCalls.enter tt_ok Try.func43 (by kernel_rfl) rfl [(900, .cust R)] rfl (argF _) (fun w F v k h => h) (by simp) ?_
  · repeat' (first | (with_reducible first | refine HT.seq ?_ | refine HT.block ?_ | refine Br.not ?_) | ((with_reducible first | refine HT.region tt_ok ?_ | refine HT.drawn tt_ok (by kernel_rfl) (by decide +kernel) ?_ | refine HT.drawnL tt_ok (by kernel_rfl) (by decide +kernel) ?_ | refine HT.cond ?_ | refine HT.ret ?_ | refine HT.skip ?_ | refine HT.exit ?_ | refine Br.tt ?_ | refine Br.ff ?_); conv => whnf) | ((with_reducible first | refine Br.dec (fun hc => ?_) (fun hc => ?_) | refine Br.eq (fun hc => ?_) (fun hc => ?_) | refine Br.ne (fun hc => ?_) (fun hc => ?_)) <;> (first | (exfalso; omega) | conv => whnf)) | ((with_reducible first | refine Br.ttE (by decide) ?_ | refine Br.ffE (by decide) ?_ | refine Br.mk (fun hc => ?_) (fun hc => ?_) | refine Chk.mk (by first | omega | with_reducible rfl | (refine ⟨rfl, ?_⟩; omega) | decide | exact ⟨rfl, by omega, by omega, rfl⟩ | exact ⟨by assumption, rfl, by omega, by omega⟩) ?_ | refine Ar.fit (by omega) ?_ | refine Eqv.shr1 ?_ | refine Ar.u64 (by omega) ?_) <;> conv => whnf) | ((first | refine CallN.ret1 (hO.bf hok) ?_) <;> conv => whnf) | (with_reducible exact trivial) | ((with_reducible refine And.intro ?_ ?_) <;> conv => whnf) | (intro gn; conv => whnf))
    all_goals exact Fin.pureS (by repeat (first | exact List.Sublist.refl _ | refine List.Sublist.cons_cons _ ?_ | refine List.Sublist.cons _ ?_)) (sv_i (by unfold mrt; rw [hok]; rfl))
  obtain ⟨h16, hd⟩ := lfOk_iff.1 hok
  have hM : mrt l = rootL l := if_pos hok
  refine SCalls.enter tt_ok Try.func43 (by kernel_rfl) rfl [(900, .cust R)] rfl (argF _) (fun w F v k h => h) (by simp) ?_
  repeat' (first | (with_reducible first | refine HT.seq ?_ | refine HT.block ?_ | refine Br.not ?_) | ((with_reducible first | refine HT.region tt_ok ?_ | refine HT.drawn tt_ok (by kernel_rfl) (by decide +kernel) ?_ | refine HT.drawnL tt_ok (by kernel_rfl) (by decide +kernel) ?_ | refine HT.cond ?_ | refine HT.ret ?_ | refine HT.skip ?_ | refine HT.exit ?_ | refine Br.tt ?_ | refine Br.ff ?_); conv => whnf) | ((with_reducible first | refine Br.dec (fun hc => ?_) (fun hc => ?_) | refine Br.eq (fun hc => ?_) (fun hc => ?_) | refine Br.ne (fun hc => ?_) (fun hc => ?_)) <;> (first | (exfalso; omega) | conv => whnf)) | ((with_reducible first | refine Br.ttE (by decide) ?_ | refine Br.ffE (by decide) ?_ | refine Br.mk (fun hc => ?_) (fun hc => ?_) | refine Chk.mk (by first | omega | with_reducible rfl | (refine ⟨rfl, ?_⟩; omega) | decide | exact ⟨rfl, by omega, by omega, rfl⟩ | exact ⟨by assumption, rfl, by omega, by omega⟩) ?_ | refine Ar.fit (by omega) ?_ | refine Eqv.shr1 ?_ | refine Ar.u64 (by omega) ?_) <;> conv => whnf) | ((first | refine CallN.ret1 (hO.bt hok) ?_) <;> conv => whnf) | (with_reducible exact trivial) | ((with_reducible refine And.intro ?_ ?_) <;> conv => whnf) | (intro gn; conv => whnf))
  refine HT.loopS [0, 2, 6] (fun lv : List Int => [(3, isl lv)]) (fun lv : List Int => (allD lv ∧ 0 < lv.length ∧ lv.length ≤ 16) ∧ rootL lv = rootL l) (fun lv : List Int => lv.length) l ⟨⟨hd, by omega, by omega⟩, rfl⟩ ⟨rfl, trivial⟩ ?_
  conv => whnf
  rintro lv ⟨⟨hd2, h0, h1⟩, hr⟩
  have hul : (upL lv).length = (lv.length + 1) / 2 := upL_len
  repeat' (first | (with_reducible first | refine HT.seq ?_ | refine HT.block ?_ | refine Br.not ?_) | ((with_reducible first | refine HT.region tt_ok ?_ | refine HT.drawn tt_ok (by kernel_rfl) (by decide +kernel) ?_ | refine HT.drawnL tt_ok (by kernel_rfl) (by decide +kernel) ?_ | refine HT.cond ?_ | refine HT.ret ?_ | refine HT.skip ?_ | refine HT.exit ?_ | refine Br.tt ?_ | refine Br.ff ?_); conv => whnf) | ((with_reducible first | refine Br.dec (fun hc => ?_) (fun hc => ?_) | refine Br.eq (fun hc => ?_) (fun hc => ?_) | refine Br.ne (fun hc => ?_) (fun hc => ?_)) <;> (first | (exfalso; omega) | conv => whnf)) | ((with_reducible first | refine Br.ttE (by decide) ?_ | refine Br.ffE (by decide) ?_ | refine Br.mk (fun hc => ?_) (fun hc => ?_) | refine Chk.mk (by first | omega | with_reducible rfl | (refine ⟨rfl, ?_⟩; omega) | decide | exact ⟨rfl, by omega, by omega, rfl⟩ | exact ⟨by assumption, rfl, by omega, by omega⟩) ?_ | refine Ar.fit (by omega) ?_ | refine Eqv.shr1 ?_ | refine Ar.u64 (by omega) ?_) <;> conv => whnf) | ((first | refine CallN.ret1 (l2Up_c lv (by omega) hd2) ?_) <;> conv => whnf) | (with_reducible exact trivial) | ((with_reducible refine And.intro ?_ ?_) <;> conv => whnf) | (intro gn; conv => whnf))
  all_goals first
    | exact ⟨⟨upL lv, ⟨⟨hd2.up, by omega, by omega⟩, by rw [← hr, rootL_up (l := lv) (by omega)]⟩, by omega, (by repeat' (first | exact trivial | refine ⟨rfl, ?_⟩)), ⟨rfl, trivial⟩, (HLe.sub (by repeat (first | exact List.Sublist.refl _ | refine List.Sublist.cons_cons _ ?_ | refine List.Sublist.cons _ ?_)))⟩⟩
    | exact Fin.pureS (by repeat (first | exact List.Sublist.refl _ | refine List.Sublist.cons_cons _ ?_ | refine List.Sublist.cons _ ?_)) (sv_i (by rw [hM, ← hr, rootL_one (l := lv) (by omega)]; rfl))
    | trace_state⟩
set_option maxHeartbeats 1000000 in
theorem specMP_o (l : List Int) (i : Int) (hl : l.length ≤ 10000000) : SNew Try.prog 34 [isl l, .i i] (MadeL (· = mpf l i) 3) := ⟨fun R => by
  have hO := l2Leaves_c l hl
  have hI := l6In_c i 0 ((l.length : Int) - 1)
  cases hok : lfOk l
  refine SCalls.enter tt_ok Try.func34 (by kernel_rfl) rfl [(900, .cust R)] rfl (argF _) (fun w F v k h => h) (by simp) ?_
  · repeat' (first | (with_reducible first | refine HT.seq ?_ | refine HT.block ?_ | refine Br.not ?_) | ((with_reducible first | refine HT.region tt_ok ?_ | refine HT.drawn tt_ok (by kernel_rfl) (by decide +kernel) ?_ | refine HT.drawnL tt_ok (by kernel_rfl) (by decide +kernel) ?_ | refine HT.cond ?_ | refine HT.ret ?_ | refine HT.skip ?_ | refine HT.exit ?_ | refine Br.tt ?_ | refine Br.ff ?_); conv => whnf) | ((with_reducible first | refine Br.dec (fun hc => ?_) (fun hc => ?_) | refine Br.eq (fun hc => ?_) (fun hc => ?_) | refine Br.ne (fun hc => ?_) (fun hc => ?_)) <;> (first | (exfalso; omega) | conv => whnf)) | ((with_reducible first | refine Br.ttE (by decide) ?_ | refine Br.ffE (by decide) ?_ | refine Br.mk (fun hc => ?_) (fun hc => ?_) | refine Chk.mk (by first | omega | with_reducible rfl | (refine ⟨rfl, ?_⟩; omega) | decide | exact ⟨rfl, by omega, by omega, rfl⟩ | exact ⟨by assumption, rfl, by omega, by omega⟩) ?_ | refine Ar.fit (by omega) ?_ | refine Eqv.shr1 ?_ | refine Ar.u64 (by omega) ?_) <;> conv => whnf) | ((first | refine CallN.ret1 (hO.bf hok) ?_) <;> conv => whnf) | (with_reducible exact trivial) | ((with_reducible refine And.intro ?_ ?_) <;> conv => whnf) | (intro gn; conv => whnf))
    all_goals exact Fin.news [_] (fun _ => 0) (by refine PP.start ?_; repeat (first | exact PP.nil | refine PP.take (by first | with_reducible exact Hp.Sub.refl _ | exact Hp.Sub.rd (by omega) | exact Hp.Sub.rowA rfl (fun i j hi hj => absurd hi (by omega)) | exact Hp.Sub.boxA (by (repeat (first | exact all_lt_zero | refine all_lt_succ (p := fun j => CellLe _ _) (by first | with_reducible exact CellLe.refl _ | exact CellLe.own | exact CellLe.i (by omega) | exact CellLe.nil | exact CellLe.slNil | exact CellLe.refl _) ?_))) | exact Hp.Sub.refl _) ?_ | refine PP.skip ?_)) ⟨[], _, _, _, (mpf_bad hok).symm, rfl, rfl, rfl⟩
  by_cases hi : 0 ≤ i ∧ i < l.length
  rotate_left
  refine SCalls.enter tt_ok Try.func34 (by kernel_rfl) rfl [(900, .cust R)] rfl (argF _) (fun w F v k h => h) (by simp) ?_
  · repeat' (first | (with_reducible first | refine HT.seq ?_ | refine HT.block ?_ | refine Br.not ?_) | ((with_reducible first | refine HT.region tt_ok ?_ | refine HT.drawn tt_ok (by kernel_rfl) (by decide +kernel) ?_ | refine HT.drawnL tt_ok (by kernel_rfl) (by decide +kernel) ?_ | refine HT.cond ?_ | refine HT.ret ?_ | refine HT.skip ?_ | refine HT.exit ?_ | refine Br.tt ?_ | refine Br.ff ?_); conv => whnf) | ((with_reducible first | refine Br.dec (fun hc => ?_) (fun hc => ?_) | refine Br.eq (fun hc => ?_) (fun hc => ?_) | refine Br.ne (fun hc => ?_) (fun hc => ?_)) <;> (first | (exfalso; omega) | conv => whnf)) | ((with_reducible first | refine Br.ttE (by decide) ?_ | refine Br.ffE (by decide) ?_ | refine Br.mk (fun hc => ?_) (fun hc => ?_) | refine Chk.mk (by first | omega | with_reducible rfl | (refine ⟨rfl, ?_⟩; omega) | decide | exact ⟨rfl, by omega, by omega, rfl⟩ | exact ⟨by assumption, rfl, by omega, by omega⟩) ?_ | refine Ar.fit (by omega) ?_ | refine Eqv.shr1 ?_ | refine Ar.u64 (by omega) ?_) <;> conv => whnf) | ((first | refine CallN.ret1 (hO.bt hok) ?_ | refine CallN.ret1 (hI.bf (inB_false.2 (by omega))) ?_) <;> conv => whnf) | (with_reducible exact trivial) | ((with_reducible refine And.intro ?_ ?_) <;> conv => whnf) | (intro gn; conv => whnf))
    all_goals exact Fin.news [_] (fun _ => 0) (by refine PP.start ?_; repeat (first | exact PP.nil | refine PP.take (by first | with_reducible exact Hp.Sub.refl _ | exact Hp.Sub.rd (by omega) | exact Hp.Sub.rowA rfl (fun i j hi hj => absurd hi (by omega)) | exact Hp.Sub.boxA (by (repeat (first | exact all_lt_zero | refine all_lt_succ (p := fun j => CellLe _ _) (by first | with_reducible exact CellLe.refl _ | exact CellLe.own | exact CellLe.i (by omega) | exact CellLe.nil | exact CellLe.slNil | exact CellLe.refl _) ?_))) | exact Hp.Sub.refl _) ?_ | refine PP.skip ?_)) ⟨[], _, _, _, (mpf_out hi).symm, rfl, rfl, rfl⟩
  obtain ⟨i0, rfl⟩ : ∃ i0 : Nat, i = i0 := ⟨i.toNat, by omega⟩
  obtain ⟨h16, hd⟩ := lfOk_iff.1 hok
  have hM := mpf_ok hok (i := i0) (by omega)
  have hpl := prf_len _ l i0 rfl
  refine SCalls.enter tt_ok Try.func34 (by kernel_rfl) rfl [(900, .cust R)] rfl (argF _) (fun w F v k h => h) (by simp) ?_
  repeat' (first | (with_reducible first | refine HT.seq ?_ | refine HT.block ?_ | refine Br.not ?_) | ((with_reducible first | refine HT.region tt_ok ?_ | refine HT.drawn tt_ok (by kernel_rfl) (by decide +kernel) ?_ | refine HT.drawnL tt_ok (by kernel_rfl) (by decide +kernel) ?_ | refine HT.cond ?_ | refine HT.ret ?_ | refine HT.skip ?_ | refine HT.exit ?_ | refine Br.tt ?_ | refine Br.ff ?_); conv => whnf) | ((with_reducible first | refine Br.dec (fun hc => ?_) (fun hc => ?_) | refine Br.eq (fun hc => ?_) (fun hc => ?_) | refine Br.ne (fun hc => ?_) (fun hc => ?_)) <;> (first | (exfalso; omega) | conv => whnf)) | ((with_reducible first | refine Br.ttE (by decide) ?_ | refine Br.ffE (by decide) ?_ | refine Br.mk (fun hc => ?_) (fun hc => ?_) | refine Chk.mk (by first | omega | with_reducible rfl | (refine ⟨rfl, ?_⟩; omega) | decide | exact ⟨rfl, by omega, by omega, rfl⟩ | exact ⟨by assumption, rfl, by omega, by omega⟩) ?_ | refine Ar.fit (by omega) ?_ | refine Eqv.shr1 ?_ | refine Ar.u64 (by omega) ?_) <;> conv => whnf) | ((first | refine CallN.ret1 (hO.bt hok) ?_ | refine CallN.ret1 (hI.bt (inB_true.2 (by omega))) ?_) <;> conv => whnf) | (with_reducible exact trivial) | ((with_reducible refine And.intro ?_ ?_) <;> conv => whnf) | (intro gn; conv => whnf))
  refine HT.loopC [0, 4, 19] (fun x : List Int × Nat × List Int × Option Addr × Nat × Nat => [(5, .own 100 (.slice x.2.2.2.1 x.2.2.2.2.1 x.2.2.2.2.2)), (6, isl x.1), (1, .i x.2.1)]) (fun x : List Int × Nat × List Int × Option Addr × Nat × Nat => [(100, .row (.slice x.2.2.2.1 x.2.2.2.2.1 x.2.2.2.2.2) x.2.2.1.length (rowF intF x.2.2.1))]) (fun x : List Int × Nat × List Int × Option Addr × Nat × Nat => (allD x.1 ∧ 0 < x.1.length ∧ x.1.length ≤ 16) ∧ x.2.1 < x.1.length ∧ x.2.2.1 ++ prf x.1 x.2.1 = prf l i0 ∧ x.2.2.2.2.1 = x.2.2.1.length) (fun x : List Int × Nat × List Int × Option Addr × Nat × Nat => x.1.length) (l, i0, [], some ⟨gn, 0, none⟩, 0, 0) ⟨⟨hd, by dsimp only; omega, by dsimp only; omega⟩, by dsimp only; omega, rfl, rfl⟩ ⟨(by first | with_reducible exact CellLe.refl _ | exact CellLe.own | exact CellLe.i (by omega) | exact CellLe.nil | exact CellLe.slNil | exact CellLe.refl _), (by first | with_reducible exact CellLe.refl _ | exact CellLe.own | exact CellLe.i (by omega) | exact CellLe.nil | exact CellLe.slNil | exact CellLe.refl _), (by first | with_reducible exact CellLe.refl _ | exact CellLe.own | exact CellLe.i (by omega) | exact CellLe.nil | exact CellLe.slNil | exact CellLe.refl _), trivial⟩ ?_ ?_
  · conv => whnf
    refine PP.start ?_; repeat (first | exact PP.nil | refine PP.take (by first | with_reducible exact Hp.Sub.refl _ | exact Hp.Sub.rd (by omega) | exact Hp.Sub.boxA (by (repeat (first | exact all_lt_zero | refine all_lt_succ (p := fun j => CellLe _ _) (by first | with_reducible exact CellLe.refl _ | exact CellLe.own | exact CellLe.i (by omega) | exact CellLe.nil | exact CellLe.slNil | exact CellLe.refl _) ?_))) | exact Hp.Sub.refl _) ?_ | refine PP.skip ?_)
  conv => whnf
  rintro ⟨lv, q, acc, A, n, cp⟩ ⟨⟨hd2, h0, h1⟩, hq, hp, hn⟩
  dsimp only at hd2 h0 h1 hq hp hn ⊢
  subst hn
  have hul : (upL lv).length = (lv.length + 1) / 2 := upL_len
  have hal : acc.length ≤ 16 := by have := congrArg List.length hp; rw [List.length_append] at this; omega
  have ht := tm2 q
  have htd := td2 q
  have hsb := sib_eq q
  have hst := sib_toNat q
  conv => whnf
  repeat' (first | (with_reducible first | refine HT.seq ?_ | refine HT.block ?_ | refine Br.not ?_) | ((with_reducible first | refine HT.region tt_ok ?_ | refine HT.drawn tt_ok (by kernel_rfl) (by decide +kernel) ?_ | refine HT.drawnL tt_ok (by kernel_rfl) (by decide +kernel) ?_ | refine HT.cond ?_ | refine HT.ret ?_ | refine HT.skip ?_ | refine HT.exit ?_ | refine Br.tt ?_ | refine Br.ff ?_); conv => whnf) | ((with_reducible first | refine Br.dec (fun hc => ?_) (fun hc => ?_) | refine Br.eq (fun hc => ?_) (fun hc => ?_) | refine Br.ne (fun hc => ?_) (fun hc => ?_)) <;> (first | (exfalso; omega) | conv => whnf)) | ((with_reducible first | refine Br.ttE (by decide) ?_ | refine Br.ffE (by decide) ?_ | refine Br.mk (fun hc => ?_) (fun hc => ?_) | refine Chk.mk (by first | omega | with_reducible rfl | (refine ⟨rfl, ?_⟩; omega) | decide | exact ⟨rfl, by omega, by omega, rfl⟩ | exact ⟨by assumption, rfl, by omega, by omega⟩) ?_ | refine Ar.fit (by omega) ?_ | refine Eqv.shr1 ?_ | refine Ar.u64 (by omega) ?_) <;> conv => whnf) | ((first | refine CallN.ret1 (l2Up_c lv (by omega) hd2) ?_) <;> conv => whnf) | (with_reducible exact trivial) | ((with_reducible refine And.intro ?_ ?_) <;> conv => whnf) | (intro gn; conv => whnf))
  all_goals first
    | (rename_i A2
       exact ⟨⟨(upL lv, q / 2, acc ++ [lv.getD ((q : Int) + 1 - (q : Int).tmod 2 * 2).toNat default], A2, acc.length + 1, gn), ⟨⟨hd2.up, by dsimp only; omega, by dsimp only; omega⟩, by dsimp only; omega, by dsimp only; rw [hst, ← hp, prf_in (l := lv) (i := q) (by omega) (by omega)]; simp, by dsimp only; rw [List.length_append]; rfl⟩, by dsimp only; omega, (by repeat' (first | exact trivial | refine ⟨rfl, ?_⟩)), ⟨(by first | with_reducible exact CellLe.refl _ | exact CellLe.own | exact CellLe.i (by omega) | exact CellLe.nil | exact CellLe.slNil | exact CellLe.refl _), (by first | with_reducible exact CellLe.refl _ | exact CellLe.own | exact CellLe.i (by omega) | exact CellLe.nil | exact CellLe.slNil | exact CellLe.refl _), (by first | with_reducible exact CellLe.refl _ | exact CellLe.own | exact CellLe.i (by omega) | exact CellLe.nil | exact CellLe.slNil | exact CellLe.refl _), trivial⟩, HLe.pk (by (conv => whnf); (refine PP.start ?_; repeat (first | exact PP.nil | refine PP.take (by first | with_reducible exact Hp.Sub.refl _ | exact Hp.Sub.rd (by omega) | exact Hp.Sub.rowA (by simp) (fun i j hi hj => cat_ints hi hj) | exact Hp.Sub.boxA (by (repeat (first | exact all_lt_zero | refine all_lt_succ (p := fun j => CellLe _ _) (by first | with_reducible exact CellLe.refl _ | exact CellLe.own | exact CellLe.i (by omega) | exact CellLe.nil | exact CellLe.slNil | exact CellLe.refl _) ?_))) | exact Hp.Sub.refl _) ?_ | refine PP.skip ?_)))⟩⟩)
    | exact ⟨⟨(upL lv, q / 2, acc, A, acc.length, cp), ⟨⟨hd2.up, by dsimp only; omega, by dsimp only; omega⟩, by dsimp only; omega, by dsimp only; rw [← hp, prf_out (l := lv) (i := q) (by omega) (by omega)], rfl⟩, by dsimp only; omega, (by repeat' (first | exact trivial | refine ⟨rfl, ?_⟩)), ⟨(by first | with_reducible exact CellLe.refl _ | exact CellLe.own | exact CellLe.i (by omega) | exact CellLe.nil | exact CellLe.slNil | exact CellLe.refl _), (by first | with_reducible exact CellLe.refl _ | exact CellLe.own | exact CellLe.i (by omega) | exact CellLe.nil | exact CellLe.slNil | exact CellLe.refl _), (by first | with_reducible exact CellLe.refl _ | exact CellLe.own | exact CellLe.i (by omega) | exact CellLe.nil | exact CellLe.slNil | exact CellLe.refl _), trivial⟩, HLe.pk (by (conv => whnf); (refine PP.start ?_; repeat (first | exact PP.nil | refine PP.take (by first | with_reducible exact Hp.Sub.refl _ | exact Hp.Sub.rd (by omega) | exact Hp.Sub.boxA (by (repeat (first | exact all_lt_zero | refine all_lt_succ (p := fun j => CellLe _ _) (by first | with_reducible exact CellLe.refl _ | exact CellLe.own | exact CellLe.i (by omega) | exact CellLe.nil | exact CellLe.slNil | exact CellLe.refl _) ?_))) | exact Hp.Sub.refl _) ?_ | refine PP.skip ?_)))⟩⟩
    | exact Fin.news [_] (fun _ => 0) (by refine PP.start ?_; repeat (first | exact PP.nil | refine PP.take (by first | with_reducible exact Hp.Sub.refl _ | exact Hp.Sub.rd (by omega) | exact Hp.Sub.rowA (by first | rfl | simp) (fun i j hi hj => rfl) | exact Hp.Sub.boxA (by (repeat (first | exact all_lt_zero | refine all_lt_succ (p := fun j => CellLe _ _) (by first | with_reducible exact CellLe.refl _ | exact CellLe.own | exact CellLe.i (by omega) | exact CellLe.nil | exact CellLe.slNil | exact CellLe.refl _) ?_))) | exact Hp.Sub.refl _) ?_ | refine PP.skip ?_)) ⟨acc, _, _, _, by rw [hM, ← hp, prf_one (l := lv) (by omega), List.append_nil], rfl, rfl, rfl⟩
    | trace_state⟩
set_option maxHeartbeats 1000000 in
theorem specMC_c (root size i leaf : Int) (pf : List Int) (hl : pf.length ≤ 10000000) : SRet Try.prog 31 [.i root, .i size, .i i, .i leaf, isl pf] (· = .b (chk root size i leaf pf)) := ⟨fun R => by
  have hS := l6In_c size 1 16
  have hI := l6In_c i 0 (size - 1)
  have hD := l2Digest_c leaf
  by_cases hs : 1 ≤ size ∧ size ≤ 16
  rotate_left
  refine SCalls.enter tt_ok Try.func31 (by kernel_rfl) rfl [(900, .cust R)] rfl (argF _) (fun w F v k h => h) (by simp) ?_
  · repeat' (first | (with_reducible first | refine HT.seq ?_ | refine HT.block ?_ | refine Br.not ?_) | ((with_reducible first | refine HT.region tt_ok ?_ | refine HT.drawn tt_ok (by kernel_rfl) (by decide +kernel) ?_ | refine HT.drawnL tt_ok (by kernel_rfl) (by decide +kernel) ?_ | refine HT.cond ?_ | refine HT.ret ?_ | refine HT.skip ?_ | refine HT.exit ?_ | refine Br.tt ?_ | refine Br.ff ?_); conv => whnf) | ((with_reducible first | refine Br.dec (fun hc => ?_) (fun hc => ?_) | refine Br.eq (fun hc => ?_) (fun hc => ?_) | refine Br.ne (fun hc => ?_) (fun hc => ?_)) <;> (first | (exfalso; omega) | conv => whnf)) | ((with_reducible first | refine Br.ttE (by decide) ?_ | refine Br.ffE (by decide) ?_ | refine Br.mk (fun hc => ?_) (fun hc => ?_) | refine Chk.mk (by first | omega | with_reducible rfl | (refine ⟨rfl, ?_⟩; omega) | decide | exact ⟨rfl, by omega, by omega, rfl⟩ | exact ⟨by assumption, rfl, by omega, by omega⟩) ?_ | refine Ar.fit (by omega) ?_ | refine Eqv.shr1 ?_ | refine Ar.u64 (by omega) ?_) <;> conv => whnf) | ((first | refine CallN.ret1 (hS.bf (inB_false.2 (by omega))) ?_) <;> conv => whnf) | (with_reducible exact trivial) | ((with_reducible refine And.intro ?_ ?_) <;> conv => whnf) | (intro gn; conv => whnf))
    all_goals exact Fin.pureS (by repeat (first | exact List.Sublist.refl _ | refine List.Sublist.cons_cons _ ?_ | refine List.Sublist.cons _ ?_)) (sv_b (chk_no (fun h => hs h.1.1)).symm)
  by_cases hi : 0 ≤ i ∧ i < size
  rotate_left
  refine SCalls.enter tt_ok Try.func31 (by kernel_rfl) rfl [(900, .cust R)] rfl (argF _) (fun w F v k h => h) (by simp) ?_
  · repeat' (first | (with_reducible first | refine HT.seq ?_ | refine HT.block ?_ | refine Br.not ?_) | ((with_reducible first | refine HT.region tt_ok ?_ | refine HT.drawn tt_ok (by kernel_rfl) (by decide +kernel) ?_ | refine HT.drawnL tt_ok (by kernel_rfl) (by decide +kernel) ?_ | refine HT.cond ?_ | refine HT.ret ?_ | refine HT.skip ?_ | refine HT.exit ?_ | refine Br.tt ?_ | refine Br.ff ?_); conv => whnf) | ((with_reducible first | refine Br.dec (fun hc => ?_) (fun hc => ?_) | refine Br.eq (fun hc => ?_) (fun hc => ?_) | refine Br.ne (fun hc => ?_) (fun hc => ?_)) <;> (first | (exfalso; omega) | conv => whnf)) | ((with_reducible first | refine Br.ttE (by decide) ?_ | refine Br.ffE (by decide) ?_ | refine Br.mk (fun hc => ?_) (fun hc => ?_) | refine Chk.mk (by first | omega | with_reducible rfl | (refine ⟨rfl, ?_⟩; omega) | decide | exact ⟨rfl, by omega, by omega, rfl⟩ | exact ⟨by assumption, rfl, by omega, by omega⟩) ?_ | refine Ar.fit (by omega) ?_ | refine Eqv.shr1 ?_ | refine Ar.u64 (by omega) ?_) <;> conv => whnf) | ((first | refine CallN.ret1 (hS.bt (inB_true.2 hs)) ?_ | refine CallN.ret1 (hI.bf (inB_false.2 (by omega))) ?_) <;> conv => whnf) | (with_reducible exact trivial) | ((with_reducible refine And.intro ?_ ?_) <;> conv => whnf) | (intro gn; conv => whnf))
    all_goals exact Fin.pureS (by repeat (first | exact List.Sublist.refl _ | refine List.Sublist.cons_cons _ ?_ | refine List.Sublist.cons _ ?_)) (sv_b (chk_no (fun h => hi h.1.2)).symm)
  by_cases hd : isD leaf
  rotate_left
  refine SCalls.enter tt_ok Try.func31 (by kernel_rfl) rfl [(900, .cust R)] rfl (argF _) (fun w F v k h => h) (by simp) ?_
  · repeat' (first | (with_reducible first | refine HT.seq ?_ | refine HT.block ?_ | refine Br.not ?_) | ((with_reducible first | refine HT.region tt_ok ?_ | refine HT.drawn tt_ok (by kernel_rfl) (by decide +kernel) ?_ | refine HT.drawnL tt_ok (by kernel_rfl) (by decide +kernel) ?_ | refine HT.cond ?_ | refine HT.ret ?_ | refine HT.skip ?_ | refine HT.exit ?_ | refine Br.tt ?_ | refine Br.ff ?_); conv => whnf) | ((with_reducible first | refine Br.dec (fun hc => ?_) (fun hc => ?_) | refine Br.eq (fun hc => ?_) (fun hc => ?_) | refine Br.ne (fun hc => ?_) (fun hc => ?_)) <;> (first | (exfalso; omega) | conv => whnf)) | ((with_reducible first | refine Br.ttE (by decide) ?_ | refine Br.ffE (by decide) ?_ | refine Br.mk (fun hc => ?_) (fun hc => ?_) | refine Chk.mk (by first | omega | with_reducible rfl | (refine ⟨rfl, ?_⟩; omega) | decide | exact ⟨rfl, by omega, by omega, rfl⟩ | exact ⟨by assumption, rfl, by omega, by omega⟩) ?_ | refine Ar.fit (by omega) ?_ | refine Eqv.shr1 ?_ | refine Ar.u64 (by omega) ?_) <;> conv => whnf) | ((first | refine CallN.ret1 (hS.bt (inB_true.2 hs)) ?_ | refine CallN.ret1 (hI.bt (inB_true.2 (by omega))) ?_ | refine CallN.ret1 (hD.bf (inB_false.2 (by omega))) ?_) <;> conv => whnf) | (with_reducible exact trivial) | ((with_reducible refine And.intro ?_ ?_) <;> conv => whnf) | (intro gn; conv => whnf))
    all_goals exact Fin.pureS (by repeat (first | exact List.Sublist.refl _ | refine List.Sublist.cons_cons _ ?_ | refine List.Sublist.cons _ ?_)) (sv_b (chk_no (fun h => hd h.2.1)).symm)
  obtain ⟨i0, rfl⟩ : ∃ i0 : Nat, i = i0 := ⟨i.toNat, by omega⟩
  obtain ⟨s0, rfl⟩ : ∃ s0 : Nat, size = s0 := ⟨size.toNat, by omega⟩
  refine SCalls.enter tt_ok Try.func31 (by kernel_rfl) rfl [(900, .cust R)] rfl (argF _) (fun w F v k h => h) (by simp) ?_
  repeat' (first | (with_reducible first | refine HT.seq ?_ | refine HT.block ?_ | refine Br.not ?_) | ((with_reducible first | refine HT.region tt_ok ?_ | refine HT.drawn tt_ok (by kernel_rfl) (by decide +kernel) ?_ | refine HT.drawnL tt_ok (by kernel_rfl) (by decide +kernel) ?_ | refine HT.cond ?_ | refine HT.ret ?_ | refine HT.skip ?_ | refine HT.exit ?_ | refine Br.tt ?_ | refine Br.ff ?_); conv => whnf) | ((with_reducible first | refine Br.dec (fun hc => ?_) (fun hc => ?_) | refine Br.eq (fun hc => ?_) (fun hc => ?_) | refine Br.ne (fun hc => ?_) (fun hc => ?_)) <;> (first | (exfalso; omega) | conv => whnf)) | ((with_reducible first | refine Br.ttE (by decide) ?_ | refine Br.ffE (by decide) ?_ | refine Br.mk (fun hc => ?_) (fun hc => ?_) | refine Chk.mk (by first | omega | with_reducible rfl | (refine ⟨rfl, ?_⟩; omega) | decide | exact ⟨rfl, by omega, by omega, rfl⟩ | exact ⟨by assumption, rfl, by omega, by omega⟩) ?_ | refine Ar.fit (by omega) ?_ | refine Eqv.shr1 ?_ | refine Ar.u64 (by omega) ?_) <;> conv => whnf) | ((first | refine CallN.ret1 (hS.bt (inB_true.2 hs)) ?_ | refine CallN.ret1 (hI.bt (inB_true.2 (by omega))) ?_ | refine CallN.ret1 (hD.bt (inB_true.2 (by omega))) ?_) <;> conv => whnf) | (with_reducible exact trivial) | ((with_reducible refine And.intro ?_ ?_) <;> conv => whnf) | (intro gn; conv => whnf))
  refine HT.loopS [0, 3, 27] (fun x : Nat × Nat × Int × List Int => [(11, .i x.2.2.1), (4, isl x.2.2.2), (2, .i x.2.1), (1, .i x.1)]) (fun x : Nat × Nat × Int × List Int => (x.2.1 < x.1 ∧ x.1 ≤ 16) ∧ isD x.2.2.1 ∧ climb x.1 x.2.1 x.2.2.1 x.2.2.2 = climb s0 i0 leaf pf ∧ ∃ pre, pf = pre ++ x.2.2.2 ∧ allD pre) (fun x : Nat × Nat × Int × List Int => x.1) (s0, i0, leaf, pf) ⟨⟨by dsimp only; omega, by dsimp only; omega⟩, hd, rfl, [], rfl, fun z hz => by cases hz⟩ ⟨rfl, rfl, rfl, rfl, trivial⟩ ?_
  conv => whnf
  rintro ⟨m, q, n, r⟩ ⟨⟨hq, hm⟩, hn, hc1, pre, hpre, hpd⟩
  dsimp only at hq hm hn hc1 hpre ⊢
  have ht := tm2 q
  have htd := td2 q
  have htd2 : ((m : Int) + 1).tdiv 2 = (((m + 1) / 2 : Nat) : Int) := td2 (m + 1)
  have hsb := sib_eq q
  have hst := sib_toNat q
  have hrl : r.length ≤ 10000000 := by have := congrArg List.length hpre; rw [List.length_append] at this; omega
  cases r with
  | nil =>
    repeat' (first | (with_reducible first | refine HT.seq ?_ | refine HT.block ?_ | refine Br.not ?_) | ((with_reducible first | refine HT.region tt_ok ?_ | refine HT.drawn tt_ok (by kernel_rfl) (by decide +kernel) ?_ | refine HT.drawnL tt_ok (by kernel_rfl) (by decide +kernel) ?_ | refine HT.cond ?_ | refine HT.ret ?_ | refine HT.skip ?_ | refine HT.exit ?_ | refine Br.tt ?_ | refine Br.ff ?_); conv => whnf) | ((with_reducible first | refine Br.dec (fun hc => ?_) (fun hc => ?_) | refine Br.eq (fun hc => ?_) (fun hc => ?_) | refine Br.ne (fun hc => ?_) (fun hc => ?_)) <;> (first | (exfalso; omega) | conv => whnf)) | ((with_reducible first | refine Br.ttE (by decide) ?_ | refine Br.ffE (by decide) ?_ | refine Br.mk (fun hc => ?_) (fun hc => ?_) | refine Chk.mk (by first | omega | with_reducible rfl | (refine ⟨rfl, ?_⟩; omega) | decide | exact ⟨rfl, by omega, by omega, rfl⟩ | exact ⟨by assumption, rfl, by omega, by omega⟩) ?_ | refine Ar.fit (by omega) ?_ | refine Eqv.shr1 ?_ | refine Ar.u64 (by omega) ?_) <;> conv => whnf) | ((first | refine CallN.ret1 (l2Digest_c _) ?_) <;> conv => whnf) | (with_reducible exact trivial) | ((with_reducible refine And.intro ?_ ?_) <;> conv => whnf) | (intro gn; conv => whnf))
    all_goals first
      | exact ⟨⟨((m + 1) / 2, q / 2, n, []), ⟨⟨by dsimp only; omega, by dsimp only; omega⟩, hn, by dsimp only; rw [← hc1, climb_out (size := m) (i := q) (by omega) (by omega)], pre, hpre, hpd⟩, by dsimp only; omega, (by repeat' (first | exact trivial | refine ⟨rfl, ?_⟩)), ⟨rfl, rfl, sv_i (by omega), sv_i (by omega), trivial⟩, (HLe.sub (by repeat (first | exact List.Sublist.refl _ | refine List.Sublist.cons_cons _ ?_ | refine List.Sublist.cons _ ?_)))⟩⟩
      | (exfalso; have h9 : ((([] : List Int).length : Nat) : Int) ≠ 0 := (by assumption); exact h9 rfl)
      | exact Fin.pureS (by repeat (first | exact List.Sublist.refl _ | refine List.Sublist.cons_cons _ ?_ | refine List.Sublist.cons _ ?_)) (sv_b (chk_no (fun h => by have h4 := h.2.2.2; simp only [Int.toNat_natCast] at h4; rw [← hc1, climb_nil (size := m) (i := q) (by omega) (by omega)] at h4; cases h4)).symm)
      | exact Fin.pureS (by repeat (first | exact List.Sublist.refl _ | refine List.Sublist.cons_cons _ ?_ | refine List.Sublist.cons _ ?_)) (sv_b (by rw [Bool.eq_iff_iff, chk_iff, beq_iff_eq]; simp only [Int.toNat_natCast]; rw [← hc1, climb_one (size := m) (by omega)]; exact ⟨fun e => (by subst e; exact ⟨⟨hs, by omega⟩, hd, (by rw [hpre, List.append_nil]; exact hpd), rfl⟩), fun ⟨_, _, _, h⟩ => (by injection h with h; injection h)⟩))
      | trace_state
  | cons p r =>
    have hlc : (p :: r).length = r.length + 1 := List.length_cons
    have hP := l2Pair_c n p hn
    have hP2 := fun h => l2Pair_c p n h hn
    have hdp := l2Digest_c p
    by_cases hpp : isD p
    rotate_left
    · repeat' (first | (with_reducible first | refine HT.seq ?_ | refine HT.block ?_ | refine Br.not ?_) | ((with_reducible first | refine HT.region tt_ok ?_ | refine HT.drawn tt_ok (by kernel_rfl) (by decide +kernel) ?_ | refine HT.drawnL tt_ok (by kernel_rfl) (by decide +kernel) ?_ | refine HT.cond ?_ | refine HT.ret ?_ | refine HT.skip ?_ | refine HT.exit ?_ | refine Br.tt ?_ | refine Br.ff ?_); conv => whnf) | ((with_reducible first | refine Br.dec (fun hc => ?_) (fun hc => ?_) | refine Br.eq (fun hc => ?_) (fun hc => ?_) | refine Br.ne (fun hc => ?_) (fun hc => ?_)) <;> (first | (exfalso; omega) | conv => whnf)) | ((with_reducible first | refine Br.ttE (by decide) ?_ | refine Br.ffE (by decide) ?_ | refine Br.mk (fun hc => ?_) (fun hc => ?_) | refine Chk.mk (by first | omega | with_reducible rfl | (refine ⟨rfl, ?_⟩; omega) | decide | exact ⟨rfl, by omega, by omega, rfl⟩ | exact ⟨by assumption, rfl, by omega, by omega⟩) ?_ | refine Ar.fit (by omega) ?_ | refine Eqv.shr1 ?_ | refine Ar.u64 (by omega) ?_) <;> conv => whnf) | ((first | refine CallN.ret1 (hdp.bf (inB_false.2 (by omega))) ?_) <;> conv => whnf) | (with_reducible exact trivial) | ((with_reducible refine And.intro ?_ ?_) <;> conv => whnf) | (intro gn; conv => whnf))
      all_goals first
        | exact ⟨⟨((m + 1) / 2, q / 2, n, p :: r), ⟨⟨by dsimp only; omega, by dsimp only; omega⟩, hn, by dsimp only; rw [← hc1, climb_out (size := m) (i := q) (by omega) (by omega)], pre, hpre, hpd⟩, by dsimp only; omega, (by repeat' (first | exact trivial | refine ⟨rfl, ?_⟩)), ⟨rfl, rfl, sv_i (by omega), sv_i (by omega), trivial⟩, (HLe.sub (by repeat (first | exact List.Sublist.refl _ | refine List.Sublist.cons_cons _ ?_ | refine List.Sublist.cons _ ?_)))⟩⟩
        | exact Fin.pureS (by repeat (first | exact List.Sublist.refl _ | refine List.Sublist.cons_cons _ ?_ | refine List.Sublist.cons _ ?_)) (sv_b (chk_no (fun h => hpp (h.2.2.1 p (by rw [hpre]; simp)))).symm)
        | trace_state
    repeat' (first | (with_reducible first | refine HT.seq ?_ | refine HT.block ?_ | refine Br.not ?_) | ((with_reducible first | refine HT.region tt_ok ?_ | refine HT.drawn tt_ok (by kernel_rfl) (by decide +kernel) ?_ | refine HT.drawnL tt_ok (by kernel_rfl) (by decide +kernel) ?_ | refine HT.cond ?_ | refine HT.ret ?_ | refine HT.skip ?_ | refine HT.exit ?_ | refine Br.tt ?_ | refine Br.ff ?_); conv => whnf) | ((with_reducible first | refine Br.dec (fun hc => ?_) (fun hc => ?_) | refine Br.eq (fun hc => ?_) (fun hc => ?_) | refine Br.ne (fun hc => ?_) (fun hc => ?_)) <;> (first | (exfalso; omega) | conv => whnf)) | ((with_reducible first | refine Br.ttE (by decide) ?_ | refine Br.ffE (by decide) ?_ | refine Br.mk (fun hc => ?_) (fun hc => ?_) | refine Chk.mk (by first | omega | with_reducible rfl | (refine ⟨rfl, ?_⟩; omega) | decide | exact ⟨rfl, by omega, by omega, rfl⟩ | exact ⟨by assumption, rfl, by omega, by omega⟩) ?_ | refine Ar.fit (by omega) ?_ | refine Eqv.shr1 ?_ | refine Ar.u64 (by omega) ?_) <;> conv => whnf) | ((first | refine CallN.ret1 (hdp.bt (inB_true.2 (by omega))) ?_ | refine CallN.ret1 (hP hpp) ?_ | refine CallN.ret1 (hP2 hpp) ?_) <;> conv => whnf) | (with_reducible exact trivial) | ((with_reducible refine And.intro ?_ ?_) <;> conv => whnf) | (intro gn; conv => whnf))
    all_goals first
      | exact ⟨⟨((m + 1) / 2, q / 2, n, p :: r), ⟨⟨by dsimp only; omega, by dsimp only; omega⟩, hn, by dsimp only; rw [← hc1, climb_out (size := m) (i := q) (by omega) (by omega)], pre, hpre, hpd⟩, by dsimp only; omega, (by repeat' (first | exact trivial | refine ⟨rfl, ?_⟩)), ⟨rfl, rfl, sv_i (by omega), sv_i (by omega), trivial⟩, (HLe.sub (by repeat (first | exact List.Sublist.refl _ | refine List.Sublist.cons_cons _ ?_ | refine List.Sublist.cons _ ?_)))⟩⟩
      | exact ⟨⟨((m + 1) / 2, q / 2, hp n p, r), ⟨⟨by dsimp only; omega, by dsimp only; omega⟩, hp_d hn hpp, by dsimp only; rw [← hc1, climb_in (size := m) (i := q) (by omega) (by omega), if_pos (by omega)], pre ++ [p], by rw [hpre]; simp, fun z hz => by rcases List.mem_append.1 hz with h | h; exact hpd z h; rw [List.mem_singleton.1 h]; exact hpp⟩, by dsimp only; omega, (by repeat' (first | exact trivial | refine ⟨rfl, ?_⟩)), ⟨rfl, tail_sl, sv_i (by omega), sv_i (by omega), trivial⟩, (HLe.sub (by repeat (first | exact List.Sublist.refl _ | refine List.Sublist.cons_cons _ ?_ | refine List.Sublist.cons _ ?_)))⟩⟩
      | exact ⟨⟨((m + 1) / 2, q / 2, hp p n, r), ⟨⟨by dsimp only; omega, by dsimp only; omega⟩, hp_d hpp hn, by dsimp only; rw [← hc1, climb_in (size := m) (i := q) (by omega) (by omega), if_neg (by omega)], pre ++ [p], by rw [hpre]; simp, fun z hz => by rcases List.mem_append.1 hz with h | h; exact hpd z h; rw [List.mem_singleton.1 h]; exact hpp⟩, by dsimp only; omega, (by repeat' (first | exact trivial | refine ⟨rfl, ?_⟩)), ⟨rfl, tail_sl, sv_i (by omega), sv_i (by omega), trivial⟩, (HLe.sub (by repeat (first | exact List.Sublist.refl _ | refine List.Sublist.cons_cons _ ?_ | refine List.Sublist.cons _ ?_)))⟩⟩
      | exact Fin.pureS (by repeat (first | exact List.Sublist.refl _ | refine List.Sublist.cons_cons _ ?_ | refine List.Sublist.cons _ ?_)) (sv_b (chk_no (fun h => by have h4 := h.2.2.2; simp only [Int.toNat_natCast] at h4; rw [← hc1, climb_one (size := m) (by omega)] at h4; cases h4)).symm)
      | trace_state⟩
end Go.Proofs.Ytcagfmbboliohaa
/-! YtcagfmbboliohaaRe -/
set_option linter.all false
namespace Go.Proofs.Ytcagfmbboliohaa
open Go.RowKit

/-- one piece told by another, in one world -/
def SubW (w : World) (F : Nat → Prop) (p q : Hp) : Prop := (∀ b, q.fp b → p.fp b) ∧ (p.holds w F → q.holds w F)
def AllW (w : World) (F : Nat → Prop) : List Hp → List Hp → Prop
  | [], [] => True
  | p :: H, q :: H' => SubW w F p q ∧ AllW w F H H'
  | _, _ => False
theorem AllW.fp {w : World} {F : Nat → Prop} : ∀ {H H' : List Hp}, AllW w F H H' → ∀ q ∈ H', ∀ b, q.fp b → ∃ p ∈ H, p.fp b
  | [], [], _, q, hq, _, _ => by cases hq
  | p :: H, q :: H', h, q', hq, b, hb => by
    rcases List.mem_cons.1 hq with rfl | hq
    · exact ⟨p, List.mem_cons_self, h.1.1 b hb⟩
    · obtain ⟨p', hp', hb'⟩ := AllW.fp h.2 q' hq b hb
      exact ⟨p', List.mem_cons_of_mem _ hp', hb'⟩
theorem AllW.sat {w : World} {F : Nat → Prop} : ∀ {H H' : List Hp}, AllW w F H H' → HSat w F H → HSat w F H'
  | [], [], _, hs => hs
  | p :: H, q :: H', h, hs => by
    have hap := List.pairwise_cons.1 hs.apart
    have ht := AllW.sat h.2 hs.tail
    refine ⟨fun x hx => ?_, fun x hx b hb => ?_, List.pairwise_cons.2 ⟨fun x hx b hb hbx => ?_, ht.apart⟩, hs.lt⟩
    · rcases List.mem_cons.1 hx with rfl | hx
      · exact h.1.2 (hs.holds _ List.mem_cons_self)
      · exact ht.holds x hx
    · rcases List.mem_cons.1 hx with rfl | hx
      · exact hs.fp _ List.mem_cons_self b (h.1.1 b hb)
      · exact ht.fp x hx b hb
    · obtain ⟨p', hp', hb'⟩ := h.2.fp x hx b hbx
      exact hap.1 p' hp' b (h.1.1 b hb) hb'
theorem SubW.refl {w : World} {F : Nat → Prop} (p : Hp) : SubW w F p p := ⟨fun _ h => h, fun h => h⟩
theorem SubW.row {w : World} {F : Nat → Prop} {v : Value} {e : TypeId} {sz n n' : Nat} {f f' : Nat → Nat → SV} (hn : n = n') (h : ∀ i j, i < n → j < sz → ∀ x, Has w F (f i j) x → Has w F (f' i j) x) : SubW w F (.row v e sz n f) (.row v e sz n' f') := by
  subst hn
  exact ⟨fun _ h => h, fun ⟨xs, ho, hc⟩ => ⟨xs, ho, fun i k hi hk => ⟨(hc i k hi hk).1, h i k hi hk _ (hc i k hi hk).2⟩⟩⟩
theorem fc_to {s s' : SV} {K : SV → Prop} (h : s = s') (k : fc s' K) : fc s K := h ▸ k
/-- what is known of a piece once it stands still -/
def FrzF (w : World) (F : Nat → Prop) : List Hp → Prop
  | [] => True
  | .row v _ sz n f :: Z => Has w F (.sl sz n f) v ∧ FrzF w F Z
  | .box g _ n f :: Z => Has w F (.ref g 0 n f) (.pointer (some ⟨g, 0, none⟩)) ∧ FrzF w F Z
  | _ :: Z => FrzF w F Z
theorem FrzF.mono {w : World} {F F' : Nat → Prop} (hF : ∀ b, F b → F' b) : ∀ {Z : List Hp}, FrzF w F Z → FrzF w F' Z
  | [], _ => trivial
  | .row _ _ _ _ _ :: _, h => ⟨h.1.mono hF, FrzF.mono hF h.2⟩
  | .box _ _ _ _ :: _, h => ⟨h.1.mono hF, FrzF.mono hF h.2⟩
  | .emp :: Z, h => FrzF.mono (Z := Z) hF h
  | .cust _ :: Z, h => FrzF.mono (Z := Z) hF h
theorem box_cell {w : World} {F : Nat → Prop} {g n : Nat} {t : TypeId} {f : Nat → SV} (h : (Hp.box g t n f).holds w F) : ∀ k, k < n → ∃ u, w.cell? ⟨g, k, none⟩ = some u ∧ u.oneCell' = true ∧ Has w F (f k) u := fun k hk => by
  obtain ⟨cs, hb, hn, hc⟩ := h
  refine ⟨cs.getD k undef, ?_, hc k hk⟩
  unfold World.cell?
  rw [hb]
  have : k < cs.size := by omega
  simp [Array.getD, this]
theorem box_pp {w : World} {F F' : Nat → Prop} {g n : Nat} {t : TypeId} {f : Nat → SV} (h : (Hp.box g t n f).holds w F) (hF : ∀ b, F b → F' b) (hg : F' g) : Has w F' (.pp n f) (.pointer (some ⟨g, 0, none⟩)) := by
  refine ⟨g, 0, rfl, hg, fun k hk => ?_⟩
  obtain ⟨u, h1, h2, h3⟩ := box_cell h k hk
  exact ⟨u, by rw [Nat.zero_add]; exact h1, h2, h3.mono hF⟩
theorem box_ref {w : World} {F F' : Nat → Prop} {g n : Nat} {t : TypeId} {f : Nat → SV} (h : (Hp.box g t n f).holds w F) (hF : ∀ b, F b → F' b) (hg : F' g) : Has w F' (.ref g 0 n f) (.pointer (some ⟨g, 0, none⟩)) := by
  refine ⟨rfl, hg, ?_, fun k hk => ?_⟩
  · obtain ⟨cs, hb, _⟩ := h
    exact ⟨cs, t, hb⟩
  · obtain ⟨u, h1, h2, h3⟩ := box_cell h k hk
    exact ⟨u, by rw [Nat.zero_add]; exact h1, h2, h3.mono hF⟩
theorem Has.ref_pp {w : World} {F : Nat → Prop} {g o n : Nat} {f : Nat → SV} {v : Value} (h : Has w F (.ref g o n f) v) : Has w F (.pp n f) v := by
  obtain ⟨rfl, hF, _, hc⟩ := h
  exact ⟨g, o, rfl, hF, hc⟩
theorem HSat.freezes {w : World} : ∀ {Z H : List Hp} {F : Nat → Prop}, HSat w F (Z ++ H) → ∃ F', (∀ b, F b → F' b) ∧ HSat w F' H ∧ FrzF w F' Z
  | [], H, F, hs => ⟨F, fun _ h => h, hs, trivial⟩
  | p :: Z, H, F, hs => by
    obtain ⟨F', h1, h2, h3⟩ := HSat.freezes (Z := Z) (H := H) hs.freeze
    refine ⟨F', fun b hb => h1 b (.inl hb), h2, ?_⟩
    have hp := hs.holds p List.mem_cons_self
    cases p with
    | emp => exact h3
    | cust c => exact h3
    | row v e sz n f => exact ⟨(row_sl (F' := fun b => F b ∨ (Hp.row v e sz n f).fp b) hp (fun b => .inl) fun b hb => .inr hb).mono h1, h3⟩
    | box g t n f => exact ⟨(box_ref (F' := fun b => F b ∨ (Hp.box g t n f).fp b) hp (fun b => .inl) (.inr rfl)).mono h1, h3⟩
/-- slots told anew -/
def ChgW (w : World) (F : Nat → Prop) (σ : Fr) : List (Nat × SV) → Prop
  | [] => True
  | (k, v) :: l => (∀ x, Has w F (σ k) x → Has w F v x) ∧ ChgW w F σ l
theorem ChgW.has {w : World} {F : Nat → Prop} {σ : Fr} {a : Act} (hf : FrHas w F σ a) : ∀ {l : List (Nat × SV)}, ChgW w F σ l → FrHas w F (updL σ l) a
  | [], _ => hf
  | (k, v) :: l, h => fun q => by
    show Has w F (upd (updL σ l) k v q) _
    unfold upd
    cases e : Nat.beq q k
    · exact ChgW.has hf h.2 q
    · have := Nat.eq_of_beq_eq_true e
      subst this
      exact h.1 _ (hf q)
/-- pieces Z stand still from here on; what names them is told anew -/
theorem HT.frz {P : Program} {n : Nat} {c : Code} {Q : Exit → St → Prop} {s : St} (Z H1 : List Hp) (chg : List (Nat × SV)) (L' : Hpl) (hp : fcH (s.L.map Prod.snd) fun H => PPick H (Z ++ H1)) (h : ∀ w F, FrzF w F Z → AllW w F H1 (L'.map Prod.snd) ∧ ChgW w F s.σ chg) (k : HT P n c Q ⟨updL s.σ chg, L', s.nx⟩) : HT P n c Q s := by
  rw [fcH_eq] at hp
  refine HT.le (fun n _ F a w hs => ?_) k
  obtain ⟨F', h1, h2, h3⟩ := HSat.freezes (hp.sat hs.heap)
  obtain ⟨h4, h5⟩ := h w F' h3
  exact ⟨F', h1, hs.size, hs.defers, h5.has fun k => (hs.fr k).mono h1, h4.sat h2⟩
/-- the same at the end of a function -/
theorem Fin.frz {r r' : SV} {H H' : List Hp} {K : SV → List Hp → Prop} (Z H1 : List Hp) (hp : PPick H (Z ++ H1)) (h : ∀ w F, FrzF w F Z → AllW w F H1 H' ∧ ∀ x, Has w F r x → Has w F r' x) (k : K r' H') : Fin r H K :=
  ⟨⟨r', H', fun w F x hs hx => by
    obtain ⟨F', h1, h2, h3⟩ := HSat.freezes (hp.sat hs)
    obtain ⟨h4, h5⟩ := h w F' h3
    exact ⟨F', h1, h4.sat h2, h5 x (hx.mono h1)⟩, k⟩⟩
theorem HLe.frzs {L L' : Hpl} (Z H1 : List Hp) (hp : PPick (L.map Prod.snd) (Z ++ H1)) (h : ∀ w F, FrzF w F Z → AllW w F H1 (L'.map Prod.snd)) : HLe L L' := fun w F hs => by
  obtain ⟨F', h1, h2, h3⟩ := HSat.freezes (hp.sat hs)
  exact ⟨F', h1, (h w F' h3).sat h2⟩
theorem AllW.refl (w : World) (F : Nat → Prop) : ∀ H, AllW w F H H
  | [] => trivial
  | p :: H => ⟨SubW.refl p, AllW.refl w F H⟩
theorem SubW.box {w : World} {F : Nat → Prop} {g n : Nat} {t : TypeId} {f f' : Nat → SV} (h : ∀ j, j < n → ∀ x, Has w F (f j) x → Has w F (f' j) x) : SubW w F (.box g t n f) (.box g t n f') :=
  ⟨fun _ h => h, fun ⟨cs, a, b, c⟩ => ⟨cs, a, b, fun j hj => ⟨(c j hj).1, h j hj _ (c j hj).2⟩⟩⟩
theorem Has.pp {w : World} {F : Nat → Prop} {n : Nat} {f f' : Nat → SV} {x : Value} (h : ∀ k, k < n → ∀ v, Has w F (f k) v → Has w F (f' k) v) (hx : Has w F (.pp n f) x) : Has w F (.pp n f') x := by
  obtain ⟨b, off, e, hb, hc⟩ := hx
  exact ⟨b, off, e, hb, fun k hk => by
    obtain ⟨u, h1, h2, h3⟩ := hc k hk
    exact ⟨u, h1, h2, h k hk u h3⟩⟩
theorem Has.refL {w : World} {F : Nat → Prop} {g o n : Nat} {f f' : Nat → SV} {x : Value} (h : ∀ k, k < n → ∀ v, Has w F (f k) v → Has w F (f' k) v) (hx : Has w F (.ref g o n f) x) : Has w F (.ref g o n f') x := by
  obtain ⟨e, hb, hz, hc⟩ := hx
  exact ⟨e, hb, hz, fun k hk => by
    obtain ⟨u, h1, h2, h3⟩ := hc k hk
    exact ⟨u, h1, h2, h k hk u h3⟩⟩
theorem Has.slL {w : World} {F : Nat → Prop} {sz n : Nat} {f f' : Nat → Nat → SV} {x : Value} (h : ∀ i k, i < n → k < sz → ∀ v, Has w F (f i k) v → Has w F (f' i k) v) (hx : Has w F (.sl sz n f) x) : Has w F (.sl sz n f') x := by
  obtain ⟨A, c, e, h1, h2, hc⟩ := hx
  exact ⟨A, c, e, h1, h2, fun hn => by
    obtain ⟨b, off, e, hb, hc⟩ := hc hn
    exact ⟨b, off, e, hb, fun i k hi hk => by
      obtain ⟨u, q1, q2, q3⟩ := hc i k hi hk
      exact ⟨u, q1, q2, h i k hi hk u q3⟩⟩⟩
/-- a row of nothing is at hand -/
theorem HT.nilRow {P : Program} {n : Nat} {c : Code} {Q : Exit → St → Prop} {s : St} (key : Nat) (e : TypeId) (sz : Nat) (f : Nat → Nat → SV) (h : HT P n c Q ⟨s.σ, (key, .row (.slice none 0 0) e sz 0 f) :: s.L, s.nx⟩) : HT P n c Q s :=
  HT.le (s' := ⟨s.σ, (key, .row (.slice none 0 0) e sz 0 f) :: s.L, s.nx⟩) (fun n _ F a w hs => ⟨F, fun _ h => h, hs.size, hs.defers, hs.fr, hs.heap.nil e sz f⟩) h
/-- a piece is opened: it was a bundle of others -/
theorem HSat.unbundleK {w : World} {F : Nat → Prop} {A B H : List Hp} (h : HSat w F (A ++ .cust (Proofs.Ytcagfmbboliohaa.bundle H) :: B)) : HSat w F (A ++ H ++ B) := by
  have h1 : (A ++ .cust (Proofs.Ytcagfmbboliohaa.bundle H) :: B).Perm ((A ++ B) ++ [.cust (Proofs.Ytcagfmbboliohaa.bundle H)]) := by
    rw [List.append_assoc]
    exact List.Perm.append_left A (List.perm_append_comm (l₁ := [Hp.cust (Proofs.Ytcagfmbboliohaa.bundle H)]) (l₂ := B))
  have h2 := (h.perm h1).unbundle
  refine h2.perm ?_
  rw [List.append_assoc, List.append_assoc]
  exact List.Perm.append_left A List.perm_append_comm
theorem HSat.bundleK {w : World} {F : Nat → Prop} {A B H : List Hp} (h : HSat w F (A ++ H ++ B)) : HSat w F (A ++ .cust (Proofs.Ytcagfmbboliohaa.bundle H) :: B) := by
  have h1 : (A ++ H ++ B).Perm ((A ++ B) ++ H) := by
    rw [List.append_assoc, List.append_assoc]
    exact List.Perm.append_left A List.perm_append_comm
  refine (h.perm h1).bundle.perm ?_
  rw [List.append_assoc]
  exact List.Perm.append_left A (List.perm_append_comm (l₁ := B) (l₂ := [Hp.cust (Proofs.Ytcagfmbboliohaa.bundle H)]))
/-- the first argument points into a block at hand -/
theorem at_arg {g : Nat} {l : List SV} {w : World} {F : Nat → Prop} {v : Value} {k : Nat} (h : Has w F ((SV.val (.pointer (some ⟨g, 0, none⟩)) :: l).getD k (.val undef)) v) : Has w F (upd (argF (SV.val (.pointer (some ⟨g, 0, none⟩)) :: l)) 0 (.ptr 0 g 0) k) v := by
  unfold upd
  cases e : Nat.beq k 0
  · exact h
  · have := Nat.eq_of_beq_eq_true e
    subst this
    exact h
theorem PPick.refl : ∀ H, PPick H H
  | [] => .nil _
  | p :: H => .cons 0 rfl (.refl p) (PPick.refl H)
def Hp.isEmp : Hp → Bool
  | .emp => true
  | _ => false
theorem Hp.ne_emp {p : Hp} (h : p.isEmp = false) : p ≠ .emp := fun e => by rw [e] at h; cases h
/-- a piece is at hand for a call that leaves it as it was -/
theorem CallN.keepL {P : Program} {f : FuncId} {ss : List SV} {L : Hpl} {nx : Nat} {K : KK} (i : Nat) (p : Hp) (Φ : SV → Prop) (hl : lk i L = p) (hp : p.isEmp = false) (h : SMut P f ss p fun r N p' => N = [] ∧ p' = p ∧ Φ r) (k : ∀ r, Φ r → K (r.lift nx) L (nx + 10)) : CallN P f ss L nx K := .keep i p Φ hl (Hp.ne_emp hp) h k
/-- pieces stand still, others are bundled, at the end of a function -/
theorem Fin.frzB {r r' : SV} {H : List Hp} {R : Heaplet} {Φ : SV → List Hp → Hp → Prop} (Z H1 H2 : List Hp) (hp : PPick H (Z ++ (H1 ++ [.cust R]))) (h : ∀ w F, FrzF w F Z → AllW w F H1 H2 ∧ ∀ x, Has w F r x → Has w F r' x) (k : Φ r' [] (.cust (Proofs.Ytcagfmbboliohaa.bundle H2))) : Fin r H (fun r H' => ∃ N p', H' = N ++ [p', .cust R] ∧ Φ r N p') :=
  ⟨⟨r', [.cust (Proofs.Ytcagfmbboliohaa.bundle H2), .cust R], fun w F x hs hx => by
    obtain ⟨F', h1, h2, h3⟩ := HSat.freezes (hp.sat hs)
    obtain ⟨h4, h5⟩ := h w F' h3
    have app : ∀ {A B : List Hp}, AllW w F' A B → AllW w F' (A ++ [.cust R]) (B ++ [.cust R]) := by
      intro A
      induction A with
      | nil => intro B hB; cases B with | nil => exact ⟨SubW.refl _, trivial⟩ | cons => exact hB.elim
      | cons a A ih => intro B hB; cases B with | nil => exact hB.elim | cons b B => exact ⟨hB.1, ih hB.2⟩
    exact ⟨F', h1, HSat.bundleK (A := []) (H := H2) (B := [.cust R]) ((app h4).sat h2), h5 x (hx.mono h1)⟩, [], _, rfl, k⟩⟩
/-- one cell told by another, in one world -/
abbrev LeW (w : World) (F : Nat → Prop) (s s' : SV) : Prop := ∀ x, Has w F s x → Has w F s' x
theorem LeW.of_eq {w : World} {F : Nat → Prop} {s s' : SV} (h : s = s') : LeW w F s s' := h ▸ fun _ h => h
theorem cat_one {w : World} {F : Nat → Prop} {n : Nat} {f g f' : Nat → Nat → SV} (hf : ∀ i, i < n → LeW w F (f i 0) (f' i 0)) (h : LeW w F (g 0 0) (f' n 0)) {i j : Nat} (hi : i < n + 1) (hj : j < 1) : LeW w F (catF n f g i j) (f' i j) := by
  obtain rfl : j = 0 := by omega
  unfold catF
  by_cases hlt : i < n
  · rw [if_pos hlt]; exact hf i hlt
  · obtain rfl : i = n := by omega
    rw [if_neg hlt, Nat.sub_self]; exact h
theorem Hp.Sub.rowL {n n' sz : Nat} {v : Value} {e : TypeId} {f f' : Nat → Nat → SV} (hn : n = n') (h : ∀ w F i j, i < n → j < sz → LeW w F (f i j) (f' i j)) : (Hp.row v e sz n f).Sub (.row v e sz n' f') := .rowH hn fun i j hi hj w F => h w F i j hi hj
theorem Fin.open {r : SV} {Z H : List Hp} {K : SV → List Hp → Prop} (h : Fin r (Z ++ H) K) : Fin r (.cust (Proofs.Ytcagfmbboliohaa.bundle Z) :: H) K := by
  obtain ⟨r', H', he, hk⟩ := h.h
  exact ⟨⟨r', H', fun w F v hs hv => he w F v (HSat.unbundleK (A := []) hs) hv, hk⟩⟩
theorem LeW.tup2 {w : World} {F : Nat → Prop} {f g : Nat → SV} (h0 : LeW w F (f 0) (g 0)) (h1 : LeW w F (f 1) (g 1)) : LeW w F (.tup 2 f) (.tup 2 g) := fun x hx => Has.tup (fun k hk u hu => by
  rcases (by omega : k = 0 ∨ k = 1) with rfl | rfl
  · exact h0 u hu
  · exact h1 u hu) hx
theorem Hp.Sub.of_eq {p q : Hp} (h : p = q) : p.Sub q := h ▸ Hp.Sub.refl p
theorem Lends.slA {L : Hpl} {sz n n' : Nat} {f f' : Nat → Nat → SV} (hn : n = n') (hf : ∀ i j, i < n → j < sz → f i j = f' i j) : Lends L (.sl sz n f) (.sl sz n' f') := fun w F x hs hx => by
  subst hn
  exact (Has.slL (fun i j hi hj u hu => by rw [← hf i j hi hj]; exact hu) hx).mono hs.lt
theorem put_one {w : World} {F : Nat → Prop} {p i j : Nat} {fv : Nat → SV} {f f' : Nat → Nat → SV} (hv : LeW w F (fv 0) (f' p 0)) (hf : i ≠ p → LeW w F (f i 0) (f' i 0)) (hj : j < 1) : LeW w F (putR p 0 1 fv f i j) (f' i j) := by
  obtain rfl : j = 0 := by omega
  unfold putR
  by_cases h : i = p
  · subst h
    rw [Nat.beq_refl, cond_true]
    exact hv
  · have e : Nat.beq i p = false := by rw [Bool.eq_false_iff]; exact fun hb => h (Nat.eq_of_beq_eq_true hb)
    rw [e, cond_false]
    exact hf h
/-- the first k rows are written -/
def part (f : Nat → Nat → SV) (z : Nat → SV) (k : Nat) : Nat → Nat → SV := fun i j => if i < k then f i j else z j
theorem part_lt {f : Nat → Nat → SV} {z : Nat → SV} {k i j : Nat} (h : i < k) : part f z k i j = f i j := if_pos h
theorem part_ge {f : Nat → Nat → SV} {z : Nat → SV} {k i j : Nat} (h : k ≤ i) : part f z k i j = z j := if_neg (by omega)
theorem part_next {f : Nat → Nat → SV} {z : Nat → SV} {k i j : Nat} (h : i ≠ k) : part f z k i j = part f z (k + 1) i j := by
  by_cases hk : i < k
  · rw [part_lt hk, part_lt (by omega)]
  · rw [part_ge (by omega), part_ge (by omega)]
theorem put_row {w : World} {F : Nat → Prop} {sz p i j : Nat} {fv : Nat → SV} {f f' : Nat → Nat → SV} (hv : ∀ j, j < sz → LeW w F (fv j) (f' p j)) (hf : i ≠ p → ∀ j, j < sz → LeW w F (f i j) (f' i j)) (hj : j < sz) : LeW w F (putR p 0 sz fv f i j) (f' i j) := by
  unfold putR
  by_cases h : i = p
  · subst h
    rw [Nat.beq_refl, cond_true]
    unfold putF
    have : (Nat.ble 0 j && Nat.ble (j + 1) (0 + sz)) = true := by simp [Nat.ble_eq]; omega
    rw [this, cond_true]
    exact hv j hj
  · have e : Nat.beq i p = false := by rw [Bool.eq_false_iff]; exact fun hb => h (Nat.eq_of_beq_eq_true hb)
    rw [e, cond_false]
    exact hf h j hj
theorem lk_setK_self_ne {i k : Nat} {p : Hp} {L : Hpl} (h : k ≠ i) : lk k (setK i p L) = lk k L := lk_setK_ne h
/-- a call that takes two pieces and hands back new ones -/
theorem CallN.turn2 {P : Program} {f : FuncId} {ss : List SV} {L : Hpl} {nx : Nat} {K : KK} (k1 k2 : Nat) (p1 p2 : Hp) (Φ : SV → List Hp → Prop) (hl1 : lk k1 L = p1) (hl2 : lk k2 L = p2) (hne : k1 ≠ k2) (he1 : p1.isEmp = false) (he2 : p2.isEmp = false) (hb1 : ∀ g t n f, p1 ≠ .box g t n f) (hb2 : ∀ g t n f, p2 ≠ .box g t n f)
    (h : ∀ R, SCalls P f ss [p1, p2, .cust R] fun r H' => ∃ N, H' = N ++ [.cust R] ∧ Φ r N) (k : ∀ r N, Φ r N → K (r.lift nx) (keyN nx N (setK k1 .emp (setK k2 .emp L))) (nx + 10)) : CallN P f ss L nx K := by
  have h2 : (L.map Prod.snd).Perm (p2 :: offK k2 L) := by have := lk_perm (k := k2) (L := L) (hasK_of (by rw [hl2]; exact Hp.ne_emp he2)); rwa [hl2] at this
  have h2' : ((setK k2 .emp L).map Prod.snd).Perm (.emp :: offK k2 L) := setK_perm (hasK_of (by rw [hl2]; exact Hp.ne_emp he2))
  have hl1' : lk k1 (setK k2 .emp L) = p1 := by rw [lk_setK_self_ne hne]; exact hl1
  have h1 : ((setK k2 .emp L).map Prod.snd).Perm (p1 :: offK k1 (setK k2 .emp L)) := by have := lk_perm (k := k1) (L := setK k2 .emp L) (hasK_of (by rw [hl1']; exact Hp.ne_emp he1)); rwa [hl1'] at this
  have h1' : ((setK k1 .emp (setK k2 .emp L)).map Prod.snd).Perm (.emp :: offK k1 (setK k2 .emp L)) := setK_perm (hasK_of (by rw [hl1']; exact Hp.ne_emp he1))
  -- the rest, with a hole
  have hrest : (.emp :: L.map Prod.snd).Perm (p2 :: p1 :: offK k1 (setK k2 .emp L)) :=
    ((h2.cons _).trans (List.Perm.swap _ _ _)).trans (((h2'.symm).trans h1).cons _)
  have key : SCalls P f ss (.emp :: L.map Prod.snd) fun r H => ∃ N, Φ r N ∧ H = N ++ offK k1 (setK k2 .emp L) := by
    refine SCalls.perm (hrest.trans (List.Perm.swap _ _ _)) ?_
    refine (SCalls.frame (A := [p1, p2]) (H := offK k1 (setK k2 .emp L)) (K := fun r H => ∃ N, Φ r N ∧ H = N ++ offK k1 (setK k2 .emp L)) fun R => (h R).mono fun r H' ⟨N, e, hΦ⟩ => ⟨N, e, N, hΦ, rfl⟩).mono ?_
    rintro r H' ⟨N, hΦ, rfl⟩
    exact ⟨_, List.Perm.refl _, N, hΦ, rfl⟩
  have addE : ∀ {w : World} {F : Nat → Prop} {l : List Hp}, HSat w F l → HSat w F (.emp :: l) := fun hs =>
    hs.cons (Nat.le_refl _) (fun _ _ => rfl) trivial fun _ hb => hb.elim
  refine .gen ((SCalls.le (fun w F hs => addE hs) key).post ?_)
  rintro r H' ⟨N, hΦ, rfl⟩
  refine ⟨r, (keyN nx N (setK k1 .emp (setK k2 .emp L))).map Prod.snd, fun w F v hs hv => ⟨F, fun _ h => h, ?_, hv⟩, _, rfl, fun k' g t n f hlt hk => ?_, k r N hΦ⟩
  · rw [keyN_snd]
    refine (addE hs).perm ?_
    exact (List.perm_middle.symm).trans (List.Perm.append_left N h1'.symm)
  · have key : ∀ (N : List Hp) (m : Nat) (L' : Hpl) (k : Nat) (x : Hp), k < m → lk k L' = x → lk k (keyN m N L') = x := by
      intro N
      induction N with
      | nil => intro m L' k x _ h; exact h
      | cons y N ih =>
        intro m L' k x hkm h
        simp only [keyN, lk]
        have : Nat.beq m k = false := by rw [Bool.eq_false_iff]; intro hb; have := Nat.eq_of_beq_eq_true hb; omega
        rw [this, cond_false]
        exact ih (m + 1) L' k x (by omega) h
    refine key N nx _ k' _ hlt ?_
    rw [lk_setK_self_ne (by rintro rfl; rw [hl1] at hk; exact hb1 _ _ _ _ hk), lk_setK_self_ne (by rintro rfl; rw [hl2] at hk; exact hb2 _ _ _ _ hk)]
    exact hk
end Go.Proofs.Ytcagfmbboliohaa
