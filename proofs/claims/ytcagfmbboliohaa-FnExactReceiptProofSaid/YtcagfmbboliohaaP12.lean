/- Texts of this proof put together: ExM, Ri, Rj, Rk. -/
import Derived.Test.YtcagfmbboliohaaP01
import Derived.Test.YtcagfmbboliohaaP02
import Derived.Test.YtcagfmbboliohaaP03
import Derived.Test.YtcagfmbboliohaaP04
import Derived.Test.YtcagfmbboliohaaP05
import Derived.Test.YtcagfmbboliohaaP06
import Derived.Test.YtcagfmbboliohaaP07
import Derived.Test.YtcagfmbboliohaaP08
import Derived.Test.YtcagfmbboliohaaP09
import Derived.Test.YtcagfmbboliohaaP10
import Derived.Test.YtcagfmbboliohaaP11
/-! YtcagfmbboliohaaExM -/
set_option linter.all false
namespace Go.Proofs.Ytcagfmbboliohaa
open Go.RowKit

theorem putR_ne {i o m j k : Nat} {fv : Nat → SV} {f : Nat → Nat → SV} (h : j ≠ i) : putR i o m fv f j k = f j k := by
  unfold putR
  have e : Nat.beq j i = false := by rw [Bool.eq_false_iff]; exact fun hb => h (Nat.eq_of_beq_eq_true hb)
  rw [e, cond_false]
theorem putR_eqf (i o m : Nat) (fv : Nat → SV) (f : Nat → Nat → SV) : putR i o m fv f i = putF o m fv (f i) := by
  funext k
  unfold putR
  rw [Nat.beq_refl, cond_true]
/-- elements 0 .. n-1 -/
def mkL {α : Type} (m : Nat → α) (n : Nat) : List α := (List.range n).map m
theorem mkL_len {α : Type} {m : Nat → α} {n : Nat} : (mkL m n).length = n := by simp [mkL]
theorem mkL_get {α : Type} [Inhabited α] {m : Nat → α} {n i : Nat} (h : i < n) : (mkL m n).getD i default = m i := by simp [mkL, List.getD_eq_getElem?_getD, h]
/-- the first i elements are those of m -/
def mixF {α : Type} [Inhabited α] (en : α → Nat → SV) (m : Nat → α) (l : List α) (i : Nat) : Nat → Nat → SV := fun j c => if j < i then en (m j) c else en (l.getD j default) c
theorem mix_lt {α : Type} [Inhabited α] {en : α → Nat → SV} {m : Nat → α} {l : List α} {i j c : Nat} (h : j < i) : mixF en m l i j c = en (m j) c := if_pos h
theorem mix_ge {α : Type} [Inhabited α] {en : α → Nat → SV} {m : Nat → α} {l : List α} {i j c : Nat} (h : i ≤ j) : mixF en m l i j c = en (l.getD j default) c := if_neg (by omega)
theorem mix_next {α : Type} [Inhabited α] {en : α → Nat → SV} {m : Nat → α} {l : List α} {i j c : Nat} (h : j ≠ i) : mixF en m l i j c = mixF en m l (i + 1) j c := by
  unfold mixF
  by_cases h1 : j < i
  · rw [if_pos h1, if_pos (by omega)]
  · rw [if_neg h1, if_neg (by omega)]
theorem mix_end {α : Type} [Inhabited α] {en : α → Nat → SV} {m : Nat → α} {l : List α} {n j c : Nat} (h : j < n) : mixF en m l n j c = rowF en (mkL m n) j c := by
  rw [mix_lt h]
  show _ = en ((mkL m n).getD j default) c
  rw [mkL_get h]
/-- a call that turns one piece, that is no block -/
theorem CallN.turn1 {P : Program} {f : FuncId} {ss : List SV} {L : Hpl} {nx : Nat} {K : KK} (i : Nat) (p : Hp) (Φ : SV → List Hp → Hp → Prop) (hl : lk i L = p) (he : p.isEmp = false) (hb : ∀ g t n f, p ≠ .box g t n f) (h : SMut P f ss p Φ)
    (k : ∀ r N p', Φ r N p' → K (r.lift nx) (keyN nx N (setK i p' L)) (nx + 10)) : CallN P f ss L nx K := by
  obtain ⟨j, h1, h2⟩ := setK_idx (i := i) (p := .emp) (L := L) (hasK_of (by rw [hl]; exact Hp.ne_emp he))
  rw [hl] at h1
  refine .gen (h.call j h1 fun r N p' hr => ⟨_, by rw [keyN_snd, h2], fun q g t n f hlt hk => ?_, k r N p' hr⟩)
  have key : ∀ (N : List Hp) (m : Nat) (L' : Hpl) (k : Nat) (x : Hp), k < m → lk k L' = x → lk k (keyN m N L') = x := by
    intro N
    induction N with
    | nil => intro m L' k x _ h; exact h
    | cons y N ih =>
      intro m L' k x hkm h
      simp only [keyN, lk]
      have : Nat.beq m k = false := by rw [Bool.eq_false_iff]; intro hb; have := Nat.eq_of_beq_eq_true hb; omega
      rw [this, cond_false]
      exact ih (m + 1) L' k x (by omega) h
  refine key N nx _ q _ hlt ?_
  rw [lk_setK_ne (by rintro rfl; rw [hl] at hk; exact hb _ _ _ _ hk)]
  exact hk
/-- a state between two codes, told as the walk goes on from it -/
structure Cut {ι : Type} (S : ι → St) (s : St) : Prop where
  h : ∃ i, SLe s (S i)
def Qcut {ι : Type} (S : ι → St) (Q : Exit → St → Prop) : Exit → St → Prop
  | .normal, s => Cut S s
  | e, s => Q e s
theorem HT.cut {P : Program} {n : Nat} {x y : Code} {Q : Exit → St → Prop} {s : St} {ι : Type} (S : ι → St) (h1 : HT P n x (Qcut S Q) s) (h2 : ∀ i, HT P n y Q (S i)) : HT P n (.seq x y) Q s :=
  HT.seq (h1.mono fun e s' hq => by
    cases e
    case normal =>
      obtain ⟨i, hle⟩ := hq.h
      exact HT.le hle (h2 i)
    all_goals exact hq)
/-- the walk stops ahead of a region -/
structure Stop (p : Prop) : Prop where
  h : p
theorem HT.stopR {P : Program} {n : Nat} {o : Array Oper} {d : Bool} {y : Code} {Q : Exit → St → Prop} {s : St} (r : Nat) (h : Stop (HT P n (.seq (.region r o d) y) Q s)) : HT P n (.seq (.region r o d) y) Q s := h.h
theorem own_arg {v : Value} {l : List SV} {w : World} {F : Nat → Prop} {x : Value} {k : Nat} (h : Has w F ((SV.val v :: l).getD k (.val undef)) x) : Has w F (upd (argF (SV.val v :: l)) 0 (.own 0 v) k) x := by
  unfold upd
  cases e : Nat.beq k 0
  · exact h
  · have := Nat.eq_of_beq_eq_true e
    subst this
    exact h
theorem own_argK {v : Value} {q : Nat} {l : List SV} {w : World} {F : Nat → Prop} {x : Value} {k : Nat} (h : Has w F ((SV.val v :: l).getD k (.val undef)) x) : Has w F (upd (argF (SV.val v :: l)) 0 (.own q v) k) x := by
  unfold upd
  cases e : Nat.beq k 0
  · exact h
  · have := Nat.eq_of_beq_eq_true e
    subst this
    exact h

theorem markIntS_c (l : List Int) (A : Option Addr) (cp : Nat) (z : Int) (hl : l.length ≤ 100000000) (hz : 0 ≤ z ∧ z ≤ 1000000000000000) : SMut Try.prog 17 [.val (.slice A l.length cp), .i z] (.row (.slice A l.length cp) 3 1 l.length (rowF intF l)) (fun r N p' => r = .i (z + l.length) ∧ N = [] ∧ p' = .row (.slice A l.length cp) 3 1 l.length (rowF intF (mkL (fun i => z + i) l.length))) := ⟨fun R => by
  refine SCalls.enter tt_ok Try.func17 (by kernel_rfl) rfl [(0, .row (.slice A l.length cp) 3 1 l.length (rowF intF l)), (900, .cust R)] rfl (upd (argF [.val (.slice A l.length cp), .i z]) 0 (.own 0 (.slice A l.length cp))) (fun w F x k h => own_arg h) (by simp) ?_
  repeat' (first | (with_reducible first | refine HT.seq ?_ | refine HT.block ?_ | refine Br.not ?_) | ((with_reducible first | refine HT.region tt_ok ?_ | refine HT.drawn tt_ok (by kernel_rfl) (by decide +kernel) ?_ | refine HT.drawnL tt_ok (by kernel_rfl) (by decide +kernel) ?_ | refine HT.cond ?_ | refine HT.ret ?_ | refine HT.skip ?_ | refine HT.exit ?_ | refine Br.tt ?_ | refine Br.ff ?_); conv => whnf) | ((with_reducible first | refine Br.dec (fun hc => ?_) (fun hc => ?_) | refine Br.eq (fun hc => ?_) (fun hc => ?_) | refine Br.ne (fun hc => ?_) (fun hc => ?_)) <;> (first | (exfalso; omega) | conv => whnf)) | ((with_reducible first | refine Br.ttE (by decide) ?_ | refine Br.ffE (by decide) ?_ | refine Br.mk (fun hc => ?_) (fun hc => ?_) | refine Chk.mk (by first | omega | with_reducible rfl | (refine ⟨rfl, ?_⟩; omega) | decide | exact ⟨rfl, by omega, by omega, rfl⟩ | exact ⟨by assumption, rfl, by omega, by omega⟩) ?_ | refine Ar.fit (by omega) ?_ | refine Eqv.shr1 ?_ | refine Ar.u64 (by omega) ?_) <;> conv => whnf) | (with_reducible exact trivial) | ((with_reducible refine And.intro ?_ ?_) <;> conv => whnf) | (intro gn; conv => whnf))
  refine HT.loopC [0, 4] (fun k : Nat => [(5, .i k), (1, .i (z + k))]) (fun k : Nat => [(0, .cells (mixF intF (fun i => z + i) l k))]) (fun k : Nat => k ≤ l.length) (fun k : Nat => l.length - k) 0 (Nat.zero_le _) ⟨(by first | with_reducible exact CellLe.refl _ | exact CellLe.own | exact CellLe.i (by omega) | exact CellLe.nil | exact CellLe.slNil | exact CellLe.refl _), (by first | with_reducible exact CellLe.refl _ | exact CellLe.own | exact CellLe.i (by omega) | exact CellLe.nil | exact CellLe.slNil | exact CellLe.refl _), trivial⟩ ?_ ?_
  · conv => whnf
    refine PP.start ?_; repeat (first | exact PP.nil | refine PP.take (by first | with_reducible exact Hp.Sub.refl _ | exact Hp.Sub.rd (by omega) | exact Hp.Sub.rowA rfl (fun i j hi hj => (mix_ge (Nat.zero_le _)).symm) | exact Hp.Sub.boxA (by (repeat (first | exact all_lt_zero | refine all_lt_succ (p := fun j => CellLe _ _) (by first | with_reducible exact CellLe.refl _ | exact CellLe.own | exact CellLe.i (by omega) | exact CellLe.nil | exact CellLe.slNil | exact CellLe.refl _) ?_))) | exact Hp.Sub.refl _) ?_ | refine PP.skip ?_)
  conv => whnf
  intro k hk
  conv => whnf
  repeat' (first | (with_reducible first | refine HT.seq ?_ | refine HT.block ?_ | refine Br.not ?_) | ((with_reducible first | refine HT.region tt_ok ?_ | refine HT.drawn tt_ok (by kernel_rfl) (by decide +kernel) ?_ | refine HT.drawnL tt_ok (by kernel_rfl) (by decide +kernel) ?_ | refine HT.cond ?_ | refine HT.ret ?_ | refine HT.skip ?_ | refine HT.exit ?_ | refine Br.tt ?_ | refine Br.ff ?_); conv => whnf) | ((with_reducible first | refine Br.dec (fun hc => ?_) (fun hc => ?_) | refine Br.eq (fun hc => ?_) (fun hc => ?_) | refine Br.ne (fun hc => ?_) (fun hc => ?_)) <;> (first | (exfalso; omega) | conv => whnf)) | ((with_reducible first | refine Br.ttE (by decide) ?_ | refine Br.ffE (by decide) ?_ | refine Br.mk (fun hc => ?_) (fun hc => ?_) | refine Chk.mk (by first | omega | with_reducible rfl | (refine ⟨rfl, ?_⟩; omega) | decide | exact ⟨rfl, by omega, by omega, rfl⟩ | exact ⟨by assumption, rfl, by omega, by omega⟩) ?_ | refine Ar.fit (by omega) ?_ | refine Eqv.shr1 ?_ | refine Ar.u64 (by omega) ?_) <;> conv => whnf) | (with_reducible exact trivial) | ((with_reducible refine And.intro ?_ ?_) <;> conv => whnf) | (intro gn; conv => whnf))
  all_goals (try simp only [Int.toNat_natCast] at *)
  · exact ⟨⟨k + 1, by omega, by omega, (by repeat' (first | exact trivial | refine ⟨rfl, ?_⟩)), ⟨(by first | with_reducible exact CellLe.refl _ | exact CellLe.own | exact CellLe.i (by omega) | exact CellLe.nil | exact CellLe.slNil | exact CellLe.refl _), (by first | with_reducible exact CellLe.refl _ | exact CellLe.own | exact CellLe.i (by omega) | exact CellLe.nil | exact CellLe.slNil | exact CellLe.refl _), trivial⟩, HLe.pk (by
      conv => whnf
      refine PP.start ?_; repeat (first | exact PP.nil | refine PP.take (by first | with_reducible exact Hp.Sub.refl _ | exact Hp.Sub.rd (by omega) | exact Hp.Sub.rowL rfl (fun w F i j hi hj => put_one (by rw [mix_lt (Nat.lt_succ_self k)]; exact fun _ h => h) (fun hne => LeW.of_eq (mix_next hne)) hj) | exact Hp.Sub.boxA (by (repeat (first | exact all_lt_zero | refine all_lt_succ (p := fun j => CellLe _ _) (by first | with_reducible exact CellLe.refl _ | exact CellLe.own | exact CellLe.i (by omega) | exact CellLe.nil | exact CellLe.slNil | exact CellLe.refl _) ?_))) | exact Hp.Sub.refl _) ?_ | refine PP.skip ?_))⟩⟩
  · obtain rfl : k = l.length := by omega
    exact Fin.mut [] _ (fun _ => 0) (by refine PP.start ?_; repeat (first | exact PP.nil | refine PP.take (by first | with_reducible exact Hp.Sub.refl _ | exact Hp.Sub.rd (by omega) | exact Hp.Sub.rowA rfl (fun i j hi hj => mix_end hi) | exact Hp.Sub.boxA (by (repeat (first | exact all_lt_zero | refine all_lt_succ (p := fun j => CellLe _ _) (by first | with_reducible exact CellLe.refl _ | exact CellLe.own | exact CellLe.i (by omega) | exact CellLe.nil | exact CellLe.slNil | exact CellLe.refl _) ?_))) | exact Hp.Sub.refl _) ?_ | refine PP.skip ?_)) ⟨rfl, rfl, rfl⟩⟩
theorem heldIntS_c (z : Int) (n : Nat) (hn : n ≤ 100000000) (hz : 0 ≤ z ∧ z ≤ 1000000000000000) : SRet Try.prog 18 [isl (mkL (fun i => z + i) n), .i z] (· = .i (z + n)) := ⟨fun R => by
  have hlen : (mkL (fun i : Nat => z + i) n).length = n := mkL_len
  refine SCalls.enter tt_ok Try.func18 (by kernel_rfl) rfl [(900, .cust R)] rfl (argF _) (fun w F v k h => h) (by simp) ?_
  repeat' (first | (with_reducible first | refine HT.seq ?_ | refine HT.block ?_ | refine Br.not ?_) | ((with_reducible first | refine HT.region tt_ok ?_ | refine HT.drawn tt_ok (by kernel_rfl) (by decide +kernel) ?_ | refine HT.drawnL tt_ok (by kernel_rfl) (by decide +kernel) ?_ | refine HT.cond ?_ | refine HT.ret ?_ | refine HT.skip ?_ | refine HT.exit ?_ | refine Br.tt ?_ | refine Br.ff ?_); conv => whnf) | ((with_reducible first | refine Br.dec (fun hc => ?_) (fun hc => ?_) | refine Br.eq (fun hc => ?_) (fun hc => ?_) | refine Br.ne (fun hc => ?_) (fun hc => ?_)) <;> (first | (exfalso; omega) | conv => whnf)) | ((with_reducible first | refine Br.ttE (by decide) ?_ | refine Br.ffE (by decide) ?_ | refine Br.mk (fun hc => ?_) (fun hc => ?_) | refine Chk.mk (by first | omega | with_reducible rfl | (refine ⟨rfl, ?_⟩; omega) | decide | exact ⟨rfl, by omega, by omega, rfl⟩ | exact ⟨by assumption, rfl, by omega, by omega⟩) ?_ | refine Ar.fit (by omega) ?_ | refine Eqv.shr1 ?_ | refine Ar.u64 (by omega) ?_) <;> conv => whnf) | (with_reducible exact trivial) | ((with_reducible refine And.intro ?_ ?_) <;> conv => whnf) | (intro gn; conv => whnf))
  refine HT.loopC [0] (fun k : Nat => [(5, .i k), (1, .i (z + k))]) (fun k : Nat => []) (fun k : Nat => k ≤ n) (fun k : Nat => n - k) 0 (Nat.zero_le _) ⟨(by first | with_reducible exact CellLe.refl _ | exact CellLe.own | exact CellLe.i (by omega) | exact CellLe.nil | exact CellLe.slNil | exact CellLe.refl _), (by first | with_reducible exact CellLe.refl _ | exact CellLe.own | exact CellLe.i (by omega) | exact CellLe.nil | exact CellLe.slNil | exact CellLe.refl _), trivial⟩ ?_ ?_
  · conv => whnf
    refine PP.start ?_; repeat (first | exact PP.nil | refine PP.take (by first | with_reducible exact Hp.Sub.refl _ | exact Hp.Sub.rd (by omega) | exact Hp.Sub.boxA (by (repeat (first | exact all_lt_zero | refine all_lt_succ (p := fun j => CellLe _ _) (by first | with_reducible exact CellLe.refl _ | exact CellLe.own | exact CellLe.i (by omega) | exact CellLe.nil | exact CellLe.slNil | exact CellLe.refl _) ?_))) | exact Hp.Sub.refl _) ?_ | refine PP.skip ?_)
  conv => whnf
  intro k hk
  have hg : k < n → (mkL (fun i : Nat => z + i) n).getD ((k : Int)).toNat default = z + k := fun h => by rw [Int.toNat_natCast]; exact mkL_get h
  conv => whnf
  repeat' (first | (with_reducible first | refine HT.seq ?_ | refine HT.block ?_ | refine Br.not ?_) | ((with_reducible first | refine HT.region tt_ok ?_ | refine HT.drawn tt_ok (by kernel_rfl) (by decide +kernel) ?_ | refine HT.drawnL tt_ok (by kernel_rfl) (by decide +kernel) ?_ | refine HT.cond ?_ | refine HT.ret ?_ | refine HT.skip ?_ | refine HT.exit ?_ | refine Br.tt ?_ | refine Br.ff ?_); conv => whnf) | ((with_reducible first | refine Br.dec (fun hc => ?_) (fun hc => ?_) | refine Br.eq (fun hc => ?_) (fun hc => ?_) | refine Br.ne (fun hc => ?_) (fun hc => ?_)) <;> (first | (exfalso; omega) | conv => whnf)) | ((with_reducible first | refine Br.ttE (by decide) ?_ | refine Br.ffE (by decide) ?_ | refine Br.mk (fun hc => ?_) (fun hc => ?_) | refine Chk.mk (by first | omega | with_reducible rfl | (refine ⟨rfl, ?_⟩; omega) | decide | exact ⟨rfl, by omega, by omega, rfl⟩ | exact ⟨by assumption, rfl, by omega, by omega⟩) ?_ | refine Ar.fit (by omega) ?_ | refine Eqv.shr1 ?_ | refine Ar.u64 (by omega) ?_) <;> conv => whnf) | (with_reducible exact trivial) | ((with_reducible refine And.intro ?_ ?_) <;> conv => whnf) | (intro gn; conv => whnf))
  all_goals first
    | (exfalso; omega)
    | exact ⟨⟨k + 1, by omega, by omega, (by repeat' (first | exact trivial | refine ⟨rfl, ?_⟩)), ⟨(by first | with_reducible exact CellLe.refl _ | exact CellLe.own | exact CellLe.i (by omega) | exact CellLe.nil | exact CellLe.slNil | exact CellLe.refl _), (by first | with_reducible exact CellLe.refl _ | exact CellLe.own | exact CellLe.i (by omega) | exact CellLe.nil | exact CellLe.slNil | exact CellLe.refl _), trivial⟩, HLe.pk (by (conv => whnf); (refine PP.start ?_; repeat (first | exact PP.nil | refine PP.take (by first | with_reducible exact Hp.Sub.refl _ | exact Hp.Sub.rd (by omega) | exact Hp.Sub.boxA (by (repeat (first | exact all_lt_zero | refine all_lt_succ (p := fun j => CellLe _ _) (by first | with_reducible exact CellLe.refl _ | exact CellLe.own | exact CellLe.i (by omega) | exact CellLe.nil | exact CellLe.slNil | exact CellLe.refl _) ?_))) | exact Hp.Sub.refl _) ?_ | refine PP.skip ?_)))⟩⟩
    | exact Fin.pureS (by repeat (first | exact List.Sublist.refl _ | refine List.Sublist.cons_cons _ ?_ | refine List.Sublist.cons _ ?_)) (sv_i (by omega))⟩
end Go.Proofs.Ytcagfmbboliohaa
/-! YtcagfmbboliohaaRi -/
set_option linter.all false
namespace Go.Proofs.Ytcagfmbboliohaa
open Go.RowKit

/-- the index of a node, level by level -/
def hlf (i : Nat) : Nat → Nat
  | 0 => i
  | k + 1 => hlf i k / 2
theorem ptr_arg {l : List SV} {g q : Nat} {w : World} {F : Nat → Prop} {x : Value} {k : Nat} (hl : l.getD 1 (.val undef) = .val (.pointer (some ⟨g, 0, none⟩))) (h : Has w F (l.getD k (.val undef)) x) : Has w F (upd (argF l) 1 (.ptr q g 0) k) x := by
  unfold upd
  cases e : Nat.beq k 1
  · exact h
  · have := Nat.eq_of_beq_eq_true e
    subst this
    rw [hl] at h
    exact h
theorem widths_o (n : Int) : SNew Try.prog 45 [.i n] (fun r N => ∃ g, r = .fn 55 1 (litF [.ptr 0 g 0]) ∧ N = [.box g 3 1 (litF [.i n])]) := ⟨fun R => by
  refine SCalls.enter tt_ok Try.func45 (by kernel_rfl) rfl [(900, .cust R)] rfl (argF _) (fun w F v k h => h) (by simp) ?_
  repeat' (first | (with_reducible first | refine HT.seq ?_ | refine HT.block ?_ | refine Br.not ?_) | ((with_reducible first | refine HT.region tt_ok ?_ | refine HT.drawn tt_ok (by kernel_rfl) (by decide +kernel) ?_ | refine HT.drawnL tt_ok (by kernel_rfl) (by decide +kernel) ?_ | refine HT.cond ?_ | refine HT.ret ?_ | refine HT.skip ?_ | refine HT.exit ?_ | refine Br.tt ?_ | refine Br.ff ?_); conv => whnf) | ((with_reducible first | refine Br.dec (fun hc => ?_) (fun hc => ?_) | refine Br.eq (fun hc => ?_) (fun hc => ?_) | refine Br.ne (fun hc => ?_) (fun hc => ?_)) <;> (first | (exfalso; omega) | conv => whnf)) | ((with_reducible first | refine Br.ttE (by decide) ?_ | refine Br.ffE (by decide) ?_ | refine Br.mk (fun hc => ?_) (fun hc => ?_) | refine Chk.mk (by first | omega | with_reducible rfl | (refine ⟨rfl, ?_⟩; omega) | decide | exact ⟨rfl, by omega, by omega, rfl⟩ | exact ⟨by assumption, rfl, by omega, by omega⟩) ?_ | refine Ar.fit (by omega) ?_ | refine Eqv.shr1 ?_ | refine Ar.u64 (by omega) ?_) <;> conv => whnf) | (with_reducible exact trivial) | ((with_reducible refine And.intro ?_ ?_) <;> conv => whnf) | (intro gn; conv => whnf))
  exact Fin.pick (r' := .fn 55 1 (litF [.ptr 0 gn 0])) (H' := [.box gn 3 1 (litF [.i n]), .cust R]) (by refine PP.start ?_; repeat (first | exact PP.nil | refine PP.take (by first | with_reducible exact Hp.Sub.refl _ | exact Hp.Sub.rd (by omega) | exact Hp.Sub.boxA (by (repeat (first | exact all_lt_zero | refine all_lt_succ (p := fun j => CellLe _ _) (by first | with_reducible exact CellLe.refl _ | exact CellLe.own | exact CellLe.i (by omega) | exact CellLe.nil | exact CellLe.slNil | exact CellLe.refl _) ?_))) | exact Hp.Sub.refl _) ?_ | refine PP.skip ?_)) (fun w F v ⟨vs, e, hn, h⟩ => ⟨vs, e, hn, fun k hk => by obtain rfl : k = 0 := (by omega); exact h 0 hk⟩) ⟨[_], rfl, _, rfl, rfl⟩⟩
theorem levels_o (l : List Int) : SNew Try.prog 53 [isl l] (fun r N => ∃ g, r = .fn 56 1 (litF [.ptr 0 g 0]) ∧ N = [.box g 25 1 (litF [isl l])]) := ⟨fun R => by
  refine SCalls.enter tt_ok Try.func53 (by kernel_rfl) rfl [(900, .cust R)] rfl (argF _) (fun w F v k h => h) (by simp) ?_
  repeat' (first | (with_reducible first | refine HT.seq ?_ | refine HT.block ?_ | refine Br.not ?_) | ((with_reducible first | refine HT.region tt_ok ?_ | refine HT.drawn tt_ok (by kernel_rfl) (by decide +kernel) ?_ | refine HT.drawnL tt_ok (by kernel_rfl) (by decide +kernel) ?_ | refine HT.cond ?_ | refine HT.ret ?_ | refine HT.skip ?_ | refine HT.exit ?_ | refine Br.tt ?_ | refine Br.ff ?_); conv => whnf) | ((with_reducible first | refine Br.dec (fun hc => ?_) (fun hc => ?_) | refine Br.eq (fun hc => ?_) (fun hc => ?_) | refine Br.ne (fun hc => ?_) (fun hc => ?_)) <;> (first | (exfalso; omega) | conv => whnf)) | ((with_reducible first | refine Br.ttE (by decide) ?_ | refine Br.ffE (by decide) ?_ | refine Br.mk (fun hc => ?_) (fun hc => ?_) | refine Chk.mk (by first | omega | with_reducible rfl | (refine ⟨rfl, ?_⟩; omega) | decide | exact ⟨rfl, by omega, by omega, rfl⟩ | exact ⟨by assumption, rfl, by omega, by omega⟩) ?_ | refine Ar.fit (by omega) ?_ | refine Eqv.shr1 ?_ | refine Ar.u64 (by omega) ?_) <;> conv => whnf) | (with_reducible exact trivial) | ((with_reducible refine And.intro ?_ ?_) <;> conv => whnf) | (intro gn; conv => whnf))
  exact Fin.pick (r' := .fn 56 1 (litF [.ptr 0 gn 0])) (H' := [.box gn 25 1 (litF [isl l]), .cust R]) (by refine PP.start ?_; repeat (first | exact PP.nil | refine PP.take (by first | with_reducible exact Hp.Sub.refl _ | exact Hp.Sub.rd (by omega) | exact Hp.Sub.boxA (by (repeat (first | exact all_lt_zero | refine all_lt_succ (p := fun j => CellLe _ _) (by first | with_reducible exact CellLe.refl _ | exact CellLe.own | exact CellLe.i (by omega) | exact CellLe.nil | exact CellLe.slNil | exact CellLe.refl _) ?_))) | exact Hp.Sub.refl _) ?_ | refine PP.skip ?_)) (fun w F v ⟨vs, e, hn, h⟩ => ⟨vs, e, hn, fun k hk => by obtain rfl : k = 0 := (by omega); exact h 0 hk⟩) ⟨[_], rfl, _, rfl, rfl⟩⟩
theorem widths_it (g n : Nat) (h0 : 1 ≤ n) (h1 : n ≤ 16) : SIter Try.prog 55 [.val (.pointer (some ⟨g, 0, none⟩))] [.box g 3 1 (litF [.i n])] (dep n) (fun k => .i (wid n k)) := ⟨fun l J Jx hy y hJ R => by
  refine SCalls.enter tt_ok Try.func55 (by kernel_rfl) rfl [(0, .box g 3 1 (litF [.i n])), (790, .cust y), (900, .cust R)] rfl (upd (argF [.val (.func (.yield l) #[] #[]), .val (.pointer (some ⟨g, 0, none⟩))]) 1 (.ptr 0 g 0)) (fun w F x k h => ptr_arg rfl h) (by simp) ?_
  repeat' (first | (with_reducible first | refine HT.seq ?_ | refine HT.block ?_ | refine Br.not ?_) | ((with_reducible first | refine HT.region tt_ok ?_ | refine HT.drawn tt_ok (by kernel_rfl) (by decide +kernel) ?_ | refine HT.drawnL tt_ok (by kernel_rfl) (by decide +kernel) ?_ | refine HT.cond ?_ | refine HT.ret ?_ | refine HT.skip ?_ | refine HT.exit ?_ | refine Br.tt ?_ | refine Br.ff ?_); conv => whnf) | ((with_reducible first | refine Br.dec (fun hc => ?_) (fun hc => ?_) | refine Br.eq (fun hc => ?_) (fun hc => ?_) | refine Br.ne (fun hc => ?_) (fun hc => ?_)) <;> (first | (exfalso; omega) | conv => whnf)) | ((with_reducible first | refine Br.ttE (by decide) ?_ | refine Br.ffE (by decide) ?_ | refine Br.mk (fun hc => ?_) (fun hc => ?_) | refine Chk.mk (by first | omega | with_reducible rfl | (refine ⟨rfl, ?_⟩; omega) | decide | exact ⟨rfl, by omega, by omega, rfl⟩ | exact ⟨by assumption, rfl, by omega, by omega⟩) ?_ | refine Ar.fit (by omega) ?_ | refine Eqv.shr1 ?_ | refine Ar.u64 (by omega) ?_) <;> conv => whnf) | (with_reducible exact trivial) | ((with_reducible refine And.intro ?_ ?_) <;> conv => whnf) | (intro gn; conv => whnf))
  refine HT.loopC [0, 1] (fun x : Nat × Heaplet => []) (fun x : Nat × Heaplet => [(0, .box (litF [.i ((wid n x.1 : Nat) : Int)])), (790, .cust x.2)]) (fun x : Nat × Heaplet => x.1 < dep n ∧ J x.1 x.2) (fun x : Nat × Heaplet => dep n - x.1) (0, y) ⟨dep_pos, hJ⟩ trivial ?_ ?_
  · conv => whnf
    refine PP.start ?_; repeat (first | exact PP.nil | refine PP.take (by first | with_reducible exact Hp.Sub.refl _ | exact Hp.Sub.rd (by omega) | exact Hp.Sub.boxA (by (repeat (first | exact all_lt_zero | refine all_lt_succ (p := fun j => CellLe _ _) (by first | with_reducible exact CellLe.refl _ | exact CellLe.own | exact CellLe.i (by omega) | exact CellLe.nil | exact CellLe.slNil | exact CellLe.refl _) ?_))) | exact Hp.Sub.refl _) ?_ | refine PP.skip ?_)
  conv => whnf
  rintro ⟨k, y1⟩ ⟨hk, hJ1⟩
  dsimp only at hk hJ1 ⊢
  have hq : (((wid n k : Nat) : Int) + 1).tdiv 2 = ((wid n (k + 1) : Nat) : Int) := td2 (wid n k + 1)
  have hwl := wid_last hk
  have hwn := wid_le (n := n) k
  have hwn2 := wid_le (n := n) (k + 1)
  conv => whnf
  repeat' (first | (with_reducible first | refine HT.seq ?_ | refine HT.block ?_ | refine Br.not ?_) | ((with_reducible first | refine HT.region tt_ok ?_ | refine HT.drawn tt_ok (by kernel_rfl) (by decide +kernel) ?_ | refine HT.drawnL tt_ok (by kernel_rfl) (by decide +kernel) ?_ | refine HT.cond ?_ | refine HT.ret ?_ | refine HT.skip ?_ | refine HT.exit ?_ | refine Br.tt ?_ | refine Br.ff ?_); conv => whnf) | ((with_reducible first | refine Br.dec (fun hc => ?_) (fun hc => ?_) | refine Br.eq (fun hc => ?_) (fun hc => ?_) | refine Br.ne (fun hc => ?_) (fun hc => ?_)) <;> (first | (exfalso; omega) | conv => whnf)) | ((with_reducible first | refine Br.ttE (by decide) ?_ | refine Br.ffE (by decide) ?_ | refine Br.mk (fun hc => ?_) (fun hc => ?_) | refine Chk.mk (by first | omega | with_reducible rfl | (refine ⟨rfl, ?_⟩; omega) | decide | exact ⟨rfl, by omega, by omega, rfl⟩ | exact ⟨by assumption, rfl, by omega, by omega⟩) ?_ | refine Ar.fit (by omega) ?_ | refine Eqv.shr1 ?_ | refine Ar.u64 (by omega) ?_) <;> conv => whnf) | ((first | (refine Fgn.yield (i := 790) rfl rfl rfl rfl (fun R => hy k y1 R hk hJ1) ?_; rintro r y2 (⟨rfl, hJ2⟩ | ⟨rfl, hJ2⟩))) <;> conv => whnf) | (with_reducible exact trivial) | ((with_reducible refine And.intro ?_ ?_) <;> conv => whnf) | (intro gn; conv => whnf))
  all_goals first
    | exact Fin.pick (r' := .any) (H' := [_, _, _]) (by refine PP.start ?_; repeat (first | exact PP.nil | refine PP.take (by first | with_reducible exact Hp.Sub.refl _ | exact Hp.Sub.rd (by omega) | exact Hp.Sub.boxA (by (repeat (first | exact all_lt_zero | refine all_lt_succ (p := fun j => CellLe _ _) (by first | with_reducible exact CellLe.refl _ | exact CellLe.own | exact CellLe.i (by omega) | exact CellLe.nil | exact CellLe.slNil | exact CellLe.refl _) ?_))) | exact Hp.Sub.refl _) ?_ | refine PP.skip ?_)) (fun _ _ _ _ => trivial) ⟨[_], _, rfl, .inr hJ2⟩
    | exact Fin.pick (r' := .any) (H' := [_, _, _]) (by refine PP.start ?_; repeat (first | exact PP.nil | refine PP.take (by first | with_reducible exact Hp.Sub.refl _ | exact Hp.Sub.rd (by omega) | exact Hp.Sub.boxA (by (repeat (first | exact all_lt_zero | refine all_lt_succ (p := fun j => CellLe _ _) (by first | with_reducible exact CellLe.refl _ | exact CellLe.own | exact CellLe.i (by omega) | exact CellLe.nil | exact CellLe.slNil | exact CellLe.refl _) ?_))) | exact Hp.Sub.refl _) ?_ | refine PP.skip ?_)) (fun _ _ _ _ => trivial) ⟨[_], _, rfl, (have hN : k + 1 = dep n := hwl.1 (by omega); .inl (hN ▸ hJ2))⟩
    | exact ⟨⟨(k + 1, y2), ⟨by dsimp only; omega, hJ2⟩, by dsimp only; omega, (by repeat' (first | exact trivial | refine ⟨rfl, ?_⟩)), trivial, HLe.pk (by (conv => whnf); (refine PP.start ?_; repeat (first | exact PP.nil | refine PP.take (by first | with_reducible exact Hp.Sub.refl _ | exact Hp.Sub.rd (by omega) | exact Hp.Sub.boxA (by (repeat (first | exact all_lt_zero | refine all_lt_succ (p := fun j => CellLe _ _) (by first | with_reducible exact CellLe.refl _ | exact CellLe.own | exact CellLe.i (by omega) | exact CellLe.nil | exact CellLe.slNil | exact CellLe.refl _ | exact CellLe.i hq) ?_))) | exact Hp.Sub.refl _) ?_ | refine PP.skip ?_)))⟩⟩
    | trace_state⟩
theorem levels_it (g : Nat) (ls : List Int) (hok : lfOk ls = true) : SIter Try.prog 56 [.val (.pointer (some ⟨g, 0, none⟩))] [.box g 25 1 (litF [isl ls])] (dep ls.length) (fun k => isl (lvl ls k)) := ⟨fun l J Jx hy y hJ R => by
  obtain ⟨h16, hd⟩ := lfOk_iff.1 hok
  refine SCalls.enter tt_ok Try.func56 (by kernel_rfl) rfl [(0, .box g 25 1 (litF [isl ls])), (790, .cust y), (900, .cust R)] rfl (upd (argF [.val (.func (.yield l) #[] #[]), .val (.pointer (some ⟨g, 0, none⟩))]) 1 (.ptr 0 g 0)) (fun w F x k h => ptr_arg rfl h) (by simp) ?_
  repeat' (first | (with_reducible first | refine HT.seq ?_ | refine HT.block ?_ | refine Br.not ?_) | ((with_reducible first | refine HT.region tt_ok ?_ | refine HT.drawn tt_ok (by kernel_rfl) (by decide +kernel) ?_ | refine HT.drawnL tt_ok (by kernel_rfl) (by decide +kernel) ?_ | refine HT.cond ?_ | refine HT.ret ?_ | refine HT.skip ?_ | refine HT.exit ?_ | refine Br.tt ?_ | refine Br.ff ?_); conv => whnf) | ((with_reducible first | refine Br.dec (fun hc => ?_) (fun hc => ?_) | refine Br.eq (fun hc => ?_) (fun hc => ?_) | refine Br.ne (fun hc => ?_) (fun hc => ?_)) <;> (first | (exfalso; omega) | conv => whnf)) | ((with_reducible first | refine Br.ttE (by decide) ?_ | refine Br.ffE (by decide) ?_ | refine Br.mk (fun hc => ?_) (fun hc => ?_) | refine Chk.mk (by first | omega | with_reducible rfl | (refine ⟨rfl, ?_⟩; omega) | decide | exact ⟨rfl, by omega, by omega, rfl⟩ | exact ⟨by assumption, rfl, by omega, by omega⟩) ?_ | refine Ar.fit (by omega) ?_ | refine Eqv.shr1 ?_ | refine Ar.u64 (by omega) ?_) <;> conv => whnf) | ((first | refine CallN.ret1 (clone_c ls (by omega) (by omega)) ?_) <;> conv => whnf) | (with_reducible exact trivial) | ((with_reducible refine And.intro ?_ ?_) <;> conv => whnf) | (intro gn; conv => whnf))
  refine HT.loopC [0, 1] (fun x : Nat × Heaplet => [(3, isl (lvl ls x.1))]) (fun x : Nat × Heaplet => [(790, .cust x.2)]) (fun x : Nat × Heaplet => x.1 < dep ls.length ∧ J x.1 x.2) (fun x : Nat × Heaplet => dep ls.length - x.1) (0, y) ⟨dep_pos, hJ⟩ ⟨(by first | with_reducible exact CellLe.refl _ | exact CellLe.own | exact CellLe.i (by omega) | exact CellLe.nil | exact CellLe.slNil | exact CellLe.refl _), trivial⟩ ?_ ?_
  · conv => whnf
    refine PP.start ?_; repeat (first | exact PP.nil | refine PP.take (by first | with_reducible exact Hp.Sub.refl _ | exact Hp.Sub.rd (by omega) | exact Hp.Sub.boxA (by (repeat (first | exact all_lt_zero | refine all_lt_succ (p := fun j => CellLe _ _) (by first | with_reducible exact CellLe.refl _ | exact CellLe.own | exact CellLe.i (by omega) | exact CellLe.nil | exact CellLe.slNil | exact CellLe.refl _) ?_))) | exact Hp.Sub.refl _) ?_ | refine PP.skip ?_)
  conv => whnf
  rintro ⟨k, y1⟩ ⟨hk, hJ1⟩
  dsimp only at hk hJ1 ⊢
  have hwl := wid_last hk
  have hwn := wid_le (n := ls.length) k
  have hll := lvl_len (l := ls) k
  have hAb := above_c (lvl ls k) (by omega) (lvl_d hd k)
  conv => whnf
  repeat' (first | (with_reducible first | refine HT.seq ?_ | refine HT.block ?_ | refine Br.not ?_) | ((with_reducible first | refine HT.region tt_ok ?_ | refine HT.drawn tt_ok (by kernel_rfl) (by decide +kernel) ?_ | refine HT.drawnL tt_ok (by kernel_rfl) (by decide +kernel) ?_ | refine HT.cond ?_ | refine HT.ret ?_ | refine HT.skip ?_ | refine HT.exit ?_ | refine Br.tt ?_ | refine Br.ff ?_); conv => whnf) | ((with_reducible first | refine Br.dec (fun hc => ?_) (fun hc => ?_) | refine Br.eq (fun hc => ?_) (fun hc => ?_) | refine Br.ne (fun hc => ?_) (fun hc => ?_)) <;> (first | (exfalso; omega) | conv => whnf)) | ((with_reducible first | refine Br.ttE (by decide) ?_ | refine Br.ffE (by decide) ?_ | refine Br.mk (fun hc => ?_) (fun hc => ?_) | refine Chk.mk (by first | omega | with_reducible rfl | (refine ⟨rfl, ?_⟩; omega) | decide | exact ⟨rfl, by omega, by omega, rfl⟩ | exact ⟨by assumption, rfl, by omega, by omega⟩) ?_ | refine Ar.fit (by omega) ?_ | refine Eqv.shr1 ?_ | refine Ar.u64 (by omega) ?_) <;> conv => whnf) | ((first | (refine Fgn.yield (i := 790) rfl rfl rfl rfl (fun R => hy k y1 R hk hJ1) ?_; rintro r y2 (⟨rfl, hJ2⟩ | ⟨rfl, hJ2⟩)) | refine CallN.ret1 (hAb) ?_) <;> conv => whnf) | (with_reducible exact trivial) | ((with_reducible refine And.intro ?_ ?_) <;> conv => whnf) | (intro gn; conv => whnf))
  all_goals first
    | exact Fin.pick (r' := .any) (H' := [_, _, _]) (by refine PP.start ?_; repeat (first | exact PP.nil | refine PP.take (by first | with_reducible exact Hp.Sub.refl _ | exact Hp.Sub.rd (by omega) | exact Hp.Sub.boxA (by (repeat (first | exact all_lt_zero | refine all_lt_succ (p := fun j => CellLe _ _) (by first | with_reducible exact CellLe.refl _ | exact CellLe.own | exact CellLe.i (by omega) | exact CellLe.nil | exact CellLe.slNil | exact CellLe.refl _) ?_))) | exact Hp.Sub.refl _) ?_ | refine PP.skip ?_)) (fun _ _ _ _ => trivial) ⟨[_], _, rfl, .inr hJ2⟩
    | exact Fin.pick (r' := .any) (H' := [_, _, _]) (by refine PP.start ?_; repeat (first | exact PP.nil | refine PP.take (by first | with_reducible exact Hp.Sub.refl _ | exact Hp.Sub.rd (by omega) | exact Hp.Sub.boxA (by (repeat (first | exact all_lt_zero | refine all_lt_succ (p := fun j => CellLe _ _) (by first | with_reducible exact CellLe.refl _ | exact CellLe.own | exact CellLe.i (by omega) | exact CellLe.nil | exact CellLe.slNil | exact CellLe.refl _) ?_))) | exact Hp.Sub.refl _) ?_ | refine PP.skip ?_)) (fun _ _ _ _ => trivial) ⟨[_], _, rfl, (have hN : k + 1 = dep ls.length := hwl.1 (by omega); .inl (hN ▸ hJ2))⟩
    | exact ⟨⟨(k + 1, y2), ⟨by dsimp only; omega, hJ2⟩, by dsimp only; omega, (by repeat' (first | exact trivial | refine ⟨rfl, ?_⟩)), ⟨(by first | with_reducible exact CellLe.refl _ | exact CellLe.own | exact CellLe.i (by omega) | exact CellLe.nil | exact CellLe.slNil | exact CellLe.refl _), trivial⟩, HLe.pk (by (conv => whnf); (refine PP.start ?_; repeat (first | exact PP.nil | refine PP.take (by first | with_reducible exact Hp.Sub.refl _ | exact Hp.Sub.rd (by omega) | exact Hp.Sub.boxA (by (repeat (first | exact all_lt_zero | refine all_lt_succ (p := fun j => CellLe _ _) (by first | with_reducible exact CellLe.refl _ | exact CellLe.own | exact CellLe.i (by omega) | exact CellLe.nil | exact CellLe.slNil | exact CellLe.refl _) ?_))) | exact Hp.Sub.refl _) ?_ | refine PP.skip ?_)))⟩⟩
    | trace_state⟩
end Go.Proofs.Ytcagfmbboliohaa
/-! YtcagfmbboliohaaRj -/
set_option linter.all false
namespace Go.Proofs.Ytcagfmbboliohaa
open Go.RowKit

/-- the heap told anew -/
theorem HT0.heap {P : Program} {n : Nat} {c : Code} {ds : List Deferred} {Q : Exit → St → List Deferred → Prop} {s : St} (L' : Hpl) (hl : HLe s.L L') (k : HT0 P n c ds Q ⟨s.σ, L', s.nx⟩) : HT0 P n c ds Q s :=
  ⟨fun a w F hs => by
    obtain ⟨F', hF, hh⟩ := hl w F hs.heap
    exact Code.wpIn_mono (fun e a' w' ⟨s2, F2, ds2, q1, q2, q3, q4⟩ => ⟨s2, F2, ds2, q1, q2, q3.mono hF, fun b hb => q4 b (hF b hb)⟩) (k.h a w F' ⟨hs.size, hs.defers, fun k => (hs.fr k).mono hF, hh⟩)⟩
theorem xor_fin : ∀ j : _root_.Fin 16, bits .xor .i64 (j.val : Int) 1 = ((sib j.val : Nat) : Int) := by decide +kernel
theorem xor_sib {i : Nat} (h : i < 16) : bits .xor .i64 (i : Int) 1 = ((sib i : Nat) : Int) := xor_fin ⟨i, h⟩
theorem hlf_lt {i n : Nat} (h : i < n) : ∀ k, hlf i k < wid n k
  | 0 => h
  | k + 1 => by have := hlf_lt h k; show hlf i k / 2 < (wid n k + 1) / 2; omega
theorem prf_go {lv : List Int} {q : Nat} (hs : ¬ sib q < lv.length) : prf lv q = prf (upL lv) (q / 2) := by
  by_cases h : lv.length ≤ 1
  · rw [prf_one h, prf_one (by rw [upL_len]; omega)]
  · exact prf_out h hs
theorem sib_one {q m : Nat} (hq : q < m) (hs : sib q < m) : ¬ m ≤ 1 := fun h => by
  obtain rfl : q = 0 := by omega
  have : sib 0 = 1 := rfl
  omega
theorem climb_go {m q : Nat} {n : Int} {pf : List Int} (hs : ¬ sib q < m) : climb m q n pf = climb ((m + 1) / 2) (q / 2) n pf := by
  by_cases h : m ≤ 1
  · rw [climb_one h, climb_one (by omega)]
  · exact climb_out h hs
theorem root_lvl {l : List Int} : ∀ k, k < dep l.length → rootL (lvl l k) = rootL l
  | 0, _ => rfl
  | k + 1, h => by
    have ih := root_lvl (l := l) k (by omega)
    have hw := wid_last (n := l.length) (k := k) (by omega)
    have hl := lvl_len (l := l) k
    rw [← ih]
    exact (rootL_up (by omega)).symm
/-- what the root's variable holds behind k rounds -/
def rtv (l : List Int) : Nat → Int
  | 0 => -1
  | k + 1 => (lvl l k).getD 0 default
theorem rtv_end {l : List Int} (h : lfOk l = true) : rtv l (dep l.length) = mrt l := by
  have hp := dep_pos (n := l.length)
  obtain ⟨k, hk⟩ : ∃ k, dep l.length = k + 1 := ⟨dep l.length - 1, by omega⟩
  have hw := (wid_last (n := l.length) (k := k) (by omega)).2 hk.symm
  rw [hk, show mrt l = rootL l from if_pos h, ← root_lvl k (by omega), rootL_one (by rw [lvl_len]; exact hw)]
  rfl
theorem lvl_pos {l : List Int} (h : 0 < l.length) (k : Nat) : 0 < (lvl l k).length := by rw [lvl_len]; exact wid_pos h k
set_option maxHeartbeats 1000000 in
theorem implMR_c (l : List Int) (hl : l.length ≤ 10000000) : SRet Try.prog 42 [isl l] (· = .i (mrt l)) := ⟨fun R => by
  have hO := implLf_c l hl
  cases hok : lfOk l
  · refine SCalls.enterM tt_ok Try.func42 (by kernel_rfl) rfl [(900, .cust R)] rfl (argF _) (fun w F v k h => h) (by simp) ?_
    conv => whnf
    repeat' (first | (with_reducible first | refine HT0.seq ?_ | refine HT0.block ?_) | ((with_reducible first | refine HT0.cond ?_ | refine HT0.ret ?_ | refine HT0.of (HT.region tt_ok ?_) | refine HT0.of (HT.drawn tt_ok (by kernel_rfl) (by decide +kernel) ?_) | refine HT0.of (HT.drawnL tt_ok (by kernel_rfl) (by decide +kernel) ?_) | refine HT0.of (HT.skip ?_) | refine HT0.of (HT.exit ?_)); conv => whnf) | (with_reducible first | refine HT.seq ?_ | refine HT.block ?_ | refine Br.not ?_) | ((with_reducible first | refine HT.region tt_ok ?_ | refine HT.drawn tt_ok (by kernel_rfl) (by decide +kernel) ?_ | refine HT.drawnL tt_ok (by kernel_rfl) (by decide +kernel) ?_ | refine HT.cond ?_ | refine HT.ret ?_ | refine HT.skip ?_ | refine HT.exit ?_ | refine Br.tt ?_ | refine Br.ff ?_); conv => whnf) | ((with_reducible first | refine Br.dec (fun hc => ?_) (fun hc => ?_) | refine Br.eq (fun hc => ?_) (fun hc => ?_) | refine Br.ne (fun hc => ?_) (fun hc => ?_)) <;> (first | (exfalso; omega) | conv => whnf)) | ((with_reducible first | refine Br.ttE (by decide) ?_ | refine Br.ffE (by decide) ?_ | refine Br.mk (fun hc => ?_) (fun hc => ?_) | refine Chk.mk (by first | omega | with_reducible rfl | (refine ⟨rfl, ?_⟩; omega) | decide | exact ⟨rfl, by omega, by omega, rfl⟩ | exact ⟨by assumption, rfl, by omega, by omega⟩) ?_ | refine Ar.fit (by omega) ?_ | refine Eqv.shr1 ?_ | refine Ar.u64 (by omega) ?_) <;> conv => whnf) | ((first | refine CallN.ret1 (hO.bf hok) ?_) <;> conv => whnf) | ((with_reducible refine Qmk.mk rfl ?_); conv => whnf) | (with_reducible exact trivial) | ((with_reducible refine And.intro ?_ ?_) <;> conv => whnf) | (intro gn; conv => whnf))
    all_goals exact Fin.pureS (by repeat (first | exact List.Sublist.refl _ | refine List.Sublist.cons_cons _ ?_ | refine List.Sublist.cons _ ?_)) (sv_i (by unfold mrt; rw [hok]; rfl))
  obtain ⟨h16, hd⟩ := lfOk_iff.1 hok
  refine SCalls.enterM tt_ok Try.func42 (by kernel_rfl) rfl [(900, .cust R)] rfl (argF _) (fun w F v k h => h) (by simp) ?_
  conv => whnf
  repeat' (first | (with_reducible first | refine HT0.seq ?_ | refine HT0.block ?_) | ((with_reducible first | refine HT0.cond ?_ | refine HT0.ret ?_ | refine HT0.of (HT.region tt_ok ?_) | refine HT0.of (HT.drawn tt_ok (by kernel_rfl) (by decide +kernel) ?_) | refine HT0.of (HT.drawnL tt_ok (by kernel_rfl) (by decide +kernel) ?_) | refine HT0.of (HT.skip ?_) | refine HT0.of (HT.exit ?_)); conv => whnf) | (with_reducible first | refine HT.seq ?_ | refine HT.block ?_ | refine Br.not ?_) | ((with_reducible first | refine HT.region tt_ok ?_ | refine HT.drawn tt_ok (by kernel_rfl) (by decide +kernel) ?_ | refine HT.drawnL tt_ok (by kernel_rfl) (by decide +kernel) ?_ | refine HT.cond ?_ | refine HT.ret ?_ | refine HT.skip ?_ | refine HT.exit ?_ | refine Br.tt ?_ | refine Br.ff ?_); conv => whnf) | ((with_reducible first | refine Br.dec (fun hc => ?_) (fun hc => ?_) | refine Br.eq (fun hc => ?_) (fun hc => ?_) | refine Br.ne (fun hc => ?_) (fun hc => ?_)) <;> (first | (exfalso; omega) | conv => whnf)) | ((with_reducible first | refine Br.ttE (by decide) ?_ | refine Br.ffE (by decide) ?_ | refine Br.mk (fun hc => ?_) (fun hc => ?_) | refine Chk.mk (by first | omega | with_reducible rfl | (refine ⟨rfl, ?_⟩; omega) | decide | exact ⟨rfl, by omega, by omega, rfl⟩ | exact ⟨by assumption, rfl, by omega, by omega⟩) ?_ | refine Ar.fit (by omega) ?_ | refine Eqv.shr1 ?_ | refine Ar.u64 (by omega) ?_) <;> conv => whnf) | ((first | refine CallN.ret1 (hO.bt hok) ?_ | (refine CallN.new _ (levels_o l) ?_; rintro r N ⟨g, rfl, rfl⟩)) <;> conv => whnf) | ((with_reducible refine Qmk.mk rfl ?_); conv => whnf) | (with_reducible exact trivial) | ((with_reducible refine And.intro ?_ ?_) <;> conv => whnf) | (intro gn; conv => whnf))
  refine HT0.heap [(111, .box g 25 1 (litF [isl l])), (110, .box gn 3 1 (litF [.i (-1)])), (900, .cust R)] (HLe.pk (by (conv => whnf); (refine PP.start ?_; repeat (first | exact PP.nil | refine PP.take (by first | with_reducible exact Hp.Sub.refl _ | exact Hp.Sub.rd (by omega) | exact Hp.Sub.boxA (by (repeat (first | exact all_lt_zero | refine all_lt_succ (p := fun j => CellLe _ _) (by first | with_reducible exact CellLe.refl _ | exact CellLe.own | exact CellLe.i (by omega) | exact CellLe.nil | exact CellLe.slNil | exact CellLe.refl _) ?_))) | exact Hp.Sub.refl _) ?_ | refine PP.skip ?_)))) ?_
  refine HT0.rangeFunc (gf := 56) (m := 1) rfl (A := [.box g 25 1 (litF [isl l])]) (Lc := [(110, .box gn 3 1 (litF [.i (-1)])), (900, .cust R)]) (List.Perm.refl _) (levels_it g l hok) (by decide) (fun k L1 => L1 = [(110, .box gn 3 1 (litF [.i (rtv l k)])), (900, .cust R)]) (fun _ => False) rfl 150 ?_ ?_ ?_
  · rintro k L1 R1 hk rfl
    have h0 := lvl_pos (l := l) (by omega) k
    conv => whnf
    repeat' (first | (with_reducible first | refine HT.seq ?_ | refine HT.block ?_ | refine Br.not ?_) | ((with_reducible first | refine HT.region tt_ok ?_ | refine HT.drawn tt_ok (by kernel_rfl) (by decide +kernel) ?_ | refine HT.drawnL tt_ok (by kernel_rfl) (by decide +kernel) ?_ | refine HT.cond ?_ | refine HT.ret ?_ | refine HT.skip ?_ | refine HT.exit ?_ | refine Br.tt ?_ | refine Br.ff ?_); conv => whnf) | ((with_reducible first | refine Br.dec (fun hc => ?_) (fun hc => ?_) | refine Br.eq (fun hc => ?_) (fun hc => ?_) | refine Br.ne (fun hc => ?_) (fun hc => ?_)) <;> (first | (exfalso; omega) | conv => whnf)) | ((with_reducible first | refine Br.ttE (by decide) ?_ | refine Br.ffE (by decide) ?_ | refine Br.mk (fun hc => ?_) (fun hc => ?_) | refine Chk.mk (by first | omega | with_reducible rfl | (refine ⟨rfl, ?_⟩; omega) | decide | exact ⟨rfl, by omega, by omega, rfl⟩ | exact ⟨by assumption, rfl, by omega, by omega⟩) ?_ | refine Ar.fit (by omega) ?_ | refine Eqv.shr1 ?_ | refine Ar.u64 (by omega) ?_) <;> conv => whnf) | (with_reducible exact trivial) | ((with_reducible refine And.intro ?_ ?_) <;> conv => whnf) | (intro gn; conv => whnf))
    refine ⟨_, rfl, fun R2 => ?_⟩
    conv => whnf
    repeat' (first | (with_reducible first | refine HT.seq ?_ | refine HT.block ?_ | refine Br.not ?_) | ((with_reducible first | refine HT.region tt_ok ?_ | refine HT.drawn tt_ok (by kernel_rfl) (by decide +kernel) ?_ | refine HT.drawnL tt_ok (by kernel_rfl) (by decide +kernel) ?_ | refine HT.cond ?_ | refine HT.ret ?_ | refine HT.skip ?_ | refine HT.exit ?_ | refine Br.tt ?_ | refine Br.ff ?_); conv => whnf) | ((with_reducible first | refine Br.dec (fun hc => ?_) (fun hc => ?_) | refine Br.eq (fun hc => ?_) (fun hc => ?_) | refine Br.ne (fun hc => ?_) (fun hc => ?_)) <;> (first | (exfalso; omega) | conv => whnf)) | ((with_reducible first | refine Br.ttE (by decide) ?_ | refine Br.ffE (by decide) ?_ | refine Br.mk (fun hc => ?_) (fun hc => ?_) | refine Chk.mk (by first | omega | with_reducible rfl | (refine ⟨rfl, ?_⟩; omega) | decide | exact ⟨rfl, by omega, by omega, rfl⟩ | exact ⟨by assumption, rfl, by omega, by omega⟩) ?_ | refine Ar.fit (by omega) ?_ | refine Eqv.shr1 ?_ | refine Ar.u64 (by omega) ?_) <;> conv => whnf) | (with_reducible exact trivial) | ((with_reducible refine And.intro ?_ ?_) <;> conv => whnf) | (intro gn; conv => whnf))
    exact ⟨⟨_, HLe.pk (by (conv => whnf); (refine PP.start ?_; repeat (first | exact PP.nil | refine PP.take (by first | with_reducible exact Hp.Sub.refl _ | exact Hp.Sub.rd (by omega) | exact Hp.Sub.boxA (by (repeat (first | exact all_lt_zero | refine all_lt_succ (p := fun j => CellLe _ _) (by first | with_reducible exact CellLe.refl _ | exact CellLe.own | exact CellLe.i (by omega) | exact CellLe.nil | exact CellLe.slNil | exact CellLe.refl _) ?_))) | exact Hp.Sub.refl _) ?_ | refine PP.skip ?_))), rfl⟩⟩
  · rintro L1 D rfl
    conv => whnf
    refine HT0.last ?_
    conv => whnf
    repeat' (first | (with_reducible first | refine HT.seq ?_ | refine HT.block ?_ | refine Br.not ?_) | ((with_reducible first | refine HT.region tt_ok ?_ | refine HT.drawn tt_ok (by kernel_rfl) (by decide +kernel) ?_ | refine HT.drawnL tt_ok (by kernel_rfl) (by decide +kernel) ?_ | refine HT.cond ?_ | refine HT.ret ?_ | refine HT.skip ?_ | refine HT.exit ?_ | refine Br.tt ?_ | refine Br.ff ?_); conv => whnf) | ((with_reducible first | refine Br.dec (fun hc => ?_) (fun hc => ?_) | refine Br.eq (fun hc => ?_) (fun hc => ?_) | refine Br.ne (fun hc => ?_) (fun hc => ?_)) <;> (first | (exfalso; omega) | conv => whnf)) | ((with_reducible first | refine Br.ttE (by decide) ?_ | refine Br.ffE (by decide) ?_ | refine Br.mk (fun hc => ?_) (fun hc => ?_) | refine Chk.mk (by first | omega | with_reducible rfl | (refine ⟨rfl, ?_⟩; omega) | decide | exact ⟨rfl, by omega, by omega, rfl⟩ | exact ⟨by assumption, rfl, by omega, by omega⟩) ?_ | refine Ar.fit (by omega) ?_ | refine Eqv.shr1 ?_ | refine Ar.u64 (by omega) ?_) <;> conv => whnf) | ((with_reducible refine Qmk.mk rfl ?_); conv => whnf) | (with_reducible exact trivial) | ((with_reducible refine And.intro ?_ ?_) <;> conv => whnf) | (intro gn; conv => whnf))
    all_goals exact Fin.pureS (by repeat (first | exact List.Sublist.refl _ | refine List.Sublist.cons_cons _ ?_ | refine List.Sublist.cons _ ?_)) (sv_i (rtv_end hok))
  · rintro L1 D h; exact h.elim⟩
end Go.Proofs.Ytcagfmbboliohaa
/-! YtcagfmbboliohaaRk -/
set_option linter.all false
namespace Go.Proofs.Ytcagfmbboliohaa
open Go.RowKit

theorem wid_end {n : Nat} : wid n (dep n) ≤ 1 := by
  have hp := dep_pos (n := n)
  obtain ⟨k, hk⟩ : ∃ k, dep n = k + 1 := ⟨dep n - 1, by omega⟩
  have hw := (wid_last (n := n) (k := k) (by omega)).2 hk.symm
  rw [hk]
  show (wid n k + 1) / 2 ≤ 1
  omega
theorem drop_cons {pf : List Int} {u : Nat} (h : u < pf.length) : pf.drop u = pf.getD u default :: pf.drop (u + 1) := by
  rw [List.drop_eq_getElem_cons h, gDi h]

set_option maxHeartbeats 2000000 in
theorem implMP_o (l : List Int) (i : Int) (hl : l.length ≤ 10000000) : SNew Try.prog 38 [isl l, .i i] (MadeL (· = mpf l i) 3) := ⟨fun R => by
  have hO := implLf_c l hl
  cases hok : lfOk l
  · refine SCalls.enterM tt_ok Try.func38 (by kernel_rfl) rfl [(900, .cust R)] rfl (argF _) (fun w F v k h => h) (by simp) ?_
    conv => whnf
    repeat' (first | (with_reducible first | refine HT0.seq ?_ | refine HT0.block ?_) | ((with_reducible first | refine HT0.cond ?_ | refine HT0.ret ?_ | refine HT0.of (HT.region tt_ok ?_) | refine HT0.of (HT.drawn tt_ok (by kernel_rfl) (by decide +kernel) ?_) | refine HT0.of (HT.drawnL tt_ok (by kernel_rfl) (by decide +kernel) ?_) | refine HT0.of (HT.skip ?_) | refine HT0.of (HT.exit ?_)); conv => whnf) | (with_reducible first | refine HT.seq ?_ | refine HT.block ?_ | refine Br.not ?_) | ((with_reducible first | refine HT.region tt_ok ?_ | refine HT.drawn tt_ok (by kernel_rfl) (by decide +kernel) ?_ | refine HT.drawnL tt_ok (by kernel_rfl) (by decide +kernel) ?_ | refine HT.cond ?_ | refine HT.ret ?_ | refine HT.skip ?_ | refine HT.exit ?_ | refine Br.tt ?_ | refine Br.ff ?_); conv => whnf) | ((with_reducible first | refine Br.dec (fun hc => ?_) (fun hc => ?_) | refine Br.eq (fun hc => ?_) (fun hc => ?_) | refine Br.ne (fun hc => ?_) (fun hc => ?_)) <;> (first | (exfalso; omega) | conv => whnf)) | ((with_reducible first | refine Br.ttE (by decide) ?_ | refine Br.ffE (by decide) ?_ | refine Br.mk (fun hc => ?_) (fun hc => ?_) | refine Chk.mk (by first | omega | with_reducible rfl | (refine ⟨rfl, ?_⟩; omega) | decide | exact ⟨rfl, by omega, by omega, rfl⟩ | exact ⟨by assumption, rfl, by omega, by omega⟩) ?_ | refine Ar.fit (by omega) ?_ | refine Eqv.shr1 ?_ | refine Ar.u64 (by omega) ?_) <;> conv => whnf) | ((first | refine CallN.ret1 (hO.bf hok) ?_) <;> conv => whnf) | ((with_reducible refine Qmk.mk rfl ?_); conv => whnf) | (with_reducible exact trivial) | ((with_reducible refine And.intro ?_ ?_) <;> conv => whnf) | (intro gn; conv => whnf))
    all_goals exact Fin.news [_] (fun _ => 0) (by refine PP.start ?_; repeat (first | exact PP.nil | refine PP.take (by first | with_reducible exact Hp.Sub.refl _ | exact Hp.Sub.rd (by omega) | exact Hp.Sub.rowA rfl (fun i j hi hj => absurd hi (by omega)) | exact Hp.Sub.boxA (by (repeat (first | exact all_lt_zero | refine all_lt_succ (p := fun j => CellLe _ _) (by first | with_reducible exact CellLe.refl _ | exact CellLe.own | exact CellLe.i (by omega) | exact CellLe.nil | exact CellLe.slNil | exact CellLe.refl _) ?_))) | exact Hp.Sub.refl _) ?_ | refine PP.skip ?_)) ⟨[], _, _, _, (mpf_bad hok).symm, rfl, rfl, rfl⟩
  by_cases hi : 0 ≤ i ∧ i < l.length
  rotate_left
  · refine SCalls.enterM tt_ok Try.func38 (by kernel_rfl) rfl [(900, .cust R)] rfl (argF _) (fun w F v k h => h) (by simp) ?_
    conv => whnf
    repeat' (first | (with_reducible first | refine HT0.seq ?_ | refine HT0.block ?_) | ((with_reducible first | refine HT0.cond ?_ | refine HT0.ret ?_ | refine HT0.of (HT.region tt_ok ?_) | refine HT0.of (HT.drawn tt_ok (by kernel_rfl) (by decide +kernel) ?_) | refine HT0.of (HT.drawnL tt_ok (by kernel_rfl) (by decide +kernel) ?_) | refine HT0.of (HT.skip ?_) | refine HT0.of (HT.exit ?_)); conv => whnf) | (with_reducible first | refine HT.seq ?_ | refine HT.block ?_ | refine Br.not ?_) | ((with_reducible first | refine HT.region tt_ok ?_ | refine HT.drawn tt_ok (by kernel_rfl) (by decide +kernel) ?_ | refine HT.drawnL tt_ok (by kernel_rfl) (by decide +kernel) ?_ | refine HT.cond ?_ | refine HT.ret ?_ | refine HT.skip ?_ | refine HT.exit ?_ | refine Br.tt ?_ | refine Br.ff ?_); conv => whnf) | ((with_reducible first | refine Br.dec (fun hc => ?_) (fun hc => ?_) | refine Br.eq (fun hc => ?_) (fun hc => ?_) | refine Br.ne (fun hc => ?_) (fun hc => ?_)) <;> (first | (exfalso; omega) | conv => whnf)) | ((with_reducible first | refine Br.ttE (by decide) ?_ | refine Br.ffE (by decide) ?_ | refine Br.mk (fun hc => ?_) (fun hc => ?_) | refine Chk.mk (by first | omega | with_reducible rfl | (refine ⟨rfl, ?_⟩; omega) | decide | exact ⟨rfl, by omega, by omega, rfl⟩ | exact ⟨by assumption, rfl, by omega, by omega⟩) ?_ | refine Ar.fit (by omega) ?_ | refine Eqv.shr1 ?_ | refine Ar.u64 (by omega) ?_) <;> conv => whnf) | ((first | refine CallN.ret1 (hO.bt hok) ?_) <;> conv => whnf) | ((with_reducible refine Qmk.mk rfl ?_); conv => whnf) | (with_reducible exact trivial) | ((with_reducible refine And.intro ?_ ?_) <;> conv => whnf) | (intro gn; conv => whnf))
    all_goals first | (exfalso; omega) | exact Fin.news [_] (fun _ => 0) (by refine PP.start ?_; repeat (first | exact PP.nil | refine PP.take (by first | with_reducible exact Hp.Sub.refl _ | exact Hp.Sub.rd (by omega) | exact Hp.Sub.rowA rfl (fun i j hi hj => absurd hi (by omega)) | exact Hp.Sub.boxA (by (repeat (first | exact all_lt_zero | refine all_lt_succ (p := fun j => CellLe _ _) (by first | with_reducible exact CellLe.refl _ | exact CellLe.own | exact CellLe.i (by omega) | exact CellLe.nil | exact CellLe.slNil | exact CellLe.refl _) ?_))) | exact Hp.Sub.refl _) ?_ | refine PP.skip ?_)) ⟨[], _, _, _, (mpf_out hi).symm, rfl, rfl, rfl⟩
  obtain ⟨i0, rfl⟩ : ∃ i0 : Nat, i = i0 := ⟨i.toNat, by omega⟩
  obtain ⟨h16, hd⟩ := lfOk_iff.1 hok
  have hM := mpf_ok hok (i := i0) (by omega)
  have hpl := prf_len _ l i0 rfl
  refine SCalls.enterM tt_ok Try.func38 (by kernel_rfl) rfl [(900, .cust R)] rfl (argF _) (fun w F v k h => h) (by simp) ?_
  conv => whnf
  repeat' (first | (with_reducible first | refine HT0.seq ?_ | refine HT0.block ?_) | ((with_reducible first | refine HT0.cond ?_ | refine HT0.ret ?_ | refine HT0.of (HT.region tt_ok ?_) | refine HT0.of (HT.drawn tt_ok (by kernel_rfl) (by decide +kernel) ?_) | refine HT0.of (HT.drawnL tt_ok (by kernel_rfl) (by decide +kernel) ?_) | refine HT0.of (HT.skip ?_) | refine HT0.of (HT.exit ?_)); conv => whnf) | (with_reducible first | refine HT.seq ?_ | refine HT.block ?_ | refine Br.not ?_) | ((with_reducible first | refine HT.region tt_ok ?_ | refine HT.drawn tt_ok (by kernel_rfl) (by decide +kernel) ?_ | refine HT.drawnL tt_ok (by kernel_rfl) (by decide +kernel) ?_ | refine HT.cond ?_ | refine HT.ret ?_ | refine HT.skip ?_ | refine HT.exit ?_ | refine Br.tt ?_ | refine Br.ff ?_); conv => whnf) | ((with_reducible first | refine Br.dec (fun hc => ?_) (fun hc => ?_) | refine Br.eq (fun hc => ?_) (fun hc => ?_) | refine Br.ne (fun hc => ?_) (fun hc => ?_)) <;> (first | (exfalso; omega) | conv => whnf)) | ((with_reducible first | refine Br.ttE (by decide) ?_ | refine Br.ffE (by decide) ?_ | refine Br.mk (fun hc => ?_) (fun hc => ?_) | refine Chk.mk (by first | omega | with_reducible rfl | (refine ⟨rfl, ?_⟩; omega) | decide | exact ⟨rfl, by omega, by omega, rfl⟩ | exact ⟨by assumption, rfl, by omega, by omega⟩) ?_ | refine Ar.fit (by omega) ?_ | refine Eqv.shr1 ?_ | refine Ar.u64 (by omega) ?_) <;> conv => whnf) | ((first | refine CallN.ret1 (hO.bt hok) ?_ | (refine CallN.new _ (levels_o l) ?_; rintro r N ⟨g, rfl, rfl⟩)) <;> conv => whnf) | ((with_reducible refine Qmk.mk rfl ?_); conv => whnf) | (with_reducible exact trivial) | ((with_reducible refine And.intro ?_ ?_) <;> conv => whnf) | (intro gn; conv => whnf))
  all_goals (try (exfalso; omega))
  rename_i gi gr hc9
  revert gn; intro gp
  refine HT0.heap ((113, .box g 25 1 (litF [isl l])) :: [(102, .box gp 25 1 (litF [.own 101 (.slice (some ⟨gr, 0, none⟩) 0 0)])), (101, .row (.slice (some ⟨gr, 0, none⟩) 0 0) 3 1 0 (rowF intF [])), (100, .box gi 3 1 (litF [.i ((hlf i0 0 : Nat) : Int)])), (900, .cust R)]) (HLe.pk (by (conv => whnf); (refine PP.start ?_; repeat (first | exact PP.nil | refine PP.take (by first | with_reducible exact Hp.Sub.refl _ | exact Hp.Sub.rd (by omega) | exact Hp.Sub.rowA rfl (fun i j hi hj => absurd hi (by omega)) | exact Hp.Sub.boxA (by (repeat (first | exact all_lt_zero | refine all_lt_succ (p := fun j => CellLe _ _) (by first | with_reducible exact CellLe.refl _ | exact CellLe.own | exact CellLe.i (by omega) | exact CellLe.nil | exact CellLe.slNil | exact CellLe.refl _) ?_))) | exact Hp.Sub.refl _) ?_ | refine PP.skip ?_)))) ?_
  refine HT0.rangeFunc (gf := 56) (m := 1) rfl (A := [.box g 25 1 (litF [isl l])]) (Lc := [(102, .box gp 25 1 (litF [.own 101 (.slice (some ⟨gr, 0, none⟩) 0 0)])), (101, .row (.slice (some ⟨gr, 0, none⟩) 0 0) 3 1 0 (rowF intF [])), (100, .box gi 3 1 (litF [.i ((hlf i0 0 : Nat) : Int)])), (900, .cust R)]) (List.Perm.refl _) (levels_it g l hok) (by decide) (fun k L1 => ∃ (acc : List Int) (A : Option Addr) (n c : Nat), L1 = [(102, .box gp 25 1 (litF [.own 101 (.slice A n c)])), (101, .row (.slice A n c) 3 1 n (rowF intF acc)), (100, .box gi 3 1 (litF [.i ((hlf i0 k : Nat) : Int)])), (900, .cust R)] ∧ n = acc.length ∧ acc ++ prf (lvl l k) (hlf i0 k) = prf l i0) (fun _ => False) ⟨[], _, _, _, rfl, rfl, rfl⟩ 150 ?_ ?_ ?_
  · rintro k L1 R1 hk ⟨acc, A, n, c, rfl, rfl, hp⟩
    have h0 := lvl_pos (l := l) (by omega) k
    have hll := lvl_len (l := l) k
    have hwl := wid_le (n := l.length) k
    have hq := hlf_lt (i := i0) (n := l.length) (by omega) k
    have hwl2 := wid_le (n := l.length) (k + 1)
    have hq2 := hlf_lt (i := i0) (n := l.length) (by omega) (k + 1)
    have hal : acc.length ≤ 16 := by have := congrArg List.length hp; rw [List.length_append] at this; omega
    have htd : ((hlf i0 k : Nat) : Int).tdiv 2 = ((hlf i0 (k + 1) : Nat) : Int) := td2 (hlf i0 k)
    conv => whnf
    repeat' (first | (with_reducible first | refine HT.seq ?_ | refine HT.block ?_ | refine Br.not ?_) | ((with_reducible first | refine HT.region tt_ok ?_ | refine HT.drawn tt_ok (by kernel_rfl) (by decide +kernel) ?_ | refine HT.drawnL tt_ok (by kernel_rfl) (by decide +kernel) ?_ | refine HT.cond ?_ | refine HT.ret ?_ | refine HT.skip ?_ | refine HT.exit ?_ | refine Br.tt ?_ | refine Br.ff ?_); conv => whnf) | ((with_reducible first | refine Br.dec (fun hc => ?_) (fun hc => ?_) | refine Br.eq (fun hc => ?_) (fun hc => ?_) | refine Br.ne (fun hc => ?_) (fun hc => ?_)) <;> (first | (exfalso; omega) | conv => whnf)) | ((with_reducible first | refine Br.ttE (by decide) ?_ | refine Br.ffE (by decide) ?_ | refine Br.mk (fun hc => ?_) (fun hc => ?_) | refine Chk.mk (by first | omega | with_reducible rfl | (refine ⟨rfl, ?_⟩; omega) | decide | exact ⟨rfl, by omega, by omega, rfl⟩ | exact ⟨by assumption, rfl, by omega, by omega⟩) ?_ | refine Ar.fit (by omega) ?_ | refine Eqv.shr1 ?_ | refine Ar.u64 (by omega) ?_) <;> conv => whnf) | (with_reducible exact trivial) | ((with_reducible refine And.intro ?_ ?_) <;> conv => whnf) | (intro gn; conv => whnf))
    refine ⟨_, rfl, fun R2 => ?_⟩
    conv => whnf
    repeat' (first | (with_reducible first | refine HT.seq ?_ | refine HT.block ?_ | refine Br.not ?_) | ((with_reducible first | refine HT.region tt_ok ?_ | refine HT.drawn tt_ok (by kernel_rfl) (by decide +kernel) ?_ | refine HT.drawnL tt_ok (by kernel_rfl) (by decide +kernel) ?_ | refine HT.cond ?_ | refine HT.ret ?_ | refine HT.skip ?_ | refine HT.exit ?_ | refine Br.tt ?_ | refine Br.ff ?_); conv => whnf) | ((with_reducible first | refine Br.dec (fun hc => ?_) (fun hc => ?_) | refine Br.eq (fun hc => ?_) (fun hc => ?_) | refine Br.ne (fun hc => ?_) (fun hc => ?_)) <;> (first | (exfalso; omega) | conv => whnf)) | ((with_reducible first | refine Br.ttE (by decide) ?_ | refine Br.ffE (by decide) ?_ | refine Br.mk (fun hc => ?_) (fun hc => ?_) | refine Chk.mk (by first | omega | with_reducible rfl | (refine ⟨rfl, ?_⟩; omega) | decide | exact ⟨rfl, by omega, by omega, rfl⟩ | exact ⟨by assumption, rfl, by omega, by omega⟩) ?_ | refine Ar.fit (by omega) ?_ | refine Eqv.shr1 ?_ | refine Ar.u64 (by omega) ?_) <;> conv => whnf) | ((refine Eqv.mk ⟨_, xor_sib (by omega), ?_⟩); conv => whnf) | (with_reducible exact trivial) | ((with_reducible refine And.intro ?_ ?_) <;> conv => whnf) | (intro gn; conv => whnf))
    all_goals (try simp only [Int.toNat_natCast] at *)
    all_goals first
      | (have hsb : sib (hlf i0 k) < (lvl l k).length := (by omega)
         rename_i A2
         exact ⟨⟨[(102, .box gp 25 1 (litF [.own 101 (.slice A2 (acc.length + 1) gn)])), (101, .row (.slice A2 (acc.length + 1) gn) 3 1 (acc.length + 1) (rowF intF (acc ++ [(lvl l k).getD (sib (hlf i0 k)) default]))), (100, .box gi 3 1 (litF [.i ((hlf i0 (k + 1) : Nat) : Int)])), (900, .cust R)], HLe.pk (by (conv => whnf); (refine PP.start ?_; repeat (first | exact PP.nil | refine PP.take (by first | with_reducible exact Hp.Sub.refl _ | exact Hp.Sub.rd (by omega) | exact Hp.Sub.rowA (by simp) (fun i j hi hj => cat_ints hi hj) | exact Hp.Sub.boxA (by (repeat (first | exact all_lt_zero | refine all_lt_succ (p := fun j => CellLe _ _) (by first | with_reducible exact CellLe.refl _ | exact CellLe.own | exact CellLe.i (by omega) | exact CellLe.nil | exact CellLe.slNil | exact CellLe.refl _ | exact CellLe.i htd) ?_))) | exact Hp.Sub.refl _) ?_ | refine PP.skip ?_))), _, A2, _, gn, rfl, (by rw [List.length_append]; rfl), (by rw [← hp, prf_in (l := lvl l k) (i := hlf i0 k) (sib_one (by omega) hsb) hsb]; simp; rfl)⟩⟩)
      | (have hsb : ¬ sib (hlf i0 k) < (lvl l k).length := (by omega)
         exact ⟨⟨[(102, .box gp 25 1 (litF [.own 101 (.slice A acc.length c)])), (101, .row (.slice A acc.length c) 3 1 acc.length (rowF intF acc)), (100, .box gi 3 1 (litF [.i ((hlf i0 (k + 1) : Nat) : Int)])), (900, .cust R)], HLe.pk (by (conv => whnf); (refine PP.start ?_; repeat (first | exact PP.nil | refine PP.take (by first | with_reducible exact Hp.Sub.refl _ | exact Hp.Sub.rd (by omega) | exact Hp.Sub.boxA (by (repeat (first | exact all_lt_zero | refine all_lt_succ (p := fun j => CellLe _ _) (by first | with_reducible exact CellLe.refl _ | exact CellLe.own | exact CellLe.i (by omega) | exact CellLe.nil | exact CellLe.slNil | exact CellLe.refl _ | exact CellLe.i htd) ?_))) | exact Hp.Sub.refl _) ?_ | refine PP.skip ?_))), acc, A, _, c, rfl, rfl, (by rw [← hp, prf_go hsb]; rfl)⟩⟩)
      | trace_state
  · rintro L1 D ⟨acc, A, n, c, rfl, rfl, hp⟩
    conv => whnf
    refine HT0.last ?_
    conv => whnf
    repeat' (first | (with_reducible first | refine HT.seq ?_ | refine HT.block ?_ | refine Br.not ?_) | ((with_reducible first | refine HT.region tt_ok ?_ | refine HT.drawn tt_ok (by kernel_rfl) (by decide +kernel) ?_ | refine HT.drawnL tt_ok (by kernel_rfl) (by decide +kernel) ?_ | refine HT.cond ?_ | refine HT.ret ?_ | refine HT.skip ?_ | refine HT.exit ?_ | refine Br.tt ?_ | refine Br.ff ?_); conv => whnf) | ((with_reducible first | refine Br.dec (fun hc => ?_) (fun hc => ?_) | refine Br.eq (fun hc => ?_) (fun hc => ?_) | refine Br.ne (fun hc => ?_) (fun hc => ?_)) <;> (first | (exfalso; omega) | conv => whnf)) | ((with_reducible first | refine Br.ttE (by decide) ?_ | refine Br.ffE (by decide) ?_ | refine Br.mk (fun hc => ?_) (fun hc => ?_) | refine Chk.mk (by first | omega | with_reducible rfl | (refine ⟨rfl, ?_⟩; omega) | decide | exact ⟨rfl, by omega, by omega, rfl⟩ | exact ⟨by assumption, rfl, by omega, by omega⟩) ?_ | refine Ar.fit (by omega) ?_ | refine Eqv.shr1 ?_ | refine Ar.u64 (by omega) ?_) <;> conv => whnf) | ((with_reducible refine Qmk.mk rfl ?_); conv => whnf) | (with_reducible exact trivial) | ((with_reducible refine And.intro ?_ ?_) <;> conv => whnf) | (intro gn; conv => whnf))
    all_goals exact Fin.news [_] (fun _ => 0) (by refine PP.start ?_; repeat (first | exact PP.nil | refine PP.take (by first | with_reducible exact Hp.Sub.refl _ | exact Hp.Sub.rd (by omega) | exact Hp.Sub.rowA (by first | rfl | omega) (fun i j hi hj => rfl) | exact Hp.Sub.boxA (by (repeat (first | exact all_lt_zero | refine all_lt_succ (p := fun j => CellLe _ _) (by first | with_reducible exact CellLe.refl _ | exact CellLe.own | exact CellLe.i (by omega) | exact CellLe.nil | exact CellLe.slNil | exact CellLe.refl _) ?_))) | exact Hp.Sub.refl _) ?_ | refine PP.skip ?_)) ⟨acc, _, _, _, (by rw [hM, ← hp, prf_one (by rw [lvl_len]; exact wid_end), List.append_nil]), rfl, rfl, rfl⟩
  · rintro L1 D h; exact h.elim⟩
end Go.Proofs.Ytcagfmbboliohaa
