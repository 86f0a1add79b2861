/- Marks that are written into lists and looked for again. -/
import Derived.Test.YtbcmpfhemangpaaExI
set_option linter.all false
namespace Go.Proofs.Ytbcmpfhemangpaa
open Go.RowKit

theorem putR_ne {i o m j k : Nat} {fv : Nat → SV} {f : Nat → Nat → SV} (h : j ≠ i) : putR i o m fv f j k = f j k := by
  unfold putR
  have e : Nat.beq j i = false := by rw [Bool.eq_false_iff]; exact fun hb => h (Nat.eq_of_beq_eq_true hb)
  rw [e, cond_false]
theorem putR_eqf (i o m : Nat) (fv : Nat → SV) (f : Nat → Nat → SV) : putR i o m fv f i = putF o m fv (f i) := by
  funext k
  unfold putR
  rw [Nat.beq_refl, cond_true]
/-- elements 0 .. n-1 -/
def mkL {α : Type} (m : Nat → α) (n : Nat) : List α := (List.range n).map m
theorem mkL_len {α : Type} {m : Nat → α} {n : Nat} : (mkL m n).length = n := by simp [mkL]
theorem mkL_get {α : Type} [Inhabited α] {m : Nat → α} {n i : Nat} (h : i < n) : (mkL m n).getD i default = m i := by simp [mkL, List.getD_eq_getElem?_getD, h]
/-- the first i elements are those of m -/
def mixF {α : Type} [Inhabited α] (en : α → Nat → SV) (m : Nat → α) (l : List α) (i : Nat) : Nat → Nat → SV := fun j c => if j < i then en (m j) c else en (l.getD j default) c
theorem mix_lt {α : Type} [Inhabited α] {en : α → Nat → SV} {m : Nat → α} {l : List α} {i j c : Nat} (h : j < i) : mixF en m l i j c = en (m j) c := if_pos h
theorem mix_ge {α : Type} [Inhabited α] {en : α → Nat → SV} {m : Nat → α} {l : List α} {i j c : Nat} (h : i ≤ j) : mixF en m l i j c = en (l.getD j default) c := if_neg (by omega)
theorem mix_next {α : Type} [Inhabited α] {en : α → Nat → SV} {m : Nat → α} {l : List α} {i j c : Nat} (h : j ≠ i) : mixF en m l i j c = mixF en m l (i + 1) j c := by
  unfold mixF
  by_cases h1 : j < i
  · rw [if_pos h1, if_pos (by omega)]
  · rw [if_neg h1, if_neg (by omega)]
theorem mix_end {α : Type} [Inhabited α] {en : α → Nat → SV} {m : Nat → α} {l : List α} {n j c : Nat} (h : j < n) : mixF en m l n j c = rowF en (mkL m n) j c := by
  rw [mix_lt h]
  show _ = en ((mkL m n).getD j default) c
  rw [mkL_get h]
/-- a call that turns one piece, that is no block -/
theorem CallN.turn1 {P : Program} {f : FuncId} {ss : List SV} {L : Hpl} {nx : Nat} {K : KK} (i : Nat) (p : Hp) (Φ : SV → List Hp → Hp → Prop) (hl : lk i L = p) (he : p.isEmp = false) (hb : ∀ g t n f, p ≠ .box g t n f) (h : SMut P f ss p Φ)
    (k : ∀ r N p', Φ r N p' → K (r.lift nx) (keyN nx N (setK i p' L)) (nx + 10)) : CallN P f ss L nx K := by
  obtain ⟨j, h1, h2⟩ := setK_idx (i := i) (p := .emp) (L := L) (hasK_of (by rw [hl]; exact Hp.ne_emp he))
  rw [hl] at h1
  refine .gen (h.call j h1 fun r N p' hr => ⟨_, by rw [keyN_snd, h2], fun q g t n f hlt hk => ?_, k r N p' hr⟩)
  have key : ∀ (N : List Hp) (m : Nat) (L' : Hpl) (k : Nat) (x : Hp), k < m → lk k L' = x → lk k (keyN m N L') = x := by
    intro N
    induction N with
    | nil => intro m L' k x _ h; exact h
    | cons y N ih =>
      intro m L' k x hkm h
      simp only [keyN, lk]
      have : Nat.beq m k = false := by rw [Bool.eq_false_iff]; intro hb; have := Nat.eq_of_beq_eq_true hb; omega
      rw [this, cond_false]
      exact ih (m + 1) L' k x (by omega) h
  refine key N nx _ q _ hlt ?_
  rw [lk_setK_ne (by rintro rfl; rw [hl] at hk; exact hb _ _ _ _ hk)]
  exact hk
/-- a state between two codes, told as the walk goes on from it -/
structure Cut {ι : Type} (S : ι → St) (s : St) : Prop where
  h : ∃ i, SLe s (S i)
def Qcut {ι : Type} (S : ι → St) (Q : Exit → St → Prop) : Exit → St → Prop
  | .normal, s => Cut S s
  | e, s => Q e s
theorem HT.cut {P : Program} {n : Nat} {x y : Code} {Q : Exit → St → Prop} {s : St} {ι : Type} (S : ι → St) (h1 : HT P n x (Qcut S Q) s) (h2 : ∀ i, HT P n y Q (S i)) : HT P n (.seq x y) Q s :=
  HT.seq (h1.mono fun e s' hq => by
    cases e
    case normal =>
      obtain ⟨i, hle⟩ := hq.h
      exact HT.le hle (h2 i)
    all_goals exact hq)
/-- the walk stops ahead of a region -/
structure Stop (p : Prop) : Prop where
  h : p
theorem HT.stopR {P : Program} {n : Nat} {o : Array Oper} {d : Bool} {y : Code} {Q : Exit → St → Prop} {s : St} (r : Nat) (h : Stop (HT P n (.seq (.region r o d) y) Q s)) : HT P n (.seq (.region r o d) y) Q s := h.h
theorem own_arg {v : Value} {l : List SV} {w : World} {F : Nat → Prop} {x : Value} {k : Nat} (h : Has w F ((SV.val v :: l).getD k (.val undef)) x) : Has w F (upd (argF (SV.val v :: l)) 0 (.own 0 v) k) x := by
  unfold upd
  cases e : Nat.beq k 0
  · exact h
  · have := Nat.eq_of_beq_eq_true e
    subst this
    exact h
theorem own_argK {v : Value} {q : Nat} {l : List SV} {w : World} {F : Nat → Prop} {x : Value} {k : Nat} (h : Has w F ((SV.val v :: l).getD k (.val undef)) x) : Has w F (upd (argF (SV.val v :: l)) 0 (.own q v) k) x := by
  unfold upd
  cases e : Nat.beq k 0
  · exact h
  · have := Nat.eq_of_beq_eq_true e
    subst this
    exact h

theorem markIntS_c (l : List Int) (A : Option Addr) (cp : Nat) (z : Int) (hl : l.length ≤ 100000000) (hz : 0 ≤ z ∧ z ≤ 1000000000000000) : SMut Try.prog 33 [.val (.slice A l.length cp), .i z] (.row (.slice A l.length cp) 3 1 l.length (rowF intF l)) (fun r N p' => r = .i (z + l.length) ∧ N = [] ∧ p' = .row (.slice A l.length cp) 3 1 l.length (rowF intF (mkL (fun i => z + i) l.length))) := ⟨fun R => by
  refine SCalls.enter tt_ok Try.func33 (by kernel_rfl) rfl [(0, .row (.slice A l.length cp) 3 1 l.length (rowF intF l)), (900, .cust R)] rfl (upd (argF [.val (.slice A l.length cp), .i z]) 0 (.own 0 (.slice A l.length cp))) (fun w F x k h => own_arg h) (by simp) ?_
  repeat' (first | (with_reducible first | refine HT.seq ?_ | refine HT.block ?_ | refine Br.not ?_) | ((with_reducible first | refine HT.region tt_ok ?_ | refine HT.drawn tt_ok (by kernel_rfl) (by decide +kernel) ?_ | refine HT.drawnL tt_ok (by kernel_rfl) (by decide +kernel) ?_ | refine HT.cond ?_ | refine HT.ret ?_ | refine HT.skip ?_ | refine HT.exit ?_ | refine Br.tt ?_ | refine Br.ff ?_); conv => whnf) | ((with_reducible first | refine Br.dec (fun hc => ?_) (fun hc => ?_) | refine Br.eq (fun hc => ?_) (fun hc => ?_) | refine Br.ne (fun hc => ?_) (fun hc => ?_)) <;> (first | (exfalso; omega) | conv => whnf)) | ((with_reducible first | refine Br.ttE (by decide) ?_ | refine Br.ffE (by decide) ?_ | refine Br.mk (fun hc => ?_) (fun hc => ?_) | refine Chk.mk (by first | omega | with_reducible rfl | (refine ⟨rfl, ?_⟩; omega) | decide | exact ⟨rfl, by omega, by omega, rfl⟩ | exact ⟨by assumption, rfl, by omega, by omega⟩) ?_ | refine Ar.fit (by omega) ?_ | refine Eqv.shr1 ?_ | refine Ar.u64 (by omega) ?_) <;> conv => whnf) | (with_reducible exact trivial) | ((with_reducible refine And.intro ?_ ?_) <;> conv => whnf) | (intro gn; conv => whnf))
  refine HT.loopC [0, 4] (fun k : Nat => [(5, .i k), (1, .i (z + k))]) (fun k : Nat => [(0, .cells (mixF intF (fun i => z + i) l k))]) (fun k : Nat => k ≤ l.length) (fun k : Nat => l.length - k) 0 (Nat.zero_le _) ⟨(by first | with_reducible exact CellLe.refl _ | exact CellLe.own | exact CellLe.i (by omega) | exact CellLe.nil | exact CellLe.slNil | exact CellLe.refl _), (by first | with_reducible exact CellLe.refl _ | exact CellLe.own | exact CellLe.i (by omega) | exact CellLe.nil | exact CellLe.slNil | exact CellLe.refl _), trivial⟩ ?_ ?_
  · conv => whnf
    refine PP.start ?_; repeat (first | exact PP.nil | refine PP.take (by first | with_reducible exact Hp.Sub.refl _ | exact Hp.Sub.rd (by omega) | exact Hp.Sub.rowA rfl (fun i j hi hj => (mix_ge (Nat.zero_le _)).symm) | exact Hp.Sub.boxA (by (repeat (first | exact all_lt_zero | refine all_lt_succ (p := fun j => CellLe _ _) (by first | with_reducible exact CellLe.refl _ | exact CellLe.own | exact CellLe.i (by omega) | exact CellLe.nil | exact CellLe.slNil | exact CellLe.refl _) ?_))) | exact Hp.Sub.refl _) ?_ | refine PP.skip ?_)
  conv => whnf
  intro k hk
  conv => whnf
  repeat' (first | (with_reducible first | refine HT.seq ?_ | refine HT.block ?_ | refine Br.not ?_) | ((with_reducible first | refine HT.region tt_ok ?_ | refine HT.drawn tt_ok (by kernel_rfl) (by decide +kernel) ?_ | refine HT.drawnL tt_ok (by kernel_rfl) (by decide +kernel) ?_ | refine HT.cond ?_ | refine HT.ret ?_ | refine HT.skip ?_ | refine HT.exit ?_ | refine Br.tt ?_ | refine Br.ff ?_); conv => whnf) | ((with_reducible first | refine Br.dec (fun hc => ?_) (fun hc => ?_) | refine Br.eq (fun hc => ?_) (fun hc => ?_) | refine Br.ne (fun hc => ?_) (fun hc => ?_)) <;> (first | (exfalso; omega) | conv => whnf)) | ((with_reducible first | refine Br.ttE (by decide) ?_ | refine Br.ffE (by decide) ?_ | refine Br.mk (fun hc => ?_) (fun hc => ?_) | refine Chk.mk (by first | omega | with_reducible rfl | (refine ⟨rfl, ?_⟩; omega) | decide | exact ⟨rfl, by omega, by omega, rfl⟩ | exact ⟨by assumption, rfl, by omega, by omega⟩) ?_ | refine Ar.fit (by omega) ?_ | refine Eqv.shr1 ?_ | refine Ar.u64 (by omega) ?_) <;> conv => whnf) | (with_reducible exact trivial) | ((with_reducible refine And.intro ?_ ?_) <;> conv => whnf) | (intro gn; conv => whnf))
  all_goals (try simp only [Int.toNat_natCast] at *)
  · exact ⟨⟨k + 1, by omega, by omega, (by repeat' (first | exact trivial | refine ⟨rfl, ?_⟩)), ⟨(by first | with_reducible exact CellLe.refl _ | exact CellLe.own | exact CellLe.i (by omega) | exact CellLe.nil | exact CellLe.slNil | exact CellLe.refl _), (by first | with_reducible exact CellLe.refl _ | exact CellLe.own | exact CellLe.i (by omega) | exact CellLe.nil | exact CellLe.slNil | exact CellLe.refl _), trivial⟩, HLe.pk (by
      conv => whnf
      refine PP.start ?_; repeat (first | exact PP.nil | refine PP.take (by first | with_reducible exact Hp.Sub.refl _ | exact Hp.Sub.rd (by omega) | exact Hp.Sub.rowL rfl (fun w F i j hi hj => put_one (by rw [mix_lt (Nat.lt_succ_self k)]; exact fun _ h => h) (fun hne => LeW.of_eq (mix_next hne)) hj) | exact Hp.Sub.boxA (by (repeat (first | exact all_lt_zero | refine all_lt_succ (p := fun j => CellLe _ _) (by first | with_reducible exact CellLe.refl _ | exact CellLe.own | exact CellLe.i (by omega) | exact CellLe.nil | exact CellLe.slNil | exact CellLe.refl _) ?_))) | exact Hp.Sub.refl _) ?_ | refine PP.skip ?_))⟩⟩
  · obtain rfl : k = l.length := by omega
    exact Fin.mut [] _ (fun _ => 0) (by refine PP.start ?_; repeat (first | exact PP.nil | refine PP.take (by first | with_reducible exact Hp.Sub.refl _ | exact Hp.Sub.rd (by omega) | exact Hp.Sub.rowA rfl (fun i j hi hj => mix_end hi) | exact Hp.Sub.boxA (by (repeat (first | exact all_lt_zero | refine all_lt_succ (p := fun j => CellLe _ _) (by first | with_reducible exact CellLe.refl _ | exact CellLe.own | exact CellLe.i (by omega) | exact CellLe.nil | exact CellLe.slNil | exact CellLe.refl _) ?_))) | exact Hp.Sub.refl _) ?_ | refine PP.skip ?_)) ⟨rfl, rfl, rfl⟩⟩
theorem heldIntS_c (z : Int) (n : Nat) (hn : n ≤ 100000000) (hz : 0 ≤ z ∧ z ≤ 1000000000000000) : SRet Try.prog 75 [isl (mkL (fun i => z + i) n), .i z] (· = .i (z + n)) := ⟨fun R => by
  have hlen : (mkL (fun i : Nat => z + i) n).length = n := mkL_len
  refine SCalls.enter tt_ok Try.func75 (by kernel_rfl) rfl [(900, .cust R)] rfl (argF _) (fun w F v k h => h) (by simp) ?_
  repeat' (first | (with_reducible first | refine HT.seq ?_ | refine HT.block ?_ | refine Br.not ?_) | ((with_reducible first | refine HT.region tt_ok ?_ | refine HT.drawn tt_ok (by kernel_rfl) (by decide +kernel) ?_ | refine HT.drawnL tt_ok (by kernel_rfl) (by decide +kernel) ?_ | refine HT.cond ?_ | refine HT.ret ?_ | refine HT.skip ?_ | refine HT.exit ?_ | refine Br.tt ?_ | refine Br.ff ?_); conv => whnf) | ((with_reducible first | refine Br.dec (fun hc => ?_) (fun hc => ?_) | refine Br.eq (fun hc => ?_) (fun hc => ?_) | refine Br.ne (fun hc => ?_) (fun hc => ?_)) <;> (first | (exfalso; omega) | conv => whnf)) | ((with_reducible first | refine Br.ttE (by decide) ?_ | refine Br.ffE (by decide) ?_ | refine Br.mk (fun hc => ?_) (fun hc => ?_) | refine Chk.mk (by first | omega | with_reducible rfl | (refine ⟨rfl, ?_⟩; omega) | decide | exact ⟨rfl, by omega, by omega, rfl⟩ | exact ⟨by assumption, rfl, by omega, by omega⟩) ?_ | refine Ar.fit (by omega) ?_ | refine Eqv.shr1 ?_ | refine Ar.u64 (by omega) ?_) <;> conv => whnf) | (with_reducible exact trivial) | ((with_reducible refine And.intro ?_ ?_) <;> conv => whnf) | (intro gn; conv => whnf))
  refine HT.loopC [0] (fun k : Nat => [(5, .i k), (1, .i (z + k))]) (fun k : Nat => []) (fun k : Nat => k ≤ n) (fun k : Nat => n - k) 0 (Nat.zero_le _) ⟨(by first | with_reducible exact CellLe.refl _ | exact CellLe.own | exact CellLe.i (by omega) | exact CellLe.nil | exact CellLe.slNil | exact CellLe.refl _), (by first | with_reducible exact CellLe.refl _ | exact CellLe.own | exact CellLe.i (by omega) | exact CellLe.nil | exact CellLe.slNil | exact CellLe.refl _), trivial⟩ ?_ ?_
  · conv => whnf
    refine PP.start ?_; repeat (first | exact PP.nil | refine PP.take (by first | with_reducible exact Hp.Sub.refl _ | exact Hp.Sub.rd (by omega) | exact Hp.Sub.boxA (by (repeat (first | exact all_lt_zero | refine all_lt_succ (p := fun j => CellLe _ _) (by first | with_reducible exact CellLe.refl _ | exact CellLe.own | exact CellLe.i (by omega) | exact CellLe.nil | exact CellLe.slNil | exact CellLe.refl _) ?_))) | exact Hp.Sub.refl _) ?_ | refine PP.skip ?_)
  conv => whnf
  intro k hk
  have hg : k < n → (mkL (fun i : Nat => z + i) n).getD ((k : Int)).toNat default = z + k := fun h => by rw [Int.toNat_natCast]; exact mkL_get h
  conv => whnf
  repeat' (first | (with_reducible first | refine HT.seq ?_ | refine HT.block ?_ | refine Br.not ?_) | ((with_reducible first | refine HT.region tt_ok ?_ | refine HT.drawn tt_ok (by kernel_rfl) (by decide +kernel) ?_ | refine HT.drawnL tt_ok (by kernel_rfl) (by decide +kernel) ?_ | refine HT.cond ?_ | refine HT.ret ?_ | refine HT.skip ?_ | refine HT.exit ?_ | refine Br.tt ?_ | refine Br.ff ?_); conv => whnf) | ((with_reducible first | refine Br.dec (fun hc => ?_) (fun hc => ?_) | refine Br.eq (fun hc => ?_) (fun hc => ?_) | refine Br.ne (fun hc => ?_) (fun hc => ?_)) <;> (first | (exfalso; omega) | conv => whnf)) | ((with_reducible first | refine Br.ttE (by decide) ?_ | refine Br.ffE (by decide) ?_ | refine Br.mk (fun hc => ?_) (fun hc => ?_) | refine Chk.mk (by first | omega | with_reducible rfl | (refine ⟨rfl, ?_⟩; omega) | decide | exact ⟨rfl, by omega, by omega, rfl⟩ | exact ⟨by assumption, rfl, by omega, by omega⟩) ?_ | refine Ar.fit (by omega) ?_ | refine Eqv.shr1 ?_ | refine Ar.u64 (by omega) ?_) <;> conv => whnf) | (with_reducible exact trivial) | ((with_reducible refine And.intro ?_ ?_) <;> conv => whnf) | (intro gn; conv => whnf))
  all_goals first
    | (exfalso; omega)
    | exact ⟨⟨k + 1, by omega, by omega, (by repeat' (first | exact trivial | refine ⟨rfl, ?_⟩)), ⟨(by first | with_reducible exact CellLe.refl _ | exact CellLe.own | exact CellLe.i (by omega) | exact CellLe.nil | exact CellLe.slNil | exact CellLe.refl _), (by first | with_reducible exact CellLe.refl _ | exact CellLe.own | exact CellLe.i (by omega) | exact CellLe.nil | exact CellLe.slNil | exact CellLe.refl _), trivial⟩, HLe.pk (by (conv => whnf); (refine PP.start ?_; repeat (first | exact PP.nil | refine PP.take (by first | with_reducible exact Hp.Sub.refl _ | exact Hp.Sub.rd (by omega) | exact Hp.Sub.boxA (by (repeat (first | exact all_lt_zero | refine all_lt_succ (p := fun j => CellLe _ _) (by first | with_reducible exact CellLe.refl _ | exact CellLe.own | exact CellLe.i (by omega) | exact CellLe.nil | exact CellLe.slNil | exact CellLe.refl _) ?_))) | exact Hp.Sub.refl _) ?_ | refine PP.skip ?_)))⟩⟩
    | exact Fin.pureS (by repeat (first | exact List.Sublist.refl _ | refine List.Sublist.cons_cons _ ?_ | refine List.Sublist.cons _ ?_)) (sv_i (by omega))⟩
end Go.Proofs.Ytbcmpfhemangpaa
