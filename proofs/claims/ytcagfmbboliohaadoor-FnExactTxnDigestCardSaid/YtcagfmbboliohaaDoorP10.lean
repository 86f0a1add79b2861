/- Texts of this proof put together: Te, Tg, Frame, Ex, Fw, TgX. -/
import Derived.Test.YtcagfmbboliohaaDoorRows
import Derived.ProofKit
import Derived.Carry
import Derived.DataReads
import Derived.Deep.Slices
import Derived.RowKitTokens
import Derived.LaidLaws
import Derived.ChangeVars
import Derived.Deep.DeepLaidRun
import Derived.Test.YtcagfmbboliohaaDoorCards
import Derived.Test.YtcagfmbboliohaaDoorTie
import Derived.SevenTiedAt
import Derived.Test.YtcagfmbboliohaaDoorP01
import Derived.Test.YtcagfmbboliohaaDoorP02
import Derived.Test.YtcagfmbboliohaaDoorP03
import Derived.Test.YtcagfmbboliohaaDoorP04
import Derived.Test.YtcagfmbboliohaaDoorP05
import Derived.Test.YtcagfmbboliohaaDoorP06
import Derived.Test.YtcagfmbboliohaaDoorP07
import Derived.Test.YtcagfmbboliohaaDoorP08
import Derived.Test.YtcagfmbboliohaaDoorP09
/-! YtcagfmbboliohaaDoorTe -/
set_option linter.all false
namespace Go.Proofs.YtcagfmbboliohaaDoor
open Go.RowKit

structure Tx where
  f : Int
  t : Int
  s : Int
  e : Int
instance : Inhabited Tx := ⟨⟨0, 0, 0, 0⟩⟩
def txF (x : Tx) : Nat → SV := litF [.i x.f, .i x.t, .i x.s, .i x.e]
abbrev txV (x : Tx) : SV := .agg 4 (txF x)
def txOk (x : Tx) : Bool := inB x.f 0 5 && (inB x.t 0 5 && (decide (x.f ≠ x.t) && (inB x.s 1 99 && inB x.e 0 9)))
theorem txOk_iff {x : Tx} : txOk x = true ↔ (0 ≤ x.f ∧ x.f ≤ 5) ∧ (0 ≤ x.t ∧ x.t ≤ 5) ∧ x.f ≠ x.t ∧ (1 ≤ x.s ∧ x.s ≤ 99) ∧ (0 ≤ x.e ∧ x.e ≤ 9) := by
  unfold txOk
  simp only [Bool.and_eq_true, inB_true, decide_eq_true_eq]
theorem txOk_no {x : Tx} (h : ¬ ((0 ≤ x.f ∧ x.f ≤ 5) ∧ (0 ≤ x.t ∧ x.t ≤ 5) ∧ x.f ≠ x.t ∧ (1 ≤ x.s ∧ x.s ≤ 99) ∧ (0 ≤ x.e ∧ x.e ≤ 9))) : txOk x = false := by
  rw [← Bool.not_eq_true, txOk_iff]; exact h
abbrev txP (x : Tx) : ByteArray := decB x.f ++ ByteArray.mk #[32] ++ decB x.t ++ ByteArray.mk #[32] ++ decB x.s ++ ByteArray.mk #[32]
def txT (x : Tx) : ByteArray := txP x ++ decB x.e
def txD (x : Tx) : Int := if txOk x = true then dgT (txT x) else -1
theorem txD_ok {x : Tx} (h : txOk x = true) : txD x = dgT (txT x) := if_pos h
theorem txD_bad {x : Tx} (h : txOk x = false) : txD x = -1 := if_neg (by rw [h]; simp)
theorem txD_rng {x : Tx} (h : txOk x = true) : 0 ≤ txD x ∧ txD x ≤ 990 := by rw [txD_ok h]; exact dgT_bd _
theorem dg_nat {n : Nat} (h : n < 10) : (dg n).toNat = 48 + n := by
  unfold dg
  rw [UInt8.toNat_ofNat']
  omega
theorem txD_last {x : Tx} (h : txOk x = true) : txD x = (257 * dgl (txP x).data.toList + (48 + x.e) + 1) % 991 := by
  have h1 := txOk_iff.1 h
  have hb := dgl_bd (txP x).data.toList
  rw [txD_ok h]
  show dgl ((txP x ++ decB x.e).data.toList) = _
  rw [decB_lo (by omega), ByteArray.toList_data_append]
  show dgl ((txP x).data.toList ++ [dg x.e.toNat]) = _
  rw [dgl_snoc, dg_nat (by omega), Int.tmod_eq_emod_of_nonneg (by omega)]
  congr 2
  omega
/-- another fee, another digest -/
theorem txD_next {x : Tx} (h : txOk x = true) : txD ⟨x.f, x.t, x.s, (x.e + 1).tmod 10⟩ ≠ txD x := fun e => by
  have h1 := txOk_iff.1 h
  have e1 : (x.e + 1).tmod 10 = (x.e + 1) % 10 := Int.tmod_eq_emod_of_nonneg (by omega)
  have h2 : txOk ⟨x.f, x.t, x.s, (x.e + 1).tmod 10⟩ = true := txOk_iff.2 ⟨h1.1, h1.2.1, h1.2.2.1, h1.2.2.2.1, by dsimp only; omega⟩
  rw [txD_last h, txD_last h2] at e
  have hb := dgl_bd (txP x).data.toList
  have e : (257 * dgl (txP x).data.toList + (48 + (x.e + 1).tmod 10) + 1) % 991 = (257 * dgl (txP x).data.toList + (48 + x.e) + 1) % 991 := e
  omega
theorem specTV_c (x : Tx) : SRet Tryd.prog 25 [txV x] (· = .b (txOk x)) := ⟨fun R => by
  refine SCalls.enter tt_ok Tryd.func25 (by kernel_rfl) rfl [(900, .cust R)] rfl (argF _) (fun w F v k h => h) (by simp) ?_
  repeat' (first | (with_reducible first | refine HT.seq ?_ | refine HT.block ?_ | refine Br.not ?_) | ((with_reducible first | refine HT.region tt_ok ?_ | refine HT.drawn tt_ok (by kernel_rfl) (by decide +kernel) ?_ | refine HT.drawnL tt_ok (by kernel_rfl) (by decide +kernel) ?_ | refine HT.cond ?_ | refine HT.ret ?_ | refine HT.skip ?_ | refine HT.exit ?_ | refine Br.tt ?_ | refine Br.ff ?_); conv => whnf) | ((with_reducible first | refine Br.dec (fun hc => ?_) (fun hc => ?_) | refine Br.eq (fun hc => ?_) (fun hc => ?_) | refine Br.ne (fun hc => ?_) (fun hc => ?_)) <;> (first | (exfalso; omega) | conv => whnf)) | ((with_reducible first | refine Br.ttE (by decide) ?_ | refine Br.ffE (by decide) ?_ | refine Br.mk (fun hc => ?_) (fun hc => ?_) | refine Chk.mk (by first | omega | with_reducible rfl | (refine ⟨rfl, ?_⟩; omega) | decide | exact ⟨rfl, by omega, by omega, rfl⟩ | exact ⟨by assumption, rfl, by omega, by omega⟩) ?_ | refine Ar.fit (by omega) ?_ | refine Eqv.shr1 ?_ | refine Ar.u64 (by omega) ?_) <;> conv => whnf) | ((first | refine CallN.ret1 (l6In_c _ _ _) ?_) <;> conv => whnf) | (with_reducible exact trivial) | ((with_reducible refine And.intro ?_ ?_) <;> conv => whnf) | (intro gn; conv => whnf))
  all_goals first
    | exact Fin.pureS (by repeat (first | exact List.Sublist.refl _ | refine List.Sublist.cons_cons _ ?_ | refine List.Sublist.cons _ ?_)) (sv_b (by unfold txOk; simp_all))
    | trace_state⟩
theorem implTV_c (x : Tx) : SRet Tryd.prog 28 [txV x] (· = .b (txOk x)) := ⟨fun R => by
  refine SCalls.enter tt_ok Tryd.func28 (by kernel_rfl) rfl [(900, .cust R)] rfl (argF _) (fun w F v k h => h) (by simp) ?_
  repeat' (first | (with_reducible first | refine HT.seq ?_ | refine HT.block ?_ | refine Br.not ?_) | ((with_reducible first | refine HT.region tt_ok ?_ | refine HT.drawn tt_ok (by kernel_rfl) (by decide +kernel) ?_ | refine HT.drawnL tt_ok (by kernel_rfl) (by decide +kernel) ?_ | refine HT.cond ?_ | refine HT.ret ?_ | refine HT.skip ?_ | refine HT.exit ?_ | refine Br.tt ?_ | refine Br.ff ?_); conv => whnf) | ((with_reducible first | refine Br.dec (fun hc => ?_) (fun hc => ?_) | refine Br.eq (fun hc => ?_) (fun hc => ?_) | refine Br.ne (fun hc => ?_) (fun hc => ?_)) <;> (first | (exfalso; omega) | conv => whnf)) | ((with_reducible first | refine Br.ttE (by decide) ?_ | refine Br.ffE (by decide) ?_ | refine Br.mk (fun hc => ?_) (fun hc => ?_) | refine Chk.mk (by first | omega | with_reducible rfl | (refine ⟨rfl, ?_⟩; omega) | decide | exact ⟨rfl, by omega, by omega, rfl⟩ | exact ⟨by assumption, rfl, by omega, by omega⟩) ?_ | refine Ar.fit (by omega) ?_ | refine Eqv.shr1 ?_ | refine Ar.u64 (by omega) ?_) <;> conv => whnf) | ((first | refine CallN.ret1 (isAccount_c _) ?_) <;> conv => whnf) | (with_reducible exact trivial) | ((with_reducible refine And.intro ?_ ?_) <;> conv => whnf) | (intro gn; conv => whnf))
  all_goals refine Fin.pureS (by repeat (first | exact List.Sublist.refl _ | refine List.Sublist.cons_cons _ ?_ | refine List.Sublist.cons _ ?_)) (sv_b ?_)
  all_goals (try simp only [Bool.not_eq_true, Bool.not_eq_false, inB_true, inB_false] at *)
  all_goals first
    | ((first | rw [txOk_no (x := x) (by omega)] | rw [(txOk_iff (x := x)).2 (by omega)]); done)
    | (by_cases h9 : x.e ≤ 9 <;> ((first | rw [txOk_no (x := x) (by omega)] | rw [(txOk_iff (x := x)).2 (by omega)]); simp [h9]; done))
    | trace_state⟩
theorem sizes (x : Tx) : (ByteArray.mk #[32]).size = 1 ∧ (decB x.f ++ ByteArray.mk #[32]).size ≤ 3 ∧ (decB x.f ++ ByteArray.mk #[32] ++ decB x.t).size ≤ 5 ∧ (decB x.f ++ ByteArray.mk #[32] ++ decB x.t ++ ByteArray.mk #[32]).size ≤ 6 ∧ (decB x.f ++ ByteArray.mk #[32] ++ decB x.t ++ ByteArray.mk #[32] ++ decB x.s).size ≤ 8 ∧ (decB x.f ++ ByteArray.mk #[32] ++ decB x.t ++ ByteArray.mk #[32] ++ decB x.s ++ ByteArray.mk #[32]).size ≤ 9 ∧ (txT x).size ≤ 11 := by
  have h0 : (ByteArray.mk #[32]).size = 1 := rfl
  have h1 := decB_size x.f
  have h2 := decB_size x.t
  have h3 := decB_size x.s
  have h4 := decB_size x.e
  unfold txT
  simp only [ByteArray.size_append]
  omega
theorem specTD_c (x : Tx) : SRet Tryd.prog 7 [txV x] (· = .i (txD x)) := ⟨fun R => by
  have hV := specTV_c x
  cases hok : txOk x
  refine SCalls.enter tt_ok Tryd.func7 (by kernel_rfl) rfl [(900, .cust R)] rfl (argF _) (fun w F v k h => h) (by simp) ?_
  · repeat' (first | (with_reducible first | refine HT.seq ?_ | refine HT.block ?_ | refine Br.not ?_) | ((with_reducible first | refine HT.region tt_ok ?_ | refine HT.drawn tt_ok (by kernel_rfl) (by decide +kernel) ?_ | refine HT.drawnL tt_ok (by kernel_rfl) (by decide +kernel) ?_ | refine HT.cond ?_ | refine HT.ret ?_ | refine HT.skip ?_ | refine HT.exit ?_ | refine Br.tt ?_ | refine Br.ff ?_); conv => whnf) | ((with_reducible first | refine Br.dec (fun hc => ?_) (fun hc => ?_) | refine Br.eq (fun hc => ?_) (fun hc => ?_) | refine Br.ne (fun hc => ?_) (fun hc => ?_)) <;> (first | (exfalso; omega) | conv => whnf)) | ((with_reducible first | refine Br.ttE (by decide) ?_ | refine Br.ffE (by decide) ?_ | refine Br.mk (fun hc => ?_) (fun hc => ?_) | refine Chk.mk (by first | omega | with_reducible rfl | (refine ⟨rfl, ?_⟩; omega) | decide | exact ⟨rfl, by omega, by omega, rfl⟩ | exact ⟨by assumption, rfl, by omega, by omega⟩) ?_ | refine Ar.fit (by omega) ?_ | refine Eqv.shr1 ?_ | refine Ar.u64 (by omega) ?_) <;> conv => whnf) | ((first | refine CallN.ret1 (hV.bf hok) ?_) <;> conv => whnf) | (with_reducible exact trivial) | ((with_reducible refine And.intro ?_ ?_) <;> conv => whnf) | (intro gn; conv => whnf))
    all_goals exact Fin.pureS (by repeat (first | exact List.Sublist.refl _ | refine List.Sublist.cons_cons _ ?_ | refine List.Sublist.cons _ ?_)) (sv_i (txD_bad hok).symm)
  have hx := txOk_iff.1 hok
  obtain ⟨z0, z1, z2, z3, z4, z5, z6⟩ := sizes x
  have h1 := decB_size x.f
  have h2 := decB_size x.t
  have h3 := decB_size x.s
  have h4 := decB_size x.e
  have hT := l2Text_c (txT x) (by omega)
  refine SCalls.enter tt_ok Tryd.func7 (by kernel_rfl) rfl [(900, .cust R)] rfl (argF _) (fun w F v k h => h) (by simp) ?_
  repeat' (first | (with_reducible first | refine HT.seq ?_ | refine HT.block ?_ | refine Br.not ?_) | ((with_reducible first | refine HT.region tt_ok ?_ | refine HT.drawn tt_ok (by kernel_rfl) (by decide +kernel) ?_ | refine HT.drawnL tt_ok (by kernel_rfl) (by decide +kernel) ?_ | refine HT.cond ?_ | refine HT.ret ?_ | refine HT.skip ?_ | refine HT.exit ?_ | refine Br.tt ?_ | refine Br.ff ?_); conv => whnf) | ((with_reducible first | refine Br.dec (fun hc => ?_) (fun hc => ?_) | refine Br.eq (fun hc => ?_) (fun hc => ?_) | refine Br.ne (fun hc => ?_) (fun hc => ?_)) <;> (first | (exfalso; omega) | conv => whnf)) | ((with_reducible first | refine Br.ttE (by decide) ?_ | refine Br.ffE (by decide) ?_ | refine Br.mk (fun hc => ?_) (fun hc => ?_) | refine Chk.mk (by first | omega | with_reducible rfl | (refine ⟨rfl, ?_⟩; omega) | decide | exact ⟨rfl, by omega, by omega, rfl⟩ | exact ⟨by assumption, rfl, by omega, by omega⟩) ?_ | refine Ar.fit (by omega) ?_ | refine Eqv.shr1 ?_ | refine Ar.u64 (by omega) ?_) <;> conv => whnf) | ((first | refine CallN.ret1 (hV.bt hok) ?_ | refine CallN.ret1 (hT) ?_ | refine CallN.ret1 (l6Dec_c x.f (by omega)) ?_ | refine CallN.ret1 (l6Dec_c x.t (by omega)) ?_ | refine CallN.ret1 (l6Dec_c x.s (by omega)) ?_ | refine CallN.ret1 (l6Dec_c x.e (by omega)) ?_) <;> conv => whnf) | ((refine Chk.mk (by first | omega | (fail)) ?_); conv => whnf) | (with_reducible exact trivial) | ((with_reducible refine And.intro ?_ ?_) <;> conv => whnf) | (intro gn; conv => whnf))
  all_goals first
    | (exfalso; simp_all; done)
    | exact Fin.pureS (by repeat (first | exact List.Sublist.refl _ | refine List.Sublist.cons_cons _ ?_ | refine List.Sublist.cons _ ?_)) (sv_i (txD_ok hok).symm)
    | trace_state⟩
theorem hashT_c (b : ByteArray) (h : b.size ≤ 60) : SRet Tryd.prog 30 [.s b] (· = .i (dgT b)) := ⟨fun R => by
  refine SCalls.enter tt_ok Tryd.func30 (by kernel_rfl) rfl [(900, .cust R)] rfl (argF _) (fun w F v k h => h) (by simp) ?_
  repeat' (first | (with_reducible first | refine HT.seq ?_ | refine HT.block ?_ | refine Br.not ?_) | ((with_reducible first | refine HT.region tt_ok ?_ | refine HT.drawn tt_ok (by kernel_rfl) (by decide +kernel) ?_ | refine HT.drawnL tt_ok (by kernel_rfl) (by decide +kernel) ?_ | refine HT.cond ?_ | refine HT.ret ?_ | refine HT.skip ?_ | refine HT.exit ?_ | refine Br.tt ?_ | refine Br.ff ?_); conv => whnf) | ((with_reducible first | refine Br.dec (fun hc => ?_) (fun hc => ?_) | refine Br.eq (fun hc => ?_) (fun hc => ?_) | refine Br.ne (fun hc => ?_) (fun hc => ?_)) <;> (first | (exfalso; omega) | conv => whnf)) | ((with_reducible first | refine Br.ttE (by decide) ?_ | refine Br.ffE (by decide) ?_ | refine Br.mk (fun hc => ?_) (fun hc => ?_) | refine Chk.mk (by first | omega | with_reducible rfl | (refine ⟨rfl, ?_⟩; omega) | decide | exact ⟨rfl, by omega, by omega, rfl⟩ | exact ⟨by assumption, rfl, by omega, by omega⟩) ?_ | refine Ar.fit (by omega) ?_ | refine Eqv.shr1 ?_ | refine Ar.u64 (by omega) ?_) <;> conv => whnf) | ((first | refine CallN.ret1 (digestOf_c b (by omega)) ?_) <;> conv => whnf) | (with_reducible exact trivial) | ((with_reducible refine And.intro ?_ ?_) <;> conv => whnf) | (intro gn; conv => whnf))
  all_goals exact Fin.pureS (by repeat (first | exact List.Sublist.refl _ | refine List.Sublist.cons_cons _ ?_ | refine List.Sublist.cons _ ?_)) rfl⟩
theorem implTD_c (x : Tx) : SRet Tryd.prog 9 [txV x] (· = .i (txD x)) := ⟨fun R => by
  have hV := implTV_c x
  cases hok : txOk x
  refine SCalls.enter tt_ok Tryd.func9 (by kernel_rfl) rfl [(900, .cust R)] rfl (argF _) (fun w F v k h => h) (by simp) ?_
  · repeat' (first | (with_reducible first | refine HT.seq ?_ | refine HT.block ?_ | refine Br.not ?_) | ((with_reducible first | refine HT.region tt_ok ?_ | refine HT.drawn tt_ok (by kernel_rfl) (by decide +kernel) ?_ | refine HT.drawnL tt_ok (by kernel_rfl) (by decide +kernel) ?_ | refine HT.cond ?_ | refine HT.ret ?_ | refine HT.skip ?_ | refine HT.exit ?_ | refine Br.tt ?_ | refine Br.ff ?_); conv => whnf) | ((with_reducible first | refine Br.dec (fun hc => ?_) (fun hc => ?_) | refine Br.eq (fun hc => ?_) (fun hc => ?_) | refine Br.ne (fun hc => ?_) (fun hc => ?_)) <;> (first | (exfalso; omega) | conv => whnf)) | ((with_reducible first | refine Br.ttE (by decide) ?_ | refine Br.ffE (by decide) ?_ | refine Br.mk (fun hc => ?_) (fun hc => ?_) | refine Chk.mk (by first | omega | with_reducible rfl | (refine ⟨rfl, ?_⟩; omega) | decide | exact ⟨rfl, by omega, by omega, rfl⟩ | exact ⟨by assumption, rfl, by omega, by omega⟩) ?_ | refine Ar.fit (by omega) ?_ | refine Eqv.shr1 ?_ | refine Ar.u64 (by omega) ?_) <;> conv => whnf) | ((first | refine CallN.ret1 (hV.bf hok) ?_) <;> conv => whnf) | (with_reducible exact trivial) | ((with_reducible refine And.intro ?_ ?_) <;> conv => whnf) | (intro gn; conv => whnf))
    all_goals exact Fin.pureS (by repeat (first | exact List.Sublist.refl _ | refine List.Sublist.cons_cons _ ?_ | refine List.Sublist.cons _ ?_)) (sv_i (txD_bad hok).symm)
  have hx := txOk_iff.1 hok
  obtain ⟨z0, z1, z2, z3, z4, z5, z6⟩ := sizes x
  have h1 := decB_size x.f
  have h2 := decB_size x.t
  have h3 := decB_size x.s
  have h4 := decB_size x.e
  have hT := hashT_c (txT x) (by omega)
  refine SCalls.enter tt_ok Tryd.func9 (by kernel_rfl) rfl [(900, .cust R)] rfl (argF _) (fun w F v k h => h) (by simp) ?_
  repeat' (first | (with_reducible first | refine HT.seq ?_ | refine HT.block ?_ | refine Br.not ?_) | ((with_reducible first | refine HT.region tt_ok ?_ | refine HT.drawn tt_ok (by kernel_rfl) (by decide +kernel) ?_ | refine HT.drawnL tt_ok (by kernel_rfl) (by decide +kernel) ?_ | refine HT.cond ?_ | refine HT.ret ?_ | refine HT.skip ?_ | refine HT.exit ?_ | refine Br.tt ?_ | refine Br.ff ?_); conv => whnf) | ((with_reducible first | refine Br.dec (fun hc => ?_) (fun hc => ?_) | refine Br.eq (fun hc => ?_) (fun hc => ?_) | refine Br.ne (fun hc => ?_) (fun hc => ?_)) <;> (first | (exfalso; omega) | conv => whnf)) | ((with_reducible first | refine Br.ttE (by decide) ?_ | refine Br.ffE (by decide) ?_ | refine Br.mk (fun hc => ?_) (fun hc => ?_) | refine Chk.mk (by first | omega | with_reducible rfl | (refine ⟨rfl, ?_⟩; omega) | decide | exact ⟨rfl, by omega, by omega, rfl⟩ | exact ⟨by assumption, rfl, by omega, by omega⟩) ?_ | refine Ar.fit (by omega) ?_ | refine Eqv.shr1 ?_ | refine Ar.u64 (by omega) ?_) <;> conv => whnf) | ((first | refine CallN.ret1 (hV.bt hok) ?_ | refine CallN.ret1 (hT) ?_ | refine CallN.ret1 (itoa_c x.f (by omega)) ?_ | refine CallN.ret1 (itoa_c x.t (by omega)) ?_ | refine CallN.ret1 (itoa_c x.s (by omega)) ?_ | refine CallN.ret1 (itoa_c x.e (by omega)) ?_) <;> conv => whnf) | ((refine Chk.mk (by first | omega | (fail)) ?_); conv => whnf) | (with_reducible exact trivial) | ((with_reducible refine And.intro ?_ ?_) <;> conv => whnf) | (intro gn; conv => whnf))
  all_goals first
    | (exfalso; simp_all; done)
    | exact Fin.pureS (by repeat (first | exact List.Sublist.refl _ | refine List.Sublist.cons_cons _ ?_ | refine List.Sublist.cons _ ?_)) (sv_i (txD_ok hok).symm)
    | trace_state⟩
end Go.Proofs.YtcagfmbboliohaaDoor
/-! YtcagfmbboliohaaDoorTg -/
set_option linter.all false
namespace Go.Proofs.YtcagfmbboliohaaDoor
open Go.RowKit

/-- a transaction was drawn -/
def DrewTx (d : Int) (g : Nat) (m : Int) (r : SV) (N : List Hp) (p' : Hp) : Prop := (∃ x : Tx, r = txV x) ∧ N = [] ∧ p' = .cust (rdH g (m + d))
set_option maxHeartbeats 1000000 in
theorem l92Txn_c (g : Nat) (m : Int) (hm : m ≤ 800000000000) : SMut Tryd.prog 31 [.val (.pointer (some ⟨g, 0, none⟩))] (.cust (rdH g m)) (DrewTx 10 g m) := ⟨fun R => by
  have hT : ∀ k : Int, 0 ≤ k → (k + 1).tmod 6 = (k + 1) % 6 := fun k h => Int.tmod_eq_emod_of_nonneg (by omega)
  refine SCalls.enter tt_ok Tryd.func31 (by kernel_rfl) rfl [(0, .cust (rdH g m)), (900, .cust R)] rfl (argF _) (fun w F v k h => h) (by simp) ?_
  repeat' (first | (with_reducible first | refine HT.seq ?_ | refine HT.block ?_ | refine Br.not ?_) | ((with_reducible first | refine HT.region tt_ok ?_ | refine HT.drawn tt_ok (by kernel_rfl) (by decide +kernel) ?_ | refine HT.drawnL tt_ok (by kernel_rfl) (by decide +kernel) ?_ | refine HT.cond ?_ | refine HT.ret ?_ | refine HT.skip ?_ | refine HT.exit ?_ | refine Br.tt ?_ | refine Br.ff ?_); conv => whnf) | ((with_reducible first | refine Br.dec (fun hc => ?_) (fun hc => ?_) | refine Br.eq (fun hc => ?_) (fun hc => ?_) | refine Br.ne (fun hc => ?_) (fun hc => ?_)) <;> (first | (exfalso; omega) | conv => whnf)) | ((with_reducible first | refine Br.ttE (by decide) ?_ | refine Br.ffE (by decide) ?_ | refine Br.mk (fun hc => ?_) (fun hc => ?_) | refine Chk.mk (by first | omega | with_reducible rfl | (refine ⟨rfl, ?_⟩; omega) | decide | exact ⟨rfl, by omega, by omega, rfl⟩ | exact ⟨by assumption, rfl, by omega, by omega⟩) ?_ | refine Ar.fit (by omega) ?_ | refine Eqv.shr1 ?_ | refine Ar.u64 (by omega) ?_) <;> conv => whnf) | ((first | (refine CallN.turn 0 _ _ rfl (pick_c _ _ 6 (by omega) (by omega)) ?_; rintro r N p' ⟨⟨k, hk0, hk1, rfl⟩, rfl, rfl⟩) | (refine CallN.turn 0 _ _ rfl (pick_c _ _ 99 (by omega) (by omega)) ?_; rintro r N p' ⟨⟨k, hk0, hk1, rfl⟩, rfl, rfl⟩) | (refine CallN.turn 0 _ _ rfl (pick_c _ _ 10 (by omega) (by omega)) ?_; rintro r N p' ⟨⟨k, hk0, hk1, rfl⟩, rfl, rfl⟩) | (refine CallN.turn 0 _ _ rfl (pick_c _ _ 30 (by omega) (by omega)) ?_; rintro r N p' ⟨⟨k, hk0, hk1, rfl⟩, rfl, rfl⟩) | (refine CallN.turn 0 _ _ rfl (pick_c _ _ 2 (by omega) (by omega)) ?_; rintro r N p' ⟨⟨k, hk0, hk1, rfl⟩, rfl, rfl⟩) | (refine CallN.turn 0 _ _ rfl (pick_c _ _ _ (by omega) (by omega)) ?_; rintro r N p' ⟨⟨k, hk0, hk1, rfl⟩, rfl, rfl⟩)) <;> conv => whnf) | (with_reducible exact trivial) | ((with_reducible refine And.intro ?_ ?_) <;> conv => whnf) | (intro gn; conv => whnf))
  all_goals exact Fin.pick (by refine PP.start ?_; repeat (first | exact PP.nil | refine PP.take (by first | with_reducible exact Hp.Sub.refl _ | exact Hp.Sub.rd (by omega) | exact Hp.Sub.boxA (by (repeat (first | exact all_lt_zero | refine all_lt_succ (p := fun j => CellLe _ _) (by first | with_reducible exact CellLe.refl _ | exact CellLe.own | exact CellLe.i (by omega) | exact CellLe.nil | exact CellLe.slNil | exact CellLe.refl _) ?_))) | exact Hp.Sub.refl _) ?_ | refine PP.skip ?_)) (fun _ _ _ h => h) ⟨[], _, rfl, ⟨⟨_, _, _, _⟩, rfl⟩, rfl, rfl⟩⟩
theorem DrawTD_c (zs : List Int) (hz : ∀ z ∈ zs, 0 ≤ z ∧ z ≤ 255) (hl : zs.length ≤ 2000000) : SRet Tryd.prog 10 [.sl 1 zs.length (rowF u8F zs)] (fun r => ∃ x : Tx, r = txV x) := ⟨fun R => by
  refine SCalls.enter tt_ok Tryd.func10 (by kernel_rfl) rfl [(900, .cust R)] rfl (argF _) (fun w F v k h => h) (by simp) ?_
  repeat' (first | (with_reducible first | refine HT.seq ?_ | refine HT.block ?_ | refine Br.not ?_) | ((with_reducible first | refine HT.region tt_ok ?_ | refine HT.drawn tt_ok (by kernel_rfl) (by decide +kernel) ?_ | refine HT.drawnL tt_ok (by kernel_rfl) (by decide +kernel) ?_ | refine HT.cond ?_ | refine HT.ret ?_ | refine HT.skip ?_ | refine HT.exit ?_ | refine Br.tt ?_ | refine Br.ff ?_); conv => whnf) | ((with_reducible first | refine Br.dec (fun hc => ?_) (fun hc => ?_) | refine Br.eq (fun hc => ?_) (fun hc => ?_) | refine Br.ne (fun hc => ?_) (fun hc => ?_)) <;> (first | (exfalso; omega) | conv => whnf)) | ((with_reducible first | refine Br.ttE (by decide) ?_ | refine Br.ffE (by decide) ?_ | refine Br.mk (fun hc => ?_) (fun hc => ?_) | refine Chk.mk (by first | omega | with_reducible rfl | (refine ⟨rfl, ?_⟩; omega) | decide | exact ⟨rfl, by omega, by omega, rfl⟩ | exact ⟨by assumption, rfl, by omega, by omega⟩) ?_ | refine Ar.fit (by omega) ?_ | refine Eqv.shr1 ?_ | refine Ar.u64 (by omega) ?_) <;> conv => whnf) | ((first | (refine CallN.new _ (l6Open_c zs hz hl) ?_; rintro r N ⟨g, rfl, rfl⟩) | (refine CallN.turn 101 _ _ rfl (l92Txn_c _ _ (by omega)) ?_; rintro r N p' ⟨⟨x, rfl⟩, rfl, rfl⟩)) <;> conv => whnf) | ((with_reducible refine Ar.wrap ?_); conv => whnf) | (with_reducible exact trivial) | ((with_reducible refine And.intro ?_ ?_) <;> conv => whnf) | (intro gn; conv => whnf))
  all_goals first | exact Fin.pureS (by repeat (first | exact List.Sublist.refl _ | refine List.Sublist.cons_cons _ ?_ | refine List.Sublist.cons _ ?_)) ⟨x, rfl⟩ | trace_state⟩
theorem toTxn_c (x : Tx) : SRet Tryd.prog 8 [txV x] (· = txV x) := ⟨fun R => by
  refine SCalls.enter tt_ok Tryd.func8 (by kernel_rfl) rfl [(900, .cust R)] rfl (argF _) (fun w F v k h => h) (by simp) ?_
  repeat' (first | (with_reducible first | refine HT.seq ?_ | refine HT.block ?_ | refine Br.not ?_) | ((with_reducible first | refine HT.region tt_ok ?_ | refine HT.drawn tt_ok (by kernel_rfl) (by decide +kernel) ?_ | refine HT.drawnL tt_ok (by kernel_rfl) (by decide +kernel) ?_ | refine HT.cond ?_ | refine HT.ret ?_ | refine HT.skip ?_ | refine HT.exit ?_ | refine Br.tt ?_ | refine Br.ff ?_); conv => whnf) | ((with_reducible first | refine Br.dec (fun hc => ?_) (fun hc => ?_) | refine Br.eq (fun hc => ?_) (fun hc => ?_) | refine Br.ne (fun hc => ?_) (fun hc => ?_)) <;> (first | (exfalso; omega) | conv => whnf)) | ((with_reducible first | refine Br.ttE (by decide) ?_ | refine Br.ffE (by decide) ?_ | refine Br.mk (fun hc => ?_) (fun hc => ?_) | refine Chk.mk (by first | omega | with_reducible rfl | (refine ⟨rfl, ?_⟩; omega) | decide | exact ⟨rfl, by omega, by omega, rfl⟩ | exact ⟨by assumption, rfl, by omega, by omega⟩) ?_ | refine Ar.fit (by omega) ?_ | refine Eqv.shr1 ?_ | refine Ar.u64 (by omega) ?_) <;> conv => whnf) | (with_reducible exact trivial) | ((with_reducible refine And.intro ?_ ?_) <;> conv => whnf) | (intro gn; conv => whnf))
  exact Fin.pureLe (r' := txV x) (by repeat (first | exact List.Sublist.refl _ | refine List.Sublist.cons_cons _ ?_ | refine List.Sublist.cons _ ?_)) (CellLe.aggL (fun j hj => by rcases (by omega : j = 0 ∨ j = 1 ∨ j = 2 ∨ j = 3) with rfl | rfl | rfl | rfl <;> exact CellLe.refl _)) rfl⟩
set_option maxHeartbeats 2000000 in
theorem FnTxnDigest_c (zs : List Int) (hz : ∀ z ∈ zs, 0 ≤ z ∧ z ≤ 255) : SRet Tryd.prog 4 [.sl 1 zs.length (rowF u8F zs)] (· = .b true) := ⟨fun R => by
  refine SCalls.enter tt_ok Tryd.func4 (by kernel_rfl) rfl [(900, .cust R)] rfl (argF _) (fun w F v k h => h) (by simp) ?_
  repeat' (first | (with_reducible first | refine HT.seq ?_ | refine HT.block ?_ | refine Br.not ?_) | ((with_reducible first | refine HT.region tt_ok ?_ | refine HT.drawn tt_ok (by kernel_rfl) (by decide +kernel) ?_ | refine HT.drawnL tt_ok (by kernel_rfl) (by decide +kernel) ?_ | refine HT.cond ?_ | refine HT.ret ?_ | refine HT.skip ?_ | refine HT.exit ?_ | refine Br.tt ?_ | refine Br.ff ?_); conv => whnf) | ((with_reducible first | refine Br.dec (fun hc => ?_) (fun hc => ?_) | refine Br.eq (fun hc => ?_) (fun hc => ?_) | refine Br.ne (fun hc => ?_) (fun hc => ?_)) <;> (first | (exfalso; omega) | conv => whnf)) | ((with_reducible first | refine Br.ttE (by decide) ?_ | refine Br.ffE (by decide) ?_ | refine Br.mk (fun hc => ?_) (fun hc => ?_) | refine Chk.mk (by first | omega | with_reducible rfl | (refine ⟨rfl, ?_⟩; omega) | decide | exact ⟨rfl, by omega, by omega, rfl⟩ | exact ⟨by assumption, rfl, by omega, by omega⟩) ?_ | refine Ar.fit (by omega) ?_ | refine Eqv.shr1 ?_ | refine Ar.u64 (by omega) ?_) <;> conv => whnf) | (with_reducible exact trivial) | ((with_reducible refine And.intro ?_ ?_) <;> conv => whnf) | (intro gn; conv => whnf))
  · exact Fin.pureS (by repeat (first | exact List.Sublist.refl _ | refine List.Sublist.cons_cons _ ?_ | refine List.Sublist.cons _ ?_)) rfl
  refine CallN.ret _ (DrawTD_c zs hz (by omega)) ?_
  rintro r ⟨x, rfl⟩
  conv => whnf
  have hI := implTD_c x
  have hS := specTD_c x
  have hU := implTD_c ⟨x.f, x.t, x.s, (x.e + 1).tmod 10⟩
  cases hok : txOk x
  · have hd := txD_bad hok
    repeat' (first | (with_reducible first | refine HT.seq ?_ | refine HT.block ?_ | refine Br.not ?_) | ((with_reducible first | refine HT.region tt_ok ?_ | refine HT.drawn tt_ok (by kernel_rfl) (by decide +kernel) ?_ | refine HT.drawnL tt_ok (by kernel_rfl) (by decide +kernel) ?_ | refine HT.cond ?_ | refine HT.ret ?_ | refine HT.skip ?_ | refine HT.exit ?_ | refine Br.tt ?_ | refine Br.ff ?_); conv => whnf) | ((with_reducible first | refine Br.dec (fun hc => ?_) (fun hc => ?_) | refine Br.eq (fun hc => ?_) (fun hc => ?_) | refine Br.ne (fun hc => ?_) (fun hc => ?_)) <;> (first | (exfalso; omega) | conv => whnf)) | ((with_reducible first | refine Br.ttE (by decide) ?_ | refine Br.ffE (by decide) ?_ | refine Br.mk (fun hc => ?_) (fun hc => ?_) | refine Chk.mk (by first | omega | with_reducible rfl | (refine ⟨rfl, ?_⟩; omega) | decide | exact ⟨rfl, by omega, by omega, rfl⟩ | exact ⟨by assumption, rfl, by omega, by omega⟩) ?_ | refine Ar.fit (by omega) ?_ | refine Eqv.shr1 ?_ | refine Ar.u64 (by omega) ?_) <;> conv => whnf) | ((first | refine CallN.ret1 (hI) ?_ | refine CallN.ret1 (hS) ?_) <;> conv => whnf) | (with_reducible exact trivial) | ((with_reducible refine And.intro ?_ ?_) <;> conv => whnf) | (intro gn; conv => whnf))
    all_goals first | (exfalso; omega) | exact Fin.pureS (by repeat (first | exact List.Sublist.refl _ | refine List.Sublist.cons_cons _ ?_ | refine List.Sublist.cons _ ?_)) (by first | rfl | exact sv_b rfl | exact sv_b (by simp_all)) | trace_state
  · have hd := txD_rng hok
    have hn := txD_next hok
    have hx := txOk_iff.1 hok
    repeat' (first | (with_reducible first | refine HT.seq ?_ | refine HT.block ?_ | refine Br.not ?_) | ((with_reducible first | refine HT.region tt_ok ?_ | refine HT.drawn tt_ok (by kernel_rfl) (by decide +kernel) ?_ | refine HT.drawnL tt_ok (by kernel_rfl) (by decide +kernel) ?_ | refine HT.cond ?_ | refine HT.ret ?_ | refine HT.skip ?_ | refine HT.exit ?_ | refine Br.tt ?_ | refine Br.ff ?_); conv => whnf) | ((with_reducible first | refine Br.dec (fun hc => ?_) (fun hc => ?_) | refine Br.eq (fun hc => ?_) (fun hc => ?_) | refine Br.ne (fun hc => ?_) (fun hc => ?_)) <;> (first | (exfalso; omega) | conv => whnf)) | ((with_reducible first | refine Br.ttE (by decide) ?_ | refine Br.ffE (by decide) ?_ | refine Br.mk (fun hc => ?_) (fun hc => ?_) | refine Chk.mk (by first | omega | with_reducible rfl | (refine ⟨rfl, ?_⟩; omega) | decide | exact ⟨rfl, by omega, by omega, rfl⟩ | exact ⟨by assumption, rfl, by omega, by omega⟩) ?_ | refine Ar.fit (by omega) ?_ | refine Eqv.shr1 ?_ | refine Ar.u64 (by omega) ?_) <;> conv => whnf) | ((first | refine CallN.ret1 (hI) ?_ | refine CallN.ret1 (hS) ?_ | refine CallN.ret1 (hU) ?_) <;> conv => whnf) | (with_reducible exact trivial) | ((with_reducible refine And.intro ?_ ?_) <;> conv => whnf) | (intro gn; conv => whnf))
    all_goals first | (exfalso; omega) | exact Fin.pureS (by repeat (first | exact List.Sublist.refl _ | refine List.Sublist.cons_cons _ ?_ | refine List.Sublist.cons _ ?_)) (by first | rfl | exact sv_b rfl | exact sv_b (decide_eq_true (by omega)) | exact sv_b (by simp_all; done)) | trace_state⟩
theorem FnExactTxnDigest_c (x : Tx) : SRet Tryd.prog 3 [txV x] (· = .b true) := ⟨fun R => by
  refine SCalls.enter tt_ok Tryd.func3 (by kernel_rfl) rfl [(900, .cust R)] rfl (argF _) (fun w F v k h => h) (by simp) ?_
  have hI := implTD_c x
  have hS := specTD_c x
  repeat' (first | (with_reducible first | refine HT.seq ?_ | refine HT.block ?_ | refine Br.not ?_) | ((with_reducible first | refine HT.region tt_ok ?_ | refine HT.drawn tt_ok (by kernel_rfl) (by decide +kernel) ?_ | refine HT.drawnL tt_ok (by kernel_rfl) (by decide +kernel) ?_ | refine HT.cond ?_ | refine HT.ret ?_ | refine HT.skip ?_ | refine HT.exit ?_ | refine Br.tt ?_ | refine Br.ff ?_); conv => whnf) | ((with_reducible first | refine Br.dec (fun hc => ?_) (fun hc => ?_) | refine Br.eq (fun hc => ?_) (fun hc => ?_) | refine Br.ne (fun hc => ?_) (fun hc => ?_)) <;> (first | (exfalso; omega) | conv => whnf)) | ((with_reducible first | refine Br.ttE (by decide) ?_ | refine Br.ffE (by decide) ?_ | refine Br.mk (fun hc => ?_) (fun hc => ?_) | refine Chk.mk (by first | omega | with_reducible rfl | (refine ⟨rfl, ?_⟩; omega) | decide | exact ⟨rfl, by omega, by omega, rfl⟩ | exact ⟨by assumption, rfl, by omega, by omega⟩) ?_ | refine Ar.fit (by omega) ?_ | refine Eqv.shr1 ?_ | refine Ar.u64 (by omega) ?_) <;> conv => whnf) | ((first | refine CallN.ret1 (toTxn_c x) ?_ | refine CallN.ret1 (hI) ?_ | refine CallN.ret1 (hS) ?_) <;> conv => whnf) | (with_reducible exact trivial) | ((with_reducible refine And.intro ?_ ?_) <;> conv => whnf) | (intro gn; conv => whnf))
  all_goals first | (exfalso; omega) | exact Fin.pureS (by repeat (first | exact List.Sublist.refl _ | refine List.Sublist.cons_cons _ ?_ | refine List.Sublist.cons _ ?_)) (by first | rfl | exact sv_b rfl | exact sv_b (by simp_all)) | trace_state⟩
end Go.Proofs.YtcagfmbboliohaaDoor
/-! YtcagfmbboliohaaDoorFrame -/
set_option linter.all false

set_option maxRecDepth 100000
namespace Go.Proofs.YtcagfmbboliohaaDoor
open Go.ChangeShapes Go.WideShapes Go.ChangeAt Go.RowKit

theorem Tryd.own : ownKnob Tryd.prog.godebug = none := by kernel_rfl
theorem Tryd.laidOut : laidOutB Tryd.prog = true := by kernel_rfl

section
variable {H : Type} {enc : TypeId × Value → H}
theorem trodAll_below {W W' : World} (hb : Below W.heap.size W W') : ∀ {ts : List TypeId} {vs : List Value} {ds : List (DataW H)} {ps : List MemPlace}, (∀ t ∈ ts, Tryd.prog.readableRec t = true ∧ t < Tryd.prog.types.size) →
    DataW.TrodAll enc Tryd.prog W 0 (fun _ => true) true ts vs ds ps → (∀ x ∈ ps, x.block < W.heap.size) → DataW.TrodAll enc Tryd.prog W' 0 (fun b => decide (b < W.heap.size)) true ts vs ds ps
  | [], [], [], ps, _, h, _ => h
  | t :: ts, v :: vs, d :: ds, ps, hr, ⟨p, q, h1, h2, e⟩, hl => by
    subst e
    exact ⟨p, q, Below.trod Tryd.laidOut (hr t List.mem_cons_self).1 (hr t List.mem_cons_self).2 h1 hb fun x hx => hl x (List.mem_append_left _ hx),
      trodAll_below hb (fun t ht => hr t (List.mem_cons_of_mem _ ht)) h2 fun x hx => hl x (List.mem_append_right _ hx), rfl⟩
  | [], _ :: _, _, _, _, h, _ => h.elim
  | [], [], _ :: _, _, _, h, _ => h.elim
  | _ :: _, [], _, _, _, h, _ => h.elim
  | _ :: _, _ :: _, [], _, _, h, _ => h.elim

/-- the types of the parameters can be read -/
theorem readable_ok {ts : List TypeId} (h : (ts.all fun t => Tryd.prog.readableRec t && Nat.blt t Tryd.prog.types.size) = true) : ∀ t ∈ ts, Tryd.prog.readableRec t = true ∧ t < Tryd.prog.types.size := fun t ht => by
  have := List.all_eq_true.1 h t ht
  rw [Bool.and_eq_true] at this
  exact ⟨this.1, Nat.le_of_ble_eq_true this.2⟩


theorem law_lifted {f : FuncId} {fn : Func} {s : ChangeSpec} {os : Os} (started : os.Started) (hfn : Tryd.checked.prog.funcs[f]? = some fn) (hno : Tryd.checked.prog.inits.idxOf? f = none) {bt : TypeId} (hbt : Tryd.prog.underlying bt = some .bool) (hrt : fn.resultTypes = #[bt])
    (hpr : (fn.params.toList.all fun t => Tryd.prog.readableRec t && Nat.blt t Tryd.prog.types.size) = true) (hv : s.vars = []) (hs : ∀ ds : List (DataW H), ds.length = fn.params.size → (s.fn H (ds ++ [])).results = [.lit (.bool true)] ∧ (s.fn H (ds ++ [])).args = ds ∧ (s.fn H (ds ++ [])).vars = [])
    (wit : ∃ (w : World) (tape : Tape) (i : Input), w.os = os ∧ (w.forCall tape i).Shaped Tryd.checked.prog ∧ i.vars = [] ∧ Input.okWide Tryd.checked.prog (w.forCall tape i) .any w.heap.size f i ∧
      s.pre6 enc Tryd.checked.prog fn [] false (w.forCall tape i).memory i.args ∧ ({} : Assume).holds Tryd.checked.prog (lone (Frame.enter Tryd.checked.prog f i.args .normal) [] (w.forCall tape i)))
    (hc : ∀ (W : World) (base : Nat) (args : Array Value) (ds : List (DataW H)) (ps : List MemPlace), (∀ (j : Nat) t v, fn.params[j]? = some t → args[j]? = some v → Value.okWide Tryd.prog W .any base t v) →
      DataW.TrodAll enc Tryd.prog W 0 (fun _ => true) true fn.params.toList args.toList ds ps → Calls Tryd.prog f args W fun e W' => e = .returned (.bool true) ∧ Below W.heap.size W W') :
    ReturnsInHanded {} Tryd.checked os f .any (s.pre6 enc Tryd.checked.prog fn [] false) (s.post enc Tryd.checked.prog fn false true false false) := by
  refine returnsInHanded_of_change (C := Tryd.checked) Tryd.own started hno hfn wit ?_
  intro W base args ds gs before hval hW hcnd _
  have hW' := hW
  obtain ⟨p, q, hA0, hV, rfl, hfz, hnd⟩ := hW
  have hA : DataW.TrodAll enc Tryd.prog W 0 (fun _ => true) true fn.params.toList args.toList ds p := hA0
  have hl : ds.length = fn.params.size := by
    have : ∀ (ts : List TypeId) (vs : List Value) (ds : List (DataW H)) (p : List MemPlace), DataW.TrodAll enc Tryd.prog W 0 (fun _ => true) true ts vs ds p → ds.length = ts.length := by
      intro ts
      induction ts with
      | nil => intro vs ds p h; cases vs <;> cases ds <;> simp [DataW.TrodAll] at h ⊢
      | cons t ts ih => intro vs ds p h; cases vs <;> cases ds <;> simp [DataW.TrodAll] at h ⊢; obtain ⟨_, _, _, h, _⟩ := h; exact ih _ _ _ h
    have := this _ _ _ _ hA
    simpa using this
  rw [hv] at hV
  have hg : gs = [] ∧ q = [] := by cases gs <;> simp [DataW.TrodVars] at hV; exact ⟨rfl, hV⟩
  obtain ⟨rfl, rfl⟩ := hg
  obtain ⟨hs1, hs2, hs3⟩ := hs ds hl
  refine (hc W base args ds p hval hA).mono fun e W' ⟨he, hb⟩ => ⟨_, he, ds, [], _, [], p, [], hW', ?_, ?_, ?_, hb.frame _, fun h => by cases h⟩
  · rw [hs1, hrt]
    exact trodAll_mk1 (shut_bool hbt true)
  · rw [hs2]
    exact trodAll_below hb (readable_ok hpr) hA fun x hx => hW'.lt x (by simpa using hx)
  · rw [hs3, hv]
    exact rfl

/-- a code that came in, as data -/

theorem code_has {t e : TypeId} (ht : Tryd.prog.underlying t = some (.slice e)) (he : Tryd.prog.underlying e = some (.int .u8)) (hc : Tryd.prog.cellsOf e = 1) {W : World} {v : Value} {d : DataW H} {p : List MemPlace} {base : Nat} (hv : Value.okWide Tryd.prog W .any base t v) (h : DataW.Trod enc Tryd.prog W 0 (fun _ => true) true t v d p) :
    ∃ zs : List Int, Has W (fun b => b < W.heap.size) (.sl 1 zs.length (rowF u8F zs)) v ∧ (∀ z ∈ zs, 0 ≤ z ∧ z ≤ 255) := by
  obtain ⟨a0, len, cap, rfl⟩ := okWide_slice ht hv
  obtain ⟨fuel, hf⟩ := h
  rcases open_ints ht he hc hf with ⟨hcs, hx⟩ | ⟨a, len', cap', zs, hcs, _, hl, hm, hz, hx, hcell, hwz⟩
  · simp [Value.cells] at hcs
    obtain ⟨rfl, rfl, rfl⟩ := hcs
    exact ⟨[], ⟨none, 0, rfl, Nat.le_refl _, Nat.zero_le _, fun h => absurd h (by simp)⟩, by simp⟩
  · simp [Value.cells] at hcs
    obtain ⟨rfl, rfl, rfl⟩ := hcs
    have hz : zs.length = cap := by simpa using hz
    have hlen : (zs.take len).length = len := by simp; omega
    refine ⟨zs.take len, ?_, fun z hz' => ?_⟩
    · rw [hlen]
      refine ⟨some a, cap, rfl, hl, hm, fun hp => ?_⟩
      have h0 := hcell 0 (by omega)
      have hsp := World.cell?_spot h0
      have hsp : a.spot = none := hsp
      obtain ⟨b, off, spot⟩ := a
      simp only at hsp
      subst hsp
      refine ⟨b, off, rfl, ?_, fun i k hi hk => ?_⟩
      · rcases Nat.lt_or_ge b W.heap.size with hlt | hge
        · exact hlt
        · have h0 : W.cell? ⟨b, off, none⟩ = _ := h0
          simp [World.cell?, Array.getElem?_eq_none hge] at h0
      · have hk : k = 0 := by omega
        subst hk
        have h1 := hcell i (by omega)
        rw [addr_add'] at h1
        refine ⟨_, by simpa using h1, rfl, ?_⟩
        show Value.int .u8 _ = .int .u8 _
        congr 1
        simp [List.getD_eq_getElem?_getD, List.getElem?_take, hi]
    · have := hwz z (List.mem_of_mem_take hz')
      simpa [Lit.wf, IntKind.min, IntKind.max, IntKind.signed, IntKind.bits] using this
end

/-- a law's contract in the frame's words -/
theorem law_calls {f : FuncId} {ss : List SV} (h : SRet Tryd.prog f ss (· = .b true)) {W : World} {args : Array Value} (ha : HasL W (fun b => b < W.heap.size) ss args.toList) : Calls Tryd.prog f args W fun e W' => e = .returned (.bool true) ∧ Below W.heap.size W W' := by
  let R0 : Heaplet := ⟨fun _ => False, fun _ _ => True, fun _ _ => trivial, fun _ _ => trivial⟩
  have hs0 : HSat W (fun b => b < W.heap.size) [.cust R0] := ⟨fun x hx => by rw [List.mem_singleton.1 hx]; trivial, fun x hx b hb => by rw [List.mem_singleton.1 hx] at hb; exact hb.elim, by simp, fun b hb => hb⟩
  refine ((h.h R0).2 W _ args.toList hs0 ha).mono ?_
  rintro e W' ⟨v, rfl, r, F', H', ⟨_, rfl⟩, hk, hF, hs', hr⟩
  have hr : v = .bool true := hr
  subst hr
  exact ⟨rfl, hk.os, hk.tape, hk.output, hk.size, hk.blk⟩
end Go.Proofs.YtcagfmbboliohaaDoor
/-! YtcagfmbboliohaaDoorEx -/
set_option linter.all false
namespace Go.Proofs.YtcagfmbboliohaaDoor
open Go.ChangeShapes Go.WideShapes Go.RowKit

section
variable {H : Type} {enc : TypeId × Value → H} {base : Nat}

/-- these cells read as data of this type -/
def Td (enc : TypeId × Value → H) (W : World) (t : TypeId) (cs : List Value) : Prop := ∃ fuel x, DataW.trod enc Tryd.prog W 0 (fun _ => true) true fuel t cs = some x
abbrev allF (W : World) : Nat → Prop := fun b => b < W.heap.size
/-- cells, told one by one -/
def Cls (W : World) (sz : Nat) (f : Nat → SV) (cs : List Value) : Prop := cs.length = sz ∧ ∀ j, j < sz → (cs.getD j undef).oneCell' = true ∧ Has W (allF W) (f j) (cs.getD j undef)
def IR (n : Int) : Prop := -9223372036854775808 ≤ n ∧ n ≤ 9223372036854775807

theorem td_int {W : World} {t : TypeId} {cs : List Value} (ht : Tryd.prog.underlying t = some (.int .i64)) (h : Td enc W t cs) : ∃ n, IR n ∧ cs = [.int .i64 n] := by
  obtain ⟨fuel, x, h⟩ := h
  obtain ⟨n, e, _, hw⟩ := DataW.trod_int ht h
  refine ⟨n, ?_, e⟩
  simp [Lit.wf, IntKind.min, IntKind.max, IntKind.signed, IntKind.bits] at hw
  exact hw
theorem td_bool {W : World} {t : TypeId} {cs : List Value} (ht : Tryd.prog.underlying t = some .bool) (h : Td enc W t cs) : ∃ b, cs = [.bool b] := by
  obtain ⟨fuel, x, h⟩ := h
  cases fuel with
  | zero => simp [DataW.trod] at h
  | succ n =>
    unfold DataW.trod at h
    rw [ht] at h
    split at h <;> simp_all
theorem Cls.one {W : World} {s : SV} {v : Value} (h1 : v.oneCell' = true) (h : Has W (allF W) s v) : Cls W 1 (fun _ => s) [v] := ⟨rfl, fun j hj => by
  obtain rfl : j = 0 := by omega
  exact ⟨h1, h⟩⟩
theorem td_slice {α : Type} [Inhabited α] {W : World} (en : α → Nat → SV) (ok : α → Prop) {t e : TypeId} {sz : Nat} (ht : Tryd.prog.underlying t = some (.slice e)) (hc : Tryd.prog.cellsOf e = sz) (h0 : 0 < sz)
    (hel : ∀ cs, Td enc W e cs → ∃ a, ok a ∧ Cls W sz (en a) cs) {cs : List Value} (h : Td enc W t cs) : ∃ (l : List α) (v : Value), (∀ a ∈ l, ok a) ∧ l.length ≤ 9223372036854775807 ∧ cs = [v] ∧ v.oneCell' = true ∧ Has W (allF W) (.sl sz l.length (rowF en l)) v := by
  obtain ⟨fuel, x, h⟩ := h
  rcases Deep.open_slice ht h with ⟨rfl, _⟩ | ⟨a, len, cap, m, n, D, Pl, rfl, hb, hl, hm, hmm, _, hx⟩
  · exact ⟨[], _, by simp, by simp, rfl, rfl, none, 0, rfl, Nat.le_refl _, Nat.zero_le _, fun h => absurd h (by simp)⟩
  · have hlm : len ≤ m := by rw [hmm]; simp; omega
    obtain ⟨F, hF⟩ := Deep.choose_lt (α := α) (n := len) (p := fun i y => ok y ∧ ∀ j, j < sz → ∃ u, W.cell? ((a.add (i * sz)).add j) = some u ∧ u.oneCell' = true ∧ Has W (allF W) (en y j) u) (fun i hi => by
      obtain ⟨cs', h1, h2⟩ := hx i (by omega)
      rw [hc] at h1
      obtain ⟨y, hy, hlen, hcl⟩ := hel cs' ⟨_, _, h2⟩
      refine ⟨y, hy, fun j hj => ?_⟩
      have := (World.cells?_some h1).2.2 j hj
      refine ⟨cs'.getD j undef, ?_, hcl j hj⟩
      rw [this, List.getD_eq_getElem?_getD, List.getElem?_eq_getElem (by omega)]
      rfl)
    have hlen : ((List.range len).map F).length = len := by simp
    have hget : ∀ i, i < len → ((List.range len).map F).getD i default = F i := fun i hi => by simp [List.getD_eq_getElem?_getD, hi]
    refine ⟨(List.range len).map F, _, fun y hy => ?_, by rw [hlen]; unfold maxLen at hm; omega, rfl, rfl, some a, cap, by rw [hlen], by rw [hlen]; exact hl, hm, fun hp => ?_⟩
    · obtain ⟨i, hi, rfl⟩ := List.mem_map.1 hy
      exact (hF i (List.mem_range.1 hi)).1
    · rw [hlen] at hp
      obtain ⟨u0, hu0, _, _⟩ := (hF 0 hp).2 0 h0
      have hs : a.spot = none := by
        have := World.cell?_spot hu0
        simpa [Addr.add] using this
      obtain ⟨b, off, sp⟩ := a
      simp only at hs
      subst hs
      refine ⟨b, off, rfl, ?_, fun i k hi hk => ?_⟩
      · rcases Nat.lt_or_ge b W.heap.size with hlt | hge
        · exact hlt
        · rw [addr_add', addr_add'] at hu0
          simp [World.cell?, Array.getElem?_eq_none hge] at hu0
      · rw [hlen] at hi
        obtain ⟨u, hu, h1, h2⟩ := (hF i hi).2 k hk
        rw [addr_add', addr_add', Nat.add_assoc] at hu
        refine ⟨u, hu, h1, ?_⟩
        show Has W (allF W) (en (((List.range len).map F).getD i default) k) u
        rw [hget i hi]
        exact h2
/-- a field of a struct -/
theorem td_field {W : World} {t : TypeId} {fs : Array Field} {cs : List Value} (ht : Tryd.prog.underlying t = some (.struct fs)) (h : Td enc W t cs) : cs.length = Tryd.prog.cellsOf t ∧ ∀ (i : Nat) (f : Field), fs[i]? = some f → Td enc W f.type ((cs.drop f.offset).take (Tryd.prog.cellsOf f.type)) := by
  obtain ⟨fuel, x, h⟩ := h
  obtain ⟨xs, n, _, _, hl, hx, hf⟩ := DataW.trod_struct ht h
  refine ⟨hl, fun i f hi => ?_⟩
  have hlt : i < fs.size := (Array.getElem?_eq_some_iff.1 hi).1
  have := hf i f hi
  rw [List.getElem?_eq_getElem (by omega)] at this
  exact ⟨n, _, this⟩
theorem td_at {W : World} {t : TypeId} {fs : Array Field} {cs : List Value} (ht : Tryd.prog.underlying t = some (.struct fs)) (h : Td enc W t cs) (i : Nat) {f : Field} (hi : fs[i]? = some f) (o n : Nat) (ft : TypeId) (ho : f.offset = o) (hft : f.type = ft) (hc : Tryd.prog.cellsOf ft = n) : Td enc W ft ((cs.drop o).take n) := by
  have := (td_field ht h).2 i f hi
  rwa [ho, hft, hc] at this
/-- a list of ints that came in -/
theorem td_ints {W : World} {t e : TypeId} {cs : List Value} (ht : Tryd.prog.underlying t = some (.slice e)) (he : Tryd.prog.underlying e = some (.int .i64)) (hc : Tryd.prog.cellsOf e = 1) (h : Td enc W t cs) : ∃ (l : List Int) (v : Value), (∀ a ∈ l, IR a) ∧ l.length ≤ 9223372036854775807 ∧ cs = [v] ∧ v.oneCell' = true ∧ Has W (allF W) (isl l) v :=
  td_slice (W := W) intF IR ht hc (by omega) (fun cs h => by
    obtain ⟨n, hn, rfl⟩ := td_int he h
    exact ⟨n, hn, Cls.one rfl rfl⟩) h
set_option maxRecDepth 100000 in
/-- arguments -/
theorem arg_ints {W : World} {t e : TypeId} {v : Value} {d : DataW H} {p : List MemPlace} (ht : Tryd.prog.underlying t = some (.slice e)) (he : Tryd.prog.underlying e = some (.int .i64)) (hc : Tryd.prog.cellsOf e = 1) (hv : Value.okWide Tryd.prog W .any base t v) (h : DataW.Trod enc Tryd.prog W 0 (fun _ => true) true t v d p) : ∃ (l : List Int), (∀ a ∈ l, IR a) ∧ l.length ≤ 9223372036854775807 ∧ Has W (allF W) (isl l) v := by
  obtain ⟨a0, len, cap, rfl⟩ := okWide_slice ht hv
  obtain ⟨fuel, h⟩ := h
  obtain ⟨l, v, h1, h2, h3, _, h4⟩ := td_ints ht he hc ⟨fuel, _, h⟩
  simp [Value.cells] at h3
  subst h3
  exact ⟨l, h1, h2, h4⟩
set_option maxRecDepth 100000 in
theorem arg_int {W : World} {t : TypeId} {v : Value} {d : DataW H} {p : List MemPlace} (ht : Tryd.prog.underlying t = some (.int .i64)) (hv : Value.okWide Tryd.prog W .any base t v) (h : DataW.Trod enc Tryd.prog W 0 (fun _ => true) true t v d p) : ∃ n, IR n ∧ Has W (allF W) (.i n) v := by
  obtain ⟨n, rfl⟩ := okWide_int ht hv
  obtain ⟨fuel, h⟩ := h
  obtain ⟨m, hm, e⟩ := td_int ht ⟨fuel, _, h⟩
  simp [Value.cells] at e
  subst e
  exact ⟨n, hm, rfl⟩
set_option maxRecDepth 100000 in
theorem arg_slice {α : Type} [Inhabited α] {W : World} (en : α → Nat → SV) (ok : α → Prop) {t e : TypeId} {sz : Nat} {v : Value} {d : DataW H} {p : List MemPlace} (ht : Tryd.prog.underlying t = some (.slice e)) (hc : Tryd.prog.cellsOf e = sz) (h0 : 0 < sz)
    (hel : ∀ cs, Td enc W e cs → ∃ a, ok a ∧ Cls W sz (en a) cs) (hv : Value.okWide Tryd.prog W .any base t v) (h : DataW.Trod enc Tryd.prog W 0 (fun _ => true) true t v d p) : ∃ (l : List α), (∀ a ∈ l, ok a) ∧ l.length ≤ 9223372036854775807 ∧ Has W (allF W) (.sl sz l.length (rowF en l)) v := by
  obtain ⟨a0, len, cap, rfl⟩ := okWide_slice ht hv
  obtain ⟨fuel, h⟩ := h
  obtain ⟨l, v, h1, h2, h3, _, h4⟩ := td_slice en ok ht hc h0 hel ⟨fuel, _, h⟩
  simp [Value.cells] at h3
  subst h3
  exact ⟨l, h1, h2, h4⟩
set_option maxRecDepth 100000 in
theorem arg_struct {α : Type} {W : World} (en : α → Nat → SV) (ok : α → Prop) {t : TypeId} {fs : Array Field} {sz : Nat} {v : Value} {d : DataW H} {p : List MemPlace} (ht : Tryd.prog.underlying t = some (.struct fs)) (hel : ∀ cs, Td enc W t cs → ∃ a, ok a ∧ Cls W sz (en a) cs) (hv : Value.okWide Tryd.prog W .any base t v) (h : DataW.Trod enc Tryd.prog W 0 (fun _ => true) true t v d p) :
    ∃ a : α, ok a ∧ Has W (allF W) (.agg sz (en a)) v := by
  obtain ⟨vs, rfl, _⟩ := okWide_struct ht hv
  obtain ⟨fuel, h⟩ := h
  obtain ⟨a, h1, h2, h3⟩ := hel _ ⟨fuel, _, h⟩
  refine ⟨a, h1, vs, rfl, by simpa [Value.cells] using h2, fun k hk => ?_⟩
  have := (h3 k hk).2
  simpa [Value.cells] using this
end
theorem trodAll_four {H : Type} {enc : TypeId × Value → H} {P : Program} {w : World} {base : Nat} {spare : Nat → Bool} {held : Bool} {t0 t1 t2 t3 : TypeId} {vs : List Value} {d0 d1 d2 d3 : DataW H} {ps : List MemPlace} (h : DataW.TrodAll enc P w base spare held [t0, t1, t2, t3] vs [d0, d1, d2, d3] ps) :
    ∃ v0 v1 v2 v3 p0 p1 p2 p3, vs = [v0, v1, v2, v3] ∧ DataW.Trod enc P w base spare held t0 v0 d0 p0 ∧ DataW.Trod enc P w base spare held t1 v1 d1 p1 ∧ DataW.Trod enc P w base spare held t2 v2 d2 p2 ∧ DataW.Trod enc P w base spare held t3 v3 d3 p3 := by
  match vs, h with
  | [], h => exact h.elim
  | v0 :: vs, ⟨p0, q0, h0, h, _⟩ =>
    match vs, h with
    | [], h => exact h.elim
    | v1 :: vs, ⟨p1, q1, h1, h, _⟩ =>
      match vs, h with
      | [], h => exact h.elim
      | v2 :: vs, ⟨p2, q2, h2, h, _⟩ =>
        match vs, h with
        | [], h => exact h.elim
        | v3 :: vs, ⟨p3, q3, h3, h, _⟩ =>
          match vs, h with
          | [], _ => exact ⟨v0, v1, v2, v3, p0, p1, p2, p3, rfl, h0, h1, h2, h3⟩
          | _ :: _, h => exact h.elim
theorem trodAll_three {H : Type} {enc : TypeId × Value → H} {P : Program} {w : World} {base : Nat} {spare : Nat → Bool} {held : Bool} {t0 t1 t2 : TypeId} {vs : List Value} {d0 d1 d2 : DataW H} {ps : List MemPlace} (h : DataW.TrodAll enc P w base spare held [t0, t1, t2] vs [d0, d1, d2] ps) :
    ∃ v0 v1 v2 p0 p1 p2, vs = [v0, v1, v2] ∧ DataW.Trod enc P w base spare held t0 v0 d0 p0 ∧ DataW.Trod enc P w base spare held t1 v1 d1 p1 ∧ DataW.Trod enc P w base spare held t2 v2 d2 p2 := by
  match vs, h with
  | [], h => exact h.elim
  | v0 :: vs, ⟨p0, q0, h0, h, _⟩ =>
    match vs, h with
    | [], h => exact h.elim
    | v1 :: vs, ⟨p1, q1, h1, h, _⟩ =>
      match vs, h with
      | [], h => exact h.elim
      | v2 :: vs, ⟨p2, q2, h2, h, _⟩ =>
        match vs, h with
        | [], _ => exact ⟨v0, v1, v2, p0, p1, p2, rfl, h0, h1, h2⟩
        | _ :: _, h => exact h.elim
theorem trodAll_len {H : Type} {enc : TypeId × Value → H} {P : Program} {w : World} {base : Nat} {spare : Nat → Bool} {held : Bool} : ∀ {ts : List TypeId} {vs : List Value} {ds : List (DataW H)} {ps : List MemPlace}, DataW.TrodAll enc P w base spare held ts vs ds ps → ds.length = ts.length
  | [], [], [], _, _ => rfl
  | _ :: _, _ :: _, _ :: _, _, ⟨_, _, _, h, _⟩ => congrArg (· + 1) (trodAll_len h)
  | [], _ :: _, _, _, h => h.elim
  | [], [], _ :: _, _, h => h.elim
  | _ :: _, [], _, _, h => h.elim
  | _ :: _, _ :: _, [], _, h => h.elim
end Go.Proofs.YtcagfmbboliohaaDoor
/-! YtcagfmbboliohaaDoorFw -/
set_option linter.all false
set_option maxRecDepth 100000
namespace Go.Proofs.YtcagfmbboliohaaDoor
open Go.ChangeShapes Go.WideShapes Go.ChangeAt Go.RowKit

abbrev laid3 : List (String × DataW Unit) := [("math/bits.deBruijn32tab", Rows.laid_math_bits_deBruijn32tab), ("math/bits.deBruijn64tab", Rows.laid_math_bits_deBruijn64tab), ("internal/strconv.uint64pow10", Rows.laid_internal_strconv_uint64pow10)]
theorem law_liftedW {H : Type} {enc : TypeId × Value → H} {f : FuncId} {fn : Func} {s : ChangeSpec} {os : Os} (started : os.Started) (hfn : Tryd.checked.prog.funcs[f]? = some fn) (hno : Tryd.checked.prog.inits.idxOf? f = none) {bt : TypeId} (hbt : Tryd.prog.underlying bt = some .bool) (hrt : fn.resultTypes = #[bt])
    (hpr : (fn.params.toList.all fun t => Tryd.prog.readableRec t && Nat.blt t Tryd.prog.types.size) = true) (hv : s.vars = []) (hs : ∀ ds : List (DataW H), ds.length = fn.params.size → (s.fn H (ds ++ [])).results = [.lit (.bool true)] ∧ (s.fn H (ds ++ [])).args = ds ∧ (s.fn H (ds ++ [])).vars = [])
    (wit : ∃ (w : World) (tape : Tape) (i : Input), w.os = os ∧ (w.forCall tape i).Shaped Tryd.checked.prog ∧ i.vars = [] ∧ Input.okWide Tryd.checked.prog (w.forCall tape i) .any w.heap.size f i ∧
      ((s.pre enc Tryd.checked.prog fn [] false (w.forCall tape i).memory i.args ∧ laidMet Tryd.prog laid3 (w.forCall tape i).memory) ∧ sizedMet enc Tryd.checked.prog fn (OpenSpec.ofChange s) false (w.forCall tape i).memory i.args) ∧ ({} : Assume).holds Tryd.checked.prog (lone (Frame.enter Tryd.checked.prog f i.args .normal) [] (w.forCall tape i)))
    (hc : ∀ (W : World) (base : Nat) (args : Array Value) (ds : List (DataW H)) (ps : List MemPlace), (∀ (j : Nat) t v, fn.params[j]? = some t → args[j]? = some v → Value.okWide Tryd.prog W .any base t v) →
      DataW.TrodAll enc Tryd.prog W 0 (fun _ => true) true fn.params.toList args.toList ds ps → Calls Tryd.prog f args W fun e W' => e = .returned (.bool true) ∧ Below W.heap.size W W') :
    ReturnsInHanded {} Tryd.checked os f .any (fun w args => (s.pre enc Tryd.checked.prog fn [] false w args ∧ laidMet Tryd.prog laid3 w) ∧ sizedMet enc Tryd.checked.prog fn (OpenSpec.ofChange s) false w args) (s.post enc Tryd.checked.prog fn false true false false) := by
  refine returnsInHanded_of_change_and (C := Tryd.checked) (X := fun w _ => laidMet Tryd.prog laid3 w) (fun _ _ _ hh h => h.of_heap hh) Tryd.own started hno hfn wit ?_
  intro W base args ds gs before hval hW _ _ _ _
  have hW' := hW
  obtain ⟨p, q, hA0, hV, rfl, hfz, hnd⟩ := hW
  have hA : DataW.TrodAll enc Tryd.prog W 0 (fun _ => true) true fn.params.toList args.toList ds p := hA0
  have hl : ds.length = fn.params.size := by
    have : ∀ (ts : List TypeId) (vs : List Value) (ds : List (DataW H)) (p : List MemPlace), DataW.TrodAll enc Tryd.prog W 0 (fun _ => true) true ts vs ds p → ds.length = ts.length := by
      intro ts
      induction ts with
      | nil => intro vs ds p h; cases vs <;> cases ds <;> simp [DataW.TrodAll] at h ⊢
      | cons t ts ih => intro vs ds p h; cases vs <;> cases ds <;> simp [DataW.TrodAll] at h ⊢; obtain ⟨_, _, _, h, _⟩ := h; exact ih _ _ _ h
    have := this _ _ _ _ hA
    simpa using this
  rw [hv] at hV
  have hg : gs = [] ∧ q = [] := by cases gs <;> simp [DataW.TrodVars] at hV; exact ⟨rfl, hV⟩
  obtain ⟨rfl, rfl⟩ := hg
  obtain ⟨hs1, hs2, hs3⟩ := hs ds hl
  refine (hc W base args ds p hval hA).mono fun e W' ⟨he, hb⟩ => ⟨_, he, ds, [], _, [], p, [], hW', ?_, ?_, ?_, hb.frame _, fun h => by cases h⟩
  · rw [hs1, hrt]
    exact trodAll_mk1 (shut_bool hbt true)
  · rw [hs2]
    exact trodAll_below hb (readable_ok hpr) hA fun x hx => hW'.lt x (by simpa using hx)
  · rw [hs3, hv]
    exact rfl
def tab_internal_strconv_uint64pow10 : List Int := [1, 10, 100, 1000, 10000, 100000, 1000000, 10000000, 100000000, 1000000000, 10000000000, 100000000000, 1000000000000, 10000000000000, 100000000000000, 1000000000000000, 10000000000000000, 100000000000000000, 1000000000000000000, 10000000000000000000]
def tabV_internal_strconv_uint64pow10 : Array Value := (tab_internal_strconv_uint64pow10.map fun z => Value.int .u64 z).toArray
def tab_math_bits_deBruijn32tab : List Int := [0, 1, 28, 2, 29, 14, 24, 3, 30, 22, 20, 15, 25, 17, 4, 8, 31, 27, 13, 23, 21, 19, 16, 7, 26, 12, 18, 6, 11, 5, 10, 9]
def tabV_math_bits_deBruijn32tab : Array Value := (tab_math_bits_deBruijn32tab.map fun z => Value.int .u8 z).toArray
def tab_math_bits_deBruijn64tab : List Int := [0, 1, 56, 2, 57, 49, 28, 3, 61, 58, 42, 50, 38, 29, 17, 4, 62, 47, 59, 36, 45, 43, 51, 22, 53, 39, 33, 30, 24, 18, 12, 5, 63, 55, 48, 27, 60, 41, 37, 16, 46, 35, 44, 21, 52, 32, 23, 11, 54, 26, 40, 15, 34, 20, 31, 10, 25, 14, 19, 9, 13, 8, 7, 6]
def tabV_math_bits_deBruijn64tab : Array Value := (tab_math_bits_deBruijn64tab.map fun z => Value.int .u8 z).toArray
/-- a world where the tables are laid -/
noncomputable def laidW (os : Os) : World := ({ World.holding Tryd.prog os ⟨#[], #[], []⟩ with heap := (((((((World.holding Tryd.prog os ⟨#[], #[], []⟩).heap).modify 0 fun | .cells _ t fr => .cells tabV_internal_strconv_uint64pow10 t fr | o => o)).modify 1 fun | .cells _ t fr => .cells tabV_math_bits_deBruijn32tab t fr | o => o)).modify 2 fun | .cells _ t fr => .cells tabV_math_bits_deBruijn64tab t fr | o => o) } : World)
end Go.Proofs.YtcagfmbboliohaaDoor
/-! YtcagfmbboliohaaDoorTgX -/
set_option linter.all false
namespace Go.Proofs.YtcagfmbboliohaaDoor
open Go Go.RowKit Go.ChangeShapes Go.WideShapes

theorem td_tx {H : Type} {enc : TypeId × Value → H} {W : World} {cs : List Value} (h : Td enc W 23 cs) : ∃ x : Tx, True ∧ Cls W 4 (txF x) cs := by
  have hl : cs.length = 4 := (td_field Tryd.underlying23 h).1.trans (by kernel_rfl)
  have c3 : Tryd.prog.cellsOf 3 = 1 := by kernel_rfl
  obtain ⟨a, _, e0⟩ := td_int (t := 3) Tryd.underlying3 (td_at Tryd.underlying23 h 0 rfl 0 1 3 rfl rfl c3)
  obtain ⟨b, _, e1⟩ := td_int (t := 3) Tryd.underlying3 (td_at Tryd.underlying23 h 1 rfl 1 1 3 rfl rfl c3)
  obtain ⟨c, _, e2⟩ := td_int (t := 3) Tryd.underlying3 (td_at Tryd.underlying23 h 2 rfl 2 1 3 rfl rfl c3)
  obtain ⟨d, _, e3⟩ := td_int (t := 3) Tryd.underlying3 (td_at Tryd.underlying23 h 3 rfl 3 1 3 rfl rfl c3)
  match cs, hl with
  | [c0, c1, c2, c3], _ =>
    have q0 : c0 = .int .i64 a := (List.cons.inj (show [c0] = [_] from e0)).1
    have q1 : c1 = .int .i64 b := (List.cons.inj (show [c1] = [_] from e1)).1
    have q2 : c2 = .int .i64 c := (List.cons.inj (show [c2] = [_] from e2)).1
    have q3 : c3 = .int .i64 d := (List.cons.inj (show [c3] = [_] from e3)).1
    clear e0 e1 e2 e3
    subst q0 q1 q2 q3
    exact ⟨⟨a, b, c, d⟩, trivial, rfl, fun j hj => by
      rcases (by omega : j = 0 ∨ j = 1 ∨ j = 2 ∨ j = 3) with rfl | rfl | rfl | rfl <;> exact ⟨rfl, rfl⟩⟩
set_option maxRecDepth 100000 in
theorem fnExactTxnDigest_met (os : Os) : laidMet Tryd.prog laid3 ((laidW os).forCall (fun _ _ => 0) ⟨#[], #[.agg #[.int .i64 0, .int .i64 0, .int .i64 0, .int .i64 0]], []⟩).memory :=
  laidMet_of_run3 8 (by kernel_rfl) (by kernel_rfl) (by kernel_rfl)
set_option maxRecDepth 100000 in
theorem fnExactTxnDigest_holds : Rows.FnExactTxnDigestSaid := by
  refine OpenClaim.holds_of_wide 3 Tryd.f3 rfl rfl rfl rfl rfl rfl rfl ⟨rfl, rfl, rfl, rfl, rfl⟩ rfl rfl rfl rfl rfl (by kernel_rfl) Tryd.func3 (by kernel_rfl)
    (of_decide_eq_true (by kernel_rfl)) (by unfold Func.isWrapper; rw [if_neg (of_decide_eq_false (by kernel_rfl))]; exact ⟨rfl, rfl⟩)
    (fun os started H enc _ => ?_)
  refine law_liftedW (s := Rows.fnExactTxnDigestSpec) started Tryd.func3 (by kernel_rfl) Tryd.underlying4 rfl (by kernel_rfl) rfl (fun ds hl => ?_)
    (ChangeSpec.witness_at (enc := enc) (C := Tryd.checked) (os := os) (X := fun w _ => laidMet Tryd.prog laid3 w) false (laidW os) #[.agg #[.int .i64 0, .int .i64 0, .int .i64 0, .int .i64 0]] 12 rfl (by kernel_rfl) (by kernel_rfl) (by kernel_rfl) (by kernel_rfl) (by kernel_rfl) (fnExactTxnDigest_met os)) ?_
  · match ds, hl with
    | [d0], _ => exact ⟨rfl, rfl, rfl⟩
  · intro W base args ds ps hval hA
    obtain ⟨v0, d0, rfl, rfl, h0⟩ := Go.ChangeShapes.trodAll_one hA
    obtain ⟨l0, i0, a0⟩ := arg_struct (sz := 4) txF (fun _ => True) Tryd.underlying23 (fun cs h => td_tx h) (hval 0 _ v0 rfl rfl) h0
    exact law_calls (FnExactTxnDigest_c l0) ⟨a0, trivial⟩
theorem fnExactTxnDigestCard_holds : Rows.FnExactTxnDigestCardSaid :=
  Claim7.holds_tied_plain_at .later [] [.data, .data, .data] true (true, "7e673cf6f8b83784bdf6bd5a880dc45217a49f0f2cb9b666a5afe4a332f3ef78") false
    fnExactTxnDigest_holds (fun _ h => by cases h) (by kernel_rfl) (fun _ h => by cases h) fnExactTxnDigest_row_tie rfl ⟨rfl, rfl⟩ (by kernel_rfl) rfl
    (fun f fn hf hfn => by
      obtain rfl : f = 3 := Option.some.inj ((show Tryd.prog.funcNamed "loop.example/dagconsensus/laws.FnExactTxnDigest" = some 3 by kernel_rfl).symm.trans hf) |>.symm
      obtain rfl : fn = Tryd.f3 := (Option.some.inj (Tryd.func3.symm.trans hfn)).symm
      exact ⟨by kernel_rfl, fun j t ht => by
        rw [Tryd.params3] at ht
        have hm : t ∈ [23] := by simpa using Array.mem_of_getElem? ht
        have hall : ([23].all fun u => !Tryd.prog.wantsStandIn u) = true := by kernel_rfl
        exact (show Tryd.prog.wantsStandIn t = false by simpa using List.all_eq_true.1 hall t hm)⟩)
    (by kernel_rfl)
end Go.Proofs.YtcagfmbboliohaaDoor
