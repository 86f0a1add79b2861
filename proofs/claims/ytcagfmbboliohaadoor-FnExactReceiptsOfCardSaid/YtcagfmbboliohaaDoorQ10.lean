/- Texts of this proof put together: Td, Te, Ch. -/
import Derived.Test.YtcagfmbboliohaaDoorQ01
import Derived.Test.YtcagfmbboliohaaDoorQ02
import Derived.Test.YtcagfmbboliohaaDoorQ03
import Derived.Test.YtcagfmbboliohaaDoorQ04
import Derived.Test.YtcagfmbboliohaaDoorQ05
import Derived.Test.YtcagfmbboliohaaDoorQ06
import Derived.Test.YtcagfmbboliohaaDoorQ07
import Derived.Test.YtcagfmbboliohaaDoorQ08
import Derived.Test.YtcagfmbboliohaaDoorQ09
/-! YtcagfmbboliohaaDoorTd -/
set_option linter.all false
namespace Go.Proofs.YtcagfmbboliohaaDoor
open Go.RowKit

/-- a numeral of a number below 100 -/
def dg (n : Nat) : UInt8 := UInt8.ofNat (48 + n)
def decB (n : Int) : ByteArray := if n < 10 then ⟨#[dg n.toNat]⟩ else ⟨#[dg (n.toNat / 10), dg (n.toNat % 10)]⟩
theorem decB_lo {n : Int} (h : n < 10) : decB n = ⟨#[dg n.toNat]⟩ := if_pos h
theorem decB_hi {n : Int} (h : ¬ n < 10) : decB n = ⟨#[dg (n.toNat / 10), dg (n.toNat % 10)]⟩ := if_neg h
abbrev SV.s (b : ByteArray) : SV := .val (.string b)
theorem Ar.u8 {z : Int} {K : Int → Prop} (h1 : 0 ≤ z ∧ z ≤ 255) (h2 : K z) : Ar .u8 z K :=
  ⟨⟨z, by simp [IntKind.wrap, IntKind.bits, IntKind.signed]; omega, h2⟩⟩
/-- a byte of a string -/
theorem Fgn.strIdx {L : Hpl} {nx : Nat} {K : KK} {o : Oper} {x y : Operand} {b : ByteArray} {z : Int} (ho : o.op = .index 9 x y) (hz : 0 ≤ z ∧ z < b.size) (hK : K (.val (.int .u8 (b.get! z.toNat).toNat)) L nx) : Fgn Tryd.prog o [.s b, .i z] L nx K := ⟨fun w F ev hs hl => by
  rw [ho] at hl
  obtain ⟨hx, hy⟩ : ev x = .string b ∧ ev y = .int .i64 z := ⟨hl.1, hl.2.1⟩
  refine StepV.value (w' := w) (v := .int .u8 (b.get! z.toNat).toNat) ?_ ⟨_, L, nx, F, ⟨fun _ _ _ _ _ _ h => h, Nat.le_refl _, hK⟩, Keep.refl _ _, fun _ h => h, hs, rfl⟩
  have h2 : z.toNat < b.size := by omega
  have e : b[z.toNat]? = some (b.get! z.toNat) := by
    rw [getElem?_pos b z.toNat h2]
    congr 1
    obtain ⟨a⟩ := b
    exact (getElem!_pos a z.toNat h2).symm
  unfold execOp
  simp [ho, hx, hy, Instr.index, asIntOf, run_underlying Tryd.underlying9, hz.1, e, program, Sem.run]⟩
/-- a byte, as a string -/
theorem Fgn.b2s {L : Hpl} {nx : Nat} {K : KK} {o : Oper} {x : Operand} {A : Option Addr} {c k : Nat} {z : Int} {f : Nat → Nat → SV} (ho : o.op = .convert 28 9 x) (hi : lk k L = .row (.slice A 1 c) 5 1 1 f) (hf : f 0 0 = .val (.int .u8 z)) (hK : K (.s ⟨#[UInt8.ofNat z.toNat]⟩) L nx) : Fgn Tryd.prog o [.own k (.slice A 1 c)] L nx K := ⟨fun w F ev hs hl => by
  rw [ho] at hl
  have hx : ev x = .slice A 1 c := hl.1
  have hs' := hs.lk hi (by simp)
  obtain ⟨xs, ow, hc⟩ := hs'.holds _ List.mem_cons_self
  rcases ow.2 with ⟨e0, _⟩ | ⟨g, cap, cur, e0, hg0, hg, hnc, hcm, hcs, htk⟩
  · cases e0
  · injection e0 with e0 _ e3
    subst e0
    obtain ⟨u, h1, h2, h3⟩ := row_cells (hs'.holds _ List.mem_cons_self) (show (Value.slice (some ⟨g, 0, none⟩) 1 c).ownBlock = some g from rfl) (show 0 < 1 by omega) 0 (by omega)
    rw [hf] at h3
    have h3 : u = .int .u8 z := h3
    subst h3
    refine StepV.value (w' := w) (v := .string ⟨#[UInt8.ofNat z.toNat]⟩) ?_ ⟨_, L, nx, F, ⟨fun _ _ _ _ _ _ h => h, Nat.le_refl _, hK⟩, Keep.refl _ _, fun _ h => h, hs, rfl⟩
    unfold execOp
    have hld := run_loadCells_list (P := Tryd.prog) (w := w) ⟨g, 0, none⟩ [.int .u8 z] (fun j v hj => by
      match j, hj with
      | 0, hj =>
        injection hj with hj
        rw [← hj, addr_add', ← h1])
    simp [ho, hx, convert, run_underlying Tryd.underlying9, run_underlying Tryd.underlying28, run_underlying Tryd.underlying5, Conv.bytesToString]
    have hld : (loadCells ⟨g, 0, none⟩ 1).run Tryd.prog w = .ok #[.int .u8 z] w := hld
    simp [hld]
    rfl⟩

/-! ### digests of strings -/
def dgl (l : List UInt8) : Int := l.foldl (fun h x => (257 * h + (x.toNat : Int) + 1).tmod 991) 7
def dgT (b : ByteArray) : Int := dgl b.data.toList
def dgk (b : ByteArray) (k : Nat) : Int := dgl (b.data.toList.take k)
theorem dgl_snoc (l : List UInt8) (x : UInt8) : dgl (l ++ [x]) = (257 * dgl l + (x.toNat : Int) + 1).tmod 991 := by unfold dgl; rw [List.foldl_append]; rfl
theorem dgl_rng : ∀ (l : List UInt8) (h : Int), 0 ≤ h ∧ h ≤ 990 → 0 ≤ l.foldl (fun h x => (257 * h + (x.toNat : Int) + 1).tmod 991) h ∧ l.foldl (fun h x => (257 * h + (x.toNat : Int) + 1).tmod 991) h ≤ 990
  | [], h, hh => hh
  | x :: l, h, hh => dgl_rng l _ (by
      have e : (257 * h + (x.toNat : Int) + 1).tmod 991 = (257 * h + (x.toNat : Int) + 1) % 991 := Int.tmod_eq_emod_of_nonneg (by omega)
      show 0 ≤ (257 * h + (x.toNat : Int) + 1).tmod 991 ∧ (257 * h + (x.toNat : Int) + 1).tmod 991 ≤ 990
      rw [e]; omega)
theorem dgl_bd (l : List UInt8) : 0 ≤ dgl l ∧ dgl l ≤ 990 := dgl_rng l 7 (by omega)
theorem dgT_bd (b : ByteArray) : 0 ≤ dgT b ∧ dgT b ≤ 990 := dgl_bd _
theorem dgk_bd (b : ByteArray) (k : Nat) : 0 ≤ dgk b k ∧ dgk b k ≤ 990 := dgl_bd _
theorem dgk_zero (b : ByteArray) : dgk b 0 = 7 := rfl
theorem dgk_all {b : ByteArray} {k : Nat} (h : b.size ≤ k) : dgk b k = dgT b := by
  unfold dgk dgT
  have e : b.data.toList.length = b.size := by rw [Array.length_toList]; rfl
  rw [List.take_of_length_le (by omega)]
theorem dgk_succ {b : ByteArray} {k : Nat} (h : k < b.size) : dgk b (k + 1) = (257 * dgk b k + ((b.get! k).toNat : Int) + 1).tmod 991 := by
  obtain ⟨a⟩ := b
  have hk : k < a.toList.length := by simpa [ByteArray.size] using h
  have e : (ByteArray.mk a).get! k = a.toList[k] := by
    show a[k]! = _
    rw [getElem!_pos a k (by simpa using hk)]
    simp
  show dgl (a.toList.take (k + 1)) = _
  rw [List.take_succ_eq_append_getElem hk, dgl_snoc, e]
  rfl
theorem u8_bd (x : UInt8) : (x.toNat : Int) ≤ 255 ∧ 0 ≤ (x.toNat : Int) := by have := x.toNat_lt; omega
theorem l2Text_c (b : ByteArray) (hl : b.size ≤ 1000000) : SRet Tryd.prog 26 [.s b] (· = .i (dgT b)) := ⟨fun R => by
  refine SCalls.enter tt_ok Tryd.func26 (by kernel_rfl) rfl [(900, .cust R)] rfl (argF _) (fun w F v k h => h) (by simp) ?_
  repeat' (first | (with_reducible first | refine HT.seq ?_ | refine HT.block ?_ | refine Br.not ?_) | ((with_reducible first | refine HT.region tt_ok ?_ | refine HT.drawn tt_ok (by kernel_rfl) (by decide +kernel) ?_ | refine HT.drawnL tt_ok (by kernel_rfl) (by decide +kernel) ?_ | refine HT.cond ?_ | refine HT.ret ?_ | refine HT.skip ?_ | refine HT.exit ?_ | refine Br.tt ?_ | refine Br.ff ?_); conv => whnf) | ((with_reducible first | refine Br.dec (fun hc => ?_) (fun hc => ?_) | refine Br.eq (fun hc => ?_) (fun hc => ?_) | refine Br.ne (fun hc => ?_) (fun hc => ?_)) <;> (first | (exfalso; omega) | conv => whnf)) | ((with_reducible first | refine Br.ttE (by decide) ?_ | refine Br.ffE (by decide) ?_ | refine Br.mk (fun hc => ?_) (fun hc => ?_) | refine Chk.mk (by first | omega | with_reducible rfl | (refine ⟨rfl, ?_⟩; omega) | decide | exact ⟨rfl, by omega, by omega, rfl⟩ | exact ⟨by assumption, rfl, by omega, by omega⟩) ?_ | refine Ar.fit (by omega) ?_ | refine Eqv.shr1 ?_ | refine Ar.u64 (by omega) ?_) <;> conv => whnf) | (with_reducible exact trivial) | ((with_reducible refine And.intro ?_ ?_) <;> conv => whnf) | (intro gn; conv => whnf))
  refine HT.loopS [0, 2] (fun k : Nat => [(3, .i (dgk b k)), (4, .i k)]) (fun k : Nat => k ≤ b.size) (fun k : Nat => b.size - k) 0 (Nat.zero_le _) ⟨rfl, rfl, trivial⟩ ?_
  conv => whnf
  rintro k hk
  have hb := dgk_bd b k
  have hu := u8_bd (b.get! ((k : Int)).toNat)
  conv => whnf
  repeat' (first | (with_reducible first | refine HT.seq ?_ | refine HT.block ?_ | refine Br.not ?_) | ((with_reducible first | refine HT.region tt_ok ?_ | refine HT.drawn tt_ok (by kernel_rfl) (by decide +kernel) ?_ | refine HT.drawnL tt_ok (by kernel_rfl) (by decide +kernel) ?_ | refine HT.cond ?_ | refine HT.ret ?_ | refine HT.skip ?_ | refine HT.exit ?_ | refine Br.tt ?_ | refine Br.ff ?_); conv => whnf) | ((with_reducible first | refine Br.dec (fun hc => ?_) (fun hc => ?_) | refine Br.eq (fun hc => ?_) (fun hc => ?_) | refine Br.ne (fun hc => ?_) (fun hc => ?_)) <;> (first | (exfalso; omega) | conv => whnf)) | ((with_reducible first | refine Br.ttE (by decide) ?_ | refine Br.ffE (by decide) ?_ | refine Br.mk (fun hc => ?_) (fun hc => ?_) | refine Chk.mk (by first | omega | with_reducible rfl | (refine ⟨rfl, ?_⟩; omega) | decide | exact ⟨rfl, by omega, by omega, rfl⟩ | exact ⟨by assumption, rfl, by omega, by omega⟩) ?_ | refine Ar.fit (by omega) ?_ | refine Eqv.shr1 ?_ | refine Ar.u64 (by omega) ?_) <;> conv => whnf) | ((first | refine Fgn.strIdx rfl (by omega) ?_) <;> conv => whnf) | (with_reducible exact trivial) | ((with_reducible refine And.intro ?_ ?_) <;> conv => whnf) | (intro gn; conv => whnf))
  all_goals (try simp only [Int.toNat_natCast] at *)
  all_goals first
    | exact ⟨⟨k + 1, by omega, by omega, (by repeat' (first | exact trivial | refine ⟨rfl, ?_⟩)), ⟨sv_i (dgk_succ (by omega)).symm, sv_i (by omega), trivial⟩, (HLe.sub (by repeat (first | exact List.Sublist.refl _ | refine List.Sublist.cons_cons _ ?_ | refine List.Sublist.cons _ ?_)))⟩⟩
    | exact Fin.pureS (by repeat (first | exact List.Sublist.refl _ | refine List.Sublist.cons_cons _ ?_ | refine List.Sublist.cons _ ?_)) (sv_i (dgk_all (by omega)))
    | trace_state
⟩
theorem digestOf_c (b : ByteArray) (hl : b.size ≤ 1000000) : SRet Tryd.prog 42 [.s b] (· = .i (dgT b)) := ⟨fun R => by
  refine SCalls.enter tt_ok Tryd.func42 (by kernel_rfl) rfl [(900, .cust R)] rfl (argF _) (fun w F v k h => h) (by simp) ?_
  repeat' (first | (with_reducible first | refine HT.seq ?_ | refine HT.block ?_ | refine Br.not ?_) | ((with_reducible first | refine HT.region tt_ok ?_ | refine HT.drawn tt_ok (by kernel_rfl) (by decide +kernel) ?_ | refine HT.drawnL tt_ok (by kernel_rfl) (by decide +kernel) ?_ | refine HT.cond ?_ | refine HT.ret ?_ | refine HT.skip ?_ | refine HT.exit ?_ | refine Br.tt ?_ | refine Br.ff ?_); conv => whnf) | ((with_reducible first | refine Br.dec (fun hc => ?_) (fun hc => ?_) | refine Br.eq (fun hc => ?_) (fun hc => ?_) | refine Br.ne (fun hc => ?_) (fun hc => ?_)) <;> (first | (exfalso; omega) | conv => whnf)) | ((with_reducible first | refine Br.ttE (by decide) ?_ | refine Br.ffE (by decide) ?_ | refine Br.mk (fun hc => ?_) (fun hc => ?_) | refine Chk.mk (by first | omega | with_reducible rfl | (refine ⟨rfl, ?_⟩; omega) | decide | exact ⟨rfl, by omega, by omega, rfl⟩ | exact ⟨by assumption, rfl, by omega, by omega⟩) ?_ | refine Ar.fit (by omega) ?_ | refine Eqv.shr1 ?_ | refine Ar.u64 (by omega) ?_) <;> conv => whnf) | (with_reducible exact trivial) | ((with_reducible refine And.intro ?_ ?_) <;> conv => whnf) | (intro gn; conv => whnf))
  refine HT.loopS [0, 2] (fun k : Nat => [(3, .i (dgk b k)), (4, .i k)]) (fun k : Nat => k ≤ b.size) (fun k : Nat => b.size - k) 0 (Nat.zero_le _) ⟨rfl, rfl, trivial⟩ ?_
  conv => whnf
  rintro k hk
  have hb := dgk_bd b k
  have hu := u8_bd (b.get! ((k : Int)).toNat)
  conv => whnf
  repeat' (first | (with_reducible first | refine HT.seq ?_ | refine HT.block ?_ | refine Br.not ?_) | ((with_reducible first | refine HT.region tt_ok ?_ | refine HT.drawn tt_ok (by kernel_rfl) (by decide +kernel) ?_ | refine HT.drawnL tt_ok (by kernel_rfl) (by decide +kernel) ?_ | refine HT.cond ?_ | refine HT.ret ?_ | refine HT.skip ?_ | refine HT.exit ?_ | refine Br.tt ?_ | refine Br.ff ?_); conv => whnf) | ((with_reducible first | refine Br.dec (fun hc => ?_) (fun hc => ?_) | refine Br.eq (fun hc => ?_) (fun hc => ?_) | refine Br.ne (fun hc => ?_) (fun hc => ?_)) <;> (first | (exfalso; omega) | conv => whnf)) | ((with_reducible first | refine Br.ttE (by decide) ?_ | refine Br.ffE (by decide) ?_ | refine Br.mk (fun hc => ?_) (fun hc => ?_) | refine Chk.mk (by first | omega | with_reducible rfl | (refine ⟨rfl, ?_⟩; omega) | decide | exact ⟨rfl, by omega, by omega, rfl⟩ | exact ⟨by assumption, rfl, by omega, by omega⟩) ?_ | refine Ar.fit (by omega) ?_ | refine Eqv.shr1 ?_ | refine Ar.u64 (by omega) ?_) <;> conv => whnf) | ((first | refine Fgn.strIdx rfl (by omega) ?_) <;> conv => whnf) | (with_reducible exact trivial) | ((with_reducible refine And.intro ?_ ?_) <;> conv => whnf) | (intro gn; conv => whnf))
  all_goals (try simp only [Int.toNat_natCast] at *)
  all_goals first
    | exact ⟨⟨k + 1, by omega, by omega, (by repeat' (first | exact trivial | refine ⟨rfl, ?_⟩)), ⟨sv_i (dgk_succ (by omega)).symm, sv_i (by omega), trivial⟩, (HLe.sub (by repeat (first | exact List.Sublist.refl _ | refine List.Sublist.cons_cons _ ?_ | refine List.Sublist.cons _ ?_)))⟩⟩
    | exact Fin.pureS (by repeat (first | exact List.Sublist.refl _ | refine List.Sublist.cons_cons _ ?_ | refine List.Sublist.cons _ ?_)) (sv_i (dgk_all (by omega)))
    | trace_state
⟩
theorem dg_of {n : Int} {m : Nat} (h : n = (m : Int)) : UInt8.ofNat (48 + n).toNat = dg m := by subst h; unfold dg; rw [show (48 + (m : Int)).toNat = 48 + m by omega]
theorem SV.s_eq {a b : ByteArray} (h : a = b) : SV.s a = SV.s b := by rw [h]
theorem decB_size (n : Int) : 1 ≤ (decB n).size ∧ (decB n).size ≤ 2 := by
  unfold decB
  split
  · exact ⟨Nat.le_refl 1, show 1 ≤ 2 by omega⟩
  · exact ⟨show 1 ≤ 2 by omega, Nat.le_refl 2⟩
theorem small_c (n : Int) (h : 0 ≤ n ∧ n < 100) : SRet Tryd.prog 44 [.i n] (· = .s (decB n)) := ⟨fun R => by
  refine SCalls.enter tt_ok Tryd.func44 (by kernel_rfl) rfl [(900, .cust R)] rfl (argF _) (fun w F v k h => h) (by simp) ?_
  repeat' (first | (with_reducible first | refine HT.seq ?_ | refine HT.block ?_ | refine Br.not ?_) | ((with_reducible first | refine HT.region tt_ok ?_ | refine HT.drawn tt_ok (by kernel_rfl) (by decide +kernel) ?_ | refine HT.drawnL tt_ok (by kernel_rfl) (by decide +kernel) ?_ | refine HT.cond ?_ | refine HT.ret ?_ | refine HT.skip ?_ | refine HT.exit ?_ | refine Br.tt ?_ | refine Br.ff ?_); conv => whnf) | ((with_reducible first | refine Br.dec (fun hc => ?_) (fun hc => ?_) | refine Br.eq (fun hc => ?_) (fun hc => ?_) | refine Br.ne (fun hc => ?_) (fun hc => ?_)) <;> (first | (exfalso; omega) | conv => whnf)) | ((with_reducible first | refine Br.ttE (by decide) ?_ | refine Br.ffE (by decide) ?_ | refine Br.mk (fun hc => ?_) (fun hc => ?_) | refine Chk.mk (by first | omega | with_reducible rfl | (refine ⟨rfl, ?_⟩; omega) | decide | exact ⟨rfl, by omega, by omega, rfl⟩ | exact ⟨by assumption, rfl, by omega, by omega⟩) ?_ | refine Ar.fit (by omega) ?_ | refine Eqv.shr1 ?_ | refine Ar.u64 (by omega) ?_) <;> conv => whnf) | ((refine Chk.mk (by refine ⟨by omega, by omega, ?_⟩; first | (show _ ≤ ((36 : Nat) : Int); omega) | (show _ ≤ ((200 : Nat) : Int); omega)) ?_); conv => whnf) | (with_reducible exact trivial) | ((with_reducible refine And.intro ?_ ?_) <;> conv => whnf) | (intro gn; conv => whnf))
  · refine Fin.pureS (by repeat (first | exact List.Sublist.refl _ | refine List.Sublist.cons_cons _ ?_ | refine List.Sublist.cons _ ?_)) (SV.s_eq ?_)
    obtain ⟨k, rfl⟩ := Int.eq_ofNat_of_zero_le h.1
    have h' : k < 10 := by omega
    clear h hc; revert h'; revert k
    decide +kernel
  · refine Fin.pureS (by repeat (first | exact List.Sublist.refl _ | refine List.Sublist.cons_cons _ ?_ | refine List.Sublist.cons _ ?_)) (SV.s_eq ?_)
    obtain ⟨k, rfl⟩ : ∃ k : Nat, n = ((10 + k : Nat) : Int) := ⟨(n - 10).toNat, by omega⟩
    have h' : k < 90 := by omega
    clear h hc; revert h'; revert k
    decide +kernel⟩
theorem fmt_c (n : Int) (h : 0 ≤ n ∧ n < 100) : SRet Tryd.prog 43 [.i n, .i 10] (· = .s (decB n)) := ⟨fun R => by
  refine SCalls.enter tt_ok Tryd.func43 (by kernel_rfl) rfl [(900, .cust R)] rfl (argF _) (fun w F v k h => h) (by simp) ?_
  repeat' (first | (with_reducible first | refine HT.seq ?_ | refine HT.block ?_ | refine Br.not ?_) | ((with_reducible first | refine HT.region tt_ok ?_ | refine HT.drawn tt_ok (by kernel_rfl) (by decide +kernel) ?_ | refine HT.drawnL tt_ok (by kernel_rfl) (by decide +kernel) ?_ | refine HT.cond ?_ | refine HT.ret ?_ | refine HT.skip ?_ | refine HT.exit ?_ | refine Br.tt ?_ | refine Br.ff ?_); conv => whnf) | ((with_reducible first | refine Br.dec (fun hc => ?_) (fun hc => ?_) | refine Br.eq (fun hc => ?_) (fun hc => ?_) | refine Br.ne (fun hc => ?_) (fun hc => ?_)) <;> (first | (exfalso; omega) | conv => whnf)) | ((with_reducible first | refine Br.ttE (by decide) ?_ | refine Br.ffE (by decide) ?_ | refine Br.mk (fun hc => ?_) (fun hc => ?_) | refine Chk.mk (by first | omega | with_reducible rfl | (refine ⟨rfl, ?_⟩; omega) | decide | exact ⟨rfl, by omega, by omega, rfl⟩ | exact ⟨by assumption, rfl, by omega, by omega⟩) ?_ | refine Ar.fit (by omega) ?_ | refine Eqv.shr1 ?_ | refine Ar.u64 (by omega) ?_) <;> conv => whnf) | ((first | refine CallN.ret1 (small_c n h) ?_) <;> conv => whnf) | (with_reducible exact trivial) | ((with_reducible refine And.intro ?_ ?_) <;> conv => whnf) | (intro gn; conv => whnf))
  all_goals first | (exfalso; omega) | exact Fin.pureS (by repeat (first | exact List.Sublist.refl _ | refine List.Sublist.cons_cons _ ?_ | refine List.Sublist.cons _ ?_)) rfl | trace_state⟩
theorem itoaI_c (n : Int) (h : 0 ≤ n ∧ n < 100) : SRet Tryd.prog 41 [.i n] (· = .s (decB n)) := ⟨fun R => by
  refine SCalls.enter tt_ok Tryd.func41 (by kernel_rfl) rfl [(900, .cust R)] rfl (argF _) (fun w F v k h => h) (by simp) ?_
  repeat' (first | (with_reducible first | refine HT.seq ?_ | refine HT.block ?_ | refine Br.not ?_) | ((with_reducible first | refine HT.region tt_ok ?_ | refine HT.drawn tt_ok (by kernel_rfl) (by decide +kernel) ?_ | refine HT.drawnL tt_ok (by kernel_rfl) (by decide +kernel) ?_ | refine HT.cond ?_ | refine HT.ret ?_ | refine HT.skip ?_ | refine HT.exit ?_ | refine Br.tt ?_ | refine Br.ff ?_); conv => whnf) | ((with_reducible first | refine Br.dec (fun hc => ?_) (fun hc => ?_) | refine Br.eq (fun hc => ?_) (fun hc => ?_) | refine Br.ne (fun hc => ?_) (fun hc => ?_)) <;> (first | (exfalso; omega) | conv => whnf)) | ((with_reducible first | refine Br.ttE (by decide) ?_ | refine Br.ffE (by decide) ?_ | refine Br.mk (fun hc => ?_) (fun hc => ?_) | refine Chk.mk (by first | omega | with_reducible rfl | (refine ⟨rfl, ?_⟩; omega) | decide | exact ⟨rfl, by omega, by omega, rfl⟩ | exact ⟨by assumption, rfl, by omega, by omega⟩) ?_ | refine Ar.fit (by omega) ?_ | refine Eqv.shr1 ?_ | refine Ar.u64 (by omega) ?_) <;> conv => whnf) | ((first | refine CallN.ret1 (fmt_c n h) ?_) <;> conv => whnf) | (with_reducible exact trivial) | ((with_reducible refine And.intro ?_ ?_) <;> conv => whnf) | (intro gn; conv => whnf))
  all_goals exact Fin.pureS (by repeat (first | exact List.Sublist.refl _ | refine List.Sublist.cons_cons _ ?_ | refine List.Sublist.cons _ ?_)) rfl⟩
theorem itoa_c (n : Int) (h : 0 ≤ n ∧ n < 100) : SRet Tryd.prog 29 [.i n] (· = .s (decB n)) := ⟨fun R => by
  refine SCalls.enter tt_ok Tryd.func29 (by kernel_rfl) rfl [(900, .cust R)] rfl (argF _) (fun w F v k h => h) (by simp) ?_
  repeat' (first | (with_reducible first | refine HT.seq ?_ | refine HT.block ?_ | refine Br.not ?_) | ((with_reducible first | refine HT.region tt_ok ?_ | refine HT.drawn tt_ok (by kernel_rfl) (by decide +kernel) ?_ | refine HT.drawnL tt_ok (by kernel_rfl) (by decide +kernel) ?_ | refine HT.cond ?_ | refine HT.ret ?_ | refine HT.skip ?_ | refine HT.exit ?_ | refine Br.tt ?_ | refine Br.ff ?_); conv => whnf) | ((with_reducible first | refine Br.dec (fun hc => ?_) (fun hc => ?_) | refine Br.eq (fun hc => ?_) (fun hc => ?_) | refine Br.ne (fun hc => ?_) (fun hc => ?_)) <;> (first | (exfalso; omega) | conv => whnf)) | ((with_reducible first | refine Br.ttE (by decide) ?_ | refine Br.ffE (by decide) ?_ | refine Br.mk (fun hc => ?_) (fun hc => ?_) | refine Chk.mk (by first | omega | with_reducible rfl | (refine ⟨rfl, ?_⟩; omega) | decide | exact ⟨rfl, by omega, by omega, rfl⟩ | exact ⟨by assumption, rfl, by omega, by omega⟩) ?_ | refine Ar.fit (by omega) ?_ | refine Eqv.shr1 ?_ | refine Ar.u64 (by omega) ?_) <;> conv => whnf) | ((first | refine CallN.ret1 (itoaI_c n h) ?_) <;> conv => whnf) | (with_reducible exact trivial) | ((with_reducible refine And.intro ?_ ?_) <;> conv => whnf) | (intro gn; conv => whnf))
  all_goals exact Fin.pureS (by repeat (first | exact List.Sublist.refl _ | refine List.Sublist.cons_cons _ ?_ | refine List.Sublist.cons _ ?_)) rfl⟩
theorem l6Dec_lo (n : Int) (h : 0 ≤ n ∧ n < 10) : SRet Tryd.prog 27 [.i n] (· = .s (decB n)) := ⟨fun R => by
  refine SCalls.enter tt_ok Tryd.func27 (by kernel_rfl) rfl [(900, .cust R)] rfl (argF _) (fun w F v k h => h) (by simp) ?_
  repeat' (first | (with_reducible first | refine HT.seq ?_ | refine HT.block ?_ | refine Br.not ?_) | ((with_reducible first | refine HT.region tt_ok ?_ | refine HT.drawn tt_ok (by kernel_rfl) (by decide +kernel) ?_ | refine HT.drawnL tt_ok (by kernel_rfl) (by decide +kernel) ?_ | refine HT.cond ?_ | refine HT.ret ?_ | refine HT.skip ?_ | refine HT.exit ?_ | refine Br.tt ?_ | refine Br.ff ?_); conv => whnf) | ((with_reducible first | refine Br.dec (fun hc => ?_) (fun hc => ?_) | refine Br.eq (fun hc => ?_) (fun hc => ?_) | refine Br.ne (fun hc => ?_) (fun hc => ?_)) <;> (first | (exfalso; omega) | conv => whnf)) | ((with_reducible first | refine Br.ttE (by decide) ?_ | refine Br.ffE (by decide) ?_ | refine Br.mk (fun hc => ?_) (fun hc => ?_) | refine Chk.mk (by first | omega | with_reducible rfl | (refine ⟨rfl, ?_⟩; omega) | decide | exact ⟨rfl, by omega, by omega, rfl⟩ | exact ⟨by assumption, rfl, by omega, by omega⟩) ?_ | refine Ar.fit (by omega) ?_ | refine Eqv.shr1 ?_ | refine Ar.u64 (by omega) ?_) <;> conv => whnf) | ((first | refine Ar.u8 (by omega) ?_ | refine Fgn.b2s rfl rfl rfl ?_) <;> conv => whnf) | (with_reducible exact trivial) | ((with_reducible refine And.intro ?_ ?_) <;> conv => whnf) | (intro gn; conv => whnf))
  all_goals first | (exfalso; omega) | (refine Fin.pureS (by repeat (first | exact List.Sublist.refl _ | refine List.Sublist.cons_cons _ ?_ | refine List.Sublist.cons _ ?_)) (SV.s_eq ?_); rw [decB_lo h.2, dg_of (m := n.toNat) (by omega)]) | trace_state⟩
theorem l6Dec_c (n : Int) (h : 0 ≤ n ∧ n < 100) : SRet Tryd.prog 27 [.i n] (· = .s (decB n)) := by
  by_cases hn : n < 10
  · exact l6Dec_lo n (by omega)
  refine ⟨fun R => ?_⟩
  have e1 : n.tmod 10 = n % 10 := Int.tmod_eq_emod_of_nonneg h.1
  have e2 : n.tdiv 10 = n / 10 := Int.tdiv_eq_ediv_of_nonneg h.1
  have hD := l6Dec_lo (n.tdiv 10) (by omega)
  have hz := decB_size (n.tdiv 10)
  refine SCalls.enter tt_ok Tryd.func27 (by kernel_rfl) rfl [(900, .cust R)] rfl (argF _) (fun w F v k h => h) (by simp) ?_
  repeat' (first | (with_reducible first | refine HT.seq ?_ | refine HT.block ?_ | refine Br.not ?_) | ((with_reducible first | refine HT.region tt_ok ?_ | refine HT.drawn tt_ok (by kernel_rfl) (by decide +kernel) ?_ | refine HT.drawnL tt_ok (by kernel_rfl) (by decide +kernel) ?_ | refine HT.cond ?_ | refine HT.ret ?_ | refine HT.skip ?_ | refine HT.exit ?_ | refine Br.tt ?_ | refine Br.ff ?_); conv => whnf) | ((with_reducible first | refine Br.dec (fun hc => ?_) (fun hc => ?_) | refine Br.eq (fun hc => ?_) (fun hc => ?_) | refine Br.ne (fun hc => ?_) (fun hc => ?_)) <;> (first | (exfalso; omega) | conv => whnf)) | ((with_reducible first | refine Br.ttE (by decide) ?_ | refine Br.ffE (by decide) ?_ | refine Br.mk (fun hc => ?_) (fun hc => ?_) | refine Chk.mk (by first | omega | with_reducible rfl | (refine ⟨rfl, ?_⟩; omega) | decide | exact ⟨rfl, by omega, by omega, rfl⟩ | exact ⟨by assumption, rfl, by omega, by omega⟩) ?_ | refine Ar.fit (by omega) ?_ | refine Eqv.shr1 ?_ | refine Ar.u64 (by omega) ?_) <;> conv => whnf) | ((first | refine Ar.u8 (by omega) ?_ | refine Fgn.b2s rfl rfl rfl ?_ | refine CallN.ret1 (hD) ?_) <;> conv => whnf) | ((refine Chk.mk (by show _ + 1 ≤ 1000000; omega) ?_); conv => whnf) | (with_reducible exact trivial) | ((with_reducible refine And.intro ?_ ?_) <;> conv => whnf) | (intro gn; conv => whnf))
  all_goals first | (exfalso; omega) | (refine Fin.pureS (by repeat (first | exact List.Sublist.refl _ | refine List.Sublist.cons_cons _ ?_ | refine List.Sublist.cons _ ?_)) (SV.s_eq ?_); rw [decB_lo (by omega), decB_hi hn, dg_of (n := n.tmod 10) (m := n.toNat % 10) (by omega), show (n.tdiv 10).toNat = n.toNat / 10 by omega]; rfl) | trace_state
end Go.Proofs.YtcagfmbboliohaaDoor
/-! YtcagfmbboliohaaDoorTe -/
set_option linter.all false
namespace Go.Proofs.YtcagfmbboliohaaDoor
open Go.RowKit

structure Tx where
  f : Int
  t : Int
  s : Int
  e : Int
instance : Inhabited Tx := ⟨⟨0, 0, 0, 0⟩⟩
def txF (x : Tx) : Nat → SV := litF [.i x.f, .i x.t, .i x.s, .i x.e]
abbrev txV (x : Tx) : SV := .agg 4 (txF x)
def txOk (x : Tx) : Bool := inB x.f 0 5 && (inB x.t 0 5 && (decide (x.f ≠ x.t) && (inB x.s 1 99 && inB x.e 0 9)))
theorem txOk_iff {x : Tx} : txOk x = true ↔ (0 ≤ x.f ∧ x.f ≤ 5) ∧ (0 ≤ x.t ∧ x.t ≤ 5) ∧ x.f ≠ x.t ∧ (1 ≤ x.s ∧ x.s ≤ 99) ∧ (0 ≤ x.e ∧ x.e ≤ 9) := by
  unfold txOk
  simp only [Bool.and_eq_true, inB_true, decide_eq_true_eq]
theorem txOk_no {x : Tx} (h : ¬ ((0 ≤ x.f ∧ x.f ≤ 5) ∧ (0 ≤ x.t ∧ x.t ≤ 5) ∧ x.f ≠ x.t ∧ (1 ≤ x.s ∧ x.s ≤ 99) ∧ (0 ≤ x.e ∧ x.e ≤ 9))) : txOk x = false := by
  rw [← Bool.not_eq_true, txOk_iff]; exact h
abbrev txP (x : Tx) : ByteArray := decB x.f ++ ByteArray.mk #[32] ++ decB x.t ++ ByteArray.mk #[32] ++ decB x.s ++ ByteArray.mk #[32]
def txT (x : Tx) : ByteArray := txP x ++ decB x.e
def txD (x : Tx) : Int := if txOk x = true then dgT (txT x) else -1
theorem txD_ok {x : Tx} (h : txOk x = true) : txD x = dgT (txT x) := if_pos h
theorem txD_bad {x : Tx} (h : txOk x = false) : txD x = -1 := if_neg (by rw [h]; simp)
theorem txD_rng {x : Tx} (h : txOk x = true) : 0 ≤ txD x ∧ txD x ≤ 990 := by rw [txD_ok h]; exact dgT_bd _
theorem dg_nat {n : Nat} (h : n < 10) : (dg n).toNat = 48 + n := by
  unfold dg
  rw [UInt8.toNat_ofNat']
  omega
theorem txD_last {x : Tx} (h : txOk x = true) : txD x = (257 * dgl (txP x).data.toList + (48 + x.e) + 1) % 991 := by
  have h1 := txOk_iff.1 h
  have hb := dgl_bd (txP x).data.toList
  rw [txD_ok h]
  show dgl ((txP x ++ decB x.e).data.toList) = _
  rw [decB_lo (by omega), ByteArray.toList_data_append]
  show dgl ((txP x).data.toList ++ [dg x.e.toNat]) = _
  rw [dgl_snoc, dg_nat (by omega), Int.tmod_eq_emod_of_nonneg (by omega)]
  congr 2
  omega
/-- another fee, another digest -/
theorem txD_next {x : Tx} (h : txOk x = true) : txD ⟨x.f, x.t, x.s, (x.e + 1).tmod 10⟩ ≠ txD x := fun e => by
  have h1 := txOk_iff.1 h
  have e1 : (x.e + 1).tmod 10 = (x.e + 1) % 10 := Int.tmod_eq_emod_of_nonneg (by omega)
  have h2 : txOk ⟨x.f, x.t, x.s, (x.e + 1).tmod 10⟩ = true := txOk_iff.2 ⟨h1.1, h1.2.1, h1.2.2.1, h1.2.2.2.1, by dsimp only; omega⟩
  rw [txD_last h, txD_last h2] at e
  have hb := dgl_bd (txP x).data.toList
  have e : (257 * dgl (txP x).data.toList + (48 + (x.e + 1).tmod 10) + 1) % 991 = (257 * dgl (txP x).data.toList + (48 + x.e) + 1) % 991 := e
  omega
theorem specTV_c (x : Tx) : SRet Tryd.prog 25 [txV x] (· = .b (txOk x)) := ⟨fun R => by
  refine SCalls.enter tt_ok Tryd.func25 (by kernel_rfl) rfl [(900, .cust R)] rfl (argF _) (fun w F v k h => h) (by simp) ?_
  repeat' (first | (with_reducible first | refine HT.seq ?_ | refine HT.block ?_ | refine Br.not ?_) | ((with_reducible first | refine HT.region tt_ok ?_ | refine HT.drawn tt_ok (by kernel_rfl) (by decide +kernel) ?_ | refine HT.drawnL tt_ok (by kernel_rfl) (by decide +kernel) ?_ | refine HT.cond ?_ | refine HT.ret ?_ | refine HT.skip ?_ | refine HT.exit ?_ | refine Br.tt ?_ | refine Br.ff ?_); conv => whnf) | ((with_reducible first | refine Br.dec (fun hc => ?_) (fun hc => ?_) | refine Br.eq (fun hc => ?_) (fun hc => ?_) | refine Br.ne (fun hc => ?_) (fun hc => ?_)) <;> (first | (exfalso; omega) | conv => whnf)) | ((with_reducible first | refine Br.ttE (by decide) ?_ | refine Br.ffE (by decide) ?_ | refine Br.mk (fun hc => ?_) (fun hc => ?_) | refine Chk.mk (by first | omega | with_reducible rfl | (refine ⟨rfl, ?_⟩; omega) | decide | exact ⟨rfl, by omega, by omega, rfl⟩ | exact ⟨by assumption, rfl, by omega, by omega⟩) ?_ | refine Ar.fit (by omega) ?_ | refine Eqv.shr1 ?_ | refine Ar.u64 (by omega) ?_) <;> conv => whnf) | ((first | refine CallN.ret1 (l6In_c _ _ _) ?_) <;> conv => whnf) | (with_reducible exact trivial) | ((with_reducible refine And.intro ?_ ?_) <;> conv => whnf) | (intro gn; conv => whnf))
  all_goals first
    | exact Fin.pureS (by repeat (first | exact List.Sublist.refl _ | refine List.Sublist.cons_cons _ ?_ | refine List.Sublist.cons _ ?_)) (sv_b (by unfold txOk; simp_all))
    | trace_state⟩
theorem implTV_c (x : Tx) : SRet Tryd.prog 28 [txV x] (· = .b (txOk x)) := ⟨fun R => by
  refine SCalls.enter tt_ok Tryd.func28 (by kernel_rfl) rfl [(900, .cust R)] rfl (argF _) (fun w F v k h => h) (by simp) ?_
  repeat' (first | (with_reducible first | refine HT.seq ?_ | refine HT.block ?_ | refine Br.not ?_) | ((with_reducible first | refine HT.region tt_ok ?_ | refine HT.drawn tt_ok (by kernel_rfl) (by decide +kernel) ?_ | refine HT.drawnL tt_ok (by kernel_rfl) (by decide +kernel) ?_ | refine HT.cond ?_ | refine HT.ret ?_ | refine HT.skip ?_ | refine HT.exit ?_ | refine Br.tt ?_ | refine Br.ff ?_); conv => whnf) | ((with_reducible first | refine Br.dec (fun hc => ?_) (fun hc => ?_) | refine Br.eq (fun hc => ?_) (fun hc => ?_) | refine Br.ne (fun hc => ?_) (fun hc => ?_)) <;> (first | (exfalso; omega) | conv => whnf)) | ((with_reducible first | refine Br.ttE (by decide) ?_ | refine Br.ffE (by decide) ?_ | refine Br.mk (fun hc => ?_) (fun hc => ?_) | refine Chk.mk (by first | omega | with_reducible rfl | (refine ⟨rfl, ?_⟩; omega) | decide | exact ⟨rfl, by omega, by omega, rfl⟩ | exact ⟨by assumption, rfl, by omega, by omega⟩) ?_ | refine Ar.fit (by omega) ?_ | refine Eqv.shr1 ?_ | refine Ar.u64 (by omega) ?_) <;> conv => whnf) | ((first | refine CallN.ret1 (isAccount_c _) ?_) <;> conv => whnf) | (with_reducible exact trivial) | ((with_reducible refine And.intro ?_ ?_) <;> conv => whnf) | (intro gn; conv => whnf))
  all_goals refine Fin.pureS (by repeat (first | exact List.Sublist.refl _ | refine List.Sublist.cons_cons _ ?_ | refine List.Sublist.cons _ ?_)) (sv_b ?_)
  all_goals (try simp only [Bool.not_eq_true, Bool.not_eq_false, inB_true, inB_false] at *)
  all_goals first
    | ((first | rw [txOk_no (x := x) (by omega)] | rw [(txOk_iff (x := x)).2 (by omega)]); done)
    | (by_cases h9 : x.e ≤ 9 <;> ((first | rw [txOk_no (x := x) (by omega)] | rw [(txOk_iff (x := x)).2 (by omega)]); simp [h9]; done))
    | trace_state⟩
theorem sizes (x : Tx) : (ByteArray.mk #[32]).size = 1 ∧ (decB x.f ++ ByteArray.mk #[32]).size ≤ 3 ∧ (decB x.f ++ ByteArray.mk #[32] ++ decB x.t).size ≤ 5 ∧ (decB x.f ++ ByteArray.mk #[32] ++ decB x.t ++ ByteArray.mk #[32]).size ≤ 6 ∧ (decB x.f ++ ByteArray.mk #[32] ++ decB x.t ++ ByteArray.mk #[32] ++ decB x.s).size ≤ 8 ∧ (decB x.f ++ ByteArray.mk #[32] ++ decB x.t ++ ByteArray.mk #[32] ++ decB x.s ++ ByteArray.mk #[32]).size ≤ 9 ∧ (txT x).size ≤ 11 := by
  have h0 : (ByteArray.mk #[32]).size = 1 := rfl
  have h1 := decB_size x.f
  have h2 := decB_size x.t
  have h3 := decB_size x.s
  have h4 := decB_size x.e
  unfold txT
  simp only [ByteArray.size_append]
  omega
theorem specTD_c (x : Tx) : SRet Tryd.prog 7 [txV x] (· = .i (txD x)) := ⟨fun R => by
  have hV := specTV_c x
  cases hok : txOk x
  refine SCalls.enter tt_ok Tryd.func7 (by kernel_rfl) rfl [(900, .cust R)] rfl (argF _) (fun w F v k h => h) (by simp) ?_
  · repeat' (first | (with_reducible first | refine HT.seq ?_ | refine HT.block ?_ | refine Br.not ?_) | ((with_reducible first | refine HT.region tt_ok ?_ | refine HT.drawn tt_ok (by kernel_rfl) (by decide +kernel) ?_ | refine HT.drawnL tt_ok (by kernel_rfl) (by decide +kernel) ?_ | refine HT.cond ?_ | refine HT.ret ?_ | refine HT.skip ?_ | refine HT.exit ?_ | refine Br.tt ?_ | refine Br.ff ?_); conv => whnf) | ((with_reducible first | refine Br.dec (fun hc => ?_) (fun hc => ?_) | refine Br.eq (fun hc => ?_) (fun hc => ?_) | refine Br.ne (fun hc => ?_) (fun hc => ?_)) <;> (first | (exfalso; omega) | conv => whnf)) | ((with_reducible first | refine Br.ttE (by decide) ?_ | refine Br.ffE (by decide) ?_ | refine Br.mk (fun hc => ?_) (fun hc => ?_) | refine Chk.mk (by first | omega | with_reducible rfl | (refine ⟨rfl, ?_⟩; omega) | decide | exact ⟨rfl, by omega, by omega, rfl⟩ | exact ⟨by assumption, rfl, by omega, by omega⟩) ?_ | refine Ar.fit (by omega) ?_ | refine Eqv.shr1 ?_ | refine Ar.u64 (by omega) ?_) <;> conv => whnf) | ((first | refine CallN.ret1 (hV.bf hok) ?_) <;> conv => whnf) | (with_reducible exact trivial) | ((with_reducible refine And.intro ?_ ?_) <;> conv => whnf) | (intro gn; conv => whnf))
    all_goals exact Fin.pureS (by repeat (first | exact List.Sublist.refl _ | refine List.Sublist.cons_cons _ ?_ | refine List.Sublist.cons _ ?_)) (sv_i (txD_bad hok).symm)
  have hx := txOk_iff.1 hok
  obtain ⟨z0, z1, z2, z3, z4, z5, z6⟩ := sizes x
  have h1 := decB_size x.f
  have h2 := decB_size x.t
  have h3 := decB_size x.s
  have h4 := decB_size x.e
  have hT := l2Text_c (txT x) (by omega)
  refine SCalls.enter tt_ok Tryd.func7 (by kernel_rfl) rfl [(900, .cust R)] rfl (argF _) (fun w F v k h => h) (by simp) ?_
  repeat' (first | (with_reducible first | refine HT.seq ?_ | refine HT.block ?_ | refine Br.not ?_) | ((with_reducible first | refine HT.region tt_ok ?_ | refine HT.drawn tt_ok (by kernel_rfl) (by decide +kernel) ?_ | refine HT.drawnL tt_ok (by kernel_rfl) (by decide +kernel) ?_ | refine HT.cond ?_ | refine HT.ret ?_ | refine HT.skip ?_ | refine HT.exit ?_ | refine Br.tt ?_ | refine Br.ff ?_); conv => whnf) | ((with_reducible first | refine Br.dec (fun hc => ?_) (fun hc => ?_) | refine Br.eq (fun hc => ?_) (fun hc => ?_) | refine Br.ne (fun hc => ?_) (fun hc => ?_)) <;> (first | (exfalso; omega) | conv => whnf)) | ((with_reducible first | refine Br.ttE (by decide) ?_ | refine Br.ffE (by decide) ?_ | refine Br.mk (fun hc => ?_) (fun hc => ?_) | refine Chk.mk (by first | omega | with_reducible rfl | (refine ⟨rfl, ?_⟩; omega) | decide | exact ⟨rfl, by omega, by omega, rfl⟩ | exact ⟨by assumption, rfl, by omega, by omega⟩) ?_ | refine Ar.fit (by omega) ?_ | refine Eqv.shr1 ?_ | refine Ar.u64 (by omega) ?_) <;> conv => whnf) | ((first | refine CallN.ret1 (hV.bt hok) ?_ | refine CallN.ret1 (hT) ?_ | refine CallN.ret1 (l6Dec_c x.f (by omega)) ?_ | refine CallN.ret1 (l6Dec_c x.t (by omega)) ?_ | refine CallN.ret1 (l6Dec_c x.s (by omega)) ?_ | refine CallN.ret1 (l6Dec_c x.e (by omega)) ?_) <;> conv => whnf) | ((refine Chk.mk (by first | omega | (fail)) ?_); conv => whnf) | (with_reducible exact trivial) | ((with_reducible refine And.intro ?_ ?_) <;> conv => whnf) | (intro gn; conv => whnf))
  all_goals first
    | (exfalso; simp_all; done)
    | exact Fin.pureS (by repeat (first | exact List.Sublist.refl _ | refine List.Sublist.cons_cons _ ?_ | refine List.Sublist.cons _ ?_)) (sv_i (txD_ok hok).symm)
    | trace_state⟩
theorem hashT_c (b : ByteArray) (h : b.size ≤ 60) : SRet Tryd.prog 30 [.s b] (· = .i (dgT b)) := ⟨fun R => by
  refine SCalls.enter tt_ok Tryd.func30 (by kernel_rfl) rfl [(900, .cust R)] rfl (argF _) (fun w F v k h => h) (by simp) ?_
  repeat' (first | (with_reducible first | refine HT.seq ?_ | refine HT.block ?_ | refine Br.not ?_) | ((with_reducible first | refine HT.region tt_ok ?_ | refine HT.drawn tt_ok (by kernel_rfl) (by decide +kernel) ?_ | refine HT.drawnL tt_ok (by kernel_rfl) (by decide +kernel) ?_ | refine HT.cond ?_ | refine HT.ret ?_ | refine HT.skip ?_ | refine HT.exit ?_ | refine Br.tt ?_ | refine Br.ff ?_); conv => whnf) | ((with_reducible first | refine Br.dec (fun hc => ?_) (fun hc => ?_) | refine Br.eq (fun hc => ?_) (fun hc => ?_) | refine Br.ne (fun hc => ?_) (fun hc => ?_)) <;> (first | (exfalso; omega) | conv => whnf)) | ((with_reducible first | refine Br.ttE (by decide) ?_ | refine Br.ffE (by decide) ?_ | refine Br.mk (fun hc => ?_) (fun hc => ?_) | refine Chk.mk (by first | omega | with_reducible rfl | (refine ⟨rfl, ?_⟩; omega) | decide | exact ⟨rfl, by omega, by omega, rfl⟩ | exact ⟨by assumption, rfl, by omega, by omega⟩) ?_ | refine Ar.fit (by omega) ?_ | refine Eqv.shr1 ?_ | refine Ar.u64 (by omega) ?_) <;> conv => whnf) | ((first | refine CallN.ret1 (digestOf_c b (by omega)) ?_) <;> conv => whnf) | (with_reducible exact trivial) | ((with_reducible refine And.intro ?_ ?_) <;> conv => whnf) | (intro gn; conv => whnf))
  all_goals exact Fin.pureS (by repeat (first | exact List.Sublist.refl _ | refine List.Sublist.cons_cons _ ?_ | refine List.Sublist.cons _ ?_)) rfl⟩
theorem implTD_c (x : Tx) : SRet Tryd.prog 9 [txV x] (· = .i (txD x)) := ⟨fun R => by
  have hV := implTV_c x
  cases hok : txOk x
  refine SCalls.enter tt_ok Tryd.func9 (by kernel_rfl) rfl [(900, .cust R)] rfl (argF _) (fun w F v k h => h) (by simp) ?_
  · repeat' (first | (with_reducible first | refine HT.seq ?_ | refine HT.block ?_ | refine Br.not ?_) | ((with_reducible first | refine HT.region tt_ok ?_ | refine HT.drawn tt_ok (by kernel_rfl) (by decide +kernel) ?_ | refine HT.drawnL tt_ok (by kernel_rfl) (by decide +kernel) ?_ | refine HT.cond ?_ | refine HT.ret ?_ | refine HT.skip ?_ | refine HT.exit ?_ | refine Br.tt ?_ | refine Br.ff ?_); conv => whnf) | ((with_reducible first | refine Br.dec (fun hc => ?_) (fun hc => ?_) | refine Br.eq (fun hc => ?_) (fun hc => ?_) | refine Br.ne (fun hc => ?_) (fun hc => ?_)) <;> (first | (exfalso; omega) | conv => whnf)) | ((with_reducible first | refine Br.ttE (by decide) ?_ | refine Br.ffE (by decide) ?_ | refine Br.mk (fun hc => ?_) (fun hc => ?_) | refine Chk.mk (by first | omega | with_reducible rfl | (refine ⟨rfl, ?_⟩; omega) | decide | exact ⟨rfl, by omega, by omega, rfl⟩ | exact ⟨by assumption, rfl, by omega, by omega⟩) ?_ | refine Ar.fit (by omega) ?_ | refine Eqv.shr1 ?_ | refine Ar.u64 (by omega) ?_) <;> conv => whnf) | ((first | refine CallN.ret1 (hV.bf hok) ?_) <;> conv => whnf) | (with_reducible exact trivial) | ((with_reducible refine And.intro ?_ ?_) <;> conv => whnf) | (intro gn; conv => whnf))
    all_goals exact Fin.pureS (by repeat (first | exact List.Sublist.refl _ | refine List.Sublist.cons_cons _ ?_ | refine List.Sublist.cons _ ?_)) (sv_i (txD_bad hok).symm)
  have hx := txOk_iff.1 hok
  obtain ⟨z0, z1, z2, z3, z4, z5, z6⟩ := sizes x
  have h1 := decB_size x.f
  have h2 := decB_size x.t
  have h3 := decB_size x.s
  have h4 := decB_size x.e
  have hT := hashT_c (txT x) (by omega)
  refine SCalls.enter tt_ok Tryd.func9 (by kernel_rfl) rfl [(900, .cust R)] rfl (argF _) (fun w F v k h => h) (by simp) ?_
  repeat' (first | (with_reducible first | refine HT.seq ?_ | refine HT.block ?_ | refine Br.not ?_) | ((with_reducible first | refine HT.region tt_ok ?_ | refine HT.drawn tt_ok (by kernel_rfl) (by decide +kernel) ?_ | refine HT.drawnL tt_ok (by kernel_rfl) (by decide +kernel) ?_ | refine HT.cond ?_ | refine HT.ret ?_ | refine HT.skip ?_ | refine HT.exit ?_ | refine Br.tt ?_ | refine Br.ff ?_); conv => whnf) | ((with_reducible first | refine Br.dec (fun hc => ?_) (fun hc => ?_) | refine Br.eq (fun hc => ?_) (fun hc => ?_) | refine Br.ne (fun hc => ?_) (fun hc => ?_)) <;> (first | (exfalso; omega) | conv => whnf)) | ((with_reducible first | refine Br.ttE (by decide) ?_ | refine Br.ffE (by decide) ?_ | refine Br.mk (fun hc => ?_) (fun hc => ?_) | refine Chk.mk (by first | omega | with_reducible rfl | (refine ⟨rfl, ?_⟩; omega) | decide | exact ⟨rfl, by omega, by omega, rfl⟩ | exact ⟨by assumption, rfl, by omega, by omega⟩) ?_ | refine Ar.fit (by omega) ?_ | refine Eqv.shr1 ?_ | refine Ar.u64 (by omega) ?_) <;> conv => whnf) | ((first | refine CallN.ret1 (hV.bt hok) ?_ | refine CallN.ret1 (hT) ?_ | refine CallN.ret1 (itoa_c x.f (by omega)) ?_ | refine CallN.ret1 (itoa_c x.t (by omega)) ?_ | refine CallN.ret1 (itoa_c x.s (by omega)) ?_ | refine CallN.ret1 (itoa_c x.e (by omega)) ?_) <;> conv => whnf) | ((refine Chk.mk (by first | omega | (fail)) ?_); conv => whnf) | (with_reducible exact trivial) | ((with_reducible refine And.intro ?_ ?_) <;> conv => whnf) | (intro gn; conv => whnf))
  all_goals first
    | (exfalso; simp_all; done)
    | exact Fin.pureS (by repeat (first | exact List.Sublist.refl _ | refine List.Sublist.cons_cons _ ?_ | refine List.Sublist.cons _ ?_)) (sv_i (txD_ok hok).symm)
    | trace_state⟩
end Go.Proofs.YtcagfmbboliohaaDoor
/-! YtcagfmbboliohaaDoorCh -/
set_option linter.all false
namespace Go.Proofs.YtcagfmbboliohaaDoor
open Go.RowKit

def rcVal (r : Rc) : Value := .agg #[.int .i64 r.i, .bool r.b, .int .i64 r.d]
/-- a channel, and what lies in it -/
def chH (g cap : Nat) (l : List Rc) (cl : Bool) : Heaplet where
  fp b := b = g
  holds w _ := ∃ s r tm, w.heap[g]? = some (.chan cap (l.map rcVal).toArray cl s r tm)
  mono _ h := h
  stable hk h := ⟨h.choose, h.choose_spec.choose, h.choose_spec.choose_spec.choose, (hk _ (.inl rfl)).trans h.choose_spec.choose_spec.choose_spec⟩
abbrev chV (g : Nat) : SV := .val (.chan (some g))
theorem rc_val {w : World} {F : Nat → Prop} {f : Nat → SV} {v : Value} {r : Rc} (h : Has w F (.agg 3 f) v) (h0 : f 0 = .i r.i) (h1 : f 1 = .b r.b) (h2 : f 2 = .i r.d) : v = rcVal r := by
  obtain ⟨vs, rfl, hn, hc⟩ := h
  have c0 := hc 0 (by omega)
  have c1 := hc 1 (by omega)
  have c2 := hc 2 (by omega)
  rw [h0] at c0
  rw [h1] at c1
  rw [h2] at c2
  simp only [Has] at c0 c1 c2
  unfold rcVal
  congr 1
  apply Array.ext
  · simpa using hn
  · intro i hi1 hi2
    have hi : i < 3 := by simpa using hi2
    rcases (by omega : i = 0 ∨ i = 1 ∨ i = 2) with rfl | rfl | rfl
    · simpa [Array.getD, hi1] using c0
    · simpa [Array.getD, hi1] using c1
    · simpa [Array.getD, hi1] using c2
theorem rcVal_has (w : World) (F : Nat → Prop) (r : Rc) : Has w F (rcV r) (rcVal r) := ⟨_, rfl, rfl, fun k hk => by
  rcases (by omega : k = 0 ∨ k = 1 ∨ k = 2) with rfl | rfl | rfl <;> rfl⟩
theorem tup2_has {w : World} {F : Nat → Prop} {s : SV} {v : Value} {b : Bool} (h : Has w F s v) : Has w F (.tup 2 (litF [s, .b b])) (.tuple #[v, .bool b]) := ⟨_, rfl, rfl, fun k hk => by
  rcases (by omega : k = 0 ∨ k = 1) with rfl | rfl
  · exact h
  · rfl⟩
section
variable {L : Hpl} {nx : Nat} {K : KK} {o : Oper}
theorem Fgn.makeChan {x : Operand} {z : Int} (ho : o.op = .makeChan 59 x) (hz : 0 ≤ z ∧ z ≤ 1000) (hK : ∀ g, K (chV g) ((nx, .cust (chH g z.toNat [] false)) :: L) (nx + 1)) : Fgn Tryd.prog o [.i z] L nx K := ⟨fun w F ev hs hl => by
  rw [ho] at hl
  have hx : ev x = .int .i64 z := hl.1
  let w' : World := { w with heap := w.heap.push (.chan z.toNat #[] false 0 0 false) }
  have hget : ∀ b, b < w.heap.size → w'.heap[b]? = w.heap[b]? := fun b hb => by
    show (w.heap.push _)[b]? = _
    rw [Array.getElem?_push_lt hb, Array.getElem?_eq_getElem hb]
  refine StepV.value (w' := w') (v := .chan (some w.heap.size)) ?_ ⟨chV w.heap.size, _, _, F, ⟨fun k g t n f hk hl' => BoxKeep.cons (BoxKeep.refl L nx) k g t n f hk hl', Nat.le_succ _, hK w.heap.size⟩, ⟨rfl, rfl, rfl, by simp [w'], fun b hb => hget b (hs.lt b hb), Nat.le_refl _⟩, fun _ h => h, ?_, rfl⟩
  · unfold execOp
    obtain ⟨n, rfl⟩ := Int.eq_ofNat_of_zero_le hz.1
    have hm := Conc.run_makeChan (P := Tryd.prog) (w := w) Tryd.underlying59 (by kernel_rfl : Tryd.prog.info? 39 = some Tryd.t39) .i64 n (by omega) (by show (24 : Int) * n ≤ _; omega)
    rw [ho]
    show (do let r ← Instr.makeChan 59 (ev x); pure (.value r) : Sem Next).run Tryd.prog w = _
    rw [hx, Sem.run_bind, hm]
    rfl
  · refine hs.cons (by simp [w']) hget ⟨0, 0, false, by simp [w']⟩ fun b hb => ?_
    obtain rfl : b = w.heap.size := hb
    exact ⟨by simp [w'], Nat.le_refl _⟩⟩
theorem Fgn.send {x y : Operand} {g cap i : Nat} {l : List Rc} {f : Nat → SV} (r : Rc) (ho : o.op = .send x y) (hl : lk i L = .cust (chH g cap l false)) (hr : l.length < cap) (h0 : f 0 = .i r.i) (h1 : f 1 = .b r.b) (h2 : f 2 = .i r.d) (hK : K (.val undef) (setK i (.cust (chH g cap (l ++ [r]) false)) L) nx) : Fgn Tryd.prog o [chV g, .agg 3 f] L nx K := ⟨fun w F ev hs hv => by
  rw [ho] at hv
  obtain ⟨hx, hy⟩ : ev x = .chan (some g) ∧ Has w F (.agg 3 f) (ev y) := ⟨hv.1, hv.2.1⟩
  have hy := rc_val hy h0 h1 h2
  have hs' := hs.lk hl (by simp)
  obtain ⟨s, rr, tm, hg⟩ := hs'.holds _ List.mem_cons_self
  have hgf := hs'.fp _ List.mem_cons_self g rfl
  have hne : ∀ b, b ≠ g → (w.setChan g cap ((l.map rcVal).toArray.push (rcVal r)) false (s + 1) rr tm).heap[b]? = w.heap[b]? := fun b hb => by
    simp only [World.setChan]; rw [Array.getElem?_setIfInBounds_ne (fun e => hb e.symm)]
  refine StepV.comm (w' := w) (cases := #[Conc.scase g (rcVal r) (.tuple #[])]) (blocking := true) (shape := .send) ?_ ⟨rfl, .inl ⟨g, rcVal r, .tuple #[], cap, _, s, rr, tm, rfl, rfl, hg, by simpa using hr, ?_⟩⟩
  · unfold execOp
    simp [ho, hx, hy, Conc.scase]
  · refine ⟨_, _, nx, F, ⟨fun k g t n f hk hl2 => BoxKeep.setK (fun _ _ _ _ e => by rw [hl] at e; cases e) k g t n f hk hl2, Nat.le_refl _, hK⟩, ⟨rfl, rfl, rfl, by simp [World.setChan], fun b hb => hne b (by rintro rfl; exact hgf.2 hb), Nat.le_refl _⟩, fun _ h => h, ?_, rfl⟩
    refine HSat.setK hl (by simp) (hs'.turn (by simp [World.setChan]) (fun b _ hb => hne b hb) ⟨s + 1, rr, tm, ?_⟩ fun b hb => ?_)
    · rw [Conc.heap_setChan _ _ _ _ _ _ _ _ hgf.1]
      simp
    · obtain rfl : b = g := hb
      exact ⟨by simpa [World.setChan] using hgf.1, .inl rfl⟩⟩
theorem Fgn.recv {x : Operand} {g cap i : Nat} {l : List Rc} {r : Rc} {cl : Bool} (ho : o.op = .recv 59 x true) (hl : lk i L = .cust (chH g cap (r :: l) cl)) (hK : K (.tup 2 (litF [rcV r, .b true])) (setK i (.cust (chH g cap l cl)) L) nx) : Fgn Tryd.prog o [chV g] L nx K := ⟨fun w F ev hs hv => by
  rw [ho] at hv
  have hx : ev x = .chan (some g) := hv.1
  have hs' := hs.lk hl (by simp)
  obtain ⟨s, rr, tm, hg⟩ := hs'.holds _ List.mem_cons_self
  have hgf := hs'.fp _ List.mem_cons_self g rfl
  have hne : ∀ (buf : Array Value) b, b ≠ g → (w.setChan g cap buf cl s (rr + 1) tm).heap[b]? = w.heap[b]? := fun buf b hb => by
    simp only [World.setChan]; rw [Array.getElem?_setIfInBounds_ne (fun e => hb e.symm)]
  refine StepV.comm (w' := w) (cases := #[Conc.rcase g (rcVal ⟨0, false, 0⟩)]) (blocking := true) (shape := .recv true) ?_ ⟨rfl, .inr (.inl ⟨g, _, cap, _, cl, s, rr, tm, true, rfl, rfl, hg, by simp, ?_⟩)⟩
  · have hz : (zeroValue 39).run Tryd.prog w = .ok (rcVal ⟨0, false, 0⟩) w := by
      simp [zeroValue, typeInfo, program, Sem.run, (by kernel_rfl : Tryd.prog.info? 39 = some Tryd.t39)]
      rfl
    unfold execOp
    simp [ho, hx, Conc.rcase, run_underlying Tryd.underlying59, hz]
  · refine ⟨_, _, nx, F, ⟨fun k g t n f hk hl2 => BoxKeep.setK (fun _ _ _ _ e => by rw [hl] at e; cases e) k g t n f hk hl2, Nat.le_refl _, hK⟩, ⟨rfl, rfl, rfl, by simp [World.setChan], fun b hb => hne _ b (by rintro rfl; exact hgf.2 hb), Nat.le_refl _⟩, fun _ h => h, ?_, tup2_has (rcVal_has _ _ r)⟩
    refine HSat.setK hl (by simp) (hs'.turn (by simp [World.setChan]) (fun b _ hb => hne _ b hb) ⟨s, rr + 1, tm, ?_⟩ fun b hb => ?_)
    · rw [Conc.heap_setChan _ _ _ _ _ _ _ _ hgf.1]
      have e : ((r :: l).map rcVal).toArray.extract 1 ((r :: l).map rcVal).toArray.size = (l.map rcVal).toArray := by
        rw [List.extract_toArray]
        simp
        exact List.take_of_length_le (by simp)
      rw [e]
    · obtain rfl : b = g := hb
      exact ⟨by simpa [World.setChan] using hgf.1, .inl rfl⟩⟩
theorem Fgn.recvShut {x : Operand} {g cap i : Nat} (ho : o.op = .recv 59 x true) (hl : lk i L = .cust (chH g cap [] true)) (hK : K (.tup 2 (litF [rcV ⟨0, false, 0⟩, .b false])) L nx) : Fgn Tryd.prog o [chV g] L nx K := ⟨fun w F ev hs hv => by
  rw [ho] at hv
  have hx : ev x = .chan (some g) := hv.1
  have hs' := hs.lk hl (by simp)
  obtain ⟨s, rr, tm, hg⟩ := hs'.holds _ List.mem_cons_self
  refine StepV.comm (w' := w) (cases := #[Conc.rcase g (rcVal ⟨0, false, 0⟩)]) (blocking := true) (shape := .recv true) ?_ ⟨rfl, .inr (.inr ⟨g, _, cap, s, rr, tm, true, rfl, rfl, hg, ?_⟩)⟩
  · have hz : (zeroValue 39).run Tryd.prog w = .ok (rcVal ⟨0, false, 0⟩) w := by
      simp [zeroValue, typeInfo, program, Sem.run, (by kernel_rfl : Tryd.prog.info? 39 = some Tryd.t39)]
      rfl
    unfold execOp
    simp [ho, hx, Conc.rcase, run_underlying Tryd.underlying59, hz]
  · exact ⟨_, L, nx, F, ⟨fun _ _ _ _ _ _ h => h, Nat.le_refl _, hK⟩, Keep.refl _ _, fun _ h => h, hs, tup2_has (rcVal_has _ _ _)⟩⟩
theorem Fgn.close {x : Operand} {g cap i : Nat} {l : List Rc} (ho : o.op = .call { callee := .builtin .close, args := #[x], argTypes := #[59] }) (hl : lk i L = .cust (chH g cap l false)) (hK : K (.val undef) (setK i (.cust (chH g cap l true)) L) nx) : Fgn Tryd.prog o [chV g] L nx K := ⟨fun w F ev hs hv => by
  rw [ho] at hv
  have hx : ev x = .chan (some g) := hv.1
  have hs' := hs.lk hl (by simp)
  obtain ⟨s, rr, tm, hg⟩ := hs'.holds _ List.mem_cons_self
  have hgf := hs'.fp _ List.mem_cons_self g rfl
  have hne : ∀ b, b ≠ g → (w.setChan g cap (l.map rcVal).toArray true s rr tm).heap[b]? = w.heap[b]? := fun b hb => by
    simp only [World.setChan]; rw [Array.getElem?_setIfInBounds_ne (fun e => hb e.symm)]
  refine StepV.value (w' := w.setChan g cap (l.map rcVal).toArray true s rr tm) (v := .tuple #[]) ?_ ?_
  · unfold execOp
    have hg' : w.heap[g]? = some (.chan cap (l.map rcVal).toArray false s rr tm) := hg
    simp only [ho, resolve, invoke, builtin, hx]
    simp [hx, run_close_open _ _ hg']
    rfl
  · refine ⟨_, _, nx, F, ⟨fun k g t n f hk hl2 => BoxKeep.setK (fun _ _ _ _ e => by rw [hl] at e; cases e) k g t n f hk hl2, Nat.le_refl _, hK⟩, ⟨rfl, rfl, rfl, by simp [World.setChan], fun b hb => hne b (by rintro rfl; exact hgf.2 hb), Nat.le_refl _⟩, fun _ h => h, ?_, rfl⟩
    refine HSat.setK hl (by simp) (hs'.turn (by simp [World.setChan]) (fun b _ hb => hne b hb) ⟨s, rr, tm, ?_⟩ fun b hb => ?_)
    · exact Conc.heap_setChan _ _ _ _ _ _ _ _ hgf.1
    · obtain rfl : b = g := hb
      exact ⟨by simpa [World.setChan] using hgf.1, .inl rfl⟩⟩
end
end Go.Proofs.YtcagfmbboliohaaDoor
