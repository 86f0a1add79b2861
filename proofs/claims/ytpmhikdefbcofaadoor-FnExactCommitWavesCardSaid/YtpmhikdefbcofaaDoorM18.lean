/- Texts of this proof put together: Hx, Er, Es, Pp. -/
import Derived.WalkKit
import Derived.LaidEql
import Derived.Stop.Asserts
import Derived.RowKitTokens
import Derived.Test.YtpmhikdefbcofaaDoorM01
import Derived.Test.YtpmhikdefbcofaaDoorM02
import Derived.Test.YtpmhikdefbcofaaDoorM03
import Derived.Test.YtpmhikdefbcofaaDoorM04
import Derived.Test.YtpmhikdefbcofaaDoorM05
import Derived.Test.YtpmhikdefbcofaaDoorM06
import Derived.Test.YtpmhikdefbcofaaDoorM07
import Derived.Test.YtpmhikdefbcofaaDoorM08
import Derived.Test.YtpmhikdefbcofaaDoorM09
import Derived.Test.YtpmhikdefbcofaaDoorM10
import Derived.Test.YtpmhikdefbcofaaDoorM11
import Derived.Test.YtpmhikdefbcofaaDoorM12
import Derived.Test.YtpmhikdefbcofaaDoorM13
import Derived.Test.YtpmhikdefbcofaaDoorM14
import Derived.Test.YtpmhikdefbcofaaDoorM15
import Derived.Test.YtpmhikdefbcofaaDoorM16
import Derived.Test.YtpmhikdefbcofaaDoorM17
/-! YtpmhikdefbcofaaDoorHx -/
set_option linter.all false
namespace Go.Proofs.YtpmhikdefbcofaaDoor
open Go.RowKit

theorem sumTo_zero {g : Nat → Int} : ∀ {n : Nat}, (∀ a, a < n → g a = 0) → sumTo g n = 0
  | 0, _ => rfl
  | n + 1, h => by
    show sumTo g n + g n = 0
    rw [sumTo_zero fun a ha => h a (by omega), h n (by omega)]; rfl
theorem sumTo_upd {g g' : Nat → Int} {p : Nat} (h : ∀ a, a ≠ p → g' a = g a) : ∀ {n : Nat}, p < n → sumTo g' n = sumTo g n + (g' p - g p)
  | 0, hp => absurd hp (by omega)
  | n + 1, hp => by
    show sumTo g' n + g' n = sumTo g n + g n + (g' p - g p)
    rcases Nat.lt_succ_iff_lt_or_eq.1 hp with h1 | rfl
    · rw [sumTo_upd h h1, h n (by omega)]; omega
    · rw [sumTo_congr (g' := g) fun a ha => h a (by omega)]; omega
/-- the weight of a vertex's vote -/
def vwF (c : List Int) (vs : List Vx) (r ld : Int) (i : Nat) : Int := if (vg vs i).r = r ∧ ld ∈ (vg vs i).ps then c.getD (vg vs i).a.toNat default else 0
/-- the weight of an author's vote, among the first k vertices -/
def vtK (c : List Int) (vs : List Vx) (r ld : Int) (k a : Nat) : Int := match fdV vs r a with
  | some i => if i < k ∧ ld ∈ (vg vs i).ps then c.getD a default else 0
  | none => 0
theorem votes_eq {c : List Int} {vs : List Vx} {r ld : Int} (hG : GoodN c vs vs.length) : sumTo (vwF c vs r ld) vs.length = vtS c vs r ld := by
  have key : ∀ k, k ≤ vs.length → sumTo (vwF c vs r ld) k = sumTo (vtK c vs r ld k) c.length := by
    intro k
    induction k with
    | zero =>
      intro _
      show (0 : Int) = _
      rw [sumTo_zero fun a _ => ?_]
      unfold vtK
      split
      · rw [if_neg (by omega)]
      · rfl
    | succ k ih =>
      intro hk
      show sumTo (vwF c vs r ld) k + vwF c vs r ld k = _
      rw [ih (by omega)]
      have hb := vxOk_iff (st_parts (hG k (by omega))).1
      have hfd := hG.fd (i := k) (by omega)
      by_cases hr : (vg vs k).r = r
      · have hp : (vg vs k).a.toNat < c.length := by omega
        have hpa : (((vg vs k).a.toNat : Nat) : Int) = (vg vs k).a := by omega
        rw [sumTo_upd (g := vtK c vs r ld k) (g' := vtK c vs r ld (k + 1)) (p := (vg vs k).a.toNat) (fun a ha => ?_) hp]
        · have e1 : vtK c vs r ld (k + 1) (vg vs k).a.toNat = vwF c vs r ld k := by
            unfold vtK vwF
            rw [hpa, ← hr, hfd]
            by_cases hm : ld ∈ (vg vs k).ps
            · rw [if_pos ⟨rfl, hm⟩]; exact if_pos ⟨by omega, hm⟩
            · rw [if_neg fun h => hm h.2]; exact if_neg fun h => hm h.2
          have e2 : vtK c vs r ld k (vg vs k).a.toNat = 0 := by
            unfold vtK
            rw [hpa, ← hr, hfd]
            exact if_neg fun h => by omega
          rw [e1, e2]; omega
        · unfold vtK
          cases hq : fdV vs r a with
          | none => rfl
          | some i =>
            have hne : i ≠ k := fun e => by
              have := (fd_some hq).2.2.1
              rw [e] at this
              omega
            have : (i < k + 1 ∧ ld ∈ (vg vs i).ps) ↔ (i < k ∧ ld ∈ (vg vs i).ps) := by
              constructor
              · rintro ⟨h1, h2⟩; exact ⟨by omega, h2⟩
              · rintro ⟨h1, h2⟩; exact ⟨by omega, h2⟩
            simp only [this]
      · have e0 : vwF c vs r ld k = 0 := if_neg fun h => hr h.1
        rw [e0, Int.add_zero]
        refine sumTo_congr fun a _ => ?_
        unfold vtK
        cases hq : fdV vs r a with
        | none => rfl
        | some i =>
          have hne : i ≠ k := fun e => by
            have := (fd_some hq).2.1
            rw [e] at this
            exact hr this
          have : (i < k + 1 ∧ ld ∈ (vg vs i).ps) ↔ (i < k ∧ ld ∈ (vg vs i).ps) := by
            constructor
            · rintro ⟨h1, h2⟩; exact ⟨by omega, h2⟩
            · rintro ⟨h1, h2⟩; exact ⟨by omega, h2⟩
          simp only [this]
  rw [key _ (Nat.le_refl _)]
  refine sumTo_congr fun a _ => ?_
  unfold vtK vtF
  cases hq : fdV vs r a with
  | none => rfl
  | some i =>
    have := (fd_some hq).1
    simp only [this, true_and]
theorem vwF_bd {c : List Int} {vs : List Vx} {r ld : Int} (h : cmOk c = true) (hG : GoodN c vs vs.length) : ∀ i, i < vs.length → 0 ≤ vwF c vs r ld i ∧ vwF c vs r ld i ≤ 9 := fun i hi => by
  have hb := vxOk_iff (st_parts (hG i hi)).1
  have := (cmOk_iff.1 h).2 (vg vs i).a.toNat (by omega)
  unfold vwF
  split <;> omega
theorem vwF_part {c : List Int} {vs : List Vx} {r ld : Int} (h : cmOk c = true) (hG : GoodN c vs vs.length) {k : Nat} (hk : k ≤ vs.length) : 0 ≤ sumTo (vwF c vs r ld) k ∧ sumTo (vwF c vs r ld) k ≤ 9 * k := by
  have h1 := sumTo_bd (k := k) (fun i hi => vwF_bd (r := r) (ld := ld) h hG i (by omega))
  omega
theorem l1HasW_c (l : List Int) (x : Int) (hl : l.length ≤ 2000000) : SRet Tryd.prog 59 [isl l, .i x] (· = .b (decide (x ∈ l))) := ⟨fun R => by
  refine SCalls.enter tt_ok Tryd.func59 (by kernel_rfl) rfl [(900, .cust R)] rfl (argF _) (fun w F v k h => h) (by simp) ?_
  repeat' (first | (with_reducible first | refine HT.seq ?_ | refine HT.block ?_ | refine Br.not ?_) | ((with_reducible first | refine HT.region tt_ok ?_ | refine HT.drawn tt_ok (by kernel_rfl) (by decide +kernel) ?_ | refine HT.drawnL tt_ok (by kernel_rfl) (by decide +kernel) ?_ | refine HT.cond ?_ | refine HT.ret ?_ | refine HT.skip ?_ | refine HT.exit ?_ | refine Br.tt ?_ | refine Br.ff ?_); conv => whnf) | ((with_reducible first | refine Br.dec (fun hc => ?_) (fun hc => ?_) | refine Br.eq (fun hc => ?_) (fun hc => ?_) | refine Br.ne (fun hc => ?_) (fun hc => ?_)) <;> (first | (exfalso; omega) | conv => whnf)) | ((with_reducible first | refine Br.ttE (by decide) ?_ | refine Br.ffE (by decide) ?_ | refine Br.mk (fun hc => ?_) (fun hc => ?_) | refine Chk.mk (by first | omega | with_reducible rfl | (refine ⟨rfl, ?_⟩; omega) | decide | exact ⟨rfl, by omega, by omega, rfl⟩ | exact ⟨by assumption, rfl, by omega, by omega⟩) ?_ | refine Ar.fit (by omega) ?_ | refine Eqv.shr1 ?_ | refine Ar.u64 (by omega) ?_) <;> conv => whnf) | (with_reducible exact trivial) | ((with_reducible refine And.intro ?_ ?_) <;> conv => whnf) | (intro gn; conv => whnf))
  refine HT.loopS [0, 1] (fun k : Nat => [(5, .i k)]) (fun k : Nat => k ≤ l.length ∧ ∀ j, j < k → l.getD j default ≠ x) (fun k : Nat => l.length - k) 0 ⟨Nat.zero_le _, fun j hj => absurd hj (by omega)⟩ ⟨rfl, trivial⟩ ?_
  conv => whnf
  rintro k ⟨hk, hall⟩
  repeat' (first | (with_reducible first | refine HT.seq ?_ | refine HT.block ?_ | refine Br.not ?_) | ((with_reducible first | refine HT.region tt_ok ?_ | refine HT.drawn tt_ok (by kernel_rfl) (by decide +kernel) ?_ | refine HT.drawnL tt_ok (by kernel_rfl) (by decide +kernel) ?_ | refine HT.cond ?_ | refine HT.ret ?_ | refine HT.skip ?_ | refine HT.exit ?_ | refine Br.tt ?_ | refine Br.ff ?_); conv => whnf) | ((with_reducible first | refine Br.dec (fun hc => ?_) (fun hc => ?_) | refine Br.eq (fun hc => ?_) (fun hc => ?_) | refine Br.ne (fun hc => ?_) (fun hc => ?_)) <;> (first | (exfalso; omega) | conv => whnf)) | ((with_reducible first | refine Br.ttE (by decide) ?_ | refine Br.ffE (by decide) ?_ | refine Br.mk (fun hc => ?_) (fun hc => ?_) | refine Chk.mk (by first | omega | with_reducible rfl | (refine ⟨rfl, ?_⟩; omega) | decide | exact ⟨rfl, by omega, by omega, rfl⟩ | exact ⟨by assumption, rfl, by omega, by omega⟩) ?_ | refine Ar.fit (by omega) ?_ | refine Eqv.shr1 ?_ | refine Ar.u64 (by omega) ?_) <;> conv => whnf) | (with_reducible exact trivial) | ((with_reducible refine And.intro ?_ ?_) <;> conv => whnf) | (intro gn; conv => whnf))
  all_goals (try simp only [Int.toNat_natCast] at *)
  · exact Fin.pureS (by repeat (first | exact List.Sublist.refl _ | refine List.Sublist.cons_cons _ ?_ | refine List.Sublist.cons _ ?_)) (sv_b (decide_eq_true (by rw [← hc, gDe (by omega)]; exact List.getElem_mem _)).symm)
  · exact ⟨⟨k + 1, ⟨by omega, all_lt_succ hc hall⟩, by omega, (by repeat' (first | exact trivial | refine ⟨rfl, ?_⟩)), ⟨sv_i (by omega), trivial⟩, (HLe.sub (by repeat (first | exact List.Sublist.refl _ | refine List.Sublist.cons_cons _ ?_ | refine List.Sublist.cons _ ?_)))⟩⟩
  · exact Fin.pureS (by repeat (first | exact List.Sublist.refl _ | refine List.Sublist.cons_cons _ ?_ | refine List.Sublist.cons _ ?_)) (sv_b (decide_eq_false (fun hm => by obtain ⟨i, hi, e⟩ := List.getElem_of_mem hm; exact hall i (by omega) ((gDe hi).trans e))).symm)⟩
/-- the votes for the leader of a wave -/
def vwS (c : List Int) (vs : List Vx) (ls : List Int) (wave : Int) : Int := match fdV vs (2 * wave - 1) (ls.getD (wave - 1).toNat default) with
  | some _ => vtS c vs (2 * wave) (ls.getD (wave - 1).toNat default)
  | none => 0
theorem vwS_some {c : List Int} {vs : List Vx} {ls : List Int} {wave : Int} {i : Nat} (h : fdV vs (2 * wave - 1) (ls.getD (wave - 1).toNat default) = some i) : vwS c vs ls wave = vtS c vs (2 * wave) (ls.getD (wave - 1).toNat default) := by unfold vwS; rw [h]
theorem vwS_none {c : List Int} {vs : List Vx} {ls : List Int} {wave : Int} (h : fdV vs (2 * wave - 1) (ls.getD (wave - 1).toNat default) = none) : vwS c vs ls wave = 0 := by unfold vwS; rw [h]
theorem vwS_bd {c : List Int} {vs : List Vx} {ls : List Int} {wave : Int} (h : cmOk c = true) : 0 ≤ vwS c vs ls wave ∧ vwS c vs ls wave ≤ 63 := by
  unfold vwS
  split
  · exact vtS_part h (Nat.le_refl _)
  · omega
set_option maxRecDepth 100000 in
set_option maxHeartbeats 1000000 in
theorem l21Votes_c (c : List Int) (vs : List Vx) (ls : List Int) (wave : Int) (hok : wvOk c vs ls = true) (hv : vs.length ≤ 10000000) (hp : ∀ v ∈ vs, v.ps.length ≤ 10000000) (hw : 1 ≤ wave ∧ wave ≤ (ls.length : Int)) : SRet Tryd.prog 40 [isl c, vsl vs, isl ls, .i wave] (· = .i (vwS c vs ls wave)) := ⟨fun R => by
  obtain ⟨hgr, hl, hld⟩ := wv_parts hok
  have hcm := (grOk_iff.1 hgr).1
  have hG := (grOk_iff.1 hgr).2
  have h7 := (cmOk_iff.1 hcm).1
  have hL := l21Ld_c vs ls wave hv (by omega) hw
  cases hfd : fdV vs (2 * wave - 1) (ls.getD (wave - 1).toNat default) with
  | none =>
    rw [fdI_none hfd] at hL
    refine SCalls.enter tt_ok Tryd.func40 (by kernel_rfl) rfl [(900, .cust R)] rfl (argF _) (fun w F v k h => h) (by simp) ?_
    repeat' (first | (with_reducible first | refine HT.seq ?_ | refine HT.block ?_ | refine Br.not ?_) | ((with_reducible first | refine HT.region tt_ok ?_ | refine HT.drawn tt_ok (by kernel_rfl) (by decide +kernel) ?_ | refine HT.drawnL tt_ok (by kernel_rfl) (by decide +kernel) ?_ | refine HT.cond ?_ | refine HT.ret ?_ | refine HT.skip ?_ | refine HT.exit ?_ | refine Br.tt ?_ | refine Br.ff ?_); conv => whnf) | ((with_reducible first | refine Br.dec (fun hc => ?_) (fun hc => ?_) | refine Br.eq (fun hc => ?_) (fun hc => ?_) | refine Br.ne (fun hc => ?_) (fun hc => ?_)) <;> (first | (exfalso; omega) | conv => whnf)) | ((with_reducible first | refine Br.ttE (by decide) ?_ | refine Br.ffE (by decide) ?_ | refine Br.mk (fun hc => ?_) (fun hc => ?_) | refine Chk.mk (by first | omega | with_reducible rfl | (refine ⟨rfl, ?_⟩; omega) | decide | exact ⟨rfl, by omega, by omega, rfl⟩ | exact ⟨by assumption, rfl, by omega, by omega⟩) ?_ | refine Ar.fit (by omega) ?_ | refine Eqv.shr1 ?_ | refine Ar.u64 (by omega) ?_) <;> conv => whnf) | ((first | refine CallN.ret1 (hL) ?_) <;> conv => whnf) | (with_reducible exact trivial) | ((with_reducible refine And.intro ?_ ?_) <;> conv => whnf) | (intro gn; conv => whnf))
    refine HT.loopS [0, 1, 2, 3, 8] (fun k : Nat => [(10, .i (0 : Int)), (9, .i (0 : Int))]) (fun k : Nat => True) (fun k : Nat => 0) 0 trivial ⟨rfl, rfl, trivial⟩ ?_
    conv => whnf
    intro k _
    repeat' (first | (with_reducible first | refine HT.seq ?_ | refine HT.block ?_ | refine Br.not ?_) | ((with_reducible first | refine HT.region tt_ok ?_ | refine HT.drawn tt_ok (by kernel_rfl) (by decide +kernel) ?_ | refine HT.drawnL tt_ok (by kernel_rfl) (by decide +kernel) ?_ | refine HT.cond ?_ | refine HT.ret ?_ | refine HT.skip ?_ | refine HT.exit ?_ | refine Br.tt ?_ | refine Br.ff ?_); conv => whnf) | ((with_reducible first | refine Br.dec (fun hc => ?_) (fun hc => ?_) | refine Br.eq (fun hc => ?_) (fun hc => ?_) | refine Br.ne (fun hc => ?_) (fun hc => ?_)) <;> (first | (exfalso; omega) | conv => whnf)) | ((with_reducible first | refine Br.ttE (by decide) ?_ | refine Br.ffE (by decide) ?_ | refine Br.mk (fun hc => ?_) (fun hc => ?_) | refine Chk.mk (by first | omega | with_reducible rfl | (refine ⟨rfl, ?_⟩; omega) | decide | exact ⟨rfl, by omega, by omega, rfl⟩ | exact ⟨by assumption, rfl, by omega, by omega⟩) ?_ | refine Ar.fit (by omega) ?_ | refine Eqv.shr1 ?_ | refine Ar.u64 (by omega) ?_) <;> conv => whnf) | ((first | refine CallN.ret1 (hL) ?_) <;> conv => whnf) | (with_reducible exact trivial) | ((with_reducible refine And.intro ?_ ?_) <;> conv => whnf) | (intro gn; conv => whnf))
    all_goals exact Fin.pureS (by repeat (first | exact List.Sublist.refl _ | refine List.Sublist.cons_cons _ ?_ | refine List.Sublist.cons _ ?_)) (sv_i (vwS_none hfd).symm)
  | some i =>
    rw [fdI_some hfd] at hL
    refine SCalls.enter tt_ok Tryd.func40 (by kernel_rfl) rfl [(900, .cust R)] rfl (argF _) (fun w F v k h => h) (by simp) ?_
    repeat' (first | (with_reducible first | refine HT.seq ?_ | refine HT.block ?_ | refine Br.not ?_) | ((with_reducible first | refine HT.region tt_ok ?_ | refine HT.drawn tt_ok (by kernel_rfl) (by decide +kernel) ?_ | refine HT.drawnL tt_ok (by kernel_rfl) (by decide +kernel) ?_ | refine HT.cond ?_ | refine HT.ret ?_ | refine HT.skip ?_ | refine HT.exit ?_ | refine Br.tt ?_ | refine Br.ff ?_); conv => whnf) | ((with_reducible first | refine Br.dec (fun hc => ?_) (fun hc => ?_) | refine Br.eq (fun hc => ?_) (fun hc => ?_) | refine Br.ne (fun hc => ?_) (fun hc => ?_)) <;> (first | (exfalso; omega) | conv => whnf)) | ((with_reducible first | refine Br.ttE (by decide) ?_ | refine Br.ffE (by decide) ?_ | refine Br.mk (fun hc => ?_) (fun hc => ?_) | refine Chk.mk (by first | omega | with_reducible rfl | (refine ⟨rfl, ?_⟩; omega) | decide | exact ⟨rfl, by omega, by omega, rfl⟩ | exact ⟨by assumption, rfl, by omega, by omega⟩) ?_ | refine Ar.fit (by omega) ?_ | refine Eqv.shr1 ?_ | refine Ar.u64 (by omega) ?_) <;> conv => whnf) | ((first | refine CallN.ret1 (hL) ?_) <;> conv => whnf) | (with_reducible exact trivial) | ((with_reducible refine And.intro ?_ ?_) <;> conv => whnf) | (intro gn; conv => whnf))
    refine HT.loopS [0, 1, 2, 3, 8] (fun k : Nat => [(10, .i k), (9, .i (sumTo (vwF c vs (2 * wave) (ls.getD (wave - 1).toNat default)) k))]) (fun k : Nat => k ≤ vs.length) (fun k : Nat => vs.length - k) 0 (Nat.zero_le _) ⟨rfl, rfl, trivial⟩ ?_
    conv => whnf
    intro k hk
    have hb := vwF_part (r := 2 * wave) (ld := ls.getD (wave - 1).toNat default) hcm hG hk
    by_cases hkl : k < vs.length
    rotate_left
    · obtain rfl : k = vs.length := by omega
      repeat' (first | (with_reducible first | refine HT.seq ?_ | refine HT.block ?_ | refine Br.not ?_) | ((with_reducible first | refine HT.region tt_ok ?_ | refine HT.drawn tt_ok (by kernel_rfl) (by decide +kernel) ?_ | refine HT.drawnL tt_ok (by kernel_rfl) (by decide +kernel) ?_ | refine HT.cond ?_ | refine HT.ret ?_ | refine HT.skip ?_ | refine HT.exit ?_ | refine Br.tt ?_ | refine Br.ff ?_); conv => whnf) | ((with_reducible first | refine Br.dec (fun hc => ?_) (fun hc => ?_) | refine Br.eq (fun hc => ?_) (fun hc => ?_) | refine Br.ne (fun hc => ?_) (fun hc => ?_)) <;> (first | (exfalso; omega) | conv => whnf)) | ((with_reducible first | refine Br.ttE (by decide) ?_ | refine Br.ffE (by decide) ?_ | refine Br.mk (fun hc => ?_) (fun hc => ?_) | refine Chk.mk (by first | omega | with_reducible rfl | (refine ⟨rfl, ?_⟩; omega) | decide | exact ⟨rfl, by omega, by omega, rfl⟩ | exact ⟨by assumption, rfl, by omega, by omega⟩) ?_ | refine Ar.fit (by omega) ?_ | refine Eqv.shr1 ?_ | refine Ar.u64 (by omega) ?_) <;> conv => whnf) | ((first | refine CallN.ret1 (hL) ?_) <;> conv => whnf) | (with_reducible exact trivial) | ((with_reducible refine And.intro ?_ ?_) <;> conv => whnf) | (intro gn; conv => whnf))
      all_goals exact Fin.pureS (by repeat (first | exact List.Sublist.refl _ | refine List.Sublist.cons_cons _ ?_ | refine List.Sublist.cons _ ?_)) (sv_i (by rw [votes_eq hG]; exact (vwS_some hfd).symm))
    have hvb := vxOk_iff (st_parts (hG k hkl)).1
    have hpk : (vg vs k).ps.length ≤ 7 := by have h1 := ms_len hvb.2.2.1; omega
    have hca := (cmOk_iff.1 hcm).2 (vg vs k).a.toNat (by omega)
    have hvb2 : 0 ≤ (vs.getD ((k : Int)).toNat default).a ∧ (vs.getD ((k : Int)).toNat default).a < c.length := by rw [Int.toNat_natCast]; show 0 ≤ (vg vs k).a ∧ (vg vs k).a < c.length; omega
    have hca2 : 1 ≤ c.getD (vs.getD ((k : Int)).toNat default).a.toNat default ∧ c.getD (vs.getD ((k : Int)).toNat default).a.toNat default ≤ 9 := by rw [Int.toNat_natCast]; exact hca
    have hH : SRet Tryd.prog 59 [isl (vs.getD ((k : Int)).toNat default).ps, .i (ls.getD (wave - 1).toNat default)] (· = .b (decide (ls.getD (wave - 1).toNat default ∈ (vg vs k).ps))) := by rw [Int.toNat_natCast]; exact l1HasW_c _ _ (by show (vg vs k).ps.length ≤ _; omega)
    by_cases hr : (vg vs k).r = 2 * wave
    · have hr2 : (vs.getD ((k : Int)).toNat default).r = 2 * wave := by rw [Int.toNat_natCast]; exact hr
      by_cases hm : ls.getD (wave - 1).toNat default ∈ (vg vs k).ps
      · have hw1 : vwF c vs (2 * wave) (ls.getD (wave - 1).toNat default) k = c.getD (vs.getD k default).a.toNat default := if_pos ⟨hr, hm⟩
        repeat' (first | (with_reducible first | refine HT.seq ?_ | refine HT.block ?_ | refine Br.not ?_) | ((with_reducible first | refine HT.region tt_ok ?_ | refine HT.drawn tt_ok (by kernel_rfl) (by decide +kernel) ?_ | refine HT.drawnL tt_ok (by kernel_rfl) (by decide +kernel) ?_ | refine HT.cond ?_ | refine HT.ret ?_ | refine HT.skip ?_ | refine HT.exit ?_ | refine Br.tt ?_ | refine Br.ff ?_); conv => whnf) | ((with_reducible first | refine Br.dec (fun hc => ?_) (fun hc => ?_) | refine Br.eq (fun hc => ?_) (fun hc => ?_) | refine Br.ne (fun hc => ?_) (fun hc => ?_)) <;> (first | (exfalso; omega) | conv => whnf)) | ((with_reducible first | refine Br.ttE (by decide) ?_ | refine Br.ffE (by decide) ?_ | refine Br.mk (fun hc => ?_) (fun hc => ?_) | refine Chk.mk (by first | omega | with_reducible rfl | (refine ⟨rfl, ?_⟩; omega) | decide | exact ⟨rfl, by omega, by omega, rfl⟩ | exact ⟨by assumption, rfl, by omega, by omega⟩) ?_ | refine Ar.fit (by omega) ?_ | refine Eqv.shr1 ?_ | refine Ar.u64 (by omega) ?_) <;> conv => whnf) | ((first | refine CallN.ret1 (hL) ?_ | refine CallN.ret1 (hH.bt (decide_eq_true hm)) ?_) <;> conv => whnf) | (with_reducible exact trivial) | ((with_reducible refine And.intro ?_ ?_) <;> conv => whnf) | (intro gn; conv => whnf))
        all_goals (try simp only [Int.toNat_natCast] at *)
        all_goals first | (exfalso; omega) | exact ⟨⟨k + 1, by omega, by omega, (by repeat' (first | exact trivial | refine ⟨rfl, ?_⟩)), ⟨sv_i (by omega), sv_i (by show _ = sumTo _ k + vwF c vs (2 * wave) _ k; omega), trivial⟩, (HLe.sub (by repeat (first | exact List.Sublist.refl _ | refine List.Sublist.cons_cons _ ?_ | refine List.Sublist.cons _ ?_)))⟩⟩
      · have hw0 : vwF c vs (2 * wave) (ls.getD (wave - 1).toNat default) k = 0 := if_neg fun h => hm h.2
        repeat' (first | (with_reducible first | refine HT.seq ?_ | refine HT.block ?_ | refine Br.not ?_) | ((with_reducible first | refine HT.region tt_ok ?_ | refine HT.drawn tt_ok (by kernel_rfl) (by decide +kernel) ?_ | refine HT.drawnL tt_ok (by kernel_rfl) (by decide +kernel) ?_ | refine HT.cond ?_ | refine HT.ret ?_ | refine HT.skip ?_ | refine HT.exit ?_ | refine Br.tt ?_ | refine Br.ff ?_); conv => whnf) | ((with_reducible first | refine Br.dec (fun hc => ?_) (fun hc => ?_) | refine Br.eq (fun hc => ?_) (fun hc => ?_) | refine Br.ne (fun hc => ?_) (fun hc => ?_)) <;> (first | (exfalso; omega) | conv => whnf)) | ((with_reducible first | refine Br.ttE (by decide) ?_ | refine Br.ffE (by decide) ?_ | refine Br.mk (fun hc => ?_) (fun hc => ?_) | refine Chk.mk (by first | omega | with_reducible rfl | (refine ⟨rfl, ?_⟩; omega) | decide | exact ⟨rfl, by omega, by omega, rfl⟩ | exact ⟨by assumption, rfl, by omega, by omega⟩) ?_ | refine Ar.fit (by omega) ?_ | refine Eqv.shr1 ?_ | refine Ar.u64 (by omega) ?_) <;> conv => whnf) | ((first | refine CallN.ret1 (hL) ?_ | refine CallN.ret1 (hH.bf (decide_eq_false hm)) ?_) <;> conv => whnf) | (with_reducible exact trivial) | ((with_reducible refine And.intro ?_ ?_) <;> conv => whnf) | (intro gn; conv => whnf))
        all_goals (try simp only [Int.toNat_natCast] at *)
        all_goals first | (exfalso; omega) | exact ⟨⟨k + 1, by omega, by omega, (by repeat' (first | exact trivial | refine ⟨rfl, ?_⟩)), ⟨sv_i (by omega), sv_i (by show _ = sumTo _ k + vwF c vs (2 * wave) _ k; omega), trivial⟩, (HLe.sub (by repeat (first | exact List.Sublist.refl _ | refine List.Sublist.cons_cons _ ?_ | refine List.Sublist.cons _ ?_)))⟩⟩
    · have hr2 : ¬ (vs.getD ((k : Int)).toNat default).r = 2 * wave := by rw [Int.toNat_natCast]; exact hr
      have hw0 : vwF c vs (2 * wave) (ls.getD (wave - 1).toNat default) k = 0 := if_neg fun h => hr h.1
      repeat' (first | (with_reducible first | refine HT.seq ?_ | refine HT.block ?_ | refine Br.not ?_) | ((with_reducible first | refine HT.region tt_ok ?_ | refine HT.drawn tt_ok (by kernel_rfl) (by decide +kernel) ?_ | refine HT.drawnL tt_ok (by kernel_rfl) (by decide +kernel) ?_ | refine HT.cond ?_ | refine HT.ret ?_ | refine HT.skip ?_ | refine HT.exit ?_ | refine Br.tt ?_ | refine Br.ff ?_); conv => whnf) | ((with_reducible first | refine Br.dec (fun hc => ?_) (fun hc => ?_) | refine Br.eq (fun hc => ?_) (fun hc => ?_) | refine Br.ne (fun hc => ?_) (fun hc => ?_)) <;> (first | (exfalso; omega) | conv => whnf)) | ((with_reducible first | refine Br.ttE (by decide) ?_ | refine Br.ffE (by decide) ?_ | refine Br.mk (fun hc => ?_) (fun hc => ?_) | refine Chk.mk (by first | omega | with_reducible rfl | (refine ⟨rfl, ?_⟩; omega) | decide | exact ⟨rfl, by omega, by omega, rfl⟩ | exact ⟨by assumption, rfl, by omega, by omega⟩) ?_ | refine Ar.fit (by omega) ?_ | refine Eqv.shr1 ?_ | refine Ar.u64 (by omega) ?_) <;> conv => whnf) | ((first | refine CallN.ret1 (hL) ?_) <;> conv => whnf) | (with_reducible exact trivial) | ((with_reducible refine And.intro ?_ ?_) <;> conv => whnf) | (intro gn; conv => whnf))
      all_goals (try simp only [Int.toNat_natCast] at *)
      all_goals first | (exfalso; omega) | exact ⟨⟨k + 1, by omega, by omega, (by repeat' (first | exact trivial | refine ⟨rfl, ?_⟩)), ⟨sv_i (by omega), sv_i (by show _ = sumTo _ k + vwF c vs (2 * wave) _ k; omega), trivial⟩, (HLe.sub (by repeat (first | exact List.Sublist.refl _ | refine List.Sublist.cons_cons _ ?_ | refine List.Sublist.cons _ ?_)))⟩⟩⟩
/-- what WaveVotes gives -/
def vwI (c : List Int) (vs : List Vx) (ls : List Int) (wave : Int) : Int := if wvOk c vs ls = true ∧ 1 ≤ wave ∧ wave ≤ (ls.length : Int) then vwS c vs ls wave else -1
theorem vw_in {c : List Int} {vs : List Vx} {ls : List Int} {wave : Int} (h1 : wvOk c vs ls = true) (h2 : 1 ≤ wave ∧ wave ≤ (ls.length : Int)) : vwI c vs ls wave = vwS c vs ls wave := if_pos ⟨h1, h2⟩
theorem vw_out {c : List Int} {vs : List Vx} {ls : List Int} {wave : Int} (h : wave < 1 ∨ (ls.length : Int) < wave) : vwI c vs ls wave = -1 := if_neg fun h2 => by omega
theorem vw_bad {c : List Int} {vs : List Vx} {ls : List Int} {wave : Int} (h : wvOk c vs ls = false) : vwI c vs ls wave = -1 := if_neg fun h2 => by rw [h] at h2; cases h2.1
/-- is a wave committed directly? -/
def vdB (c : List Int) (vs : List Vx) (ls : List Int) (wave : Int) : Bool := decide (0 ≤ vwI c vs ls wave) && decide (tot c / 3 + 1 ≤ vwI c vs ls wave)
set_option maxRecDepth 100000 in
theorem specWV_c (c : List Int) (vs : List Vx) (ls : List Int) (wave : Int) (hc : c.length ≤ 2000000) (hv : vs.length ≤ 10000000) (hp : ∀ v ∈ vs, v.ps.length ≤ 10000000) (hl : ls.length ≤ 2000000) : SRet Tryd.prog 21 [isl c, vsl vs, isl ls, .i wave] (· = .i (vwI c vs ls wave)) := ⟨fun R => by
  have hO := l21Ok_c c vs ls hc hv hp hl
  by_cases hok : wvOk c vs ls = true
  rotate_left
  · have hok : wvOk c vs ls = false := by simpa using hok
    refine SCalls.enter tt_ok Tryd.func21 (by kernel_rfl) rfl [(900, .cust R)] rfl (argF _) (fun w F v k h => h) (by simp) ?_
    repeat' (first | (with_reducible first | refine HT.seq ?_ | refine HT.block ?_ | refine Br.not ?_) | ((with_reducible first | refine HT.region tt_ok ?_ | refine HT.drawn tt_ok (by kernel_rfl) (by decide +kernel) ?_ | refine HT.drawnL tt_ok (by kernel_rfl) (by decide +kernel) ?_ | refine HT.cond ?_ | refine HT.ret ?_ | refine HT.skip ?_ | refine HT.exit ?_ | refine Br.tt ?_ | refine Br.ff ?_); conv => whnf) | ((with_reducible first | refine Br.dec (fun hc => ?_) (fun hc => ?_) | refine Br.eq (fun hc => ?_) (fun hc => ?_) | refine Br.ne (fun hc => ?_) (fun hc => ?_)) <;> (first | (exfalso; omega) | conv => whnf)) | ((with_reducible first | refine Br.ttE (by decide) ?_ | refine Br.ffE (by decide) ?_ | refine Br.mk (fun hc => ?_) (fun hc => ?_) | refine Chk.mk (by first | omega | with_reducible rfl | (refine ⟨rfl, ?_⟩; omega) | decide | exact ⟨rfl, by omega, by omega, rfl⟩ | exact ⟨by assumption, rfl, by omega, by omega⟩) ?_ | refine Ar.fit (by omega) ?_ | refine Eqv.shr1 ?_ | refine Ar.u64 (by omega) ?_) <;> conv => whnf) | ((first | refine CallN.ret1 (hO.bf hok) ?_) <;> conv => whnf) | (with_reducible exact trivial) | ((with_reducible refine And.intro ?_ ?_) <;> conv => whnf) | (intro gn; conv => whnf))
    all_goals exact Fin.pureS (by repeat (first | exact List.Sublist.refl _ | refine List.Sublist.cons_cons _ ?_ | refine List.Sublist.cons _ ?_)) (sv_i (vw_bad hok).symm)
  by_cases hw : 1 ≤ wave ∧ wave ≤ (ls.length : Int)
  rotate_left
  refine SCalls.enter tt_ok Tryd.func21 (by kernel_rfl) rfl [(900, .cust R)] rfl (argF _) (fun w F v k h => h) (by simp) ?_
  · repeat' (first | (with_reducible first | refine HT.seq ?_ | refine HT.block ?_ | refine Br.not ?_) | ((with_reducible first | refine HT.region tt_ok ?_ | refine HT.drawn tt_ok (by kernel_rfl) (by decide +kernel) ?_ | refine HT.drawnL tt_ok (by kernel_rfl) (by decide +kernel) ?_ | refine HT.cond ?_ | refine HT.ret ?_ | refine HT.skip ?_ | refine HT.exit ?_ | refine Br.tt ?_ | refine Br.ff ?_); conv => whnf) | ((with_reducible first | refine Br.dec (fun hc => ?_) (fun hc => ?_) | refine Br.eq (fun hc => ?_) (fun hc => ?_) | refine Br.ne (fun hc => ?_) (fun hc => ?_)) <;> (first | (exfalso; omega) | conv => whnf)) | ((with_reducible first | refine Br.ttE (by decide) ?_ | refine Br.ffE (by decide) ?_ | refine Br.mk (fun hc => ?_) (fun hc => ?_) | refine Chk.mk (by first | omega | with_reducible rfl | (refine ⟨rfl, ?_⟩; omega) | decide | exact ⟨rfl, by omega, by omega, rfl⟩ | exact ⟨by assumption, rfl, by omega, by omega⟩) ?_ | refine Ar.fit (by omega) ?_ | refine Eqv.shr1 ?_ | refine Ar.u64 (by omega) ?_) <;> conv => whnf) | ((first | refine CallN.ret1 (hO.bt hok) ?_ | refine CallN.ret1 ((l6In_c wave 1 (ls.length : Int)).bf (inB_no hw)) ?_) <;> conv => whnf) | (with_reducible exact trivial) | ((with_reducible refine And.intro ?_ ?_) <;> conv => whnf) | (intro gn; conv => whnf))
    all_goals exact Fin.pureS (by repeat (first | exact List.Sublist.refl _ | refine List.Sublist.cons_cons _ ?_ | refine List.Sublist.cons _ ?_)) (sv_i (vw_out (by omega)).symm)
  refine SCalls.enter tt_ok Tryd.func21 (by kernel_rfl) rfl [(900, .cust R)] rfl (argF _) (fun w F v k h => h) (by simp) ?_
  repeat' (first | (with_reducible first | refine HT.seq ?_ | refine HT.block ?_ | refine Br.not ?_) | ((with_reducible first | refine HT.region tt_ok ?_ | refine HT.drawn tt_ok (by kernel_rfl) (by decide +kernel) ?_ | refine HT.drawnL tt_ok (by kernel_rfl) (by decide +kernel) ?_ | refine HT.cond ?_ | refine HT.ret ?_ | refine HT.skip ?_ | refine HT.exit ?_ | refine Br.tt ?_ | refine Br.ff ?_); conv => whnf) | ((with_reducible first | refine Br.dec (fun hc => ?_) (fun hc => ?_) | refine Br.eq (fun hc => ?_) (fun hc => ?_) | refine Br.ne (fun hc => ?_) (fun hc => ?_)) <;> (first | (exfalso; omega) | conv => whnf)) | ((with_reducible first | refine Br.ttE (by decide) ?_ | refine Br.ffE (by decide) ?_ | refine Br.mk (fun hc => ?_) (fun hc => ?_) | refine Chk.mk (by first | omega | with_reducible rfl | (refine ⟨rfl, ?_⟩; omega) | decide | exact ⟨rfl, by omega, by omega, rfl⟩ | exact ⟨by assumption, rfl, by omega, by omega⟩) ?_ | refine Ar.fit (by omega) ?_ | refine Eqv.shr1 ?_ | refine Ar.u64 (by omega) ?_) <;> conv => whnf) | ((first | refine CallN.ret1 (hO.bt hok) ?_ | refine CallN.ret1 ((l6In_c wave 1 (ls.length : Int)).bt (inB_true.2 hw)) ?_ | refine CallN.ret1 (l21Votes_c c vs ls wave hok hv hp hw) ?_) <;> conv => whnf) | (with_reducible exact trivial) | ((with_reducible refine And.intro ?_ ?_) <;> conv => whnf) | (intro gn; conv => whnf))
  all_goals exact Fin.pureS (by repeat (first | exact List.Sublist.refl _ | refine List.Sublist.cons_cons _ ?_ | refine List.Sublist.cons _ ?_)) (sv_i (vw_in hok hw).symm)⟩
set_option maxRecDepth 100000 in
theorem specWD_c (c : List Int) (vs : List Vx) (ls : List Int) (wave : Int) (hc : c.length ≤ 2000000) (hv : vs.length ≤ 10000000) (hp : ∀ v ∈ vs, v.ps.length ≤ 10000000) (hl : ls.length ≤ 2000000) : SRet Tryd.prog 17 [isl c, vsl vs, isl ls, .i wave] (· = .b (vdB c vs ls wave)) := ⟨fun R => by
  have hW := specWV_c c vs ls wave hc hv hp hl
  by_cases hb : wvOk c vs ls = true ∧ 1 ≤ wave ∧ wave ≤ (ls.length : Int)
  rotate_left
  · have hI : vwI c vs ls wave = -1 := if_neg hb
    rw [hI] at hW
    refine SCalls.enter tt_ok Tryd.func17 (by kernel_rfl) rfl [(900, .cust R)] rfl (argF _) (fun w F v k h => h) (by simp) ?_
    repeat' (first | (with_reducible first | refine HT.seq ?_ | refine HT.block ?_ | refine Br.not ?_) | ((with_reducible first | refine HT.region tt_ok ?_ | refine HT.drawn tt_ok (by kernel_rfl) (by decide +kernel) ?_ | refine HT.drawnL tt_ok (by kernel_rfl) (by decide +kernel) ?_ | refine HT.cond ?_ | refine HT.ret ?_ | refine HT.skip ?_ | refine HT.exit ?_ | refine Br.tt ?_ | refine Br.ff ?_); conv => whnf) | ((with_reducible first | refine Br.dec (fun hc => ?_) (fun hc => ?_) | refine Br.eq (fun hc => ?_) (fun hc => ?_) | refine Br.ne (fun hc => ?_) (fun hc => ?_)) <;> (first | (exfalso; omega) | conv => whnf)) | ((with_reducible first | refine Br.ttE (by decide) ?_ | refine Br.ffE (by decide) ?_ | refine Br.mk (fun hc => ?_) (fun hc => ?_) | refine Chk.mk (by first | omega | with_reducible rfl | (refine ⟨rfl, ?_⟩; omega) | decide | exact ⟨rfl, by omega, by omega, rfl⟩ | exact ⟨by assumption, rfl, by omega, by omega⟩) ?_ | refine Ar.fit (by omega) ?_ | refine Eqv.shr1 ?_ | refine Ar.u64 (by omega) ?_) <;> conv => whnf) | ((first | refine CallN.ret1 (hW) ?_) <;> conv => whnf) | (with_reducible exact trivial) | ((with_reducible refine And.intro ?_ ?_) <;> conv => whnf) | (intro gn; conv => whnf))
    all_goals exact Fin.pureS (by repeat (first | exact List.Sublist.refl _ | refine List.Sublist.cons_cons _ ?_ | refine List.Sublist.cons _ ?_)) (sv_b (by unfold vdB; rw [hI]; rfl))
  have hI : vwI c vs ls wave = vwS c vs ls wave := if_pos hb
  rw [hI] at hW
  have hcm := (grOk_iff.1 (wv_parts hb.1).1).1
  have hbd := vwS_bd (c := c) (vs := vs) (ls := ls) (wave := wave) hcm
  have hS := l21Votes_c c vs ls wave hb.1 hv hp hb.2
  refine SCalls.enter tt_ok Tryd.func17 (by kernel_rfl) rfl [(900, .cust R)] rfl (argF _) (fun w F v k h => h) (by simp) ?_
  repeat' (first | (with_reducible first | refine HT.seq ?_ | refine HT.block ?_ | refine Br.not ?_) | ((with_reducible first | refine HT.region tt_ok ?_ | refine HT.drawn tt_ok (by kernel_rfl) (by decide +kernel) ?_ | refine HT.drawnL tt_ok (by kernel_rfl) (by decide +kernel) ?_ | refine HT.cond ?_ | refine HT.ret ?_ | refine HT.skip ?_ | refine HT.exit ?_ | refine Br.tt ?_ | refine Br.ff ?_); conv => whnf) | ((with_reducible first | refine Br.dec (fun hc => ?_) (fun hc => ?_) | refine Br.eq (fun hc => ?_) (fun hc => ?_) | refine Br.ne (fun hc => ?_) (fun hc => ?_)) <;> (first | (exfalso; omega) | conv => whnf)) | ((with_reducible first | refine Br.ttE (by decide) ?_ | refine Br.ffE (by decide) ?_ | refine Br.mk (fun hc => ?_) (fun hc => ?_) | refine Chk.mk (by first | omega | with_reducible rfl | (refine ⟨rfl, ?_⟩; omega) | decide | exact ⟨rfl, by omega, by omega, rfl⟩ | exact ⟨by assumption, rfl, by omega, by omega⟩) ?_ | refine Ar.fit (by omega) ?_ | refine Eqv.shr1 ?_ | refine Ar.u64 (by omega) ?_) <;> conv => whnf) | ((first | refine CallN.ret1 (hW) ?_ | refine CallN.ret1 (hS) ?_ | refine CallN.ret1 (specSup_c c hcm) ?_) <;> conv => whnf) | (with_reducible exact trivial) | ((with_reducible refine And.intro ?_ ?_) <;> conv => whnf) | (intro gn; conv => whnf))
  all_goals exact Fin.pureS (by repeat (first | exact List.Sublist.refl _ | refine List.Sublist.cons_cons _ ?_ | refine List.Sublist.cons _ ?_)) (sv_b (by unfold vdB; rw [hI, decide_eq_true hbd.1]; simp))⟩
/-- the weight is enough, in a valid graph -/
def vdW (c : List Int) (vs : List Vx) (ls : List Int) (wave : Int) : Bool := decide ((1 ≤ wave ∧ wave ≤ (ls.length : Int)) ∧ tot c / 3 + 1 ≤ vwS c vs ls wave)
theorem vdW_eq {c : List Int} {vs : List Vx} {ls : List Int} {wave : Int} (hok : wvOk c vs ls = true) : vdW c vs ls wave = vdB c vs ls wave := by
  have hcm := (grOk_iff.1 (wv_parts hok).1).1
  have ht := tot_bd hcm
  have hbd := vwS_bd (c := c) (vs := vs) (ls := ls) (wave := wave) hcm
  unfold vdW vdB
  by_cases hw : 1 ≤ wave ∧ wave ≤ (ls.length : Int)
  · rw [vw_in hok hw, Bool.eq_iff_iff]
    simp [hw, hbd.1]
  · rw [vw_out (by omega), decide_eq_false fun h => hw h.1]; rfl
set_option maxRecDepth 100000 in
theorem direct_c (u : Ers) (ad : Nat → Nat) (c : List Int) (vs : List Vx) (ls : List Int) (wave : Int) (hok : grOk c vs = true) (hl : ls.length ≤ 15) : SGl Tryd.prog u 42 [wvA ad c vs ls, .i wave] (· = .b (vdW c vs ls wave)) := ⟨fun R => by
  have hcm := (grOk_iff.1 hok).1
  have ht := tot_bd hcm
  refine SCalls.enter tt_ok Tryd.func42 (by kernel_rfl) rfl [(800, erH 0 u.y0 u.t0 u.v0), (801, erH 1 u.y1 u.t1 u.v1), (802, erH 2 u.y2 u.t2 u.v2), (900, .cust R)] rfl (argF _) (fun w F v k h => h) (by simp) ?_
  repeat' (first | (with_reducible first | refine HT.seq ?_ | refine HT.block ?_ | refine Br.not ?_) | ((with_reducible first | refine HT.region tt_ok ?_ | refine HT.drawn tt_ok (by kernel_rfl) (by decide +kernel) ?_ | refine HT.drawnL tt_ok (by kernel_rfl) (by decide +kernel) ?_ | refine HT.cond ?_ | refine HT.ret ?_ | refine HT.skip ?_ | refine HT.exit ?_ | refine Br.tt ?_ | refine Br.ff ?_); conv => whnf) | ((with_reducible first | refine Br.dec (fun hc => ?_) (fun hc => ?_) | refine Br.eq (fun hc => ?_) (fun hc => ?_) | refine Br.ne (fun hc => ?_) (fun hc => ?_)) <;> (first | (exfalso; omega) | conv => whnf)) | ((with_reducible first | refine Br.ttE (by decide) ?_ | refine Br.ffE (by decide) ?_ | refine Br.mk (fun hc => ?_) (fun hc => ?_) | refine Chk.mk (by first | omega | with_reducible rfl | (refine ⟨rfl, ?_⟩; omega) | decide | exact ⟨rfl, by omega, by omega, rfl⟩ | exact ⟨by assumption, rfl, by omega, by omega⟩) ?_ | refine Ar.fit (by omega) ?_ | refine Eqv.shr1 ?_ | refine Ar.u64 (by omega) ?_) <;> conv => whnf) | ((first | (refine CallN.gl rfl rfl rfl (votes_c u ad c vs ls wave hok hl) ?_; rintro r (⟨hr, rfl⟩ | ⟨hr, ⟨hi, rfl⟩ | ⟨⟨i, hi⟩, rfl⟩⟩)) | refine CallN.ret1 (implSup_c c hcm) ?_) <;> conv => whnf) | (with_reducible exact trivial) | ((with_reducible refine And.intro ?_ ?_) <;> conv => whnf) | (intro gn; conv => whnf))
  · exact Fin.gl (r' := .b (vdW c vs ls wave)) (by refine PP.start ?_; repeat (first | exact PP.nil | refine PP.take (by first | with_reducible exact Hp.Sub.refl _ | exact Hp.Sub.rd (by omega) | exact Hp.Sub.boxA (by (repeat (first | exact all_lt_zero | refine all_lt_succ (p := fun j => CellLe _ _) (by first | with_reducible exact CellLe.refl _ | exact CellLe.own | exact CellLe.i (by omega) | exact CellLe.nil | exact CellLe.slNil | exact CellLe.refl _) ?_))) | exact Hp.Sub.refl _) ?_ | refine PP.skip ?_)) (CellLe.of_eq (sv_b ((decide_eq_false (by omega)).symm))) rfl
  · exact Fin.gl (r' := .b (vdW c vs ls wave)) (by refine PP.start ?_; repeat (first | exact PP.nil | refine PP.take (by first | with_reducible exact Hp.Sub.refl _ | exact Hp.Sub.rd (by omega) | exact Hp.Sub.boxA (by (repeat (first | exact all_lt_zero | refine all_lt_succ (p := fun j => CellLe _ _) (by first | with_reducible exact CellLe.refl _ | exact CellLe.own | exact CellLe.i (by omega) | exact CellLe.nil | exact CellLe.slNil | exact CellLe.refl _) ?_))) | exact Hp.Sub.refl _) ?_ | refine PP.skip ?_)) (CellLe.of_eq (sv_b ((decide_eq_false (by rw [vwS_none hi]; omega)).symm))) rfl
  all_goals exact Fin.gl (r' := .b (vdW c vs ls wave)) (by refine PP.start ?_; repeat (first | exact PP.nil | refine PP.take (by first | with_reducible exact Hp.Sub.refl _ | exact Hp.Sub.rd (by omega) | exact Hp.Sub.boxA (by (repeat (first | exact all_lt_zero | refine all_lt_succ (p := fun j => CellLe _ _) (by first | with_reducible exact CellLe.refl _ | exact CellLe.own | exact CellLe.i (by omega) | exact CellLe.nil | exact CellLe.slNil | exact CellLe.refl _) ?_))) | exact Hp.Sub.refl _) ?_ | refine PP.skip ?_)) (CellLe.of_eq (sv_b (by unfold vdW; rw [vwS_some hi]; simp [hr]))) rfl⟩
set_option maxRecDepth 100000 in
theorem implWD_c (u : Ers) (c : List Int) (vs : List Vx) (ls : List Int) (wave : Int) (hc : c.length ≤ 2000000) (hv : vs.length ≤ 10000000) (hp : ∀ v ∈ vs, v.ps.length ≤ 10000000) (hl : ls.length ≤ 2000000) : SGl Tryd.prog u 18 [isl c, vsl vs, isl ls, .i wave] (· = .b (vdB c vs ls wave)) := ⟨fun R => by
  refine SCalls.enter tt_ok Tryd.func18 (by kernel_rfl) rfl [(800, erH 0 u.y0 u.t0 u.v0), (801, erH 1 u.y1 u.t1 u.v1), (802, erH 2 u.y2 u.t2 u.v2), (900, .cust R)] rfl (argF _) (fun w F v k h => h) (by simp) ?_
  repeat' (first | (with_reducible first | refine HT.seq ?_ | refine HT.block ?_ | refine Br.not ?_) | ((with_reducible first | refine HT.region tt_ok ?_ | refine HT.drawn tt_ok (by kernel_rfl) (by decide +kernel) ?_ | refine HT.drawnL tt_ok (by kernel_rfl) (by decide +kernel) ?_ | refine HT.cond ?_ | refine HT.ret ?_ | refine HT.skip ?_ | refine HT.exit ?_ | refine Br.tt ?_ | refine Br.ff ?_); conv => whnf) | ((with_reducible first | refine Br.dec (fun hc => ?_) (fun hc => ?_) | refine Br.eq (fun hc => ?_) (fun hc => ?_) | refine Br.ne (fun hc => ?_) (fun hc => ?_)) <;> (first | (exfalso; omega) | conv => whnf)) | ((with_reducible first | refine Br.ttE (by decide) ?_ | refine Br.ffE (by decide) ?_ | refine Br.mk (fun hc => ?_) (fun hc => ?_) | refine Chk.mk (by first | omega | with_reducible rfl | (refine ⟨rfl, ?_⟩; omega) | decide | exact ⟨rfl, by omega, by omega, rfl⟩ | exact ⟨by assumption, rfl, by omega, by omega⟩) ?_ | refine Ar.fit (by omega) ?_ | refine Eqv.shr1 ?_ | refine Ar.u64 (by omega) ?_) <;> conv => whnf) | ((first | (refine CallN.gl rfl rfl rfl (newWA_c u c vs ls hc hv hp hl) ?_; rintro r (⟨hok, ad, rfl⟩ | ⟨hok, rfl⟩)) | (refine CallN.gl rfl rfl rfl (direct_c u ad c vs ls wave (wv_parts hok).1 (wv_parts hok).2.1) ?_; rintro r rfl)) <;> conv => whnf) | (with_reducible exact trivial) | ((with_reducible refine And.intro ?_ ?_) <;> conv => whnf) | (intro gn; conv => whnf))
  all_goals first
    | exact Fin.gl (r' := .b (vdB c vs ls wave)) (by refine PP.start ?_; repeat (first | exact PP.nil | refine PP.take (by first | with_reducible exact Hp.Sub.refl _ | exact Hp.Sub.rd (by omega) | exact Hp.Sub.boxA (by (repeat (first | exact all_lt_zero | refine all_lt_succ (p := fun j => CellLe _ _) (by first | with_reducible exact CellLe.refl _ | exact CellLe.own | exact CellLe.i (by omega) | exact CellLe.nil | exact CellLe.slNil | exact CellLe.refl _) ?_))) | exact Hp.Sub.refl _) ?_ | refine PP.skip ?_)) (CellLe.of_eq (sv_b (vdW_eq hok))) rfl
    | exact Fin.gl (r' := .b (vdB c vs ls wave)) (by refine PP.start ?_; repeat (first | exact PP.nil | refine PP.take (by first | with_reducible exact Hp.Sub.refl _ | exact Hp.Sub.rd (by omega) | exact Hp.Sub.boxA (by (repeat (first | exact all_lt_zero | refine all_lt_succ (p := fun j => CellLe _ _) (by first | with_reducible exact CellLe.refl _ | exact CellLe.own | exact CellLe.i (by omega) | exact CellLe.nil | exact CellLe.slNil | exact CellLe.refl _) ?_))) | exact Hp.Sub.refl _) ?_ | refine PP.skip ?_)) (CellLe.of_eq (sv_b (by unfold vdB; rw [vw_bad hok]; rfl))) rfl⟩
end Go.Proofs.YtpmhikdefbcofaaDoor
/-! YtpmhikdefbcofaaDoorEr -/
set_option linter.all false
namespace Go.Proofs.YtpmhikdefbcofaaDoor
open Go.RowKit Go.Extern.Stop Go.Stop Go.Extern
set_option maxRecDepth 100000
set_option maxHeartbeats 1000000

theorem isTypeOf (v : Value) (w : World) : (Extern.ReflectliteType.typeOf #[.iface 129 v]).run Tryd.prog w = .ok (.iface 111 (.agg #[.pointer (some ⟨3, 129, none⟩)])) w := by kernel_rfl
theorem isComparable (w : World) : ((Extern.ReflectliteType.method fun t => do Go.Extern.Rtype.noPackHeld "Comparable" t; pure (.bool (← typeInfo t).comparable)) #[.agg #[.pointer (some ⟨3, 129, none⟩)]]).run Tryd.prog w = .ok (.bool true) w := by kernel_rfl
theorem isComparable2 (w : World) : ((Extern.ReflectliteType.method fun t => do Go.Extern.Rtype.noPackHeld "Comparable" t; (fun a => Value.bool a.comparable) <$> typeInfo t) #[.agg #[.pointer (some ⟨3, 129, none⟩)]]).run Tryd.prog w = .ok (.bool true) w := by kernel_rfl
theorem isMethodComparable (v : Value) (w : World) : (Go.method 269 111 v "Comparable").run Tryd.prog w = .ok (124, v) w := by kernel_rfl
theorem isComp : (Tryd.prog.info? 129).map (·.comparable) = some true := by kernel_rfl
theorem isSize : (Tryd.prog.info? 155).map (·.size) = some 1 := by kernel_rfl
theorem noIsE (v : Value) (xT : TypeId) (w : World) : (Instr.typeAssert (.iface 129 v) xT 113 true).run Tryd.prog w = .ok (.tuple #[.nilIface, .bool false]) w := run_typeAssert_lacksB Tryd.underlying113 (by kernel_rfl) (by kernel_rfl) v xT w
theorem noUnwrapE (v : Value) (xT : TypeId) (w : World) : (Instr.typeAssert (.iface 129 v) xT 116 true).run Tryd.prog w = .ok (.tuple #[.nilIface, .bool false]) w := run_typeAssert_lacksB Tryd.underlying116 (by kernel_rfl) (by kernel_rfl) v xT w
theorem noUnwrapsE (v : Value) (xT : TypeId) (w : World) : (Instr.typeAssert (.iface 129 v) xT 118 true).run Tryd.prog w = .ok (.tuple #[.nilIface, .bool false]) w := run_typeAssert_lacksB Tryd.underlying118 (by kernel_rfl) (by kernel_rfl) v xT w
theorem is_same (a : Addr) (w : World) : Calls Tryd.prog 48 #[.iface 129 (.pointer (some a)), .iface 129 (.pointer (some a))] w fun e w' => e = .returned (.bool true) ∧ w' = w := by
  obtain ⟨i, hi, hcmp⟩ := Option.map_eq_some_iff.1 isComp
  obtain ⟨j, hj, hjs⟩ := Option.map_eq_some_iff.1 isSize
  have h8 := @run_callFunc_extern Tryd.prog 69 _ Extern.ReflectliteType.typeOf Tryd.func69 (by kernel_rfl) (by kernel_rfl) (by kernel_rfl) (by kernel_rfl)
  have h32 := @run_callFunc_extern Tryd.prog 124 _ (Extern.ReflectliteType.method fun t => do Go.Extern.Rtype.noPackHeld "Comparable" t; pure (.bool (← typeInfo t).comparable)) Tryd.func124 (by kernel_rfl) (by kernel_rfl) (by kernel_rfl) (by kernel_rfl)
  have tT := isTypeOf
  have cT := isComparable
  have cT2 := isComparable2
  have mR := isMethodComparable
  have heq := run_eql_iface_ptr_same (P := Tryd.prog) w a Tryd.underlying56 Tryd.underlying129 hi hcmp hj
  go_enter Tryd.func48, Tryd.ntmps48
  go_wp2
  refine wp_loop_rounds 1 ?_
  rw [rounds_succ]
  go_wp2
  go_ret
  exact ⟨rfl, rfl⟩
theorem is_nil (b : Addr) (w : World) : Calls Tryd.prog 48 #[.nilIface, .iface 129 (.pointer (some b))] w fun e w' => e = .returned (.bool false) ∧ w' = w := by
  have hn := run_eql_iface_nil_left (P := Tryd.prog) w 129 (.pointer (some b)) Tryd.underlying56
  go_enter Tryd.func48, Tryd.ntmps48
  go_wp2
  go_ret
  exact ⟨rfl, rfl⟩
theorem is_other (a b : Addr) (ca cb : Array Value) (ta tb : TypeId) (w : World) (hne : a ≠ b) (ha : w.heap[a.block]? = some (.cells ca ta (0, 0))) (hb : w.heap[b.block]? = some (.cells cb tb (0, 0))) :
    Calls Tryd.prog 48 #[.iface 129 (.pointer (some a)), .iface 129 (.pointer (some b))] w fun e w' => e = .returned (.bool false) ∧ w' = w := by
  obtain ⟨i, hi, hcmp⟩ := Option.map_eq_some_iff.1 isComp
  obtain ⟨j, hj, hjs⟩ := Option.map_eq_some_iff.1 isSize
  have h8 := @run_callFunc_extern Tryd.prog 69 _ Extern.ReflectliteType.typeOf Tryd.func69 (by kernel_rfl) (by kernel_rfl) (by kernel_rfl) (by kernel_rfl)
  have h32 := @run_callFunc_extern Tryd.prog 124 _ (Extern.ReflectliteType.method fun t => do Go.Extern.Rtype.noPackHeld "Comparable" t; pure (.bool (← typeInfo t).comparable)) Tryd.func124 (by kernel_rfl) (by kernel_rfl) (by kernel_rfl) (by kernel_rfl)
  have tT := isTypeOf
  have cT := isComparable
  have cT2 := isComparable2
  have mR := isMethodComparable
  have nE := noIsE
  have uE := noUnwrapE
  have vE := noUnwrapsE
  have heq := run_eql_iface_ptr_other (P := Tryd.prog) w Tryd.underlying56 Tryd.underlying129 hi hcmp hj (by rw [hjs]; decide) hne ha hb
  go_enter Tryd.func48, Tryd.ntmps48
  go_wp2
  refine wp_loop_rounds 1 ?_
  rw [rounds_succ]
  go_wp2
  go_ret
  exact ⟨rfl, rfl⟩
end Go.Proofs.YtpmhikdefbcofaaDoor
/-! YtpmhikdefbcofaaDoorEs -/
set_option linter.all false
namespace Go.Proofs.YtpmhikdefbcofaaDoor
open Go.RowKit

/-- what stands still behind the three variables -/
def ErK (u : Ers) (w : World) (F : Nat → Prop) : Prop :=
  (u.t0 = 129 ∧ u.t1 = 129 ∧ u.t2 = 129) ∧ ∃ a0 a1 a2 : Addr, (u.v0 = .pointer (some a0) ∧ u.v1 = .pointer (some a1) ∧ u.v2 = .pointer (some a2)) ∧ (a0 ≠ a1 ∧ a0 ≠ a2 ∧ a1 ≠ a2) ∧
    (F a0.block ∧ F a1.block ∧ F a2.block) ∧ (∃ c t, w.heap[a0.block]? = some (.cells c t (0, 0))) ∧ (∃ c t, w.heap[a1.block]? = some (.cells c t (0, 0))) ∧ (∃ c t, w.heap[a2.block]? = some (.cells c t (0, 0)))
def erC (u : Ers) : Heaplet where
  fp _ := False
  holds w F := ErK u w F
  mono hF h := by
    obtain ⟨h0, a0, a1, a2, h1, h2, ⟨f0, f1, f2⟩, h3⟩ := h
    exact ⟨h0, a0, a1, a2, h1, h2, ⟨hF _ f0, hF _ f1, hF _ f2⟩, h3⟩
  stable hk h := by
    obtain ⟨h0, a0, a1, a2, h1, h2, ⟨f0, f1, f2⟩, h3, h4, h5⟩ := h
    exact ⟨h0, a0, a1, a2, h1, h2, ⟨f0, f1, f2⟩, by rw [hk _ (.inr f0)]; exact h3, by rw [hk _ (.inr f1)]; exact h4, by rw [hk _ (.inr f2)]; exact h5⟩
abbrev erL (u : Ers) (R : Heaplet) : List Hp := [erH 0 u.y0 u.t0 u.v0, erH 1 u.y1 u.t1 u.v1, erH 2 u.y2 u.t2 u.v2, .cust (erC u), .cust R]
structure SGx (P : Program) (u : Ers) (f : FuncId) (ss : List SV) (Φ : SV → Prop) : Prop where
  h : ∀ R, SCalls P f ss (erL u R) fun r H' => H' = erL u R ∧ Φ r
theorem SGl.toX {P : Program} {u : Ers} {f : FuncId} {ss : List SV} {Φ : SV → Prop} (h : SGl P u f ss Φ) : SGx P u f ss Φ :=
  ⟨fun R => (SCalls.frame (A := [erH 0 u.y0 u.t0 u.v0, erH 1 u.y1 u.t1 u.v1, erH 2 u.y2 u.t2 u.v2]) (H := [.cust (erC u), .cust R]) (K := fun r H' => H' = erL u R ∧ Φ r) fun R' => (h.h R').mono fun r H' ⟨e, hΦ⟩ => ⟨[erH 0 u.y0 u.t0 u.v0, erH 1 u.y1 u.t1 u.v1, erH 2 u.y2 u.t2 u.v2], e, rfl, hΦ⟩)⟩
theorem Fin.gx {r r' : SV} {H : List Hp} {u : Ers} {R : Heaplet} {Φ : SV → Prop} (hp : PPick H (erL u R)) (hc : CellLe r r') (h : Φ r') : Fin r H (fun r H' => H' = erL u R ∧ Φ r) :=
  ⟨⟨r', _, fun w F v hw hv => ⟨F, fun _ h => h, hp.sat hw, hc w F v hv⟩, rfl, h⟩⟩
/-- errors.Is, where what stands still tells the answer -/
theorem isM_c {u : Ers} {e f : Value} {β : Bool} (hk : ∀ w F, ErK u w F → Calls Tryd.prog 48 #[e, f] w fun e' w' => e' = .returned (.bool β) ∧ w' = w) :
    SMut Tryd.prog 48 [.val e, .val f] (.cust (erC u)) fun r N p' => N = [] ∧ p' = .cust (erC u) ∧ r = .b β := ⟨fun R => by
  refine ⟨callable_of Tryd.func48 (by kernel_rfl) (by kernel_rfl), fun w F vs hs hv => ?_⟩
  match vs, hv with
  | [v0, v1], ⟨h0, h1, _⟩ =>
    have e0 : v0 = e := h0
    have e1 : v1 = f := h1
    subst e0 e1
    refine (hk w F (hs.holds _ List.mem_cons_self)).mono ?_
    rintro e' w' ⟨rfl, rfl⟩
    exact ⟨_, rfl, .b β, F, _, ⟨[], _, rfl, rfl, rfl, rfl⟩, Keep.refl _ _, fun _ h => h, hs, rfl⟩⟩
theorem isN0_c (u : Ers) : SMut Tryd.prog 48 [.val .nilIface, .val (.iface u.t0 u.v0)] (.cust (erC u)) fun r N p' => N = [] ∧ p' = .cust (erC u) ∧ r = .b false := isM_c fun w F ⟨⟨h0, h1, h2⟩, a0, a1, a2, ⟨e0, e1, e2⟩, _⟩ => by rw [h0, e0]; exact is_nil _ _
theorem isS0_c (u : Ers) : SMut Tryd.prog 48 [.val (.iface u.t0 u.v0), .val (.iface u.t0 u.v0)] (.cust (erC u)) fun r N p' => N = [] ∧ p' = .cust (erC u) ∧ r = .b true := isM_c fun w F ⟨⟨h0, h1, h2⟩, a0, a1, a2, ⟨e0, e1, e2⟩, _⟩ => by rw [h0, e0]; exact is_same _ _
theorem isN1_c (u : Ers) : SMut Tryd.prog 48 [.val .nilIface, .val (.iface u.t1 u.v1)] (.cust (erC u)) fun r N p' => N = [] ∧ p' = .cust (erC u) ∧ r = .b false := isM_c fun w F ⟨⟨h0, h1, h2⟩, a0, a1, a2, ⟨e0, e1, e2⟩, _⟩ => by rw [h1, e1]; exact is_nil _ _
theorem isS1_c (u : Ers) : SMut Tryd.prog 48 [.val (.iface u.t1 u.v1), .val (.iface u.t1 u.v1)] (.cust (erC u)) fun r N p' => N = [] ∧ p' = .cust (erC u) ∧ r = .b true := isM_c fun w F ⟨⟨h0, h1, h2⟩, a0, a1, a2, ⟨e0, e1, e2⟩, _⟩ => by rw [h1, e1]; exact is_same _ _
theorem isN2_c (u : Ers) : SMut Tryd.prog 48 [.val .nilIface, .val (.iface u.t2 u.v2)] (.cust (erC u)) fun r N p' => N = [] ∧ p' = .cust (erC u) ∧ r = .b false := isM_c fun w F ⟨⟨h0, h1, h2⟩, a0, a1, a2, ⟨e0, e1, e2⟩, _⟩ => by rw [h2, e2]; exact is_nil _ _
theorem isS2_c (u : Ers) : SMut Tryd.prog 48 [.val (.iface u.t2 u.v2), .val (.iface u.t2 u.v2)] (.cust (erC u)) fun r N p' => N = [] ∧ p' = .cust (erC u) ∧ r = .b true := isM_c fun w F ⟨⟨h0, h1, h2⟩, a0, a1, a2, ⟨e0, e1, e2⟩, _⟩ => by rw [h2, e2]; exact is_same _ _
theorem isO21_c (u : Ers) : SMut Tryd.prog 48 [.val (.iface u.t2 u.v2), .val (.iface u.t1 u.v1)] (.cust (erC u)) fun r N p' => N = [] ∧ p' = .cust (erC u) ∧ r = .b false := isM_c fun w F ⟨⟨h0, h1, h2⟩, a0, a1, a2, ⟨e0, e1, e2⟩, ⟨n01, n02, n12⟩, ⟨f0, f1, f2⟩, _, ⟨c1, z1, b1⟩, ⟨c2, z2, b2⟩⟩ => by rw [h2, e2, h1, e1]; exact is_other a2 a1 c2 c1 z2 z1 w (fun e => n12 e.symm) b2 b1
set_option maxRecDepth 100000 in
theorem implWV_c (u : Ers) (c : List Int) (vs : List Vx) (ls : List Int) (wave : Int) (hc : c.length ≤ 2000000) (hv : vs.length ≤ 10000000) (hp : ∀ v ∈ vs, v.ps.length ≤ 10000000) (hl : ls.length ≤ 2000000) : SGx Tryd.prog u 22 [isl c, vsl vs, isl ls, .i wave] (· = .i (vwI c vs ls wave)) := ⟨fun R => by
  refine SCalls.enter tt_ok Tryd.func22 (by kernel_rfl) rfl [(800, erH 0 u.y0 u.t0 u.v0), (801, erH 1 u.y1 u.t1 u.v1), (802, erH 2 u.y2 u.t2 u.v2), (803, .cust (erC u)), (900, .cust R)] rfl (argF _) (fun w F v k h => h) (by simp) ?_
  repeat' (first | (with_reducible first | refine HT.seq ?_ | refine HT.block ?_ | refine Br.not ?_) | ((with_reducible first | refine HT.region tt_ok ?_ | refine HT.drawn tt_ok (by kernel_rfl) (by decide +kernel) ?_ | refine HT.drawnL tt_ok (by kernel_rfl) (by decide +kernel) ?_ | refine HT.cond ?_ | refine HT.ret ?_ | refine HT.skip ?_ | refine HT.exit ?_ | refine Br.tt ?_ | refine Br.ff ?_); conv => whnf) | ((with_reducible first | refine Br.dec (fun hc => ?_) (fun hc => ?_) | refine Br.eq (fun hc => ?_) (fun hc => ?_) | refine Br.ne (fun hc => ?_) (fun hc => ?_)) <;> (first | (exfalso; omega) | conv => whnf)) | ((with_reducible first | refine Br.ttE (by decide) ?_ | refine Br.ffE (by decide) ?_ | refine Br.mk (fun hc => ?_) (fun hc => ?_) | refine Chk.mk (by first | omega | with_reducible rfl | (refine ⟨rfl, ?_⟩; omega) | decide | exact ⟨rfl, by omega, by omega, rfl⟩ | exact ⟨by assumption, rfl, by omega, by omega⟩) ?_ | refine Ar.fit (by omega) ?_ | refine Eqv.shr1 ?_ | refine Ar.u64 (by omega) ?_) <;> conv => whnf) | ((first | (refine CallN.gl rfl rfl rfl (newWA_c u c vs ls hc hv hp hl) ?_; rintro r (⟨hok, ad, rfl⟩ | ⟨hok, rfl⟩)) | (refine CallN.gl rfl rfl rfl (votes_c u ad c vs ls wave (wv_parts hok).1 (wv_parts hok).2.1) ?_; rintro r (⟨hr, rfl⟩ | ⟨hr, ⟨hi, rfl⟩ | ⟨⟨i, hi⟩, rfl⟩⟩)) | (refine CallN.keep 803 (.cust (erC u)) _ rfl (by simp) (isN0_c u) ?_; rintro r rfl) | (refine CallN.keep 803 (.cust (erC u)) _ rfl (by simp) (isS0_c u) ?_; rintro r rfl) | (refine CallN.keep 803 (.cust (erC u)) _ rfl (by simp) (isN1_c u) ?_; rintro r rfl) | (refine CallN.keep 803 (.cust (erC u)) _ rfl (by simp) (isS1_c u) ?_; rintro r rfl) | (refine CallN.keep 803 (.cust (erC u)) _ rfl (by simp) (isO21_c u) ?_; rintro r rfl)) <;> conv => whnf) | (with_reducible exact trivial) | ((with_reducible refine And.intro ?_ ?_) <;> conv => whnf) | (intro gn; conv => whnf))
  all_goals first
    | exact Fin.gx (r' := .i (vwI c vs ls wave)) (by refine PP.start ?_; repeat (first | exact PP.nil | refine PP.take (by first | with_reducible exact Hp.Sub.refl _ | exact Hp.Sub.rd (by omega) | exact Hp.Sub.boxA (by (repeat (first | exact all_lt_zero | refine all_lt_succ (p := fun j => CellLe _ _) (by first | with_reducible exact CellLe.refl _ | exact CellLe.own | exact CellLe.i (by omega) | exact CellLe.nil | exact CellLe.slNil | exact CellLe.refl _) ?_))) | exact Hp.Sub.refl _) ?_ | refine PP.skip ?_)) (CellLe.of_eq (sv_i ((by have hil := hi; rw [vw_in hok hr]; first | exact (vwS_none hi).symm | exact (vwS_some hi).symm)))) rfl
    | exact Fin.gx (r' := .i (vwI c vs ls wave)) (by refine PP.start ?_; repeat (first | exact PP.nil | refine PP.take (by first | with_reducible exact Hp.Sub.refl _ | exact Hp.Sub.rd (by omega) | exact Hp.Sub.boxA (by (repeat (first | exact all_lt_zero | refine all_lt_succ (p := fun j => CellLe _ _) (by first | with_reducible exact CellLe.refl _ | exact CellLe.own | exact CellLe.i (by omega) | exact CellLe.nil | exact CellLe.slNil | exact CellLe.refl _) ?_))) | exact Hp.Sub.refl _) ?_ | refine PP.skip ?_)) (CellLe.of_eq (sv_i ((vw_out hr).symm))) rfl
    | exact Fin.gx (r' := .i (vwI c vs ls wave)) (by refine PP.start ?_; repeat (first | exact PP.nil | refine PP.take (by first | with_reducible exact Hp.Sub.refl _ | exact Hp.Sub.rd (by omega) | exact Hp.Sub.boxA (by (repeat (first | exact all_lt_zero | refine all_lt_succ (p := fun j => CellLe _ _) (by first | with_reducible exact CellLe.refl _ | exact CellLe.own | exact CellLe.i (by omega) | exact CellLe.nil | exact CellLe.slNil | exact CellLe.refl _) ?_))) | exact Hp.Sub.refl _) ?_ | refine PP.skip ?_)) (CellLe.of_eq (sv_i ((vw_bad hok).symm))) rfl
    | trace_state⟩
end Go.Proofs.YtpmhikdefbcofaaDoor
/-! YtpmhikdefbcofaaDoorPp -/
set_option linter.all false
namespace Go.Proofs.YtpmhikdefbcofaaDoor

/-- what a vertex depends on: itself, its parents, and so on -/
inductive Anc (vs : List Vx) (s : Nat) : Nat → Prop
  | self : Anc vs s s
  | step {i j : Nat} (h : Anc vs s i) (hj : j < (vg vs i).ps.length) : Anc vs s (pix vs i j)
abbrev rg (R : List Bool) (i : Nat) : Bool := R.getD i false
/-- these are the marks of all that a vertex depends on -/
structure Cor (vs : List Vx) (s : Nat) (R : List Bool) : Prop where
  len : R.length = vs.length
  iff : ∀ j, j < vs.length → (rg R j = true ↔ Anc vs s j)
theorem Cor.uniq {vs : List Vx} {s : Nat} {R R' : List Bool} (h : Cor vs s R) (h' : Cor vs s R') : R = R' := by
  apply List.ext_getElem (h.len.trans h'.len.symm)
  intro i h1 h2
  have hi : i < vs.length := by rw [← h.len]; exact h1
  have e1 : rg R i = R[i] := by simp [rg, h1]
  have e2 : rg R' i = R'[i] := by simp [rg, h2]
  rw [← e1, ← e2, Bool.eq_iff_iff, h.iff i hi, h'.iff i hi]
theorem Anc.le {c : List Int} {vs : List Vx} {s : Nat} (hg : GoodN c vs vs.length) (hs : s < vs.length) : ∀ {j}, Anc vs s j → j ≤ s := fun h => by
  induction h with
  | self => exact Nat.le_refl _
  | step h hj ih => have := (hg.pix (by omega) (Nat.le_refl _) hj).2; omega
theorem Anc.lt {c : List Int} {vs : List Vx} {s : Nat} (hg : GoodN c vs vs.length) (hs : s < vs.length) {j : Nat} (h : Anc vs s j) : j < vs.length := Nat.lt_of_le_of_lt (h.le hg hs) hs
/-- marks that hold the vertex, are closed, and are no more than they must be -/
theorem Cor.of {c : List Int} {vs : List Vx} {s : Nat} {R : List Bool} (hg : GoodN c vs vs.length) (hs : s < vs.length) (hl : R.length = vs.length) (h1 : rg R s = true) (h2 : ∀ i, rg R i = true → ∀ j, j < (vg vs i).ps.length → rg R (pix vs i j) = true) (h3 : ∀ j, rg R j = true → Anc vs s j) : Cor vs s R :=
  ⟨hl, fun j _ => ⟨h3 j, fun h => by
    induction h with
    | self => exact h1
    | step h hj ih => exact h2 _ (ih (h.lt hg hs)) _ hj⟩⟩
theorem rg_lt {R : List Bool} {i : Nat} (h : rg R i = true) : i < R.length := by
  rcases Nat.lt_or_ge i R.length with h1 | h1
  · exact h1
  · rw [show rg R i = false by simp [rg, Nat.not_lt.2 h1]] at h; cases h
theorem rg_set {R : List Bool} {p i : Nat} (hp : p < R.length) : rg (R.set p true) i = if i = p then true else rg R i := by
  unfold rg
  rw [List.getD_eq_getElem?_getD, List.getElem?_set]
  by_cases h : p = i
  · subst h; simp [hp]
  · rw [if_neg h, if_neg (fun e => h e.symm), ← List.getD_eq_getElem?_getD]
theorem count_set : ∀ {R : List Bool} {p : Nat}, p < R.length → rg R p = false → (R.set p true).count false + 1 = R.count false
  | [], p, hp, _ => absurd hp (by simp)
  | b :: R, 0, _, h => by
    have : b = false := by simpa [rg] using h
    subst this
    simp
  | b :: R, p + 1, hp, h => by
    have := count_set (R := R) (p := p) (by simpa using hp) (by simpa [rg] using h)
    rw [List.set_cons_succ, List.count_cons, List.count_cons]
    omega
/-- the marked indexes, ascending -/
def idxTo (R : List Bool) : Nat → List Int
  | 0 => []
  | k + 1 => if rg R k = true then idxTo R k ++ [(k : Int)] else idxTo R k
theorem idx1 {R : List Bool} {k : Nat} (h : rg R k = true) : idxTo R (k + 1) = idxTo R k ++ [(k : Int)] := if_pos h
theorem idx0 {R : List Bool} {k : Nat} (h : rg R k = false) : idxTo R (k + 1) = idxTo R k := if_neg (by rw [h]; simp)
theorem idx_len {R : List Bool} : ∀ {k : Nat}, (idxTo R k).length ≤ k
  | 0 => Nat.le_refl _
  | k + 1 => by
    have := idx_len (R := R) (k := k)
    unfold idxTo
    split
    · rw [List.length_append]; simp; omega
    · omega
theorem mem_idx {R : List Bool} {x : Int} : ∀ {k : Nat}, x ∈ idxTo R k ↔ ∃ j : Nat, x = j ∧ j < k ∧ rg R j = true
  | 0 => by simp [idxTo]
  | k + 1 => by
    by_cases h : rg R k = true
    · rw [idx1 h, List.mem_append, mem_idx, List.mem_singleton]
      constructor
      · rintro (⟨j, h1, h2, h3⟩ | rfl)
        · exact ⟨j, h1, by omega, h3⟩
        · exact ⟨k, rfl, by omega, h⟩
      · rintro ⟨j, h1, h2, h3⟩
        rcases Nat.lt_succ_iff_lt_or_eq.1 h2 with h4 | rfl
        · exact .inl ⟨j, h1, h4, h3⟩
        · exact .inr h1
    · rw [idx0 (by simpa using h), mem_idx]
      constructor
      · rintro ⟨j, h1, h2, h3⟩; exact ⟨j, h1, by omega, h3⟩
      · rintro ⟨j, h1, h2, h3⟩
        rcases Nat.lt_succ_iff_lt_or_eq.1 h2 with h4 | rfl
        · exact ⟨j, h1, h4, h3⟩
        · exact absurd h3 h
/-- ascending -/
theorem idx_asc {R : List Bool} : ∀ {k : Nat}, (idxTo R k).Pairwise fun a b => a < b
  | 0 => List.Pairwise.nil
  | k + 1 => by
    by_cases h : rg R k = true
    · rw [idx1 h]
      refine List.pairwise_append.2 ⟨idx_asc, by simp, fun a ha b hb => ?_⟩
      obtain ⟨j, rfl, hj, _⟩ := mem_idx.1 ha
      rw [List.mem_singleton.1 hb]
      omega
    · rw [idx0 (by simpa using h)]; exact idx_asc
end Go.Proofs.YtpmhikdefbcofaaDoor
