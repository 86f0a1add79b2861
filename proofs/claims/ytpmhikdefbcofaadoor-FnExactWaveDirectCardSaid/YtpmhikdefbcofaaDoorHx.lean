/- Votes as the reference counts them; waves committed directly: both sides. -/
import Derived.Test.YtpmhikdefbcofaaDoorHw
set_option linter.all false
namespace Go.Proofs.YtpmhikdefbcofaaDoor
open Go.RowKit

theorem sumTo_zero {g : Nat → Int} : ∀ {n : Nat}, (∀ a, a < n → g a = 0) → sumTo g n = 0
  | 0, _ => rfl
  | n + 1, h => by
    show sumTo g n + g n = 0
    rw [sumTo_zero fun a ha => h a (by omega), h n (by omega)]; rfl
theorem sumTo_upd {g g' : Nat → Int} {p : Nat} (h : ∀ a, a ≠ p → g' a = g a) : ∀ {n : Nat}, p < n → sumTo g' n = sumTo g n + (g' p - g p)
  | 0, hp => absurd hp (by omega)
  | n + 1, hp => by
    show sumTo g' n + g' n = sumTo g n + g n + (g' p - g p)
    rcases Nat.lt_succ_iff_lt_or_eq.1 hp with h1 | rfl
    · rw [sumTo_upd h h1, h n (by omega)]; omega
    · rw [sumTo_congr (g' := g) fun a ha => h a (by omega)]; omega
/-- the weight of a vertex's vote -/
def vwF (c : List Int) (vs : List Vx) (r ld : Int) (i : Nat) : Int := if (vg vs i).r = r ∧ ld ∈ (vg vs i).ps then c.getD (vg vs i).a.toNat default else 0
/-- the weight of an author's vote, among the first k vertices -/
def vtK (c : List Int) (vs : List Vx) (r ld : Int) (k a : Nat) : Int := match fdV vs r a with
  | some i => if i < k ∧ ld ∈ (vg vs i).ps then c.getD a default else 0
  | none => 0
theorem votes_eq {c : List Int} {vs : List Vx} {r ld : Int} (hG : GoodN c vs vs.length) : sumTo (vwF c vs r ld) vs.length = vtS c vs r ld := by
  have key : ∀ k, k ≤ vs.length → sumTo (vwF c vs r ld) k = sumTo (vtK c vs r ld k) c.length := by
    intro k
    induction k with
    | zero =>
      intro _
      show (0 : Int) = _
      rw [sumTo_zero fun a _ => ?_]
      unfold vtK
      split
      · rw [if_neg (by omega)]
      · rfl
    | succ k ih =>
      intro hk
      show sumTo (vwF c vs r ld) k + vwF c vs r ld k = _
      rw [ih (by omega)]
      have hb := vxOk_iff (st_parts (hG k (by omega))).1
      have hfd := hG.fd (i := k) (by omega)
      by_cases hr : (vg vs k).r = r
      · have hp : (vg vs k).a.toNat < c.length := by omega
        have hpa : (((vg vs k).a.toNat : Nat) : Int) = (vg vs k).a := by omega
        rw [sumTo_upd (g := vtK c vs r ld k) (g' := vtK c vs r ld (k + 1)) (p := (vg vs k).a.toNat) (fun a ha => ?_) hp]
        · have e1 : vtK c vs r ld (k + 1) (vg vs k).a.toNat = vwF c vs r ld k := by
            unfold vtK vwF
            rw [hpa, ← hr, hfd]
            by_cases hm : ld ∈ (vg vs k).ps
            · rw [if_pos ⟨rfl, hm⟩]; exact if_pos ⟨by omega, hm⟩
            · rw [if_neg fun h => hm h.2]; exact if_neg fun h => hm h.2
          have e2 : vtK c vs r ld k (vg vs k).a.toNat = 0 := by
            unfold vtK
            rw [hpa, ← hr, hfd]
            exact if_neg fun h => by omega
          rw [e1, e2]; omega
        · unfold vtK
          cases hq : fdV vs r a with
          | none => rfl
          | some i =>
            have hne : i ≠ k := fun e => by
              have := (fd_some hq).2.2.1
              rw [e] at this
              omega
            have : (i < k + 1 ∧ ld ∈ (vg vs i).ps) ↔ (i < k ∧ ld ∈ (vg vs i).ps) := by
              constructor
              · rintro ⟨h1, h2⟩; exact ⟨by omega, h2⟩
              · rintro ⟨h1, h2⟩; exact ⟨by omega, h2⟩
            simp only [this]
      · have e0 : vwF c vs r ld k = 0 := if_neg fun h => hr h.1
        rw [e0, Int.add_zero]
        refine sumTo_congr fun a _ => ?_
        unfold vtK
        cases hq : fdV vs r a with
        | none => rfl
        | some i =>
          have hne : i ≠ k := fun e => by
            have := (fd_some hq).2.1
            rw [e] at this
            exact hr this
          have : (i < k + 1 ∧ ld ∈ (vg vs i).ps) ↔ (i < k ∧ ld ∈ (vg vs i).ps) := by
            constructor
            · rintro ⟨h1, h2⟩; exact ⟨by omega, h2⟩
            · rintro ⟨h1, h2⟩; exact ⟨by omega, h2⟩
          simp only [this]
  rw [key _ (Nat.le_refl _)]
  refine sumTo_congr fun a _ => ?_
  unfold vtK vtF
  cases hq : fdV vs r a with
  | none => rfl
  | some i =>
    have := (fd_some hq).1
    simp only [this, true_and]
theorem vwF_bd {c : List Int} {vs : List Vx} {r ld : Int} (h : cmOk c = true) (hG : GoodN c vs vs.length) : ∀ i, i < vs.length → 0 ≤ vwF c vs r ld i ∧ vwF c vs r ld i ≤ 9 := fun i hi => by
  have hb := vxOk_iff (st_parts (hG i hi)).1
  have := (cmOk_iff.1 h).2 (vg vs i).a.toNat (by omega)
  unfold vwF
  split <;> omega
theorem vwF_part {c : List Int} {vs : List Vx} {r ld : Int} (h : cmOk c = true) (hG : GoodN c vs vs.length) {k : Nat} (hk : k ≤ vs.length) : 0 ≤ sumTo (vwF c vs r ld) k ∧ sumTo (vwF c vs r ld) k ≤ 9 * k := by
  have h1 := sumTo_bd (k := k) (fun i hi => vwF_bd (r := r) (ld := ld) h hG i (by omega))
  omega
theorem l1HasW_c (l : List Int) (x : Int) (hl : l.length ≤ 2000000) : SRet Tryd.prog 59 [isl l, .i x] (· = .b (decide (x ∈ l))) := ⟨fun R => by
  refine SCalls.enter tt_ok Tryd.func59 (by kernel_rfl) rfl [(900, .cust R)] rfl (argF _) (fun w F v k h => h) (by simp) ?_
  repeat' (first | (with_reducible first | refine HT.seq ?_ | refine HT.block ?_ | refine Br.not ?_) | ((with_reducible first | refine HT.region tt_ok ?_ | refine HT.drawn tt_ok (by kernel_rfl) (by decide +kernel) ?_ | refine HT.drawnL tt_ok (by kernel_rfl) (by decide +kernel) ?_ | refine HT.cond ?_ | refine HT.ret ?_ | refine HT.skip ?_ | refine HT.exit ?_ | refine Br.tt ?_ | refine Br.ff ?_); conv => whnf) | ((with_reducible first | refine Br.dec (fun hc => ?_) (fun hc => ?_) | refine Br.eq (fun hc => ?_) (fun hc => ?_) | refine Br.ne (fun hc => ?_) (fun hc => ?_)) <;> (first | (exfalso; omega) | conv => whnf)) | ((with_reducible first | refine Br.ttE (by decide) ?_ | refine Br.ffE (by decide) ?_ | refine Br.mk (fun hc => ?_) (fun hc => ?_) | refine Chk.mk (by first | omega | with_reducible rfl | (refine ⟨rfl, ?_⟩; omega) | decide | exact ⟨rfl, by omega, by omega, rfl⟩ | exact ⟨by assumption, rfl, by omega, by omega⟩) ?_ | refine Ar.fit (by omega) ?_ | refine Eqv.shr1 ?_ | refine Ar.u64 (by omega) ?_) <;> conv => whnf) | (with_reducible exact trivial) | ((with_reducible refine And.intro ?_ ?_) <;> conv => whnf) | (intro gn; conv => whnf))
  refine HT.loopS [0, 1] (fun k : Nat => [(5, .i k)]) (fun k : Nat => k ≤ l.length ∧ ∀ j, j < k → l.getD j default ≠ x) (fun k : Nat => l.length - k) 0 ⟨Nat.zero_le _, fun j hj => absurd hj (by omega)⟩ ⟨rfl, trivial⟩ ?_
  conv => whnf
  rintro k ⟨hk, hall⟩
  repeat' (first | (with_reducible first | refine HT.seq ?_ | refine HT.block ?_ | refine Br.not ?_) | ((with_reducible first | refine HT.region tt_ok ?_ | refine HT.drawn tt_ok (by kernel_rfl) (by decide +kernel) ?_ | refine HT.drawnL tt_ok (by kernel_rfl) (by decide +kernel) ?_ | refine HT.cond ?_ | refine HT.ret ?_ | refine HT.skip ?_ | refine HT.exit ?_ | refine Br.tt ?_ | refine Br.ff ?_); conv => whnf) | ((with_reducible first | refine Br.dec (fun hc => ?_) (fun hc => ?_) | refine Br.eq (fun hc => ?_) (fun hc => ?_) | refine Br.ne (fun hc => ?_) (fun hc => ?_)) <;> (first | (exfalso; omega) | conv => whnf)) | ((with_reducible first | refine Br.ttE (by decide) ?_ | refine Br.ffE (by decide) ?_ | refine Br.mk (fun hc => ?_) (fun hc => ?_) | refine Chk.mk (by first | omega | with_reducible rfl | (refine ⟨rfl, ?_⟩; omega) | decide | exact ⟨rfl, by omega, by omega, rfl⟩ | exact ⟨by assumption, rfl, by omega, by omega⟩) ?_ | refine Ar.fit (by omega) ?_ | refine Eqv.shr1 ?_ | refine Ar.u64 (by omega) ?_) <;> conv => whnf) | (with_reducible exact trivial) | ((with_reducible refine And.intro ?_ ?_) <;> conv => whnf) | (intro gn; conv => whnf))
  all_goals (try simp only [Int.toNat_natCast] at *)
  · exact Fin.pureS (by repeat (first | exact List.Sublist.refl _ | refine List.Sublist.cons_cons _ ?_ | refine List.Sublist.cons _ ?_)) (sv_b (decide_eq_true (by rw [← hc, gDe (by omega)]; exact List.getElem_mem _)).symm)
  · exact ⟨⟨k + 1, ⟨by omega, all_lt_succ hc hall⟩, by omega, (by repeat' (first | exact trivial | refine ⟨rfl, ?_⟩)), ⟨sv_i (by omega), trivial⟩, (HLe.sub (by repeat (first | exact List.Sublist.refl _ | refine List.Sublist.cons_cons _ ?_ | refine List.Sublist.cons _ ?_)))⟩⟩
  · exact Fin.pureS (by repeat (first | exact List.Sublist.refl _ | refine List.Sublist.cons_cons _ ?_ | refine List.Sublist.cons _ ?_)) (sv_b (decide_eq_false (fun hm => by obtain ⟨i, hi, e⟩ := List.getElem_of_mem hm; exact hall i (by omega) ((gDe hi).trans e))).symm)⟩
/-- the votes for the leader of a wave -/
def vwS (c : List Int) (vs : List Vx) (ls : List Int) (wave : Int) : Int := match fdV vs (2 * wave - 1) (ls.getD (wave - 1).toNat default) with
  | some _ => vtS c vs (2 * wave) (ls.getD (wave - 1).toNat default)
  | none => 0
theorem vwS_some {c : List Int} {vs : List Vx} {ls : List Int} {wave : Int} {i : Nat} (h : fdV vs (2 * wave - 1) (ls.getD (wave - 1).toNat default) = some i) : vwS c vs ls wave = vtS c vs (2 * wave) (ls.getD (wave - 1).toNat default) := by unfold vwS; rw [h]
theorem vwS_none {c : List Int} {vs : List Vx} {ls : List Int} {wave : Int} (h : fdV vs (2 * wave - 1) (ls.getD (wave - 1).toNat default) = none) : vwS c vs ls wave = 0 := by unfold vwS; rw [h]
theorem vwS_bd {c : List Int} {vs : List Vx} {ls : List Int} {wave : Int} (h : cmOk c = true) : 0 ≤ vwS c vs ls wave ∧ vwS c vs ls wave ≤ 63 := by
  unfold vwS
  split
  · exact vtS_part h (Nat.le_refl _)
  · omega
set_option maxRecDepth 100000 in
set_option maxHeartbeats 1000000 in
theorem l21Votes_c (c : List Int) (vs : List Vx) (ls : List Int) (wave : Int) (hok : wvOk c vs ls = true) (hv : vs.length ≤ 10000000) (hp : ∀ v ∈ vs, v.ps.length ≤ 10000000) (hw : 1 ≤ wave ∧ wave ≤ (ls.length : Int)) : SRet Tryd.prog 40 [isl c, vsl vs, isl ls, .i wave] (· = .i (vwS c vs ls wave)) := ⟨fun R => by
  obtain ⟨hgr, hl, hld⟩ := wv_parts hok
  have hcm := (grOk_iff.1 hgr).1
  have hG := (grOk_iff.1 hgr).2
  have h7 := (cmOk_iff.1 hcm).1
  have hL := l21Ld_c vs ls wave hv (by omega) hw
  cases hfd : fdV vs (2 * wave - 1) (ls.getD (wave - 1).toNat default) with
  | none =>
    rw [fdI_none hfd] at hL
    refine SCalls.enter tt_ok Tryd.func40 (by kernel_rfl) rfl [(900, .cust R)] rfl (argF _) (fun w F v k h => h) (by simp) ?_
    repeat' (first | (with_reducible first | refine HT.seq ?_ | refine HT.block ?_ | refine Br.not ?_) | ((with_reducible first | refine HT.region tt_ok ?_ | refine HT.drawn tt_ok (by kernel_rfl) (by decide +kernel) ?_ | refine HT.drawnL tt_ok (by kernel_rfl) (by decide +kernel) ?_ | refine HT.cond ?_ | refine HT.ret ?_ | refine HT.skip ?_ | refine HT.exit ?_ | refine Br.tt ?_ | refine Br.ff ?_); conv => whnf) | ((with_reducible first | refine Br.dec (fun hc => ?_) (fun hc => ?_) | refine Br.eq (fun hc => ?_) (fun hc => ?_) | refine Br.ne (fun hc => ?_) (fun hc => ?_)) <;> (first | (exfalso; omega) | conv => whnf)) | ((with_reducible first | refine Br.ttE (by decide) ?_ | refine Br.ffE (by decide) ?_ | refine Br.mk (fun hc => ?_) (fun hc => ?_) | refine Chk.mk (by first | omega | with_reducible rfl | (refine ⟨rfl, ?_⟩; omega) | decide | exact ⟨rfl, by omega, by omega, rfl⟩ | exact ⟨by assumption, rfl, by omega, by omega⟩) ?_ | refine Ar.fit (by omega) ?_ | refine Eqv.shr1 ?_ | refine Ar.u64 (by omega) ?_) <;> conv => whnf) | ((first | refine CallN.ret1 (hL) ?_) <;> conv => whnf) | (with_reducible exact trivial) | ((with_reducible refine And.intro ?_ ?_) <;> conv => whnf) | (intro gn; conv => whnf))
    refine HT.loopS [0, 1, 2, 3, 8] (fun k : Nat => [(10, .i (0 : Int)), (9, .i (0 : Int))]) (fun k : Nat => True) (fun k : Nat => 0) 0 trivial ⟨rfl, rfl, trivial⟩ ?_
    conv => whnf
    intro k _
    repeat' (first | (with_reducible first | refine HT.seq ?_ | refine HT.block ?_ | refine Br.not ?_) | ((with_reducible first | refine HT.region tt_ok ?_ | refine HT.drawn tt_ok (by kernel_rfl) (by decide +kernel) ?_ | refine HT.drawnL tt_ok (by kernel_rfl) (by decide +kernel) ?_ | refine HT.cond ?_ | refine HT.ret ?_ | refine HT.skip ?_ | refine HT.exit ?_ | refine Br.tt ?_ | refine Br.ff ?_); conv => whnf) | ((with_reducible first | refine Br.dec (fun hc => ?_) (fun hc => ?_) | refine Br.eq (fun hc => ?_) (fun hc => ?_) | refine Br.ne (fun hc => ?_) (fun hc => ?_)) <;> (first | (exfalso; omega) | conv => whnf)) | ((with_reducible first | refine Br.ttE (by decide) ?_ | refine Br.ffE (by decide) ?_ | refine Br.mk (fun hc => ?_) (fun hc => ?_) | refine Chk.mk (by first | omega | with_reducible rfl | (refine ⟨rfl, ?_⟩; omega) | decide | exact ⟨rfl, by omega, by omega, rfl⟩ | exact ⟨by assumption, rfl, by omega, by omega⟩) ?_ | refine Ar.fit (by omega) ?_ | refine Eqv.shr1 ?_ | refine Ar.u64 (by omega) ?_) <;> conv => whnf) | ((first | refine CallN.ret1 (hL) ?_) <;> conv => whnf) | (with_reducible exact trivial) | ((with_reducible refine And.intro ?_ ?_) <;> conv => whnf) | (intro gn; conv => whnf))
    all_goals exact Fin.pureS (by repeat (first | exact List.Sublist.refl _ | refine List.Sublist.cons_cons _ ?_ | refine List.Sublist.cons _ ?_)) (sv_i (vwS_none hfd).symm)
  | some i =>
    rw [fdI_some hfd] at hL
    refine SCalls.enter tt_ok Tryd.func40 (by kernel_rfl) rfl [(900, .cust R)] rfl (argF _) (fun w F v k h => h) (by simp) ?_
    repeat' (first | (with_reducible first | refine HT.seq ?_ | refine HT.block ?_ | refine Br.not ?_) | ((with_reducible first | refine HT.region tt_ok ?_ | refine HT.drawn tt_ok (by kernel_rfl) (by decide +kernel) ?_ | refine HT.drawnL tt_ok (by kernel_rfl) (by decide +kernel) ?_ | refine HT.cond ?_ | refine HT.ret ?_ | refine HT.skip ?_ | refine HT.exit ?_ | refine Br.tt ?_ | refine Br.ff ?_); conv => whnf) | ((with_reducible first | refine Br.dec (fun hc => ?_) (fun hc => ?_) | refine Br.eq (fun hc => ?_) (fun hc => ?_) | refine Br.ne (fun hc => ?_) (fun hc => ?_)) <;> (first | (exfalso; omega) | conv => whnf)) | ((with_reducible first | refine Br.ttE (by decide) ?_ | refine Br.ffE (by decide) ?_ | refine Br.mk (fun hc => ?_) (fun hc => ?_) | refine Chk.mk (by first | omega | with_reducible rfl | (refine ⟨rfl, ?_⟩; omega) | decide | exact ⟨rfl, by omega, by omega, rfl⟩ | exact ⟨by assumption, rfl, by omega, by omega⟩) ?_ | refine Ar.fit (by omega) ?_ | refine Eqv.shr1 ?_ | refine Ar.u64 (by omega) ?_) <;> conv => whnf) | ((first | refine CallN.ret1 (hL) ?_) <;> conv => whnf) | (with_reducible exact trivial) | ((with_reducible refine And.intro ?_ ?_) <;> conv => whnf) | (intro gn; conv => whnf))
    refine HT.loopS [0, 1, 2, 3, 8] (fun k : Nat => [(10, .i k), (9, .i (sumTo (vwF c vs (2 * wave) (ls.getD (wave - 1).toNat default)) k))]) (fun k : Nat => k ≤ vs.length) (fun k : Nat => vs.length - k) 0 (Nat.zero_le _) ⟨rfl, rfl, trivial⟩ ?_
    conv => whnf
    intro k hk
    have hb := vwF_part (r := 2 * wave) (ld := ls.getD (wave - 1).toNat default) hcm hG hk
    by_cases hkl : k < vs.length
    rotate_left
    · obtain rfl : k = vs.length := by omega
      repeat' (first | (with_reducible first | refine HT.seq ?_ | refine HT.block ?_ | refine Br.not ?_) | ((with_reducible first | refine HT.region tt_ok ?_ | refine HT.drawn tt_ok (by kernel_rfl) (by decide +kernel) ?_ | refine HT.drawnL tt_ok (by kernel_rfl) (by decide +kernel) ?_ | refine HT.cond ?_ | refine HT.ret ?_ | refine HT.skip ?_ | refine HT.exit ?_ | refine Br.tt ?_ | refine Br.ff ?_); conv => whnf) | ((with_reducible first | refine Br.dec (fun hc => ?_) (fun hc => ?_) | refine Br.eq (fun hc => ?_) (fun hc => ?_) | refine Br.ne (fun hc => ?_) (fun hc => ?_)) <;> (first | (exfalso; omega) | conv => whnf)) | ((with_reducible first | refine Br.ttE (by decide) ?_ | refine Br.ffE (by decide) ?_ | refine Br.mk (fun hc => ?_) (fun hc => ?_) | refine Chk.mk (by first | omega | with_reducible rfl | (refine ⟨rfl, ?_⟩; omega) | decide | exact ⟨rfl, by omega, by omega, rfl⟩ | exact ⟨by assumption, rfl, by omega, by omega⟩) ?_ | refine Ar.fit (by omega) ?_ | refine Eqv.shr1 ?_ | refine Ar.u64 (by omega) ?_) <;> conv => whnf) | ((first | refine CallN.ret1 (hL) ?_) <;> conv => whnf) | (with_reducible exact trivial) | ((with_reducible refine And.intro ?_ ?_) <;> conv => whnf) | (intro gn; conv => whnf))
      all_goals exact Fin.pureS (by repeat (first | exact List.Sublist.refl _ | refine List.Sublist.cons_cons _ ?_ | refine List.Sublist.cons _ ?_)) (sv_i (by rw [votes_eq hG]; exact (vwS_some hfd).symm))
    have hvb := vxOk_iff (st_parts (hG k hkl)).1
    have hpk : (vg vs k).ps.length ≤ 7 := by have h1 := ms_len hvb.2.2.1; omega
    have hca := (cmOk_iff.1 hcm).2 (vg vs k).a.toNat (by omega)
    have hvb2 : 0 ≤ (vs.getD ((k : Int)).toNat default).a ∧ (vs.getD ((k : Int)).toNat default).a < c.length := by rw [Int.toNat_natCast]; show 0 ≤ (vg vs k).a ∧ (vg vs k).a < c.length; omega
    have hca2 : 1 ≤ c.getD (vs.getD ((k : Int)).toNat default).a.toNat default ∧ c.getD (vs.getD ((k : Int)).toNat default).a.toNat default ≤ 9 := by rw [Int.toNat_natCast]; exact hca
    have hH : SRet Tryd.prog 59 [isl (vs.getD ((k : Int)).toNat default).ps, .i (ls.getD (wave - 1).toNat default)] (· = .b (decide (ls.getD (wave - 1).toNat default ∈ (vg vs k).ps))) := by rw [Int.toNat_natCast]; exact l1HasW_c _ _ (by show (vg vs k).ps.length ≤ _; omega)
    by_cases hr : (vg vs k).r = 2 * wave
    · have hr2 : (vs.getD ((k : Int)).toNat default).r = 2 * wave := by rw [Int.toNat_natCast]; exact hr
      by_cases hm : ls.getD (wave - 1).toNat default ∈ (vg vs k).ps
      · have hw1 : vwF c vs (2 * wave) (ls.getD (wave - 1).toNat default) k = c.getD (vs.getD k default).a.toNat default := if_pos ⟨hr, hm⟩
        repeat' (first | (with_reducible first | refine HT.seq ?_ | refine HT.block ?_ | refine Br.not ?_) | ((with_reducible first | refine HT.region tt_ok ?_ | refine HT.drawn tt_ok (by kernel_rfl) (by decide +kernel) ?_ | refine HT.drawnL tt_ok (by kernel_rfl) (by decide +kernel) ?_ | refine HT.cond ?_ | refine HT.ret ?_ | refine HT.skip ?_ | refine HT.exit ?_ | refine Br.tt ?_ | refine Br.ff ?_); conv => whnf) | ((with_reducible first | refine Br.dec (fun hc => ?_) (fun hc => ?_) | refine Br.eq (fun hc => ?_) (fun hc => ?_) | refine Br.ne (fun hc => ?_) (fun hc => ?_)) <;> (first | (exfalso; omega) | conv => whnf)) | ((with_reducible first | refine Br.ttE (by decide) ?_ | refine Br.ffE (by decide) ?_ | refine Br.mk (fun hc => ?_) (fun hc => ?_) | refine Chk.mk (by first | omega | with_reducible rfl | (refine ⟨rfl, ?_⟩; omega) | decide | exact ⟨rfl, by omega, by omega, rfl⟩ | exact ⟨by assumption, rfl, by omega, by omega⟩) ?_ | refine Ar.fit (by omega) ?_ | refine Eqv.shr1 ?_ | refine Ar.u64 (by omega) ?_) <;> conv => whnf) | ((first | refine CallN.ret1 (hL) ?_ | refine CallN.ret1 (hH.bt (decide_eq_true hm)) ?_) <;> conv => whnf) | (with_reducible exact trivial) | ((with_reducible refine And.intro ?_ ?_) <;> conv => whnf) | (intro gn; conv => whnf))
        all_goals (try simp only [Int.toNat_natCast] at *)
        all_goals first | (exfalso; omega) | exact ⟨⟨k + 1, by omega, by omega, (by repeat' (first | exact trivial | refine ⟨rfl, ?_⟩)), ⟨sv_i (by omega), sv_i (by show _ = sumTo _ k + vwF c vs (2 * wave) _ k; omega), trivial⟩, (HLe.sub (by repeat (first | exact List.Sublist.refl _ | refine List.Sublist.cons_cons _ ?_ | refine List.Sublist.cons _ ?_)))⟩⟩
      · have hw0 : vwF c vs (2 * wave) (ls.getD (wave - 1).toNat default) k = 0 := if_neg fun h => hm h.2
        repeat' (first | (with_reducible first | refine HT.seq ?_ | refine HT.block ?_ | refine Br.not ?_) | ((with_reducible first | refine HT.region tt_ok ?_ | refine HT.drawn tt_ok (by kernel_rfl) (by decide +kernel) ?_ | refine HT.drawnL tt_ok (by kernel_rfl) (by decide +kernel) ?_ | refine HT.cond ?_ | refine HT.ret ?_ | refine HT.skip ?_ | refine HT.exit ?_ | refine Br.tt ?_ | refine Br.ff ?_); conv => whnf) | ((with_reducible first | refine Br.dec (fun hc => ?_) (fun hc => ?_) | refine Br.eq (fun hc => ?_) (fun hc => ?_) | refine Br.ne (fun hc => ?_) (fun hc => ?_)) <;> (first | (exfalso; omega) | conv => whnf)) | ((with_reducible first | refine Br.ttE (by decide) ?_ | refine Br.ffE (by decide) ?_ | refine Br.mk (fun hc => ?_) (fun hc => ?_) | refine Chk.mk (by first | omega | with_reducible rfl | (refine ⟨rfl, ?_⟩; omega) | decide | exact ⟨rfl, by omega, by omega, rfl⟩ | exact ⟨by assumption, rfl, by omega, by omega⟩) ?_ | refine Ar.fit (by omega) ?_ | refine Eqv.shr1 ?_ | refine Ar.u64 (by omega) ?_) <;> conv => whnf) | ((first | refine CallN.ret1 (hL) ?_ | refine CallN.ret1 (hH.bf (decide_eq_false hm)) ?_) <;> conv => whnf) | (with_reducible exact trivial) | ((with_reducible refine And.intro ?_ ?_) <;> conv => whnf) | (intro gn; conv => whnf))
        all_goals (try simp only [Int.toNat_natCast] at *)
        all_goals first | (exfalso; omega) | exact ⟨⟨k + 1, by omega, by omega, (by repeat' (first | exact trivial | refine ⟨rfl, ?_⟩)), ⟨sv_i (by omega), sv_i (by show _ = sumTo _ k + vwF c vs (2 * wave) _ k; omega), trivial⟩, (HLe.sub (by repeat (first | exact List.Sublist.refl _ | refine List.Sublist.cons_cons _ ?_ | refine List.Sublist.cons _ ?_)))⟩⟩
    · have hr2 : ¬ (vs.getD ((k : Int)).toNat default).r = 2 * wave := by rw [Int.toNat_natCast]; exact hr
      have hw0 : vwF c vs (2 * wave) (ls.getD (wave - 1).toNat default) k = 0 := if_neg fun h => hr h.1
      repeat' (first | (with_reducible first | refine HT.seq ?_ | refine HT.block ?_ | refine Br.not ?_) | ((with_reducible first | refine HT.region tt_ok ?_ | refine HT.drawn tt_ok (by kernel_rfl) (by decide +kernel) ?_ | refine HT.drawnL tt_ok (by kernel_rfl) (by decide +kernel) ?_ | refine HT.cond ?_ | refine HT.ret ?_ | refine HT.skip ?_ | refine HT.exit ?_ | refine Br.tt ?_ | refine Br.ff ?_); conv => whnf) | ((with_reducible first | refine Br.dec (fun hc => ?_) (fun hc => ?_) | refine Br.eq (fun hc => ?_) (fun hc => ?_) | refine Br.ne (fun hc => ?_) (fun hc => ?_)) <;> (first | (exfalso; omega) | conv => whnf)) | ((with_reducible first | refine Br.ttE (by decide) ?_ | refine Br.ffE (by decide) ?_ | refine Br.mk (fun hc => ?_) (fun hc => ?_) | refine Chk.mk (by first | omega | with_reducible rfl | (refine ⟨rfl, ?_⟩; omega) | decide | exact ⟨rfl, by omega, by omega, rfl⟩ | exact ⟨by assumption, rfl, by omega, by omega⟩) ?_ | refine Ar.fit (by omega) ?_ | refine Eqv.shr1 ?_ | refine Ar.u64 (by omega) ?_) <;> conv => whnf) | ((first | refine CallN.ret1 (hL) ?_) <;> conv => whnf) | (with_reducible exact trivial) | ((with_reducible refine And.intro ?_ ?_) <;> conv => whnf) | (intro gn; conv => whnf))
      all_goals (try simp only [Int.toNat_natCast] at *)
      all_goals first | (exfalso; omega) | exact ⟨⟨k + 1, by omega, by omega, (by repeat' (first | exact trivial | refine ⟨rfl, ?_⟩)), ⟨sv_i (by omega), sv_i (by show _ = sumTo _ k + vwF c vs (2 * wave) _ k; omega), trivial⟩, (HLe.sub (by repeat (first | exact List.Sublist.refl _ | refine List.Sublist.cons_cons _ ?_ | refine List.Sublist.cons _ ?_)))⟩⟩⟩
/-- what WaveVotes gives -/
def vwI (c : List Int) (vs : List Vx) (ls : List Int) (wave : Int) : Int := if wvOk c vs ls = true ∧ 1 ≤ wave ∧ wave ≤ (ls.length : Int) then vwS c vs ls wave else -1
theorem vw_in {c : List Int} {vs : List Vx} {ls : List Int} {wave : Int} (h1 : wvOk c vs ls = true) (h2 : 1 ≤ wave ∧ wave ≤ (ls.length : Int)) : vwI c vs ls wave = vwS c vs ls wave := if_pos ⟨h1, h2⟩
theorem vw_out {c : List Int} {vs : List Vx} {ls : List Int} {wave : Int} (h : wave < 1 ∨ (ls.length : Int) < wave) : vwI c vs ls wave = -1 := if_neg fun h2 => by omega
theorem vw_bad {c : List Int} {vs : List Vx} {ls : List Int} {wave : Int} (h : wvOk c vs ls = false) : vwI c vs ls wave = -1 := if_neg fun h2 => by rw [h] at h2; cases h2.1
/-- is a wave committed directly? -/
def vdB (c : List Int) (vs : List Vx) (ls : List Int) (wave : Int) : Bool := decide (0 ≤ vwI c vs ls wave) && decide (tot c / 3 + 1 ≤ vwI c vs ls wave)
set_option maxRecDepth 100000 in
theorem specWV_c (c : List Int) (vs : List Vx) (ls : List Int) (wave : Int) (hc : c.length ≤ 2000000) (hv : vs.length ≤ 10000000) (hp : ∀ v ∈ vs, v.ps.length ≤ 10000000) (hl : ls.length ≤ 2000000) : SRet Tryd.prog 21 [isl c, vsl vs, isl ls, .i wave] (· = .i (vwI c vs ls wave)) := ⟨fun R => by
  have hO := l21Ok_c c vs ls hc hv hp hl
  by_cases hok : wvOk c vs ls = true
  rotate_left
  · have hok : wvOk c vs ls = false := by simpa using hok
    refine SCalls.enter tt_ok Tryd.func21 (by kernel_rfl) rfl [(900, .cust R)] rfl (argF _) (fun w F v k h => h) (by simp) ?_
    repeat' (first | (with_reducible first | refine HT.seq ?_ | refine HT.block ?_ | refine Br.not ?_) | ((with_reducible first | refine HT.region tt_ok ?_ | refine HT.drawn tt_ok (by kernel_rfl) (by decide +kernel) ?_ | refine HT.drawnL tt_ok (by kernel_rfl) (by decide +kernel) ?_ | refine HT.cond ?_ | refine HT.ret ?_ | refine HT.skip ?_ | refine HT.exit ?_ | refine Br.tt ?_ | refine Br.ff ?_); conv => whnf) | ((with_reducible first | refine Br.dec (fun hc => ?_) (fun hc => ?_) | refine Br.eq (fun hc => ?_) (fun hc => ?_) | refine Br.ne (fun hc => ?_) (fun hc => ?_)) <;> (first | (exfalso; omega) | conv => whnf)) | ((with_reducible first | refine Br.ttE (by decide) ?_ | refine Br.ffE (by decide) ?_ | refine Br.mk (fun hc => ?_) (fun hc => ?_) | refine Chk.mk (by first | omega | with_reducible rfl | (refine ⟨rfl, ?_⟩; omega) | decide | exact ⟨rfl, by omega, by omega, rfl⟩ | exact ⟨by assumption, rfl, by omega, by omega⟩) ?_ | refine Ar.fit (by omega) ?_ | refine Eqv.shr1 ?_ | refine Ar.u64 (by omega) ?_) <;> conv => whnf) | ((first | refine CallN.ret1 (hO.bf hok) ?_) <;> conv => whnf) | (with_reducible exact trivial) | ((with_reducible refine And.intro ?_ ?_) <;> conv => whnf) | (intro gn; conv => whnf))
    all_goals exact Fin.pureS (by repeat (first | exact List.Sublist.refl _ | refine List.Sublist.cons_cons _ ?_ | refine List.Sublist.cons _ ?_)) (sv_i (vw_bad hok).symm)
  by_cases hw : 1 ≤ wave ∧ wave ≤ (ls.length : Int)
  rotate_left
  refine SCalls.enter tt_ok Tryd.func21 (by kernel_rfl) rfl [(900, .cust R)] rfl (argF _) (fun w F v k h => h) (by simp) ?_
  · repeat' (first | (with_reducible first | refine HT.seq ?_ | refine HT.block ?_ | refine Br.not ?_) | ((with_reducible first | refine HT.region tt_ok ?_ | refine HT.drawn tt_ok (by kernel_rfl) (by decide +kernel) ?_ | refine HT.drawnL tt_ok (by kernel_rfl) (by decide +kernel) ?_ | refine HT.cond ?_ | refine HT.ret ?_ | refine HT.skip ?_ | refine HT.exit ?_ | refine Br.tt ?_ | refine Br.ff ?_); conv => whnf) | ((with_reducible first | refine Br.dec (fun hc => ?_) (fun hc => ?_) | refine Br.eq (fun hc => ?_) (fun hc => ?_) | refine Br.ne (fun hc => ?_) (fun hc => ?_)) <;> (first | (exfalso; omega) | conv => whnf)) | ((with_reducible first | refine Br.ttE (by decide) ?_ | refine Br.ffE (by decide) ?_ | refine Br.mk (fun hc => ?_) (fun hc => ?_) | refine Chk.mk (by first | omega | with_reducible rfl | (refine ⟨rfl, ?_⟩; omega) | decide | exact ⟨rfl, by omega, by omega, rfl⟩ | exact ⟨by assumption, rfl, by omega, by omega⟩) ?_ | refine Ar.fit (by omega) ?_ | refine Eqv.shr1 ?_ | refine Ar.u64 (by omega) ?_) <;> conv => whnf) | ((first | refine CallN.ret1 (hO.bt hok) ?_ | refine CallN.ret1 ((l6In_c wave 1 (ls.length : Int)).bf (inB_no hw)) ?_) <;> conv => whnf) | (with_reducible exact trivial) | ((with_reducible refine And.intro ?_ ?_) <;> conv => whnf) | (intro gn; conv => whnf))
    all_goals exact Fin.pureS (by repeat (first | exact List.Sublist.refl _ | refine List.Sublist.cons_cons _ ?_ | refine List.Sublist.cons _ ?_)) (sv_i (vw_out (by omega)).symm)
  refine SCalls.enter tt_ok Tryd.func21 (by kernel_rfl) rfl [(900, .cust R)] rfl (argF _) (fun w F v k h => h) (by simp) ?_
  repeat' (first | (with_reducible first | refine HT.seq ?_ | refine HT.block ?_ | refine Br.not ?_) | ((with_reducible first | refine HT.region tt_ok ?_ | refine HT.drawn tt_ok (by kernel_rfl) (by decide +kernel) ?_ | refine HT.drawnL tt_ok (by kernel_rfl) (by decide +kernel) ?_ | refine HT.cond ?_ | refine HT.ret ?_ | refine HT.skip ?_ | refine HT.exit ?_ | refine Br.tt ?_ | refine Br.ff ?_); conv => whnf) | ((with_reducible first | refine Br.dec (fun hc => ?_) (fun hc => ?_) | refine Br.eq (fun hc => ?_) (fun hc => ?_) | refine Br.ne (fun hc => ?_) (fun hc => ?_)) <;> (first | (exfalso; omega) | conv => whnf)) | ((with_reducible first | refine Br.ttE (by decide) ?_ | refine Br.ffE (by decide) ?_ | refine Br.mk (fun hc => ?_) (fun hc => ?_) | refine Chk.mk (by first | omega | with_reducible rfl | (refine ⟨rfl, ?_⟩; omega) | decide | exact ⟨rfl, by omega, by omega, rfl⟩ | exact ⟨by assumption, rfl, by omega, by omega⟩) ?_ | refine Ar.fit (by omega) ?_ | refine Eqv.shr1 ?_ | refine Ar.u64 (by omega) ?_) <;> conv => whnf) | ((first | refine CallN.ret1 (hO.bt hok) ?_ | refine CallN.ret1 ((l6In_c wave 1 (ls.length : Int)).bt (inB_true.2 hw)) ?_ | refine CallN.ret1 (l21Votes_c c vs ls wave hok hv hp hw) ?_) <;> conv => whnf) | (with_reducible exact trivial) | ((with_reducible refine And.intro ?_ ?_) <;> conv => whnf) | (intro gn; conv => whnf))
  all_goals exact Fin.pureS (by repeat (first | exact List.Sublist.refl _ | refine List.Sublist.cons_cons _ ?_ | refine List.Sublist.cons _ ?_)) (sv_i (vw_in hok hw).symm)⟩
set_option maxRecDepth 100000 in
theorem specWD_c (c : List Int) (vs : List Vx) (ls : List Int) (wave : Int) (hc : c.length ≤ 2000000) (hv : vs.length ≤ 10000000) (hp : ∀ v ∈ vs, v.ps.length ≤ 10000000) (hl : ls.length ≤ 2000000) : SRet Tryd.prog 17 [isl c, vsl vs, isl ls, .i wave] (· = .b (vdB c vs ls wave)) := ⟨fun R => by
  have hW := specWV_c c vs ls wave hc hv hp hl
  by_cases hb : wvOk c vs ls = true ∧ 1 ≤ wave ∧ wave ≤ (ls.length : Int)
  rotate_left
  · have hI : vwI c vs ls wave = -1 := if_neg hb
    rw [hI] at hW
    refine SCalls.enter tt_ok Tryd.func17 (by kernel_rfl) rfl [(900, .cust R)] rfl (argF _) (fun w F v k h => h) (by simp) ?_
    repeat' (first | (with_reducible first | refine HT.seq ?_ | refine HT.block ?_ | refine Br.not ?_) | ((with_reducible first | refine HT.region tt_ok ?_ | refine HT.drawn tt_ok (by kernel_rfl) (by decide +kernel) ?_ | refine HT.drawnL tt_ok (by kernel_rfl) (by decide +kernel) ?_ | refine HT.cond ?_ | refine HT.ret ?_ | refine HT.skip ?_ | refine HT.exit ?_ | refine Br.tt ?_ | refine Br.ff ?_); conv => whnf) | ((with_reducible first | refine Br.dec (fun hc => ?_) (fun hc => ?_) | refine Br.eq (fun hc => ?_) (fun hc => ?_) | refine Br.ne (fun hc => ?_) (fun hc => ?_)) <;> (first | (exfalso; omega) | conv => whnf)) | ((with_reducible first | refine Br.ttE (by decide) ?_ | refine Br.ffE (by decide) ?_ | refine Br.mk (fun hc => ?_) (fun hc => ?_) | refine Chk.mk (by first | omega | with_reducible rfl | (refine ⟨rfl, ?_⟩; omega) | decide | exact ⟨rfl, by omega, by omega, rfl⟩ | exact ⟨by assumption, rfl, by omega, by omega⟩) ?_ | refine Ar.fit (by omega) ?_ | refine Eqv.shr1 ?_ | refine Ar.u64 (by omega) ?_) <;> conv => whnf) | ((first | refine CallN.ret1 (hW) ?_) <;> conv => whnf) | (with_reducible exact trivial) | ((with_reducible refine And.intro ?_ ?_) <;> conv => whnf) | (intro gn; conv => whnf))
    all_goals exact Fin.pureS (by repeat (first | exact List.Sublist.refl _ | refine List.Sublist.cons_cons _ ?_ | refine List.Sublist.cons _ ?_)) (sv_b (by unfold vdB; rw [hI]; rfl))
  have hI : vwI c vs ls wave = vwS c vs ls wave := if_pos hb
  rw [hI] at hW
  have hcm := (grOk_iff.1 (wv_parts hb.1).1).1
  have hbd := vwS_bd (c := c) (vs := vs) (ls := ls) (wave := wave) hcm
  have hS := l21Votes_c c vs ls wave hb.1 hv hp hb.2
  refine SCalls.enter tt_ok Tryd.func17 (by kernel_rfl) rfl [(900, .cust R)] rfl (argF _) (fun w F v k h => h) (by simp) ?_
  repeat' (first | (with_reducible first | refine HT.seq ?_ | refine HT.block ?_ | refine Br.not ?_) | ((with_reducible first | refine HT.region tt_ok ?_ | refine HT.drawn tt_ok (by kernel_rfl) (by decide +kernel) ?_ | refine HT.drawnL tt_ok (by kernel_rfl) (by decide +kernel) ?_ | refine HT.cond ?_ | refine HT.ret ?_ | refine HT.skip ?_ | refine HT.exit ?_ | refine Br.tt ?_ | refine Br.ff ?_); conv => whnf) | ((with_reducible first | refine Br.dec (fun hc => ?_) (fun hc => ?_) | refine Br.eq (fun hc => ?_) (fun hc => ?_) | refine Br.ne (fun hc => ?_) (fun hc => ?_)) <;> (first | (exfalso; omega) | conv => whnf)) | ((with_reducible first | refine Br.ttE (by decide) ?_ | refine Br.ffE (by decide) ?_ | refine Br.mk (fun hc => ?_) (fun hc => ?_) | refine Chk.mk (by first | omega | with_reducible rfl | (refine ⟨rfl, ?_⟩; omega) | decide | exact ⟨rfl, by omega, by omega, rfl⟩ | exact ⟨by assumption, rfl, by omega, by omega⟩) ?_ | refine Ar.fit (by omega) ?_ | refine Eqv.shr1 ?_ | refine Ar.u64 (by omega) ?_) <;> conv => whnf) | ((first | refine CallN.ret1 (hW) ?_ | refine CallN.ret1 (hS) ?_ | refine CallN.ret1 (specSup_c c hcm) ?_) <;> conv => whnf) | (with_reducible exact trivial) | ((with_reducible refine And.intro ?_ ?_) <;> conv => whnf) | (intro gn; conv => whnf))
  all_goals exact Fin.pureS (by repeat (first | exact List.Sublist.refl _ | refine List.Sublist.cons_cons _ ?_ | refine List.Sublist.cons _ ?_)) (sv_b (by unfold vdB; rw [hI, decide_eq_true hbd.1]; simp))⟩
/-- the weight is enough, in a valid graph -/
def vdW (c : List Int) (vs : List Vx) (ls : List Int) (wave : Int) : Bool := decide ((1 ≤ wave ∧ wave ≤ (ls.length : Int)) ∧ tot c / 3 + 1 ≤ vwS c vs ls wave)
theorem vdW_eq {c : List Int} {vs : List Vx} {ls : List Int} {wave : Int} (hok : wvOk c vs ls = true) : vdW c vs ls wave = vdB c vs ls wave := by
  have hcm := (grOk_iff.1 (wv_parts hok).1).1
  have ht := tot_bd hcm
  have hbd := vwS_bd (c := c) (vs := vs) (ls := ls) (wave := wave) hcm
  unfold vdW vdB
  by_cases hw : 1 ≤ wave ∧ wave ≤ (ls.length : Int)
  · rw [vw_in hok hw, Bool.eq_iff_iff]
    simp [hw, hbd.1]
  · rw [vw_out (by omega), decide_eq_false fun h => hw h.1]; rfl
set_option maxRecDepth 100000 in
theorem direct_c (u : Ers) (ad : Nat → Nat) (c : List Int) (vs : List Vx) (ls : List Int) (wave : Int) (hok : grOk c vs = true) (hl : ls.length ≤ 15) : SGl Tryd.prog u 42 [wvA ad c vs ls, .i wave] (· = .b (vdW c vs ls wave)) := ⟨fun R => by
  have hcm := (grOk_iff.1 hok).1
  have ht := tot_bd hcm
  refine SCalls.enter tt_ok Tryd.func42 (by kernel_rfl) rfl [(800, erH 0 u.y0 u.t0 u.v0), (801, erH 1 u.y1 u.t1 u.v1), (802, erH 2 u.y2 u.t2 u.v2), (900, .cust R)] rfl (argF _) (fun w F v k h => h) (by simp) ?_
  repeat' (first | (with_reducible first | refine HT.seq ?_ | refine HT.block ?_ | refine Br.not ?_) | ((with_reducible first | refine HT.region tt_ok ?_ | refine HT.drawn tt_ok (by kernel_rfl) (by decide +kernel) ?_ | refine HT.drawnL tt_ok (by kernel_rfl) (by decide +kernel) ?_ | refine HT.cond ?_ | refine HT.ret ?_ | refine HT.skip ?_ | refine HT.exit ?_ | refine Br.tt ?_ | refine Br.ff ?_); conv => whnf) | ((with_reducible first | refine Br.dec (fun hc => ?_) (fun hc => ?_) | refine Br.eq (fun hc => ?_) (fun hc => ?_) | refine Br.ne (fun hc => ?_) (fun hc => ?_)) <;> (first | (exfalso; omega) | conv => whnf)) | ((with_reducible first | refine Br.ttE (by decide) ?_ | refine Br.ffE (by decide) ?_ | refine Br.mk (fun hc => ?_) (fun hc => ?_) | refine Chk.mk (by first | omega | with_reducible rfl | (refine ⟨rfl, ?_⟩; omega) | decide | exact ⟨rfl, by omega, by omega, rfl⟩ | exact ⟨by assumption, rfl, by omega, by omega⟩) ?_ | refine Ar.fit (by omega) ?_ | refine Eqv.shr1 ?_ | refine Ar.u64 (by omega) ?_) <;> conv => whnf) | ((first | (refine CallN.gl rfl rfl rfl (votes_c u ad c vs ls wave hok hl) ?_; rintro r (⟨hr, rfl⟩ | ⟨hr, ⟨hi, rfl⟩ | ⟨⟨i, hi⟩, rfl⟩⟩)) | refine CallN.ret1 (implSup_c c hcm) ?_) <;> conv => whnf) | (with_reducible exact trivial) | ((with_reducible refine And.intro ?_ ?_) <;> conv => whnf) | (intro gn; conv => whnf))
  · exact Fin.gl (r' := .b (vdW c vs ls wave)) (by refine PP.start ?_; repeat (first | exact PP.nil | refine PP.take (by first | with_reducible exact Hp.Sub.refl _ | exact Hp.Sub.rd (by omega) | exact Hp.Sub.boxA (by (repeat (first | exact all_lt_zero | refine all_lt_succ (p := fun j => CellLe _ _) (by first | with_reducible exact CellLe.refl _ | exact CellLe.own | exact CellLe.i (by omega) | exact CellLe.nil | exact CellLe.slNil | exact CellLe.refl _) ?_))) | exact Hp.Sub.refl _) ?_ | refine PP.skip ?_)) (CellLe.of_eq (sv_b ((decide_eq_false (by omega)).symm))) rfl
  · exact Fin.gl (r' := .b (vdW c vs ls wave)) (by refine PP.start ?_; repeat (first | exact PP.nil | refine PP.take (by first | with_reducible exact Hp.Sub.refl _ | exact Hp.Sub.rd (by omega) | exact Hp.Sub.boxA (by (repeat (first | exact all_lt_zero | refine all_lt_succ (p := fun j => CellLe _ _) (by first | with_reducible exact CellLe.refl _ | exact CellLe.own | exact CellLe.i (by omega) | exact CellLe.nil | exact CellLe.slNil | exact CellLe.refl _) ?_))) | exact Hp.Sub.refl _) ?_ | refine PP.skip ?_)) (CellLe.of_eq (sv_b ((decide_eq_false (by rw [vwS_none hi]; omega)).symm))) rfl
  all_goals exact Fin.gl (r' := .b (vdW c vs ls wave)) (by refine PP.start ?_; repeat (first | exact PP.nil | refine PP.take (by first | with_reducible exact Hp.Sub.refl _ | exact Hp.Sub.rd (by omega) | exact Hp.Sub.boxA (by (repeat (first | exact all_lt_zero | refine all_lt_succ (p := fun j => CellLe _ _) (by first | with_reducible exact CellLe.refl _ | exact CellLe.own | exact CellLe.i (by omega) | exact CellLe.nil | exact CellLe.slNil | exact CellLe.refl _) ?_))) | exact Hp.Sub.refl _) ?_ | refine PP.skip ?_)) (CellLe.of_eq (sv_b (by unfold vdW; rw [vwS_some hi]; simp [hr]))) rfl⟩
set_option maxRecDepth 100000 in
theorem implWD_c (u : Ers) (c : List Int) (vs : List Vx) (ls : List Int) (wave : Int) (hc : c.length ≤ 2000000) (hv : vs.length ≤ 10000000) (hp : ∀ v ∈ vs, v.ps.length ≤ 10000000) (hl : ls.length ≤ 2000000) : SGl Tryd.prog u 18 [isl c, vsl vs, isl ls, .i wave] (· = .b (vdB c vs ls wave)) := ⟨fun R => by
  refine SCalls.enter tt_ok Tryd.func18 (by kernel_rfl) rfl [(800, erH 0 u.y0 u.t0 u.v0), (801, erH 1 u.y1 u.t1 u.v1), (802, erH 2 u.y2 u.t2 u.v2), (900, .cust R)] rfl (argF _) (fun w F v k h => h) (by simp) ?_
  repeat' (first | (with_reducible first | refine HT.seq ?_ | refine HT.block ?_ | refine Br.not ?_) | ((with_reducible first | refine HT.region tt_ok ?_ | refine HT.drawn tt_ok (by kernel_rfl) (by decide +kernel) ?_ | refine HT.drawnL tt_ok (by kernel_rfl) (by decide +kernel) ?_ | refine HT.cond ?_ | refine HT.ret ?_ | refine HT.skip ?_ | refine HT.exit ?_ | refine Br.tt ?_ | refine Br.ff ?_); conv => whnf) | ((with_reducible first | refine Br.dec (fun hc => ?_) (fun hc => ?_) | refine Br.eq (fun hc => ?_) (fun hc => ?_) | refine Br.ne (fun hc => ?_) (fun hc => ?_)) <;> (first | (exfalso; omega) | conv => whnf)) | ((with_reducible first | refine Br.ttE (by decide) ?_ | refine Br.ffE (by decide) ?_ | refine Br.mk (fun hc => ?_) (fun hc => ?_) | refine Chk.mk (by first | omega | with_reducible rfl | (refine ⟨rfl, ?_⟩; omega) | decide | exact ⟨rfl, by omega, by omega, rfl⟩ | exact ⟨by assumption, rfl, by omega, by omega⟩) ?_ | refine Ar.fit (by omega) ?_ | refine Eqv.shr1 ?_ | refine Ar.u64 (by omega) ?_) <;> conv => whnf) | ((first | (refine CallN.gl rfl rfl rfl (newWA_c u c vs ls hc hv hp hl) ?_; rintro r (⟨hok, ad, rfl⟩ | ⟨hok, rfl⟩)) | (refine CallN.gl rfl rfl rfl (direct_c u ad c vs ls wave (wv_parts hok).1 (wv_parts hok).2.1) ?_; rintro r rfl)) <;> conv => whnf) | (with_reducible exact trivial) | ((with_reducible refine And.intro ?_ ?_) <;> conv => whnf) | (intro gn; conv => whnf))
  all_goals first
    | exact Fin.gl (r' := .b (vdB c vs ls wave)) (by refine PP.start ?_; repeat (first | exact PP.nil | refine PP.take (by first | with_reducible exact Hp.Sub.refl _ | exact Hp.Sub.rd (by omega) | exact Hp.Sub.boxA (by (repeat (first | exact all_lt_zero | refine all_lt_succ (p := fun j => CellLe _ _) (by first | with_reducible exact CellLe.refl _ | exact CellLe.own | exact CellLe.i (by omega) | exact CellLe.nil | exact CellLe.slNil | exact CellLe.refl _) ?_))) | exact Hp.Sub.refl _) ?_ | refine PP.skip ?_)) (CellLe.of_eq (sv_b (vdW_eq hok))) rfl
    | exact Fin.gl (r' := .b (vdB c vs ls wave)) (by refine PP.start ?_; repeat (first | exact PP.nil | refine PP.take (by first | with_reducible exact Hp.Sub.refl _ | exact Hp.Sub.rd (by omega) | exact Hp.Sub.boxA (by (repeat (first | exact all_lt_zero | refine all_lt_succ (p := fun j => CellLe _ _) (by first | with_reducible exact CellLe.refl _ | exact CellLe.own | exact CellLe.i (by omega) | exact CellLe.nil | exact CellLe.slNil | exact CellLe.refl _) ?_))) | exact Hp.Sub.refl _) ?_ | refine PP.skip ?_)) (CellLe.of_eq (sv_b (by unfold vdB; rw [vw_bad hok]; rfl))) rfl⟩
end Go.Proofs.YtpmhikdefbcofaaDoor
