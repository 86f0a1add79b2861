/- The law of a certificate's digest. -/
import Derived.Test.YtagemifcpiknoaaCeE
import Derived.Test.YtagemifcpiknoaaCeL
set_option linter.all false
namespace Go.Proofs.Ytagemifcpiknoaa
open Go.RowKit

theorem ckOk_iff {c keys : List Int} {d : Int} {ms : List Int} {s : Int} : ckOk c keys d ms s = true ↔ ckIn c keys d ms s = true ∧ (s * 5).tmod 997 = ((psum keys ms ms.length).tmod 997 * (d + 1)).tmod 997 := by
  unfold ckOk
  rw [Bool.and_eq_true, beq_iff_eq]
theorem ck_sum {c keys : List Int} {d : Int} {ms : List Int} {s t : Int} (h : ckOk c keys d ms s = true) (h0 : 0 ≤ t) (h1 : t < 995) : ckOk c keys d ms ((s + 1 + t).tmod 997) = false := by
  obtain ⟨hi, he⟩ := ckOk_iff.1 h
  have hr := (ck_iff hi).2.2.2.1
  rw [← Bool.not_eq_true, ckOk_iff]
  rintro ⟨hi', he'⟩
  have hr' := (ck_iff hi').2.2.2.1
  rw [tmod_pos (a := s + 1 + t) (by omega)] at he' hr'
  rw [← he, tmod_pos (by omega), tmod_pos (by omega)] at he'
  omega
theorem ck_dig {c keys : List Int} {d : Int} {ms : List Int} {s t : Int} (h : ckOk c keys d ms s = true) (h0 : 0 ≤ t) (h1 : t < 989) (hp : pmod keys ms ms.length ≠ 0) : ckOk c keys ((d + 1 + t).tmod 991) ms s = false := by
  obtain ⟨hi, he⟩ := ckOk_iff.1 h
  obtain ⟨hko, hd, hmo, hs, _⟩ := ck_iff hi
  have hpr := pmod_rng hko hmo (Nat.le_refl _)
  rw [← Bool.not_eq_true, ckOk_iff]
  rintro ⟨hi', he'⟩
  have hd' := (ck_iff hi').2.1
  rw [← pmod_eq hko hmo (Nat.le_refl _)] at he he'
  rw [tmod_pos (a := d + 1 + t) (by omega)] at he' hd'
  generalize pmod keys ms ms.length = P at *
  rw [he] at he'
  have hdd : d ≠ (d + 1 + t) % 991 := by omega
  generalize (d + 1 + t) % 991 = e at *
  rw [tmod_pos (Int.mul_nonneg hpr.1 (by omega)), tmod_pos (Int.mul_nonneg hpr.1 (by omega))] at he'
  have hdv : (997 : Int) ∣ P * (d + 1) - P * (e + 1) := Int.dvd_of_emod_eq_zero (Int.emod_eq_emod_iff_emod_sub_eq_zero.1 he')
  rw [← Int.mul_sub] at hdv
  have hn : 997 ∣ P.natAbs * (d + 1 - (e + 1)).natAbs := by rw [← Int.natAbs_mul]; exact Int.natAbs_dvd_natAbs.2 hdv
  rcases Nat.le_total P.natAbs 0 with h2 | h2
  · omega
  · have hc : Nat.Coprime 997 P.natAbs := by
      have hall : ((List.range 997).all fun k => Nat.beq k 0 || Nat.beq (Nat.gcd 997 k) 1) = true := by kernel_rfl
      have h3 := List.all_eq_true.1 hall P.natAbs (List.mem_range.2 (by omega))
      rw [Bool.or_eq_true] at h3
      exact h3.elim (fun h4 => absurd (Nat.eq_of_beq_eq_true h4) (by omega)) Nat.eq_of_beq_eq_true
    have := Nat.le_of_dvd (by omega) (hc.dvd_of_dvd_mul_left hn)
    omega
theorem keySum_c {c keys ms : List Int} (hk : keysOk c keys = true) (hm : msOk c.length ms = true) : SRet Try.prog 19 [isl keys, isl ms] (· = .i (pmod keys ms ms.length)) := ⟨fun R => by
  refine SCalls.enter tt_ok Try.func19 (by kernel_rfl) rfl [(900, .cust R)] rfl (argF _) (fun w F v k h => h) (by simp) ?_
  have hl := ms_len hm
  have h7 := (cmOk_iff.1 (keysOk_iff.1 hk).1).1
  have h8 := (keysOk_iff.1 hk).2.1
  repeat' (first | with_reducible refine HT.seq ?_ | ((with_reducible refine HT.region tt_ok ?_); conv => whnf) | ((with_reducible refine HT.drawn tt_ok (by kernel_rfl) (by kernel_rfl) ?_); conv => whnf) | ((with_reducible refine HT.cond ?_); conv => whnf) | with_reducible refine HT.block ?_ | ((with_reducible refine HT.ret ?_); conv => whnf) | ((with_reducible refine HT.skip ?_); conv => whnf) | ((with_reducible refine HT.exit ?_); conv => whnf) | ((with_reducible refine Br.tt ?_); conv => whnf) | ((with_reducible refine Br.ff ?_); conv => whnf) | with_reducible refine Br.not ?_ | ((with_reducible refine Br.dec (fun hc => ?_) (fun hc => ?_)) <;> (first | (exfalso; omega) | conv => whnf)) | ((with_reducible refine Br.eq (fun hc => ?_) (fun hc => ?_)) <;> (first | (exfalso; omega) | conv => whnf)) | ((with_reducible refine Br.ne (fun hc => ?_) (fun hc => ?_)) <;> (first | (exfalso; omega) | conv => whnf)) | ((with_reducible refine Br.ttE (by decide) ?_); conv => whnf) | ((with_reducible refine Br.ffE (by decide) ?_); conv => whnf) | ((with_reducible refine Br.mk (fun hc => ?_) (fun hc => ?_)) <;> conv => whnf) | ((with_reducible refine Chk.mk (by first | omega | with_reducible rfl | (refine ⟨rfl, ?_⟩; omega) | decide | (refine ⟨rfl, by omega, by omega, rfl⟩) | (refine ⟨by assumption, rfl, by omega, by omega⟩)) ?_); conv => whnf) | ((with_reducible refine Ar.fit (by omega) ?_); conv => whnf) | (with_reducible exact trivial) | ((with_reducible refine And.intro ?_ ?_) <;> conv => whnf) | (intro gn; conv => whnf))
  refine HT.loopS [0, 1, 4] (fun k : Nat => [(5, .i (pmod keys ms k)), (6, .i k)]) (fun k : Nat => k ≤ ms.length) (fun k : Nat => ms.length - k) 0 (Nat.zero_le _) ⟨rfl, rfl, trivial⟩ ?_
  conv => whnf
  intro k hlk
  have hp := pmod_rng hk hm hlk
  by_cases hlt : k < ms.length
  · have hv := psum_key hk hm hlt
    have e : ms.getD (k : Int).toNat default = ms.getD k default := by rw [Int.toNat_natCast]
    rw [← e] at hv
    repeat' (first | with_reducible refine HT.seq ?_ | ((with_reducible refine HT.region tt_ok ?_); conv => whnf) | ((with_reducible refine HT.drawn tt_ok (by kernel_rfl) (by kernel_rfl) ?_); conv => whnf) | ((with_reducible refine HT.cond ?_); conv => whnf) | with_reducible refine HT.block ?_ | ((with_reducible refine HT.ret ?_); conv => whnf) | ((with_reducible refine HT.skip ?_); conv => whnf) | ((with_reducible refine HT.exit ?_); conv => whnf) | ((with_reducible refine Br.tt ?_); conv => whnf) | ((with_reducible refine Br.ff ?_); conv => whnf) | with_reducible refine Br.not ?_ | ((with_reducible refine Br.dec (fun hc => ?_) (fun hc => ?_)) <;> (first | (exfalso; omega) | conv => whnf)) | ((with_reducible refine Br.eq (fun hc => ?_) (fun hc => ?_)) <;> (first | (exfalso; omega) | conv => whnf)) | ((with_reducible refine Br.ne (fun hc => ?_) (fun hc => ?_)) <;> (first | (exfalso; omega) | conv => whnf)) | ((with_reducible refine Br.ttE (by decide) ?_); conv => whnf) | ((with_reducible refine Br.ffE (by decide) ?_); conv => whnf) | ((with_reducible refine Br.mk (fun hc => ?_) (fun hc => ?_)) <;> conv => whnf) | ((with_reducible refine Chk.mk (by first | omega | with_reducible rfl | (refine ⟨rfl, ?_⟩; omega) | decide | (refine ⟨rfl, by omega, by omega, rfl⟩) | (refine ⟨by assumption, rfl, by omega, by omega⟩)) ?_); conv => whnf) | ((with_reducible refine Ar.fit (by omega) ?_); conv => whnf) | (with_reducible exact trivial) | ((with_reducible refine And.intro ?_ ?_) <;> conv => whnf) | (intro gn; conv => whnf))
    exact ⟨⟨k + 1, by omega, by omega, (by repeat' (first | exact trivial | refine ⟨rfl, ?_⟩)), ⟨sv_i (by simp only [Int.toNat_natCast]; rfl), sv_i (by omega), trivial⟩, (HLe.sub (by repeat (first | exact List.Sublist.refl _ | refine List.Sublist.cons_cons _ ?_ | refine List.Sublist.cons _ ?_)))⟩⟩
  · repeat' (first | with_reducible refine HT.seq ?_ | ((with_reducible refine HT.region tt_ok ?_); conv => whnf) | ((with_reducible refine HT.drawn tt_ok (by kernel_rfl) (by kernel_rfl) ?_); conv => whnf) | ((with_reducible refine HT.cond ?_); conv => whnf) | with_reducible refine HT.block ?_ | ((with_reducible refine HT.ret ?_); conv => whnf) | ((with_reducible refine HT.skip ?_); conv => whnf) | ((with_reducible refine HT.exit ?_); conv => whnf) | ((with_reducible refine Br.tt ?_); conv => whnf) | ((with_reducible refine Br.ff ?_); conv => whnf) | with_reducible refine Br.not ?_ | ((with_reducible refine Br.dec (fun hc => ?_) (fun hc => ?_)) <;> (first | (exfalso; omega) | conv => whnf)) | ((with_reducible refine Br.eq (fun hc => ?_) (fun hc => ?_)) <;> (first | (exfalso; omega) | conv => whnf)) | ((with_reducible refine Br.ne (fun hc => ?_) (fun hc => ?_)) <;> (first | (exfalso; omega) | conv => whnf)) | ((with_reducible refine Br.ttE (by decide) ?_); conv => whnf) | ((with_reducible refine Br.ffE (by decide) ?_); conv => whnf) | ((with_reducible refine Br.mk (fun hc => ?_) (fun hc => ?_)) <;> conv => whnf) | ((with_reducible refine Chk.mk (by first | omega | with_reducible rfl | (refine ⟨rfl, ?_⟩; omega) | decide | (refine ⟨rfl, by omega, by omega, rfl⟩) | (refine ⟨by assumption, rfl, by omega, by omega⟩)) ?_); conv => whnf) | ((with_reducible refine Ar.fit (by omega) ?_); conv => whnf) | (with_reducible exact trivial) | ((with_reducible refine And.intro ?_ ?_) <;> conv => whnf) | (intro gn; conv => whnf))
    obtain rfl : k = ms.length := by omega
    exact Fin.pureS (by repeat (first | exact List.Sublist.refl _ | refine List.Sublist.cons_cons _ ?_ | refine List.Sublist.cons _ ?_)) rfl⟩
set_option maxHeartbeats 1000000 in
theorem FnCertDigest_c (zs zm : List Int) (hz : ∀ z ∈ zs, 0 ≤ z ∧ z ≤ 255) (hzm : ∀ z ∈ zm, 0 ≤ z ∧ z ≤ 255) : SRet Try.prog 7 [.sl 1 zs.length (rowF u8F zs), .sl 1 zm.length (rowF u8F zm)] (· = .b true) := ⟨fun R => by
  refine SCalls.enter tt_ok Try.func7 (by kernel_rfl) rfl [(900, .cust R)] rfl (argF _) (fun w F v k h => h) (by simp) ?_
  repeat' (first | with_reducible refine HT.seq ?_ | ((with_reducible refine HT.region tt_ok ?_); conv => whnf) | ((with_reducible refine HT.drawn tt_ok (by kernel_rfl) (by kernel_rfl) ?_); conv => whnf) | ((with_reducible refine HT.cond ?_); conv => whnf) | with_reducible refine HT.block ?_ | ((with_reducible refine HT.ret ?_); conv => whnf) | ((with_reducible refine HT.skip ?_); conv => whnf) | ((with_reducible refine HT.exit ?_); conv => whnf) | ((with_reducible refine Br.tt ?_); conv => whnf) | ((with_reducible refine Br.ff ?_); conv => whnf) | with_reducible refine Br.not ?_ | ((with_reducible refine Br.dec (fun hc => ?_) (fun hc => ?_)) <;> (first | (exfalso; omega) | conv => whnf)) | ((with_reducible refine Br.eq (fun hc => ?_) (fun hc => ?_)) <;> (first | (exfalso; omega) | conv => whnf)) | ((with_reducible refine Br.ne (fun hc => ?_) (fun hc => ?_)) <;> (first | (exfalso; omega) | conv => whnf)) | ((with_reducible refine Br.ttE (by decide) ?_); conv => whnf) | ((with_reducible refine Br.ffE (by decide) ?_); conv => whnf) | ((with_reducible refine Br.mk (fun hc => ?_) (fun hc => ?_)) <;> conv => whnf) | ((with_reducible refine Chk.mk (by first | omega | with_reducible rfl | (refine ⟨rfl, ?_⟩; omega) | decide | (refine ⟨rfl, by omega, by omega, rfl⟩) | (refine ⟨by assumption, rfl, by omega, by omega⟩)) ?_); conv => whnf) | ((with_reducible refine Ar.fit (by omega) ?_); conv => whnf) | (with_reducible exact trivial) | ((with_reducible refine And.intro ?_ ?_) <;> conv => whnf) | (intro gn; conv => whnf))
  · exact Fin.pureS (by repeat (first | exact List.Sublist.refl _ | refine List.Sublist.cons_cons _ ?_ | refine List.Sublist.cons _ ?_)) rfl
  · exact Fin.pureS (by repeat (first | exact List.Sublist.refl _ | refine List.Sublist.cons_cons _ ?_ | refine List.Sublist.cons _ ?_)) rfl
  refine CallN.ret _ (DrawCeC_c zs hz (by omega)) ?_
  rintro r ⟨c, keys, d, ms, s, h1, h2, h3, rfl⟩
  conv => whnf
  have hI := implCk_c c keys d ms s (by omega) (by omega) (by omega)
  have hS := specCk_c c keys d ms s (by omega) (by omega) (by omega)
  by_cases hok : ckOk c keys d ms s = true
  rotate_left
  · have hok : ckOk c keys d ms s = false := by simpa using hok
    rw [hok] at hI hS
    repeat' (first | with_reducible refine HT.seq ?_ | ((with_reducible refine HT.region tt_ok ?_); conv => whnf) | ((with_reducible refine HT.drawn tt_ok (by kernel_rfl) (by kernel_rfl) ?_); conv => whnf) | ((with_reducible refine HT.cond ?_); conv => whnf) | with_reducible refine HT.block ?_ | ((with_reducible refine HT.ret ?_); conv => whnf) | ((with_reducible refine HT.skip ?_); conv => whnf) | ((with_reducible refine HT.exit ?_); conv => whnf) | ((with_reducible refine Br.tt ?_); conv => whnf) | ((with_reducible refine Br.ff ?_); conv => whnf) | with_reducible refine Br.not ?_ | ((with_reducible refine Br.dec (fun hc => ?_) (fun hc => ?_)) <;> (first | (exfalso; omega) | conv => whnf)) | ((with_reducible refine Br.eq (fun hc => ?_) (fun hc => ?_)) <;> (first | (exfalso; omega) | conv => whnf)) | ((with_reducible refine Br.ne (fun hc => ?_) (fun hc => ?_)) <;> (first | (exfalso; omega) | conv => whnf)) | ((with_reducible refine Br.ttE (by decide) ?_); conv => whnf) | ((with_reducible refine Br.ffE (by decide) ?_); conv => whnf) | ((with_reducible refine Br.mk (fun hc => ?_) (fun hc => ?_)) <;> conv => whnf) | ((with_reducible refine Chk.mk (by first | omega | with_reducible rfl | (refine ⟨rfl, ?_⟩; omega) | decide | (refine ⟨rfl, by omega, by omega, rfl⟩) | (refine ⟨by assumption, rfl, by omega, by omega⟩)) ?_); conv => whnf) | ((with_reducible refine Ar.fit (by omega) ?_); conv => whnf) | (refine CallN.ret1 (hI) ?_ <;> conv => whnf) | (refine CallN.ret1 (hS) ?_ <;> conv => whnf) | (with_reducible exact trivial) | ((with_reducible refine And.intro ?_ ?_) <;> conv => whnf) | (intro gn; conv => whnf))
    exact Fin.pureS (by repeat (first | exact List.Sublist.refl _ | refine List.Sublist.cons_cons _ ?_ | refine List.Sublist.cons _ ?_)) rfl
  rw [hok] at hI hS
  obtain ⟨hi, he⟩ := ckOk_iff.1 hok
  obtain ⟨hko, hd, hmo, hsr, hq⟩ := ck_iff hi
  have hT : ∀ b : Int, 0 < b → 0 ≤ (zm.length : Int).tmod b ∧ (zm.length : Int).tmod b < b := fun b hb => by rw [tmod_pos (by omega)]; exact ⟨Int.emod_nonneg _ (by omega), Int.emod_lt_of_pos _ hb⟩
  have hT1 := hT 989 (by omega)
  have hT2 := hT 995 (by omega)
  have hks := keySum_c hko hmo
  have h1s := (implCk_c c keys d ms ((s + 1 + (zm.length : Int).tmod 995).tmod 997) (by omega) (by omega) (by omega)).bf (ck_sum hok hT2.1 hT2.2)
  have hpr := pmod_rng hko hmo (Nat.le_refl _)
  by_cases hp : pmod keys ms ms.length = 0
  · rw [hp] at hks
    repeat' (first | with_reducible refine HT.seq ?_ | ((with_reducible refine HT.region tt_ok ?_); conv => whnf) | ((with_reducible refine HT.drawn tt_ok (by kernel_rfl) (by kernel_rfl) ?_); conv => whnf) | ((with_reducible refine HT.cond ?_); conv => whnf) | with_reducible refine HT.block ?_ | ((with_reducible refine HT.ret ?_); conv => whnf) | ((with_reducible refine HT.skip ?_); conv => whnf) | ((with_reducible refine HT.exit ?_); conv => whnf) | ((with_reducible refine Br.tt ?_); conv => whnf) | ((with_reducible refine Br.ff ?_); conv => whnf) | with_reducible refine Br.not ?_ | ((with_reducible refine Br.dec (fun hc => ?_) (fun hc => ?_)) <;> (first | (exfalso; omega) | conv => whnf)) | ((with_reducible refine Br.eq (fun hc => ?_) (fun hc => ?_)) <;> (first | (exfalso; omega) | conv => whnf)) | ((with_reducible refine Br.ne (fun hc => ?_) (fun hc => ?_)) <;> (first | (exfalso; omega) | conv => whnf)) | ((with_reducible refine Br.ttE (by decide) ?_); conv => whnf) | ((with_reducible refine Br.ffE (by decide) ?_); conv => whnf) | ((with_reducible refine Br.mk (fun hc => ?_) (fun hc => ?_)) <;> conv => whnf) | ((with_reducible refine Chk.mk (by first | omega | with_reducible rfl | (refine ⟨rfl, ?_⟩; omega) | decide | (refine ⟨rfl, by omega, by omega, rfl⟩) | (refine ⟨by assumption, rfl, by omega, by omega⟩)) ?_); conv => whnf) | ((with_reducible refine Ar.fit (by omega) ?_); conv => whnf) | (refine CallN.ret1 (hI) ?_ <;> conv => whnf) | (refine CallN.ret1 (hS) ?_ <;> conv => whnf) | (refine CallN.ret1 (h1s) ?_ <;> conv => whnf) | (refine CallN.ret1 (hks) ?_ <;> conv => whnf) | (with_reducible exact trivial) | ((with_reducible refine And.intro ?_ ?_) <;> conv => whnf) | (intro gn; conv => whnf))
    all_goals exact Fin.pureS (by repeat (first | exact List.Sublist.refl _ | refine List.Sublist.cons_cons _ ?_ | refine List.Sublist.cons _ ?_)) rfl
  · have h1d := (implCk_c c keys ((d + 1 + (zm.length : Int).tmod 989).tmod 991) ms s (by omega) (by omega) (by omega)).bf (ck_dig hok hT1.1 hT1.2 hp)
    repeat' (first | with_reducible refine HT.seq ?_ | ((with_reducible refine HT.region tt_ok ?_); conv => whnf) | ((with_reducible refine HT.drawn tt_ok (by kernel_rfl) (by kernel_rfl) ?_); conv => whnf) | ((with_reducible refine HT.cond ?_); conv => whnf) | with_reducible refine HT.block ?_ | ((with_reducible refine HT.ret ?_); conv => whnf) | ((with_reducible refine HT.skip ?_); conv => whnf) | ((with_reducible refine HT.exit ?_); conv => whnf) | ((with_reducible refine Br.tt ?_); conv => whnf) | ((with_reducible refine Br.ff ?_); conv => whnf) | with_reducible refine Br.not ?_ | ((with_reducible refine Br.dec (fun hc => ?_) (fun hc => ?_)) <;> (first | (exfalso; omega) | conv => whnf)) | ((with_reducible refine Br.eq (fun hc => ?_) (fun hc => ?_)) <;> (first | (exfalso; omega) | conv => whnf)) | ((with_reducible refine Br.ne (fun hc => ?_) (fun hc => ?_)) <;> (first | (exfalso; omega) | conv => whnf)) | ((with_reducible refine Br.ttE (by decide) ?_); conv => whnf) | ((with_reducible refine Br.ffE (by decide) ?_); conv => whnf) | ((with_reducible refine Br.mk (fun hc => ?_) (fun hc => ?_)) <;> conv => whnf) | ((with_reducible refine Chk.mk (by first | omega | with_reducible rfl | (refine ⟨rfl, ?_⟩; omega) | decide | (refine ⟨rfl, by omega, by omega, rfl⟩) | (refine ⟨by assumption, rfl, by omega, by omega⟩)) ?_); conv => whnf) | ((with_reducible refine Ar.fit (by omega) ?_); conv => whnf) | (refine CallN.ret1 (hI) ?_ <;> conv => whnf) | (refine CallN.ret1 (hS) ?_ <;> conv => whnf) | (refine CallN.ret1 (h1s) ?_ <;> conv => whnf) | (refine CallN.ret1 (hks) ?_ <;> conv => whnf) | (refine CallN.ret1 (h1d) ?_ <;> conv => whnf) | (with_reducible exact trivial) | ((with_reducible refine And.intro ?_ ?_) <;> conv => whnf) | (intro gn; conv => whnf))
    all_goals exact Fin.pureS (by repeat (first | exact List.Sublist.refl _ | refine List.Sublist.cons_cons _ ?_ | refine List.Sublist.cons _ ?_)) rfl⟩
theorem fnCertDigest_holds : Rows.FnCertDigestSaid := by
  refine OpenClaim.holds_of_wide 7 Try.f7 rfl rfl rfl rfl rfl rfl rfl ⟨rfl, rfl, rfl, rfl, rfl⟩ rfl rfl rfl rfl rfl (by kernel_rfl) Try.func7 (by kernel_rfl)
    (of_decide_eq_true (by kernel_rfl)) (by unfold Func.isWrapper; rw [if_neg (of_decide_eq_false (by kernel_rfl))]; exact ⟨rfl, rfl⟩)
    (fun os started H enc _ => ?_)
  refine law_lifted (s := Rows.fnCertDigestSpec) started Try.func7 (by kernel_rfl) Try.underlying4 rfl (by kernel_rfl) rfl (fun ds hl => ?_)
    (ChangeSpec.witness6 (enc := enc) (C := Try.checked) false ⟨#[], #[.slice none 0 0, .slice none 0 0], []⟩ 8 (by kernel_rfl) (by kernel_rfl) (by kernel_rfl) (by kernel_rfl)) ?_
  · match ds, hl with
    | [d0, d1], _ => exact ⟨rfl, rfl, rfl⟩
  · intro W base args ds ps hval hA
    obtain ⟨v0, v1, d0, d1, p0, p1, rfl, rfl, rfl, h0, h1⟩ := Go.ChangeShapes.trodAll_two hA
    obtain ⟨zs0, a0, b0⟩ := code_has Try.underlying22 Try.underlying5 (by kernel_rfl) (hval 0 _ v0 rfl rfl) h0
    obtain ⟨zs1, a1, b1⟩ := code_has Try.underlying22 Try.underlying5 (by kernel_rfl) (hval 1 _ v1 rfl rfl) h1
    exact law_calls (FnCertDigest_c zs0 zs1 b0 b1) ⟨a0, a1, trivial⟩
end Go.Proofs.Ytagemifcpiknoaa
