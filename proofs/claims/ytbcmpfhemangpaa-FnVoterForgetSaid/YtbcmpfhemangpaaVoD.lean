/- The program's VoterSign: parts. -/
import Derived.Test.YtbcmpfhemangpaaVoC
import Derived.Test.YtbcmpfhemangpaaMa
set_option linter.all false
namespace Go.Proofs.Ytbcmpfhemangpaa
open Go.RowKit Go.Maps

theorem Fin.voA {rv : Value} {k n : Nat} {g : Nat → Nat → SV} {f : Int} {l : List Vo} {R : Heaplet} {H : List Hp} {Φ : SV → Prop} (hp : PPick H [.row rv 25 3 n g, .cust R]) (hn : n = l.length) (hf : ∀ i j, i < n → j < 3 → g i j = rowF voF l i j) (h : Φ (xV f l)) :
    Fin (.agg 2 (litF [.i f, .own k rv])) H (fun r H' => H' = [.cust R] ∧ Φ r) := by
  subst hn
  refine Fin.still (r' := xV f l) (H' := [.cust R]) hp (fun w F x hsl hx => ?_) ⟨rfl, h⟩
  refine Has.agg (fun q hq u hu => ?_) hx
  rcases (by omega : q = 0 ∨ q = 1) with rfl | rfl
  · exact hu
  · have e : u = rv := hu
    rw [e]
    exact Has.slL (fun i j hi hj y hy => by rw [← hf i j hi hj]; exact hy) hsl
theorem cloneV_c (f : Int) (vs : List Vo) (hl : vs.length ≤ 1000000) : SRet Try.prog 62 [xV f vs] (· = xV f vs) := ⟨fun R => by
  refine SCalls.enter tt_ok Try.func62 (by kernel_rfl) rfl [(900, .cust R)] rfl (argF _) (fun w F v k h => h) (by simp) ?_
  repeat' (first | (with_reducible first | refine HT.seq ?_ | refine HT.block ?_ | refine Br.not ?_) | ((with_reducible first | refine HT.region tt_ok ?_ | refine HT.drawn tt_ok (by kernel_rfl) (by decide +kernel) ?_ | refine HT.drawnL tt_ok (by kernel_rfl) (by decide +kernel) ?_ | refine HT.cond ?_ | refine HT.ret ?_ | refine HT.skip ?_ | refine HT.exit ?_ | refine Br.tt ?_ | refine Br.ff ?_); conv => whnf) | ((with_reducible first | refine Br.dec (fun hc => ?_) (fun hc => ?_) | refine Br.eq (fun hc => ?_) (fun hc => ?_) | refine Br.ne (fun hc => ?_) (fun hc => ?_)) <;> (first | (exfalso; omega) | conv => whnf)) | ((with_reducible first | refine Br.ttE (by decide) ?_ | refine Br.ffE (by decide) ?_ | refine Br.mk (fun hc => ?_) (fun hc => ?_) | refine Chk.mk (by first | omega | with_reducible rfl | (refine ⟨rfl, ?_⟩; omega) | decide | exact ⟨rfl, by omega, by omega, rfl⟩ | exact ⟨by assumption, rfl, by omega, by omega⟩) ?_ | refine Ar.fit (by omega) ?_ | refine Eqv.shr1 ?_ | refine Ar.u64 (by omega) ?_) <;> conv => whnf) | (with_reducible exact trivial) | ((with_reducible refine And.intro ?_ ?_) <;> conv => whnf) | (intro gn; conv => whnf))
  all_goals exact Fin.voA (by refine PP.start ?_; repeat (first | exact PP.nil | refine PP.take (by first | with_reducible exact Hp.Sub.refl _ | exact Hp.Sub.rd (by omega) | exact Hp.Sub.boxA (by (repeat (first | exact all_lt_zero | refine all_lt_succ (p := fun j => CellLe _ _) (by first | with_reducible exact CellLe.refl _ | exact CellLe.own | exact CellLe.i (by omega) | exact CellLe.nil | exact CellLe.slNil | exact CellLe.refl _) ?_))) | exact Hp.Sub.refl _) ?_ | refine PP.skip ?_)) (by simp) (fun i j hi hj => rfl) rfl⟩
abbrev agF (v : Vo) : SV := .fn 84 1 (litF [.pp 3 (voF v)])
theorem indexF_c (vs : List Vo) (v : Vo) (hl : vs.length ≤ 1000000) : SRet Try.prog 93 [vosl vs, agF v] (fun r => ∃ z : Int, r = .i z ∧ (-1 ≤ z ∧ z ≤ 2000000) ∧ (0 ≤ z ↔ ∃ u ∈ vs, sameS u v ∧ u.d ≠ v.d)) := ⟨fun R => by
  have hA : ∀ u : Vo, agn v.r v.a v.d u.r u.a u.d = true ↔ sameS u v ∧ u.d ≠ v.d := fun u => by
    unfold agn sameS
    simp only [Bool.and_eq_true, decide_eq_true_eq]
    constructor
    · rintro ⟨h1, h2, h3⟩; exact ⟨⟨h1.symm, h2.symm⟩, fun e => h3 e.symm⟩
    · rintro ⟨⟨h1, h2⟩, h3⟩; exact ⟨h1.symm, h2.symm, fun e => h3 e.symm⟩
  refine SCalls.enter tt_ok Try.func93 (by kernel_rfl) rfl [(900, .cust R)] rfl (argF _) (fun w F v k h => h) (by simp) ?_
  repeat' (first | (with_reducible first | refine HT.seq ?_ | refine HT.block ?_ | refine Br.not ?_) | ((with_reducible first | refine HT.region tt_ok ?_ | refine HT.drawn tt_ok (by kernel_rfl) (by decide +kernel) ?_ | refine HT.drawnL tt_ok (by kernel_rfl) (by decide +kernel) ?_ | refine HT.cond ?_ | refine HT.ret ?_ | refine HT.skip ?_ | refine HT.exit ?_ | refine Br.tt ?_ | refine Br.ff ?_); conv => whnf) | ((with_reducible first | refine Br.dec (fun hc => ?_) (fun hc => ?_) | refine Br.eq (fun hc => ?_) (fun hc => ?_) | refine Br.ne (fun hc => ?_) (fun hc => ?_)) <;> (first | (exfalso; omega) | conv => whnf)) | ((with_reducible first | refine Br.ttE (by decide) ?_ | refine Br.ffE (by decide) ?_ | refine Br.mk (fun hc => ?_) (fun hc => ?_) | refine Chk.mk (by first | omega | with_reducible rfl | (refine ⟨rfl, ?_⟩; omega) | decide | exact ⟨rfl, by omega, by omega, rfl⟩ | exact ⟨by assumption, rfl, by omega, by omega⟩) ?_ | refine Ar.fit (by omega) ?_ | refine Eqv.shr1 ?_ | refine Ar.u64 (by omega) ?_) <;> conv => whnf) | (with_reducible exact trivial) | ((with_reducible refine And.intro ?_ ?_) <;> conv => whnf) | (intro gn; conv => whnf))
  refine HT.loopS [0, 1, 7] (fun k : Nat => [(8, .i k)]) (fun k : Nat => k ≤ vs.length ∧ ∀ j, j < k → ¬ (sameS (vo vs j) v ∧ (vo vs j).d ≠ v.d)) (fun k : Nat => vs.length - k) 0 ⟨Nat.zero_le _, fun j hj => absurd hj (by omega)⟩ ⟨rfl, trivial⟩ ?_
  conv => whnf
  rintro k ⟨hk, hall⟩
  by_cases hkl : k < vs.length
  rotate_left
  · obtain rfl : k = vs.length := by omega
    repeat' (first | (with_reducible first | refine HT.seq ?_ | refine HT.block ?_ | refine Br.not ?_) | ((with_reducible first | refine HT.region tt_ok ?_ | refine HT.drawn tt_ok (by kernel_rfl) (by decide +kernel) ?_ | refine HT.drawnL tt_ok (by kernel_rfl) (by decide +kernel) ?_ | refine HT.cond ?_ | refine HT.ret ?_ | refine HT.skip ?_ | refine HT.exit ?_ | refine Br.tt ?_ | refine Br.ff ?_); conv => whnf) | ((with_reducible first | refine Br.dec (fun hc => ?_) (fun hc => ?_) | refine Br.eq (fun hc => ?_) (fun hc => ?_) | refine Br.ne (fun hc => ?_) (fun hc => ?_)) <;> (first | (exfalso; omega) | conv => whnf)) | ((with_reducible first | refine Br.ttE (by decide) ?_ | refine Br.ffE (by decide) ?_ | refine Br.mk (fun hc => ?_) (fun hc => ?_) | refine Chk.mk (by first | omega | with_reducible rfl | (refine ⟨rfl, ?_⟩; omega) | decide | exact ⟨rfl, by omega, by omega, rfl⟩ | exact ⟨by assumption, rfl, by omega, by omega⟩) ?_ | refine Ar.fit (by omega) ?_ | refine Eqv.shr1 ?_ | refine Ar.u64 (by omega) ?_) <;> conv => whnf) | (with_reducible exact trivial) | ((with_reducible refine And.intro ?_ ?_) <;> conv => whnf) | (intro gn; conv => whnf))
    all_goals exact Fin.pureS (by repeat (first | exact List.Sublist.refl _ | refine List.Sublist.cons_cons _ ?_ | refine List.Sublist.cons _ ?_)) ⟨_, rfl, by omega, fun h => absurd h (by omega), fun ⟨u, hu, h⟩ => by obtain ⟨j, hj, rfl⟩ := mem_vo hu; exact absurd h (hall j hj)⟩
  have hG : SRet Try.prog 84 [vtV (vs.getD ((k : Int)).toNat default), .pp 3 (voF v)] (· = .b (agn v.r v.a v.d (vo vs k).r (vo vs k).a (vo vs k).d)) := by rw [Int.toNat_natCast]; exact agn1_c _ _ _ _ _ _
  cases hb : agn v.r v.a v.d (vo vs k).r (vo vs k).a (vo vs k).d
  · repeat' (first | (with_reducible first | refine HT.seq ?_ | refine HT.block ?_ | refine Br.not ?_) | ((with_reducible first | refine HT.region tt_ok ?_ | refine HT.drawn tt_ok (by kernel_rfl) (by decide +kernel) ?_ | refine HT.drawnL tt_ok (by kernel_rfl) (by decide +kernel) ?_ | refine HT.cond ?_ | refine HT.ret ?_ | refine HT.skip ?_ | refine HT.exit ?_ | refine Br.tt ?_ | refine Br.ff ?_); conv => whnf) | ((with_reducible first | refine Br.dec (fun hc => ?_) (fun hc => ?_) | refine Br.eq (fun hc => ?_) (fun hc => ?_) | refine Br.ne (fun hc => ?_) (fun hc => ?_)) <;> (first | (exfalso; omega) | conv => whnf)) | ((with_reducible first | refine Br.ttE (by decide) ?_ | refine Br.ffE (by decide) ?_ | refine Br.mk (fun hc => ?_) (fun hc => ?_) | refine Chk.mk (by first | omega | with_reducible rfl | (refine ⟨rfl, ?_⟩; omega) | decide | exact ⟨rfl, by omega, by omega, rfl⟩ | exact ⟨by assumption, rfl, by omega, by omega⟩) ?_ | refine Ar.fit (by omega) ?_ | refine Eqv.shr1 ?_ | refine Ar.u64 (by omega) ?_) <;> conv => whnf) | ((first | refine CallN.ret1 (hG.bf hb) ?_) <;> conv => whnf) | (with_reducible exact trivial) | ((with_reducible refine And.intro ?_ ?_) <;> conv => whnf) | (intro gn; conv => whnf))
    all_goals exact ⟨⟨k + 1, ⟨by omega, all_lt_succ (fun h => by have := (hA _).2 h; rw [hb] at this; cases this) hall⟩, by omega, (by repeat' (first | exact trivial | refine ⟨rfl, ?_⟩)), ⟨sv_i (by omega), trivial⟩, (HLe.sub (by repeat (first | exact List.Sublist.refl _ | refine List.Sublist.cons_cons _ ?_ | refine List.Sublist.cons _ ?_)))⟩⟩
  · repeat' (first | (with_reducible first | refine HT.seq ?_ | refine HT.block ?_ | refine Br.not ?_) | ((with_reducible first | refine HT.region tt_ok ?_ | refine HT.drawn tt_ok (by kernel_rfl) (by decide +kernel) ?_ | refine HT.drawnL tt_ok (by kernel_rfl) (by decide +kernel) ?_ | refine HT.cond ?_ | refine HT.ret ?_ | refine HT.skip ?_ | refine HT.exit ?_ | refine Br.tt ?_ | refine Br.ff ?_); conv => whnf) | ((with_reducible first | refine Br.dec (fun hc => ?_) (fun hc => ?_) | refine Br.eq (fun hc => ?_) (fun hc => ?_) | refine Br.ne (fun hc => ?_) (fun hc => ?_)) <;> (first | (exfalso; omega) | conv => whnf)) | ((with_reducible first | refine Br.ttE (by decide) ?_ | refine Br.ffE (by decide) ?_ | refine Br.mk (fun hc => ?_) (fun hc => ?_) | refine Chk.mk (by first | omega | with_reducible rfl | (refine ⟨rfl, ?_⟩; omega) | decide | exact ⟨rfl, by omega, by omega, rfl⟩ | exact ⟨by assumption, rfl, by omega, by omega⟩) ?_ | refine Ar.fit (by omega) ?_ | refine Eqv.shr1 ?_ | refine Ar.u64 (by omega) ?_) <;> conv => whnf) | ((first | refine CallN.ret1 (hG.bt hb) ?_) <;> conv => whnf) | (with_reducible exact trivial) | ((with_reducible refine And.intro ?_ ?_) <;> conv => whnf) | (intro gn; conv => whnf))
    all_goals exact Fin.pureS (by repeat (first | exact List.Sublist.refl _ | refine List.Sublist.cons_cons _ ?_ | refine List.Sublist.cons _ ?_)) ⟨_, rfl, by omega, fun _ => ⟨_, vo_mem hkl, (hA _).1 hb⟩, fun _ => by omega⟩⟩
theorem containsF_c (vs : List Vo) (v : Vo) (hl : vs.length ≤ 1000000) : SRet Try.prog 61 [vosl vs, agF v] (· = .b (decide (∃ u ∈ vs, sameS u v ∧ u.d ≠ v.d))) := ⟨fun R => by
  refine SCalls.enter tt_ok Try.func61 (by kernel_rfl) rfl [(900, .cust R)] rfl (argF _) (fun w F v k h => h) (by simp) ?_
  repeat' (first | (with_reducible first | refine HT.seq ?_ | refine HT.block ?_ | refine Br.not ?_) | ((with_reducible first | refine HT.region tt_ok ?_ | refine HT.drawn tt_ok (by kernel_rfl) (by decide +kernel) ?_ | refine HT.drawnL tt_ok (by kernel_rfl) (by decide +kernel) ?_ | refine HT.cond ?_ | refine HT.ret ?_ | refine HT.skip ?_ | refine HT.exit ?_ | refine Br.tt ?_ | refine Br.ff ?_); conv => whnf) | ((with_reducible first | refine Br.dec (fun hc => ?_) (fun hc => ?_) | refine Br.eq (fun hc => ?_) (fun hc => ?_) | refine Br.ne (fun hc => ?_) (fun hc => ?_)) <;> (first | (exfalso; omega) | conv => whnf)) | ((with_reducible first | refine Br.ttE (by decide) ?_ | refine Br.ffE (by decide) ?_ | refine Br.mk (fun hc => ?_) (fun hc => ?_) | refine Chk.mk (by first | omega | with_reducible rfl | (refine ⟨rfl, ?_⟩; omega) | decide | exact ⟨rfl, by omega, by omega, rfl⟩ | exact ⟨by assumption, rfl, by omega, by omega⟩) ?_ | refine Ar.fit (by omega) ?_ | refine Eqv.shr1 ?_ | refine Ar.u64 (by omega) ?_) <;> conv => whnf) | ((first | (refine CallN.ret _ (indexF_c vs v hl) ?_; rintro r ⟨z, rfl, hz, hx⟩)) <;> conv => whnf) | (with_reducible exact trivial) | ((with_reducible refine And.intro ?_ ?_) <;> conv => whnf) | (intro gn; conv => whnf))
  all_goals exact Fin.pureS (by repeat (first | exact List.Sublist.refl _ | refine List.Sublist.cons_cons _ ?_ | refine List.Sublist.cons _ ?_)) (sv_b (by rw [Bool.eq_iff_iff, decide_eq_true_eq, decide_eq_true_eq]; exact hx))⟩
/-! ### the map of what was voted for -/
/-- the map holds these votes' digests -/
structure DIs (vs : List Vo) (D : DM) : Prop where
  tidy : Tidy D
  has : ∀ r a, I64 r → I64 a → Maps.has D (kS r a) = decide (∃ u ∈ vs, u.r = r ∧ u.a = a)
  ats : ∀ u ∈ vs, ∀ z, D.atKey (kS u.r u.a) z = .lit (.int .i64 u.d)
  size : Maps.size D = vs.length
theorem okI {v : Vo} (h : okV v = true) : I64 v.r ∧ I64 v.a ∧ I64 v.d := by
  have := okV_iff.1 h
  unfold I64
  omega
theorem DIs.nil : DIs [] (.map []) := ⟨tidy_empty, fun r a _ _ => (by simp [Maps.has]), fun u hu => (by cases hu), rfl⟩
theorem DIs.put {vs : List Vo} {D : DM} {v : Vo} (h : DIs vs D) (ho : ∀ u ∈ vs, okV u = true) (hv : okV v = true) (hn : ∀ u ∈ vs, ¬ sameS u v) : DIs (vs ++ [v]) (D.put (kS v.r v.a) (.lit (.int .i64 v.d))) := by
  obtain ⟨i1, i2, i3⟩ := okI hv
  have hk := kS_key i1 i2
  have hhv : Maps.has D (kS v.r v.a) = false := by
    rw [h.has _ _ i1 i2]
    exact decide_eq_false fun ⟨u, hu, h1, h2⟩ => hn u hu ⟨h1, h2⟩
  refine ⟨h.tidy.put hk _, fun r a hr ha => ?_, fun u hu z => ?_, ?_⟩
  · by_cases e : r = v.r ∧ a = v.a
    · obtain ⟨rfl, rfl⟩ := e
      rw [Maps.has_put_same h.tidy.isMap hk]
      exact (decide_eq_true ⟨v, by simp, rfl, rfl⟩).symm
    · rw [Maps.has_put_other (fun e2 => e (kS_inj hr ha i1 i2 e2)), h.has _ _ hr ha, Bool.eq_iff_iff, decide_eq_true_eq, decide_eq_true_eq]
      constructor
      · rintro ⟨u, hu, h1⟩; exact ⟨u, List.mem_append_left _ hu, h1⟩
      · rintro ⟨u, hu, h1⟩
        rcases List.mem_append.1 hu with hu | hu
        · exact ⟨u, hu, h1⟩
        · rw [List.mem_singleton.1 hu] at h1; exact absurd ⟨h1.1.symm, h1.2.symm⟩ e
  · rcases List.mem_append.1 hu with hu | hu
    · obtain ⟨j1, j2, _⟩ := okI (ho u hu)
      rw [Maps.atKey_put_other (fun e2 => hn u hu (by have := kS_inj j1 j2 i1 i2 e2; exact this)), h.ats u hu]
    · rw [List.mem_singleton.1 hu, Maps.atKey_put_same h.tidy.isMap hk]
  · rw [Maps.size_put h.tidy, hhv, h.size]; simp
/-- a map was made that holds these votes' digests -/
def DigP (vs : List Vo) (n : Nat) (r : SV) (N : List Hp) : Prop := ∃ b D, r = .val (.map (some b)) ∧ N = [.cust (mapH b n D)] ∧ DIs vs D
set_option maxRecDepth 100000 in
set_option maxHeartbeats 1000000 in
theorem digs_c (f : Int) (vs : List Vo) (hs : Srt vs) (ho : ∀ u ∈ vs, okV u = true) (hl : vs.length ≤ 40) : SNew Try.prog 63 [xV f vs] (DigP vs vs.length) := ⟨fun R => by
  refine SCalls.enter tt_ok Try.func63 (by kernel_rfl) rfl [(900, .cust R)] rfl (argF _) (fun w F v k h => h) (by simp) ?_
  repeat' (first | (with_reducible first | refine HT.seq ?_ | refine HT.block ?_ | refine Br.not ?_) | ((with_reducible first | refine HT.region tt_ok ?_ | refine HT.drawn tt_ok (by kernel_rfl) (by decide +kernel) ?_ | refine HT.drawnL tt_ok (by kernel_rfl) (by decide +kernel) ?_ | refine HT.cond ?_ | refine HT.ret ?_ | refine HT.skip ?_ | refine HT.exit ?_ | refine Br.tt ?_ | refine Br.ff ?_); conv => whnf) | ((with_reducible first | refine Br.dec (fun hc => ?_) (fun hc => ?_) | refine Br.eq (fun hc => ?_) (fun hc => ?_) | refine Br.ne (fun hc => ?_) (fun hc => ?_)) <;> (first | (exfalso; omega) | conv => whnf)) | ((with_reducible first | refine Br.ttE (by decide) ?_ | refine Br.ffE (by decide) ?_ | refine Br.mk (fun hc => ?_) (fun hc => ?_) | refine Chk.mk (by first | omega | with_reducible rfl | (refine ⟨rfl, ?_⟩; omega) | decide | exact ⟨rfl, by omega, by omega, rfl⟩ | exact ⟨by assumption, rfl, by omega, by omega⟩) ?_ | refine Ar.fit (by omega) ?_ | refine Eqv.shr1 ?_ | refine Ar.u64 (by omega) ?_) <;> conv => whnf) | ((first | (refine Fgn.mkMap (t := 0) rfl (fun b => ?_))) <;> conv => whnf) | (with_reducible exact trivial) | ((with_reducible refine And.intro ?_ ?_) <;> conv => whnf) | (intro gn; conv => whnf))
  refine HT.loopC [0, 1, 2, 3, 11, 12] (fun x : Nat × DM => [(13, .i x.1)]) (fun x : Nat × DM => [(101, .cust (mapH b x.1 x.2))]) (fun x : Nat × DM => x.1 ≤ vs.length ∧ DIs (vs.take x.1) x.2) (fun x : Nat × DM => vs.length - x.1) (0, .map []) ⟨Nat.zero_le _, DIs.nil⟩ ⟨(by first | with_reducible exact CellLe.refl _ | exact CellLe.own | exact CellLe.i (by omega) | exact CellLe.nil | exact CellLe.slNil | exact CellLe.refl _), trivial⟩ ?_ ?_
  · conv => whnf
    refine PP.start ?_; repeat (first | exact PP.nil | refine PP.take (by first | with_reducible exact Hp.Sub.refl _ | exact Hp.Sub.rd (by omega) | exact Hp.Sub.boxA (by (repeat (first | exact all_lt_zero | refine all_lt_succ (p := fun j => CellLe _ _) (by first | with_reducible exact CellLe.refl _ | exact CellLe.own | exact CellLe.i (by omega) | exact CellLe.nil | exact CellLe.slNil | exact CellLe.refl _) ?_))) | exact Hp.Sub.refl _) ?_ | refine PP.skip ?_)
  conv => whnf
  rintro ⟨k, D⟩ ⟨hk, hD⟩
  dsimp only at hk hD ⊢
  by_cases hkl : k < vs.length
  rotate_left
  · obtain rfl : k = vs.length := by omega
    rw [List.take_length] at hD
    conv => whnf
    repeat' (first | (with_reducible first | refine HT.seq ?_ | refine HT.block ?_ | refine Br.not ?_) | ((with_reducible first | refine HT.region tt_ok ?_ | refine HT.drawn tt_ok (by kernel_rfl) (by decide +kernel) ?_ | refine HT.drawnL tt_ok (by kernel_rfl) (by decide +kernel) ?_ | refine HT.cond ?_ | refine HT.ret ?_ | refine HT.skip ?_ | refine HT.exit ?_ | refine Br.tt ?_ | refine Br.ff ?_); conv => whnf) | ((with_reducible first | refine Br.dec (fun hc => ?_) (fun hc => ?_) | refine Br.eq (fun hc => ?_) (fun hc => ?_) | refine Br.ne (fun hc => ?_) (fun hc => ?_)) <;> (first | (exfalso; omega) | conv => whnf)) | ((with_reducible first | refine Br.ttE (by decide) ?_ | refine Br.ffE (by decide) ?_ | refine Br.mk (fun hc => ?_) (fun hc => ?_) | refine Chk.mk (by first | omega | with_reducible rfl | (refine ⟨rfl, ?_⟩; omega) | decide | exact ⟨rfl, by omega, by omega, rfl⟩ | exact ⟨by assumption, rfl, by omega, by omega⟩) ?_ | refine Ar.fit (by omega) ?_ | refine Eqv.shr1 ?_ | refine Ar.u64 (by omega) ?_) <;> conv => whnf) | (with_reducible exact trivial) | ((with_reducible refine And.intro ?_ ?_) <;> conv => whnf) | (intro gn; conv => whnf))
    all_goals exact Fin.news [_] (fun _ => 0) (by refine PP.start ?_; repeat (first | exact PP.nil | refine PP.take (by first | with_reducible exact Hp.Sub.refl _ | exact Hp.Sub.rd (by omega) | exact Hp.Sub.boxA (by (repeat (first | exact all_lt_zero | refine all_lt_succ (p := fun j => CellLe _ _) (by first | with_reducible exact CellLe.refl _ | exact CellLe.own | exact CellLe.i (by omega) | exact CellLe.nil | exact CellLe.slNil | exact CellLe.refl _) ?_))) | exact Hp.Sub.refl _) ?_ | refine PP.skip ?_)) ⟨b, D, rfl, rfl, hD⟩
  have hI := okI (ho _ (vo_mem hkl))
  have hI2 : I64 (vs.getD ((k : Int)).toNat default).r ∧ I64 (vs.getD ((k : Int)).toNat default).a ∧ I64 (vs.getD ((k : Int)).toNat default).d := by rw [Int.toNat_natCast]; exact hI
  have hD2 := hD.put (v := vo vs k) (fun u hu => ho u (List.mem_of_mem_take hu)) (ho _ (vo_mem hkl)) (fun u hu hsm => by
    obtain ⟨i, hi, rfl⟩ := List.getElem_of_mem hu
    have hik : i < k := by simp at hi; omega
    rw [List.getElem_take, ← vo_eq (by omega)] at hsm
    exact not_same (hs.get hik hkl) hsm)
  rw [show vs.take k ++ [vo vs k] = vs.take (k + 1) by rw [vo_eq hkl]; exact (List.take_succ_eq_append_getElem hkl).symm] at hD2
  conv => whnf
  repeat' (first | (with_reducible first | refine HT.seq ?_ | refine HT.block ?_ | refine Br.not ?_) | ((with_reducible first | refine HT.region tt_ok ?_ | refine HT.drawn tt_ok (by kernel_rfl) (by decide +kernel) ?_ | refine HT.drawnL tt_ok (by kernel_rfl) (by decide +kernel) ?_ | refine HT.cond ?_ | refine HT.ret ?_ | refine HT.skip ?_ | refine HT.exit ?_ | refine Br.tt ?_ | refine Br.ff ?_); conv => whnf) | ((with_reducible first | refine Br.dec (fun hc => ?_) (fun hc => ?_) | refine Br.eq (fun hc => ?_) (fun hc => ?_) | refine Br.ne (fun hc => ?_) (fun hc => ?_)) <;> (first | (exfalso; omega) | conv => whnf)) | ((with_reducible first | refine Br.ttE (by decide) ?_ | refine Br.ffE (by decide) ?_ | refine Br.mk (fun hc => ?_) (fun hc => ?_) | refine Chk.mk (by first | omega | with_reducible rfl | (refine ⟨rfl, ?_⟩; omega) | decide | exact ⟨rfl, by omega, by omega, rfl⟩ | exact ⟨by assumption, rfl, by omega, by omega⟩) ?_ | refine Ar.fit (by omega) ?_ | refine Eqv.shr1 ?_ | refine Ar.u64 (by omega) ?_) <;> conv => whnf) | ((first | refine CallN.ret1 (subj_c _ _ _) ?_ | (refine Fgn.upd (i := 101) rfl rfl rfl rfl hI2.1 hI2.2.1 hI2.2.2 (by omega) ?_)) <;> conv => whnf) | (with_reducible exact trivial) | ((with_reducible refine And.intro ?_ ?_) <;> conv => whnf) | (intro gn; conv => whnf))
  all_goals (try simp only [Int.toNat_natCast] at *)
  all_goals exact ⟨⟨(k + 1, _), ⟨by dsimp only; omega, hD2⟩, by dsimp only; omega, (by repeat' (first | exact trivial | refine ⟨rfl, ?_⟩)), ⟨(by first | with_reducible exact CellLe.refl _ | exact CellLe.own | exact CellLe.i (by omega) | exact CellLe.nil | exact CellLe.slNil | exact CellLe.refl _), trivial⟩, HLe.pk (by (conv => whnf); (refine PP.start ?_; repeat (first | exact PP.nil | refine PP.take (by first | with_reducible exact Hp.Sub.refl _ | exact Hp.Sub.rd (by omega) | exact Hp.Sub.boxA (by (repeat (first | exact all_lt_zero | refine all_lt_succ (p := fun j => CellLe _ _) (by first | with_reducible exact CellLe.refl _ | exact CellLe.own | exact CellLe.i (by omega) | exact CellLe.nil | exact CellLe.slNil | exact CellLe.refl _) ?_))) | exact Hp.Sub.refl _) ?_ | refine PP.skip ?_)))⟩⟩⟩
end Go.Proofs.Ytbcmpfhemangpaa
