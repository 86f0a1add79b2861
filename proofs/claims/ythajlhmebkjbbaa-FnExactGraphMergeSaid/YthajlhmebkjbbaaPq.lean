/- What a vertex depends on: the reference's side; GraphPast on both sides. -/
import Derived.Test.YthajlhmebkjbbaaPs
set_option linter.all false
namespace Go.Proofs.Ythajlhmebkjbbaa
open Go.RowKit

/-- the reference's marks: all vertices from m on that are marked have their parents marked -/
structure LpO (vs : List Vx) (s : Nat) (R : List Bool) (m : Nat) : Prop where
  len : R.length = vs.length
  st : rg R s = true
  anc : ∀ i, rg R i = true → Anc vs s i
  cl : ∀ i, rg R i = true → i < m ∨ ∀ j', j' < (vg vs i).ps.length → rg R (pix vs i j') = true
/-- the same with j parents of vertex m under way -/
structure LpI (vs : List Vx) (s : Nat) (R : List Bool) (m j : Nat) : Prop where
  len : R.length = vs.length
  st : rg R s = true
  anc : ∀ i, rg R i = true → Anc vs s i
  cl : ∀ i, rg R i = true → i < m ∨ (i = m ∧ ∀ j', j' < j → rg R (pix vs m j') = true) ∨ ∀ j', j' < (vg vs i).ps.length → rg R (pix vs i j') = true
theorem LpO.start {vs : List Vx} {s : Nat} (hs : s < vs.length) : LpO vs s ((List.replicate vs.length false).set s true) (s + 1) := by
  have h := PsO.start hs
  refine ⟨h.len, h.st, h.anc, fun i hi => .inl ?_⟩
  have hl : s < (List.replicate vs.length false).length := by simpa using hs
  rw [rg_set hl] at hi
  by_cases e : i = s
  · omega
  · rw [if_neg e, rg_rep] at hi; cases hi
theorem LpO.open {vs : List Vx} {s : Nat} {R : List Bool} {m : Nat} (h : LpO vs s R (m + 1)) : LpI vs s R m 0 :=
  ⟨h.len, h.st, h.anc, fun i hi => by
    rcases h.cl i hi with h1 | h1
    · rcases Nat.lt_succ_iff_lt_or_eq.1 h1 with h2 | h2
      · exact .inl h2
      · exact .inr (.inl ⟨h2, fun j' hj => absurd hj (by omega)⟩)
    · exact .inr (.inr h1)⟩
theorem LpI.next {vs : List Vx} {s : Nat} {R : List Bool} {m j : Nat} (h : LpI vs s R m j) (hm : rg R m = true) (hj : j < (vg vs m).ps.length) (hp : pix vs m j < m) : LpI vs s (R.set (pix vs m j) true) m (j + 1) ∧ rg (R.set (pix vs m j) true) m = true := by
  have hp' : pix vs m j < R.length := by have := rg_lt hm; omega
  have up : ∀ i, rg R i = true → rg (R.set (pix vs m j) true) i = true := fun i hi => by rw [rg_set hp']; split <;> first | rfl | exact hi
  have self : rg (R.set (pix vs m j) true) (pix vs m j) = true := by rw [rg_set hp', if_pos rfl]
  refine ⟨⟨by rw [List.length_set]; exact h.len, up _ h.st, fun i hi => ?_, fun i hi => ?_⟩, up _ hm⟩
  · rw [rg_set hp'] at hi
    by_cases e : i = pix vs m j
    · rw [e]; exact .step (h.anc m hm) hj
    · rw [if_neg e] at hi; exact h.anc i hi
  · by_cases e2 : i = pix vs m j
    · exact .inl (by rw [e2]; exact hp)
    · rw [rg_set hp', if_neg e2] at hi
      rcases h.cl i hi with h1 | ⟨h1, h2⟩ | h1
      · exact .inl h1
      · exact .inr (.inl ⟨h1, all_lt_succ self fun j' hj' => up _ (h2 j' hj')⟩)
      · exact .inr (.inr fun j' hj' => up _ (h1 j' hj'))
theorem LpI.done {vs : List Vx} {s : Nat} {R : List Bool} {m : Nat} (h : LpI vs s R m (vg vs m).ps.length) : LpO vs s R m :=
  ⟨h.len, h.st, h.anc, fun i hi => by
    rcases h.cl i hi with h1 | ⟨rfl, h2⟩ | h1
    · exact .inl h1
    · exact .inr h2
    · exact .inr h1⟩
theorem LpI.off {vs : List Vx} {s : Nat} {R : List Bool} {m j : Nat} (h : LpI vs s R m j) (hm : rg R m = false) : LpO vs s R m :=
  ⟨h.len, h.st, h.anc, fun i hi => by
    rcases h.cl i hi with h1 | ⟨rfl, h2⟩ | h1
    · exact .inl h1
    · rw [hm] at hi; cases hi
    · exact .inr h1⟩
theorem LpO.cor {c : List Int} {vs : List Vx} {s : Nat} {R : List Bool} (hg : GoodN c vs vs.length) (hs : s < vs.length) (h : LpO vs s R 0) : Cor vs s R :=
  Cor.of hg hs h.len h.st (fun i hi j hj => by
    rcases h.cl i hi with h1 | h1
    · omega
    · exact h1 j hj) h.anc
/-- marks were made -/
def MadeB (P : List Bool → Prop) (e : TypeId) (r : SV) (N : List Hp) : Prop :=
  ∃ l A n c, P l ∧ n = l.length ∧ r = .own 0 (.slice A n c) ∧ N = [.row (.slice A n c) e 1 l.length (rowF boolF l)]
theorem MadeB.free {P : List Bool → Prop} {e : TypeId} {r : SV} {N : List Hp} (h : MadeB P e r N) : r.free ∧ ∀ p ∈ N, p.free := by
  obtain ⟨l, A, n, c, _, _, rfl, rfl⟩ := h
  exact ⟨trivial, fun p hp => by rw [List.mem_singleton.1 hp]; exact fun i k hi hk => trivial⟩
theorem SNew.stillBo {Pr : Program} {f : FuncId} {ss : List SV} {P : List Bool → Prop} {e : TypeId} (h : SNew Pr f ss (MadeB P e)) : SRet Pr f ss fun r => ∃ l, P l ∧ r = bsl l :=
  h.frozen fun r N ⟨l, A, n, c, hP, _, hr, hN⟩ => by
    subst hr hN
    exact ⟨_, ⟨l, hP, rfl⟩, fun R => Ent.row fun w F x hv hx => by have e : x = _ := hx; subst e; exact hv⟩
theorem rep_bool1 {n i j : Nat} (hj : j < 1) : zF [.bool false] j = rowF boolF (List.replicate n false) i j := by
  obtain rfl : j = 0 := by omega
  exact rep_bool
theorem l11PastN_o (vs : List Vx) (hv : vs.length ≤ 10000000) : SNew Try.prog 37 [vsl vs, .i (-1)] (MadeB (· = List.replicate vs.length false) 4) := ⟨fun R => by
  refine SCalls.enter tt_ok Try.func37 (by kernel_rfl) rfl [(900, .cust R)] rfl (argF _) (fun w F v k h => h) (by simp) ?_
  repeat' (first | (with_reducible first | refine HT.seq ?_ | refine HT.block ?_ | refine Br.not ?_) | ((with_reducible first | refine HT.region tt_ok ?_ | refine HT.drawn tt_ok (by kernel_rfl) (by decide +kernel) ?_ | refine HT.drawnL tt_ok (by kernel_rfl) (by decide +kernel) ?_ | refine HT.cond ?_ | refine HT.ret ?_ | refine HT.skip ?_ | refine HT.exit ?_ | refine Br.tt ?_ | refine Br.ff ?_); conv => whnf) | ((with_reducible first | refine Br.dec (fun hc => ?_) (fun hc => ?_) | refine Br.eq (fun hc => ?_) (fun hc => ?_) | refine Br.ne (fun hc => ?_) (fun hc => ?_)) <;> (first | (exfalso; omega) | conv => whnf)) | ((with_reducible first | refine Br.ttE (by decide) ?_ | refine Br.ffE (by decide) ?_ | refine Br.mk (fun hc => ?_) (fun hc => ?_) | refine Chk.mk (by first | omega | with_reducible rfl | (refine ⟨rfl, ?_⟩; omega) | decide | exact ⟨rfl, by omega, by omega, rfl⟩ | exact ⟨by assumption, rfl, by omega, by omega⟩) ?_ | refine Ar.fit (by omega) ?_ | refine Eqv.shr1 ?_ | refine Ar.u64 (by omega) ?_) <;> conv => whnf) | (with_reducible exact trivial) | ((with_reducible refine And.intro ?_ ?_) <;> conv => whnf) | (intro gn; conv => whnf))
  exact Fin.news [_] (fun _ => 0) (by refine PP.start ?_; repeat (first | exact PP.nil | refine PP.take (by first | with_reducible exact Hp.Sub.refl _ | exact Hp.Sub.rd (by omega) | exact Hp.Sub.rowA (by first | (simp; done) | (simp; omega)) (fun i j hi hj => rep_bool1 hj) | exact Hp.Sub.boxA (by (repeat (first | exact all_lt_zero | refine all_lt_succ (p := fun j => CellLe _ _) (by first | with_reducible exact CellLe.refl _ | exact CellLe.own | exact CellLe.i (by omega) | exact CellLe.nil | exact CellLe.slNil | exact CellLe.refl _) ?_))) | exact Hp.Sub.refl _) ?_ | refine PP.skip ?_)) ⟨List.replicate vs.length false, _, _, _, rfl, (by first | (simp; done) | (simp; omega)), rfl, rfl⟩⟩
set_option maxRecDepth 100000 in
set_option maxHeartbeats 1000000 in
theorem l11PastS_o (c : List Int) (vs : List Vx) (s : Nat) (hcm : cmOk c = true) (hg : GoodN c vs vs.length) (hs : s < vs.length) (hv : vs.length ≤ 10000000) : SNew Try.prog 37 [vsl vs, .i s] (MadeB (Cor vs s) 4) := ⟨fun R => by
  refine SCalls.enter tt_ok Try.func37 (by kernel_rfl) rfl [(900, .cust R)] rfl (argF _) (fun w F v k h => h) (by simp) ?_
  repeat' (first | (with_reducible first | refine HT.seq ?_ | refine HT.block ?_ | refine Br.not ?_) | ((with_reducible first | refine HT.region tt_ok ?_ | refine HT.drawn tt_ok (by kernel_rfl) (by decide +kernel) ?_ | refine HT.drawnL tt_ok (by kernel_rfl) (by decide +kernel) ?_ | refine HT.cond ?_ | refine HT.ret ?_ | refine HT.skip ?_ | refine HT.exit ?_ | refine Br.tt ?_ | refine Br.ff ?_); conv => whnf) | ((with_reducible first | refine Br.dec (fun hc => ?_) (fun hc => ?_) | refine Br.eq (fun hc => ?_) (fun hc => ?_) | refine Br.ne (fun hc => ?_) (fun hc => ?_)) <;> (first | (exfalso; omega) | conv => whnf)) | ((with_reducible first | refine Br.ttE (by decide) ?_ | refine Br.ffE (by decide) ?_ | refine Br.mk (fun hc => ?_) (fun hc => ?_) | refine Chk.mk (by first | omega | with_reducible rfl | (refine ⟨rfl, ?_⟩; omega) | decide | exact ⟨rfl, by omega, by omega, rfl⟩ | exact ⟨by assumption, rfl, by omega, by omega⟩) ?_ | refine Ar.fit (by omega) ?_ | refine Eqv.shr1 ?_ | refine Ar.u64 (by omega) ?_) <;> conv => whnf) | (with_reducible exact trivial) | ((with_reducible refine And.intro ?_ ?_) <;> conv => whnf) | (intro gn; conv => whnf))
  refine HT.loopC [0, 1, 4, 5, 12] (fun x : Nat × List Bool => [(6, .i ((x.1 : Int) - 1))]) (fun x : Nat × List Bool => [(100, .cells (rowF boolF x.2))]) (fun x : Nat × List Bool => LpO vs s x.2 x.1 ∧ x.1 ≤ s + 1) (fun x : Nat × List Bool => x.1) (s + 1, (List.replicate vs.length false).set s true) ⟨LpO.start hs, Nat.le_refl _⟩ ⟨(by first | with_reducible exact CellLe.refl _ | exact CellLe.own | exact CellLe.i (by omega) | exact CellLe.nil | exact CellLe.slNil | exact CellLe.refl _), trivial⟩ ?_ ?_
  · conv => whnf
    refine PP.start ?_; repeat (first | exact PP.nil | refine PP.take (by first | with_reducible exact Hp.Sub.refl _ | exact Hp.Sub.rd (by omega) | exact Hp.Sub.rowA rfl (fun i j hi hj => start_bool (Int.toNat_natCast _) hs rfl hj) | exact Hp.Sub.boxA (by (repeat (first | exact all_lt_zero | refine all_lt_succ (p := fun j => CellLe _ _) (by first | with_reducible exact CellLe.refl _ | exact CellLe.own | exact CellLe.i (by omega) | exact CellLe.nil | exact CellLe.slNil | exact CellLe.refl _) ?_))) | exact Hp.Sub.refl _) ?_ | refine PP.skip ?_)
  conv => whnf
  rintro ⟨m, R1⟩ ⟨hP, hm⟩
  dsimp only at hP hm ⊢
  have hlen := hP.len
  cases m with
  | zero =>
    have hcor := hP.cor hg hs
    conv => whnf
    repeat' (first | (with_reducible first | refine HT.seq ?_ | refine HT.block ?_ | refine Br.not ?_) | ((with_reducible first | refine HT.region tt_ok ?_ | refine HT.drawn tt_ok (by kernel_rfl) (by decide +kernel) ?_ | refine HT.drawnL tt_ok (by kernel_rfl) (by decide +kernel) ?_ | refine HT.cond ?_ | refine HT.ret ?_ | refine HT.skip ?_ | refine HT.exit ?_ | refine Br.tt ?_ | refine Br.ff ?_); conv => whnf) | ((with_reducible first | refine Br.dec (fun hc => ?_) (fun hc => ?_) | refine Br.eq (fun hc => ?_) (fun hc => ?_) | refine Br.ne (fun hc => ?_) (fun hc => ?_)) <;> (first | (exfalso; omega) | conv => whnf)) | ((with_reducible first | refine Br.ttE (by decide) ?_ | refine Br.ffE (by decide) ?_ | refine Br.mk (fun hc => ?_) (fun hc => ?_) | refine Chk.mk (by first | omega | with_reducible rfl | (refine ⟨rfl, ?_⟩; omega) | decide | exact ⟨rfl, by omega, by omega, rfl⟩ | exact ⟨by assumption, rfl, by omega, by omega⟩) ?_ | refine Ar.fit (by omega) ?_ | refine Eqv.shr1 ?_ | refine Ar.u64 (by omega) ?_) <;> conv => whnf) | (with_reducible exact trivial) | ((with_reducible refine And.intro ?_ ?_) <;> conv => whnf) | (intro gn; conv => whnf))
    exact Fin.news [_] (fun _ => 0) (by refine PP.start ?_; repeat (first | exact PP.nil | refine PP.take (by first | with_reducible exact Hp.Sub.refl _ | exact Hp.Sub.rd (by omega) | exact Hp.Sub.rowA (by first | (simp; done) | (simp; omega)) (fun i j hi hj => rfl) | exact Hp.Sub.boxA (by (repeat (first | exact all_lt_zero | refine all_lt_succ (p := fun j => CellLe _ _) (by first | with_reducible exact CellLe.refl _ | exact CellLe.own | exact CellLe.i (by omega) | exact CellLe.nil | exact CellLe.slNil | exact CellLe.refl _) ?_))) | exact Hp.Sub.refl _) ?_ | refine PP.skip ?_)) ⟨R1, _, _, _, hcor, (by first | (simp; done) | (simp; omega)), rfl, rfl⟩
  | succ m =>
    refine HT.slots [(6, .i m)] (fun w F => ⟨fun x hx => LeW.of_eq (sv_i (by omega)) x hx, trivial⟩) ?_
    have hml : m < vs.length := by omega
    have hI0 := hP.open
    have hpl : (vg vs m).ps.length ≤ 7 := by
      have h1 := ms_len (vxOk_iff (st_parts (hg m hml)).1).2.2.1
      have h2 := (cmOk_iff.1 hcm).1
      omega
    have hbd := vxOk_iff (st_parts (hg m hml)).1
    have hpe : (vs.getD ((m : Int)).toNat default).ps.length = (vg vs m).ps.length := by rw [Int.toNat_natCast]
    have hre : (vs.getD ((m : Int)).toNat default).r = (vg vs m).r := by rw [Int.toNat_natCast]
    conv => whnf
    repeat' (first | (with_reducible first | refine HT.seq ?_ | refine HT.block ?_ | refine Br.not ?_) | ((with_reducible first | refine HT.region tt_ok ?_ | refine HT.drawn tt_ok (by kernel_rfl) (by decide +kernel) ?_ | refine HT.drawnL tt_ok (by kernel_rfl) (by decide +kernel) ?_ | refine HT.cond ?_ | refine HT.ret ?_ | refine HT.skip ?_ | refine HT.exit ?_ | refine Br.tt ?_ | refine Br.ff ?_); conv => whnf) | ((with_reducible first | refine Br.dec (fun hc => ?_) (fun hc => ?_) | refine Br.eq (fun hc => ?_) (fun hc => ?_) | refine Br.ne (fun hc => ?_) (fun hc => ?_)) <;> (first | (exfalso; omega) | conv => whnf)) | ((with_reducible first | refine Br.ttE (by decide) ?_ | refine Br.ffE (by decide) ?_ | refine Br.mk (fun hc => ?_) (fun hc => ?_) | refine Chk.mk (by first | omega | with_reducible rfl | (refine ⟨rfl, ?_⟩; omega) | decide | exact ⟨rfl, by omega, by omega, rfl⟩ | exact ⟨by assumption, rfl, by omega, by omega⟩) ?_ | refine Ar.fit (by omega) ?_ | refine Eqv.shr1 ?_ | refine Ar.u64 (by omega) ?_) <;> conv => whnf) | (with_reducible exact trivial) | ((with_reducible refine And.intro ?_ ?_) <;> conv => whnf) | (intro gn; conv => whnf))
    refine HT.loopC [0, 1, 4, 5, 6, 12, 19] (fun x : Nat × List Bool => [(7, .i x.1)]) (fun x : Nat × List Bool => [(100, .cells (rowF boolF x.2))]) (fun x : Nat × List Bool => LpI vs s x.2 m x.1 ∧ x.1 ≤ (vg vs m).ps.length) (fun x : Nat × List Bool => (vg vs m).ps.length - x.1) (0, R1) ⟨hI0, Nat.zero_le _⟩ ⟨(by first | with_reducible exact CellLe.refl _ | exact CellLe.own | exact CellLe.i (by omega) | exact CellLe.nil | exact CellLe.slNil | exact CellLe.refl _), trivial⟩ ?_ ?_
    · conv => whnf
      refine PP.start ?_; repeat (first | exact PP.nil | refine PP.take (by first | with_reducible exact Hp.Sub.refl _ | exact Hp.Sub.rd (by omega) | exact Hp.Sub.boxA (by (repeat (first | exact all_lt_zero | refine all_lt_succ (p := fun j => CellLe _ _) (by first | with_reducible exact CellLe.refl _ | exact CellLe.own | exact CellLe.i (by omega) | exact CellLe.nil | exact CellLe.slNil | exact CellLe.refl _) ?_))) | exact Hp.Sub.refl _) ?_ | refine PP.skip ?_)
    conv => whnf
    rintro ⟨j, R2⟩ ⟨hI, hj⟩
    dsimp only at hI hj ⊢
    have hlen2 := hI.len
    by_cases hjl : j < (vg vs m).ps.length
    rotate_left
    · obtain rfl : j = (vg vs m).ps.length := by omega
      conv => whnf
      repeat' (first | (with_reducible first | refine HT.seq ?_ | refine HT.block ?_ | refine Br.not ?_) | ((with_reducible first | refine HT.region tt_ok ?_ | refine HT.drawn tt_ok (by kernel_rfl) (by decide +kernel) ?_ | refine HT.drawnL tt_ok (by kernel_rfl) (by decide +kernel) ?_ | refine HT.cond ?_ | refine HT.ret ?_ | refine HT.skip ?_ | refine HT.exit ?_ | refine Br.tt ?_ | refine Br.ff ?_); conv => whnf) | ((with_reducible first | refine Br.dec (fun hc => ?_) (fun hc => ?_) | refine Br.eq (fun hc => ?_) (fun hc => ?_) | refine Br.ne (fun hc => ?_) (fun hc => ?_)) <;> (first | (exfalso; omega) | conv => whnf)) | ((with_reducible first | refine Br.ttE (by decide) ?_ | refine Br.ffE (by decide) ?_ | refine Br.mk (fun hc => ?_) (fun hc => ?_) | refine Chk.mk (by first | omega | with_reducible rfl | (refine ⟨rfl, ?_⟩; omega) | decide | exact ⟨rfl, by omega, by omega, rfl⟩ | exact ⟨by assumption, rfl, by omega, by omega⟩) ?_ | refine Ar.fit (by omega) ?_ | refine Eqv.shr1 ?_ | refine Ar.u64 (by omega) ?_) <;> conv => whnf) | (with_reducible exact trivial) | ((with_reducible refine And.intro ?_ ?_) <;> conv => whnf) | (intro gn; conv => whnf))
      all_goals all_goals (try simp only [Int.toNat_natCast] at *)
      all_goals first
        | (exfalso; omega)
        | skip
      exact ⟨⟨(m, R2), ⟨hI.done, by omega⟩, by dsimp only; omega, (by repeat' (first | exact trivial | refine ⟨rfl, ?_⟩)), ⟨(by first | with_reducible exact CellLe.refl _ | exact CellLe.own | exact CellLe.i (by omega) | exact CellLe.nil | exact CellLe.slNil | exact CellLe.refl _), trivial⟩, HLe.pk (by
        conv => whnf
        refine PP.start ?_; repeat (first | exact PP.nil | refine PP.take (by first | with_reducible exact Hp.Sub.refl _ | exact Hp.Sub.rd (by omega) | exact Hp.Sub.boxA (by (repeat (first | exact all_lt_zero | refine all_lt_succ (p := fun j => CellLe _ _) (by first | with_reducible exact CellLe.refl _ | exact CellLe.own | exact CellLe.i (by omega) | exact CellLe.nil | exact CellLe.slNil | exact CellLe.refl _) ?_))) | exact Hp.Sub.refl _) ?_ | refine PP.skip ?_))⟩⟩
    have hpx := (hg.pix hml (Nat.le_refl _) hjl).2
    have hF : SRet Try.prog 38 [vsl vs, .i ((vs.getD ((m : Int)).toNat default).r - 1), .i ((vs.getD ((m : Int)).toNat default).ps.getD ((j : Int)).toNat default)] (· = .i (pix vs m j)) := by
      have hF := l11Find_c vs ((vg vs m).r - 1) ((vg vs m).ps.getD j default) hv
      rw [fdI_some (hg.pix hml (Nat.le_refl _) hjl).1] at hF
      rw [Int.toNat_natCast, Int.toNat_natCast]
      exact hF
    conv => whnf
    repeat' (first | (with_reducible first | refine HT.seq ?_ | refine HT.block ?_ | refine Br.not ?_) | ((with_reducible first | refine HT.region tt_ok ?_ | refine HT.drawn tt_ok (by kernel_rfl) (by decide +kernel) ?_ | refine HT.drawnL tt_ok (by kernel_rfl) (by decide +kernel) ?_ | refine HT.cond ?_ | refine HT.ret ?_ | refine HT.skip ?_ | refine HT.exit ?_ | refine Br.tt ?_ | refine Br.ff ?_); conv => whnf) | ((with_reducible first | refine Br.dec (fun hc => ?_) (fun hc => ?_) | refine Br.eq (fun hc => ?_) (fun hc => ?_) | refine Br.ne (fun hc => ?_) (fun hc => ?_)) <;> (first | (exfalso; omega) | conv => whnf)) | ((with_reducible first | refine Br.ttE (by decide) ?_ | refine Br.ffE (by decide) ?_ | refine Br.mk (fun hc => ?_) (fun hc => ?_) | refine Chk.mk (by first | omega | with_reducible rfl | (refine ⟨rfl, ?_⟩; omega) | decide | exact ⟨rfl, by omega, by omega, rfl⟩ | exact ⟨by assumption, rfl, by omega, by omega⟩) ?_ | refine Ar.fit (by omega) ?_ | refine Eqv.shr1 ?_ | refine Ar.u64 (by omega) ?_) <;> conv => whnf) | ((first | refine CallN.ret1 (hF) ?_) <;> conv => whnf) | (with_reducible exact trivial) | ((with_reducible refine And.intro ?_ ?_) <;> conv => whnf) | (intro gn; conv => whnf))
    all_goals all_goals (try simp only [Int.toNat_natCast] at *)
    · obtain ⟨hN, hup⟩ := hI.next (by assumption) hjl hpx
      exact ⟨⟨(j + 1, R2.set (pix vs m j) true), ⟨hN, by dsimp only; omega⟩, by dsimp only; omega, (by repeat' (first | exact trivial | refine ⟨rfl, ?_⟩)), ⟨(by first | with_reducible exact CellLe.refl _ | exact CellLe.own | exact CellLe.i (by omega) | exact CellLe.nil | exact CellLe.slNil | exact CellLe.refl _), trivial⟩, HLe.pk (by
        conv => whnf
        refine PP.start ?_; repeat (first | exact PP.nil | refine PP.take (by first | with_reducible exact Hp.Sub.refl _ | exact Hp.Sub.rd (by omega) | exact Hp.Sub.rowA rfl (fun i j hi hj => put_bool (by omega) rfl hj) | exact Hp.Sub.boxA (by (repeat (first | exact all_lt_zero | refine all_lt_succ (p := fun j => CellLe _ _) (by first | with_reducible exact CellLe.refl _ | exact CellLe.own | exact CellLe.i (by omega) | exact CellLe.nil | exact CellLe.slNil | exact CellLe.refl _) ?_))) | exact Hp.Sub.refl _) ?_ | refine PP.skip ?_))⟩⟩
    · exact ⟨⟨(m, R2), ⟨hI.off (by assumption), by omega⟩, by dsimp only; omega, (by repeat' (first | exact trivial | refine ⟨rfl, ?_⟩)), ⟨(by first | with_reducible exact CellLe.refl _ | exact CellLe.own | exact CellLe.i (by omega) | exact CellLe.nil | exact CellLe.slNil | exact CellLe.refl _), trivial⟩, HLe.pk (by
        conv => whnf
        refine PP.start ?_; repeat (first | exact PP.nil | refine PP.take (by first | with_reducible exact Hp.Sub.refl _ | exact Hp.Sub.rd (by omega) | exact Hp.Sub.boxA (by (repeat (first | exact all_lt_zero | refine all_lt_succ (p := fun j => CellLe _ _) (by first | with_reducible exact CellLe.refl _ | exact CellLe.own | exact CellLe.i (by omega) | exact CellLe.nil | exact CellLe.slNil | exact CellLe.refl _) ?_))) | exact Hp.Sub.refl _) ?_ | refine PP.skip ?_))⟩⟩⟩
/-- what GraphPast gives -/
def GpP (c : List Int) (vs : List Vx) (r a : Int) (l : List Int) : Prop :=
  (∃ s R, grOk c vs = true ∧ fdV vs r a = some s ∧ Cor vs s R ∧ l = idxTo R vs.length) ∨ (l = [] ∧ (grOk c vs = false ∨ fdV vs r a = none))
theorem GpP.uniq {c : List Int} {vs : List Vx} {r a : Int} {l l' : List Int} (h : GpP c vs r a l) (h' : GpP c vs r a l') : l = l' := by
  rcases h with ⟨s, R, h1, h2, h3, rfl⟩ | ⟨rfl, h1⟩
  · rcases h' with ⟨s', R', g1, g2, g3, rfl⟩ | ⟨rfl, g1⟩
    · rw [h2] at g2
      injection g2 with g2
      subst g2
      rw [h3.uniq g3]
    · rw [h1, h2] at g1
      rcases g1 with g1 | g1 <;> cases g1
  · rcases h' with ⟨s', R', g1, g2, g3, rfl⟩ | ⟨rfl, g1⟩
    · rw [g1, g2] at h1
      rcases h1 with h1 | h1 <;> cases h1
    · rfl
theorem GpP.len {c : List Int} {vs : List Vx} {r a : Int} {l : List Int} (h : GpP c vs r a l) : l.length ≤ vs.length := by
  rcases h with ⟨s, R, h1, h2, h3, rfl⟩ | ⟨rfl, h1⟩
  · exact idx_len
  · exact Nat.zero_le _
theorem idx_rep {n : Nat} : ∀ {k : Nat}, idxTo (List.replicate n false) k = []
  | 0 => rfl
  | k + 1 => by rw [idx0 rg_rep, idx_rep]
set_option maxRecDepth 100000 in
theorem implGP_o (c : List Int) (vs : List Vx) (r a : Int) (hl : c.length ≤ 10000000) (hv : vs.length ≤ 10000000) (hp : ∀ v ∈ vs, v.ps.length ≤ 10000000) : SNew Try.prog 15 [isl c, vsl vs, .i r, .i a] (MadeL (GpP c vs r a) 3) := ⟨fun R => by
  refine SCalls.enter tt_ok Try.func15 (by kernel_rfl) rfl [(900, .cust R)] rfl (argF _) (fun w F v k h => h) (by simp) ?_
  repeat' (first | (with_reducible first | refine HT.seq ?_ | refine HT.block ?_ | refine Br.not ?_) | ((with_reducible first | refine HT.region tt_ok ?_ | refine HT.drawn tt_ok (by kernel_rfl) (by decide +kernel) ?_ | refine HT.drawnL tt_ok (by kernel_rfl) (by decide +kernel) ?_ | refine HT.cond ?_ | refine HT.ret ?_ | refine HT.skip ?_ | refine HT.exit ?_ | refine Br.tt ?_ | refine Br.ff ?_); conv => whnf) | ((with_reducible first | refine Br.dec (fun hc => ?_) (fun hc => ?_) | refine Br.eq (fun hc => ?_) (fun hc => ?_) | refine Br.ne (fun hc => ?_) (fun hc => ?_)) <;> (first | (exfalso; omega) | conv => whnf)) | ((with_reducible first | refine Br.ttE (by decide) ?_ | refine Br.ffE (by decide) ?_ | refine Br.mk (fun hc => ?_) (fun hc => ?_) | refine Chk.mk (by first | omega | with_reducible rfl | (refine ⟨rfl, ?_⟩; omega) | decide | exact ⟨rfl, by omega, by omega, rfl⟩ | exact ⟨by assumption, rfl, by omega, by omega⟩) ?_ | refine Ar.fit (by omega) ?_ | refine Eqv.shr1 ?_ | refine Ar.u64 (by omega) ?_) <;> conv => whnf) | ((first | (refine CallN.ret _ (linkGraph_c c vs hl hv hp) ?_; rintro r (⟨hok, rfl⟩ | ⟨hok, rfl⟩)) | (refine CallN.ret _ (atF_c c vs _ _ _ (grOk_iff.1 hok).1 (grOk_iff.1 hok).2) ?_; rintro r' (⟨i, hi, rfl⟩ | ⟨hi, rfl⟩)) | (refine CallN.new _ (past_o c vs i (grOk_iff.1 hok).1 (grOk_iff.1 hok).2 (fd_some hi).1 hv) ?_; rintro r' N ⟨l, A, n, cp, ⟨R1, hR1, rfl⟩, hn, rfl, rfl⟩)) <;> conv => whnf) | (with_reducible exact trivial) | ((with_reducible refine And.intro ?_ ?_) <;> conv => whnf) | (intro gn; conv => whnf))
  · exact Fin.news [_] (fun _ => 0) (by refine PP.start ?_; repeat (first | exact PP.nil | refine PP.take (by first | with_reducible exact Hp.Sub.refl _ | exact Hp.Sub.rd (by omega) | exact Hp.Sub.rowA (by first | rfl | simp) (fun i j hi hj => rfl) | exact Hp.Sub.boxA (by (repeat (first | exact all_lt_zero | refine all_lt_succ (p := fun j => CellLe _ _) (by first | with_reducible exact CellLe.refl _ | exact CellLe.own | exact CellLe.i (by omega) | exact CellLe.nil | exact CellLe.slNil | exact CellLe.refl _) ?_))) | exact Hp.Sub.refl _) ?_ | refine PP.skip ?_)) ⟨idxTo R1 vs.length, _, _, _, (by exact .inl ⟨i, R1, hok, hi, hR1, rfl⟩), (by first | rfl | omega | (simp <;> omega)), rfl, rfl⟩
  · exact Fin.news [_] (fun _ => 0) (by refine PP.start ?_; repeat (first | exact PP.nil | refine PP.take (by first | with_reducible exact Hp.Sub.refl _ | exact Hp.Sub.rd (by omega) | exact Hp.Sub.rowA (by first | rfl | simp) (fun i j hi hj => absurd hi (by omega)) | exact Hp.Sub.boxA (by (repeat (first | exact all_lt_zero | refine all_lt_succ (p := fun j => CellLe _ _) (by first | with_reducible exact CellLe.refl _ | exact CellLe.own | exact CellLe.i (by omega) | exact CellLe.nil | exact CellLe.slNil | exact CellLe.refl _) ?_))) | exact Hp.Sub.refl _) ?_ | refine PP.skip ?_)) ⟨[], _, _, _, (by exact .inr ⟨rfl, .inr hi⟩), (by first | rfl | omega | (simp <;> omega)), rfl, rfl⟩
  · exact Fin.news [_] (fun _ => 0) (by refine PP.start ?_; repeat (first | exact PP.nil | refine PP.take (by first | with_reducible exact Hp.Sub.refl _ | exact Hp.Sub.rd (by omega) | exact Hp.Sub.rowA (by first | rfl | simp) (fun i j hi hj => absurd hi (by omega)) | exact Hp.Sub.boxA (by (repeat (first | exact all_lt_zero | refine all_lt_succ (p := fun j => CellLe _ _) (by first | with_reducible exact CellLe.refl _ | exact CellLe.own | exact CellLe.i (by omega) | exact CellLe.nil | exact CellLe.slNil | exact CellLe.refl _) ?_))) | exact Hp.Sub.refl _) ?_ | refine PP.skip ?_)) ⟨[], _, _, _, (by exact .inr ⟨rfl, .inl hok⟩), (by first | rfl | omega | (simp <;> omega)), rfl, rfl⟩⟩
set_option maxRecDepth 100000 in
theorem specGP_o (c : List Int) (vs : List Vx) (r a : Int) (hl : c.length ≤ 10000000) (hv : vs.length ≤ 10000000) (hp : ∀ v ∈ vs, v.ps.length ≤ 10000000) : SNew Try.prog 12 [isl c, vsl vs, .i r, .i a] (MadeL (GpP c vs r a) 3) := ⟨fun R => by
  refine SCalls.enter tt_ok Try.func12 (by kernel_rfl) rfl [(900, .cust R)] rfl (argF _) (fun w F v k h => h) (by simp) ?_
  have hGV := specGV_c c vs hl hv hp
  have hF := l11Find_c vs r a hv
  by_cases hok : grOk c vs = true
  rotate_left
  · have hok : grOk c vs = false := by simpa using hok
    repeat' (first | (with_reducible first | refine HT.seq ?_ | refine HT.block ?_ | refine Br.not ?_) | ((with_reducible first | refine HT.region tt_ok ?_ | refine HT.drawn tt_ok (by kernel_rfl) (by decide +kernel) ?_ | refine HT.drawnL tt_ok (by kernel_rfl) (by decide +kernel) ?_ | refine HT.cond ?_ | refine HT.ret ?_ | refine HT.skip ?_ | refine HT.exit ?_ | refine Br.tt ?_ | refine Br.ff ?_); conv => whnf) | ((with_reducible first | refine Br.dec (fun hc => ?_) (fun hc => ?_) | refine Br.eq (fun hc => ?_) (fun hc => ?_) | refine Br.ne (fun hc => ?_) (fun hc => ?_)) <;> (first | (exfalso; omega) | conv => whnf)) | ((with_reducible first | refine Br.ttE (by decide) ?_ | refine Br.ffE (by decide) ?_ | refine Br.mk (fun hc => ?_) (fun hc => ?_) | refine Chk.mk (by first | omega | with_reducible rfl | (refine ⟨rfl, ?_⟩; omega) | decide | exact ⟨rfl, by omega, by omega, rfl⟩ | exact ⟨by assumption, rfl, by omega, by omega⟩) ?_ | refine Ar.fit (by omega) ?_ | refine Eqv.shr1 ?_ | refine Ar.u64 (by omega) ?_) <;> conv => whnf) | ((first | refine CallN.ret1 (hGV.bf hok) ?_) <;> conv => whnf) | (with_reducible exact trivial) | ((with_reducible refine And.intro ?_ ?_) <;> conv => whnf) | (intro gn; conv => whnf))
    exact Fin.news [_] (fun _ => 0) (by refine PP.start ?_; repeat (first | exact PP.nil | refine PP.take (by first | with_reducible exact Hp.Sub.refl _ | exact Hp.Sub.rd (by omega) | exact Hp.Sub.rowA (by first | rfl | simp) (fun i j hi hj => absurd hi (by omega)) | exact Hp.Sub.boxA (by (repeat (first | exact all_lt_zero | refine all_lt_succ (p := fun j => CellLe _ _) (by first | with_reducible exact CellLe.refl _ | exact CellLe.own | exact CellLe.i (by omega) | exact CellLe.nil | exact CellLe.slNil | exact CellLe.refl _) ?_))) | exact Hp.Sub.refl _) ?_ | refine PP.skip ?_)) ⟨[], _, _, _, (by exact .inr ⟨rfl, .inl hok⟩), (by first | rfl | omega | (simp <;> omega)), rfl, rfl⟩
  have hcm := (grOk_iff.1 hok).1
  have hG := (grOk_iff.1 hok).2
  have hr : SRet Try.prog 37 [vsl vs, .i (fdI vs r a)] (fun q => ∃ l0 : List Bool, (l0.length = vs.length ∧ GpP c vs r a (idxTo l0 vs.length)) ∧ q = bsl l0) := by
    cases e : fdV vs r a with
    | none => rw [fdI_none e]; exact (l11PastN_o vs hv).stillBo.imp fun q ⟨l, h, e'⟩ => ⟨l, ⟨by rw [h]; simp, .inr ⟨by rw [h]; exact idx_rep, .inr e⟩⟩, e'⟩
    | some s => rw [fdI_some e]; exact (l11PastS_o c vs s hcm hG (fd_some e).1 hv).stillBo.imp fun q ⟨l, h, e'⟩ => ⟨l, ⟨h.len, .inl ⟨s, l, hok, e, h, rfl⟩⟩, e'⟩
  repeat' (first | (with_reducible first | refine HT.seq ?_ | refine HT.block ?_ | refine Br.not ?_) | ((with_reducible first | refine HT.region tt_ok ?_ | refine HT.drawn tt_ok (by kernel_rfl) (by decide +kernel) ?_ | refine HT.drawnL tt_ok (by kernel_rfl) (by decide +kernel) ?_ | refine HT.cond ?_ | refine HT.ret ?_ | refine HT.skip ?_ | refine HT.exit ?_ | refine Br.tt ?_ | refine Br.ff ?_); conv => whnf) | ((with_reducible first | refine Br.dec (fun hc => ?_) (fun hc => ?_) | refine Br.eq (fun hc => ?_) (fun hc => ?_) | refine Br.ne (fun hc => ?_) (fun hc => ?_)) <;> (first | (exfalso; omega) | conv => whnf)) | ((with_reducible first | refine Br.ttE (by decide) ?_ | refine Br.ffE (by decide) ?_ | refine Br.mk (fun hc => ?_) (fun hc => ?_) | refine Chk.mk (by first | omega | with_reducible rfl | (refine ⟨rfl, ?_⟩; omega) | decide | exact ⟨rfl, by omega, by omega, rfl⟩ | exact ⟨by assumption, rfl, by omega, by omega⟩) ?_ | refine Ar.fit (by omega) ?_ | refine Eqv.shr1 ?_ | refine Ar.u64 (by omega) ?_) <;> conv => whnf) | ((first | refine CallN.ret1 (hGV.bt hok) ?_ | refine CallN.ret1 (hF) ?_ | (refine CallN.ret _ hr ?_; rintro q ⟨l0, ⟨hl0, hl0n⟩, rfl⟩)) <;> conv => whnf) | (with_reducible exact trivial) | ((with_reducible refine And.intro ?_ ?_) <;> conv => whnf) | (intro gn; conv => whnf))
  refine HT.loopC [0, 1, 2, 3, 8, 10, 16] (fun x : Nat × Option Addr × Nat × Nat => [(11, .i x.1), (9, .own 100 (.slice x.2.1 x.2.2.1 x.2.2.2))]) (fun x : Nat × Option Addr × Nat × Nat => [(100, .row (.slice x.2.1 x.2.2.1 x.2.2.2) x.2.2.1 (rowF intF (idxTo l0 x.1)))]) (fun x : Nat × Option Addr × Nat × Nat => x.1 ≤ vs.length ∧ x.2.2.1 = (idxTo l0 x.1).length) (fun x : Nat × Option Addr × Nat × Nat => vs.length - x.1) (0, some ⟨gn, 0, none⟩, 0, 0) ⟨Nat.zero_le _, rfl⟩ ⟨(by first | with_reducible exact CellLe.refl _ | exact CellLe.own | exact CellLe.i (by omega) | exact CellLe.nil | exact CellLe.slNil | exact CellLe.refl _), (by first | with_reducible exact CellLe.refl _ | exact CellLe.own | exact CellLe.i (by omega) | exact CellLe.nil | exact CellLe.slNil | exact CellLe.refl _), trivial⟩ ?_ ?_
  · conv => whnf
    refine PP.start ?_; repeat (first | exact PP.nil | refine PP.take (by first | with_reducible exact Hp.Sub.refl _ | exact Hp.Sub.rd (by omega) | exact Hp.Sub.rowA rfl (fun i j hi hj => absurd hi (by omega)) | exact Hp.Sub.boxA (by (repeat (first | exact all_lt_zero | refine all_lt_succ (p := fun j => CellLe _ _) (by first | with_reducible exact CellLe.refl _ | exact CellLe.own | exact CellLe.i (by omega) | exact CellLe.nil | exact CellLe.slNil | exact CellLe.refl _) ?_))) | exact Hp.Sub.refl _) ?_ | refine PP.skip ?_)
  conv => whnf
  rintro ⟨k, A3, n3, c3⟩ ⟨hk, hn3⟩
  dsimp only at hk hn3 ⊢
  subst hn3
  have hil := idx_len (R := l0) (k := k)
  conv => whnf
  repeat' (first | (with_reducible first | refine HT.seq ?_ | refine HT.block ?_ | refine Br.not ?_) | ((with_reducible first | refine HT.region tt_ok ?_ | refine HT.drawn tt_ok (by kernel_rfl) (by decide +kernel) ?_ | refine HT.drawnL tt_ok (by kernel_rfl) (by decide +kernel) ?_ | refine HT.cond ?_ | refine HT.ret ?_ | refine HT.skip ?_ | refine HT.exit ?_ | refine Br.tt ?_ | refine Br.ff ?_); conv => whnf) | ((with_reducible first | refine Br.dec (fun hc => ?_) (fun hc => ?_) | refine Br.eq (fun hc => ?_) (fun hc => ?_) | refine Br.ne (fun hc => ?_) (fun hc => ?_)) <;> (first | (exfalso; omega) | conv => whnf)) | ((with_reducible first | refine Br.ttE (by decide) ?_ | refine Br.ffE (by decide) ?_ | refine Br.mk (fun hc => ?_) (fun hc => ?_) | refine Chk.mk (by first | omega | with_reducible rfl | (refine ⟨rfl, ?_⟩; omega) | decide | exact ⟨rfl, by omega, by omega, rfl⟩ | exact ⟨by assumption, rfl, by omega, by omega⟩) ?_ | refine Ar.fit (by omega) ?_ | refine Eqv.shr1 ?_ | refine Ar.u64 (by omega) ?_) <;> conv => whnf) | (with_reducible exact trivial) | ((with_reducible refine And.intro ?_ ?_) <;> conv => whnf) | (intro gn; conv => whnf))
  all_goals (try simp only [Int.toNat_natCast] at *)
  · rename_i A4
    have hb : rg l0 k = true := by assumption
    exact ⟨⟨(k + 1, A4, (idxTo l0 k).length + 1, gn), ⟨by dsimp only; omega, by dsimp only; rw [idx1 hb, List.length_append]; rfl⟩, by dsimp only; omega, (by repeat' (first | exact trivial | refine ⟨rfl, ?_⟩)), ⟨(by first | with_reducible exact CellLe.refl _ | exact CellLe.own | exact CellLe.i (by omega) | exact CellLe.nil | exact CellLe.slNil | exact CellLe.refl _), (by first | with_reducible exact CellLe.refl _ | exact CellLe.own | exact CellLe.i (by omega) | exact CellLe.nil | exact CellLe.slNil | exact CellLe.refl _), trivial⟩, HLe.pk (by
      conv => whnf
      refine PP.start ?_; repeat (first | exact PP.nil | refine PP.take (by first | with_reducible exact Hp.Sub.refl _ | exact Hp.Sub.rd (by omega) | exact Hp.Sub.rowA rfl (fun i j hi hj => by rw [idx1 hb]; exact cat_int hi rfl hj) | exact Hp.Sub.boxA (by (repeat (first | exact all_lt_zero | refine all_lt_succ (p := fun j => CellLe _ _) (by first | with_reducible exact CellLe.refl _ | exact CellLe.own | exact CellLe.i (by omega) | exact CellLe.nil | exact CellLe.slNil | exact CellLe.refl _) ?_))) | exact Hp.Sub.refl _) ?_ | refine PP.skip ?_))⟩⟩
  · have hb : rg l0 k = false := hc
    exact ⟨⟨(k + 1, A3, (idxTo l0 k).length, c3), ⟨by dsimp only; omega, by dsimp only; rw [idx0 hb]⟩, by dsimp only; omega, (by repeat' (first | exact trivial | refine ⟨rfl, ?_⟩)), ⟨(by first | with_reducible exact CellLe.refl _ | exact CellLe.own | exact CellLe.i (by omega) | exact CellLe.nil | exact CellLe.slNil | exact CellLe.refl _), (by first | with_reducible exact CellLe.refl _ | exact CellLe.own | exact CellLe.i (by omega) | exact CellLe.nil | exact CellLe.slNil | exact CellLe.refl _), trivial⟩, HLe.pk (by
      conv => whnf
      refine PP.start ?_; repeat (first | exact PP.nil | refine PP.take (by first | with_reducible exact Hp.Sub.refl _ | exact Hp.Sub.rd (by omega) | exact Hp.Sub.rowA rfl (fun i j hi hj => by rw [idx0 hb]) | exact Hp.Sub.boxA (by (repeat (first | exact all_lt_zero | refine all_lt_succ (p := fun j => CellLe _ _) (by first | with_reducible exact CellLe.refl _ | exact CellLe.own | exact CellLe.i (by omega) | exact CellLe.nil | exact CellLe.slNil | exact CellLe.refl _) ?_))) | exact Hp.Sub.refl _) ?_ | refine PP.skip ?_))⟩⟩
  · obtain rfl : k = vs.length := by omega
    exact Fin.news [_] (fun _ => 0) (by refine PP.start ?_; repeat (first | exact PP.nil | refine PP.take (by first | with_reducible exact Hp.Sub.refl _ | exact Hp.Sub.rd (by omega) | exact Hp.Sub.rowA (by first | rfl | simp) (fun i j hi hj => rfl) | exact Hp.Sub.boxA (by (repeat (first | exact all_lt_zero | refine all_lt_succ (p := fun j => CellLe _ _) (by first | with_reducible exact CellLe.refl _ | exact CellLe.own | exact CellLe.i (by omega) | exact CellLe.nil | exact CellLe.slNil | exact CellLe.refl _) ?_))) | exact Hp.Sub.refl _) ?_ | refine PP.skip ?_)) ⟨idxTo l0 vs.length, _, _, _, (by exact hl0n), (by first | rfl | omega | (simp <;> omega)), rfl, rfl⟩⟩
end Go.Proofs.Ythajlhmebkjbbaa
