/- What a vertex depends on: both sides. -/
import Derived.Test.YthajlhmebkjbbaaPp
import Derived.Test.YthajlhmebkjbbaaGv
set_option linter.all false
namespace Go.Proofs.Ythajlhmebkjbbaa
open Go.RowKit

def boolF (b : Bool) : Nat → SV := fun _ => .b b
abbrev bsl (R : List Bool) : SV := .sl 1 R.length (rowF boolF R)
/-- slots told anew -/
theorem HT.slots {P : Program} {n : Nat} {c : Code} {Q : Exit → St → Prop} {s : St} (chg : List (Nat × SV)) (h : ∀ w F, ChgW w F s.σ chg) (k : HT P n c Q ⟨updL s.σ chg, s.L, s.nx⟩) : HT P n c Q s :=
  HT.le (s' := ⟨updL s.σ chg, s.L, s.nx⟩) (fun n F a w hs => ⟨F, fun _ h => h, hs.size, hs.defers, ChgW.has hs.fr (h w F), hs.heap⟩) k
theorem rowB (R : List Bool) (i j : Nat) : rowF boolF R i j = .b (rg R i) := rfl
theorem put_bool {R : List Bool} {p i j : Nat} {fv : Nat → SV} (hp : p < R.length) (hv : fv 0 = .b true) (hj : j < 1) : putR p 0 1 fv (rowF boolF R) i j = rowF boolF (R.set p true) i j := by
  have hj : j = 0 := by omega
  subst hj
  rw [rowB, rg_set hp]
  unfold putR
  by_cases h : i = p
  · subst h
    rw [Nat.beq_refl, cond_true, if_pos rfl]
    exact hv
  · have e : Nat.beq i p = false := by rw [Bool.eq_false_iff]; exact fun hb => h (Nat.eq_of_beq_eq_true hb)
    rw [e, cond_false, if_neg h, rowB]
theorem start_bool {n p q i j : Nat} {fv : Nat → SV} (hp : p = q) (hq : q < n) (hv : fv 0 = .b true) (hj : j < 1) : putR p 0 1 fv (fun _ => zF [.bool false]) i j = rowF boolF ((List.replicate n false).set q true) i j := by
  subst hp
  rw [← put_bool (R := List.replicate n false) (fv := fv) (by simpa using hq) hv hj]
  obtain rfl : j = 0 := by omega
  unfold putR
  cases Nat.beq i p
  · show SV.b false = .b (rg (List.replicate n false) i)
    unfold rg
    rw [List.getD_eq_getElem?_getD, List.getElem?_replicate]
    split <;> rfl
  · rfl
theorem rg_rep {n i : Nat} : rg (List.replicate n false) i = false := by
  unfold rg
  rw [List.getD_eq_getElem?_getD, List.getElem?_replicate]
  split <;> rfl
theorem rep_bool {n i j : Nat} : SV.b false = rowF boolF (List.replicate n false) i j := by rw [rowB, rg_rep]
/-- the vertices that wait: pointers to them -/
abbrev waitF (vs : List Vx) (S : List Nat) : Nat → Nat → SV := fun i _ => ndU vs (S.getD i 0)
/-- marks under way: those that wait, the vertex at hand with j parents marked -/
structure PsI (vs : List Vx) (s : Nat) (R : List Bool) (S : List Nat) (q j : Nat) : Prop where
  len : R.length = vs.length
  st : rg R s = true
  anc : ∀ i, rg R i = true → Anc vs s i
  wt : ∀ i ∈ S, rg R i = true
  cl : ∀ i, rg R i = true → i ∈ S ∨ (i = q ∧ ∀ j', j' < j → rg R (pix vs q j') = true) ∨ ∀ j', j' < (vg vs i).ps.length → rg R (pix vs i j') = true
  sz : 2 * R.count false + S.length ≤ 2 * vs.length + 1
structure PsO (vs : List Vx) (s : Nat) (R : List Bool) (S : List Nat) : Prop where
  len : R.length = vs.length
  st : rg R s = true
  anc : ∀ i, rg R i = true → Anc vs s i
  wt : ∀ i ∈ S, rg R i = true
  cl : ∀ i, rg R i = true → i ∈ S ∨ ∀ j', j' < (vg vs i).ps.length → rg R (pix vs i j') = true
  sz : 2 * R.count false + S.length ≤ 2 * vs.length + 1
theorem PsO.start {vs : List Vx} {s : Nat} (hs : s < vs.length) : PsO vs s ((List.replicate vs.length false).set s true) [s] := by
  have hl : s < (List.replicate vs.length false).length := by simpa using hs
  have e : ∀ i, rg ((List.replicate vs.length false).set s true) i = true → i = s := fun i hi => by
    rw [rg_set hl] at hi
    by_cases h : i = s
    · exact h
    · rw [if_neg h, rg_rep] at hi; cases hi
  refine ⟨by simp, by rw [rg_set hl, if_pos rfl], fun i hi => by rw [e i hi]; exact .self, fun i hi => by rw [List.mem_singleton.1 hi, rg_set hl, if_pos rfl], fun i hi => .inl (by rw [e i hi]; simp), ?_⟩
  have := count_set (R := List.replicate vs.length false) (p := s) hl rg_rep
  simp at this ⊢
  omega
theorem PsO.pop {vs : List Vx} {s : Nat} {R : List Bool} {S : List Nat} {k q : Nat} (h : PsO vs s R S) (hk : S.length = k + 1) (hq : S.getD k 0 = q) : PsI vs s R (S.take k) q 0 ∧ rg R q = true := by
  have e : S = S.take k ++ [q] := by
    rw [← hq, List.getD_eq_getElem?_getD, List.getElem?_eq_getElem (by omega : k < S.length)]
    conv => lhs; rw [← List.take_length (l := S), hk]
    exact List.take_succ_eq_append_getElem (by omega)
  have hm : ∀ i, i ∈ S ↔ i ∈ S.take k ∨ i = q := fun i => by
    constructor
    · intro h; rw [e] at h; simpa using h
    · intro h; rw [e]; simpa using h
  refine ⟨⟨h.len, h.st, h.anc, fun i hi => h.wt i ((hm i).2 (.inl hi)), fun i hi => ?_, ?_⟩, h.wt q ((hm q).2 (.inr rfl))⟩
  · rcases h.cl i hi with h1 | h1
    · rcases (hm i).1 h1 with h2 | h2
      · exact .inl h2
      · exact .inr (.inl ⟨h2, fun j' hj => absurd hj (by omega)⟩)
    · exact .inr (.inr h1)
  · have := h.sz
    rw [List.length_take]; omega
theorem PsI.old {vs : List Vx} {s : Nat} {R : List Bool} {S : List Nat} {q j : Nat} (h : PsI vs s R S q j) (hp : rg R (pix vs q j) = true) : PsI vs s R S q (j + 1) :=
  ⟨h.len, h.st, h.anc, h.wt, fun i hi => by
    rcases h.cl i hi with h1 | ⟨h1, h2⟩ | h1
    · exact .inl h1
    · exact .inr (.inl ⟨h1, all_lt_succ hp h2⟩)
    · exact .inr (.inr h1), h.sz⟩
theorem PsI.new {vs : List Vx} {s : Nat} {R : List Bool} {S : List Nat} {q j : Nat} (h : PsI vs s R S q j) (hq : rg R q = true) (hj : j < (vg vs q).ps.length) (hl : pix vs q j < vs.length) (hp : rg R (pix vs q j) = false) :
    PsI vs s (R.set (pix vs q j) true) (S ++ [pix vs q j]) q (j + 1) ∧ 2 * (R.set (pix vs q j) true).count false + (S ++ [pix vs q j]).length + 1 = 2 * R.count false + S.length := by
  have hl' : pix vs q j < R.length := by rw [h.len]; exact hl
  have hc := count_set hl' hp
  have up : ∀ i, rg R i = true → rg (R.set (pix vs q j) true) i = true := fun i hi => by rw [rg_set hl']; split <;> first | rfl | exact hi
  have self : rg (R.set (pix vs q j) true) (pix vs q j) = true := by rw [rg_set hl', if_pos rfl]
  refine ⟨⟨by rw [List.length_set]; exact h.len, up _ h.st, fun i hi => ?_, fun i hi => ?_, fun i hi => ?_, ?_⟩, ?_⟩
  · rw [rg_set hl'] at hi
    by_cases e : i = pix vs q j
    · rw [e]; exact .step (h.anc q hq) hj
    · rw [if_neg e] at hi; exact h.anc i hi
  · rcases List.mem_append.1 hi with hi | hi
    · exact up _ (h.wt i hi)
    · rw [List.mem_singleton.1 hi]; exact self
  · by_cases e : i = pix vs q j
    · exact .inl (List.mem_append_right _ (by rw [e]; exact List.mem_singleton_self _))
    · rw [rg_set hl', if_neg e] at hi
      rcases h.cl i hi with h1 | ⟨h1, h2⟩ | h1
      · exact .inl (List.mem_append_left _ h1)
      · exact .inr (.inl ⟨h1, all_lt_succ self fun j' hj' => up _ (h2 j' hj')⟩)
      · exact .inr (.inr fun j' hj' => up _ (h1 j' hj'))
  · have := h.sz
    rw [List.length_append]; simp; omega
  · rw [List.length_append]; simp; omega
theorem PsI.done {vs : List Vx} {s : Nat} {R : List Bool} {S : List Nat} {q : Nat} (h : PsI vs s R S q (vg vs q).ps.length) : PsO vs s R S :=
  ⟨h.len, h.st, h.anc, h.wt, fun i hi => by
    rcases h.cl i hi with h1 | ⟨rfl, h2⟩ | h1
    · exact .inl h1
    · exact .inr h2
    · exact .inr h1, h.sz⟩
theorem PsO.cor {c : List Int} {vs : List Vx} {s : Nat} {R : List Bool} (hg : GoodN c vs vs.length) (hs : s < vs.length) (h : PsO vs s R []) : Cor vs s R :=
  Cor.of hg hs h.len h.st (fun i hi j hj => by
    rcases h.cl i hi with h1 | h1
    · cases h1
    · exact h1 j hj) h.anc
theorem wait_app {vs : List Vx} {S : List Nat} {p i j n : Nat} {g0 : Nat → Nat → SV} (hn : n = S.length) (h : g0 0 0 = ndU vs p) (hi : i < n + 1) (hj : j < 1) : catF n (waitF vs S) g0 i j = waitF vs (S ++ [p]) i j := by
  subst hn
  obtain rfl : j = 0 := by omega
  unfold catF
  show _ = ndU vs ((S ++ [p]).getD i 0)
  by_cases hlt : i < S.length
  · rw [if_pos hlt, List.getD_eq_getElem?_getD, List.getElem?_append_left hlt, ← List.getD_eq_getElem?_getD]
  · obtain rfl : i = S.length := by omega
    rw [if_neg hlt, Nat.sub_self, h]
    simp
theorem wait_one {vs : List Vx} {s i j : Nat} {fv : Nat → SV} {f0 : Nat → Nat → SV} (h : fv 0 = ndU vs s) (hi : i < 1) (hj : j < 1) : putR 0 0 1 fv f0 i j = waitF vs [s] i j := by
  obtain rfl : i = 0 := by omega
  obtain rfl : j = 0 := by omega
  rw [putR_self, h]
  rfl
theorem wait_take {vs : List Vx} {S : List Nat} {k i j : Nat} (hi : i < k) : waitF vs S i j = waitF vs (S.take k) i j := by
  show ndU vs (S.getD i 0) = ndU vs ((S.take k).getD i 0)
  rw [List.getD_eq_getElem?_getD, List.getD_eq_getElem?_getD, List.getElem?_take, if_pos hi]
/-- the marked indexes, as a list that was made -/
abbrev PastL (vs : List Vx) (s : Nat) (l : List Int) : Prop := ∃ R, Cor vs s R ∧ l = idxTo R vs.length
set_option maxRecDepth 100000 in
set_option maxHeartbeats 1000000 in
theorem past_o (c : List Int) (vs : List Vx) (s : Nat) (hcm : cmOk c = true) (hg : GoodN c vs vs.length) (hs : s < vs.length) (hv : vs.length ≤ 10000000) : SNew Try.prog 42 [.pp 219 (grF c vs (.sl 1 vs.length fun i _ => ndV vs i)), ndU vs s] (MadeL (PastL vs s) 3) := ⟨fun R => by
  refine SCalls.enter tt_ok Try.func42 (by kernel_rfl) rfl [(900, .cust R)] rfl (argF _) (fun w F v k h => h) (by simp) ?_
  repeat' (first | (with_reducible first | refine HT.seq ?_ | refine HT.block ?_ | refine Br.not ?_) | ((with_reducible first | refine HT.region tt_ok ?_ | refine HT.drawn tt_ok (by kernel_rfl) (by decide +kernel) ?_ | refine HT.drawnL tt_ok (by kernel_rfl) (by decide +kernel) ?_ | refine HT.cond ?_ | refine HT.ret ?_ | refine HT.skip ?_ | refine HT.exit ?_ | refine Br.tt ?_ | refine Br.ff ?_); conv => whnf) | ((with_reducible first | refine Br.dec (fun hc => ?_) (fun hc => ?_) | refine Br.eq (fun hc => ?_) (fun hc => ?_) | refine Br.ne (fun hc => ?_) (fun hc => ?_)) <;> (first | (exfalso; omega) | conv => whnf)) | ((with_reducible first | refine Br.ttE (by decide) ?_ | refine Br.ffE (by decide) ?_ | refine Br.mk (fun hc => ?_) (fun hc => ?_) | refine Chk.mk (by first | omega | with_reducible rfl | (refine ⟨rfl, ?_⟩; omega) | decide | exact ⟨rfl, by omega, by omega, rfl⟩ | exact ⟨by assumption, rfl, by omega, by omega⟩) ?_ | refine Ar.fit (by omega) ?_ | refine Eqv.shr1 ?_ | refine Ar.u64 (by omega) ?_) <;> conv => whnf) | (with_reducible exact trivial) | ((with_reducible refine And.intro ?_ ?_) <;> conv => whnf) | (intro gn; conv => whnf))
  rename_i ga gb hga
  refine HT.loopC [0, 1, 4, 5, 10, 11, 12, 70, 71, 72, 73, 77] (fun x : List Bool × List Nat × Option Addr × Nat × Nat => [(6, .own 101 (.slice x.2.2.1 x.2.2.2.1 x.2.2.2.2))]) (fun x : List Bool × List Nat × Option Addr × Nat × Nat => [(100, .cells (rowF boolF x.1)), (101, .row (.slice x.2.2.1 x.2.2.2.1 x.2.2.2.2) x.2.2.2.1 (waitF vs x.2.1))]) (fun x : List Bool × List Nat × Option Addr × Nat × Nat => PsO vs s x.1 x.2.1 ∧ x.2.2.2.1 = x.2.1.length) (fun x : List Bool × List Nat × Option Addr × Nat × Nat => 2 * x.1.count false + x.2.1.length) ((List.replicate vs.length false).set s true, [s], some ⟨gn, 0, none⟩, 1, 1) ⟨PsO.start hs, rfl⟩ ⟨(by first | with_reducible exact CellLe.refl _ | exact CellLe.own | exact CellLe.i (by omega) | exact CellLe.nil | exact CellLe.slNil | exact CellLe.refl _), trivial⟩ ?_ ?_
  · conv => whnf
    refine PP.start ?_; repeat (first | exact PP.nil | refine PP.take (by first | with_reducible exact Hp.Sub.refl _ | exact Hp.Sub.rd (by omega) | exact Hp.Sub.rowA rfl (fun i j hi hj => start_bool (Int.toNat_natCast _) hs rfl hj) | exact Hp.Sub.rowA rfl (fun i j hi hj => wait_one rfl hi hj) | exact Hp.Sub.boxA (by (repeat (first | exact all_lt_zero | refine all_lt_succ (p := fun j => CellLe _ _) (by first | with_reducible exact CellLe.refl _ | exact CellLe.own | exact CellLe.i (by omega) | exact CellLe.nil | exact CellLe.slNil | exact CellLe.refl _) ?_))) | exact Hp.Sub.refl _) ?_ | refine PP.skip ?_)
  conv => whnf
  rintro ⟨R1, S1, A, q0, cp⟩ ⟨hP, hq0⟩
  dsimp only at hP hq0 ⊢
  subst hq0
  have hsz := hP.sz
  have hlen := hP.len
  obtain ⟨q, hq⟩ : ∃ q, S1.getD ((S1.length : Int) - 1).toNat 0 = q := ⟨_, rfl⟩
  conv => whnf
  repeat' (first | (with_reducible first | refine HT.seq ?_ | refine HT.block ?_ | refine Br.not ?_) | ((with_reducible first | refine HT.region tt_ok ?_ | refine HT.drawn tt_ok (by kernel_rfl) (by decide +kernel) ?_ | refine HT.drawnL tt_ok (by kernel_rfl) (by decide +kernel) ?_ | refine HT.cond ?_ | refine HT.ret ?_ | refine HT.skip ?_ | refine HT.exit ?_ | refine Br.tt ?_ | refine Br.ff ?_); conv => whnf) | ((with_reducible first | refine Br.dec (fun hc => ?_) (fun hc => ?_) | refine Br.eq (fun hc => ?_) (fun hc => ?_) | refine Br.ne (fun hc => ?_) (fun hc => ?_)) <;> (first | (exfalso; omega) | conv => whnf)) | ((with_reducible first | refine Br.ttE (by decide) ?_ | refine Br.ffE (by decide) ?_ | refine Br.mk (fun hc => ?_) (fun hc => ?_) | refine Chk.mk (by first | omega | with_reducible rfl | (refine ⟨rfl, ?_⟩; omega) | decide | exact ⟨rfl, by omega, by omega, rfl⟩ | exact ⟨by assumption, rfl, by omega, by omega⟩) ?_ | refine Ar.fit (by omega) ?_ | refine Eqv.shr1 ?_ | refine Ar.u64 (by omega) ?_) <;> conv => whnf) | (with_reducible exact trivial) | ((with_reducible refine And.intro ?_ ?_) <;> conv => whnf) | (intro gn; conv => whnf))
  rotate_left
  · obtain rfl : S1 = [] := List.eq_nil_of_length_eq_zero (by omega)
    have hcor := hP.cor hg hs
    clear hq hP hsz
    refine HT.loopC [0, 1, 4, 5, 6, 7, 9, 29, 44, 45, 46, 47, 57, 70, 71] (fun x : Nat × Option Addr × Nat × Nat => [(72, .i x.1), (10, .own 102 (.slice x.2.1 x.2.2.1 x.2.2.2))]) (fun x : Nat × Option Addr × Nat × Nat => [(102, .row (.slice x.2.1 x.2.2.1 x.2.2.2) x.2.2.1 (rowF intF (idxTo R1 x.1)))]) (fun x : Nat × Option Addr × Nat × Nat => x.1 ≤ vs.length ∧ x.2.2.1 = (idxTo R1 x.1).length) (fun x : Nat × Option Addr × Nat × Nat => vs.length - x.1) (0, some ⟨gn, 0, none⟩, 0, 0) ⟨Nat.zero_le _, rfl⟩ ⟨(by first | with_reducible exact CellLe.refl _ | exact CellLe.own | exact CellLe.i (by omega) | exact CellLe.nil | exact CellLe.slNil | exact CellLe.refl _), (by first | with_reducible exact CellLe.refl _ | exact CellLe.own | exact CellLe.i (by omega) | exact CellLe.nil | exact CellLe.slNil | exact CellLe.refl _), trivial⟩ ?_ ?_
    · conv => whnf
      refine PP.start ?_; repeat (first | exact PP.nil | refine PP.take (by first | with_reducible exact Hp.Sub.refl _ | exact Hp.Sub.rd (by omega) | exact Hp.Sub.rowA rfl (fun i j hi hj => absurd hi (by omega)) | exact Hp.Sub.boxA (by (repeat (first | exact all_lt_zero | refine all_lt_succ (p := fun j => CellLe _ _) (by first | with_reducible exact CellLe.refl _ | exact CellLe.own | exact CellLe.i (by omega) | exact CellLe.nil | exact CellLe.slNil | exact CellLe.refl _) ?_))) | exact Hp.Sub.refl _) ?_ | refine PP.skip ?_)
    conv => whnf
    rintro ⟨k, A3, n3, c3⟩ ⟨hk, hn3⟩
    dsimp only at hk hn3 ⊢
    subst hn3
    have hil := idx_len (R := R1) (k := k)
    conv => whnf
    repeat' (first | (with_reducible first | refine HT.seq ?_ | refine HT.block ?_ | refine Br.not ?_) | ((with_reducible first | refine HT.region tt_ok ?_ | refine HT.drawn tt_ok (by kernel_rfl) (by decide +kernel) ?_ | refine HT.drawnL tt_ok (by kernel_rfl) (by decide +kernel) ?_ | refine HT.cond ?_ | refine HT.ret ?_ | refine HT.skip ?_ | refine HT.exit ?_ | refine Br.tt ?_ | refine Br.ff ?_); conv => whnf) | ((with_reducible first | refine Br.dec (fun hc => ?_) (fun hc => ?_) | refine Br.eq (fun hc => ?_) (fun hc => ?_) | refine Br.ne (fun hc => ?_) (fun hc => ?_)) <;> (first | (exfalso; omega) | conv => whnf)) | ((with_reducible first | refine Br.ttE (by decide) ?_ | refine Br.ffE (by decide) ?_ | refine Br.mk (fun hc => ?_) (fun hc => ?_) | refine Chk.mk (by first | omega | with_reducible rfl | (refine ⟨rfl, ?_⟩; omega) | decide | exact ⟨rfl, by omega, by omega, rfl⟩ | exact ⟨by assumption, rfl, by omega, by omega⟩) ?_ | refine Ar.fit (by omega) ?_ | refine Eqv.shr1 ?_ | refine Ar.u64 (by omega) ?_) <;> conv => whnf) | (with_reducible exact trivial) | ((with_reducible refine And.intro ?_ ?_) <;> conv => whnf) | (intro gn; conv => whnf))
    all_goals (try simp only [Int.toNat_natCast] at *)
    · rename_i A4
      have hb : rg R1 k = true := by assumption
      exact ⟨⟨(k + 1, A4, (idxTo R1 k).length + 1, gn), ⟨by dsimp only; omega, by dsimp only; rw [idx1 hb, List.length_append]; rfl⟩, by dsimp only; omega, (by repeat' (first | exact trivial | refine ⟨rfl, ?_⟩)), ⟨(by first | with_reducible exact CellLe.refl _ | exact CellLe.own | exact CellLe.i (by omega) | exact CellLe.nil | exact CellLe.slNil | exact CellLe.refl _), (by first | with_reducible exact CellLe.refl _ | exact CellLe.own | exact CellLe.i (by omega) | exact CellLe.nil | exact CellLe.slNil | exact CellLe.refl _), trivial⟩, HLe.pk (by
        conv => whnf
        refine PP.start ?_; repeat (first | exact PP.nil | refine PP.take (by first | with_reducible exact Hp.Sub.refl _ | exact Hp.Sub.rd (by omega) | exact Hp.Sub.rowA rfl (fun i j hi hj => by rw [idx1 hb]; exact cat_int hi rfl hj) | exact Hp.Sub.boxA (by (repeat (first | exact all_lt_zero | refine all_lt_succ (p := fun j => CellLe _ _) (by first | with_reducible exact CellLe.refl _ | exact CellLe.own | exact CellLe.i (by omega) | exact CellLe.nil | exact CellLe.slNil | exact CellLe.refl _) ?_))) | exact Hp.Sub.refl _) ?_ | refine PP.skip ?_))⟩⟩
    · have hb : rg R1 k = false := hc
      exact ⟨⟨(k + 1, A3, (idxTo R1 k).length, c3), ⟨by dsimp only; omega, by dsimp only; rw [idx0 hb]⟩, by dsimp only; omega, (by repeat' (first | exact trivial | refine ⟨rfl, ?_⟩)), ⟨(by first | with_reducible exact CellLe.refl _ | exact CellLe.own | exact CellLe.i (by omega) | exact CellLe.nil | exact CellLe.slNil | exact CellLe.refl _), (by first | with_reducible exact CellLe.refl _ | exact CellLe.own | exact CellLe.i (by omega) | exact CellLe.nil | exact CellLe.slNil | exact CellLe.refl _), trivial⟩, HLe.pk (by
        conv => whnf
        refine PP.start ?_; repeat (first | exact PP.nil | refine PP.take (by first | with_reducible exact Hp.Sub.refl _ | exact Hp.Sub.rd (by omega) | exact Hp.Sub.rowA rfl (fun i j hi hj => by rw [idx0 hb]) | exact Hp.Sub.boxA (by (repeat (first | exact all_lt_zero | refine all_lt_succ (p := fun j => CellLe _ _) (by first | with_reducible exact CellLe.refl _ | exact CellLe.own | exact CellLe.i (by omega) | exact CellLe.nil | exact CellLe.slNil | exact CellLe.refl _) ?_))) | exact Hp.Sub.refl _) ?_ | refine PP.skip ?_))⟩⟩
    · obtain rfl : k = vs.length := by omega
      exact Fin.news [_] (fun _ => 0) (by refine PP.start ?_; repeat (first | exact PP.nil | refine PP.take (by first | with_reducible exact Hp.Sub.refl _ | exact Hp.Sub.rd (by omega) | exact Hp.Sub.rowA (by first | rfl | simp) (fun i j hi hj => rfl) | exact Hp.Sub.boxA (by (repeat (first | exact all_lt_zero | refine all_lt_succ (p := fun j => CellLe _ _) (by first | with_reducible exact CellLe.refl _ | exact CellLe.own | exact CellLe.i (by omega) | exact CellLe.nil | exact CellLe.slNil | exact CellLe.refl _) ?_))) | exact Hp.Sub.refl _) ?_ | refine PP.skip ?_)) ⟨idxTo R1 vs.length, _, _, _, (by exact ⟨R1, hcor, rfl⟩), (by first | rfl | omega | (simp <;> omega)), rfl, rfl⟩
  rename_i gw hgw A0
  have hk1 : ((S1.length : Int) - 1).toNat = S1.length - 1 := by omega
  obtain ⟨hI, hqr⟩ := hP.pop (k := S1.length - 1) (q := q) (by omega) (by rw [← hq, hk1])
  have hql : q < vs.length := by rw [← hlen]; exact rg_lt hqr
  have hpl : (vg vs q).ps.length ≤ 7 := by
    have h1 := ms_len (vxOk_iff (st_parts (hg q hql)).1).2.2.1
    have h2 := (cmOk_iff.1 hcm).1
    omega
  refine HT.slots [(44, .sl 1 (vg vs q).ps.length fun j _ => ndU vs (pix vs q j)), (45, .i (vg vs q).ps.length)] (fun w F => ⟨fun x hx => ?_, fun x hx => ?_, trivial⟩) ?_
  · subst hq
    exact Has.slL (fun i k hi hk x hx => LeW.of_eq (parV_eq hg hql (Nat.le_refl _) hi) x hx) hx
  · subst hq
    exact hx
  refine HT.loopC [0, 1, 4, 5, 7, 10, 11, 12, 29, 44, 45, 70, 71, 72, 73, 77] (fun x : Nat × List Bool × List Nat × Option Addr × Nat × Nat => [(46, .i x.1), (6, .own 102 (.slice x.2.2.2.1 x.2.2.2.2.1 x.2.2.2.2.2))]) (fun x : Nat × List Bool × List Nat × Option Addr × Nat × Nat => [(100, .cells (rowF boolF x.2.1)), (102, .row (.slice x.2.2.2.1 x.2.2.2.2.1 x.2.2.2.2.2) x.2.2.2.2.1 (waitF vs x.2.2.1))]) (fun x : Nat × List Bool × List Nat × Option Addr × Nat × Nat => (PsI vs s x.2.1 x.2.2.1 q x.1 ∧ x.2.2.2.2.1 = x.2.2.1.length) ∧ x.1 ≤ (vg vs q).ps.length ∧ rg x.2.1 q = true ∧ 2 * x.2.1.count false + x.2.2.1.length < 2 * R1.count false + S1.length) (fun x : Nat × List Bool × List Nat × Option Addr × Nat × Nat => (vg vs q).ps.length - x.1) (0, R1, S1.take (S1.length - 1), A0, ((S1.length : Int) - 1).toNat, gn) ⟨⟨hI, by dsimp only; rw [List.length_take]; omega⟩, Nat.zero_le _, hqr, by dsimp only; rw [List.length_take]; omega⟩ ⟨(by first | with_reducible exact CellLe.refl _ | exact CellLe.own | exact CellLe.i (by omega) | exact CellLe.nil | exact CellLe.slNil | exact CellLe.refl _), (by first | with_reducible exact CellLe.refl _ | exact CellLe.own | exact CellLe.i (by omega) | exact CellLe.nil | exact CellLe.slNil | exact CellLe.refl _), trivial⟩ ?_ ?_
  · conv => whnf
    refine PP.start ?_; repeat (first | exact PP.nil | refine PP.take (by first | with_reducible exact Hp.Sub.refl _ | exact Hp.Sub.rd (by omega) | exact Hp.Sub.rowA rfl (fun i j hi hj => wait_take (by omega)) | exact Hp.Sub.boxA (by (repeat (first | exact all_lt_zero | refine all_lt_succ (p := fun j => CellLe _ _) (by first | with_reducible exact CellLe.refl _ | exact CellLe.own | exact CellLe.i (by omega) | exact CellLe.nil | exact CellLe.slNil | exact CellLe.refl _) ?_))) | exact Hp.Sub.refl _) ?_ | refine PP.skip ?_)
  conv => whnf
  rintro ⟨j, R2, S2, A2, n2, c2⟩ ⟨⟨hI2, hn2⟩, hj, hqr2, hms⟩
  dsimp only at hI2 hn2 hj hqr2 hms ⊢
  subst hn2
  have hsz2 := hI2.sz
  have hlen2 := hI2.len
  by_cases hjl : j < (vg vs q).ps.length
  rotate_left
  · obtain rfl : j = (vg vs q).ps.length := by omega
    conv => whnf
    repeat' (first | (with_reducible first | refine HT.seq ?_ | refine HT.block ?_ | refine Br.not ?_) | ((with_reducible first | refine HT.region tt_ok ?_ | refine HT.drawn tt_ok (by kernel_rfl) (by decide +kernel) ?_ | refine HT.drawnL tt_ok (by kernel_rfl) (by decide +kernel) ?_ | refine HT.cond ?_ | refine HT.ret ?_ | refine HT.skip ?_ | refine HT.exit ?_ | refine Br.tt ?_ | refine Br.ff ?_); conv => whnf) | ((with_reducible first | refine Br.dec (fun hc => ?_) (fun hc => ?_) | refine Br.eq (fun hc => ?_) (fun hc => ?_) | refine Br.ne (fun hc => ?_) (fun hc => ?_)) <;> (first | (exfalso; omega) | conv => whnf)) | ((with_reducible first | refine Br.ttE (by decide) ?_ | refine Br.ffE (by decide) ?_ | refine Br.mk (fun hc => ?_) (fun hc => ?_) | refine Chk.mk (by first | omega | with_reducible rfl | (refine ⟨rfl, ?_⟩; omega) | decide | exact ⟨rfl, by omega, by omega, rfl⟩ | exact ⟨by assumption, rfl, by omega, by omega⟩) ?_ | refine Ar.fit (by omega) ?_ | refine Eqv.shr1 ?_ | refine Ar.u64 (by omega) ?_) <;> conv => whnf) | (with_reducible exact trivial) | ((with_reducible refine And.intro ?_ ?_) <;> conv => whnf) | (intro gn; conv => whnf))
    exact ⟨⟨(R2, S2, A2, S2.length, c2), ⟨hI2.done, rfl⟩, by dsimp only; omega, (by repeat' (first | exact trivial | refine ⟨rfl, ?_⟩)), ⟨(by first | with_reducible exact CellLe.refl _ | exact CellLe.own | exact CellLe.i (by omega) | exact CellLe.nil | exact CellLe.slNil | exact CellLe.refl _), trivial⟩, HLe.pk (by
      conv => whnf
      refine PP.start ?_; repeat (first | exact PP.nil | refine PP.take (by first | with_reducible exact Hp.Sub.refl _ | exact Hp.Sub.rd (by omega) | exact Hp.Sub.boxA (by (repeat (first | exact all_lt_zero | refine all_lt_succ (p := fun j => CellLe _ _) (by first | with_reducible exact CellLe.refl _ | exact CellLe.own | exact CellLe.i (by omega) | exact CellLe.nil | exact CellLe.slNil | exact CellLe.refl _) ?_))) | exact Hp.Sub.refl _) ?_ | refine PP.skip ?_))⟩⟩
  have hpx := (hg.pix hql (Nat.le_refl _) hjl).2
  have hpx2 : pix vs q ((j : Int)).toNat < q := by rw [Int.toNat_natCast]; exact hpx
  conv => whnf
  repeat' (first | (with_reducible first | refine HT.seq ?_ | refine HT.block ?_ | refine Br.not ?_) | ((with_reducible first | refine HT.region tt_ok ?_ | refine HT.drawn tt_ok (by kernel_rfl) (by decide +kernel) ?_ | refine HT.drawnL tt_ok (by kernel_rfl) (by decide +kernel) ?_ | refine HT.cond ?_ | refine HT.ret ?_ | refine HT.skip ?_ | refine HT.exit ?_ | refine Br.tt ?_ | refine Br.ff ?_); conv => whnf) | ((with_reducible first | refine Br.dec (fun hc => ?_) (fun hc => ?_) | refine Br.eq (fun hc => ?_) (fun hc => ?_) | refine Br.ne (fun hc => ?_) (fun hc => ?_)) <;> (first | (exfalso; omega) | conv => whnf)) | ((with_reducible first | refine Br.ttE (by decide) ?_ | refine Br.ffE (by decide) ?_ | refine Br.mk (fun hc => ?_) (fun hc => ?_) | refine Chk.mk (by first | omega | with_reducible rfl | (refine ⟨rfl, ?_⟩; omega) | decide | exact ⟨rfl, by omega, by omega, rfl⟩ | exact ⟨by assumption, rfl, by omega, by omega⟩) ?_ | refine Ar.fit (by omega) ?_ | refine Eqv.shr1 ?_ | refine Ar.u64 (by omega) ?_) <;> conv => whnf) | (with_reducible exact trivial) | ((with_reducible refine And.intro ?_ ?_) <;> conv => whnf) | (intro gn; conv => whnf))
  all_goals (try simp only [Int.toNat_natCast] at *)
  · exact ⟨⟨(j + 1, R2, S2, A2, S2.length, c2), ⟨⟨hI2.old hc, rfl⟩, by dsimp only; omega, hqr2, hms⟩, by dsimp only; omega, (by repeat' (first | exact trivial | refine ⟨rfl, ?_⟩)), ⟨(by first | with_reducible exact CellLe.refl _ | exact CellLe.own | exact CellLe.i (by omega) | exact CellLe.nil | exact CellLe.slNil | exact CellLe.refl _), (by first | with_reducible exact CellLe.refl _ | exact CellLe.own | exact CellLe.i (by omega) | exact CellLe.nil | exact CellLe.slNil | exact CellLe.refl _), trivial⟩, HLe.pk (by
      conv => whnf
      refine PP.start ?_; repeat (first | exact PP.nil | refine PP.take (by first | with_reducible exact Hp.Sub.refl _ | exact Hp.Sub.rd (by omega) | exact Hp.Sub.boxA (by (repeat (first | exact all_lt_zero | refine all_lt_succ (p := fun j => CellLe _ _) (by first | with_reducible exact CellLe.refl _ | exact CellLe.own | exact CellLe.i (by omega) | exact CellLe.nil | exact CellLe.slNil | exact CellLe.refl _) ?_))) | exact Hp.Sub.refl _) ?_ | refine PP.skip ?_))⟩⟩
  · rename_i A3
    obtain ⟨hN, hm2⟩ := hI2.new hqr2 hjl (by omega) hc
    have hup : rg (R2.set (pix vs q j) true) q = true := by rw [rg_set (by omega)]; split <;> first | rfl | exact hqr2
    exact ⟨⟨(j + 1, R2.set (pix vs q j) true, S2 ++ [pix vs q j], A3, S2.length + 1, gn), ⟨⟨hN, by dsimp only; rw [List.length_append]; rfl⟩, by dsimp only; omega, hup, by dsimp only; omega⟩, by dsimp only; omega, (by repeat' (first | exact trivial | refine ⟨rfl, ?_⟩)), ⟨(by first | with_reducible exact CellLe.refl _ | exact CellLe.own | exact CellLe.i (by omega) | exact CellLe.nil | exact CellLe.slNil | exact CellLe.refl _), (by first | with_reducible exact CellLe.refl _ | exact CellLe.own | exact CellLe.i (by omega) | exact CellLe.nil | exact CellLe.slNil | exact CellLe.refl _), trivial⟩, HLe.pk (by
      conv => whnf
      refine PP.start ?_; repeat (first | exact PP.nil | refine PP.take (by first | with_reducible exact Hp.Sub.refl _ | exact Hp.Sub.rd (by omega) | exact Hp.Sub.rowA rfl (fun i j hi hj => put_bool (by omega) rfl hj) | exact Hp.Sub.rowA rfl (fun i j hi hj => wait_app rfl rfl hi hj) | exact Hp.Sub.boxA (by (repeat (first | exact all_lt_zero | refine all_lt_succ (p := fun j => CellLe _ _) (by first | with_reducible exact CellLe.refl _ | exact CellLe.own | exact CellLe.i (by omega) | exact CellLe.nil | exact CellLe.slNil | exact CellLe.refl _) ?_))) | exact Hp.Sub.refl _) ?_ | refine PP.skip ?_))⟩⟩⟩
end Go.Proofs.Ythajlhmebkjbbaa
