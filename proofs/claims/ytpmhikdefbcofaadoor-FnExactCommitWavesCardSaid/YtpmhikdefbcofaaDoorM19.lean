/- Texts of this proof put together: Ps, Pq, Bs, Frame. -/
import Derived.Shelf.Slices.SearchI
import Derived.Shelf.Slices.Empties
import Derived.Test.YtpmhikdefbcofaaDoorRows
import Derived.ProofKit
import Derived.Carry
import Derived.DataReads
import Derived.Test.YtpmhikdefbcofaaDoorM01
import Derived.Test.YtpmhikdefbcofaaDoorM02
import Derived.Test.YtpmhikdefbcofaaDoorM03
import Derived.Test.YtpmhikdefbcofaaDoorM04
import Derived.Test.YtpmhikdefbcofaaDoorM05
import Derived.Test.YtpmhikdefbcofaaDoorM06
import Derived.Test.YtpmhikdefbcofaaDoorM07
import Derived.Test.YtpmhikdefbcofaaDoorM08
import Derived.Test.YtpmhikdefbcofaaDoorM09
import Derived.Test.YtpmhikdefbcofaaDoorM10
import Derived.Test.YtpmhikdefbcofaaDoorM11
import Derived.Test.YtpmhikdefbcofaaDoorM12
import Derived.Test.YtpmhikdefbcofaaDoorM13
import Derived.Test.YtpmhikdefbcofaaDoorM14
import Derived.Test.YtpmhikdefbcofaaDoorM15
import Derived.Test.YtpmhikdefbcofaaDoorM16
import Derived.Test.YtpmhikdefbcofaaDoorM17
import Derived.Test.YtpmhikdefbcofaaDoorM18
/-! YtpmhikdefbcofaaDoorPs -/
set_option linter.all false
namespace Go.Proofs.YtpmhikdefbcofaaDoor
open Go.RowKit

def boolF (b : Bool) : Nat → SV := fun _ => .b b
abbrev bsl (R : List Bool) : SV := .sl 1 R.length (rowF boolF R)
/-- slots told anew -/
theorem HT.slots {P : Program} {n : Nat} {c : Code} {Q : Exit → St → Prop} {s : St} (chg : List (Nat × SV)) (h : ∀ w F, ChgW w F s.σ chg) (k : HT P n c Q ⟨updL s.σ chg, s.L, s.nx⟩) : HT P n c Q s :=
  HT.le (s' := ⟨updL s.σ chg, s.L, s.nx⟩) (fun n F a w hs => ⟨F, fun _ h => h, hs.size, hs.defers, ChgW.has hs.fr (h w F), hs.heap⟩) k
theorem rowB (R : List Bool) (i j : Nat) : rowF boolF R i j = .b (rg R i) := rfl
theorem put_bool {R : List Bool} {p i j : Nat} {fv : Nat → SV} (hp : p < R.length) (hv : fv 0 = .b true) (hj : j < 1) : putR p 0 1 fv (rowF boolF R) i j = rowF boolF (R.set p true) i j := by
  have hj : j = 0 := by omega
  subst hj
  rw [rowB, rg_set hp]
  unfold putR
  by_cases h : i = p
  · subst h
    rw [Nat.beq_refl, cond_true, if_pos rfl]
    exact hv
  · have e : Nat.beq i p = false := by rw [Bool.eq_false_iff]; exact fun hb => h (Nat.eq_of_beq_eq_true hb)
    rw [e, cond_false, if_neg h, rowB]
theorem start_bool {n p q i j : Nat} {fv : Nat → SV} (hp : p = q) (hq : q < n) (hv : fv 0 = .b true) (hj : j < 1) : putR p 0 1 fv (fun _ => zF [.bool false]) i j = rowF boolF ((List.replicate n false).set q true) i j := by
  subst hp
  rw [← put_bool (R := List.replicate n false) (fv := fv) (by simpa using hq) hv hj]
  obtain rfl : j = 0 := by omega
  unfold putR
  cases Nat.beq i p
  · show SV.b false = .b (rg (List.replicate n false) i)
    unfold rg
    rw [List.getD_eq_getElem?_getD, List.getElem?_replicate]
    split <;> rfl
  · rfl
theorem rg_rep {n i : Nat} : rg (List.replicate n false) i = false := by
  unfold rg
  rw [List.getD_eq_getElem?_getD, List.getElem?_replicate]
  split <;> rfl
theorem rep_bool {n i j : Nat} : SV.b false = rowF boolF (List.replicate n false) i j := by rw [rowB, rg_rep]
/-- the vertices that wait: pointers to them -/
abbrev waitF (vs : List Vx) (S : List Nat) : Nat → Nat → SV := fun i _ => ndU vs (S.getD i 0)
/-- marks under way: those that wait, the vertex at hand with j parents marked -/
structure PsI (vs : List Vx) (s : Nat) (R : List Bool) (S : List Nat) (q j : Nat) : Prop where
  len : R.length = vs.length
  st : rg R s = true
  anc : ∀ i, rg R i = true → Anc vs s i
  wt : ∀ i ∈ S, rg R i = true
  cl : ∀ i, rg R i = true → i ∈ S ∨ (i = q ∧ ∀ j', j' < j → rg R (pix vs q j') = true) ∨ ∀ j', j' < (vg vs i).ps.length → rg R (pix vs i j') = true
  sz : 2 * R.count false + S.length ≤ 2 * vs.length + 1
structure PsO (vs : List Vx) (s : Nat) (R : List Bool) (S : List Nat) : Prop where
  len : R.length = vs.length
  st : rg R s = true
  anc : ∀ i, rg R i = true → Anc vs s i
  wt : ∀ i ∈ S, rg R i = true
  cl : ∀ i, rg R i = true → i ∈ S ∨ ∀ j', j' < (vg vs i).ps.length → rg R (pix vs i j') = true
  sz : 2 * R.count false + S.length ≤ 2 * vs.length + 1
theorem PsO.start {vs : List Vx} {s : Nat} (hs : s < vs.length) : PsO vs s ((List.replicate vs.length false).set s true) [s] := by
  have hl : s < (List.replicate vs.length false).length := by simpa using hs
  have e : ∀ i, rg ((List.replicate vs.length false).set s true) i = true → i = s := fun i hi => by
    rw [rg_set hl] at hi
    by_cases h : i = s
    · exact h
    · rw [if_neg h, rg_rep] at hi; cases hi
  refine ⟨by simp, by rw [rg_set hl, if_pos rfl], fun i hi => by rw [e i hi]; exact .self, fun i hi => by rw [List.mem_singleton.1 hi, rg_set hl, if_pos rfl], fun i hi => .inl (by rw [e i hi]; simp), ?_⟩
  have := count_set (R := List.replicate vs.length false) (p := s) hl rg_rep
  simp at this ⊢
  omega
theorem PsO.pop {vs : List Vx} {s : Nat} {R : List Bool} {S : List Nat} {k q : Nat} (h : PsO vs s R S) (hk : S.length = k + 1) (hq : S.getD k 0 = q) : PsI vs s R (S.take k) q 0 ∧ rg R q = true := by
  have e : S = S.take k ++ [q] := by
    rw [← hq, List.getD_eq_getElem?_getD, List.getElem?_eq_getElem (by omega : k < S.length)]
    conv => lhs; rw [← List.take_length (l := S), hk]
    exact List.take_succ_eq_append_getElem (by omega)
  have hm : ∀ i, i ∈ S ↔ i ∈ S.take k ∨ i = q := fun i => by
    constructor
    · intro h; rw [e] at h; simpa using h
    · intro h; rw [e]; simpa using h
  refine ⟨⟨h.len, h.st, h.anc, fun i hi => h.wt i ((hm i).2 (.inl hi)), fun i hi => ?_, ?_⟩, h.wt q ((hm q).2 (.inr rfl))⟩
  · rcases h.cl i hi with h1 | h1
    · rcases (hm i).1 h1 with h2 | h2
      · exact .inl h2
      · exact .inr (.inl ⟨h2, fun j' hj => absurd hj (by omega)⟩)
    · exact .inr (.inr h1)
  · have := h.sz
    rw [List.length_take]; omega
theorem PsI.old {vs : List Vx} {s : Nat} {R : List Bool} {S : List Nat} {q j : Nat} (h : PsI vs s R S q j) (hp : rg R (pix vs q j) = true) : PsI vs s R S q (j + 1) :=
  ⟨h.len, h.st, h.anc, h.wt, fun i hi => by
    rcases h.cl i hi with h1 | ⟨h1, h2⟩ | h1
    · exact .inl h1
    · exact .inr (.inl ⟨h1, all_lt_succ hp h2⟩)
    · exact .inr (.inr h1), h.sz⟩
theorem PsI.new {vs : List Vx} {s : Nat} {R : List Bool} {S : List Nat} {q j : Nat} (h : PsI vs s R S q j) (hq : rg R q = true) (hj : j < (vg vs q).ps.length) (hl : pix vs q j < vs.length) (hp : rg R (pix vs q j) = false) :
    PsI vs s (R.set (pix vs q j) true) (S ++ [pix vs q j]) q (j + 1) ∧ 2 * (R.set (pix vs q j) true).count false + (S ++ [pix vs q j]).length + 1 = 2 * R.count false + S.length := by
  have hl' : pix vs q j < R.length := by rw [h.len]; exact hl
  have hc := count_set hl' hp
  have up : ∀ i, rg R i = true → rg (R.set (pix vs q j) true) i = true := fun i hi => by rw [rg_set hl']; split <;> first | rfl | exact hi
  have self : rg (R.set (pix vs q j) true) (pix vs q j) = true := by rw [rg_set hl', if_pos rfl]
  refine ⟨⟨by rw [List.length_set]; exact h.len, up _ h.st, fun i hi => ?_, fun i hi => ?_, fun i hi => ?_, ?_⟩, ?_⟩
  · rw [rg_set hl'] at hi
    by_cases e : i = pix vs q j
    · rw [e]; exact .step (h.anc q hq) hj
    · rw [if_neg e] at hi; exact h.anc i hi
  · rcases List.mem_append.1 hi with hi | hi
    · exact up _ (h.wt i hi)
    · rw [List.mem_singleton.1 hi]; exact self
  · by_cases e : i = pix vs q j
    · exact .inl (List.mem_append_right _ (by rw [e]; exact List.mem_singleton_self _))
    · rw [rg_set hl', if_neg e] at hi
      rcases h.cl i hi with h1 | ⟨h1, h2⟩ | h1
      · exact .inl (List.mem_append_left _ h1)
      · exact .inr (.inl ⟨h1, all_lt_succ self fun j' hj' => up _ (h2 j' hj')⟩)
      · exact .inr (.inr fun j' hj' => up _ (h1 j' hj'))
  · have := h.sz
    rw [List.length_append]; simp; omega
  · rw [List.length_append]; simp; omega
theorem PsI.done {vs : List Vx} {s : Nat} {R : List Bool} {S : List Nat} {q : Nat} (h : PsI vs s R S q (vg vs q).ps.length) : PsO vs s R S :=
  ⟨h.len, h.st, h.anc, h.wt, fun i hi => by
    rcases h.cl i hi with h1 | ⟨rfl, h2⟩ | h1
    · exact .inl h1
    · exact .inr h2
    · exact .inr h1, h.sz⟩
theorem PsO.cor {c : List Int} {vs : List Vx} {s : Nat} {R : List Bool} (hg : GoodN c vs vs.length) (hs : s < vs.length) (h : PsO vs s R []) : Cor vs s R :=
  Cor.of hg hs h.len h.st (fun i hi j hj => by
    rcases h.cl i hi with h1 | h1
    · cases h1
    · exact h1 j hj) h.anc
theorem wait_app {vs : List Vx} {S : List Nat} {p i j n : Nat} {g0 : Nat → Nat → SV} (hn : n = S.length) (h : g0 0 0 = ndU vs p) (hi : i < n + 1) (hj : j < 1) : catF n (waitF vs S) g0 i j = waitF vs (S ++ [p]) i j := by
  subst hn
  obtain rfl : j = 0 := by omega
  unfold catF
  show _ = ndU vs ((S ++ [p]).getD i 0)
  by_cases hlt : i < S.length
  · rw [if_pos hlt, List.getD_eq_getElem?_getD, List.getElem?_append_left hlt, ← List.getD_eq_getElem?_getD]
  · obtain rfl : i = S.length := by omega
    rw [if_neg hlt, Nat.sub_self, h]
    simp
theorem wait_one {vs : List Vx} {s i j : Nat} {fv : Nat → SV} {f0 : Nat → Nat → SV} (h : fv 0 = ndU vs s) (hi : i < 1) (hj : j < 1) : putR 0 0 1 fv f0 i j = waitF vs [s] i j := by
  obtain rfl : i = 0 := by omega
  obtain rfl : j = 0 := by omega
  rw [putR_self, h]
  rfl
theorem wait_take {vs : List Vx} {S : List Nat} {k i j : Nat} (hi : i < k) : waitF vs S i j = waitF vs (S.take k) i j := by
  show ndU vs (S.getD i 0) = ndU vs ((S.take k).getD i 0)
  rw [List.getD_eq_getElem?_getD, List.getD_eq_getElem?_getD, List.getElem?_take, if_pos hi]
/-- the marked indexes, as a list that was made -/
abbrev PastL (vs : List Vx) (s : Nat) (l : List Int) : Prop := ∃ R, Cor vs s R ∧ l = idxTo R vs.length
set_option maxRecDepth 100000 in
set_option maxHeartbeats 1000000 in
theorem past_o (c : List Int) (vs : List Vx) (s : Nat) (hcm : cmOk c = true) (hg : GoodN c vs vs.length) (hs : s < vs.length) (hv : vs.length ≤ 10000000) : SNew Tryd.prog 89 [.pp 219 (grF c vs (.sl 1 vs.length fun i _ => ndV vs i)), ndU vs s] (MadeL (PastL vs s) 3) := ⟨fun R => by
  refine SCalls.enter tt_ok Tryd.func89 (by kernel_rfl) rfl [(900, .cust R)] rfl (argF _) (fun w F v k h => h) (by simp) ?_
  repeat' (first | (with_reducible first | refine HT.seq ?_ | refine HT.block ?_ | refine Br.not ?_) | ((with_reducible first | refine HT.region tt_ok ?_ | refine HT.drawn tt_ok (by kernel_rfl) (by decide +kernel) ?_ | refine HT.drawnL tt_ok (by kernel_rfl) (by decide +kernel) ?_ | refine HT.cond ?_ | refine HT.ret ?_ | refine HT.skip ?_ | refine HT.exit ?_ | refine Br.tt ?_ | refine Br.ff ?_); conv => whnf) | ((with_reducible first | refine Br.dec (fun hc => ?_) (fun hc => ?_) | refine Br.eq (fun hc => ?_) (fun hc => ?_) | refine Br.ne (fun hc => ?_) (fun hc => ?_)) <;> (first | (exfalso; omega) | conv => whnf)) | ((with_reducible first | refine Br.ttE (by decide) ?_ | refine Br.ffE (by decide) ?_ | refine Br.mk (fun hc => ?_) (fun hc => ?_) | refine Chk.mk (by first | omega | with_reducible rfl | (refine ⟨rfl, ?_⟩; omega) | decide | exact ⟨rfl, by omega, by omega, rfl⟩ | exact ⟨by assumption, rfl, by omega, by omega⟩) ?_ | refine Ar.fit (by omega) ?_ | refine Eqv.shr1 ?_ | refine Ar.u64 (by omega) ?_) <;> conv => whnf) | (with_reducible exact trivial) | ((with_reducible refine And.intro ?_ ?_) <;> conv => whnf) | (intro gn; conv => whnf))
  rename_i ga gb hga
  refine HT.loopC [0, 1, 4, 5, 10, 11, 12, 70, 71, 72, 73, 77] (fun x : List Bool × List Nat × Option Addr × Nat × Nat => [(6, .own 101 (.slice x.2.2.1 x.2.2.2.1 x.2.2.2.2))]) (fun x : List Bool × List Nat × Option Addr × Nat × Nat => [(100, .cells (rowF boolF x.1)), (101, .row (.slice x.2.2.1 x.2.2.2.1 x.2.2.2.2) x.2.2.2.1 (waitF vs x.2.1))]) (fun x : List Bool × List Nat × Option Addr × Nat × Nat => PsO vs s x.1 x.2.1 ∧ x.2.2.2.1 = x.2.1.length) (fun x : List Bool × List Nat × Option Addr × Nat × Nat => 2 * x.1.count false + x.2.1.length) ((List.replicate vs.length false).set s true, [s], some ⟨gn, 0, none⟩, 1, 1) ⟨PsO.start hs, rfl⟩ ⟨(by first | with_reducible exact CellLe.refl _ | exact CellLe.own | exact CellLe.i (by omega) | exact CellLe.nil | exact CellLe.slNil | exact CellLe.refl _), trivial⟩ ?_ ?_
  · conv => whnf
    refine PP.start ?_; repeat (first | exact PP.nil | refine PP.take (by first | with_reducible exact Hp.Sub.refl _ | exact Hp.Sub.rd (by omega) | exact Hp.Sub.rowA rfl (fun i j hi hj => start_bool (Int.toNat_natCast _) hs rfl hj) | exact Hp.Sub.rowA rfl (fun i j hi hj => wait_one rfl hi hj) | exact Hp.Sub.boxA (by (repeat (first | exact all_lt_zero | refine all_lt_succ (p := fun j => CellLe _ _) (by first | with_reducible exact CellLe.refl _ | exact CellLe.own | exact CellLe.i (by omega) | exact CellLe.nil | exact CellLe.slNil | exact CellLe.refl _) ?_))) | exact Hp.Sub.refl _) ?_ | refine PP.skip ?_)
  conv => whnf
  rintro ⟨R1, S1, A, q0, cp⟩ ⟨hP, hq0⟩
  dsimp only at hP hq0 ⊢
  subst hq0
  have hsz := hP.sz
  have hlen := hP.len
  obtain ⟨q, hq⟩ : ∃ q, S1.getD ((S1.length : Int) - 1).toNat 0 = q := ⟨_, rfl⟩
  conv => whnf
  repeat' (first | (with_reducible first | refine HT.seq ?_ | refine HT.block ?_ | refine Br.not ?_) | ((with_reducible first | refine HT.region tt_ok ?_ | refine HT.drawn tt_ok (by kernel_rfl) (by decide +kernel) ?_ | refine HT.drawnL tt_ok (by kernel_rfl) (by decide +kernel) ?_ | refine HT.cond ?_ | refine HT.ret ?_ | refine HT.skip ?_ | refine HT.exit ?_ | refine Br.tt ?_ | refine Br.ff ?_); conv => whnf) | ((with_reducible first | refine Br.dec (fun hc => ?_) (fun hc => ?_) | refine Br.eq (fun hc => ?_) (fun hc => ?_) | refine Br.ne (fun hc => ?_) (fun hc => ?_)) <;> (first | (exfalso; omega) | conv => whnf)) | ((with_reducible first | refine Br.ttE (by decide) ?_ | refine Br.ffE (by decide) ?_ | refine Br.mk (fun hc => ?_) (fun hc => ?_) | refine Chk.mk (by first | omega | with_reducible rfl | (refine ⟨rfl, ?_⟩; omega) | decide | exact ⟨rfl, by omega, by omega, rfl⟩ | exact ⟨by assumption, rfl, by omega, by omega⟩) ?_ | refine Ar.fit (by omega) ?_ | refine Eqv.shr1 ?_ | refine Ar.u64 (by omega) ?_) <;> conv => whnf) | (with_reducible exact trivial) | ((with_reducible refine And.intro ?_ ?_) <;> conv => whnf) | (intro gn; conv => whnf))
  rotate_left
  · obtain rfl : S1 = [] := List.eq_nil_of_length_eq_zero (by omega)
    have hcor := hP.cor hg hs
    clear hq hP hsz
    refine HT.loopC [0, 1, 4, 5, 6, 7, 9, 29, 44, 45, 46, 47, 57, 70, 71] (fun x : Nat × Option Addr × Nat × Nat => [(72, .i x.1), (10, .own 102 (.slice x.2.1 x.2.2.1 x.2.2.2))]) (fun x : Nat × Option Addr × Nat × Nat => [(102, .row (.slice x.2.1 x.2.2.1 x.2.2.2) x.2.2.1 (rowF intF (idxTo R1 x.1)))]) (fun x : Nat × Option Addr × Nat × Nat => x.1 ≤ vs.length ∧ x.2.2.1 = (idxTo R1 x.1).length) (fun x : Nat × Option Addr × Nat × Nat => vs.length - x.1) (0, some ⟨gn, 0, none⟩, 0, 0) ⟨Nat.zero_le _, rfl⟩ ⟨(by first | with_reducible exact CellLe.refl _ | exact CellLe.own | exact CellLe.i (by omega) | exact CellLe.nil | exact CellLe.slNil | exact CellLe.refl _), (by first | with_reducible exact CellLe.refl _ | exact CellLe.own | exact CellLe.i (by omega) | exact CellLe.nil | exact CellLe.slNil | exact CellLe.refl _), trivial⟩ ?_ ?_
    · conv => whnf
      refine PP.start ?_; repeat (first | exact PP.nil | refine PP.take (by first | with_reducible exact Hp.Sub.refl _ | exact Hp.Sub.rd (by omega) | exact Hp.Sub.rowA rfl (fun i j hi hj => absurd hi (by omega)) | exact Hp.Sub.boxA (by (repeat (first | exact all_lt_zero | refine all_lt_succ (p := fun j => CellLe _ _) (by first | with_reducible exact CellLe.refl _ | exact CellLe.own | exact CellLe.i (by omega) | exact CellLe.nil | exact CellLe.slNil | exact CellLe.refl _) ?_))) | exact Hp.Sub.refl _) ?_ | refine PP.skip ?_)
    conv => whnf
    rintro ⟨k, A3, n3, c3⟩ ⟨hk, hn3⟩
    dsimp only at hk hn3 ⊢
    subst hn3
    have hil := idx_len (R := R1) (k := k)
    conv => whnf
    repeat' (first | (with_reducible first | refine HT.seq ?_ | refine HT.block ?_ | refine Br.not ?_) | ((with_reducible first | refine HT.region tt_ok ?_ | refine HT.drawn tt_ok (by kernel_rfl) (by decide +kernel) ?_ | refine HT.drawnL tt_ok (by kernel_rfl) (by decide +kernel) ?_ | refine HT.cond ?_ | refine HT.ret ?_ | refine HT.skip ?_ | refine HT.exit ?_ | refine Br.tt ?_ | refine Br.ff ?_); conv => whnf) | ((with_reducible first | refine Br.dec (fun hc => ?_) (fun hc => ?_) | refine Br.eq (fun hc => ?_) (fun hc => ?_) | refine Br.ne (fun hc => ?_) (fun hc => ?_)) <;> (first | (exfalso; omega) | conv => whnf)) | ((with_reducible first | refine Br.ttE (by decide) ?_ | refine Br.ffE (by decide) ?_ | refine Br.mk (fun hc => ?_) (fun hc => ?_) | refine Chk.mk (by first | omega | with_reducible rfl | (refine ⟨rfl, ?_⟩; omega) | decide | exact ⟨rfl, by omega, by omega, rfl⟩ | exact ⟨by assumption, rfl, by omega, by omega⟩) ?_ | refine Ar.fit (by omega) ?_ | refine Eqv.shr1 ?_ | refine Ar.u64 (by omega) ?_) <;> conv => whnf) | (with_reducible exact trivial) | ((with_reducible refine And.intro ?_ ?_) <;> conv => whnf) | (intro gn; conv => whnf))
    all_goals (try simp only [Int.toNat_natCast] at *)
    · rename_i A4
      have hb : rg R1 k = true := by assumption
      exact ⟨⟨(k + 1, A4, (idxTo R1 k).length + 1, gn), ⟨by dsimp only; omega, by dsimp only; rw [idx1 hb, List.length_append]; rfl⟩, by dsimp only; omega, (by repeat' (first | exact trivial | refine ⟨rfl, ?_⟩)), ⟨(by first | with_reducible exact CellLe.refl _ | exact CellLe.own | exact CellLe.i (by omega) | exact CellLe.nil | exact CellLe.slNil | exact CellLe.refl _), (by first | with_reducible exact CellLe.refl _ | exact CellLe.own | exact CellLe.i (by omega) | exact CellLe.nil | exact CellLe.slNil | exact CellLe.refl _), trivial⟩, HLe.pk (by
        conv => whnf
        refine PP.start ?_; repeat (first | exact PP.nil | refine PP.take (by first | with_reducible exact Hp.Sub.refl _ | exact Hp.Sub.rd (by omega) | exact Hp.Sub.rowA rfl (fun i j hi hj => by rw [idx1 hb]; exact cat_int hi rfl hj) | exact Hp.Sub.boxA (by (repeat (first | exact all_lt_zero | refine all_lt_succ (p := fun j => CellLe _ _) (by first | with_reducible exact CellLe.refl _ | exact CellLe.own | exact CellLe.i (by omega) | exact CellLe.nil | exact CellLe.slNil | exact CellLe.refl _) ?_))) | exact Hp.Sub.refl _) ?_ | refine PP.skip ?_))⟩⟩
    · have hb : rg R1 k = false := hc
      exact ⟨⟨(k + 1, A3, (idxTo R1 k).length, c3), ⟨by dsimp only; omega, by dsimp only; rw [idx0 hb]⟩, by dsimp only; omega, (by repeat' (first | exact trivial | refine ⟨rfl, ?_⟩)), ⟨(by first | with_reducible exact CellLe.refl _ | exact CellLe.own | exact CellLe.i (by omega) | exact CellLe.nil | exact CellLe.slNil | exact CellLe.refl _), (by first | with_reducible exact CellLe.refl _ | exact CellLe.own | exact CellLe.i (by omega) | exact CellLe.nil | exact CellLe.slNil | exact CellLe.refl _), trivial⟩, HLe.pk (by
        conv => whnf
        refine PP.start ?_; repeat (first | exact PP.nil | refine PP.take (by first | with_reducible exact Hp.Sub.refl _ | exact Hp.Sub.rd (by omega) | exact Hp.Sub.rowA rfl (fun i j hi hj => by rw [idx0 hb]) | exact Hp.Sub.boxA (by (repeat (first | exact all_lt_zero | refine all_lt_succ (p := fun j => CellLe _ _) (by first | with_reducible exact CellLe.refl _ | exact CellLe.own | exact CellLe.i (by omega) | exact CellLe.nil | exact CellLe.slNil | exact CellLe.refl _) ?_))) | exact Hp.Sub.refl _) ?_ | refine PP.skip ?_))⟩⟩
    · obtain rfl : k = vs.length := by omega
      exact Fin.news [_] (fun _ => 0) (by refine PP.start ?_; repeat (first | exact PP.nil | refine PP.take (by first | with_reducible exact Hp.Sub.refl _ | exact Hp.Sub.rd (by omega) | exact Hp.Sub.rowA (by first | rfl | simp) (fun i j hi hj => rfl) | exact Hp.Sub.boxA (by (repeat (first | exact all_lt_zero | refine all_lt_succ (p := fun j => CellLe _ _) (by first | with_reducible exact CellLe.refl _ | exact CellLe.own | exact CellLe.i (by omega) | exact CellLe.nil | exact CellLe.slNil | exact CellLe.refl _) ?_))) | exact Hp.Sub.refl _) ?_ | refine PP.skip ?_)) ⟨idxTo R1 vs.length, _, _, _, (by exact ⟨R1, hcor, rfl⟩), (by first | rfl | omega | (simp <;> omega)), rfl, rfl⟩
  rename_i gw hgw A0
  have hk1 : ((S1.length : Int) - 1).toNat = S1.length - 1 := by omega
  obtain ⟨hI, hqr⟩ := hP.pop (k := S1.length - 1) (q := q) (by omega) (by rw [← hq, hk1])
  have hql : q < vs.length := by rw [← hlen]; exact rg_lt hqr
  have hpl : (vg vs q).ps.length ≤ 7 := by
    have h1 := ms_len (vxOk_iff (st_parts (hg q hql)).1).2.2.1
    have h2 := (cmOk_iff.1 hcm).1
    omega
  refine HT.slots [(44, .sl 1 (vg vs q).ps.length fun j _ => ndU vs (pix vs q j)), (45, .i (vg vs q).ps.length)] (fun w F => ⟨fun x hx => ?_, fun x hx => ?_, trivial⟩) ?_
  · subst hq
    exact Has.slL (fun i k hi hk x hx => LeW.of_eq (parV_eq hg hql (Nat.le_refl _) hi) x hx) hx
  · subst hq
    exact hx
  refine HT.loopC [0, 1, 4, 5, 7, 10, 11, 12, 29, 44, 45, 70, 71, 72, 73, 77] (fun x : Nat × List Bool × List Nat × Option Addr × Nat × Nat => [(46, .i x.1), (6, .own 102 (.slice x.2.2.2.1 x.2.2.2.2.1 x.2.2.2.2.2))]) (fun x : Nat × List Bool × List Nat × Option Addr × Nat × Nat => [(100, .cells (rowF boolF x.2.1)), (102, .row (.slice x.2.2.2.1 x.2.2.2.2.1 x.2.2.2.2.2) x.2.2.2.2.1 (waitF vs x.2.2.1))]) (fun x : Nat × List Bool × List Nat × Option Addr × Nat × Nat => (PsI vs s x.2.1 x.2.2.1 q x.1 ∧ x.2.2.2.2.1 = x.2.2.1.length) ∧ x.1 ≤ (vg vs q).ps.length ∧ rg x.2.1 q = true ∧ 2 * x.2.1.count false + x.2.2.1.length < 2 * R1.count false + S1.length) (fun x : Nat × List Bool × List Nat × Option Addr × Nat × Nat => (vg vs q).ps.length - x.1) (0, R1, S1.take (S1.length - 1), A0, ((S1.length : Int) - 1).toNat, gn) ⟨⟨hI, by dsimp only; rw [List.length_take]; omega⟩, Nat.zero_le _, hqr, by dsimp only; rw [List.length_take]; omega⟩ ⟨(by first | with_reducible exact CellLe.refl _ | exact CellLe.own | exact CellLe.i (by omega) | exact CellLe.nil | exact CellLe.slNil | exact CellLe.refl _), (by first | with_reducible exact CellLe.refl _ | exact CellLe.own | exact CellLe.i (by omega) | exact CellLe.nil | exact CellLe.slNil | exact CellLe.refl _), trivial⟩ ?_ ?_
  · conv => whnf
    refine PP.start ?_; repeat (first | exact PP.nil | refine PP.take (by first | with_reducible exact Hp.Sub.refl _ | exact Hp.Sub.rd (by omega) | exact Hp.Sub.rowA rfl (fun i j hi hj => wait_take (by omega)) | exact Hp.Sub.boxA (by (repeat (first | exact all_lt_zero | refine all_lt_succ (p := fun j => CellLe _ _) (by first | with_reducible exact CellLe.refl _ | exact CellLe.own | exact CellLe.i (by omega) | exact CellLe.nil | exact CellLe.slNil | exact CellLe.refl _) ?_))) | exact Hp.Sub.refl _) ?_ | refine PP.skip ?_)
  conv => whnf
  rintro ⟨j, R2, S2, A2, n2, c2⟩ ⟨⟨hI2, hn2⟩, hj, hqr2, hms⟩
  dsimp only at hI2 hn2 hj hqr2 hms ⊢
  subst hn2
  have hsz2 := hI2.sz
  have hlen2 := hI2.len
  by_cases hjl : j < (vg vs q).ps.length
  rotate_left
  · obtain rfl : j = (vg vs q).ps.length := by omega
    conv => whnf
    repeat' (first | (with_reducible first | refine HT.seq ?_ | refine HT.block ?_ | refine Br.not ?_) | ((with_reducible first | refine HT.region tt_ok ?_ | refine HT.drawn tt_ok (by kernel_rfl) (by decide +kernel) ?_ | refine HT.drawnL tt_ok (by kernel_rfl) (by decide +kernel) ?_ | refine HT.cond ?_ | refine HT.ret ?_ | refine HT.skip ?_ | refine HT.exit ?_ | refine Br.tt ?_ | refine Br.ff ?_); conv => whnf) | ((with_reducible first | refine Br.dec (fun hc => ?_) (fun hc => ?_) | refine Br.eq (fun hc => ?_) (fun hc => ?_) | refine Br.ne (fun hc => ?_) (fun hc => ?_)) <;> (first | (exfalso; omega) | conv => whnf)) | ((with_reducible first | refine Br.ttE (by decide) ?_ | refine Br.ffE (by decide) ?_ | refine Br.mk (fun hc => ?_) (fun hc => ?_) | refine Chk.mk (by first | omega | with_reducible rfl | (refine ⟨rfl, ?_⟩; omega) | decide | exact ⟨rfl, by omega, by omega, rfl⟩ | exact ⟨by assumption, rfl, by omega, by omega⟩) ?_ | refine Ar.fit (by omega) ?_ | refine Eqv.shr1 ?_ | refine Ar.u64 (by omega) ?_) <;> conv => whnf) | (with_reducible exact trivial) | ((with_reducible refine And.intro ?_ ?_) <;> conv => whnf) | (intro gn; conv => whnf))
    exact ⟨⟨(R2, S2, A2, S2.length, c2), ⟨hI2.done, rfl⟩, by dsimp only; omega, (by repeat' (first | exact trivial | refine ⟨rfl, ?_⟩)), ⟨(by first | with_reducible exact CellLe.refl _ | exact CellLe.own | exact CellLe.i (by omega) | exact CellLe.nil | exact CellLe.slNil | exact CellLe.refl _), trivial⟩, HLe.pk (by
      conv => whnf
      refine PP.start ?_; repeat (first | exact PP.nil | refine PP.take (by first | with_reducible exact Hp.Sub.refl _ | exact Hp.Sub.rd (by omega) | exact Hp.Sub.boxA (by (repeat (first | exact all_lt_zero | refine all_lt_succ (p := fun j => CellLe _ _) (by first | with_reducible exact CellLe.refl _ | exact CellLe.own | exact CellLe.i (by omega) | exact CellLe.nil | exact CellLe.slNil | exact CellLe.refl _) ?_))) | exact Hp.Sub.refl _) ?_ | refine PP.skip ?_))⟩⟩
  have hpx := (hg.pix hql (Nat.le_refl _) hjl).2
  have hpx2 : pix vs q ((j : Int)).toNat < q := by rw [Int.toNat_natCast]; exact hpx
  conv => whnf
  repeat' (first | (with_reducible first | refine HT.seq ?_ | refine HT.block ?_ | refine Br.not ?_) | ((with_reducible first | refine HT.region tt_ok ?_ | refine HT.drawn tt_ok (by kernel_rfl) (by decide +kernel) ?_ | refine HT.drawnL tt_ok (by kernel_rfl) (by decide +kernel) ?_ | refine HT.cond ?_ | refine HT.ret ?_ | refine HT.skip ?_ | refine HT.exit ?_ | refine Br.tt ?_ | refine Br.ff ?_); conv => whnf) | ((with_reducible first | refine Br.dec (fun hc => ?_) (fun hc => ?_) | refine Br.eq (fun hc => ?_) (fun hc => ?_) | refine Br.ne (fun hc => ?_) (fun hc => ?_)) <;> (first | (exfalso; omega) | conv => whnf)) | ((with_reducible first | refine Br.ttE (by decide) ?_ | refine Br.ffE (by decide) ?_ | refine Br.mk (fun hc => ?_) (fun hc => ?_) | refine Chk.mk (by first | omega | with_reducible rfl | (refine ⟨rfl, ?_⟩; omega) | decide | exact ⟨rfl, by omega, by omega, rfl⟩ | exact ⟨by assumption, rfl, by omega, by omega⟩) ?_ | refine Ar.fit (by omega) ?_ | refine Eqv.shr1 ?_ | refine Ar.u64 (by omega) ?_) <;> conv => whnf) | (with_reducible exact trivial) | ((with_reducible refine And.intro ?_ ?_) <;> conv => whnf) | (intro gn; conv => whnf))
  all_goals (try simp only [Int.toNat_natCast] at *)
  · exact ⟨⟨(j + 1, R2, S2, A2, S2.length, c2), ⟨⟨hI2.old hc, rfl⟩, by dsimp only; omega, hqr2, hms⟩, by dsimp only; omega, (by repeat' (first | exact trivial | refine ⟨rfl, ?_⟩)), ⟨(by first | with_reducible exact CellLe.refl _ | exact CellLe.own | exact CellLe.i (by omega) | exact CellLe.nil | exact CellLe.slNil | exact CellLe.refl _), (by first | with_reducible exact CellLe.refl _ | exact CellLe.own | exact CellLe.i (by omega) | exact CellLe.nil | exact CellLe.slNil | exact CellLe.refl _), trivial⟩, HLe.pk (by
      conv => whnf
      refine PP.start ?_; repeat (first | exact PP.nil | refine PP.take (by first | with_reducible exact Hp.Sub.refl _ | exact Hp.Sub.rd (by omega) | exact Hp.Sub.boxA (by (repeat (first | exact all_lt_zero | refine all_lt_succ (p := fun j => CellLe _ _) (by first | with_reducible exact CellLe.refl _ | exact CellLe.own | exact CellLe.i (by omega) | exact CellLe.nil | exact CellLe.slNil | exact CellLe.refl _) ?_))) | exact Hp.Sub.refl _) ?_ | refine PP.skip ?_))⟩⟩
  · rename_i A3
    obtain ⟨hN, hm2⟩ := hI2.new hqr2 hjl (by omega) hc
    have hup : rg (R2.set (pix vs q j) true) q = true := by rw [rg_set (by omega)]; split <;> first | rfl | exact hqr2
    exact ⟨⟨(j + 1, R2.set (pix vs q j) true, S2 ++ [pix vs q j], A3, S2.length + 1, gn), ⟨⟨hN, by dsimp only; rw [List.length_append]; rfl⟩, by dsimp only; omega, hup, by dsimp only; omega⟩, by dsimp only; omega, (by repeat' (first | exact trivial | refine ⟨rfl, ?_⟩)), ⟨(by first | with_reducible exact CellLe.refl _ | exact CellLe.own | exact CellLe.i (by omega) | exact CellLe.nil | exact CellLe.slNil | exact CellLe.refl _), (by first | with_reducible exact CellLe.refl _ | exact CellLe.own | exact CellLe.i (by omega) | exact CellLe.nil | exact CellLe.slNil | exact CellLe.refl _), trivial⟩, HLe.pk (by
      conv => whnf
      refine PP.start ?_; repeat (first | exact PP.nil | refine PP.take (by first | with_reducible exact Hp.Sub.refl _ | exact Hp.Sub.rd (by omega) | exact Hp.Sub.rowA rfl (fun i j hi hj => put_bool (by omega) rfl hj) | exact Hp.Sub.rowA rfl (fun i j hi hj => wait_app rfl rfl hi hj) | exact Hp.Sub.boxA (by (repeat (first | exact all_lt_zero | refine all_lt_succ (p := fun j => CellLe _ _) (by first | with_reducible exact CellLe.refl _ | exact CellLe.own | exact CellLe.i (by omega) | exact CellLe.nil | exact CellLe.slNil | exact CellLe.refl _) ?_))) | exact Hp.Sub.refl _) ?_ | refine PP.skip ?_))⟩⟩⟩
end Go.Proofs.YtpmhikdefbcofaaDoor
/-! YtpmhikdefbcofaaDoorPq -/
set_option linter.all false
namespace Go.Proofs.YtpmhikdefbcofaaDoor
open Go.RowKit

/-- the reference's marks: all vertices from m on that are marked have their parents marked -/
structure LpO (vs : List Vx) (s : Nat) (R : List Bool) (m : Nat) : Prop where
  len : R.length = vs.length
  st : rg R s = true
  anc : ∀ i, rg R i = true → Anc vs s i
  cl : ∀ i, rg R i = true → i < m ∨ ∀ j', j' < (vg vs i).ps.length → rg R (pix vs i j') = true
/-- the same with j parents of vertex m under way -/
structure LpI (vs : List Vx) (s : Nat) (R : List Bool) (m j : Nat) : Prop where
  len : R.length = vs.length
  st : rg R s = true
  anc : ∀ i, rg R i = true → Anc vs s i
  cl : ∀ i, rg R i = true → i < m ∨ (i = m ∧ ∀ j', j' < j → rg R (pix vs m j') = true) ∨ ∀ j', j' < (vg vs i).ps.length → rg R (pix vs i j') = true
theorem LpO.start {vs : List Vx} {s : Nat} (hs : s < vs.length) : LpO vs s ((List.replicate vs.length false).set s true) (s + 1) := by
  have h := PsO.start hs
  refine ⟨h.len, h.st, h.anc, fun i hi => .inl ?_⟩
  have hl : s < (List.replicate vs.length false).length := by simpa using hs
  rw [rg_set hl] at hi
  by_cases e : i = s
  · omega
  · rw [if_neg e, rg_rep] at hi; cases hi
theorem LpO.open {vs : List Vx} {s : Nat} {R : List Bool} {m : Nat} (h : LpO vs s R (m + 1)) : LpI vs s R m 0 :=
  ⟨h.len, h.st, h.anc, fun i hi => by
    rcases h.cl i hi with h1 | h1
    · rcases Nat.lt_succ_iff_lt_or_eq.1 h1 with h2 | h2
      · exact .inl h2
      · exact .inr (.inl ⟨h2, fun j' hj => absurd hj (by omega)⟩)
    · exact .inr (.inr h1)⟩
theorem LpI.next {vs : List Vx} {s : Nat} {R : List Bool} {m j : Nat} (h : LpI vs s R m j) (hm : rg R m = true) (hj : j < (vg vs m).ps.length) (hp : pix vs m j < m) : LpI vs s (R.set (pix vs m j) true) m (j + 1) ∧ rg (R.set (pix vs m j) true) m = true := by
  have hp' : pix vs m j < R.length := by have := rg_lt hm; omega
  have up : ∀ i, rg R i = true → rg (R.set (pix vs m j) true) i = true := fun i hi => by rw [rg_set hp']; split <;> first | rfl | exact hi
  have self : rg (R.set (pix vs m j) true) (pix vs m j) = true := by rw [rg_set hp', if_pos rfl]
  refine ⟨⟨by rw [List.length_set]; exact h.len, up _ h.st, fun i hi => ?_, fun i hi => ?_⟩, up _ hm⟩
  · rw [rg_set hp'] at hi
    by_cases e : i = pix vs m j
    · rw [e]; exact .step (h.anc m hm) hj
    · rw [if_neg e] at hi; exact h.anc i hi
  · by_cases e2 : i = pix vs m j
    · exact .inl (by rw [e2]; exact hp)
    · rw [rg_set hp', if_neg e2] at hi
      rcases h.cl i hi with h1 | ⟨h1, h2⟩ | h1
      · exact .inl h1
      · exact .inr (.inl ⟨h1, all_lt_succ self fun j' hj' => up _ (h2 j' hj')⟩)
      · exact .inr (.inr fun j' hj' => up _ (h1 j' hj'))
theorem LpI.done {vs : List Vx} {s : Nat} {R : List Bool} {m : Nat} (h : LpI vs s R m (vg vs m).ps.length) : LpO vs s R m :=
  ⟨h.len, h.st, h.anc, fun i hi => by
    rcases h.cl i hi with h1 | ⟨rfl, h2⟩ | h1
    · exact .inl h1
    · exact .inr h2
    · exact .inr h1⟩
theorem LpI.off {vs : List Vx} {s : Nat} {R : List Bool} {m j : Nat} (h : LpI vs s R m j) (hm : rg R m = false) : LpO vs s R m :=
  ⟨h.len, h.st, h.anc, fun i hi => by
    rcases h.cl i hi with h1 | ⟨rfl, h2⟩ | h1
    · exact .inl h1
    · rw [hm] at hi; cases hi
    · exact .inr h1⟩
theorem LpO.cor {c : List Int} {vs : List Vx} {s : Nat} {R : List Bool} (hg : GoodN c vs vs.length) (hs : s < vs.length) (h : LpO vs s R 0) : Cor vs s R :=
  Cor.of hg hs h.len h.st (fun i hi j hj => by
    rcases h.cl i hi with h1 | h1
    · omega
    · exact h1 j hj) h.anc
/-- marks were made -/
def MadeB (P : List Bool → Prop) (e : TypeId) (r : SV) (N : List Hp) : Prop :=
  ∃ l A n c, P l ∧ n = l.length ∧ r = .own 0 (.slice A n c) ∧ N = [.row (.slice A n c) e 1 l.length (rowF boolF l)]
theorem MadeB.free {P : List Bool → Prop} {e : TypeId} {r : SV} {N : List Hp} (h : MadeB P e r N) : r.free ∧ ∀ p ∈ N, p.free := by
  obtain ⟨l, A, n, c, _, _, rfl, rfl⟩ := h
  exact ⟨trivial, fun p hp => by rw [List.mem_singleton.1 hp]; exact fun i k hi hk => trivial⟩
theorem SNew.stillBo {Pr : Program} {f : FuncId} {ss : List SV} {P : List Bool → Prop} {e : TypeId} (h : SNew Pr f ss (MadeB P e)) : SRet Pr f ss fun r => ∃ l, P l ∧ r = bsl l :=
  h.frozen fun r N ⟨l, A, n, c, hP, _, hr, hN⟩ => by
    subst hr hN
    exact ⟨_, ⟨l, hP, rfl⟩, fun R => Ent.row fun w F x hv hx => by have e : x = _ := hx; subst e; exact hv⟩
theorem rep_bool1 {n i j : Nat} (hj : j < 1) : zF [.bool false] j = rowF boolF (List.replicate n false) i j := by
  obtain rfl : j = 0 := by omega
  exact rep_bool
theorem l11PastN_o (vs : List Vx) (hv : vs.length ≤ 10000000) : SNew Tryd.prog 73 [vsl vs, .i (-1)] (MadeB (· = List.replicate vs.length false) 4) := ⟨fun R => by
  refine SCalls.enter tt_ok Tryd.func73 (by kernel_rfl) rfl [(900, .cust R)] rfl (argF _) (fun w F v k h => h) (by simp) ?_
  repeat' (first | (with_reducible first | refine HT.seq ?_ | refine HT.block ?_ | refine Br.not ?_) | ((with_reducible first | refine HT.region tt_ok ?_ | refine HT.drawn tt_ok (by kernel_rfl) (by decide +kernel) ?_ | refine HT.drawnL tt_ok (by kernel_rfl) (by decide +kernel) ?_ | refine HT.cond ?_ | refine HT.ret ?_ | refine HT.skip ?_ | refine HT.exit ?_ | refine Br.tt ?_ | refine Br.ff ?_); conv => whnf) | ((with_reducible first | refine Br.dec (fun hc => ?_) (fun hc => ?_) | refine Br.eq (fun hc => ?_) (fun hc => ?_) | refine Br.ne (fun hc => ?_) (fun hc => ?_)) <;> (first | (exfalso; omega) | conv => whnf)) | ((with_reducible first | refine Br.ttE (by decide) ?_ | refine Br.ffE (by decide) ?_ | refine Br.mk (fun hc => ?_) (fun hc => ?_) | refine Chk.mk (by first | omega | with_reducible rfl | (refine ⟨rfl, ?_⟩; omega) | decide | exact ⟨rfl, by omega, by omega, rfl⟩ | exact ⟨by assumption, rfl, by omega, by omega⟩) ?_ | refine Ar.fit (by omega) ?_ | refine Eqv.shr1 ?_ | refine Ar.u64 (by omega) ?_) <;> conv => whnf) | (with_reducible exact trivial) | ((with_reducible refine And.intro ?_ ?_) <;> conv => whnf) | (intro gn; conv => whnf))
  exact Fin.news [_] (fun _ => 0) (by refine PP.start ?_; repeat (first | exact PP.nil | refine PP.take (by first | with_reducible exact Hp.Sub.refl _ | exact Hp.Sub.rd (by omega) | exact Hp.Sub.rowA (by first | (simp; done) | (simp; omega)) (fun i j hi hj => rep_bool1 hj) | exact Hp.Sub.boxA (by (repeat (first | exact all_lt_zero | refine all_lt_succ (p := fun j => CellLe _ _) (by first | with_reducible exact CellLe.refl _ | exact CellLe.own | exact CellLe.i (by omega) | exact CellLe.nil | exact CellLe.slNil | exact CellLe.refl _) ?_))) | exact Hp.Sub.refl _) ?_ | refine PP.skip ?_)) ⟨List.replicate vs.length false, _, _, _, rfl, (by first | (simp; done) | (simp; omega)), rfl, rfl⟩⟩
set_option maxRecDepth 100000 in
set_option maxHeartbeats 1000000 in
theorem l11PastS_o (c : List Int) (vs : List Vx) (s : Nat) (hcm : cmOk c = true) (hg : GoodN c vs vs.length) (hs : s < vs.length) (hv : vs.length ≤ 10000000) : SNew Tryd.prog 73 [vsl vs, .i s] (MadeB (Cor vs s) 4) := ⟨fun R => by
  refine SCalls.enter tt_ok Tryd.func73 (by kernel_rfl) rfl [(900, .cust R)] rfl (argF _) (fun w F v k h => h) (by simp) ?_
  repeat' (first | (with_reducible first | refine HT.seq ?_ | refine HT.block ?_ | refine Br.not ?_) | ((with_reducible first | refine HT.region tt_ok ?_ | refine HT.drawn tt_ok (by kernel_rfl) (by decide +kernel) ?_ | refine HT.drawnL tt_ok (by kernel_rfl) (by decide +kernel) ?_ | refine HT.cond ?_ | refine HT.ret ?_ | refine HT.skip ?_ | refine HT.exit ?_ | refine Br.tt ?_ | refine Br.ff ?_); conv => whnf) | ((with_reducible first | refine Br.dec (fun hc => ?_) (fun hc => ?_) | refine Br.eq (fun hc => ?_) (fun hc => ?_) | refine Br.ne (fun hc => ?_) (fun hc => ?_)) <;> (first | (exfalso; omega) | conv => whnf)) | ((with_reducible first | refine Br.ttE (by decide) ?_ | refine Br.ffE (by decide) ?_ | refine Br.mk (fun hc => ?_) (fun hc => ?_) | refine Chk.mk (by first | omega | with_reducible rfl | (refine ⟨rfl, ?_⟩; omega) | decide | exact ⟨rfl, by omega, by omega, rfl⟩ | exact ⟨by assumption, rfl, by omega, by omega⟩) ?_ | refine Ar.fit (by omega) ?_ | refine Eqv.shr1 ?_ | refine Ar.u64 (by omega) ?_) <;> conv => whnf) | (with_reducible exact trivial) | ((with_reducible refine And.intro ?_ ?_) <;> conv => whnf) | (intro gn; conv => whnf))
  refine HT.loopC [0, 1, 4, 5, 12] (fun x : Nat × List Bool => [(6, .i ((x.1 : Int) - 1))]) (fun x : Nat × List Bool => [(100, .cells (rowF boolF x.2))]) (fun x : Nat × List Bool => LpO vs s x.2 x.1 ∧ x.1 ≤ s + 1) (fun x : Nat × List Bool => x.1) (s + 1, (List.replicate vs.length false).set s true) ⟨LpO.start hs, Nat.le_refl _⟩ ⟨(by first | with_reducible exact CellLe.refl _ | exact CellLe.own | exact CellLe.i (by omega) | exact CellLe.nil | exact CellLe.slNil | exact CellLe.refl _), trivial⟩ ?_ ?_
  · conv => whnf
    refine PP.start ?_; repeat (first | exact PP.nil | refine PP.take (by first | with_reducible exact Hp.Sub.refl _ | exact Hp.Sub.rd (by omega) | exact Hp.Sub.rowA rfl (fun i j hi hj => start_bool (Int.toNat_natCast _) hs rfl hj) | exact Hp.Sub.boxA (by (repeat (first | exact all_lt_zero | refine all_lt_succ (p := fun j => CellLe _ _) (by first | with_reducible exact CellLe.refl _ | exact CellLe.own | exact CellLe.i (by omega) | exact CellLe.nil | exact CellLe.slNil | exact CellLe.refl _) ?_))) | exact Hp.Sub.refl _) ?_ | refine PP.skip ?_)
  conv => whnf
  rintro ⟨m, R1⟩ ⟨hP, hm⟩
  dsimp only at hP hm ⊢
  have hlen := hP.len
  cases m with
  | zero =>
    have hcor := hP.cor hg hs
    conv => whnf
    repeat' (first | (with_reducible first | refine HT.seq ?_ | refine HT.block ?_ | refine Br.not ?_) | ((with_reducible first | refine HT.region tt_ok ?_ | refine HT.drawn tt_ok (by kernel_rfl) (by decide +kernel) ?_ | refine HT.drawnL tt_ok (by kernel_rfl) (by decide +kernel) ?_ | refine HT.cond ?_ | refine HT.ret ?_ | refine HT.skip ?_ | refine HT.exit ?_ | refine Br.tt ?_ | refine Br.ff ?_); conv => whnf) | ((with_reducible first | refine Br.dec (fun hc => ?_) (fun hc => ?_) | refine Br.eq (fun hc => ?_) (fun hc => ?_) | refine Br.ne (fun hc => ?_) (fun hc => ?_)) <;> (first | (exfalso; omega) | conv => whnf)) | ((with_reducible first | refine Br.ttE (by decide) ?_ | refine Br.ffE (by decide) ?_ | refine Br.mk (fun hc => ?_) (fun hc => ?_) | refine Chk.mk (by first | omega | with_reducible rfl | (refine ⟨rfl, ?_⟩; omega) | decide | exact ⟨rfl, by omega, by omega, rfl⟩ | exact ⟨by assumption, rfl, by omega, by omega⟩) ?_ | refine Ar.fit (by omega) ?_ | refine Eqv.shr1 ?_ | refine Ar.u64 (by omega) ?_) <;> conv => whnf) | (with_reducible exact trivial) | ((with_reducible refine And.intro ?_ ?_) <;> conv => whnf) | (intro gn; conv => whnf))
    exact Fin.news [_] (fun _ => 0) (by refine PP.start ?_; repeat (first | exact PP.nil | refine PP.take (by first | with_reducible exact Hp.Sub.refl _ | exact Hp.Sub.rd (by omega) | exact Hp.Sub.rowA (by first | (simp; done) | (simp; omega)) (fun i j hi hj => rfl) | exact Hp.Sub.boxA (by (repeat (first | exact all_lt_zero | refine all_lt_succ (p := fun j => CellLe _ _) (by first | with_reducible exact CellLe.refl _ | exact CellLe.own | exact CellLe.i (by omega) | exact CellLe.nil | exact CellLe.slNil | exact CellLe.refl _) ?_))) | exact Hp.Sub.refl _) ?_ | refine PP.skip ?_)) ⟨R1, _, _, _, hcor, (by first | (simp; done) | (simp; omega)), rfl, rfl⟩
  | succ m =>
    refine HT.slots [(6, .i m)] (fun w F => ⟨fun x hx => LeW.of_eq (sv_i (by omega)) x hx, trivial⟩) ?_
    have hml : m < vs.length := by omega
    have hI0 := hP.open
    have hpl : (vg vs m).ps.length ≤ 7 := by
      have h1 := ms_len (vxOk_iff (st_parts (hg m hml)).1).2.2.1
      have h2 := (cmOk_iff.1 hcm).1
      omega
    have hbd := vxOk_iff (st_parts (hg m hml)).1
    have hpe : (vs.getD ((m : Int)).toNat default).ps.length = (vg vs m).ps.length := by rw [Int.toNat_natCast]
    have hre : (vs.getD ((m : Int)).toNat default).r = (vg vs m).r := by rw [Int.toNat_natCast]
    conv => whnf
    repeat' (first | (with_reducible first | refine HT.seq ?_ | refine HT.block ?_ | refine Br.not ?_) | ((with_reducible first | refine HT.region tt_ok ?_ | refine HT.drawn tt_ok (by kernel_rfl) (by decide +kernel) ?_ | refine HT.drawnL tt_ok (by kernel_rfl) (by decide +kernel) ?_ | refine HT.cond ?_ | refine HT.ret ?_ | refine HT.skip ?_ | refine HT.exit ?_ | refine Br.tt ?_ | refine Br.ff ?_); conv => whnf) | ((with_reducible first | refine Br.dec (fun hc => ?_) (fun hc => ?_) | refine Br.eq (fun hc => ?_) (fun hc => ?_) | refine Br.ne (fun hc => ?_) (fun hc => ?_)) <;> (first | (exfalso; omega) | conv => whnf)) | ((with_reducible first | refine Br.ttE (by decide) ?_ | refine Br.ffE (by decide) ?_ | refine Br.mk (fun hc => ?_) (fun hc => ?_) | refine Chk.mk (by first | omega | with_reducible rfl | (refine ⟨rfl, ?_⟩; omega) | decide | exact ⟨rfl, by omega, by omega, rfl⟩ | exact ⟨by assumption, rfl, by omega, by omega⟩) ?_ | refine Ar.fit (by omega) ?_ | refine Eqv.shr1 ?_ | refine Ar.u64 (by omega) ?_) <;> conv => whnf) | (with_reducible exact trivial) | ((with_reducible refine And.intro ?_ ?_) <;> conv => whnf) | (intro gn; conv => whnf))
    refine HT.loopC [0, 1, 4, 5, 6, 12, 19] (fun x : Nat × List Bool => [(7, .i x.1)]) (fun x : Nat × List Bool => [(100, .cells (rowF boolF x.2))]) (fun x : Nat × List Bool => LpI vs s x.2 m x.1 ∧ x.1 ≤ (vg vs m).ps.length) (fun x : Nat × List Bool => (vg vs m).ps.length - x.1) (0, R1) ⟨hI0, Nat.zero_le _⟩ ⟨(by first | with_reducible exact CellLe.refl _ | exact CellLe.own | exact CellLe.i (by omega) | exact CellLe.nil | exact CellLe.slNil | exact CellLe.refl _), trivial⟩ ?_ ?_
    · conv => whnf
      refine PP.start ?_; repeat (first | exact PP.nil | refine PP.take (by first | with_reducible exact Hp.Sub.refl _ | exact Hp.Sub.rd (by omega) | exact Hp.Sub.boxA (by (repeat (first | exact all_lt_zero | refine all_lt_succ (p := fun j => CellLe _ _) (by first | with_reducible exact CellLe.refl _ | exact CellLe.own | exact CellLe.i (by omega) | exact CellLe.nil | exact CellLe.slNil | exact CellLe.refl _) ?_))) | exact Hp.Sub.refl _) ?_ | refine PP.skip ?_)
    conv => whnf
    rintro ⟨j, R2⟩ ⟨hI, hj⟩
    dsimp only at hI hj ⊢
    have hlen2 := hI.len
    by_cases hjl : j < (vg vs m).ps.length
    rotate_left
    · obtain rfl : j = (vg vs m).ps.length := by omega
      conv => whnf
      repeat' (first | (with_reducible first | refine HT.seq ?_ | refine HT.block ?_ | refine Br.not ?_) | ((with_reducible first | refine HT.region tt_ok ?_ | refine HT.drawn tt_ok (by kernel_rfl) (by decide +kernel) ?_ | refine HT.drawnL tt_ok (by kernel_rfl) (by decide +kernel) ?_ | refine HT.cond ?_ | refine HT.ret ?_ | refine HT.skip ?_ | refine HT.exit ?_ | refine Br.tt ?_ | refine Br.ff ?_); conv => whnf) | ((with_reducible first | refine Br.dec (fun hc => ?_) (fun hc => ?_) | refine Br.eq (fun hc => ?_) (fun hc => ?_) | refine Br.ne (fun hc => ?_) (fun hc => ?_)) <;> (first | (exfalso; omega) | conv => whnf)) | ((with_reducible first | refine Br.ttE (by decide) ?_ | refine Br.ffE (by decide) ?_ | refine Br.mk (fun hc => ?_) (fun hc => ?_) | refine Chk.mk (by first | omega | with_reducible rfl | (refine ⟨rfl, ?_⟩; omega) | decide | exact ⟨rfl, by omega, by omega, rfl⟩ | exact ⟨by assumption, rfl, by omega, by omega⟩) ?_ | refine Ar.fit (by omega) ?_ | refine Eqv.shr1 ?_ | refine Ar.u64 (by omega) ?_) <;> conv => whnf) | (with_reducible exact trivial) | ((with_reducible refine And.intro ?_ ?_) <;> conv => whnf) | (intro gn; conv => whnf))
      all_goals all_goals (try simp only [Int.toNat_natCast] at *)
      all_goals first
        | (exfalso; omega)
        | skip
      exact ⟨⟨(m, R2), ⟨hI.done, by omega⟩, by dsimp only; omega, (by repeat' (first | exact trivial | refine ⟨rfl, ?_⟩)), ⟨(by first | with_reducible exact CellLe.refl _ | exact CellLe.own | exact CellLe.i (by omega) | exact CellLe.nil | exact CellLe.slNil | exact CellLe.refl _), trivial⟩, HLe.pk (by
        conv => whnf
        refine PP.start ?_; repeat (first | exact PP.nil | refine PP.take (by first | with_reducible exact Hp.Sub.refl _ | exact Hp.Sub.rd (by omega) | exact Hp.Sub.boxA (by (repeat (first | exact all_lt_zero | refine all_lt_succ (p := fun j => CellLe _ _) (by first | with_reducible exact CellLe.refl _ | exact CellLe.own | exact CellLe.i (by omega) | exact CellLe.nil | exact CellLe.slNil | exact CellLe.refl _) ?_))) | exact Hp.Sub.refl _) ?_ | refine PP.skip ?_))⟩⟩
    have hpx := (hg.pix hml (Nat.le_refl _) hjl).2
    have hF : SRet Tryd.prog 57 [vsl vs, .i ((vs.getD ((m : Int)).toNat default).r - 1), .i ((vs.getD ((m : Int)).toNat default).ps.getD ((j : Int)).toNat default)] (· = .i (pix vs m j)) := by
      have hF := l11Find_c vs ((vg vs m).r - 1) ((vg vs m).ps.getD j default) hv
      rw [fdI_some (hg.pix hml (Nat.le_refl _) hjl).1] at hF
      rw [Int.toNat_natCast, Int.toNat_natCast]
      exact hF
    conv => whnf
    repeat' (first | (with_reducible first | refine HT.seq ?_ | refine HT.block ?_ | refine Br.not ?_) | ((with_reducible first | refine HT.region tt_ok ?_ | refine HT.drawn tt_ok (by kernel_rfl) (by decide +kernel) ?_ | refine HT.drawnL tt_ok (by kernel_rfl) (by decide +kernel) ?_ | refine HT.cond ?_ | refine HT.ret ?_ | refine HT.skip ?_ | refine HT.exit ?_ | refine Br.tt ?_ | refine Br.ff ?_); conv => whnf) | ((with_reducible first | refine Br.dec (fun hc => ?_) (fun hc => ?_) | refine Br.eq (fun hc => ?_) (fun hc => ?_) | refine Br.ne (fun hc => ?_) (fun hc => ?_)) <;> (first | (exfalso; omega) | conv => whnf)) | ((with_reducible first | refine Br.ttE (by decide) ?_ | refine Br.ffE (by decide) ?_ | refine Br.mk (fun hc => ?_) (fun hc => ?_) | refine Chk.mk (by first | omega | with_reducible rfl | (refine ⟨rfl, ?_⟩; omega) | decide | exact ⟨rfl, by omega, by omega, rfl⟩ | exact ⟨by assumption, rfl, by omega, by omega⟩) ?_ | refine Ar.fit (by omega) ?_ | refine Eqv.shr1 ?_ | refine Ar.u64 (by omega) ?_) <;> conv => whnf) | ((first | refine CallN.ret1 (hF) ?_) <;> conv => whnf) | (with_reducible exact trivial) | ((with_reducible refine And.intro ?_ ?_) <;> conv => whnf) | (intro gn; conv => whnf))
    all_goals all_goals (try simp only [Int.toNat_natCast] at *)
    · obtain ⟨hN, hup⟩ := hI.next (by assumption) hjl hpx
      exact ⟨⟨(j + 1, R2.set (pix vs m j) true), ⟨hN, by dsimp only; omega⟩, by dsimp only; omega, (by repeat' (first | exact trivial | refine ⟨rfl, ?_⟩)), ⟨(by first | with_reducible exact CellLe.refl _ | exact CellLe.own | exact CellLe.i (by omega) | exact CellLe.nil | exact CellLe.slNil | exact CellLe.refl _), trivial⟩, HLe.pk (by
        conv => whnf
        refine PP.start ?_; repeat (first | exact PP.nil | refine PP.take (by first | with_reducible exact Hp.Sub.refl _ | exact Hp.Sub.rd (by omega) | exact Hp.Sub.rowA rfl (fun i j hi hj => put_bool (by omega) rfl hj) | exact Hp.Sub.boxA (by (repeat (first | exact all_lt_zero | refine all_lt_succ (p := fun j => CellLe _ _) (by first | with_reducible exact CellLe.refl _ | exact CellLe.own | exact CellLe.i (by omega) | exact CellLe.nil | exact CellLe.slNil | exact CellLe.refl _) ?_))) | exact Hp.Sub.refl _) ?_ | refine PP.skip ?_))⟩⟩
    · exact ⟨⟨(m, R2), ⟨hI.off (by assumption), by omega⟩, by dsimp only; omega, (by repeat' (first | exact trivial | refine ⟨rfl, ?_⟩)), ⟨(by first | with_reducible exact CellLe.refl _ | exact CellLe.own | exact CellLe.i (by omega) | exact CellLe.nil | exact CellLe.slNil | exact CellLe.refl _), trivial⟩, HLe.pk (by
        conv => whnf
        refine PP.start ?_; repeat (first | exact PP.nil | refine PP.take (by first | with_reducible exact Hp.Sub.refl _ | exact Hp.Sub.rd (by omega) | exact Hp.Sub.boxA (by (repeat (first | exact all_lt_zero | refine all_lt_succ (p := fun j => CellLe _ _) (by first | with_reducible exact CellLe.refl _ | exact CellLe.own | exact CellLe.i (by omega) | exact CellLe.nil | exact CellLe.slNil | exact CellLe.refl _) ?_))) | exact Hp.Sub.refl _) ?_ | refine PP.skip ?_))⟩⟩⟩
/-- what GraphPast gives -/
def GpP (c : List Int) (vs : List Vx) (r a : Int) (l : List Int) : Prop :=
  (∃ s R, grOk c vs = true ∧ fdV vs r a = some s ∧ Cor vs s R ∧ l = idxTo R vs.length) ∨ (l = [] ∧ (grOk c vs = false ∨ fdV vs r a = none))
theorem GpP.uniq {c : List Int} {vs : List Vx} {r a : Int} {l l' : List Int} (h : GpP c vs r a l) (h' : GpP c vs r a l') : l = l' := by
  rcases h with ⟨s, R, h1, h2, h3, rfl⟩ | ⟨rfl, h1⟩
  · rcases h' with ⟨s', R', g1, g2, g3, rfl⟩ | ⟨rfl, g1⟩
    · rw [h2] at g2
      injection g2 with g2
      subst g2
      rw [h3.uniq g3]
    · rw [h1, h2] at g1
      rcases g1 with g1 | g1 <;> cases g1
  · rcases h' with ⟨s', R', g1, g2, g3, rfl⟩ | ⟨rfl, g1⟩
    · rw [g1, g2] at h1
      rcases h1 with h1 | h1 <;> cases h1
    · rfl
theorem GpP.len {c : List Int} {vs : List Vx} {r a : Int} {l : List Int} (h : GpP c vs r a l) : l.length ≤ vs.length := by
  rcases h with ⟨s, R, h1, h2, h3, rfl⟩ | ⟨rfl, h1⟩
  · exact idx_len
  · exact Nat.zero_le _
theorem idx_rep {n : Nat} : ∀ {k : Nat}, idxTo (List.replicate n false) k = []
  | 0 => rfl
  | k + 1 => by rw [idx0 rg_rep, idx_rep]
end Go.Proofs.YtpmhikdefbcofaaDoor
/-! YtpmhikdefbcofaaDoorBs -/
set_option linter.all false
namespace Go.Proofs.YtpmhikdefbcofaaDoor
open Go.RowKit Go.Shelf

def rnS : Ren :=
  { f := fun x => match x with
      | 25 => 90
      | 31 => 100
      | 32 => 101
      | 37 => 102
      | n => n
    t := fun x => match x with
      | 22 => 22
      | 3 => 3
      | 4 => 4
      | 40 => 127
      | 0 => 0
      | n => n
    g := fun n => n }
set_option maxRecDepth 100000 in
theorem laysS : Lays2.n25 Tryd.prog rnS :=
  { mixed := rfl, f25 := Tryd.func90.trans (congrArg some rfl), f31 := Tryd.func100.trans (congrArg some rfl), f32 := Tryd.func101.trans (congrArg some rfl), f37 := Tryd.func102.trans (congrArg some rfl)
    t0 := Tryd.underlying0, a0 := Tryd.isAgg0, z0 := Tryd.sizeOf0, v0 := Tryd.zeroValue0
    t3 := Tryd.underlying3, a3 := Tryd.isAgg3, z3 := Tryd.sizeOf3, v3 := Tryd.zeroValue3
    t4 := Tryd.underlying4, a4 := Tryd.isAgg4, z4 := Tryd.sizeOf4, v4 := Tryd.zeroValue4
    t22 := Tryd.underlying22, a22 := Tryd.isAgg22, z22 := Tryd.sizeOf22, v22 := Tryd.zeroValue22
    t40 := Tryd.underlying127, a40 := Tryd.isAgg127, z40 := Tryd.sizeOf127, v40 := Tryd.zeroValue127 }
theorem bins_c (l : List Int) (x : Int) (hl : l.length ≤ 1000000000) (hs : l.Pairwise (· ≤ ·)) : SRet Tryd.prog 90 [isl l, .i x] (· = .tup 2 (litF [.i (l.countP fun y => decide (y < x)), .b (l.contains x)])) := ⟨fun R => by
  refine ⟨callable_of Tryd.func90 (by kernel_rfl) (by kernel_rfl), fun w F vs hsat hv => ?_⟩
  have fin : ∀ w' : World, (∃ q, w' = w.drewN q) → ∃ v, Ending.returned (.tuple #[.int .i64 (l.countP fun y => decide (y < x)), .bool (l.contains x)]) = .returned v ∧ ∃ r F' H', (H' = [Hp.cust R] ∧ r = .tup 2 (litF [.i (l.countP fun y => decide (y < x)), .b (l.contains x)])) ∧ Keep F w w' ∧ (∀ b, F b → F' b) ∧ HSat w' F' H' ∧ Has w' F' r v := by
    rintro w' ⟨q, rfl⟩
    refine ⟨_, rfl, _, F, _, ⟨rfl, rfl⟩, ⟨rfl, rfl, rfl, Nat.le_refl _, fun _ _ => rfl, Nat.le_add_right _ _⟩, fun _ h => h, hsat.same (Nat.le_refl _) (fun _ _ => rfl), _, rfl, rfl, fun k hk => ?_⟩
    rcases (by omega : k = 0 ∨ k = 1) with rfl | rfl <;> rfl
  match vs, hv with
  | [v0, v1], ⟨⟨A, c, e0, hn, hc, h⟩, h1, _⟩ =>
    have e1 : v1 = .int .i64 x := h1
    subst e0 e1
    by_cases h0 : l.length = 0
    · obtain rfl : l = [] := List.length_eq_zero_iff.1 h0
      refine (Any.slices_BinarySearch_int_empty laysS A c x w).mono ?_
      rintro e w' ⟨rfl, hw⟩
      exact fin w' ⟨0, hw⟩
    · obtain ⟨b, off, rfl, hb, hcell⟩ := h (by omega)
      have hz : l.take l.length = l := List.take_length
      refine (Any.slices_BinarySearch_int laysS b off l.length c l x w (Nat.le_refl _) (by omega) (fun j hj => ?_) (by rw [hz]; exact hs)).mono ?_
      · obtain ⟨u, hu, _, hx⟩ := hcell j 0 hj (by omega)
        have e : u = .int .i64 (l.getD j default) := hx
        rw [e, Nat.mul_one, Nat.add_zero] at hu
        exact hu
      · rintro e w' ⟨rfl, hq⟩
        rw [hz]
        exact fin w' hq⟩
end Go.Proofs.YtpmhikdefbcofaaDoor
/-! YtpmhikdefbcofaaDoorFrame -/
set_option linter.all false

set_option maxRecDepth 100000
namespace Go.Proofs.YtpmhikdefbcofaaDoor
open Go.ChangeShapes Go.WideShapes Go.ChangeAt Go.RowKit

theorem Tryd.own : ownKnob Tryd.prog.godebug = none := by kernel_rfl
theorem Tryd.laidOut : laidOutB Tryd.prog = true := by kernel_rfl

section
variable {H : Type} {enc : TypeId × Value → H}
theorem trodAll_below {W W' : World} (hb : Below W.heap.size W W') : ∀ {ts : List TypeId} {vs : List Value} {ds : List (DataW H)} {ps : List MemPlace}, (∀ t ∈ ts, Tryd.prog.readableRec t = true ∧ t < Tryd.prog.types.size) →
    DataW.TrodAll enc Tryd.prog W 0 (fun _ => true) true ts vs ds ps → (∀ x ∈ ps, x.block < W.heap.size) → DataW.TrodAll enc Tryd.prog W' 0 (fun b => decide (b < W.heap.size)) true ts vs ds ps
  | [], [], [], ps, _, h, _ => h
  | t :: ts, v :: vs, d :: ds, ps, hr, ⟨p, q, h1, h2, e⟩, hl => by
    subst e
    exact ⟨p, q, Below.trod Tryd.laidOut (hr t List.mem_cons_self).1 (hr t List.mem_cons_self).2 h1 hb fun x hx => hl x (List.mem_append_left _ hx),
      trodAll_below hb (fun t ht => hr t (List.mem_cons_of_mem _ ht)) h2 fun x hx => hl x (List.mem_append_right _ hx), rfl⟩
  | [], _ :: _, _, _, _, h, _ => h.elim
  | [], [], _ :: _, _, _, h, _ => h.elim
  | _ :: _, [], _, _, _, h, _ => h.elim
  | _ :: _, _ :: _, [], _, _, h, _ => h.elim

/-- the types of the parameters can be read -/
theorem readable_ok {ts : List TypeId} (h : (ts.all fun t => Tryd.prog.readableRec t && Nat.blt t Tryd.prog.types.size) = true) : ∀ t ∈ ts, Tryd.prog.readableRec t = true ∧ t < Tryd.prog.types.size := fun t ht => by
  have := List.all_eq_true.1 h t ht
  rw [Bool.and_eq_true] at this
  exact ⟨this.1, Nat.le_of_ble_eq_true this.2⟩


theorem law_lifted {f : FuncId} {fn : Func} {s : ChangeSpec} {os : Os} (started : os.Started) (hfn : Tryd.checked.prog.funcs[f]? = some fn) (hno : Tryd.checked.prog.inits.idxOf? f = none) {bt : TypeId} (hbt : Tryd.prog.underlying bt = some .bool) (hrt : fn.resultTypes = #[bt])
    (hpr : (fn.params.toList.all fun t => Tryd.prog.readableRec t && Nat.blt t Tryd.prog.types.size) = true) (hv : s.vars = []) (hs : ∀ ds : List (DataW H), ds.length = fn.params.size → (s.fn H (ds ++ [])).results = [.lit (.bool true)] ∧ (s.fn H (ds ++ [])).args = ds ∧ (s.fn H (ds ++ [])).vars = [])
    (wit : ∃ (w : World) (tape : Tape) (i : Input), w.os = os ∧ (w.forCall tape i).Shaped Tryd.checked.prog ∧ i.vars = [] ∧ Input.okWide Tryd.checked.prog (w.forCall tape i) .any w.heap.size f i ∧
      s.pre6 enc Tryd.checked.prog fn [] false (w.forCall tape i).memory i.args ∧ ({} : Assume).holds Tryd.checked.prog (lone (Frame.enter Tryd.checked.prog f i.args .normal) [] (w.forCall tape i)))
    (hc : ∀ (W : World) (base : Nat) (args : Array Value) (ds : List (DataW H)) (ps : List MemPlace), (∀ (j : Nat) t v, fn.params[j]? = some t → args[j]? = some v → Value.okWide Tryd.prog W .any base t v) →
      DataW.TrodAll enc Tryd.prog W 0 (fun _ => true) true fn.params.toList args.toList ds ps → Calls Tryd.prog f args W fun e W' => e = .returned (.bool true) ∧ Below W.heap.size W W') :
    ReturnsInHanded {} Tryd.checked os f .any (s.pre6 enc Tryd.checked.prog fn [] false) (s.post enc Tryd.checked.prog fn false true false false) := by
  refine returnsInHanded_of_change (C := Tryd.checked) Tryd.own started hno hfn wit ?_
  intro W base args ds gs before hval hW hcnd _
  have hW' := hW
  obtain ⟨p, q, hA0, hV, rfl, hfz, hnd⟩ := hW
  have hA : DataW.TrodAll enc Tryd.prog W 0 (fun _ => true) true fn.params.toList args.toList ds p := hA0
  have hl : ds.length = fn.params.size := by
    have : ∀ (ts : List TypeId) (vs : List Value) (ds : List (DataW H)) (p : List MemPlace), DataW.TrodAll enc Tryd.prog W 0 (fun _ => true) true ts vs ds p → ds.length = ts.length := by
      intro ts
      induction ts with
      | nil => intro vs ds p h; cases vs <;> cases ds <;> simp [DataW.TrodAll] at h ⊢
      | cons t ts ih => intro vs ds p h; cases vs <;> cases ds <;> simp [DataW.TrodAll] at h ⊢; obtain ⟨_, _, _, h, _⟩ := h; exact ih _ _ _ h
    have := this _ _ _ _ hA
    simpa using this
  rw [hv] at hV
  have hg : gs = [] ∧ q = [] := by cases gs <;> simp [DataW.TrodVars] at hV; exact ⟨rfl, hV⟩
  obtain ⟨rfl, rfl⟩ := hg
  obtain ⟨hs1, hs2, hs3⟩ := hs ds hl
  refine (hc W base args ds p hval hA).mono fun e W' ⟨he, hb⟩ => ⟨_, he, ds, [], _, [], p, [], hW', ?_, ?_, ?_, hb.frame _, fun h => by cases h⟩
  · rw [hs1, hrt]
    exact trodAll_mk1 (shut_bool hbt true)
  · rw [hs2]
    exact trodAll_below hb (readable_ok hpr) hA fun x hx => hW'.lt x (by simpa using hx)
  · rw [hs3, hv]
    exact rfl

/-- a code that came in, as data -/

theorem code_has {t e : TypeId} (ht : Tryd.prog.underlying t = some (.slice e)) (he : Tryd.prog.underlying e = some (.int .u8)) (hc : Tryd.prog.cellsOf e = 1) {W : World} {v : Value} {d : DataW H} {p : List MemPlace} {base : Nat} (hv : Value.okWide Tryd.prog W .any base t v) (h : DataW.Trod enc Tryd.prog W 0 (fun _ => true) true t v d p) :
    ∃ zs : List Int, Has W (fun b => b < W.heap.size) (.sl 1 zs.length (rowF u8F zs)) v ∧ (∀ z ∈ zs, 0 ≤ z ∧ z ≤ 255) := by
  obtain ⟨a0, len, cap, rfl⟩ := okWide_slice ht hv
  obtain ⟨fuel, hf⟩ := h
  rcases open_ints ht he hc hf with ⟨hcs, hx⟩ | ⟨a, len', cap', zs, hcs, _, hl, hm, hz, hx, hcell, hwz⟩
  · simp [Value.cells] at hcs
    obtain ⟨rfl, rfl, rfl⟩ := hcs
    exact ⟨[], ⟨none, 0, rfl, Nat.le_refl _, Nat.zero_le _, fun h => absurd h (by simp)⟩, by simp⟩
  · simp [Value.cells] at hcs
    obtain ⟨rfl, rfl, rfl⟩ := hcs
    have hz : zs.length = cap := by simpa using hz
    have hlen : (zs.take len).length = len := by simp; omega
    refine ⟨zs.take len, ?_, fun z hz' => ?_⟩
    · rw [hlen]
      refine ⟨some a, cap, rfl, hl, hm, fun hp => ?_⟩
      have h0 := hcell 0 (by omega)
      have hsp := World.cell?_spot h0
      have hsp : a.spot = none := hsp
      obtain ⟨b, off, spot⟩ := a
      simp only at hsp
      subst hsp
      refine ⟨b, off, rfl, ?_, fun i k hi hk => ?_⟩
      · rcases Nat.lt_or_ge b W.heap.size with hlt | hge
        · exact hlt
        · have h0 : W.cell? ⟨b, off, none⟩ = _ := h0
          simp [World.cell?, Array.getElem?_eq_none hge] at h0
      · have hk : k = 0 := by omega
        subst hk
        have h1 := hcell i (by omega)
        rw [addr_add'] at h1
        refine ⟨_, by simpa using h1, rfl, ?_⟩
        show Value.int .u8 _ = .int .u8 _
        congr 1
        simp [List.getD_eq_getElem?_getD, List.getElem?_take, hi]
    · have := hwz z (List.mem_of_mem_take hz')
      simpa [Lit.wf, IntKind.min, IntKind.max, IntKind.signed, IntKind.bits] using this
end

/-- a law's contract in the frame's words -/
theorem law_calls {f : FuncId} {ss : List SV} (h : SRet Tryd.prog f ss (· = .b true)) {W : World} {args : Array Value} (ha : HasL W (fun b => b < W.heap.size) ss args.toList) : Calls Tryd.prog f args W fun e W' => e = .returned (.bool true) ∧ Below W.heap.size W W' := by
  let R0 : Heaplet := ⟨fun _ => False, fun _ _ => True, fun _ _ => trivial, fun _ _ => trivial⟩
  have hs0 : HSat W (fun b => b < W.heap.size) [.cust R0] := ⟨fun x hx => by rw [List.mem_singleton.1 hx]; trivial, fun x hx b hb => by rw [List.mem_singleton.1 hx] at hb; exact hb.elim, by simp, fun b hb => hb⟩
  refine ((h.h R0).2 W _ args.toList hs0 ha).mono ?_
  rintro e W' ⟨v, rfl, r, F', H', ⟨_, rfl⟩, hk, hF, hs', hr⟩
  have hr : v = .bool true := hr
  subst hr
  exact ⟨rfl, hk.os, hk.tape, hk.output, hk.size, hk.blk⟩
end Go.Proofs.YtpmhikdefbcofaaDoor
