/- Storing a batch, as the spec says it. -/
import Derived.Test.YtjkeapkpdgfhcaaSyP
set_option linter.all false
namespace Go.Proofs.Ytjkeapkpdgfhcaa
open Go.RowKit

theorem cat_zero {n : Nat} {z f : Nat → Nat → SV} (hn : n = 0) (i j : Nat) : catF n z f i j = f i j := by
  subst hn
  rfl
theorem cat_ins {l : List Bt} {b : Bt} {k i j : Nat} {z g : Nat → Nat → SV} (hk : k ≤ l.length) (hi : i < 0 + k + 1 + (l.length - k)) (hj : j < 4) (hg : ∀ j, j < 4 → g 0 j = btF b j) :
    catF (0 + k + 1) (catF (0 + k) (catF 0 z (rowF btF l)) g) (fun i => rowF btF l (k + i)) i j = rowF btF (l.take k ++ b :: l.drop k) i j := by
  have hl : (l.take k).length = k := List.length_take_of_le hk
  show _ = btF ((l.take k ++ b :: l.drop k).getD i default) j
  unfold catF
  by_cases h1 : i < k
  · rw [if_pos (by omega), if_pos (by omega)]
    show btF (l.getD i default) j = _
    rw [List.getD_eq_getElem?_getD, List.getD_eq_getElem?_getD, List.getElem?_append_left (by omega), List.getElem?_take, if_pos h1]
  · rcases (by omega : i = k ∨ k < i) with rfl | h2
    · rw [if_pos (by omega), if_neg (by omega), show i - (0 + i) = 0 by omega, hg j hj]
      rw [List.getD_eq_getElem?_getD, List.getElem?_append_right (by omega), hl, Nat.sub_self]
      rfl
    · rw [if_neg (by omega)]
      show btF (l.getD (k + (i - (0 + k + 1))) default) j = _
      rw [List.getD_eq_getElem?_getD, List.getD_eq_getElem?_getD, List.getElem?_append_right (by omega), hl, show i - k = (i - k - 1) + 1 by omega, List.getElem?_cons_succ, List.getElem?_drop, show k + (i - (0 + k + 1)) = k + (i - k - 1) by omega]
theorem lt4 {p : Nat → Prop} (h0 : p 0) (h1 : p 1) (h2 : p 2) (h3 : p 3) : ∀ j, j < 4 → p j := fun j hj => by
  rcases (by omega : j = 0 ∨ j = 1 ∨ j = 2 ∨ j = 3) with rfl | rfl | rfl | rfl <;> assumption
set_option maxHeartbeats 1000000 in
theorem specStorePut_c (f : Int) (l : List Bt) (b : Bt) (hl : l.length ≤ 2000000) : SNew Try.prog 8 [.agg 2 (stF f l), .agg 4 (btF b)] (PutR f l b) := ⟨fun R => by
  refine SCalls.enter tt_ok Try.func8 (by kernel_rfl) rfl [(900, .cust R)] rfl (argF _) (fun w F v k h => h) (by simp) ?_
  repeat' (first | (with_reducible first | refine HT.seq ?_ | refine HT.block ?_ | refine Br.not ?_) | ((with_reducible first | refine HT.region tt_ok ?_ | refine HT.drawn tt_ok (by kernel_rfl) (by decide +kernel) ?_ | refine HT.drawnL tt_ok (by kernel_rfl) (by decide +kernel) ?_ | refine HT.cond ?_ | refine HT.ret ?_ | refine HT.skip ?_ | refine HT.exit ?_ | refine Br.tt ?_ | refine Br.ff ?_); conv => whnf) | ((with_reducible first | refine Br.dec (fun hc => ?_) (fun hc => ?_) | refine Br.eq (fun hc => ?_) (fun hc => ?_) | refine Br.ne (fun hc => ?_) (fun hc => ?_)) <;> (first | (exfalso; omega) | conv => whnf)) | ((with_reducible first | refine Br.ttE (by decide) ?_ | refine Br.ffE (by decide) ?_ | refine Br.mk (fun hc => ?_) (fun hc => ?_) | refine Chk.mk (by first | omega | with_reducible rfl | (refine ⟨rfl, ?_⟩; omega) | decide | exact ⟨rfl, by omega, by omega, rfl⟩ | exact ⟨by assumption, rfl, by omega, by omega⟩) ?_ | refine Ar.fit (by omega) ?_ | refine Eqv.shr1 ?_ | refine Ar.u64 (by omega) ?_) <;> conv => whnf) | ((first | refine CallN.ret1 (specStoreValid_c _ _ (by omega)) ?_ | refine CallN.ret1 (l23Batch_c _ _ _ _) ?_) <;> conv => whnf) | (with_reducible exact trivial) | ((with_reducible refine And.intro ?_ ?_) <;> conv => whnf) | (intro gn; conv => whnf))
  · have hs1 : 1 ≤ b.s ∧ b.s ≤ 12 := btOk_size (b := b) (by assumption)
    have hu := stOk_usedW (l := l) (by assumption) b.a
    refine HT.loopS [2, 3, 4, 5, 6] (fun k : Nat => [(7, .i k)]) (fun k => k ≤ l.length ∧ ∀ j, j < k → (l.getD j default).d < b.d) (fun k => l.length - k) 0 ⟨Nat.zero_le _, fun j hj => absurd hj (by omega)⟩ ⟨rfl, trivial⟩ ?_
    conv => whnf
    rintro k ⟨hk, hall⟩
    repeat' (first | (with_reducible first | refine HT.seq ?_ | refine HT.block ?_ | refine Br.not ?_) | ((with_reducible first | refine HT.region tt_ok ?_ | refine HT.drawn tt_ok (by kernel_rfl) (by decide +kernel) ?_ | refine HT.drawnL tt_ok (by kernel_rfl) (by decide +kernel) ?_ | refine HT.cond ?_ | refine HT.ret ?_ | refine HT.skip ?_ | refine HT.exit ?_ | refine Br.tt ?_ | refine Br.ff ?_); conv => whnf) | ((with_reducible first | refine Br.dec (fun hc => ?_) (fun hc => ?_) | refine Br.eq (fun hc => ?_) (fun hc => ?_) | refine Br.ne (fun hc => ?_) (fun hc => ?_)) <;> (first | (exfalso; omega) | conv => whnf)) | ((with_reducible first | refine Br.ttE (by decide) ?_ | refine Br.ffE (by decide) ?_ | refine Br.mk (fun hc => ?_) (fun hc => ?_) | refine Chk.mk (by first | omega | with_reducible rfl | (refine ⟨rfl, ?_⟩; omega) | decide | exact ⟨rfl, by omega, by omega, rfl⟩ | exact ⟨by assumption, rfl, by omega, by omega⟩) ?_ | refine Ar.fit (by omega) ?_ | refine Eqv.shr1 ?_ | refine Ar.u64 (by omega) ?_) <;> conv => whnf) | ((first | refine CallN.ret1 (l23Used_c _ _ (by omega)) ?_) <;> conv => whnf) | (with_reducible exact trivial) | ((with_reducible refine And.intro ?_ ?_) <;> conv => whnf) | (intro gn; conv => whnf))
    · exact ⟨⟨k + 1, ⟨by omega, all_lt_succ (p := fun j => (l.getD j default).d < b.d) (by rw [Int.toNat_natCast] at *; assumption) hall⟩, by omega, (by repeat' (first | exact trivial | refine ⟨rfl, ?_⟩)), ⟨sv_i (by omega), trivial⟩, HLe.refl _⟩⟩
    · rw [Int.toNat_natCast] at *
      exact Fin.row (by repeat (first | exact List.Sublist.refl _ | refine List.Sublist.cons₂ _ ?_ | refine List.Sublist.cons _ ?_)) (by omega) (fun i j hi hj => cat_zero rfl i j) (putKnown (k := k) (by assumption) (by assumption) (by omega) (by assumption) ⟨_, _, _, (by omega), rfl, rfl⟩)
    all_goals have hsp : Spot l b k := ⟨by omega, hall, fun h => by first | omega | (rw [Int.toNat_natCast] at *; omega)⟩
    all_goals first
      | exact Fin.row (by repeat (first | exact List.Sublist.refl _ | refine List.Sublist.cons₂ _ ?_ | refine List.Sublist.cons _ ?_)) (by omega) (fun i j hi hj => cat_zero rfl i j) (putOld (by assumption) (by assumption) hsp (by assumption) ⟨_, _, _, (by omega), rfl, rfl⟩)
      | exact Fin.row (by repeat (first | exact List.Sublist.refl _ | refine List.Sublist.cons₂ _ ?_ | refine List.Sublist.cons _ ?_)) (by omega) (fun i j hi hj => cat_zero rfl i j) (putFull (by assumption) (by assumption) hsp (by assumption) (by omega) ⟨_, _, _, (by omega), rfl, rfl⟩)
      | exact Fin.row (by repeat (first | exact List.Sublist.refl _ | refine List.Sublist.cons₂ _ ?_ | refine List.Sublist.cons _ ?_)) (by rw [List.length_append, List.length_cons, List.length_take_of_le hk, List.length_drop]; omega) (fun i j hi hj => cat_ins hk hi hj (lt4 rfl rfl rfl rfl)) (putDone (by assumption) (by assumption) hsp (by assumption) (by omega) ⟨_, _, _, (by rw [List.length_append, List.length_cons, List.length_take_of_le hk, List.length_drop]; omega), rfl, rfl⟩)
  · have hs1 : 1 ≤ b.s ∧ b.s ≤ 12 := btOk_size (b := b) (by assumption)
    have hu := stOk_usedW (l := l) (by assumption) b.a
    refine HT.loopS [2, 3, 4, 5, 6] (fun k : Nat => [(7, .i k)]) (fun k => k ≤ l.length ∧ ∀ j, j < k → (l.getD j default).d < b.d) (fun k => l.length - k) 0 ⟨Nat.zero_le _, fun j hj => absurd hj (by omega)⟩ ⟨rfl, trivial⟩ ?_
    conv => whnf
    rintro k ⟨hk, hall⟩
    repeat' (first | (with_reducible first | refine HT.seq ?_ | refine HT.block ?_ | refine Br.not ?_) | ((with_reducible first | refine HT.region tt_ok ?_ | refine HT.drawn tt_ok (by kernel_rfl) (by decide +kernel) ?_ | refine HT.drawnL tt_ok (by kernel_rfl) (by decide +kernel) ?_ | refine HT.cond ?_ | refine HT.ret ?_ | refine HT.skip ?_ | refine HT.exit ?_ | refine Br.tt ?_ | refine Br.ff ?_); conv => whnf) | ((with_reducible first | refine Br.dec (fun hc => ?_) (fun hc => ?_) | refine Br.eq (fun hc => ?_) (fun hc => ?_) | refine Br.ne (fun hc => ?_) (fun hc => ?_)) <;> (first | (exfalso; omega) | conv => whnf)) | ((with_reducible first | refine Br.ttE (by decide) ?_ | refine Br.ffE (by decide) ?_ | refine Br.mk (fun hc => ?_) (fun hc => ?_) | refine Chk.mk (by first | omega | with_reducible rfl | (refine ⟨rfl, ?_⟩; omega) | decide | exact ⟨rfl, by omega, by omega, rfl⟩ | exact ⟨by assumption, rfl, by omega, by omega⟩) ?_ | refine Ar.fit (by omega) ?_ | refine Eqv.shr1 ?_ | refine Ar.u64 (by omega) ?_) <;> conv => whnf) | ((first | refine CallN.ret1 (l23Used_c _ _ (by omega)) ?_) <;> conv => whnf) | (with_reducible exact trivial) | ((with_reducible refine And.intro ?_ ?_) <;> conv => whnf) | (intro gn; conv => whnf))
    · exact ⟨⟨k + 1, ⟨by omega, all_lt_succ (p := fun j => (l.getD j default).d < b.d) (by rw [Int.toNat_natCast] at *; assumption) hall⟩, by omega, (by repeat' (first | exact trivial | refine ⟨rfl, ?_⟩)), ⟨sv_i (by omega), trivial⟩, HLe.refl _⟩⟩
    · rw [Int.toNat_natCast] at *
      exact Fin.row (by repeat (first | exact List.Sublist.refl _ | refine List.Sublist.cons₂ _ ?_ | refine List.Sublist.cons _ ?_)) (by omega) (fun i j hi hj => cat_zero rfl i j) (putKnown (k := k) (by assumption) (by assumption) (by omega) (by assumption) ⟨_, _, _, (by omega), rfl, rfl⟩)
    all_goals have hsp : Spot l b k := ⟨by omega, hall, fun h => by first | omega | (rw [Int.toNat_natCast] at *; omega)⟩
    all_goals first
      | exact Fin.row (by repeat (first | exact List.Sublist.refl _ | refine List.Sublist.cons₂ _ ?_ | refine List.Sublist.cons _ ?_)) (by omega) (fun i j hi hj => cat_zero rfl i j) (putOld (by assumption) (by assumption) hsp (by assumption) ⟨_, _, _, (by omega), rfl, rfl⟩)
      | exact Fin.row (by repeat (first | exact List.Sublist.refl _ | refine List.Sublist.cons₂ _ ?_ | refine List.Sublist.cons _ ?_)) (by omega) (fun i j hi hj => cat_zero rfl i j) (putFull (by assumption) (by assumption) hsp (by assumption) (by omega) ⟨_, _, _, (by omega), rfl, rfl⟩)
      | exact Fin.row (by repeat (first | exact List.Sublist.refl _ | refine List.Sublist.cons₂ _ ?_ | refine List.Sublist.cons _ ?_)) (by rw [List.length_append, List.length_cons, List.length_take_of_le hk, List.length_drop]; omega) (fun i j hi hj => cat_ins hk hi hj (lt4 rfl rfl rfl rfl)) (putDone (by assumption) (by assumption) hsp (by assumption) (by omega) ⟨_, _, _, (by rw [List.length_append, List.length_cons, List.length_take_of_le hk, List.length_drop]; omega), rfl, rfl⟩)
  · have hs1 : 1 ≤ b.s ∧ b.s ≤ 12 := btOk_size (b := b) (by assumption)
    have hu := stOk_usedW (l := l) (by assumption) b.a
    refine HT.loopS [2, 3, 4, 5, 6] (fun k : Nat => [(7, .i k)]) (fun k => k ≤ l.length ∧ ∀ j, j < k → (l.getD j default).d < b.d) (fun k => l.length - k) 0 ⟨Nat.zero_le _, fun j hj => absurd hj (by omega)⟩ ⟨rfl, trivial⟩ ?_
    conv => whnf
    rintro k ⟨hk, hall⟩
    repeat' (first | (with_reducible first | refine HT.seq ?_ | refine HT.block ?_ | refine Br.not ?_) | ((with_reducible first | refine HT.region tt_ok ?_ | refine HT.drawn tt_ok (by kernel_rfl) (by decide +kernel) ?_ | refine HT.drawnL tt_ok (by kernel_rfl) (by decide +kernel) ?_ | refine HT.cond ?_ | refine HT.ret ?_ | refine HT.skip ?_ | refine HT.exit ?_ | refine Br.tt ?_ | refine Br.ff ?_); conv => whnf) | ((with_reducible first | refine Br.dec (fun hc => ?_) (fun hc => ?_) | refine Br.eq (fun hc => ?_) (fun hc => ?_) | refine Br.ne (fun hc => ?_) (fun hc => ?_)) <;> (first | (exfalso; omega) | conv => whnf)) | ((with_reducible first | refine Br.ttE (by decide) ?_ | refine Br.ffE (by decide) ?_ | refine Br.mk (fun hc => ?_) (fun hc => ?_) | refine Chk.mk (by first | omega | with_reducible rfl | (refine ⟨rfl, ?_⟩; omega) | decide | exact ⟨rfl, by omega, by omega, rfl⟩ | exact ⟨by assumption, rfl, by omega, by omega⟩) ?_ | refine Ar.fit (by omega) ?_ | refine Eqv.shr1 ?_ | refine Ar.u64 (by omega) ?_) <;> conv => whnf) | ((first | refine CallN.ret1 (l23Used_c _ _ (by omega)) ?_) <;> conv => whnf) | (with_reducible exact trivial) | ((with_reducible refine And.intro ?_ ?_) <;> conv => whnf) | (intro gn; conv => whnf))
    · exact ⟨⟨k + 1, ⟨by omega, all_lt_succ (p := fun j => (l.getD j default).d < b.d) (by rw [Int.toNat_natCast] at *; assumption) hall⟩, by omega, (by repeat' (first | exact trivial | refine ⟨rfl, ?_⟩)), ⟨sv_i (by omega), trivial⟩, HLe.refl _⟩⟩
    · rw [Int.toNat_natCast] at *
      exact Fin.row (by repeat (first | exact List.Sublist.refl _ | refine List.Sublist.cons₂ _ ?_ | refine List.Sublist.cons _ ?_)) (by omega) (fun i j hi hj => cat_zero rfl i j) (putKnown (k := k) (by assumption) (by assumption) (by omega) (by assumption) ⟨_, _, _, (by omega), rfl, rfl⟩)
    all_goals have hsp : Spot l b k := ⟨by omega, hall, fun h => by first | omega | (rw [Int.toNat_natCast] at *; omega)⟩
    all_goals first
      | exact Fin.row (by repeat (first | exact List.Sublist.refl _ | refine List.Sublist.cons₂ _ ?_ | refine List.Sublist.cons _ ?_)) (by omega) (fun i j hi hj => cat_zero rfl i j) (putOld (by assumption) (by assumption) hsp (by assumption) ⟨_, _, _, (by omega), rfl, rfl⟩)
      | exact Fin.row (by repeat (first | exact List.Sublist.refl _ | refine List.Sublist.cons₂ _ ?_ | refine List.Sublist.cons _ ?_)) (by omega) (fun i j hi hj => cat_zero rfl i j) (putFull (by assumption) (by assumption) hsp (by assumption) (by omega) ⟨_, _, _, (by omega), rfl, rfl⟩)
      | exact Fin.row (by repeat (first | exact List.Sublist.refl _ | refine List.Sublist.cons₂ _ ?_ | refine List.Sublist.cons _ ?_)) (by rw [List.length_append, List.length_cons, List.length_take_of_le hk, List.length_drop]; omega) (fun i j hi hj => cat_ins hk hi hj (lt4 rfl rfl rfl rfl)) (putDone (by assumption) (by assumption) hsp (by assumption) (by omega) ⟨_, _, _, (by rw [List.length_append, List.length_cons, List.length_take_of_le hk, List.length_drop]; omega), rfl, rfl⟩)
  all_goals exact Fin.nil (f := rowF btF []) (by repeat (first | exact List.Sublist.refl _ | refine List.Sublist.cons _ ?_)) (fun w F x => has_bad rfl) (putBad (by first | exact .inl (by assumption) | exact .inr (by assumption)) ⟨_, _, _, rfl, rfl, rfl⟩)⟩
end Go.Proofs.Ytjkeapkpdgfhcaa
