/- Which stores are valid: both sides. -/
import Derived.Test.YtjkeapkpdgfhcaaSyB
set_option linter.all false
namespace Go.Proofs.Ytjkeapkpdgfhcaa
open Go.RowKit

def stF (f : Int) (l : List Bt) : Nat → SV := litF [.i f, .sl 4 l.length (rowF btF l)]

theorem stNo {f : Int} {l : List Bt} {k : Nat} (hlt : k < l.length) (hl : l.length ≤ 2000000) (h : btOk (l.getD k default) = false ∨ (l.getD k default).r < f ∨ 30 < usedW l (l.getD k default).a ∨ (0 < k ∧ (l.getD k default).d ≤ (l.getD (k - 1) default).d)) : false = stOk f l := by
  have e : l.getD k default = l[k] := by simp [hlt]
  rw [e] at h
  refine (stOk_no (List.getElem?_eq_getElem hlt) (by omega) ?_).symm
  rcases h with h | h | h | ⟨h0, h⟩
  · exact .inl h
  · exact .inr (.inl h)
  · exact .inr (.inr (.inl h))
  · have hlt' : k - 1 < l.length := by omega
    have e' : l.getD (k - 1) default = l[k - 1] := by simp [hlt']
    rw [e'] at h
    exact .inr (.inr (.inr ⟨h0, _, List.getElem?_eq_getElem hlt', h⟩))
def StAll (f : Int) (l : List Bt) (k : Nat) : Prop := ∀ j x, j < k → l[j]? = some x → btOk x = true ∧ f ≤ x.r ∧ usedW l x.a ≤ 30 ∧ ∀ y, l[j - 1]? = some y → 0 < j → y.d < x.d
theorem StAll.next {f : Int} {l : List Bt} {k : Nat} (h : StAll f l k) (hlt : k < l.length) (h1 : btOk (l.getD k default) = true) (h2 : ¬ (l.getD k default).r < f) (h3 : ¬ usedW l (l.getD k default).a > 30) (h4 : 0 < k → ¬ (l.getD (k - 1) default).d ≥ (l.getD k default).d) : StAll f l (k + 1) := fun j x hj hx => by
  rcases Nat.lt_succ_iff_lt_or_eq.1 hj with hj | rfl
  · exact h j x hj hx
  · have e : l.getD j default = x := by simp [hx]
    rw [e] at h1 h2 h3 h4
    refine ⟨h1, by omega, by omega, fun y hy h0 => ?_⟩
    have e' : l.getD (j - 1) default = y := by simp [hy]
    have := h4 h0
    rw [e'] at this
    omega

set_option maxHeartbeats 1000000 in
theorem specStoreValid_c (f : Int) (l : List Bt) (hl : l.length ≤ 2000000) : SRet Try.prog 28 [.agg 2 (stF f l)] (· = .b (stOk f l)) := ⟨fun R => by
  refine SCalls.enter tt_ok Try.func28 (by kernel_rfl) rfl [(900, .cust R)] rfl (argF _) (fun w F v k h => h) (by simp) ?_
  repeat' (first | (with_reducible first | refine HT.seq ?_ | refine HT.block ?_ | refine Br.not ?_) | ((with_reducible first | refine HT.region tt_ok ?_ | refine HT.drawn tt_ok (by kernel_rfl) (by decide +kernel) ?_ | refine HT.drawnL tt_ok (by kernel_rfl) (by decide +kernel) ?_ | refine HT.cond ?_ | refine HT.ret ?_ | refine HT.skip ?_ | refine HT.exit ?_ | refine Br.tt ?_ | refine Br.ff ?_); conv => whnf) | ((with_reducible first | refine Br.dec (fun hc => ?_) (fun hc => ?_) | refine Br.eq (fun hc => ?_) (fun hc => ?_) | refine Br.ne (fun hc => ?_) (fun hc => ?_)) <;> (first | (exfalso; omega) | conv => whnf)) | ((with_reducible first | refine Br.ttE (by decide) ?_ | refine Br.ffE (by decide) ?_ | refine Br.mk (fun hc => ?_) (fun hc => ?_) | refine Chk.mk (by first | omega | with_reducible rfl | (refine ⟨rfl, ?_⟩; omega) | decide | exact ⟨rfl, by omega, by omega, rfl⟩ | exact ⟨by assumption, rfl, by omega, by omega⟩) ?_ | refine Ar.fit (by omega) ?_ | refine Eqv.shr1 ?_ | refine Ar.u64 (by omega) ?_) <;> conv => whnf) | (with_reducible exact trivial) | ((with_reducible refine And.intro ?_ ?_) <;> conv => whnf) | (intro gn; conv => whnf))
  refine HT.loopK [1, 2] (fun k : Nat => [(3, .i k)]) (fun _ => [(100, .box gn 25 2 (stF f l)), (900, .cust R)]) 110
    (fun k => k ≤ l.length ∧ StAll f l k) (fun k => l.length - k) 0 ⟨Nat.zero_le _, fun j x hj => absurd hj (by omega)⟩ ⟨rfl, trivial⟩ (HLe.refl _) ?_
  rintro k ⟨hk, hall⟩
  repeat' (first | (with_reducible first | refine HT.seq ?_ | refine HT.block ?_ | refine Br.not ?_) | ((with_reducible first | refine HT.region tt_ok ?_ | refine HT.drawn tt_ok (by kernel_rfl) (by decide +kernel) ?_ | refine HT.drawnL tt_ok (by kernel_rfl) (by decide +kernel) ?_ | refine HT.cond ?_ | refine HT.ret ?_ | refine HT.skip ?_ | refine HT.exit ?_ | refine Br.tt ?_ | refine Br.ff ?_); conv => whnf) | ((with_reducible first | refine Br.dec (fun hc => ?_) (fun hc => ?_) | refine Br.eq (fun hc => ?_) (fun hc => ?_) | refine Br.ne (fun hc => ?_) (fun hc => ?_)) <;> (first | (exfalso; omega) | conv => whnf)) | ((with_reducible first | refine Br.ttE (by decide) ?_ | refine Br.ffE (by decide) ?_ | refine Br.mk (fun hc => ?_) (fun hc => ?_) | refine Chk.mk (by first | omega | with_reducible rfl | (refine ⟨rfl, ?_⟩; omega) | decide | exact ⟨rfl, by omega, by omega, rfl⟩ | exact ⟨by assumption, rfl, by omega, by omega⟩) ?_ | refine Ar.fit (by omega) ?_ | refine Eqv.shr1 ?_ | refine Ar.u64 (by omega) ?_) <;> conv => whnf) | ((first | refine CallN.ret1 (l23Batch_c _ _ _ _) ?_ | refine CallN.ret1 (l23Used_c _ _ (by omega)) ?_ | refine CallN.ret1 (l6In_c _ _ _) ?_) <;> conv => whnf) | (with_reducible exact trivial) | ((with_reducible refine And.intro ?_ ?_) <;> conv => whnf) | (intro gn; conv => whnf))
  all_goals (try simp only [Int.toNat_natCast] at *)
  · exact Fin.pure (A := [_, _]) (sv_b (stNo (k := k) (by omega) hl (.inr (.inl (by assumption)))))
  · rw [show ((k : Int) - 1).toNat = k - 1 by omega] at hc
    exact Fin.pure (A := [_, _]) (sv_b (stNo (k := k) (by omega) hl (.inr (.inr (.inr ⟨by omega, hc⟩)))))
  · exact Fin.pure (A := [_, _]) (sv_b (stNo (k := k) (by omega) hl (.inr (.inr (.inl (by assumption))))))
  · refine ⟨⟨k + 1, ⟨by omega, hall.next (by omega) (by assumption) (by assumption) (by assumption) fun _ => ?_⟩, by omega, (by repeat' (first | exact trivial | refine ⟨rfl, ?_⟩)), ⟨sv_i (by omega), trivial⟩, HLe.drop [_] _⟩⟩
    rw [show ((k : Int) - 1).toNat = k - 1 by omega] at *
    assumption
  · exact Fin.pure (A := [_, _]) (sv_b (stNo (k := k) (by omega) hl (.inr (.inr (.inl (by assumption))))))
  · exact ⟨⟨k + 1, ⟨by omega, hall.next (by omega) (by assumption) (by assumption) (by assumption) fun _ => by omega⟩, by omega, (by repeat' (first | exact trivial | refine ⟨rfl, ?_⟩)), ⟨sv_i (by omega), trivial⟩, HLe.drop [_] _⟩⟩
  · exact Fin.pure (A := [_, _]) (sv_b (stNo (k := k) (by omega) hl (.inl (by assumption))))
  · refine Fin.pure (A := [_]) (sv_b ?_)
    rw [stOk_yes (by omega) (fun j x hj => hall j x (by omega))]
    simp_all
    omega
  · refine Fin.pure (A := [_]) (sv_b ?_)
    rw [stOk_yes (by omega) (fun j x hj => hall j x (by omega))]
    simp_all⟩

theorem stOk_long {f : Int} {l : List Bt} (h : 12 < l.length) : stOk f l = false := by
  rw [← Bool.not_eq_true, stOk_iff]; omega
theorem stOk_floor {f : Int} {l : List Bt} (h : inB f 0 31 = false) : stOk f l = false := by
  unfold stOk; rw [h]; rfl
def StAll' (f : Int) (l : List Bt) (k : Nat) : Prop := ∀ j x, j < k → l[j]? = some x → btOk x = true ∧ f ≤ x.r ∧ used (l.take (j + 1)) x.a ≤ 30 ∧ ∀ y, l[j - 1]? = some y → 0 < j → y.d < x.d
theorem used_next {f : Int} {l : List Bt} {k : Nat} (hk : k < l.length) (hl : l.length ≤ 2000000) (h : StAll' f l k) (hb : btOk (l.getD k default) = true) (o : Nat) (ho : (o : Int) = (l.getD k default).a) :
    IntKind.i64.wrap (used (l.take k) o + (l.getD k default).s) = used (l.take (k + 1)) (l.getD k default).a := by
  have e : l.getD k default = l[k] := by simp [hk]
  rw [e] at hb
  rw [ho, e, take_snoc l k _ (List.getElem?_eq_getElem hk), used_snoc, if_pos (by simp)]
  have hs := btOk_size hb
  have hu := used_bd (l.take k) l[k].a fun b hm => by
    obtain ⟨i, hi⟩ := List.getElem?_of_mem hm
    have hik : i < k := by
      have := (List.getElem?_eq_some_iff.1 hi).1
      simp at this
      omega
    rw [List.getElem?_take, if_pos hik] at hi
    exact btOk_size (h i b hik hi).1
  have : (l.take k).length ≤ k := List.length_take_le _ _
  rw [IntKind.wrap_i64]
  omega
theorem stOv {f : Int} {l : List Bt} {k : Nat} (hlt : k < l.length) (h : used (l.take (k + 1)) (l.getD k default).a > 30) : false = stOk f l := by
  have e : l.getD k default = l[k] := by simp [hlt]
  rw [e] at h
  exact (stOk_over (List.getElem?_eq_getElem hlt) h).symm
theorem StAll'.next {f : Int} {l : List Bt} {k : Nat} (h : StAll' f l k) (hlt : k < l.length) (h1 : btOk (l.getD k default) = true) (h2 : ¬ (l.getD k default).r < f) (h3 : ¬ used (l.take (k + 1)) (l.getD k default).a > 30) (h4 : 0 < k → ¬ (l.getD (k - 1) default).d ≥ (l.getD k default).d) : StAll' f l (k + 1) := fun j x hj hx => by
  rcases Nat.lt_succ_iff_lt_or_eq.1 hj with hj | rfl
  · exact h j x hj hx
  · have e : l.getD j default = x := by simp [hx]
    rw [e] at h1 h2 h3 h4
    refine ⟨h1, by omega, by omega, fun y hy h0 => ?_⟩
    have e' : l.getD (j - 1) default = y := by simp [hy]
    have := h4 h0
    rw [e'] at this
    omega
theorem stYes' {f : Int} {l : List Bt} {k : Nat} (h12 : l.length ≤ 12) (hk : l.length ≤ k) (hf : inB f 0 31 = true) (h : StAll' f l k) : stOk f l = true := by
  refine stOk_all h12 hf (fun j x hj hx => ?_) fun a => ?_
  · obtain ⟨h1, h2, _, h4⟩ := h j x (by omega) hx
    exact ⟨h1, h2, h4⟩
  · suffices H : ∀ n, n ≤ l.length → used (l.take n) a ≤ 30 by simpa using H l.length (Nat.le_refl _)
    intro n
    induction n with
    | zero => intro _; simp [used]
    | succ n ih =>
      intro hn
      have hx : l[n]? = some l[n] := List.getElem?_eq_getElem (by omega)
      by_cases e : l[n].a = a
      · rw [← e]; exact (h n _ (by omega) hx).2.2.1
      · rw [take_snoc l n _ hx, used_snoc, if_neg (by rw [beq_iff_eq]; exact e)]
        have := ih (by omega)
        omega
def arrF (u : Int → Int) : Nat → SV := fun j => .i (u j)
theorem arr_next {l : List Bt} {k o : Nat} (hk : k < l.length) (ho : (o : Int) = (l.getD k default).a) {j : Nat} :
    putF o 1 (fun _ => .i (used (l.take (k + 1)) (l.getD k default).a)) (arrF fun a => used (l.take k) a) j = arrF (fun a => used (l.take (k + 1)) a) j := by
  rw [putF_one]
  unfold arrF
  have e : l.getD k default = l[k] := by simp [hk]
  by_cases h : j = o
  · rw [if_pos h, h, ho]
  · rw [if_neg h]
    show SV.i (used (l.take k) j) = SV.i (used (l.take (k + 1)) j)
    rw [take_snoc l k _ (List.getElem?_eq_getElem hk), used_snoc, ← e, if_neg (by rw [beq_iff_eq]; omega), Int.add_zero]
set_option maxHeartbeats 1000000 in
theorem implStoreValid_c (f : Int) (l : List Bt) (hl : l.length ≤ 2000000) : SRet Try.prog 12 [.agg 2 (stF f l)] (· = .b (stOk f l)) := ⟨fun R => by
  refine SCalls.enter tt_ok Try.func12 (by kernel_rfl) rfl [(900, .cust R)] rfl (argF _) (fun w F v k h => h) (by simp) ?_
  repeat' (first | (with_reducible first | refine HT.seq ?_ | refine HT.block ?_ | refine Br.not ?_) | ((with_reducible first | refine HT.region tt_ok ?_ | refine HT.drawn tt_ok (by kernel_rfl) (by decide +kernel) ?_ | refine HT.drawnL tt_ok (by kernel_rfl) (by decide +kernel) ?_ | refine HT.cond ?_ | refine HT.ret ?_ | refine HT.skip ?_ | refine HT.exit ?_ | refine Br.tt ?_ | refine Br.ff ?_); conv => whnf) | ((with_reducible first | refine Br.dec (fun hc => ?_) (fun hc => ?_) | refine Br.eq (fun hc => ?_) (fun hc => ?_) | refine Br.ne (fun hc => ?_) (fun hc => ?_)) <;> (first | (exfalso; omega) | conv => whnf)) | ((with_reducible first | refine Br.ttE (by decide) ?_ | refine Br.ffE (by decide) ?_ | refine Br.mk (fun hc => ?_) (fun hc => ?_) | refine Chk.mk (by first | omega | with_reducible rfl | (refine ⟨rfl, ?_⟩; omega) | decide | exact ⟨rfl, by omega, by omega, rfl⟩ | exact ⟨by assumption, rfl, by omega, by omega⟩) ?_ | refine Ar.fit (by omega) ?_ | refine Eqv.shr1 ?_ | refine Ar.u64 (by omega) ?_) <;> conv => whnf) | ((first | refine CallN.ret1 (isFloor_c _) ?_) <;> conv => whnf) | (with_reducible exact trivial) | ((with_reducible refine And.intro ?_ ?_) <;> conv => whnf) | (intro gn; conv => whnf))
  · exact Fin.pure (A := [_]) (sv_b (stOk_long (by omega)).symm)
  · rename_i g1 hc1
    refine HT.loopK [1, 3, 17, 18] (fun k : Nat => [(19, .i k)]) (fun k => [(111, .box gn 62 7 (arrF fun a => used (l.take k) a)), (100, .box g1 25 2 (stF f l)), (900, .cust R)]) 120
      (fun k => k ≤ l.length ∧ StAll' f l k) (fun k => l.length - k) 0 ⟨Nat.zero_le _, fun j x hj => absurd hj (by omega)⟩ ⟨rfl, trivial⟩ (HLe.box fun j hj => ?_) ?_
    · rcases (by omega : j = 0 ∨ j = 1 ∨ j = 2 ∨ j = 3 ∨ j = 4 ∨ j = 5 ∨ j = 6) with rfl | rfl | rfl | rfl | rfl | rfl | rfl <;> rfl
    rintro k ⟨hk, hall⟩
    repeat' (first | (with_reducible first | refine HT.seq ?_ | refine HT.block ?_ | refine Br.not ?_) | ((with_reducible first | refine HT.region tt_ok ?_ | refine HT.drawn tt_ok (by kernel_rfl) (by decide +kernel) ?_ | refine HT.drawnL tt_ok (by kernel_rfl) (by decide +kernel) ?_ | refine HT.cond ?_ | refine HT.ret ?_ | refine HT.skip ?_ | refine HT.exit ?_ | refine Br.tt ?_ | refine Br.ff ?_); conv => whnf) | ((with_reducible first | refine Br.dec (fun hc => ?_) (fun hc => ?_) | refine Br.eq (fun hc => ?_) (fun hc => ?_) | refine Br.ne (fun hc => ?_) (fun hc => ?_)) <;> (first | (exfalso; omega) | conv => whnf)) | ((with_reducible first | refine Br.ttE (by decide) ?_ | refine Br.ffE (by decide) ?_ | refine Br.mk (fun hc => ?_) (fun hc => ?_) | refine Chk.mk (by first | omega | with_reducible rfl | (refine ⟨rfl, ?_⟩; omega) | decide | exact ⟨rfl, by omega, by omega, rfl⟩ | exact ⟨by assumption, rfl, by omega, by omega⟩) ?_ | refine Ar.fit (by omega) ?_ | refine Eqv.shr1 ?_ | refine Ar.u64 (by omega) ?_) <;> conv => whnf) | ((first | refine CallN.ret1 (bvalid_c _ _ _ _) ?_) <;> conv => whnf) | (with_reducible exact trivial) | ((with_reducible refine And.intro ?_ ?_) <;> conv => whnf) | (intro gn; conv => whnf))
    · simp only [Int.toNat_natCast] at *
      exact Fin.pure (A := [_, _, _]) (sv_b (stNo (k := k) (by omega) hl (.inr (.inl (by assumption)))))
    · rw [show ((k : Int) - 1).toNat = k - 1 by omega, Int.toNat_natCast] at hc
      exact Fin.pure (A := [_, _, _]) (sv_b (stNo (k := k) (by omega) hl (.inr (.inr (.inr ⟨by omega, hc⟩)))))
    · have hb : 0 ≤ (l.getD (k : Int).toNat default).a ∧ (l.getD (k : Int).toNat default).a ≤ 6 := btOk_auth (b := l.getD (k : Int).toNat default) (by assumption)
      repeat' (first | (with_reducible first | refine HT.seq ?_ | refine HT.block ?_ | refine Br.not ?_) | ((with_reducible first | refine HT.region tt_ok ?_ | refine HT.drawn tt_ok (by kernel_rfl) (by decide +kernel) ?_ | refine HT.drawnL tt_ok (by kernel_rfl) (by decide +kernel) ?_ | refine HT.cond ?_ | refine HT.ret ?_ | refine HT.skip ?_ | refine HT.exit ?_ | refine Br.tt ?_ | refine Br.ff ?_); conv => whnf) | ((with_reducible first | refine Br.dec (fun hc => ?_) (fun hc => ?_) | refine Br.eq (fun hc => ?_) (fun hc => ?_) | refine Br.ne (fun hc => ?_) (fun hc => ?_)) <;> (first | (exfalso; omega) | conv => whnf)) | ((with_reducible first | refine Br.ttE (by decide) ?_ | refine Br.ffE (by decide) ?_ | refine Br.mk (fun hc => ?_) (fun hc => ?_) | refine Chk.mk (by first | omega | with_reducible rfl | (refine ⟨rfl, ?_⟩; omega) | decide | exact ⟨rfl, by omega, by omega, rfl⟩ | exact ⟨by assumption, rfl, by omega, by omega⟩) ?_ | refine Ar.fit (by omega) ?_ | refine Eqv.shr1 ?_ | refine Ar.u64 (by omega) ?_) <;> conv => whnf) | (with_reducible exact trivial) | ((with_reducible refine And.intro ?_ ?_) <;> conv => whnf) | (intro gn; conv => whnf))
      refine ⟨⟨_, used_next (k := (k : Int).toNat) (by omega) hl hall (by assumption) (0 + (l.getD (k : Int).toNat default).a.toNat * 1) (by omega), ?_⟩⟩
      conv => whnf
      repeat' (first | (with_reducible first | refine HT.block ?_ | refine Br.not ?_) | ((with_reducible first | refine HT.region tt_ok ?_ | refine HT.drawn tt_ok (by kernel_rfl) (by decide +kernel) ?_ | refine HT.drawnL tt_ok (by kernel_rfl) (by decide +kernel) ?_ | refine HT.cond ?_ | refine HT.ret ?_ | refine HT.skip ?_ | refine HT.exit ?_ | refine Br.tt ?_ | refine Br.ff ?_); conv => whnf) | ((with_reducible first | refine Br.dec (fun hc => ?_) (fun hc => ?_) | refine Br.eq (fun hc => ?_) (fun hc => ?_) | refine Br.ne (fun hc => ?_) (fun hc => ?_)) <;> (first | (exfalso; omega) | conv => whnf)) | ((with_reducible first | refine Br.ttE (by decide) ?_ | refine Br.ffE (by decide) ?_ | refine Br.mk (fun hc => ?_) (fun hc => ?_) | refine Chk.mk (by first | omega | with_reducible rfl | (refine ⟨rfl, ?_⟩; omega) | decide | exact ⟨rfl, by omega, by omega, rfl⟩ | exact ⟨by assumption, rfl, by omega, by omega⟩) ?_ | refine Ar.fit (by omega) ?_ | refine Eqv.shr1 ?_ | refine Ar.u64 (by omega) ?_) <;> conv => whnf) | (with_reducible exact trivial) | ((with_reducible refine And.intro ?_ ?_) <;> conv => whnf) | (intro gn; conv => whnf))
      refine HT.swapL (.cons (.refl _) (.cons (.box fun j hj => arr_next (k := (k : Int).toNat) (o := 0 + (l.getD (k : Int).toNat default).a.toNat * 1) (by omega) (by omega)) (PLe.refl _))) ?_
      repeat' (first | (with_reducible first | refine HT.seq ?_ | refine HT.block ?_ | refine Br.not ?_) | ((with_reducible first | refine HT.region tt_ok ?_ | refine HT.drawn tt_ok (by kernel_rfl) (by decide +kernel) ?_ | refine HT.drawnL tt_ok (by kernel_rfl) (by decide +kernel) ?_ | refine HT.cond ?_ | refine HT.ret ?_ | refine HT.skip ?_ | refine HT.exit ?_ | refine Br.tt ?_ | refine Br.ff ?_); conv => whnf) | ((with_reducible first | refine Br.dec (fun hc => ?_) (fun hc => ?_) | refine Br.eq (fun hc => ?_) (fun hc => ?_) | refine Br.ne (fun hc => ?_) (fun hc => ?_)) <;> (first | (exfalso; omega) | conv => whnf)) | ((with_reducible first | refine Br.ttE (by decide) ?_ | refine Br.ffE (by decide) ?_ | refine Br.mk (fun hc => ?_) (fun hc => ?_) | refine Chk.mk (by first | omega | with_reducible rfl | (refine ⟨rfl, ?_⟩; omega) | decide | exact ⟨rfl, by omega, by omega, rfl⟩ | exact ⟨by assumption, rfl, by omega, by omega⟩) ?_ | refine Ar.fit (by omega) ?_ | refine Eqv.shr1 ?_ | refine Ar.u64 (by omega) ?_) <;> conv => whnf) | (with_reducible exact trivial) | ((with_reducible refine And.intro ?_ ?_) <;> conv => whnf) | (intro gn; conv => whnf))
      · have ea : ((0 + (l.getD (k : Int).toNat default).a.toNat * 1 : Nat) : Int) = (l.getD k default).a := by rw [Int.toNat_natCast] at hb ⊢; omega
        simp only [ea] at hc
        simp only [Int.toNat_natCast] at hc
        exact Fin.pure (A := [_, _, _]) (sv_b (stOv (k := k) (by omega) hc))
      · have ea : ((0 + (l.getD (k : Int).toNat default).a.toNat * 1 : Nat) : Int) = (l.getD k default).a := by rw [Int.toNat_natCast] at hb ⊢; omega
        simp only [ea] at hc
        simp only [Int.toNat_natCast] at hc
        refine ⟨⟨k + 1, ⟨by omega, hall.next (by omega) (by assumption) (by assumption) (by assumption) (fun _ => ?_)⟩, by omega, (by repeat' (first | exact trivial | refine ⟨rfl, ?_⟩)), ⟨sv_i (by omega), trivial⟩, HLe.drop [_] _⟩⟩
        rw [show ((k : Int) - 1).toNat = k - 1 by omega, Int.toNat_natCast] at *
        assumption
    · have hb : 0 ≤ (l.getD (k : Int).toNat default).a ∧ (l.getD (k : Int).toNat default).a ≤ 6 := btOk_auth (b := l.getD (k : Int).toNat default) (by assumption)
      repeat' (first | (with_reducible first | refine HT.seq ?_ | refine HT.block ?_ | refine Br.not ?_) | ((with_reducible first | refine HT.region tt_ok ?_ | refine HT.drawn tt_ok (by kernel_rfl) (by decide +kernel) ?_ | refine HT.drawnL tt_ok (by kernel_rfl) (by decide +kernel) ?_ | refine HT.cond ?_ | refine HT.ret ?_ | refine HT.skip ?_ | refine HT.exit ?_ | refine Br.tt ?_ | refine Br.ff ?_); conv => whnf) | ((with_reducible first | refine Br.dec (fun hc => ?_) (fun hc => ?_) | refine Br.eq (fun hc => ?_) (fun hc => ?_) | refine Br.ne (fun hc => ?_) (fun hc => ?_)) <;> (first | (exfalso; omega) | conv => whnf)) | ((with_reducible first | refine Br.ttE (by decide) ?_ | refine Br.ffE (by decide) ?_ | refine Br.mk (fun hc => ?_) (fun hc => ?_) | refine Chk.mk (by first | omega | with_reducible rfl | (refine ⟨rfl, ?_⟩; omega) | decide | exact ⟨rfl, by omega, by omega, rfl⟩ | exact ⟨by assumption, rfl, by omega, by omega⟩) ?_ | refine Ar.fit (by omega) ?_ | refine Eqv.shr1 ?_ | refine Ar.u64 (by omega) ?_) <;> conv => whnf) | (with_reducible exact trivial) | ((with_reducible refine And.intro ?_ ?_) <;> conv => whnf) | (intro gn; conv => whnf))
      refine ⟨⟨_, used_next (k := (k : Int).toNat) (by omega) hl hall (by assumption) (0 + (l.getD (k : Int).toNat default).a.toNat * 1) (by omega), ?_⟩⟩
      conv => whnf
      repeat' (first | (with_reducible first | refine HT.block ?_ | refine Br.not ?_) | ((with_reducible first | refine HT.region tt_ok ?_ | refine HT.drawn tt_ok (by kernel_rfl) (by decide +kernel) ?_ | refine HT.drawnL tt_ok (by kernel_rfl) (by decide +kernel) ?_ | refine HT.cond ?_ | refine HT.ret ?_ | refine HT.skip ?_ | refine HT.exit ?_ | refine Br.tt ?_ | refine Br.ff ?_); conv => whnf) | ((with_reducible first | refine Br.dec (fun hc => ?_) (fun hc => ?_) | refine Br.eq (fun hc => ?_) (fun hc => ?_) | refine Br.ne (fun hc => ?_) (fun hc => ?_)) <;> (first | (exfalso; omega) | conv => whnf)) | ((with_reducible first | refine Br.ttE (by decide) ?_ | refine Br.ffE (by decide) ?_ | refine Br.mk (fun hc => ?_) (fun hc => ?_) | refine Chk.mk (by first | omega | with_reducible rfl | (refine ⟨rfl, ?_⟩; omega) | decide | exact ⟨rfl, by omega, by omega, rfl⟩ | exact ⟨by assumption, rfl, by omega, by omega⟩) ?_ | refine Ar.fit (by omega) ?_ | refine Eqv.shr1 ?_ | refine Ar.u64 (by omega) ?_) <;> conv => whnf) | (with_reducible exact trivial) | ((with_reducible refine And.intro ?_ ?_) <;> conv => whnf) | (intro gn; conv => whnf))
      refine HT.swapL (.cons (.refl _) (.cons (.box fun j hj => arr_next (k := (k : Int).toNat) (o := 0 + (l.getD (k : Int).toNat default).a.toNat * 1) (by omega) (by omega)) (PLe.refl _))) ?_
      repeat' (first | (with_reducible first | refine HT.seq ?_ | refine HT.block ?_ | refine Br.not ?_) | ((with_reducible first | refine HT.region tt_ok ?_ | refine HT.drawn tt_ok (by kernel_rfl) (by decide +kernel) ?_ | refine HT.drawnL tt_ok (by kernel_rfl) (by decide +kernel) ?_ | refine HT.cond ?_ | refine HT.ret ?_ | refine HT.skip ?_ | refine HT.exit ?_ | refine Br.tt ?_ | refine Br.ff ?_); conv => whnf) | ((with_reducible first | refine Br.dec (fun hc => ?_) (fun hc => ?_) | refine Br.eq (fun hc => ?_) (fun hc => ?_) | refine Br.ne (fun hc => ?_) (fun hc => ?_)) <;> (first | (exfalso; omega) | conv => whnf)) | ((with_reducible first | refine Br.ttE (by decide) ?_ | refine Br.ffE (by decide) ?_ | refine Br.mk (fun hc => ?_) (fun hc => ?_) | refine Chk.mk (by first | omega | with_reducible rfl | (refine ⟨rfl, ?_⟩; omega) | decide | exact ⟨rfl, by omega, by omega, rfl⟩ | exact ⟨by assumption, rfl, by omega, by omega⟩) ?_ | refine Ar.fit (by omega) ?_ | refine Eqv.shr1 ?_ | refine Ar.u64 (by omega) ?_) <;> conv => whnf) | (with_reducible exact trivial) | ((with_reducible refine And.intro ?_ ?_) <;> conv => whnf) | (intro gn; conv => whnf))
      · have ea : ((0 + (l.getD (k : Int).toNat default).a.toNat * 1 : Nat) : Int) = (l.getD k default).a := by rw [Int.toNat_natCast] at hb ⊢; omega
        simp only [ea] at hc
        simp only [Int.toNat_natCast] at hc
        exact Fin.pure (A := [_, _, _]) (sv_b (stOv (k := k) (by omega) hc))
      · have ea : ((0 + (l.getD (k : Int).toNat default).a.toNat * 1 : Nat) : Int) = (l.getD k default).a := by rw [Int.toNat_natCast] at hb ⊢; omega
        simp only [ea] at hc
        simp only [Int.toNat_natCast] at hc
        refine ⟨⟨k + 1, ⟨by omega, hall.next (by omega) (by assumption) (by assumption) (by assumption) (fun _ => by omega)⟩, by omega, (by repeat' (first | exact trivial | refine ⟨rfl, ?_⟩)), ⟨sv_i (by omega), trivial⟩, HLe.drop [_] _⟩⟩
    · simp only [Int.toNat_natCast] at *
      exact Fin.pure (A := [_, _, _]) (sv_b (stNo (k := k) (by omega) hl (.inl (by assumption))))
    · exact Fin.pure (A := [_, _]) (sv_b (stYes' (k := k) (by omega) (by omega) (by assumption) hall).symm)
  · exact Fin.pure (A := [_]) (sv_b (stOk_floor (by assumption)).symm)⟩
end Go.Proofs.Ytjkeapkpdgfhcaa
