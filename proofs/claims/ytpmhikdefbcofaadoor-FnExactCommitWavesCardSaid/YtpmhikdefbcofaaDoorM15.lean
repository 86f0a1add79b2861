/- Texts of this proof put together: Hp, Ha, Hl. -/
import Derived.Test.YtpmhikdefbcofaaDoorM01
import Derived.Test.YtpmhikdefbcofaaDoorM02
import Derived.Test.YtpmhikdefbcofaaDoorM03
import Derived.Test.YtpmhikdefbcofaaDoorM04
import Derived.Test.YtpmhikdefbcofaaDoorM05
import Derived.Test.YtpmhikdefbcofaaDoorM06
import Derived.Test.YtpmhikdefbcofaaDoorM07
import Derived.Test.YtpmhikdefbcofaaDoorM08
import Derived.Test.YtpmhikdefbcofaaDoorM09
import Derived.Test.YtpmhikdefbcofaaDoorM10
import Derived.Test.YtpmhikdefbcofaaDoorM11
import Derived.Test.YtpmhikdefbcofaaDoorM12
import Derived.Test.YtpmhikdefbcofaaDoorM13
import Derived.Test.YtpmhikdefbcofaaDoorM14
/-! YtpmhikdefbcofaaDoorHp -/
set_option linter.all false
namespace Go.Proofs.YtpmhikdefbcofaaDoor
open Go.RowKit

/-- the pointer to a node, at its address -/
def ndA (ad : Nat → Nat) (vs : List Vx) (i : Nat) : SV := .ref (ad i) 0 6 (ndC (vg vs i) i fun j => if h : j < (vg vs i).ps.length ∧ pix vs i j < i then ndA ad vs (pix vs i j) else .any)
termination_by i
decreasing_by exact h.2
def paA (ad : Nat → Nat) (vs : List Vx) (i : Nat) (j : Nat) : SV := if j < (vg vs i).ps.length ∧ pix vs i j < i then ndA ad vs (pix vs i j) else .any
abbrev nuA (ad : Nat → Nat) (vs : List Vx) (i : Nat) : SV := .ref (ad i) 0 6 (ndC (vg vs i) i (paA ad vs i))
theorem ndA_eq (ad : Nat → Nat) (vs : List Vx) (i : Nat) : ndA ad vs i = nuA ad vs i := by
  rw [ndA]
  unfold nuA
  congr 2
theorem paA_eq {ad : Nat → Nat} {c : List Int} {vs : List Vx} {n : Nat} (h : GoodN c vs n) {i j : Nat} (hi : i < n) (hn : n ≤ vs.length) (hj : j < (vg vs i).ps.length) : paA ad vs i j = nuA ad vs (pix vs i j) := by
  unfold paA
  rw [if_pos ⟨hj, (h.pix hi hn hj).2⟩, ndA_eq]
theorem ndA_app {ad ad' : Nat → Nat} {c : List Int} {vs : List Vx} {v : Vx} (h : GoodN c vs vs.length) (ha : ∀ j, j < vs.length → ad' j = ad j) : ∀ {i : Nat}, i < vs.length → ndA ad' (vs ++ [v]) i = ndA ad vs i := by
  intro i
  induction i using Nat.strongRecOn with
  | ind i ih =>
    intro hi
    rw [ndA_eq, ndA_eq]
    unfold nuA
    rw [vg_app hi, ha i hi]
    congr 2
    funext j
    unfold paA
    rw [vg_app hi]
    by_cases hj : j < (vg vs i).ps.length
    · rw [pix_app h hi hj]
      by_cases hp : pix vs i j < i
      · rw [if_pos ⟨hj, hp⟩, if_pos ⟨hj, hp⟩, ih _ hp (by omega)]
      · rw [if_neg (fun e => hp e.2), if_neg (fun e => hp e.2)]
    · rw [if_neg (fun e => hj e.1), if_neg (fun e => hj e.1)]
/-- what a place holds -/
def plA (ad : Nat → Nat) (vs : List Vx) (r a : Int) : SV := match fdV vs r a with
  | some i => ndA ad vs i
  | none => .val (.pointer none)
/-- the cells of a graph; x1 tells the list of nodes -/
def grA (ad : Nat → Nat) (c : List Int) (vs : List Vx) (x1 : SV) : Nat → SV := fun k => if k = 0 then isl c else if k = 1 then x1 else plA ad vs ((k - 2) / 7 : Nat) ((k - 2) % 7 : Nat)
theorem grA_pl {ad : Nat → Nat} {c : List Int} {vs : List Vx} {x1 : SV} {k r a : Nat} (hk : k = 2 + r * 7 + a) (ha : a < 7) : grA ad c vs x1 k = plA ad vs r a := by
  subst hk
  unfold grA
  rw [if_neg (by omega), if_neg (by omega), show (2 + r * 7 + a - 2) / 7 = r by omega, show (2 + r * 7 + a - 2) % 7 = a by omega]
/-- what stands at a round and an author -/
def AtA (ad : Nat → Nat) (vs : List Vx) (r a : Int) (x : SV) : Prop := (∃ i, fdV vs r a = some i ∧ x = nuA ad vs i) ∨ (fdV vs r a = none ∧ x = .val (.pointer none))
theorem plA_at (ad : Nat → Nat) (vs : List Vx) (r a : Int) : AtA ad vs r a (plA ad vs r a) := by
  unfold AtA plA
  cases fdV vs r a with
  | none => exact .inr ⟨rfl, rfl⟩
  | some i => exact .inl ⟨i, rfl, ndA_eq ad vs i⟩
/-- addresses forgotten -/
theorem nd_weak {w : World} {F : Nat → Prop} {ad : Nat → Nat} {vs : List Vx} : ∀ {i : Nat}, LeW w F (ndA ad vs i) (ndV vs i) := by
  intro i
  induction i using Nat.strongRecOn with
  | ind i ih =>
    intro x hx
    rw [ndA_eq] at hx
    rw [ndV_eq]
    refine Has.pp ?_ hx.ref_pp
    refine fun k hk u hu => ?_
    rcases (by omega : k = 0 ∨ k = 1 ∨ k = 2 ∨ k = 3 ∨ k = 4 ∨ k = 5) with rfl | rfl | rfl | rfl | rfl | rfl
    all_goals first
      | exact hu
      | (refine Has.slL (fun j q hj hq y hy => ?_) hu
         unfold paA at hy
         unfold parV
         by_cases hp : j < (vg vs i).ps.length ∧ pix vs i j < i
         · rw [if_pos hp] at hy ⊢; exact ih _ hp.2 y hy
         · rw [if_neg hp] at hy ⊢; exact hy)
theorem pl_weak {w : World} {F : Nat → Prop} {ad : Nat → Nat} {vs : List Vx} {r a : Int} : LeW w F (plA ad vs r a) (plV vs r a) := by
  unfold plA plV
  cases fdV vs r a with
  | none => exact fun _ h => h
  | some i => exact nd_weak
/-- the graph's linked form, with addresses -/
abbrev lkA (ad : Nat → Nat) (c : List Int) (vs : List Vx) : SV := .pp 219 (grA ad c vs (.sl 1 vs.length fun i _ => ndA ad vs i))
theorem gr_weak {w : World} {F : Nat → Prop} {ad : Nat → Nat} {c : List Int} {vs : List Vx} : LeW w F (lkA ad c vs) (.pp 219 (grF c vs (.sl 1 vs.length fun i _ => ndV vs i))) := fun x hx => by
  refine Has.pp (fun k hk u hu => ?_) hx
  unfold grA at hu
  unfold grF
  by_cases h0 : k = 0
  · rw [if_pos h0] at hu ⊢; exact hu
  · rw [if_neg h0] at hu ⊢
    by_cases h1 : k = 1
    · rw [if_pos h1] at hu ⊢
      exact Has.slL (fun j q hj hq y hy => nd_weak y hy) hu
    · rw [if_neg h1] at hu ⊢; exact pl_weak u hu
/-- different nodes lie at different addresses -/
theorem ad_inj {w : World} {F : Nat → Prop} {ad : Nat → Nat} {c : List Int} {vs : List Vx} {x : Value} (h : Has w F (lkA ad c vs) x) : ∀ i j, i < vs.length → j < vs.length → ad i = ad j → i = j := by
  obtain ⟨b, off, -, -, hc⟩ := h
  obtain ⟨u, -, -, hu⟩ := hc 1 (by omega)
  obtain ⟨A, cp, -, -, -, hu⟩ := hu
  intro i j hi hj e
  obtain ⟨b', off', -, -, hd⟩ := hu (by omega)
  obtain ⟨u1, -, -, h1⟩ := hd i 0 hi (by omega)
  obtain ⟨u2, -, -, h2⟩ := hd j 0 hj (by omega)
  dsimp only at h1 h2
  rw [ndA_eq] at h1 h2
  obtain ⟨-, -, -, h1⟩ := h1
  obtain ⟨-, -, -, h2⟩ := h2
  obtain ⟨y1, g1, -, k1⟩ := h1 4 (by omega)
  obtain ⟨y2, g2, -, k2⟩ := h2 4 (by omega)
  rw [e, g2] at g1
  injection g1 with g1
  have k1 : y1 = .int .i64 (i : Int) := k1
  have k2 : y2 = .int .i64 (j : Int) := k2
  rw [← g1, k2] at k1
  injection k1 with _ k1
  omega
end Go.Proofs.YtpmhikdefbcofaaDoor
/-! YtpmhikdefbcofaaDoorHa -/
set_option linter.all false
namespace Go.Proofs.YtpmhikdefbcofaaDoor
open Go.RowKit

/-- what stands at a place; the graph is as it was -/
def AtPA (ad : Nat → Nat) (c : List Int) (vs : List Vx) (x1 : SV) (g : Nat) (r a : Int) (q : SV) (N : List Hp) (p' : Hp) : Prop := N = [] ∧ p' = .box g 87 219 (grA ad c vs x1) ∧ AtA ad vs r a q
theorem atOA_c (ad : Nat → Nat) (c : List Int) (vs : List Vx) (x1 : SV) (g : Nat) (r a : Int) (hcm : cmOk c = true) (hg : GoodN c vs vs.length) : SMut Tryd.prog 47 [.val (.pointer (some ⟨g, 0, none⟩)), .i r, .i a] (.box g 87 219 (grA ad c vs x1)) (AtPA ad c vs x1 g r a) := ⟨fun R => by
  have h7 := (cmOk_iff.1 hcm).1
  refine SCalls.enter tt_ok Tryd.func47 (by kernel_rfl) rfl [(0, .box g 87 219 (grA ad c vs x1)), (900, .cust R)] rfl (upd (argF [.val (.pointer (some ⟨g, 0, none⟩)), .i r, .i a]) 0 (.ptr 0 g 0)) (fun w F v k h => at_arg h) (by simp) ?_
  by_cases hin : (0 ≤ r ∧ r ≤ 30) ∧ 0 ≤ a ∧ a < c.length
  · obtain ⟨q, hq, hA⟩ : ∃ q, plA ad vs r a = q ∧ AtA ad vs r a q := ⟨_, rfl, plA_at ad vs r a⟩
    have hld : ∀ k, k = 2 + r.toNat * 7 + a.toNat → grA ad c vs x1 k = q := fun k hk => by rw [grA_pl hk (by omega), ← hq]; congr 1 <;> omega
    have hR : inB r 0 30 = true := inB_true.2 hin.1
    rcases hA with ⟨i, h1, rfl⟩ | ⟨h1, rfl⟩
    all_goals (repeat' (first | (with_reducible first | refine HT.seq ?_ | refine HT.block ?_ | refine Br.not ?_) | ((with_reducible first | refine HT.region tt_ok ?_ | refine HT.drawn tt_ok (by kernel_rfl) (by decide +kernel) ?_ | refine HT.drawnL tt_ok (by kernel_rfl) (by decide +kernel) ?_ | refine HT.cond ?_ | refine HT.ret ?_ | refine HT.skip ?_ | refine HT.exit ?_ | refine Br.tt ?_ | refine Br.ff ?_); conv => whnf) | ((with_reducible first | refine Br.dec (fun hc => ?_) (fun hc => ?_) | refine Br.eq (fun hc => ?_) (fun hc => ?_) | refine Br.ne (fun hc => ?_) (fun hc => ?_)) <;> (first | (exfalso; omega) | conv => whnf)) | ((with_reducible first | refine Br.ttE (by decide) ?_ | refine Br.ffE (by decide) ?_ | refine Br.mk (fun hc => ?_) (fun hc => ?_) | refine Chk.mk (by first | omega | with_reducible rfl | (refine ⟨rfl, ?_⟩; omega) | decide | exact ⟨rfl, by omega, by omega, rfl⟩ | exact ⟨by assumption, rfl, by omega, by omega⟩) ?_ | refine Ar.fit (by omega) ?_ | refine Eqv.shr1 ?_ | refine Ar.u64 (by omega) ?_) <;> conv => whnf) | ((first | refine CallN.ret1 ((isRound_c _).bt hR) ?_ | refine CallN.ret1 (implHas_c c a) ?_ | (rw [hld (0 + 2 + r.toNat * 7 + a.toNat * 1) (by omega)])) <;> conv => whnf) | ((with_reducible refine Br.ttE (decide_eq_true hin.2) ?_); conv => whnf) | (with_reducible exact trivial) | ((with_reducible refine And.intro ?_ ?_) <;> conv => whnf) | (intro gn; conv => whnf)))
    · exact Fin.mut [] _ (fun _ => 0) (PPick.refl _) ⟨rfl, rfl, .inl ⟨i, h1, rfl⟩⟩
    · exact Fin.mut [] _ (fun _ => 0) (PPick.refl _) ⟨rfl, rfl, .inr ⟨h1, rfl⟩⟩
  · have h1 := hg.out hin
    by_cases hr : inB r 0 30 = true
    · have hr2 := inB_true.1 hr
      repeat' (first | (with_reducible first | refine HT.seq ?_ | refine HT.block ?_ | refine Br.not ?_) | ((with_reducible first | refine HT.region tt_ok ?_ | refine HT.drawn tt_ok (by kernel_rfl) (by decide +kernel) ?_ | refine HT.drawnL tt_ok (by kernel_rfl) (by decide +kernel) ?_ | refine HT.cond ?_ | refine HT.ret ?_ | refine HT.skip ?_ | refine HT.exit ?_ | refine Br.tt ?_ | refine Br.ff ?_); conv => whnf) | ((with_reducible first | refine Br.dec (fun hc => ?_) (fun hc => ?_) | refine Br.eq (fun hc => ?_) (fun hc => ?_) | refine Br.ne (fun hc => ?_) (fun hc => ?_)) <;> (first | (exfalso; omega) | conv => whnf)) | ((with_reducible first | refine Br.ttE (by decide) ?_ | refine Br.ffE (by decide) ?_ | refine Br.mk (fun hc => ?_) (fun hc => ?_) | refine Chk.mk (by first | omega | with_reducible rfl | (refine ⟨rfl, ?_⟩; omega) | decide | exact ⟨rfl, by omega, by omega, rfl⟩ | exact ⟨by assumption, rfl, by omega, by omega⟩) ?_ | refine Ar.fit (by omega) ?_ | refine Eqv.shr1 ?_ | refine Ar.u64 (by omega) ?_) <;> conv => whnf) | ((first | refine CallN.ret1 ((isRound_c _).bt hr) ?_ | refine CallN.ret1 (implHas_c c a) ?_) <;> conv => whnf) | (with_reducible exact trivial) | ((with_reducible refine And.intro ?_ ?_) <;> conv => whnf) | (intro gn; conv => whnf))
      exact Fin.mut [] _ (fun _ => 0) (PPick.refl _) ⟨rfl, rfl, .inr ⟨h1, rfl⟩⟩
    · repeat' (first | (with_reducible first | refine HT.seq ?_ | refine HT.block ?_ | refine Br.not ?_) | ((with_reducible first | refine HT.region tt_ok ?_ | refine HT.drawn tt_ok (by kernel_rfl) (by decide +kernel) ?_ | refine HT.drawnL tt_ok (by kernel_rfl) (by decide +kernel) ?_ | refine HT.cond ?_ | refine HT.ret ?_ | refine HT.skip ?_ | refine HT.exit ?_ | refine Br.tt ?_ | refine Br.ff ?_); conv => whnf) | ((with_reducible first | refine Br.dec (fun hc => ?_) (fun hc => ?_) | refine Br.eq (fun hc => ?_) (fun hc => ?_) | refine Br.ne (fun hc => ?_) (fun hc => ?_)) <;> (first | (exfalso; omega) | conv => whnf)) | ((with_reducible first | refine Br.ttE (by decide) ?_ | refine Br.ffE (by decide) ?_ | refine Br.mk (fun hc => ?_) (fun hc => ?_) | refine Chk.mk (by first | omega | with_reducible rfl | (refine ⟨rfl, ?_⟩; omega) | decide | exact ⟨rfl, by omega, by omega, rfl⟩ | exact ⟨by assumption, rfl, by omega, by omega⟩) ?_ | refine Ar.fit (by omega) ?_ | refine Eqv.shr1 ?_ | refine Ar.u64 (by omega) ?_) <;> conv => whnf) | ((first | refine CallN.ret1 ((isRound_c _).bf (by simpa using hr)) ?_) <;> conv => whnf) | (with_reducible exact trivial) | ((with_reducible refine And.intro ?_ ?_) <;> conv => whnf) | (intro gn; conv => whnf))
      exact Fin.mut [] _ (fun _ => 0) (PPick.refl _) ⟨rfl, rfl, .inr ⟨h1, rfl⟩⟩⟩
theorem atFA_c (ad : Nat → Nat) (c : List Int) (vs : List Vx) (x1 : SV) (r a : Int) (hcm : cmOk c = true) (hg : GoodN c vs vs.length) : SRet Tryd.prog 47 [.pp 219 (grA ad c vs x1), .i r, .i a] (AtA ad vs r a) := ⟨fun R => by
  have h7 := (cmOk_iff.1 hcm).1
  refine SCalls.enter tt_ok Tryd.func47 (by kernel_rfl) rfl [(900, .cust R)] rfl (argF _) (fun w F v k h => h) (by simp) ?_
  by_cases hin : (0 ≤ r ∧ r ≤ 30) ∧ 0 ≤ a ∧ a < c.length
  · obtain ⟨q, hq, hA⟩ : ∃ q, plA ad vs r a = q ∧ AtA ad vs r a q := ⟨_, rfl, plA_at ad vs r a⟩
    have hld : ∀ k, k = 2 + r.toNat * 7 + a.toNat → grA ad c vs x1 k = q := fun k hk => by rw [grA_pl hk (by omega), ← hq]; congr 1 <;> omega
    have hR : inB r 0 30 = true := inB_true.2 hin.1
    rcases hA with ⟨i, h1, rfl⟩ | ⟨h1, rfl⟩
    all_goals (repeat' (first | (with_reducible first | refine HT.seq ?_ | refine HT.block ?_ | refine Br.not ?_) | ((with_reducible first | refine HT.region tt_ok ?_ | refine HT.drawn tt_ok (by kernel_rfl) (by decide +kernel) ?_ | refine HT.drawnL tt_ok (by kernel_rfl) (by decide +kernel) ?_ | refine HT.cond ?_ | refine HT.ret ?_ | refine HT.skip ?_ | refine HT.exit ?_ | refine Br.tt ?_ | refine Br.ff ?_); conv => whnf) | ((with_reducible first | refine Br.dec (fun hc => ?_) (fun hc => ?_) | refine Br.eq (fun hc => ?_) (fun hc => ?_) | refine Br.ne (fun hc => ?_) (fun hc => ?_)) <;> (first | (exfalso; omega) | conv => whnf)) | ((with_reducible first | refine Br.ttE (by decide) ?_ | refine Br.ffE (by decide) ?_ | refine Br.mk (fun hc => ?_) (fun hc => ?_) | refine Chk.mk (by first | omega | with_reducible rfl | (refine ⟨rfl, ?_⟩; omega) | decide | exact ⟨rfl, by omega, by omega, rfl⟩ | exact ⟨by assumption, rfl, by omega, by omega⟩) ?_ | refine Ar.fit (by omega) ?_ | refine Eqv.shr1 ?_ | refine Ar.u64 (by omega) ?_) <;> conv => whnf) | ((first | refine CallN.ret1 ((isRound_c _).bt hR) ?_ | refine CallN.ret1 (implHas_c c a) ?_ | (dsimp only; rw [hld (2 + (r.toNat * 7 + (a.toNat * 1 + 0))) (by omega)])) <;> conv => whnf) | ((with_reducible refine Br.ttE (decide_eq_true hin.2) ?_); conv => whnf) | (with_reducible exact trivial) | ((with_reducible refine And.intro ?_ ?_) <;> conv => whnf) | (intro gn; conv => whnf)))
    · exact Fin.pureS (by repeat (first | exact List.Sublist.refl _ | refine List.Sublist.cons_cons _ ?_ | refine List.Sublist.cons _ ?_)) (.inl ⟨i, h1, rfl⟩)
    · exact Fin.pureS (by repeat (first | exact List.Sublist.refl _ | refine List.Sublist.cons_cons _ ?_ | refine List.Sublist.cons _ ?_)) (.inr ⟨h1, rfl⟩)
  · have h1 := hg.out hin
    by_cases hr : inB r 0 30 = true
    · have hr2 := inB_true.1 hr
      repeat' (first | (with_reducible first | refine HT.seq ?_ | refine HT.block ?_ | refine Br.not ?_) | ((with_reducible first | refine HT.region tt_ok ?_ | refine HT.drawn tt_ok (by kernel_rfl) (by decide +kernel) ?_ | refine HT.drawnL tt_ok (by kernel_rfl) (by decide +kernel) ?_ | refine HT.cond ?_ | refine HT.ret ?_ | refine HT.skip ?_ | refine HT.exit ?_ | refine Br.tt ?_ | refine Br.ff ?_); conv => whnf) | ((with_reducible first | refine Br.dec (fun hc => ?_) (fun hc => ?_) | refine Br.eq (fun hc => ?_) (fun hc => ?_) | refine Br.ne (fun hc => ?_) (fun hc => ?_)) <;> (first | (exfalso; omega) | conv => whnf)) | ((with_reducible first | refine Br.ttE (by decide) ?_ | refine Br.ffE (by decide) ?_ | refine Br.mk (fun hc => ?_) (fun hc => ?_) | refine Chk.mk (by first | omega | with_reducible rfl | (refine ⟨rfl, ?_⟩; omega) | decide | exact ⟨rfl, by omega, by omega, rfl⟩ | exact ⟨by assumption, rfl, by omega, by omega⟩) ?_ | refine Ar.fit (by omega) ?_ | refine Eqv.shr1 ?_ | refine Ar.u64 (by omega) ?_) <;> conv => whnf) | ((first | refine CallN.ret1 ((isRound_c _).bt hr) ?_ | refine CallN.ret1 (implHas_c c a) ?_) <;> conv => whnf) | (with_reducible exact trivial) | ((with_reducible refine And.intro ?_ ?_) <;> conv => whnf) | (intro gn; conv => whnf))
      exact Fin.pureS (by repeat (first | exact List.Sublist.refl _ | refine List.Sublist.cons_cons _ ?_ | refine List.Sublist.cons _ ?_)) (.inr ⟨h1, rfl⟩)
    · repeat' (first | (with_reducible first | refine HT.seq ?_ | refine HT.block ?_ | refine Br.not ?_) | ((with_reducible first | refine HT.region tt_ok ?_ | refine HT.drawn tt_ok (by kernel_rfl) (by decide +kernel) ?_ | refine HT.drawnL tt_ok (by kernel_rfl) (by decide +kernel) ?_ | refine HT.cond ?_ | refine HT.ret ?_ | refine HT.skip ?_ | refine HT.exit ?_ | refine Br.tt ?_ | refine Br.ff ?_); conv => whnf) | ((with_reducible first | refine Br.dec (fun hc => ?_) (fun hc => ?_) | refine Br.eq (fun hc => ?_) (fun hc => ?_) | refine Br.ne (fun hc => ?_) (fun hc => ?_)) <;> (first | (exfalso; omega) | conv => whnf)) | ((with_reducible first | refine Br.ttE (by decide) ?_ | refine Br.ffE (by decide) ?_ | refine Br.mk (fun hc => ?_) (fun hc => ?_) | refine Chk.mk (by first | omega | with_reducible rfl | (refine ⟨rfl, ?_⟩; omega) | decide | exact ⟨rfl, by omega, by omega, rfl⟩ | exact ⟨by assumption, rfl, by omega, by omega⟩) ?_ | refine Ar.fit (by omega) ?_ | refine Eqv.shr1 ?_ | refine Ar.u64 (by omega) ?_) <;> conv => whnf) | ((first | refine CallN.ret1 ((isRound_c _).bf (by simpa using hr)) ?_) <;> conv => whnf) | (with_reducible exact trivial) | ((with_reducible refine And.intro ?_ ?_) <;> conv => whnf) | (intro gn; conv => whnf))
      exact Fin.pureS (by repeat (first | exact List.Sublist.refl _ | refine List.Sublist.cons_cons _ ?_ | refine List.Sublist.cons _ ?_)) (.inr ⟨h1, rfl⟩)⟩
end Go.Proofs.YtpmhikdefbcofaaDoor
/-! YtpmhikdefbcofaaDoorHl -/
set_option linter.all false
namespace Go.Proofs.YtpmhikdefbcofaaDoor
open Go.RowKit

/-- one address more -/
def adU (ad : Nat → Nat) (n g : Nat) : Nat → Nat := fun j => if j = n then g else ad j
theorem adU_lt {ad : Nat → Nat} {n g : Nat} : ∀ j, j < n → adU ad n g j = ad j := fun j hj => if_neg (by omega)
theorem adU_eq {ad : Nat → Nat} {n g : Nat} : adU ad n g n = g := if_pos rfl
theorem par_newA {ad : Nat → Nat} {gb : Nat} {c : List Int} {vs : List Vx} {v : Vx} {j : Nat} (hg : GoodN c vs vs.length) (hj : j < v.ps.length) (hs : (fdV vs (v.r - 1) (v.ps.getD j default)).isSome = true) : paA (adU ad vs.length gb) (vs ++ [v]) vs.length j = plA ad vs (v.r - 1) (v.ps.getD j default) := by
  obtain ⟨i, hi⟩ := Option.isSome_iff_exists.1 hs
  have hp : pix (vs ++ [v]) vs.length j = i := by
    unfold pix
    rw [vg_last, fd_app hi]
    rfl
  have hl := (fd_some hi).1
  unfold paA
  rw [vg_last, hp, if_pos ⟨hj, hl⟩, ndA_app hg adU_lt hl]
  unfold plA
  rw [hi]
theorem nd_newA {ad : Nat → Nat} {gb : Nat} {vs : List Vx} {v : Vx} : nuA (adU ad vs.length gb) (vs ++ [v]) vs.length = .ref gb 0 6 (ndC v vs.length (paA (adU ad vs.length gb) (vs ++ [v]) vs.length)) := by
  unfold nuA
  rw [vg_last, adU_eq]
theorem pl_newA {ad : Nat → Nat} {c : List Int} {vs : List Vx} {v : Vx} (hg : GoodN c vs vs.length) (ho : 0 < vs.length → bef (vg vs (vs.length - 1)) v = true) : plA ad (vs ++ [v]) v.r v.a = nuA ad (vs ++ [v]) vs.length := by
  have := fd_app_none (v := v) (fd_new hg ho)
  rw [if_pos ⟨rfl, rfl⟩] at this
  unfold plA
  rw [this]
  exact ndA_eq _ _ _
theorem pl_oldA {ad : Nat → Nat} {gb : Nat} {c : List Int} {vs : List Vx} {v : Vx} {r a : Int} (hg : GoodN c vs vs.length) (h : ¬ (v.r = r ∧ v.a = a)) : plA (adU ad vs.length gb) (vs ++ [v]) r a = plA ad vs r a := by
  unfold plA
  cases e : fdV vs r a with
  | none =>
    rw [fd_app_none e, if_neg h]
  | some i =>
    rw [fd_app e]
    exact ndA_app hg adU_lt (fd_some e).1
/-- the graph's cells with one vertex more -/
theorem gr_putA {w : World} {F : Nat → Prop} {ad : Nat → Nat} {gb : Nat} {c : List Int} {vs : List Vx} {v : Vx} {x1 y : SV} {nd : SV} (hg : GoodN c vs vs.length) (hv : vxOk c v = true) (hc : c.length ≤ 7) (ho : 0 < vs.length → bef (vg vs (vs.length - 1)) v = true) {off : Nat} (hoff : off = 2 + v.r.toNat * 7 + v.a.toNat)
    (hnd : LeW w F nd (nuA (adU ad vs.length gb) (vs ++ [v]) vs.length)) {y' : SV} (hy : LeW w F y y') {j : Nat} : LeW w F (putF off 1 (fun _ => nd) (putF (0 + 1) 1 (fun _ => y) (grA ad c vs x1)) j) (grA (adU ad vs.length gb) c (vs ++ [v]) y' j) := by
  have hb := vxOk_iff hv
  rw [putF_one, putF_one]
  by_cases h1 : j = off
  · rw [if_pos h1, grA_pl (show j = 2 + v.r.toNat * 7 + v.a.toNat by omega) (by omega)]
    rw [show ((v.r.toNat : Int)) = v.r by omega, show ((v.a.toNat : Int)) = v.a by omega, pl_newA hg ho]
    exact hnd
  · rw [if_neg h1]
    by_cases h2 : j = 0 + 1
    · rw [if_pos h2]
      subst h2
      exact hy
    · rw [if_neg h2]
      unfold grA
      by_cases h3 : j = 0
      · rw [if_pos h3, if_pos h3]; exact fun _ h => h
      · rw [if_neg h3, if_neg h3, if_neg (by omega), if_neg (by omega), pl_oldA hg (by omega)]
        exact fun _ h => h
theorem pl_eqA {ad : Nat → Nat} {vs : List Vx} {r a : Int} {i : Nat} (h : fdV vs r a = some i) : plA ad vs r a = nuA ad vs i := by
  unfold plA
  rw [h]
  exact ndA_eq ad vs i

/-- the graph under construction: its cells, its list of nodes -/
def grLA (ad : Nat → Nat) (g : Nat) (c : List Int) (vs : List Vx) (k : Nat) (s : Value) : List Hp := [.box g 87 219 (grA ad c vs (.own k s)), .row s 59 1 vs.length (fun i _ => ndA ad vs i)]
def grHA (ad : Nat → Nat) (g : Nat) (c : List Int) (vs : List Vx) (s : Value) : Heaplet := bundle (grLA ad g c vs 1 s)
/-- what link leaves -/
def LinkPA (ad : Nat → Nat) (g : Nat) (c : List Int) (vs : List Vx) (v : Vx) (r : SV) (N : List Hp) (p' : Hp) : Prop :=
  N = [] ∧ ((parOk vs v = true ∧ r = .b true ∧ ∃ A cp gb, p' = .cust (grHA (adU ad vs.length gb) g c (vs ++ [v]) (.slice A (vs.length + 1) cp))) ∨ (parOk vs v = false ∧ r = .b false ∧ ∃ h, p' = .cust h))
theorem gr_nilA (ad : Nat → Nat) (c : List Int) : ∀ j, j < 219 → CellLe (putF 0 1 (fun _ => isl c) (zF (fetch 87 tt).zc) j) (grA ad c [] (.own 1 (.slice none 0 0)) j) := fun j hj => by
  rw [putF_one, gr_zc]
  unfold grA
  by_cases h0 : j = 0
  · rw [if_pos h0, if_pos h0]; exact .refl _
  · rw [if_neg h0, if_neg h0]
    by_cases h1 : j = 1
    · subst h1; exact .nil
    · rw [if_neg h1]
      obtain ⟨q, rfl⟩ : ∃ q, j = q + 2 := ⟨j - 2, by omega⟩
      refine CellLe.of_eq ?_
      show SV.val ((List.replicate 217 (Value.pointer none)).getD q undef) = .val (.pointer none)
      rw [List.getD_eq_getElem?_getD, List.getElem?_replicate, if_pos (by omega)]; rfl
set_option maxRecDepth 100000 in
theorem linkA_c (ad : Nat → Nat) (c : List Int) (vs : List Vx) (v : Vx) (g : Nat) (A : Option Addr) (cp : Nat) (hcm : cmOk c = true) (hg : GoodN c vs vs.length) (hv : vxOk c v = true) (ho : 0 < vs.length → bef (vg vs (vs.length - 1)) v = true) (hl : vs.length ≤ 10000000) : SMut Tryd.prog 66 [.val (.pointer (some ⟨g, 0, none⟩)), vxV v] (.cust (grHA ad g c vs (.slice A vs.length cp))) (LinkPA ad g c vs v) := ⟨fun R => by
  have h7 := (cmOk_iff.1 hcm).1
  have hb := vxOk_iff hv
  have hpl := ms_len hb.2.2.1
  refine SCalls.enter tt_ok Tryd.func66 (by kernel_rfl) rfl [(0, .cust (grHA ad g c vs (.slice A vs.length cp))), (900, .cust R)] rfl (upd (argF [.val (.pointer (some ⟨g, 0, none⟩)), vxV v]) 0 (.ptr 0 g 0)) (fun w F v k h => at_arg h) (by simp) ?_
  refine HT.open2 (k0 := 0) (k1 := 1) (a := .box g 87 219 (grA ad c vs (.own 1 (.slice A vs.length cp)))) ?_
  repeat' (first | (with_reducible first | refine HT.seq ?_ | refine HT.block ?_ | refine Br.not ?_) | ((with_reducible first | refine HT.region tt_ok ?_ | refine HT.drawn tt_ok (by kernel_rfl) (by decide +kernel) ?_ | refine HT.drawnL tt_ok (by kernel_rfl) (by decide +kernel) ?_ | refine HT.cond ?_ | refine HT.ret ?_ | refine HT.skip ?_ | refine HT.exit ?_ | refine Br.tt ?_ | refine Br.ff ?_); conv => whnf) | ((with_reducible first | refine Br.dec (fun hc => ?_) (fun hc => ?_) | refine Br.eq (fun hc => ?_) (fun hc => ?_) | refine Br.ne (fun hc => ?_) (fun hc => ?_)) <;> (first | (exfalso; omega) | conv => whnf)) | ((with_reducible first | refine Br.ttE (by decide) ?_ | refine Br.ffE (by decide) ?_ | refine Br.mk (fun hc => ?_) (fun hc => ?_) | refine Chk.mk (by first | omega | with_reducible rfl | (refine ⟨rfl, ?_⟩; omega) | decide | exact ⟨rfl, by omega, by omega, rfl⟩ | exact ⟨by assumption, rfl, by omega, by omega⟩) ?_ | refine Ar.fit (by omega) ?_ | refine Eqv.shr1 ?_ | refine Ar.u64 (by omega) ?_) <;> conv => whnf) | (with_reducible exact trivial) | ((with_reducible refine And.intro ?_ ?_) <;> conv => whnf) | (intro gn; conv => whnf))
  revert gn; intro gb
  refine HT.nilRow 50 59 1 (fun _ _ => .any) ?_
  refine HT.loopC [0, 1, 3, 5, 18, 19] (fun x : Nat × Option Addr × Nat => [(20, .i x.1)]) (fun x : Nat × Option Addr × Nat => [(101, .box (litF [.i v.r, .i v.a, isl v.ps, .i v.d, .i vs.length, .own 50 (.slice x.2.1 x.1 x.2.2)])), (50, .row (.slice x.2.1 x.1 x.2.2) x.1 (fun j _ => plA ad vs (v.r - 1) (v.ps.getD j default)))]) (fun x : Nat × Option Addr × Nat => x.1 ≤ v.ps.length ∧ ∀ j, j < x.1 → (fdV vs (v.r - 1) (v.ps.getD j default)).isSome = true) (fun x : Nat × Option Addr × Nat => v.ps.length - x.1) (0, none, 0) ⟨Nat.zero_le _, fun j hj => absurd hj (by omega)⟩ ⟨(by first | with_reducible exact CellLe.refl _ | exact CellLe.own | exact CellLe.i (by omega) | exact CellLe.nil | exact CellLe.slNil | exact CellLe.refl _), trivial⟩ ?_ ?_
  · conv => whnf
    refine PP.start ?_; repeat (first | exact PP.nil | refine PP.take (by first | with_reducible exact Hp.Sub.refl _ | exact Hp.Sub.rd (by omega) | exact Hp.Sub.rowA rfl (fun i j hi hj => absurd hi (by omega)) | exact Hp.Sub.boxA (by (repeat (first | exact all_lt_zero | refine all_lt_succ (p := fun j => CellLe _ _) (by first | with_reducible exact CellLe.refl _ | exact CellLe.own | exact CellLe.i (by omega) | exact CellLe.nil | exact CellLe.slNil | exact CellLe.refl _) ?_))) | exact Hp.Sub.refl _) ?_ | refine PP.skip ?_)
  conv => whnf
  rintro ⟨k, B, cq⟩ ⟨hk, hall⟩
  dsimp only at hk hall ⊢
  conv => whnf
  repeat' (first | (with_reducible first | refine HT.seq ?_ | refine HT.block ?_ | refine Br.not ?_) | ((with_reducible first | refine HT.region tt_ok ?_ | refine HT.drawn tt_ok (by kernel_rfl) (by decide +kernel) ?_ | refine HT.drawnL tt_ok (by kernel_rfl) (by decide +kernel) ?_ | refine HT.cond ?_ | refine HT.ret ?_ | refine HT.skip ?_ | refine HT.exit ?_ | refine Br.tt ?_ | refine Br.ff ?_); conv => whnf) | ((with_reducible first | refine Br.dec (fun hc => ?_) (fun hc => ?_) | refine Br.eq (fun hc => ?_) (fun hc => ?_) | refine Br.ne (fun hc => ?_) (fun hc => ?_)) <;> (first | (exfalso; omega) | conv => whnf)) | ((with_reducible first | refine Br.ttE (by decide) ?_ | refine Br.ffE (by decide) ?_ | refine Br.mk (fun hc => ?_) (fun hc => ?_) | refine Chk.mk (by first | omega | with_reducible rfl | (refine ⟨rfl, ?_⟩; omega) | decide | exact ⟨rfl, by omega, by omega, rfl⟩ | exact ⟨by assumption, rfl, by omega, by omega⟩) ?_ | refine Ar.fit (by omega) ?_ | refine Eqv.shr1 ?_ | refine Ar.u64 (by omega) ?_) <;> conv => whnf) | ((first | (refine CallN.keepL 0 _ _ rfl rfl (atOA_c ad c vs _ g _ _ hcm hg) ?_; rintro r (⟨i, hi, rfl⟩ | ⟨hi, rfl⟩))) <;> conv => whnf) | (with_reducible exact trivial) | ((with_reducible refine And.intro ?_ ?_) <;> conv => whnf) | (intro gn; conv => whnf))
  all_goals (try simp only [Int.toNat_natCast] at *)
  · rename_i A2
    exact ⟨⟨(k + 1, A2, gn), ⟨by dsimp only; omega, all_lt_succ (by rw [hi]; rfl) hall⟩, by dsimp only; omega, (by repeat' (first | exact trivial | refine ⟨rfl, ?_⟩)), ⟨(by first | with_reducible exact CellLe.refl _ | exact CellLe.own | exact CellLe.i (by omega) | exact CellLe.nil | exact CellLe.slNil | exact CellLe.refl _), trivial⟩, HLe.pk (by
      conv => whnf
      refine PP.start ?_; repeat (first | exact PP.nil | refine PP.take (by first | with_reducible exact Hp.Sub.refl _ | exact Hp.Sub.rd (by omega) | exact Hp.Sub.rowL rfl (fun w F i' j' hi' hj' => cat_one (f' := fun j _ => plA ad vs (v.r - 1) (v.ps.getD j default)) (fun _ _ _ h => h) (LeW.of_eq (pl_eqA hi).symm) hi' hj') | exact Hp.Sub.boxA (by (repeat (first | exact all_lt_zero | refine all_lt_succ (p := fun j => CellLe _ _) (by first | with_reducible exact CellLe.refl _ | exact CellLe.own | exact CellLe.i (by omega) | exact CellLe.nil | exact CellLe.slNil | exact CellLe.refl _) ?_))) | exact Hp.Sub.refl _) ?_ | refine PP.skip ?_))⟩⟩
  · refine Fin.bundle [] (by refine PP.start ?_; repeat (first | exact PP.nil | refine PP.take (by first | with_reducible exact Hp.Sub.refl _ | exact Hp.Sub.rd (by omega) | exact Hp.Sub.boxA (by (repeat (first | exact all_lt_zero | refine all_lt_succ (p := fun j => CellLe _ _) (by first | with_reducible exact CellLe.refl _ | exact CellLe.own | exact CellLe.i (by omega) | exact CellLe.nil | exact CellLe.slNil | exact CellLe.refl _) ?_))) | exact Hp.Sub.refl _) ?_ | refine PP.skip ?_)) ⟨rfl, .inr ⟨?_, rfl, _, rfl⟩⟩
    exact dall_false (k := k) (by omega) (by rw [hi]; simp)
  · obtain rfl : k = v.ps.length := by omega
    rename_i A2
    have hpo : parOk vs v = true := dall_true hall
    refine Fin.frzB (r' := .b true) [.row (.slice B v.ps.length cq) 59 1 v.ps.length (fun j _ => plA ad vs (v.r - 1) (v.ps.getD j default)), .box gb 64 6 (litF [.i v.r, .i v.a, isl v.ps, .i v.d, .i vs.length, .own 50 (.slice B v.ps.length cq)])]
      [.box g 87 219 (putF (0 + 2 + v.r.toNat * 7 + v.a.toNat * 1) 1 (fun _ => .ptr 101 gb 0) (putF (0 + 1) 1 (fun _ => .own _ (.slice A2 (vs.length + 1) gn)) (grA ad c vs (.own 1 (.slice A vs.length cp))))), .row (.slice A2 (vs.length + 1) gn) 59 1 (vs.length + 1) (fun i _ => if i < vs.length then ndA ad vs i else .ptr 101 gb 0)] (grLA (adU ad vs.length gb) g c (vs ++ [v]) 1 (.slice A2 (vs.length + 1) gn)) (by
      refine PP.start ?_; repeat (first | exact PP.nil | refine PP.take (by first | with_reducible exact Hp.Sub.refl _ | exact Hp.Sub.rd (by omega) | exact Hp.Sub.boxA (fun j hj w F => by exact fun _ h => h) | exact Hp.Sub.rowL rfl (fun w F i j hi hj => cat_one (f' := fun i _ => if i < vs.length then ndA ad vs i else .ptr 101 gb 0) (fun i hi => by rw [if_pos hi]; exact fun _ h => h) (by rw [if_neg (Nat.lt_irrefl _)]; exact fun _ h => h) hi hj) | exact Hp.Sub.boxA (by (repeat (first | exact all_lt_zero | refine all_lt_succ (p := fun j => CellLe _ _) (by first | with_reducible exact CellLe.refl _ | exact CellLe.own | exact CellLe.i (by omega) | exact CellLe.nil | exact CellLe.slNil | exact CellLe.refl _) ?_))) | exact Hp.Sub.refl _) ?_ | refine PP.skip ?_))
      ?_ ⟨rfl, .inl ⟨hpo, rfl, _, _, gb, rfl⟩⟩
    rintro w F ⟨hrow, hbox, -⟩
    have hnd : LeW w F (.ptr 101 gb 0) (nuA (adU ad vs.length gb) (vs ++ [v]) vs.length) := fun x hx => by
      have e : x = .pointer (some ⟨gb, 0, none⟩) := hx
      subst e
      rw [nd_newA]
      refine Has.refL ?_ hbox
      have h5 : Has w F (.sl 1 v.ps.length fun j _ => paA (adU ad vs.length gb) (vs ++ [v]) vs.length j) (.slice B v.ps.length cq) := Has.slL (fun i k hi hk x hx => by rw [par_newA hg hi (hall i hi)]; exact hx) hrow
      exact all_lt_succ (p := fun k => ∀ u, Has w F _ u → Has w F _ u) (fun u hu => (show u = _ from hu) ▸ h5) (fun k hk u hu => by rcases (by omega : k = 0 ∨ k = 1 ∨ k = 2 ∨ k = 3 ∨ k = 4) with rfl | rfl | rfl | rfl | rfl <;> exact hu)
    refine ⟨⟨SubW.box (fun j hj => gr_putA (off := 0 + 2 + v.r.toNat * 7 + v.a.toNat * 1) (y := .own (100 + 1 + 1 + 1) (.slice A2 (vs.length + 1) gn)) (y' := .own 1 (.slice A2 (vs.length + 1) gn)) hg hv h7.2 ho (by omega) hnd (fun _ h => h)), SubW.row (by simp) (fun i j hi hj => ?_), trivial⟩, fun _ h => h⟩
    by_cases h : i < vs.length
    · rw [if_pos h, ndA_app hg adU_lt h]; exact fun _ h => h
    · obtain rfl : i = vs.length := by omega
      rw [if_neg h, ndA_eq]; exact hnd⟩
/-- a linked graph, and whether it is valid -/
def LinkedPA (c : List Int) (vs : List Vx) (r : SV) : Prop := (grOk c vs = true ∧ ∃ ad, r = .tup 2 (litF [lkA ad c vs, .b true])) ∨ (grOk c vs = false ∧ r = .tup 2 (litF [.val (.pointer none), .b false]))
set_option maxRecDepth 100000 in
theorem linkGraphA_c (c : List Int) (vs : List Vx) (hl : c.length ≤ 10000000) (hv : vs.length ≤ 10000000) (hp : ∀ v ∈ vs, v.ps.length ≤ 10000000) : SRet Tryd.prog 46 [isl c, vsl vs] (LinkedPA c vs) := ⟨fun R => by
  refine SCalls.enter tt_ok Tryd.func46 (by kernel_rfl) rfl [(900, .cust R)] rfl (argF _) (fun w F v k h => h) (by simp) ?_
  by_cases hcm : cmOk c = true
  rotate_left
  · have hcm : cmOk c = false := by simpa using hcm
    repeat' (first | (with_reducible first | refine HT.seq ?_ | refine HT.block ?_ | refine Br.not ?_) | ((with_reducible first | refine HT.region tt_ok ?_ | refine HT.drawn tt_ok (by kernel_rfl) (by decide +kernel) ?_ | refine HT.drawnL tt_ok (by kernel_rfl) (by decide +kernel) ?_ | refine HT.cond ?_ | refine HT.ret ?_ | refine HT.skip ?_ | refine HT.exit ?_ | refine Br.tt ?_ | refine Br.ff ?_); conv => whnf) | ((with_reducible first | refine Br.dec (fun hc => ?_) (fun hc => ?_) | refine Br.eq (fun hc => ?_) (fun hc => ?_) | refine Br.ne (fun hc => ?_) (fun hc => ?_)) <;> (first | (exfalso; omega) | conv => whnf)) | ((with_reducible first | refine Br.ttE (by decide) ?_ | refine Br.ffE (by decide) ?_ | refine Br.mk (fun hc => ?_) (fun hc => ?_) | refine Chk.mk (by first | omega | with_reducible rfl | (refine ⟨rfl, ?_⟩; omega) | decide | exact ⟨rfl, by omega, by omega, rfl⟩ | exact ⟨by assumption, rfl, by omega, by omega⟩) ?_ | refine Ar.fit (by omega) ?_ | refine Eqv.shr1 ?_ | refine Ar.u64 (by omega) ?_) <;> conv => whnf) | ((first | refine CallN.ret1 ((implCmValid_c c (by omega)).bf hcm) ?_) <;> conv => whnf) | (with_reducible exact trivial) | ((with_reducible refine And.intro ?_ ?_) <;> conv => whnf) | (intro gn; conv => whnf))
    exact Fin.pureLe (r' := .tup 2 (litF [.val (.pointer none), .b false])) (by repeat (first | exact List.Sublist.refl _ | refine List.Sublist.cons_cons _ ?_ | refine List.Sublist.cons _ ?_)) (CellLe.of_eq rfl) (.inr ⟨by unfold grOk; rw [hcm]; rfl, rfl⟩)
  have h7 := (cmOk_iff.1 hcm).1
  repeat' (first | (with_reducible first | refine HT.seq ?_ | refine HT.block ?_ | refine Br.not ?_) | ((with_reducible first | refine HT.region tt_ok ?_ | refine HT.drawn tt_ok (by kernel_rfl) (by decide +kernel) ?_ | refine HT.drawnL tt_ok (by kernel_rfl) (by decide +kernel) ?_ | refine HT.cond ?_ | refine HT.ret ?_ | refine HT.skip ?_ | refine HT.exit ?_ | refine Br.tt ?_ | refine Br.ff ?_); conv => whnf) | ((with_reducible first | refine Br.dec (fun hc => ?_) (fun hc => ?_) | refine Br.eq (fun hc => ?_) (fun hc => ?_) | refine Br.ne (fun hc => ?_) (fun hc => ?_)) <;> (first | (exfalso; omega) | conv => whnf)) | ((with_reducible first | refine Br.ttE (by decide) ?_ | refine Br.ffE (by decide) ?_ | refine Br.mk (fun hc => ?_) (fun hc => ?_) | refine Chk.mk (by first | omega | with_reducible rfl | (refine ⟨rfl, ?_⟩; omega) | decide | exact ⟨rfl, by omega, by omega, rfl⟩ | exact ⟨by assumption, rfl, by omega, by omega⟩) ?_ | refine Ar.fit (by omega) ?_ | refine Eqv.shr1 ?_ | refine Ar.u64 (by omega) ?_) <;> conv => whnf) | ((first | refine CallN.ret1 ((implCmValid_c c (by omega)).bt hcm) ?_) <;> conv => whnf) | (with_reducible exact trivial) | ((with_reducible refine And.intro ?_ ?_) <;> conv => whnf) | (intro gn; conv => whnf))
  revert gn; intro gb
  obtain ⟨x0⟩ : Nonempty (Nat → Nat) := ⟨fun _ => 0⟩
  refine HT.bundleN 110 (grLA x0 gb c [] 1 (.slice none 0 0)) (L' := [(900, .cust R)]) (fun w F hs => ?_) ?_
  · have h1 := hs.nil 59 1 (fun i _ => ndA x0 [] i)
    refine PPick.sat ?_ h1
    refine PP.start ?_; repeat (first | exact PP.nil | refine PP.take (by first | with_reducible exact Hp.Sub.refl _ | exact Hp.Sub.rd (by omega) | exact Hp.Sub.boxA (gr_nilA x0 c) | exact Hp.Sub.boxA (by (repeat (first | exact all_lt_zero | refine all_lt_succ (p := fun j => CellLe _ _) (by first | with_reducible exact CellLe.refl _ | exact CellLe.own | exact CellLe.i (by omega) | exact CellLe.nil | exact CellLe.slNil | exact CellLe.refl _) ?_))) | exact Hp.Sub.refl _) ?_ | refine PP.skip ?_)
  refine HT.loopC [0, 1, 6, 11, 15, 16] (fun x : Nat × Option Addr × Nat × (Nat → Nat) => [(17, .i x.1)]) (fun x : Nat × Option Addr × Nat × (Nat → Nat) => [(110, .cust (grHA x.2.2.2 gb c (vs.take x.1) (.slice x.2.1 (vs.take x.1).length x.2.2.1)))]) (fun x : Nat × Option Addr × Nat × (Nat → Nat) => x.1 ≤ vs.length ∧ GoodN c vs x.1) (fun x : Nat × Option Addr × Nat × (Nat → Nat) => vs.length - x.1) (0, none, 0, x0) ⟨Nat.zero_le _, fun j hj => absurd hj (by omega)⟩ ⟨(by first | with_reducible exact CellLe.refl _ | exact CellLe.own | exact CellLe.i (by omega) | exact CellLe.nil | exact CellLe.slNil | exact CellLe.refl _), trivial⟩ ?_ ?_
  · conv => whnf
    refine PP.start ?_; repeat (first | exact PP.nil | refine PP.take (by first | with_reducible exact Hp.Sub.refl _ | exact Hp.Sub.rd (by omega) | exact Hp.Sub.boxA (by (repeat (first | exact all_lt_zero | refine all_lt_succ (p := fun j => CellLe _ _) (by first | with_reducible exact CellLe.refl _ | exact CellLe.own | exact CellLe.i (by omega) | exact CellLe.nil | exact CellLe.slNil | exact CellLe.refl _) ?_))) | exact Hp.Sub.refl _) ?_ | refine PP.skip ?_)
  conv => whnf
  rintro ⟨k, B, cq, ad⟩ ⟨hk, hall⟩
  dsimp only at hk hall ⊢
  by_cases hkl : k < vs.length
  rotate_left
  · obtain rfl : k = vs.length := by omega
    conv => whnf
    repeat' (first | (with_reducible first | refine HT.seq ?_ | refine HT.block ?_ | refine Br.not ?_) | ((with_reducible first | refine HT.region tt_ok ?_ | refine HT.drawn tt_ok (by kernel_rfl) (by decide +kernel) ?_ | refine HT.drawnL tt_ok (by kernel_rfl) (by decide +kernel) ?_ | refine HT.cond ?_ | refine HT.ret ?_ | refine HT.skip ?_ | refine HT.exit ?_ | refine Br.tt ?_ | refine Br.ff ?_); conv => whnf) | ((with_reducible first | refine Br.dec (fun hc => ?_) (fun hc => ?_) | refine Br.eq (fun hc => ?_) (fun hc => ?_) | refine Br.ne (fun hc => ?_) (fun hc => ?_)) <;> (first | (exfalso; omega) | conv => whnf)) | ((with_reducible first | refine Br.ttE (by decide) ?_ | refine Br.ffE (by decide) ?_ | refine Br.mk (fun hc => ?_) (fun hc => ?_) | refine Chk.mk (by first | omega | with_reducible rfl | (refine ⟨rfl, ?_⟩; omega) | decide | exact ⟨rfl, by omega, by omega, rfl⟩ | exact ⟨by assumption, rfl, by omega, by omega⟩) ?_ | refine Ar.fit (by omega) ?_ | refine Eqv.shr1 ?_ | refine Ar.u64 (by omega) ?_) <;> conv => whnf) | (with_reducible exact trivial) | ((with_reducible refine And.intro ?_ ?_) <;> conv => whnf) | (intro gn; conv => whnf))
    rw [List.take_length]
    refine Fin.open (Z := grLA ad gb c vs 1 (.slice B vs.length cq)) ?_
    refine Fin.frz (r' := .tup 2 (litF [lkA ad c vs, .b true])) (grLA ad gb c vs 1 (.slice B vs.length cq)) [.cust R] (PPick.refl _) ?_ ⟨rfl, .inl ⟨grOk_iff.2 ⟨hcm, hall⟩, ad, rfl⟩⟩
    rintro w F ⟨hbox, hrow, -⟩
    refine ⟨AllW.refl _ _ _, LeW.tup2 (fun u hu => ?_) (fun u hu => hu)⟩
    rw [show u = _ from hu]
    refine Has.pp (fun k hk u hu => ?_) hbox.ref_pp
    unfold grA at hu ⊢
    by_cases h0 : k = 0
    · rw [if_pos h0] at hu ⊢; exact hu
    · rw [if_neg h0] at hu ⊢
      by_cases h1 : k = 1
      · rw [if_pos h1] at hu ⊢; exact (show u = _ from hu) ▸ hrow
      · rw [if_neg h1] at hu ⊢; exact hu
  have hpk := hp _ (List.getElem_mem hkl)
  have hpk : (vg vs k).ps.length ≤ 10000000 := by rw [vg_eq hkl]; exact hpk
  conv => whnf
  by_cases hv1 : vxOkA c (vg vs k) = true
  rotate_left
  · have hv1 : vxOkA c (vg vs k) = false := by simpa using hv1
    repeat' (first | (with_reducible first | refine HT.seq ?_ | refine HT.block ?_ | refine Br.not ?_) | ((with_reducible first | refine HT.region tt_ok ?_ | refine HT.drawn tt_ok (by kernel_rfl) (by decide +kernel) ?_ | refine HT.drawnL tt_ok (by kernel_rfl) (by decide +kernel) ?_ | refine HT.cond ?_ | refine HT.ret ?_ | refine HT.skip ?_ | refine HT.exit ?_ | refine Br.tt ?_ | refine Br.ff ?_); conv => whnf) | ((with_reducible first | refine Br.dec (fun hc => ?_) (fun hc => ?_) | refine Br.eq (fun hc => ?_) (fun hc => ?_) | refine Br.ne (fun hc => ?_) (fun hc => ?_)) <;> (first | (exfalso; omega) | conv => whnf)) | ((with_reducible first | refine Br.ttE (by decide) ?_ | refine Br.ffE (by decide) ?_ | refine Br.mk (fun hc => ?_) (fun hc => ?_) | refine Chk.mk (by first | omega | with_reducible rfl | (refine ⟨rfl, ?_⟩; omega) | decide | exact ⟨rfl, by omega, by omega, rfl⟩ | exact ⟨by assumption, rfl, by omega, by omega⟩) ?_ | refine Ar.fit (by omega) ?_ | refine Eqv.shr1 ?_ | refine Ar.u64 (by omega) ?_) <;> conv => whnf) | ((first | (refine CallN.ret1 ((implVx_c c (vg vs k) (by omega) hpk).bf hv1) ?_)) <;> conv => whnf) | (with_reducible exact trivial) | ((with_reducible refine And.intro ?_ ?_) <;> conv => whnf) | (intro gn; conv => whnf))
    exact Fin.pureLe (r' := .tup 2 (litF [.val (.pointer none), .b false])) (by repeat (first | exact List.Sublist.refl _ | refine List.Sublist.cons_cons _ ?_ | refine List.Sublist.cons _ ?_)) (CellLe.of_eq rfl) (.inr ⟨(grOk_no hkl (by unfold vxOkA at hv1; rw [hcm, Bool.true_and] at hv1; unfold stI; rw [hv1]; rfl)).symm, rfl⟩)
  have hv2 := (vxA_iff hv1).2
  by_cases hord : 0 < k → bef (vg vs (k - 1)) (vg vs k) = true
  rotate_left
  · have hk0 : 0 < k := by omega
    have hbf : bef (vg vs (k - 1)) (vg vs k) = false := by rw [Bool.eq_false_iff]; exact fun h => hord fun _ => h
    have hpr : SRet Tryd.prog 65 [vxV (vg vs ((k : Int) - 1).toNat), vxV (vg vs k)] (· = .b false) := by rw [toNat_sub1]; exact (precedes_c _ _).bf hbf
    repeat' (first | (with_reducible first | refine HT.seq ?_ | refine HT.block ?_ | refine Br.not ?_) | ((with_reducible first | refine HT.region tt_ok ?_ | refine HT.drawn tt_ok (by kernel_rfl) (by decide +kernel) ?_ | refine HT.drawnL tt_ok (by kernel_rfl) (by decide +kernel) ?_ | refine HT.cond ?_ | refine HT.ret ?_ | refine HT.skip ?_ | refine HT.exit ?_ | refine Br.tt ?_ | refine Br.ff ?_); conv => whnf) | ((with_reducible first | refine Br.dec (fun hc => ?_) (fun hc => ?_) | refine Br.eq (fun hc => ?_) (fun hc => ?_) | refine Br.ne (fun hc => ?_) (fun hc => ?_)) <;> (first | (exfalso; omega) | conv => whnf)) | ((with_reducible first | refine Br.ttE (by decide) ?_ | refine Br.ffE (by decide) ?_ | refine Br.mk (fun hc => ?_) (fun hc => ?_) | refine Chk.mk (by first | omega | with_reducible rfl | (refine ⟨rfl, ?_⟩; omega) | decide | exact ⟨rfl, by omega, by omega, rfl⟩ | exact ⟨by assumption, rfl, by omega, by omega⟩) ?_ | refine Ar.fit (by omega) ?_ | refine Eqv.shr1 ?_ | refine Ar.u64 (by omega) ?_) <;> conv => whnf) | ((first | (refine CallN.ret1 ((implVx_c c (vg vs k) (by omega) hpk).bt hv1) ?_) | (refine CallN.ret1 hpr ?_)) <;> conv => whnf) | (with_reducible exact trivial) | ((with_reducible refine And.intro ?_ ?_) <;> conv => whnf) | (intro gn; conv => whnf))
    exact Fin.pureLe (r' := .tup 2 (litF [.val (.pointer none), .b false])) (by repeat (first | exact List.Sublist.refl _ | refine List.Sublist.cons_cons _ ?_ | refine List.Sublist.cons _ ?_)) (CellLe.of_eq rfl) (.inr ⟨(grOk_no hkl (by unfold stI; rw [hbf, decide_eq_false (show ¬ k = 0 by omega)]; simp)).symm, rfl⟩)
  have htl : (vs.take k).length = k := by simp; omega
  have hall2 : GoodN c (vs.take k) (vs.take k).length := by rw [htl]; exact hall.take
  have hord2 : 0 < (vs.take k).length → bef (vg (vs.take k) ((vs.take k).length - 1)) (vg vs k) = true := by rw [htl]; intro h; rw [vg_take (by omega)]; exact hord h
  have hpr : 0 < k → SRet Tryd.prog 65 [vxV (vg vs ((k : Int) - 1).toNat), vxV (vg vs k)] (· = .b true) := fun h => by rw [toNat_sub1]; exact (precedes_c _ _).bt (hord h)
  repeat' (first | (with_reducible first | refine HT.seq ?_ | refine HT.block ?_ | refine Br.not ?_) | ((with_reducible first | refine HT.region tt_ok ?_ | refine HT.drawn tt_ok (by kernel_rfl) (by decide +kernel) ?_ | refine HT.drawnL tt_ok (by kernel_rfl) (by decide +kernel) ?_ | refine HT.cond ?_ | refine HT.ret ?_ | refine HT.skip ?_ | refine HT.exit ?_ | refine Br.tt ?_ | refine Br.ff ?_); conv => whnf) | ((with_reducible first | refine Br.dec (fun hc => ?_) (fun hc => ?_) | refine Br.eq (fun hc => ?_) (fun hc => ?_) | refine Br.ne (fun hc => ?_) (fun hc => ?_)) <;> (first | (exfalso; omega) | conv => whnf)) | ((with_reducible first | refine Br.ttE (by decide) ?_ | refine Br.ffE (by decide) ?_ | refine Br.mk (fun hc => ?_) (fun hc => ?_) | refine Chk.mk (by first | omega | with_reducible rfl | (refine ⟨rfl, ?_⟩; omega) | decide | exact ⟨rfl, by omega, by omega, rfl⟩ | exact ⟨by assumption, rfl, by omega, by omega⟩) ?_ | refine Ar.fit (by omega) ?_ | refine Eqv.shr1 ?_ | refine Ar.u64 (by omega) ?_) <;> conv => whnf) | ((first | (refine CallN.ret1 ((implVx_c c (vg vs k) (by omega) hpk).bt hv1) ?_) | (refine CallN.ret1 (hpr (by omega)) ?_) | (refine CallN.turn 110 _ _ rfl (linkA_c ad c (vs.take k) (vg vs k) gb B cq hcm hall2 hv2 hord2 (by omega)) ?_; rintro r N p' ⟨rfl, (⟨hpo, rfl, A2, c2, gb2, rfl⟩ | ⟨hpo, rfl, h2, rfl⟩)⟩)) <;> conv => whnf) | (with_reducible exact trivial) | ((with_reducible refine And.intro ?_ ?_) <;> conv => whnf) | (intro gn; conv => whnf))
  all_goals (try exact Fin.pureLe (r' := .tup 2 (litF [.val (.pointer none), .b false])) (by repeat (first | exact List.Sublist.refl _ | refine List.Sublist.cons_cons _ ?_ | refine List.Sublist.cons _ ?_)) (CellLe.of_eq rfl) (.inr ⟨(grOk_no hkl (by unfold stI; rw [hpo, Bool.and_false, Bool.and_false])).symm, rfl⟩))
  all_goals have hcu : Hp.cust (grHA (adU ad (vs.take k).length gb2) gb c (vs.take k ++ [vg vs k]) (.slice A2 ((vs.take k).length + 1) c2)) = .cust (grHA (adU ad (vs.take k).length gb2) gb c (vs.take (k + 1)) (.slice A2 (vs.take (k + 1)).length c2)) := by rw [take_succ hkl, List.length_append]; rfl
  all_goals have hst : stI c vs k = true := by unfold stI; rw [hv2, hpo, Bool.and_true, Bool.true_and, Bool.or_eq_true]; rcases Nat.eq_zero_or_pos k with h | h; exact .inl (decide_eq_true h); exact .inr (hord h)
  all_goals (
    exact ⟨⟨(k + 1, A2, c2, adU ad (vs.take k).length gb2), ⟨by dsimp only; omega, all_lt_succ hst hall⟩, by dsimp only; omega, (by repeat' (first | exact trivial | refine ⟨rfl, ?_⟩)), ⟨(by first | with_reducible exact CellLe.refl _ | exact CellLe.own | exact CellLe.i (by omega) | exact CellLe.nil | exact CellLe.slNil | exact CellLe.refl _), trivial⟩, HLe.pk (by
      conv => whnf
      refine PP.start ?_; repeat (first | exact PP.nil | refine PP.take (by first | with_reducible exact Hp.Sub.refl _ | exact Hp.Sub.rd (by omega) | exact Hp.Sub.of_eq hcu | exact Hp.Sub.boxA (by (repeat (first | exact all_lt_zero | refine all_lt_succ (p := fun j => CellLe _ _) (by first | with_reducible exact CellLe.refl _ | exact CellLe.own | exact CellLe.i (by omega) | exact CellLe.nil | exact CellLe.slNil | exact CellLe.refl _) ?_))) | exact Hp.Sub.refl _) ?_ | refine PP.skip ?_))⟩⟩
  )⟩
end Go.Proofs.YtpmhikdefbcofaaDoor
