/- Texts of this proof put together: Dr, Re, Vx. -/
import Derived.Test.YtpmhikdefbcofaaDoorM01
import Derived.Test.YtpmhikdefbcofaaDoorM02
import Derived.Test.YtpmhikdefbcofaaDoorM03
import Derived.Test.YtpmhikdefbcofaaDoorM04
import Derived.Test.YtpmhikdefbcofaaDoorM05
import Derived.Test.YtpmhikdefbcofaaDoorM06
import Derived.Test.YtpmhikdefbcofaaDoorM07
import Derived.Test.YtpmhikdefbcofaaDoorM08
import Derived.Test.YtpmhikdefbcofaaDoorM09
import Derived.Test.YtpmhikdefbcofaaDoorM10
/-! YtpmhikdefbcofaaDoorDr -/
set_option linter.all false
namespace Go.Proofs.YtpmhikdefbcofaaDoor
open Go.RowKit

theorem box_rd {w : World} {F : Nat → Prop} {g n : Nat} {f : Nat → SV} {zs : List Int} (hg : ¬ F g) (h : (Hp.box g 89 2 f).holds w F) (h0 : f 0 = .sl 1 n (rowF u8F zs)) (h1 : f 1 = .i 0) (hn : n ≤ 2000) (hzn : n ≤ zs.length) (hz : ∀ z ∈ zs, 0 ≤ z ∧ z ≤ 255) :
    (Hp.cust (rdH g 0)).holds w F := by
  obtain ⟨cs, hbx, hsz, hc⟩ := h
  have c0 := (hc 0 (by omega)).2
  have c1 := (hc 1 (by omega)).2
  rw [h0] at c0
  rw [h1] at c1
  simp only [Has] at c1
  obtain ⟨A, c, e0, _, _, hr⟩ := c0
  have hcs : cs = #[.slice A n c, .int .i64 0] := by
    apply Array.ext
    · simpa using hsz
    · intro i hi1 hi2
      have hi : i < 2 := by simpa using hi2
      rcases (by omega : i = 0 ∨ i = 1) with rfl | rfl
      · simpa [Array.getD, hi1] using e0
      · simpa [Array.getD, hi1] using c1
  subst hcs
  have hl : (zs.take n).length = n := by simp; omega
  by_cases hn0 : n = 0
  · subst hn0
    exact ⟨0, A, 0, c, [], 0, ⟨hbx, by omega, Reads.nil, by simp, Int.le_refl _, fun h => absurd h (by omega)⟩, Int.le_refl _, fun h => absurd h (by omega)⟩
  · obtain ⟨b, off, rfl, hF, hcell⟩ := hr (by omega)
    refine ⟨b + 1, some ⟨b, off, none⟩, n, c, zs.take n, 0, ⟨hbx, hn, ⟨by simp; omega, fun _ => ⟨b, off, rfl, by omega, fun j u hu => ?_⟩⟩, fun z hz' => hz z (List.mem_of_mem_take hz'), Int.le_refl _, fun _ a ha => ?_⟩, Int.le_refl _, fun _ => ⟨b, off, rfl, hF⟩⟩
    · have hj : j < n := by
        have := (List.getElem?_eq_some_iff.1 hu).1
        simp at this
        omega
      obtain ⟨u', hu', _, hh⟩ := hcell j 0 hj (by omega)
      simp only [Nat.mul_one, Nat.add_zero] at hu'
      have : u' = u := by
        simp only [rowF, u8F, Has] at hh
        rw [hh]
        rw [List.getElem?_map, List.getElem?_take, if_pos hj] at hu
        obtain ⟨z, hz1, rfl⟩ := Option.map_eq_some_iff.1 hu
        simp [List.getD_eq_getElem?_getD, hz1]
      rw [← this]
      exact hu'
    · injection ha with ha
      subst ha
      exact fun e => hg (e ▸ hF)

/-- a list of ints was made -/
def MadeL (P : List Int → Prop) (e : TypeId) (r : SV) (N : List Hp) : Prop :=
  ∃ l A n c, P l ∧ n = l.length ∧ r = .own 0 (.slice A n c) ∧ N = [.row (.slice A n c) e 1 l.length (rowF intF l)]
theorem MadeL.free {P : List Int → Prop} {e : TypeId} {r : SV} {N : List Hp} (h : MadeL P e r N) : r.free ∧ ∀ p ∈ N, p.free := by
  obtain ⟨l, A, n, c, _, _, rfl, rfl⟩ := h
  exact ⟨trivial, fun p hp => by rw [List.mem_singleton.1 hp]; exact fun i k hi hk => trivial⟩
theorem SNew.stillL {Pr : Program} {f : FuncId} {ss : List SV} {P : List Int → Prop} {e : TypeId} (h : SNew Pr f ss (MadeL P e)) : SRet Pr f ss fun r => ∃ l, P l ∧ r = isl l :=
  h.frozen fun r N ⟨l, A, n, c, hP, _, hr, hN⟩ => by
    subst hr hN
    exact ⟨_, ⟨l, hP, rfl⟩, fun R => Ent.row fun w F x hv hx => by have e : x = _ := hx; subst e; exact hv⟩
/-- a new reader -/
def Opened (r : SV) (N : List Hp) : Prop := ∃ g, r = .ptr 0 g 0 ∧ N = [.cust (rdH g 0)]
theorem Fin.opened {g k n : Nat} {f : Nat → SV} {zs : List Int} {R : Heaplet} (h0 : f 0 = .sl 1 n (rowF u8F zs)) (h1 : f 1 = .i 0) (hn : n ≤ 2000) (hzn : n ≤ zs.length) (hz : ∀ z ∈ zs, 0 ≤ z ∧ z ≤ 255) :
    Fin (.ptr k g 0) [.box g 89 2 f, .cust R] (fun r H' => ∃ N, H' = N ++ [.cust R] ∧ Opened r N) :=
  ⟨⟨.ptr 0 g 0, [.cust (rdH g 0), .cust R], fun w F v hs hv => ⟨F, fun _ h => h, hs.turn (Nat.le_refl _) (fun _ _ _ => rfl) (box_rd (hs.fp _ List.mem_cons_self g rfl).2 (hs.holds _ List.mem_cons_self) h0 h1 hn hzn hz) (fun b hb => ⟨(hs.fp _ List.mem_cons_self b hb).1, .inl hb⟩), hv⟩, [_], rfl, g, rfl, rfl⟩⟩
theorem l6Open_c (zs : List Int) (hz : ∀ z ∈ zs, 0 ≤ z ∧ z ≤ 255) (hl : zs.length ≤ 2000000) : SNew Tryd.prog 43 [.sl 1 zs.length (rowF u8F zs)] Opened := ⟨fun R => by
  refine SCalls.enter tt_ok Tryd.func43 (by kernel_rfl) rfl [(900, .cust R)] rfl (argF _) (fun w F v k h => h) (by simp) ?_
  repeat' (first | (with_reducible first | refine HT.seq ?_ | refine HT.block ?_ | refine Br.not ?_) | ((with_reducible first | refine HT.region tt_ok ?_ | refine HT.drawn tt_ok (by kernel_rfl) (by decide +kernel) ?_ | refine HT.drawnL tt_ok (by kernel_rfl) (by decide +kernel) ?_ | refine HT.cond ?_ | refine HT.ret ?_ | refine HT.skip ?_ | refine HT.exit ?_ | refine Br.tt ?_ | refine Br.ff ?_); conv => whnf) | ((with_reducible first | refine Br.dec (fun hc => ?_) (fun hc => ?_) | refine Br.eq (fun hc => ?_) (fun hc => ?_) | refine Br.ne (fun hc => ?_) (fun hc => ?_)) <;> (first | (exfalso; omega) | conv => whnf)) | ((with_reducible first | refine Br.ttE (by decide) ?_ | refine Br.ffE (by decide) ?_ | refine Br.mk (fun hc => ?_) (fun hc => ?_) | refine Chk.mk (by first | omega | with_reducible rfl | (refine ⟨rfl, ?_⟩; omega) | decide | exact ⟨rfl, by omega, by omega, rfl⟩ | exact ⟨by assumption, rfl, by omega, by omega⟩) ?_ | refine Ar.fit (by omega) ?_ | refine Eqv.shr1 ?_ | refine Ar.u64 (by omega) ?_) <;> conv => whnf) | (with_reducible exact trivial) | ((with_reducible refine And.intro ?_ ?_) <;> conv => whnf) | (intro gn; conv => whnf))
  · exact Fin.opened rfl rfl (by omega) (by omega) hz
  · exact Fin.opened rfl rfl (by omega) (by omega) hz⟩

theorem l91Digest_c (g : Nat) (m : Int) (hm : m ≤ 900000000000) : SMut Tryd.prog 81 [.val (.pointer (some ⟨g, 0, none⟩))] (.cust (rdH g m)) (DrewI (-1) 991 3 g m) := ⟨fun R => by
  refine SCalls.enter tt_ok Tryd.func81 (by kernel_rfl) rfl [(0, .cust (rdH g m)), (900, .cust R)] rfl (argF _) (fun w F v k h => h) (by simp) ?_
  repeat' (first | (with_reducible first | refine HT.seq ?_ | refine HT.block ?_ | refine Br.not ?_) | ((with_reducible first | refine HT.region tt_ok ?_ | refine HT.drawn tt_ok (by kernel_rfl) (by decide +kernel) ?_ | refine HT.drawnL tt_ok (by kernel_rfl) (by decide +kernel) ?_ | refine HT.cond ?_ | refine HT.ret ?_ | refine HT.skip ?_ | refine HT.exit ?_ | refine Br.tt ?_ | refine Br.ff ?_); conv => whnf) | ((with_reducible first | refine Br.dec (fun hc => ?_) (fun hc => ?_) | refine Br.eq (fun hc => ?_) (fun hc => ?_) | refine Br.ne (fun hc => ?_) (fun hc => ?_)) <;> (first | (exfalso; omega) | conv => whnf)) | ((with_reducible first | refine Br.ttE (by decide) ?_ | refine Br.ffE (by decide) ?_ | refine Br.mk (fun hc => ?_) (fun hc => ?_) | refine Chk.mk (by first | omega | with_reducible rfl | (refine ⟨rfl, ?_⟩; omega) | decide | exact ⟨rfl, by omega, by omega, rfl⟩ | exact ⟨by assumption, rfl, by omega, by omega⟩) ?_ | refine Ar.fit (by omega) ?_ | refine Eqv.shr1 ?_ | refine Ar.u64 (by omega) ?_) <;> conv => whnf) | ((first | (refine CallN.turn 0 _ _ rfl (pick_c _ _ 16 (by omega) (by omega)) ?_; rintro r N p' ⟨⟨k, hk0, hk1, rfl⟩, rfl, rfl⟩) | (refine CallN.turn 0 _ _ rfl (pick_c _ _ 4 (by omega) (by omega)) ?_; rintro r N p' ⟨⟨k, hk0, hk1, rfl⟩, rfl, rfl⟩) | (refine CallN.turn 0 _ _ rfl (pick_c _ _ _ (by omega) (by omega)) ?_; rintro r N p' ⟨⟨k, hk0, hk1, rfl⟩, rfl, rfl⟩)) <;> conv => whnf) | (with_reducible exact trivial) | ((with_reducible refine And.intro ?_ ?_) <;> conv => whnf) | (intro gn; conv => whnf))
  · have hb := lit_bd (l := [-1, 0, 990, 991]) (lo := -1) (hi := 991) rfl (k := k.toNat) (by simp; omega)
    exact Fin.rd (A := [_]) (by omega) ⟨⟨_, hb.1, hb.2, rfl⟩, rfl, rfl⟩
  · exact Fin.rd (A := []) (by omega) ⟨⟨_, by omega, by omega, rfl⟩, rfl, rfl⟩⟩
set_option maxHeartbeats 1000000 in
theorem l91Committee_c (g : Nat) (m : Int) (hm : m ≤ 900000000000) : SMut Tryd.prog 83 [.val (.pointer (some ⟨g, 0, none⟩))] (.cust (rdH g m)) (DrewL (fun l => l.length ≤ 11) 3 30 g m) := ⟨fun R => by
  refine SCalls.enter tt_ok Tryd.func83 (by kernel_rfl) rfl [(0, .cust (rdH g m)), (900, .cust R)] rfl (argF _) (fun w F v k h => h) (by simp) ?_
  repeat' (first | (with_reducible first | refine HT.seq ?_ | refine HT.block ?_ | refine Br.not ?_) | ((with_reducible first | refine HT.region tt_ok ?_ | refine HT.drawn tt_ok (by kernel_rfl) (by decide +kernel) ?_ | refine HT.drawnL tt_ok (by kernel_rfl) (by decide +kernel) ?_ | refine HT.cond ?_ | refine HT.ret ?_ | refine HT.skip ?_ | refine HT.exit ?_ | refine Br.tt ?_ | refine Br.ff ?_); conv => whnf) | ((with_reducible first | refine Br.dec (fun hc => ?_) (fun hc => ?_) | refine Br.eq (fun hc => ?_) (fun hc => ?_) | refine Br.ne (fun hc => ?_) (fun hc => ?_)) <;> (first | (exfalso; omega) | conv => whnf)) | ((with_reducible first | refine Br.ttE (by decide) ?_ | refine Br.ffE (by decide) ?_ | refine Br.mk (fun hc => ?_) (fun hc => ?_) | refine Chk.mk (by first | omega | with_reducible rfl | (refine ⟨rfl, ?_⟩; omega) | decide | exact ⟨rfl, by omega, by omega, rfl⟩ | exact ⟨by assumption, rfl, by omega, by omega⟩) ?_ | refine Ar.fit (by omega) ?_ | refine Eqv.shr1 ?_ | refine Ar.u64 (by omega) ?_) <;> conv => whnf) | ((first | (refine CallN.turn 0 _ _ rfl (pick_c _ _ _ (by omega) (by omega)) ?_; rintro r N p' ⟨⟨k, hk0, hk1, rfl⟩, rfl, rfl⟩)) <;> conv => whnf) | (with_reducible exact trivial) | ((with_reducible refine And.intro ?_ ?_) <;> conv => whnf) | (intro gn; conv => whnf))
  have hb := lit_bd (l := [4, 4, 4, 1, 2, 3, 5, 6, 7]) (lo := 1) (hi := 7) rfl (k := k.toNat) (by simp; omega)
  generalize ([4, 4, 4, 1, 2, 3, 5, 6, 7] : List Int).getD k.toNat default = n at hb ⊢
  rename_i gs _ _
  refine HT.loopC [0, 2, 4, 28, 29, 34, 46] (fun x : Nat × List Int × Option Addr × Nat × Nat => [(3, .own 100 (.slice x.2.2.1 x.2.2.2.1 x.2.2.2.2)), (5, .i x.1)]) (fun x : Nat × List Int × Option Addr × Nat × Nat => [(100, .row (.slice x.2.2.1 x.2.2.2.1 x.2.2.2.2) x.2.1.length (rowF intF x.2.1)), (0, .cust (rdH g (m + 1 + 2 * x.1)))]) (fun x : Nat × List Int × Option Addr × Nat × Nat => x.1 ≤ 7 ∧ (x.1 : Int) ≤ n ∧ x.2.1.length = x.1 ∧ x.2.2.2.1 = x.1) (fun x : Nat × List Int × Option Addr × Nat × Nat => n.toNat - x.1) (0, [], some ⟨gs, 0, none⟩, 0, 0) ⟨by simp, by dsimp only; omega, rfl, rfl⟩ ⟨(by first | with_reducible exact CellLe.refl _ | exact CellLe.own | exact CellLe.i (by omega) | exact CellLe.nil | exact CellLe.slNil | exact CellLe.refl _), (by first | with_reducible exact CellLe.refl _ | exact CellLe.own | exact CellLe.i (by omega) | exact CellLe.nil | exact CellLe.slNil | exact CellLe.refl _), trivial⟩ ?_ ?_
  · conv => whnf
    refine PP.start ?_; repeat (first | exact PP.nil | refine PP.take (by first | with_reducible exact Hp.Sub.refl _ | exact Hp.Sub.rd (by omega) | exact Hp.Sub.boxA (by (repeat (first | exact all_lt_zero | refine all_lt_succ (p := fun j => CellLe _ _) (by first | with_reducible exact CellLe.refl _ | exact CellLe.own | exact CellLe.i (by omega) | exact CellLe.nil | exact CellLe.slNil | exact CellLe.refl _) ?_))) | exact Hp.Sub.refl _) ?_ | refine PP.skip ?_)
  conv => whnf
  rintro ⟨i, l, A, q, c⟩ ⟨hi, hin, hl, hq⟩
  dsimp only at hi hin hl hq ⊢
  conv => whnf
  repeat' (first | (with_reducible first | refine HT.seq ?_ | refine HT.block ?_ | refine Br.not ?_) | ((with_reducible first | refine HT.region tt_ok ?_ | refine HT.drawn tt_ok (by kernel_rfl) (by decide +kernel) ?_ | refine HT.drawnL tt_ok (by kernel_rfl) (by decide +kernel) ?_ | refine HT.cond ?_ | refine HT.ret ?_ | refine HT.skip ?_ | refine HT.exit ?_ | refine Br.tt ?_ | refine Br.ff ?_); conv => whnf) | ((with_reducible first | refine Br.dec (fun hc => ?_) (fun hc => ?_) | refine Br.eq (fun hc => ?_) (fun hc => ?_) | refine Br.ne (fun hc => ?_) (fun hc => ?_)) <;> (first | (exfalso; omega) | conv => whnf)) | ((with_reducible first | refine Br.ttE (by decide) ?_ | refine Br.ffE (by decide) ?_ | refine Br.mk (fun hc => ?_) (fun hc => ?_) | refine Chk.mk (by first | omega | with_reducible rfl | (refine ⟨rfl, ?_⟩; omega) | decide | exact ⟨rfl, by omega, by omega, rfl⟩ | exact ⟨by assumption, rfl, by omega, by omega⟩) ?_ | refine Ar.fit (by omega) ?_ | refine Eqv.shr1 ?_ | refine Ar.u64 (by omega) ?_) <;> conv => whnf) | ((first | (refine CallN.turn 0 _ _ rfl (pick_c _ _ _ (by omega) (by omega)) ?_; rintro r N p' ⟨⟨k, hk0, hk1, rfl⟩, rfl, rfl⟩)) <;> conv => whnf) | ((with_reducible refine Ar.wrap ?_); conv => whnf) | (with_reducible exact trivial) | ((with_reducible refine And.intro ?_ ?_) <;> conv => whnf) | (intro gn; conv => whnf))
  · exact ⟨⟨(i + 1, l ++ [_], _, l.length + 1, gn), ⟨by dsimp only; omega, by dsimp only; omega, by dsimp only; rw [List.length_append]; simp [hl], by dsimp only; omega⟩, by dsimp only; omega, (by repeat' (first | exact trivial | refine ⟨rfl, ?_⟩)), ⟨(by first | with_reducible exact CellLe.refl _ | exact CellLe.own | exact CellLe.i (by omega) | exact CellLe.nil | exact CellLe.slNil | exact CellLe.refl _), (by first | with_reducible exact CellLe.refl _ | exact CellLe.own | exact CellLe.i (by omega) | exact CellLe.nil | exact CellLe.slNil | exact CellLe.refl _), trivial⟩, HLe.pk (by
      conv => whnf
      refine PP.start ?_; repeat (first | exact PP.nil | refine PP.take (by first | with_reducible exact Hp.Sub.refl _ | exact Hp.Sub.rd (by omega) | exact Hp.Sub.rowA (by simp) (fun i j hi hj => cat_ints hi hj) | exact Hp.Sub.boxA (by (repeat (first | exact all_lt_zero | refine all_lt_succ (p := fun j => CellLe _ _) (by first | with_reducible exact CellLe.refl _ | exact CellLe.own | exact CellLe.i (by omega) | exact CellLe.nil | exact CellLe.slNil | exact CellLe.refl _) ?_))) | exact Hp.Sub.refl _) ?_ | refine PP.skip ?_))⟩⟩
  · exact Fin.mut [_] _ (fun _ => 0) (by refine PP.start ?_; repeat (first | exact PP.nil | refine PP.take (by first | with_reducible exact Hp.Sub.refl _ | exact Hp.Sub.rd (by omega) | exact Hp.Sub.rowA (by first | rfl | simp) (fun i j hi hj => cat_ints hi hj) | exact Hp.Sub.boxA (by (repeat (first | exact all_lt_zero | refine all_lt_succ (p := fun j => CellLe _ _) (by first | with_reducible exact CellLe.refl _ | exact CellLe.own | exact CellLe.i (by omega) | exact CellLe.nil | exact CellLe.slNil | exact CellLe.refl _) ?_))) | exact Hp.Sub.refl _) ?_ | refine PP.skip ?_)) ⟨l ++ [1, 1, 1, 1], _, _, _, (by first | omega | (simp <;> omega)), (by first | rfl | omega | (simp <;> omega)), rfl, rfl, rfl⟩
  · exact Fin.mut [_] _ (fun _ => 0) (by refine PP.start ?_; repeat (first | exact PP.nil | refine PP.take (by first | with_reducible exact Hp.Sub.refl _ | exact Hp.Sub.rd (by omega) | exact Hp.Sub.rowA (by first | rfl | simp) (fun i j hi hj => put_int (by omega) rfl hj) | exact Hp.Sub.boxA (by (repeat (first | exact all_lt_zero | refine all_lt_succ (p := fun j => CellLe _ _) (by first | with_reducible exact CellLe.refl _ | exact CellLe.own | exact CellLe.i (by omega) | exact CellLe.nil | exact CellLe.slNil | exact CellLe.refl _) ?_))) | exact Hp.Sub.refl _) ?_ | refine PP.skip ?_)) ⟨l.set _ _, _, _, _, (by first | omega | (simp <;> omega)), (by first | rfl | omega | (simp <;> omega)), rfl, rfl, rfl⟩
  · exact Fin.mut [_] _ (fun _ => 0) (by refine PP.start ?_; repeat (first | exact PP.nil | refine PP.take (by first | with_reducible exact Hp.Sub.refl _ | exact Hp.Sub.rd (by omega) | exact Hp.Sub.rowA (by first | rfl | simp) (fun i j hi hj => absurd hi (by simp)) | exact Hp.Sub.boxA (by (repeat (first | exact all_lt_zero | refine all_lt_succ (p := fun j => CellLe _ _) (by first | with_reducible exact CellLe.refl _ | exact CellLe.own | exact CellLe.i (by omega) | exact CellLe.nil | exact CellLe.slNil | exact CellLe.refl _) ?_))) | exact Hp.Sub.refl _) ?_ | refine PP.skip ?_)) ⟨[], _, _, _, (by first | omega | (simp <;> omega)), (by first | rfl | omega | (simp <;> omega)), rfl, rfl, rfl⟩
  · exact Fin.mut [_] _ (fun _ => 0) (by refine PP.start ?_; repeat (first | exact PP.nil | refine PP.take (by first | with_reducible exact Hp.Sub.refl _ | exact Hp.Sub.rd (by omega) | exact Hp.Sub.rowA (by first | rfl | simp) (fun i j hi hj => rfl) | exact Hp.Sub.boxA (by (repeat (first | exact all_lt_zero | refine all_lt_succ (p := fun j => CellLe _ _) (by first | with_reducible exact CellLe.refl _ | exact CellLe.own | exact CellLe.i (by omega) | exact CellLe.nil | exact CellLe.slNil | exact CellLe.refl _) ?_))) | exact Hp.Sub.refl _) ?_ | refine PP.skip ?_)) ⟨l, _, _, _, (by first | omega | (simp <;> omega)), (by first | rfl | omega | (simp <;> omega)), rfl, rfl, rfl⟩⟩
set_option maxHeartbeats 1000000 in
theorem l91Members_c (g : Nat) (m n : Int) (hm : m ≤ 900000000000) (hn : n ≤ 100) : SMut Tryd.prog 82 [.val (.pointer (some ⟨g, 0, none⟩)), .i n] (.cust (rdH g m)) (DrewL (fun l => l.length ≤ 101) 3 110 g m) := ⟨fun R => by
  refine SCalls.enter tt_ok Tryd.func82 (by kernel_rfl) rfl [(0, .cust (rdH g m)), (900, .cust R)] rfl (argF _) (fun w F v k h => h) (by simp) ?_
  repeat' (first | (with_reducible first | refine HT.seq ?_ | refine HT.block ?_ | refine Br.not ?_) | ((with_reducible first | refine HT.region tt_ok ?_ | refine HT.drawn tt_ok (by kernel_rfl) (by decide +kernel) ?_ | refine HT.drawnL tt_ok (by kernel_rfl) (by decide +kernel) ?_ | refine HT.cond ?_ | refine HT.ret ?_ | refine HT.skip ?_ | refine HT.exit ?_ | refine Br.tt ?_ | refine Br.ff ?_); conv => whnf) | ((with_reducible first | refine Br.dec (fun hc => ?_) (fun hc => ?_) | refine Br.eq (fun hc => ?_) (fun hc => ?_) | refine Br.ne (fun hc => ?_) (fun hc => ?_)) <;> (first | (exfalso; omega) | conv => whnf)) | ((with_reducible first | refine Br.ttE (by decide) ?_ | refine Br.ffE (by decide) ?_ | refine Br.mk (fun hc => ?_) (fun hc => ?_) | refine Chk.mk (by first | omega | with_reducible rfl | (refine ⟨rfl, ?_⟩; omega) | decide | exact ⟨rfl, by omega, by omega, rfl⟩ | exact ⟨by assumption, rfl, by omega, by omega⟩) ?_ | refine Ar.fit (by omega) ?_ | refine Eqv.shr1 ?_ | refine Ar.u64 (by omega) ?_) <;> conv => whnf) | ((first | (refine CallN.turn 0 _ _ rfl (pick_c _ _ _ (by omega) (by omega)) ?_; rintro r N p' ⟨⟨k, hk0, hk1, rfl⟩, rfl, rfl⟩)) <;> conv => whnf) | (with_reducible exact trivial) | ((with_reducible refine And.intro ?_ ?_) <;> conv => whnf) | (intro gn; conv => whnf))
  refine HT.loopC [0, 1, 4, 21, 22, 28] (fun x : Nat × List Int × Option Addr × Nat × Nat => [(5, .own 100 (.slice x.2.2.1 x.2.2.2.1 x.2.2.2.2)), (6, .i x.1)]) (fun x : Nat × List Int × Option Addr × Nat × Nat => [(100, .row (.slice x.2.2.1 x.2.2.2.1 x.2.2.2.2) x.2.1.length (rowF intF x.2.1)), (0, .cust (rdH g (m + x.1)))]) (fun x : Nat × List Int × Option Addr × Nat × Nat => ((x.1 : Int) ≤ n ∨ x.1 = 0) ∧ x.2.1.length ≤ x.1 ∧ x.2.2.2.1 = x.2.1.length) (fun x : Nat × List Int × Option Addr × Nat × Nat => n.toNat - x.1) (0, [], some ⟨gn, 0, none⟩, 0, 0) ⟨.inr rfl, Nat.zero_le _, rfl⟩ ⟨(by first | with_reducible exact CellLe.refl _ | exact CellLe.own | exact CellLe.i (by omega) | exact CellLe.nil | exact CellLe.slNil | exact CellLe.refl _), (by first | with_reducible exact CellLe.refl _ | exact CellLe.own | exact CellLe.i (by omega) | exact CellLe.nil | exact CellLe.slNil | exact CellLe.refl _), trivial⟩ ?_ ?_
  · conv => whnf
    refine PP.start ?_; repeat (first | exact PP.nil | refine PP.take (by first | with_reducible exact Hp.Sub.refl _ | exact Hp.Sub.rd (by omega) | exact Hp.Sub.boxA (by (repeat (first | exact all_lt_zero | refine all_lt_succ (p := fun j => CellLe _ _) (by first | with_reducible exact CellLe.refl _ | exact CellLe.own | exact CellLe.i (by omega) | exact CellLe.nil | exact CellLe.slNil | exact CellLe.refl _) ?_))) | exact Hp.Sub.refl _) ?_ | refine PP.skip ?_)
  conv => whnf
  rintro ⟨i, l, A, q, c⟩ ⟨hi, hl, hq⟩
  dsimp only at hi hl hq ⊢
  conv => whnf
  repeat' (first | (with_reducible first | refine HT.seq ?_ | refine HT.block ?_ | refine Br.not ?_) | ((with_reducible first | refine HT.region tt_ok ?_ | refine HT.drawn tt_ok (by kernel_rfl) (by decide +kernel) ?_ | refine HT.drawnL tt_ok (by kernel_rfl) (by decide +kernel) ?_ | refine HT.cond ?_ | refine HT.ret ?_ | refine HT.skip ?_ | refine HT.exit ?_ | refine Br.tt ?_ | refine Br.ff ?_); conv => whnf) | ((with_reducible first | refine Br.dec (fun hc => ?_) (fun hc => ?_) | refine Br.eq (fun hc => ?_) (fun hc => ?_) | refine Br.ne (fun hc => ?_) (fun hc => ?_)) <;> (first | (exfalso; omega) | conv => whnf)) | ((with_reducible first | refine Br.ttE (by decide) ?_ | refine Br.ffE (by decide) ?_ | refine Br.mk (fun hc => ?_) (fun hc => ?_) | refine Chk.mk (by first | omega | with_reducible rfl | (refine ⟨rfl, ?_⟩; omega) | decide | exact ⟨rfl, by omega, by omega, rfl⟩ | exact ⟨by assumption, rfl, by omega, by omega⟩) ?_ | refine Ar.fit (by omega) ?_ | refine Eqv.shr1 ?_ | refine Ar.u64 (by omega) ?_) <;> conv => whnf) | ((first | (refine CallN.turn 0 _ _ rfl (pick_c _ _ _ (by omega) (by omega)) ?_; rintro r N p' ⟨⟨k, hk0, hk1, rfl⟩, rfl, rfl⟩)) <;> conv => whnf) | (with_reducible exact trivial) | ((with_reducible refine And.intro ?_ ?_) <;> conv => whnf) | (intro gn; conv => whnf))
  · rename_i A2
    exact ⟨⟨(i + 1, l ++ [_], A2, l.length + 1, gn), ⟨by dsimp only; omega, by dsimp only; rw [List.length_append]; simp; omega, by dsimp only; rw [List.length_append]; rfl⟩, by dsimp only; omega, (by repeat' (first | exact trivial | refine ⟨rfl, ?_⟩)), ⟨(by first | with_reducible exact CellLe.refl _ | exact CellLe.own | exact CellLe.i (by omega) | exact CellLe.nil | exact CellLe.slNil | exact CellLe.refl _), (by first | with_reducible exact CellLe.refl _ | exact CellLe.own | exact CellLe.i (by omega) | exact CellLe.nil | exact CellLe.slNil | exact CellLe.refl _), trivial⟩, HLe.pk (by
      conv => whnf
      refine PP.start ?_; repeat (first | exact PP.nil | refine PP.take (by first | with_reducible exact Hp.Sub.refl _ | exact Hp.Sub.rd (by omega) | exact Hp.Sub.rowA (by simp) (fun i j hi hj => cat_ints hi hj) | exact Hp.Sub.boxA (by (repeat (first | exact all_lt_zero | refine all_lt_succ (p := fun j => CellLe _ _) (by first | with_reducible exact CellLe.refl _ | exact CellLe.own | exact CellLe.i (by omega) | exact CellLe.nil | exact CellLe.slNil | exact CellLe.refl _) ?_))) | exact Hp.Sub.refl _) ?_ | refine PP.skip ?_))⟩⟩
  · exact ⟨⟨(i + 1, l, A, q, c), ⟨by dsimp only; omega, by dsimp only; omega, hq⟩, by dsimp only; omega, (by repeat' (first | exact trivial | refine ⟨rfl, ?_⟩)), ⟨(by first | with_reducible exact CellLe.refl _ | exact CellLe.own | exact CellLe.i (by omega) | exact CellLe.nil | exact CellLe.slNil | exact CellLe.refl _), (by first | with_reducible exact CellLe.refl _ | exact CellLe.own | exact CellLe.i (by omega) | exact CellLe.nil | exact CellLe.slNil | exact CellLe.refl _), trivial⟩, HLe.pk (by
      conv => whnf
      refine PP.start ?_; repeat (first | exact PP.nil | refine PP.take (by first | with_reducible exact Hp.Sub.refl _ | exact Hp.Sub.rd (by omega) | exact Hp.Sub.boxA (by (repeat (first | exact all_lt_zero | refine all_lt_succ (p := fun j => CellLe _ _) (by first | with_reducible exact CellLe.refl _ | exact CellLe.own | exact CellLe.i (by omega) | exact CellLe.nil | exact CellLe.slNil | exact CellLe.refl _) ?_))) | exact Hp.Sub.refl _) ?_ | refine PP.skip ?_))⟩⟩
  · exact Fin.mut [_] _ (fun _ => 0) (by refine PP.start ?_; repeat (first | exact PP.nil | refine PP.take (by first | with_reducible exact Hp.Sub.refl _ | exact Hp.Sub.rd (by omega) | exact Hp.Sub.rowA (by first | rfl | simp) (fun i j hi hj => cat_ints hi hj) | exact Hp.Sub.boxA (by (repeat (first | exact all_lt_zero | refine all_lt_succ (p := fun j => CellLe _ _) (by first | with_reducible exact CellLe.refl _ | exact CellLe.own | exact CellLe.i (by omega) | exact CellLe.nil | exact CellLe.slNil | exact CellLe.refl _) ?_))) | exact Hp.Sub.refl _) ?_ | refine PP.skip ?_)) ⟨l ++ [_], _, _, _, (by first | omega | (simp <;> omega)), (by first | rfl | omega | (simp <;> omega)), rfl, rfl, rfl⟩
  · exact Fin.mut [_] _ (fun _ => 0) (by refine PP.start ?_; repeat (first | exact PP.nil | refine PP.take (by first | with_reducible exact Hp.Sub.refl _ | exact Hp.Sub.rd (by omega) | exact Hp.Sub.rowA (by first | rfl | simp) (fun i j hi hj => cat_ints hi hj) | exact Hp.Sub.boxA (by (repeat (first | exact all_lt_zero | refine all_lt_succ (p := fun j => CellLe _ _) (by first | with_reducible exact CellLe.refl _ | exact CellLe.own | exact CellLe.i (by omega) | exact CellLe.nil | exact CellLe.slNil | exact CellLe.refl _) ?_))) | exact Hp.Sub.refl _) ?_ | refine PP.skip ?_)) ⟨l ++ [_], _, _, _, (by first | omega | (simp <;> omega)), (by first | rfl | omega | (simp <;> omega)), rfl, rfl, rfl⟩
  · exact Fin.mut [_] _ (fun _ => 0) (by refine PP.start ?_; repeat (first | exact PP.nil | refine PP.take (by first | with_reducible exact Hp.Sub.refl _ | exact Hp.Sub.rd (by omega) | exact Hp.Sub.rowA (by first | rfl | simp) (fun i j hi hj => rfl) | exact Hp.Sub.boxA (by (repeat (first | exact all_lt_zero | refine all_lt_succ (p := fun j => CellLe _ _) (by first | with_reducible exact CellLe.refl _ | exact CellLe.own | exact CellLe.i (by omega) | exact CellLe.nil | exact CellLe.slNil | exact CellLe.refl _) ?_))) | exact Hp.Sub.refl _) ?_ | refine PP.skip ?_)) ⟨l, _, _, _, (by first | omega | (simp <;> omega)), (by first | rfl | omega | (simp <;> omega)), rfl, rfl, rfl⟩⟩
theorem l91Good_c (g : Nat) (m : Int) (hm : m ≤ 900000000000) : SMut Tryd.prog 79 [.val (.pointer (some ⟨g, 0, none⟩))] (.cust (rdH g m)) (DrewL (fun l => cmOk l = true) 3 30 g m) := ⟨fun R => by
  refine SCalls.enter tt_ok Tryd.func79 (by kernel_rfl) rfl [(0, .cust (rdH g m)), (900, .cust R)] rfl (argF _) (fun w F v k h => h) (by simp) ?_
  repeat' (first | (with_reducible first | refine HT.seq ?_ | refine HT.block ?_ | refine Br.not ?_) | ((with_reducible first | refine HT.region tt_ok ?_ | refine HT.drawn tt_ok (by kernel_rfl) (by decide +kernel) ?_ | refine HT.drawnL tt_ok (by kernel_rfl) (by decide +kernel) ?_ | refine HT.cond ?_ | refine HT.ret ?_ | refine HT.skip ?_ | refine HT.exit ?_ | refine Br.tt ?_ | refine Br.ff ?_); conv => whnf) | ((with_reducible first | refine Br.dec (fun hc => ?_) (fun hc => ?_) | refine Br.eq (fun hc => ?_) (fun hc => ?_) | refine Br.ne (fun hc => ?_) (fun hc => ?_)) <;> (first | (exfalso; omega) | conv => whnf)) | ((with_reducible first | refine Br.ttE (by decide) ?_ | refine Br.ffE (by decide) ?_ | refine Br.mk (fun hc => ?_) (fun hc => ?_) | refine Chk.mk (by first | omega | with_reducible rfl | (refine ⟨rfl, ?_⟩; omega) | decide | exact ⟨rfl, by omega, by omega, rfl⟩ | exact ⟨by assumption, rfl, by omega, by omega⟩) ?_ | refine Ar.fit (by omega) ?_ | refine Eqv.shr1 ?_ | refine Ar.u64 (by omega) ?_) <;> conv => whnf) | ((first | (refine CallN.turn 0 _ _ rfl (l91Committee_c _ _ (by omega)) ?_; rintro r N p' ⟨l, A, n, c, hl, hn, rfl, rfl, rfl⟩) | (refine CallN.retB1 (specCmValid_c l (by omega)) ⟨Lends.row (by repeat (first | exact List.mem_cons_self | refine List.mem_cons_of_mem _ ?_)), trivial⟩ (by first | exact trivial | simp [SV.free]) ?_)) <;> conv => whnf) | (with_reducible exact trivial) | ((with_reducible refine And.intro ?_ ?_) <;> conv => whnf) | (intro gn; conv => whnf))
  · exact Fin.mut [_] _ (fun _ => 0) (by refine PP.start ?_; repeat (first | exact PP.nil | refine PP.take (by first | with_reducible exact Hp.Sub.refl _ | exact Hp.Sub.rd (by omega) | exact Hp.Sub.rowA (by first | rfl | simp) (fun i j hi hj => rfl) | exact Hp.Sub.boxA (by (repeat (first | exact all_lt_zero | refine all_lt_succ (p := fun j => CellLe _ _) (by first | with_reducible exact CellLe.refl _ | exact CellLe.own | exact CellLe.i (by omega) | exact CellLe.nil | exact CellLe.slNil | exact CellLe.refl _) ?_))) | exact Hp.Sub.refl _) ?_ | refine PP.skip ?_)) ⟨l, _, _, _, (by exact hc), (by first | rfl | omega | (simp <;> omega)), rfl, rfl, rfl⟩
  · exact Fin.mut [_] _ (fun _ => 0) (by refine PP.start ?_; repeat (first | exact PP.nil | refine PP.take (by first | with_reducible exact Hp.Sub.refl _ | exact Hp.Sub.rd (by omega) | exact Hp.Sub.rowA (by first | rfl | simp) (fun i j hi hj => rfl) | exact Hp.Sub.boxA (by (repeat (first | exact all_lt_zero | refine all_lt_succ (p := fun j => CellLe _ _) (by first | with_reducible exact CellLe.refl _ | exact CellLe.own | exact CellLe.i (by omega) | exact CellLe.nil | exact CellLe.slNil | exact CellLe.refl _) ?_))) | exact Hp.Sub.refl _) ?_ | refine PP.skip ?_)) ⟨[1, 1, 1, 1], _, _, _, (by rfl), (by first | rfl | omega | (simp <;> omega)), rfl, rfl, rfl⟩⟩
end Go.Proofs.YtpmhikdefbcofaaDoor
/-! YtpmhikdefbcofaaDoorRe -/
set_option linter.all false
namespace Go.Proofs.YtpmhikdefbcofaaDoor
open Go.RowKit

/-- one piece told by another, in one world -/
def SubW (w : World) (F : Nat → Prop) (p q : Hp) : Prop := (∀ b, q.fp b → p.fp b) ∧ (p.holds w F → q.holds w F)
def AllW (w : World) (F : Nat → Prop) : List Hp → List Hp → Prop
  | [], [] => True
  | p :: H, q :: H' => SubW w F p q ∧ AllW w F H H'
  | _, _ => False
theorem AllW.fp {w : World} {F : Nat → Prop} : ∀ {H H' : List Hp}, AllW w F H H' → ∀ q ∈ H', ∀ b, q.fp b → ∃ p ∈ H, p.fp b
  | [], [], _, q, hq, _, _ => by cases hq
  | p :: H, q :: H', h, q', hq, b, hb => by
    rcases List.mem_cons.1 hq with rfl | hq
    · exact ⟨p, List.mem_cons_self, h.1.1 b hb⟩
    · obtain ⟨p', hp', hb'⟩ := AllW.fp h.2 q' hq b hb
      exact ⟨p', List.mem_cons_of_mem _ hp', hb'⟩
theorem AllW.sat {w : World} {F : Nat → Prop} : ∀ {H H' : List Hp}, AllW w F H H' → HSat w F H → HSat w F H'
  | [], [], _, hs => hs
  | p :: H, q :: H', h, hs => by
    have hap := List.pairwise_cons.1 hs.apart
    have ht := AllW.sat h.2 hs.tail
    refine ⟨fun x hx => ?_, fun x hx b hb => ?_, List.pairwise_cons.2 ⟨fun x hx b hb hbx => ?_, ht.apart⟩, hs.lt⟩
    · rcases List.mem_cons.1 hx with rfl | hx
      · exact h.1.2 (hs.holds _ List.mem_cons_self)
      · exact ht.holds x hx
    · rcases List.mem_cons.1 hx with rfl | hx
      · exact hs.fp _ List.mem_cons_self b (h.1.1 b hb)
      · exact ht.fp x hx b hb
    · obtain ⟨p', hp', hb'⟩ := h.2.fp x hx b hbx
      exact hap.1 p' hp' b (h.1.1 b hb) hb'
theorem SubW.refl {w : World} {F : Nat → Prop} (p : Hp) : SubW w F p p := ⟨fun _ h => h, fun h => h⟩
theorem SubW.row {w : World} {F : Nat → Prop} {v : Value} {e : TypeId} {sz n n' : Nat} {f f' : Nat → Nat → SV} (hn : n = n') (h : ∀ i j, i < n → j < sz → ∀ x, Has w F (f i j) x → Has w F (f' i j) x) : SubW w F (.row v e sz n f) (.row v e sz n' f') := by
  subst hn
  exact ⟨fun _ h => h, fun ⟨xs, ho, hc⟩ => ⟨xs, ho, fun i k hi hk => ⟨(hc i k hi hk).1, h i k hi hk _ (hc i k hi hk).2⟩⟩⟩
theorem fc_to {s s' : SV} {K : SV → Prop} (h : s = s') (k : fc s' K) : fc s K := h ▸ k
/-- what is known of a piece once it stands still -/
def FrzF (w : World) (F : Nat → Prop) : List Hp → Prop
  | [] => True
  | .row v _ sz n f :: Z => Has w F (.sl sz n f) v ∧ FrzF w F Z
  | .box g _ n f :: Z => Has w F (.ref g 0 n f) (.pointer (some ⟨g, 0, none⟩)) ∧ FrzF w F Z
  | _ :: Z => FrzF w F Z
theorem FrzF.mono {w : World} {F F' : Nat → Prop} (hF : ∀ b, F b → F' b) : ∀ {Z : List Hp}, FrzF w F Z → FrzF w F' Z
  | [], _ => trivial
  | .row _ _ _ _ _ :: _, h => ⟨h.1.mono hF, FrzF.mono hF h.2⟩
  | .box _ _ _ _ :: _, h => ⟨h.1.mono hF, FrzF.mono hF h.2⟩
  | .emp :: Z, h => FrzF.mono (Z := Z) hF h
  | .cust _ :: Z, h => FrzF.mono (Z := Z) hF h
theorem box_cell {w : World} {F : Nat → Prop} {g n : Nat} {t : TypeId} {f : Nat → SV} (h : (Hp.box g t n f).holds w F) : ∀ k, k < n → ∃ u, w.cell? ⟨g, k, none⟩ = some u ∧ u.oneCell' = true ∧ Has w F (f k) u := fun k hk => by
  obtain ⟨cs, hb, hn, hc⟩ := h
  refine ⟨cs.getD k undef, ?_, hc k hk⟩
  unfold World.cell?
  rw [hb]
  have : k < cs.size := by omega
  simp [Array.getD, this]
theorem box_pp {w : World} {F F' : Nat → Prop} {g n : Nat} {t : TypeId} {f : Nat → SV} (h : (Hp.box g t n f).holds w F) (hF : ∀ b, F b → F' b) (hg : F' g) : Has w F' (.pp n f) (.pointer (some ⟨g, 0, none⟩)) := by
  refine ⟨g, 0, rfl, hg, fun k hk => ?_⟩
  obtain ⟨u, h1, h2, h3⟩ := box_cell h k hk
  exact ⟨u, by rw [Nat.zero_add]; exact h1, h2, h3.mono hF⟩
theorem box_ref {w : World} {F F' : Nat → Prop} {g n : Nat} {t : TypeId} {f : Nat → SV} (h : (Hp.box g t n f).holds w F) (hF : ∀ b, F b → F' b) (hg : F' g) : Has w F' (.ref g 0 n f) (.pointer (some ⟨g, 0, none⟩)) := by
  refine ⟨rfl, hg, ?_, fun k hk => ?_⟩
  · obtain ⟨cs, hb, _⟩ := h
    exact ⟨cs, t, hb⟩
  · obtain ⟨u, h1, h2, h3⟩ := box_cell h k hk
    exact ⟨u, by rw [Nat.zero_add]; exact h1, h2, h3.mono hF⟩
theorem Has.ref_pp {w : World} {F : Nat → Prop} {g o n : Nat} {f : Nat → SV} {v : Value} (h : Has w F (.ref g o n f) v) : Has w F (.pp n f) v := by
  obtain ⟨rfl, hF, _, hc⟩ := h
  exact ⟨g, o, rfl, hF, hc⟩
theorem HSat.freezes {w : World} : ∀ {Z H : List Hp} {F : Nat → Prop}, HSat w F (Z ++ H) → ∃ F', (∀ b, F b → F' b) ∧ HSat w F' H ∧ FrzF w F' Z
  | [], H, F, hs => ⟨F, fun _ h => h, hs, trivial⟩
  | p :: Z, H, F, hs => by
    obtain ⟨F', h1, h2, h3⟩ := HSat.freezes (Z := Z) (H := H) hs.freeze
    refine ⟨F', fun b hb => h1 b (.inl hb), h2, ?_⟩
    have hp := hs.holds p List.mem_cons_self
    cases p with
    | emp => exact h3
    | cust c => exact h3
    | row v e sz n f => exact ⟨(row_sl (F' := fun b => F b ∨ (Hp.row v e sz n f).fp b) hp (fun b => .inl) fun b hb => .inr hb).mono h1, h3⟩
    | box g t n f => exact ⟨(box_ref (F' := fun b => F b ∨ (Hp.box g t n f).fp b) hp (fun b => .inl) (.inr rfl)).mono h1, h3⟩
/-- slots told anew -/
def ChgW (w : World) (F : Nat → Prop) (σ : Fr) : List (Nat × SV) → Prop
  | [] => True
  | (k, v) :: l => (∀ x, Has w F (σ k) x → Has w F v x) ∧ ChgW w F σ l
theorem ChgW.has {w : World} {F : Nat → Prop} {σ : Fr} {a : Act} (hf : FrHas w F σ a) : ∀ {l : List (Nat × SV)}, ChgW w F σ l → FrHas w F (updL σ l) a
  | [], _ => hf
  | (k, v) :: l, h => fun q => by
    show Has w F (upd (updL σ l) k v q) _
    unfold upd
    cases e : Nat.beq q k
    · exact ChgW.has hf h.2 q
    · have := Nat.eq_of_beq_eq_true e
      subst this
      exact h.1 _ (hf q)
/-- pieces Z stand still from here on; what names them is told anew -/
theorem HT.frz {P : Program} {n : Nat} {c : Code} {Q : Exit → St → Prop} {s : St} (Z H1 : List Hp) (chg : List (Nat × SV)) (L' : Hpl) (hp : fcH (s.L.map Prod.snd) fun H => PPick H (Z ++ H1)) (h : ∀ w F, FrzF w F Z → AllW w F H1 (L'.map Prod.snd) ∧ ChgW w F s.σ chg) (k : HT P n c Q ⟨updL s.σ chg, L', s.nx⟩) : HT P n c Q s := by
  rw [fcH_eq] at hp
  refine HT.le (fun n F a w hs => ?_) k
  obtain ⟨F', h1, h2, h3⟩ := HSat.freezes (hp.sat hs.heap)
  obtain ⟨h4, h5⟩ := h w F' h3
  exact ⟨F', h1, hs.size, hs.defers, h5.has fun k => (hs.fr k).mono h1, h4.sat h2⟩
/-- the same at the end of a function -/
theorem Fin.frz {r r' : SV} {H H' : List Hp} {K : SV → List Hp → Prop} (Z H1 : List Hp) (hp : PPick H (Z ++ H1)) (h : ∀ w F, FrzF w F Z → AllW w F H1 H' ∧ ∀ x, Has w F r x → Has w F r' x) (k : K r' H') : Fin r H K :=
  ⟨⟨r', H', fun w F x hs hx => by
    obtain ⟨F', h1, h2, h3⟩ := HSat.freezes (hp.sat hs)
    obtain ⟨h4, h5⟩ := h w F' h3
    exact ⟨F', h1, h4.sat h2, h5 x (hx.mono h1)⟩, k⟩⟩
theorem HLe.frzs {L L' : Hpl} (Z H1 : List Hp) (hp : PPick (L.map Prod.snd) (Z ++ H1)) (h : ∀ w F, FrzF w F Z → AllW w F H1 (L'.map Prod.snd)) : HLe L L' := fun w F hs => by
  obtain ⟨F', h1, h2, h3⟩ := HSat.freezes (hp.sat hs)
  exact ⟨F', h1, (h w F' h3).sat h2⟩
theorem AllW.refl (w : World) (F : Nat → Prop) : ∀ H, AllW w F H H
  | [] => trivial
  | p :: H => ⟨SubW.refl p, AllW.refl w F H⟩
theorem SubW.box {w : World} {F : Nat → Prop} {g n : Nat} {t : TypeId} {f f' : Nat → SV} (h : ∀ j, j < n → ∀ x, Has w F (f j) x → Has w F (f' j) x) : SubW w F (.box g t n f) (.box g t n f') :=
  ⟨fun _ h => h, fun ⟨cs, a, b, c⟩ => ⟨cs, a, b, fun j hj => ⟨(c j hj).1, h j hj _ (c j hj).2⟩⟩⟩
theorem Has.pp {w : World} {F : Nat → Prop} {n : Nat} {f f' : Nat → SV} {x : Value} (h : ∀ k, k < n → ∀ v, Has w F (f k) v → Has w F (f' k) v) (hx : Has w F (.pp n f) x) : Has w F (.pp n f') x := by
  obtain ⟨b, off, e, hb, hc⟩ := hx
  exact ⟨b, off, e, hb, fun k hk => by
    obtain ⟨u, h1, h2, h3⟩ := hc k hk
    exact ⟨u, h1, h2, h k hk u h3⟩⟩
theorem Has.refL {w : World} {F : Nat → Prop} {g o n : Nat} {f f' : Nat → SV} {x : Value} (h : ∀ k, k < n → ∀ v, Has w F (f k) v → Has w F (f' k) v) (hx : Has w F (.ref g o n f) x) : Has w F (.ref g o n f') x := by
  obtain ⟨e, hb, hz, hc⟩ := hx
  exact ⟨e, hb, hz, fun k hk => by
    obtain ⟨u, h1, h2, h3⟩ := hc k hk
    exact ⟨u, h1, h2, h k hk u h3⟩⟩
theorem Has.slL {w : World} {F : Nat → Prop} {sz n : Nat} {f f' : Nat → Nat → SV} {x : Value} (h : ∀ i k, i < n → k < sz → ∀ v, Has w F (f i k) v → Has w F (f' i k) v) (hx : Has w F (.sl sz n f) x) : Has w F (.sl sz n f') x := by
  obtain ⟨A, c, e, h1, h2, hc⟩ := hx
  exact ⟨A, c, e, h1, h2, fun hn => by
    obtain ⟨b, off, e, hb, hc⟩ := hc hn
    exact ⟨b, off, e, hb, fun i k hi hk => by
      obtain ⟨u, q1, q2, q3⟩ := hc i k hi hk
      exact ⟨u, q1, q2, h i k hi hk u q3⟩⟩⟩
/-- a row of nothing is at hand -/
theorem HT.nilRow {P : Program} {n : Nat} {c : Code} {Q : Exit → St → Prop} {s : St} (key : Nat) (e : TypeId) (sz : Nat) (f : Nat → Nat → SV) (h : HT P n c Q ⟨s.σ, (key, .row (.slice none 0 0) e sz 0 f) :: s.L, s.nx⟩) : HT P n c Q s :=
  HT.le (s' := ⟨s.σ, (key, .row (.slice none 0 0) e sz 0 f) :: s.L, s.nx⟩) (fun n F a w hs => ⟨F, fun _ h => h, hs.size, hs.defers, hs.fr, hs.heap.nil e sz f⟩) h
/-- a piece is opened: it was a bundle of others -/
theorem HSat.unbundleK {w : World} {F : Nat → Prop} {A B H : List Hp} (h : HSat w F (A ++ .cust (Proofs.YtpmhikdefbcofaaDoor.bundle H) :: B)) : HSat w F (A ++ H ++ B) := by
  have h1 : (A ++ .cust (Proofs.YtpmhikdefbcofaaDoor.bundle H) :: B).Perm ((A ++ B) ++ [.cust (Proofs.YtpmhikdefbcofaaDoor.bundle H)]) := by
    rw [List.append_assoc]
    exact List.Perm.append_left A (List.perm_append_comm (l₁ := [Hp.cust (Proofs.YtpmhikdefbcofaaDoor.bundle H)]) (l₂ := B))
  have h2 := (h.perm h1).unbundle
  refine h2.perm ?_
  rw [List.append_assoc, List.append_assoc]
  exact List.Perm.append_left A List.perm_append_comm
theorem HSat.bundleK {w : World} {F : Nat → Prop} {A B H : List Hp} (h : HSat w F (A ++ H ++ B)) : HSat w F (A ++ .cust (Proofs.YtpmhikdefbcofaaDoor.bundle H) :: B) := by
  have h1 : (A ++ H ++ B).Perm ((A ++ B) ++ H) := by
    rw [List.append_assoc, List.append_assoc]
    exact List.Perm.append_left A List.perm_append_comm
  refine (h.perm h1).bundle.perm ?_
  rw [List.append_assoc]
  exact List.Perm.append_left A (List.perm_append_comm (l₁ := B) (l₂ := [Hp.cust (Proofs.YtpmhikdefbcofaaDoor.bundle H)]))
/-- the first argument points into a block at hand -/
theorem at_arg {g : Nat} {l : List SV} {w : World} {F : Nat → Prop} {v : Value} {k : Nat} (h : Has w F ((SV.val (.pointer (some ⟨g, 0, none⟩)) :: l).getD k (.val undef)) v) : Has w F (upd (argF (SV.val (.pointer (some ⟨g, 0, none⟩)) :: l)) 0 (.ptr 0 g 0) k) v := by
  unfold upd
  cases e : Nat.beq k 0
  · exact h
  · have := Nat.eq_of_beq_eq_true e
    subst this
    exact h
theorem PPick.refl : ∀ H, PPick H H
  | [] => .nil _
  | p :: H => .cons 0 rfl (.refl p) (PPick.refl H)
def Hp.isEmp : Hp → Bool
  | .emp => true
  | _ => false
theorem Hp.ne_emp {p : Hp} (h : p.isEmp = false) : p ≠ .emp := fun e => by rw [e] at h; cases h
/-- a piece is at hand for a call that leaves it as it was -/
theorem CallN.keepL {P : Program} {f : FuncId} {ss : List SV} {L : Hpl} {nx : Nat} {K : KK} (i : Nat) (p : Hp) (Φ : SV → Prop) (hl : lk i L = p) (hp : p.isEmp = false) (h : SMut P f ss p fun r N p' => N = [] ∧ p' = p ∧ Φ r) (k : ∀ r, Φ r → K (r.lift nx) L (nx + 10)) : CallN P f ss L nx K := .keep i p Φ hl (Hp.ne_emp hp) h k
/-- pieces stand still, others are bundled, at the end of a function -/
theorem Fin.frzB {r r' : SV} {H : List Hp} {R : Heaplet} {Φ : SV → List Hp → Hp → Prop} (Z H1 H2 : List Hp) (hp : PPick H (Z ++ (H1 ++ [.cust R]))) (h : ∀ w F, FrzF w F Z → AllW w F H1 H2 ∧ ∀ x, Has w F r x → Has w F r' x) (k : Φ r' [] (.cust (Proofs.YtpmhikdefbcofaaDoor.bundle H2))) : Fin r H (fun r H' => ∃ N p', H' = N ++ [p', .cust R] ∧ Φ r N p') :=
  ⟨⟨r', [.cust (Proofs.YtpmhikdefbcofaaDoor.bundle H2), .cust R], fun w F x hs hx => by
    obtain ⟨F', h1, h2, h3⟩ := HSat.freezes (hp.sat hs)
    obtain ⟨h4, h5⟩ := h w F' h3
    have app : ∀ {A B : List Hp}, AllW w F' A B → AllW w F' (A ++ [.cust R]) (B ++ [.cust R]) := by
      intro A
      induction A with
      | nil => intro B hB; cases B with | nil => exact ⟨SubW.refl _, trivial⟩ | cons => exact hB.elim
      | cons a A ih => intro B hB; cases B with | nil => exact hB.elim | cons b B => exact ⟨hB.1, ih hB.2⟩
    exact ⟨F', h1, HSat.bundleK (A := []) (H := H2) (B := [.cust R]) ((app h4).sat h2), h5 x (hx.mono h1)⟩, [], _, rfl, k⟩⟩
/-- one cell told by another, in one world -/
abbrev LeW (w : World) (F : Nat → Prop) (s s' : SV) : Prop := ∀ x, Has w F s x → Has w F s' x
theorem LeW.of_eq {w : World} {F : Nat → Prop} {s s' : SV} (h : s = s') : LeW w F s s' := h ▸ fun _ h => h
theorem cat_one {w : World} {F : Nat → Prop} {n : Nat} {f g f' : Nat → Nat → SV} (hf : ∀ i, i < n → LeW w F (f i 0) (f' i 0)) (h : LeW w F (g 0 0) (f' n 0)) {i j : Nat} (hi : i < n + 1) (hj : j < 1) : LeW w F (catF n f g i j) (f' i j) := by
  obtain rfl : j = 0 := by omega
  unfold catF
  by_cases hlt : i < n
  · rw [if_pos hlt]; exact hf i hlt
  · obtain rfl : i = n := by omega
    rw [if_neg hlt, Nat.sub_self]; exact h
theorem Hp.Sub.rowL {n n' sz : Nat} {v : Value} {e : TypeId} {f f' : Nat → Nat → SV} (hn : n = n') (h : ∀ w F i j, i < n → j < sz → LeW w F (f i j) (f' i j)) : (Hp.row v e sz n f).Sub (.row v e sz n' f') := .rowH hn fun i j hi hj w F => h w F i j hi hj
theorem Fin.open {r : SV} {Z H : List Hp} {K : SV → List Hp → Prop} (h : Fin r (Z ++ H) K) : Fin r (.cust (Proofs.YtpmhikdefbcofaaDoor.bundle Z) :: H) K := by
  obtain ⟨r', H', he, hk⟩ := h.h
  exact ⟨⟨r', H', fun w F v hs hv => he w F v (HSat.unbundleK (A := []) hs) hv, hk⟩⟩
theorem LeW.tup2 {w : World} {F : Nat → Prop} {f g : Nat → SV} (h0 : LeW w F (f 0) (g 0)) (h1 : LeW w F (f 1) (g 1)) : LeW w F (.tup 2 f) (.tup 2 g) := fun x hx => Has.tup (fun k hk u hu => by
  rcases (by omega : k = 0 ∨ k = 1) with rfl | rfl
  · exact h0 u hu
  · exact h1 u hu) hx
theorem Hp.Sub.of_eq {p q : Hp} (h : p = q) : p.Sub q := h ▸ Hp.Sub.refl p
theorem Lends.slA {L : Hpl} {sz n n' : Nat} {f f' : Nat → Nat → SV} (hn : n = n') (hf : ∀ i j, i < n → j < sz → f i j = f' i j) : Lends L (.sl sz n f) (.sl sz n' f') := fun w F x hs hx => by
  subst hn
  exact (Has.slL (fun i j hi hj u hu => by rw [← hf i j hi hj]; exact hu) hx).mono hs.lt
theorem put_one {w : World} {F : Nat → Prop} {p i j : Nat} {fv : Nat → SV} {f f' : Nat → Nat → SV} (hv : LeW w F (fv 0) (f' p 0)) (hf : i ≠ p → LeW w F (f i 0) (f' i 0)) (hj : j < 1) : LeW w F (putR p 0 1 fv f i j) (f' i j) := by
  obtain rfl : j = 0 := by omega
  unfold putR
  by_cases h : i = p
  · subst h
    rw [Nat.beq_refl, cond_true]
    exact hv
  · have e : Nat.beq i p = false := by rw [Bool.eq_false_iff]; exact fun hb => h (Nat.eq_of_beq_eq_true hb)
    rw [e, cond_false]
    exact hf h
/-- the first k rows are written -/
def part (f : Nat → Nat → SV) (z : Nat → SV) (k : Nat) : Nat → Nat → SV := fun i j => if i < k then f i j else z j
theorem part_lt {f : Nat → Nat → SV} {z : Nat → SV} {k i j : Nat} (h : i < k) : part f z k i j = f i j := if_pos h
theorem part_ge {f : Nat → Nat → SV} {z : Nat → SV} {k i j : Nat} (h : k ≤ i) : part f z k i j = z j := if_neg (by omega)
theorem part_next {f : Nat → Nat → SV} {z : Nat → SV} {k i j : Nat} (h : i ≠ k) : part f z k i j = part f z (k + 1) i j := by
  by_cases hk : i < k
  · rw [part_lt hk, part_lt (by omega)]
  · rw [part_ge (by omega), part_ge (by omega)]
theorem put_row {w : World} {F : Nat → Prop} {sz p i j : Nat} {fv : Nat → SV} {f f' : Nat → Nat → SV} (hv : ∀ j, j < sz → LeW w F (fv j) (f' p j)) (hf : i ≠ p → ∀ j, j < sz → LeW w F (f i j) (f' i j)) (hj : j < sz) : LeW w F (putR p 0 sz fv f i j) (f' i j) := by
  unfold putR
  by_cases h : i = p
  · subst h
    rw [Nat.beq_refl, cond_true]
    unfold putF
    have : (Nat.ble 0 j && Nat.ble (j + 1) (0 + sz)) = true := by simp [Nat.ble_eq]; omega
    rw [this, cond_true]
    exact hv j hj
  · have e : Nat.beq i p = false := by rw [Bool.eq_false_iff]; exact fun hb => h (Nat.eq_of_beq_eq_true hb)
    rw [e, cond_false]
    exact hf h j hj
theorem lk_setK_self_ne {i k : Nat} {p : Hp} {L : Hpl} (h : k ≠ i) : lk k (setK i p L) = lk k L := lk_setK_ne h
/-- a call that takes two pieces and hands back new ones -/
theorem CallN.turn2 {P : Program} {f : FuncId} {ss : List SV} {L : Hpl} {nx : Nat} {K : KK} (k1 k2 : Nat) (p1 p2 : Hp) (Φ : SV → List Hp → Prop) (hl1 : lk k1 L = p1) (hl2 : lk k2 L = p2) (hne : k1 ≠ k2) (he1 : p1.isEmp = false) (he2 : p2.isEmp = false) (hb1 : ∀ g t n f, p1 ≠ .box g t n f) (hb2 : ∀ g t n f, p2 ≠ .box g t n f)
    (h : ∀ R, SCalls P f ss [p1, p2, .cust R] fun r H' => ∃ N, H' = N ++ [.cust R] ∧ Φ r N) (k : ∀ r N, Φ r N → K (r.lift nx) (keyN nx N (setK k1 .emp (setK k2 .emp L))) (nx + 10)) : CallN P f ss L nx K := by
  have h2 : (L.map Prod.snd).Perm (p2 :: offK k2 L) := by have := lk_perm (k := k2) (L := L) (hasK_of (by rw [hl2]; exact Hp.ne_emp he2)); rwa [hl2] at this
  have h2' : ((setK k2 .emp L).map Prod.snd).Perm (.emp :: offK k2 L) := setK_perm (hasK_of (by rw [hl2]; exact Hp.ne_emp he2))
  have hl1' : lk k1 (setK k2 .emp L) = p1 := by rw [lk_setK_self_ne hne]; exact hl1
  have h1 : ((setK k2 .emp L).map Prod.snd).Perm (p1 :: offK k1 (setK k2 .emp L)) := by have := lk_perm (k := k1) (L := setK k2 .emp L) (hasK_of (by rw [hl1']; exact Hp.ne_emp he1)); rwa [hl1'] at this
  have h1' : ((setK k1 .emp (setK k2 .emp L)).map Prod.snd).Perm (.emp :: offK k1 (setK k2 .emp L)) := setK_perm (hasK_of (by rw [hl1']; exact Hp.ne_emp he1))
  -- the rest, with a hole
  have hrest : (.emp :: L.map Prod.snd).Perm (p2 :: p1 :: offK k1 (setK k2 .emp L)) :=
    ((h2.cons _).trans (List.Perm.swap _ _ _)).trans (((h2'.symm).trans h1).cons _)
  have key : SCalls P f ss (.emp :: L.map Prod.snd) fun r H => ∃ N, Φ r N ∧ H = N ++ offK k1 (setK k2 .emp L) := by
    refine SCalls.perm (hrest.trans (List.Perm.swap _ _ _)) ?_
    refine (SCalls.frame (A := [p1, p2]) (H := offK k1 (setK k2 .emp L)) (K := fun r H => ∃ N, Φ r N ∧ H = N ++ offK k1 (setK k2 .emp L)) fun R => (h R).mono fun r H' ⟨N, e, hΦ⟩ => ⟨N, e, N, hΦ, rfl⟩).mono ?_
    rintro r H' ⟨N, hΦ, rfl⟩
    exact ⟨_, List.Perm.refl _, N, hΦ, rfl⟩
  have addE : ∀ {w : World} {F : Nat → Prop} {l : List Hp}, HSat w F l → HSat w F (.emp :: l) := fun hs =>
    hs.cons (Nat.le_refl _) (fun _ _ => rfl) trivial fun _ hb => hb.elim
  refine .gen ((SCalls.le (fun w F hs => addE hs) key).post ?_)
  rintro r H' ⟨N, hΦ, rfl⟩
  refine ⟨r, (keyN nx N (setK k1 .emp (setK k2 .emp L))).map Prod.snd, fun w F v hs hv => ⟨F, fun _ h => h, ?_, hv⟩, _, rfl, fun k' g t n f hlt hk => ?_, k r N hΦ⟩
  · rw [keyN_snd]
    refine (addE hs).perm ?_
    exact (List.perm_middle.symm).trans (List.Perm.append_left N h1'.symm)
  · have key : ∀ (N : List Hp) (m : Nat) (L' : Hpl) (k : Nat) (x : Hp), k < m → lk k L' = x → lk k (keyN m N L') = x := by
      intro N
      induction N with
      | nil => intro m L' k x _ h; exact h
      | cons y N ih =>
        intro m L' k x hkm h
        simp only [keyN, lk]
        have : Nat.beq m k = false := by rw [Bool.eq_false_iff]; intro hb; have := Nat.eq_of_beq_eq_true hb; omega
        rw [this, cond_false]
        exact ih (m + 1) L' k x (by omega) h
    refine key N nx _ k' _ hlt ?_
    rw [lk_setK_self_ne (by rintro rfl; rw [hl1] at hk; exact hb1 _ _ _ _ hk), lk_setK_self_ne (by rintro rfl; rw [hl2] at hk; exact hb2 _ _ _ _ hk)]
    exact hk
end Go.Proofs.YtpmhikdefbcofaaDoor
/-! YtpmhikdefbcofaaDoorVx -/
set_option linter.all false
namespace Go.Proofs.YtpmhikdefbcofaaDoor
open Go.RowKit

/-- a list of ints that a call makes stands still at once -/
theorem CallN.stillB {P : Program} {f : FuncId} {ss : List SV} {L : Hpl} {nx : Nat} {K : KK} {ss' : List SV} {Q : List Int → Prop} {e : TypeId} (h : SNew P f ss' (MadeL Q e)) (hl : LendsL L ss ss') (k : ∀ l, Q l → K ((isl l).lift nx) L (nx + 10)) : CallN P f ss L nx K :=
  .newF ss' _ (fun r => ∃ l, Q l ∧ r = isl l) h (fun w F vs hs hv => hl.has hs hv) (fun r N h => h.free) (fun r N ⟨l, A, n, c, hP, _, hr, hN⟩ => by
    subst hr hN
    exact ⟨_, ⟨l, hP, rfl⟩, fun H => Ent.row fun w F x hv hx => by have e : x = _ := hx; subst e; exact hv⟩) fun r ⟨l, hP, e⟩ => e ▸ k l hP

/-- a row stands still from here on; what names it is told anew -/
theorem HLe.frz {L L' : Hpl} {H1 : List Hp} {v : Value} {e : TypeId} {sz n : Nat} {f : Nat → Nat → SV} (hp : PPick (L.map Prod.snd) (.row v e sz n f :: H1)) (h : ∀ w F, Has w F (.sl sz n f) v → AllW w F H1 (L'.map Prod.snd)) : HLe L L' := fun w F hs => by
  have h0 := hp.sat hs
  refine ⟨_, fun _ => .inl, (h w _ (row_sl (h0.holds _ List.mem_cons_self) (fun b => .inl) fun b hb => .inr hb)).sat h0.freeze⟩

/-- a vertex -/
structure Vx where
  r : Int
  a : Int
  ps : List Int
  d : Int
instance : Inhabited Vx := ⟨⟨0, 0, [], 0⟩⟩
def vxF (v : Vx) : Nat → SV := litF [.i v.r, .i v.a, isl v.ps, .i v.d]
abbrev vxV (v : Vx) : SV := .agg 4 (vxF v)
abbrev vsl (g : List Vx) : SV := .sl 4 g.length (rowF vxF g)
/-- the authors in a round, among the first k -/
def auths (g : List Vx) (n : Int) : Nat → List Int
  | 0 => []
  | k + 1 => if (g.getD k default).r = n then auths g n k ++ [(g.getD k default).a] else auths g n k
theorem auths1 {g : List Vx} {n : Int} {k : Nat} (h : (g.getD k default).r = n) : auths g n (k + 1) = auths g n k ++ [(g.getD k default).a] := if_pos h
theorem auths0 {g : List Vx} {n : Int} {k : Nat} (h : ¬ (g.getD k default).r = n) : auths g n (k + 1) = auths g n k := if_neg h
theorem auths_len {g : List Vx} {n : Int} : ∀ {k : Nat}, (auths g n k).length ≤ k
  | 0 => Nat.le_refl _
  | k + 1 => by
    have := auths_len (g := g) (n := n) (k := k)
    unfold auths
    split
    · rw [List.length_append]; simp; omega
    · omega
set_option maxRecDepth 100000 in
theorem l11Authors_o (g : List Vx) (n : Int) (hg : g.length ≤ 1000000) : SNew Tryd.prog 96 [vsl g, .i n] (MadeL (fun l => l = auths g n g.length) 3) := ⟨fun R => by
  refine SCalls.enter tt_ok Tryd.func96 (by kernel_rfl) rfl [(900, .cust R)] rfl (argF _) (fun w F v k h => h) (by simp) ?_
  repeat' (first | (with_reducible first | refine HT.seq ?_ | refine HT.block ?_ | refine Br.not ?_) | ((with_reducible first | refine HT.region tt_ok ?_ | refine HT.drawn tt_ok (by kernel_rfl) (by decide +kernel) ?_ | refine HT.drawnL tt_ok (by kernel_rfl) (by decide +kernel) ?_ | refine HT.cond ?_ | refine HT.ret ?_ | refine HT.skip ?_ | refine HT.exit ?_ | refine Br.tt ?_ | refine Br.ff ?_); conv => whnf) | ((with_reducible first | refine Br.dec (fun hc => ?_) (fun hc => ?_) | refine Br.eq (fun hc => ?_) (fun hc => ?_) | refine Br.ne (fun hc => ?_) (fun hc => ?_)) <;> (first | (exfalso; omega) | conv => whnf)) | ((with_reducible first | refine Br.ttE (by decide) ?_ | refine Br.ffE (by decide) ?_ | refine Br.mk (fun hc => ?_) (fun hc => ?_) | refine Chk.mk (by first | omega | with_reducible rfl | (refine ⟨rfl, ?_⟩; omega) | decide | exact ⟨rfl, by omega, by omega, rfl⟩ | exact ⟨by assumption, rfl, by omega, by omega⟩) ?_ | refine Ar.fit (by omega) ?_ | refine Eqv.shr1 ?_ | refine Ar.u64 (by omega) ?_) <;> conv => whnf) | (with_reducible exact trivial) | ((with_reducible refine And.intro ?_ ?_) <;> conv => whnf) | (intro gn; conv => whnf))
  refine HT.loopC [0, 1, 4] (fun x : Nat × Option Addr × Nat × Nat => [(5, .own 100 (.slice x.2.1 x.2.2.1 x.2.2.2)), (6, .i x.1)]) (fun x : Nat × Option Addr × Nat × Nat => [(100, .row (.slice x.2.1 x.2.2.1 x.2.2.2) (auths g n x.1).length (rowF intF (auths g n x.1)))]) (fun x : Nat × Option Addr × Nat × Nat => x.1 ≤ g.length ∧ x.2.2.1 = (auths g n x.1).length) (fun x : Nat × Option Addr × Nat × Nat => g.length - x.1) (0, some ⟨gn, 0, none⟩, 0, 0) ⟨Nat.zero_le _, rfl⟩ ⟨(by first | with_reducible exact CellLe.refl _ | exact CellLe.own | exact CellLe.i (by omega) | exact CellLe.nil | exact CellLe.slNil | exact CellLe.refl _), (by first | with_reducible exact CellLe.refl _ | exact CellLe.own | exact CellLe.i (by omega) | exact CellLe.nil | exact CellLe.slNil | exact CellLe.refl _), trivial⟩ ?_ ?_
  · conv => whnf
    refine PP.start ?_; repeat (first | exact PP.nil | refine PP.take (by first | with_reducible exact Hp.Sub.refl _ | exact Hp.Sub.rd (by omega) | exact Hp.Sub.boxA (by (repeat (first | exact all_lt_zero | refine all_lt_succ (p := fun j => CellLe _ _) (by first | with_reducible exact CellLe.refl _ | exact CellLe.own | exact CellLe.i (by omega) | exact CellLe.nil | exact CellLe.slNil | exact CellLe.refl _) ?_))) | exact Hp.Sub.refl _) ?_ | refine PP.skip ?_)
  conv => whnf
  rintro ⟨k, A, q, cp⟩ ⟨hk, hq⟩
  dsimp only at hk hq ⊢
  have hcl := auths_len (g := g) (n := n) (k := k)
  conv => whnf
  repeat' (first | (with_reducible first | refine HT.seq ?_ | refine HT.block ?_ | refine Br.not ?_) | ((with_reducible first | refine HT.region tt_ok ?_ | refine HT.drawn tt_ok (by kernel_rfl) (by decide +kernel) ?_ | refine HT.drawnL tt_ok (by kernel_rfl) (by decide +kernel) ?_ | refine HT.cond ?_ | refine HT.ret ?_ | refine HT.skip ?_ | refine HT.exit ?_ | refine Br.tt ?_ | refine Br.ff ?_); conv => whnf) | ((with_reducible first | refine Br.dec (fun hc => ?_) (fun hc => ?_) | refine Br.eq (fun hc => ?_) (fun hc => ?_) | refine Br.ne (fun hc => ?_) (fun hc => ?_)) <;> (first | (exfalso; omega) | conv => whnf)) | ((with_reducible first | refine Br.ttE (by decide) ?_ | refine Br.ffE (by decide) ?_ | refine Br.mk (fun hc => ?_) (fun hc => ?_) | refine Chk.mk (by first | omega | with_reducible rfl | (refine ⟨rfl, ?_⟩; omega) | decide | exact ⟨rfl, by omega, by omega, rfl⟩ | exact ⟨by assumption, rfl, by omega, by omega⟩) ?_ | refine Ar.fit (by omega) ?_ | refine Eqv.shr1 ?_ | refine Ar.u64 (by omega) ?_) <;> conv => whnf) | (with_reducible exact trivial) | ((with_reducible refine And.intro ?_ ?_) <;> conv => whnf) | (intro gn; conv => whnf))
  all_goals (try simp only [Int.toNat_natCast] at *)
  · rename_i A2
    have e := auths1 hc
    exact ⟨⟨(k + 1, A2, (auths g n k).length + 1, gn), ⟨by dsimp only; omega, by dsimp only; rw [e, List.length_append]; rfl⟩, by dsimp only; omega, (by repeat' (first | exact trivial | refine ⟨rfl, ?_⟩)), ⟨(by first | with_reducible exact CellLe.refl _ | exact CellLe.own | exact CellLe.i (by omega) | exact CellLe.nil | exact CellLe.slNil | exact CellLe.refl _), (by first | with_reducible exact CellLe.refl _ | exact CellLe.own | exact CellLe.i (by omega) | exact CellLe.nil | exact CellLe.slNil | exact CellLe.refl _), trivial⟩, HLe.pk (by
      conv => whnf
      refine PP.start ?_; repeat (first | exact PP.nil | refine PP.take (by first | with_reducible exact Hp.Sub.refl _ | exact Hp.Sub.rd (by omega) | exact Hp.Sub.rowA (by rw [e, List.length_append]; rfl) (fun i j hi hj => by rw [e]; exact cat_int hi rfl hj) | exact Hp.Sub.boxA (by (repeat (first | exact all_lt_zero | refine all_lt_succ (p := fun j => CellLe _ _) (by first | with_reducible exact CellLe.refl _ | exact CellLe.own | exact CellLe.i (by omega) | exact CellLe.nil | exact CellLe.slNil | exact CellLe.refl _) ?_))) | exact Hp.Sub.refl _) ?_ | refine PP.skip ?_))⟩⟩
  · have e := auths0 hc
    exact ⟨⟨(k + 1, A, q, cp), ⟨by dsimp only; omega, by dsimp only; rw [e]; exact hq⟩, by dsimp only; omega, (by repeat' (first | exact trivial | refine ⟨rfl, ?_⟩)), ⟨(by first | with_reducible exact CellLe.refl _ | exact CellLe.own | exact CellLe.i (by omega) | exact CellLe.nil | exact CellLe.slNil | exact CellLe.refl _), (by first | with_reducible exact CellLe.refl _ | exact CellLe.own | exact CellLe.i (by omega) | exact CellLe.nil | exact CellLe.slNil | exact CellLe.refl _), trivial⟩, HLe.pk (by
      conv => whnf
      refine PP.start ?_; repeat (first | exact PP.nil | refine PP.take (by first | with_reducible exact Hp.Sub.refl _ | exact Hp.Sub.rd (by omega) | exact Hp.Sub.rowA (by rw [e]) (fun i j hi hj => by rw [e]) | exact Hp.Sub.boxA (by (repeat (first | exact all_lt_zero | refine all_lt_succ (p := fun j => CellLe _ _) (by first | with_reducible exact CellLe.refl _ | exact CellLe.own | exact CellLe.i (by omega) | exact CellLe.nil | exact CellLe.slNil | exact CellLe.refl _) ?_))) | exact Hp.Sub.refl _) ?_ | refine PP.skip ?_))⟩⟩
  · obtain rfl : k = g.length := by omega
    exact Fin.news [_] (fun _ => 0) (by refine PP.start ?_; repeat (first | exact PP.nil | refine PP.take (by first | with_reducible exact Hp.Sub.refl _ | exact Hp.Sub.rd (by omega) | exact Hp.Sub.rowA (by first | rfl | simp) (fun i j hi hj => rfl) | exact Hp.Sub.boxA (by (repeat (first | exact all_lt_zero | refine all_lt_succ (p := fun j => CellLe _ _) (by first | with_reducible exact CellLe.refl _ | exact CellLe.own | exact CellLe.i (by omega) | exact CellLe.nil | exact CellLe.slNil | exact CellLe.refl _) ?_))) | exact Hp.Sub.refl _) ?_ | refine PP.skip ?_)) ⟨auths g n g.length, _, _, _, (by rfl), (by first | rfl | omega | (simp <;> omega)), rfl, rfl⟩⟩
/-- members in any order, each of them one of c -/
def InC (c ms : List Int) : Prop := ∀ i, i < ms.length → 0 ≤ ms.getD i default ∧ ms.getD i default < c.length
theorem l1WtR_c (c ms : List Int) (hc : cmOk c = true) (hr : InC c ms) (hl : ms.length ≤ 100000) : SRet Tryd.prog 94 [isl c, isl ms] (fun r => ∃ z : Int, r = .i z) := ⟨fun R => by
  refine SCalls.enter tt_ok Tryd.func94 (by kernel_rfl) rfl [(900, .cust R)] rfl (argF _) (fun w F v k h => h) (by simp) ?_
  have h7 := (cmOk_iff.1 hc).1
  repeat' (first | (with_reducible first | refine HT.seq ?_ | refine HT.block ?_ | refine Br.not ?_) | ((with_reducible first | refine HT.region tt_ok ?_ | refine HT.drawn tt_ok (by kernel_rfl) (by decide +kernel) ?_ | refine HT.drawnL tt_ok (by kernel_rfl) (by decide +kernel) ?_ | refine HT.cond ?_ | refine HT.ret ?_ | refine HT.skip ?_ | refine HT.exit ?_ | refine Br.tt ?_ | refine Br.ff ?_); conv => whnf) | ((with_reducible first | refine Br.dec (fun hc => ?_) (fun hc => ?_) | refine Br.eq (fun hc => ?_) (fun hc => ?_) | refine Br.ne (fun hc => ?_) (fun hc => ?_)) <;> (first | (exfalso; omega) | conv => whnf)) | ((with_reducible first | refine Br.ttE (by decide) ?_ | refine Br.ffE (by decide) ?_ | refine Br.mk (fun hc => ?_) (fun hc => ?_) | refine Chk.mk (by first | omega | with_reducible rfl | (refine ⟨rfl, ?_⟩; omega) | decide | exact ⟨rfl, by omega, by omega, rfl⟩ | exact ⟨by assumption, rfl, by omega, by omega⟩) ?_ | refine Ar.fit (by omega) ?_ | refine Eqv.shr1 ?_ | refine Ar.u64 (by omega) ?_) <;> conv => whnf) | (with_reducible exact trivial) | ((with_reducible refine And.intro ?_ ?_) <;> conv => whnf) | (intro gn; conv => whnf))
  refine HT.loopS [0, 1, 4] (fun k : Nat => [(5, .i (sumTo (fun i => c.getD (ms.getD i default).toNat default) k)), (6, .i k)]) (fun k : Nat => k ≤ ms.length) (fun k : Nat => ms.length - k) 0 (Nat.zero_le _) ⟨rfl, rfl, trivial⟩ ?_
  conv => whnf
  rintro k hk
  have hp := sumTo_bd (g := fun i => c.getD (ms.getD i default).toNat default) (k := k) fun i hi => (cmOk_iff.1 hc).2 _ (by have := hr i (by omega); omega)
  by_cases hlt : k < ms.length
  · have hr := hr k hlt
    have hn := (cmOk_iff.1 hc).2 (ms.getD k default).toNat (by omega)
    have e : ms.getD (k : Int).toNat default = ms.getD k default := by rw [Int.toNat_natCast]
    repeat' (first | (with_reducible first | refine HT.seq ?_ | refine HT.block ?_ | refine Br.not ?_) | ((with_reducible first | refine HT.region tt_ok ?_ | refine HT.drawn tt_ok (by kernel_rfl) (by decide +kernel) ?_ | refine HT.drawnL tt_ok (by kernel_rfl) (by decide +kernel) ?_ | refine HT.cond ?_ | refine HT.ret ?_ | refine HT.skip ?_ | refine HT.exit ?_ | refine Br.tt ?_ | refine Br.ff ?_); conv => whnf) | ((with_reducible first | refine Br.dec (fun hc => ?_) (fun hc => ?_) | refine Br.eq (fun hc => ?_) (fun hc => ?_) | refine Br.ne (fun hc => ?_) (fun hc => ?_)) <;> (first | (exfalso; omega) | conv => whnf)) | ((with_reducible first | refine Br.ttE (by decide) ?_ | refine Br.ffE (by decide) ?_ | refine Br.mk (fun hc => ?_) (fun hc => ?_) | refine Chk.mk (by first | omega | with_reducible rfl | (refine ⟨rfl, ?_⟩; omega) | decide | exact ⟨rfl, by omega, by omega, rfl⟩ | exact ⟨by assumption, rfl, by omega, by omega⟩) ?_ | refine Ar.fit (by omega) ?_ | refine Eqv.shr1 ?_ | refine Ar.u64 (by omega) ?_) <;> conv => whnf) | (with_reducible exact trivial) | ((with_reducible refine And.intro ?_ ?_) <;> conv => whnf) | (intro gn; conv => whnf))
    refine ⟨⟨_, IntWalk.i64_in _ (by rw [e]; omega), ?_⟩⟩
    conv => whnf
    repeat' (first | (with_reducible first | refine HT.seq ?_ | refine HT.block ?_ | refine Br.not ?_) | ((with_reducible first | refine HT.region tt_ok ?_ | refine HT.drawn tt_ok (by kernel_rfl) (by decide +kernel) ?_ | refine HT.drawnL tt_ok (by kernel_rfl) (by decide +kernel) ?_ | refine HT.cond ?_ | refine HT.ret ?_ | refine HT.skip ?_ | refine HT.exit ?_ | refine Br.tt ?_ | refine Br.ff ?_); conv => whnf) | ((with_reducible first | refine Br.dec (fun hc => ?_) (fun hc => ?_) | refine Br.eq (fun hc => ?_) (fun hc => ?_) | refine Br.ne (fun hc => ?_) (fun hc => ?_)) <;> (first | (exfalso; omega) | conv => whnf)) | ((with_reducible first | refine Br.ttE (by decide) ?_ | refine Br.ffE (by decide) ?_ | refine Br.mk (fun hc => ?_) (fun hc => ?_) | refine Chk.mk (by first | omega | with_reducible rfl | (refine ⟨rfl, ?_⟩; omega) | decide | exact ⟨rfl, by omega, by omega, rfl⟩ | exact ⟨by assumption, rfl, by omega, by omega⟩) ?_ | refine Ar.fit (by omega) ?_ | refine Eqv.shr1 ?_ | refine Ar.u64 (by omega) ?_) <;> conv => whnf) | (with_reducible exact trivial) | ((with_reducible refine And.intro ?_ ?_) <;> conv => whnf) | (intro gn; conv => whnf))
    exact ⟨⟨k + 1, by omega, by omega, (by repeat' (first | exact trivial | refine ⟨rfl, ?_⟩)), ⟨sv_i (by rw [e]; rfl), sv_i (by omega), trivial⟩, (HLe.sub (by repeat (first | exact List.Sublist.refl _ | refine List.Sublist.cons_cons _ ?_ | refine List.Sublist.cons _ ?_)))⟩⟩
  · repeat' (first | (with_reducible first | refine HT.seq ?_ | refine HT.block ?_ | refine Br.not ?_) | ((with_reducible first | refine HT.region tt_ok ?_ | refine HT.drawn tt_ok (by kernel_rfl) (by decide +kernel) ?_ | refine HT.drawnL tt_ok (by kernel_rfl) (by decide +kernel) ?_ | refine HT.cond ?_ | refine HT.ret ?_ | refine HT.skip ?_ | refine HT.exit ?_ | refine Br.tt ?_ | refine Br.ff ?_); conv => whnf) | ((with_reducible first | refine Br.dec (fun hc => ?_) (fun hc => ?_) | refine Br.eq (fun hc => ?_) (fun hc => ?_) | refine Br.ne (fun hc => ?_) (fun hc => ?_)) <;> (first | (exfalso; omega) | conv => whnf)) | ((with_reducible first | refine Br.ttE (by decide) ?_ | refine Br.ffE (by decide) ?_ | refine Br.mk (fun hc => ?_) (fun hc => ?_) | refine Chk.mk (by first | omega | with_reducible rfl | (refine ⟨rfl, ?_⟩; omega) | decide | exact ⟨rfl, by omega, by omega, rfl⟩ | exact ⟨by assumption, rfl, by omega, by omega⟩) ?_ | refine Ar.fit (by omega) ?_ | refine Eqv.shr1 ?_ | refine Ar.u64 (by omega) ?_) <;> conv => whnf) | (with_reducible exact trivial) | ((with_reducible refine And.intro ?_ ?_) <;> conv => whnf) | (intro gn; conv => whnf))
    exact Fin.pureS (by repeat (first | exact List.Sublist.refl _ | refine List.Sublist.cons_cons _ ?_ | refine List.Sublist.cons _ ?_)) (⟨_, rfl⟩)⟩
def vxOk (c : List Int) (v : Vx) : Bool := inB v.r 0 30 && (inB v.a 0 (c.length - 1) && (msOk c.length v.ps && (inB v.d 0 990 && if v.r = 0 then decide (v.ps.length = 0) else decide (quo c ≤ wt c v.ps))))
theorem vxOk_iff {c : List Int} {v : Vx} (h : vxOk c v = true) : (0 ≤ v.r ∧ v.r ≤ 30) ∧ (0 ≤ v.a ∧ v.a < c.length) ∧ msOk c.length v.ps = true ∧ (0 ≤ v.d ∧ v.d ≤ 990) := by
  unfold vxOk at h
  simp only [Bool.and_eq_true, inB_true] at h
  exact ⟨h.1, by omega, h.2.2.1, h.2.2.2.1⟩
theorem l11Vertex_c (c : List Int) (v : Vx) (hcm : cmOk c = true) (hl : v.ps.length ≤ 10000000) : SRet Tryd.prog 76 [isl c, vxV v] (· = .b (vxOk c v)) := ⟨fun R => by
  have h7 := (cmOk_iff.1 hcm).1
  obtain ⟨vr, va, vp, vd⟩ := v
  dsimp only at hl
  refine SCalls.enter tt_ok Tryd.func76 (by kernel_rfl) rfl [(900, .cust R)] rfl (argF _) (fun w F v k h => h) (by simp) ?_
  repeat' (first | (with_reducible first | refine HT.seq ?_ | refine HT.block ?_ | refine Br.not ?_) | ((with_reducible first | refine HT.region tt_ok ?_ | refine HT.drawn tt_ok (by kernel_rfl) (by decide +kernel) ?_ | refine HT.drawnL tt_ok (by kernel_rfl) (by decide +kernel) ?_ | refine HT.cond ?_ | refine HT.ret ?_ | refine HT.skip ?_ | refine HT.exit ?_ | refine Br.tt ?_ | refine Br.ff ?_); conv => whnf) | ((with_reducible first | refine Br.dec (fun hc => ?_) (fun hc => ?_) | refine Br.eq (fun hc => ?_) (fun hc => ?_) | refine Br.ne (fun hc => ?_) (fun hc => ?_)) <;> (first | (exfalso; omega) | conv => whnf)) | ((with_reducible first | refine Br.ttE (by decide) ?_ | refine Br.ffE (by decide) ?_ | refine Br.mk (fun hc => ?_) (fun hc => ?_) | refine Chk.mk (by first | omega | with_reducible rfl | (refine ⟨rfl, ?_⟩; omega) | decide | exact ⟨rfl, by omega, by omega, rfl⟩ | exact ⟨by assumption, rfl, by omega, by omega⟩) ?_ | refine Ar.fit (by omega) ?_ | refine Eqv.shr1 ?_ | refine Ar.u64 (by omega) ?_) <;> conv => whnf) | ((first | refine CallN.ret1 (l6In_c _ _ _) ?_ | refine CallN.ret1 (specMs_c c vp (by omega) (by omega)) ?_ | refine CallN.ret1 (l2Digest_c _) ?_ | refine CallN.ret1 (specWt_c c vp hcm (by assumption)) ?_ | refine CallN.ret1 (specQuo_c c hcm) ?_) <;> conv => whnf) | (with_reducible exact trivial) | ((with_reducible refine And.intro ?_ ?_) <;> conv => whnf) | (intro gn; conv => whnf))
  all_goals exact Fin.pureS (by repeat (first | exact List.Sublist.refl _ | refine List.Sublist.cons_cons _ ?_ | refine List.Sublist.cons _ ?_)) (sv_b (by unfold vxOk; first | (simp_all; done) | (simp_all; rw [Bool.eq_iff_iff]; simp)))⟩
def vxOkA (c : List Int) (v : Vx) : Bool := cmOk c && vxOk c v
theorem implVx_c (c : List Int) (v : Vx) (hl : c.length ≤ 2000000) (hp : v.ps.length ≤ 10000000) : SRet Tryd.prog 64 [isl c, vxV v] (· = .b (vxOkA c v)) := ⟨fun R => by
  have hh : SRet Tryd.prog 68 [isl c, .i v.a] (· = .b (inB v.a 0 (c.length - 1))) := (implHas_c c v.a).imp fun r e => e.trans (sv_b (by rw [Bool.eq_iff_iff, inB_true, decide_eq_true_eq]; omega))
  refine SCalls.enter tt_ok Tryd.func64 (by kernel_rfl) rfl [(900, .cust R)] rfl (argF _) (fun w F v k h => h) (by simp) ?_
  repeat' (first | (with_reducible first | refine HT.seq ?_ | refine HT.block ?_ | refine Br.not ?_) | ((with_reducible first | refine HT.region tt_ok ?_ | refine HT.drawn tt_ok (by kernel_rfl) (by decide +kernel) ?_ | refine HT.drawnL tt_ok (by kernel_rfl) (by decide +kernel) ?_ | refine HT.cond ?_ | refine HT.ret ?_ | refine HT.skip ?_ | refine HT.exit ?_ | refine Br.tt ?_ | refine Br.ff ?_); conv => whnf) | ((with_reducible first | refine Br.dec (fun hc => ?_) (fun hc => ?_) | refine Br.eq (fun hc => ?_) (fun hc => ?_) | refine Br.ne (fun hc => ?_) (fun hc => ?_)) <;> (first | (exfalso; omega) | conv => whnf)) | ((with_reducible first | refine Br.ttE (by decide) ?_ | refine Br.ffE (by decide) ?_ | refine Br.mk (fun hc => ?_) (fun hc => ?_) | refine Chk.mk (by first | omega | with_reducible rfl | (refine ⟨rfl, ?_⟩; omega) | decide | exact ⟨rfl, by omega, by omega, rfl⟩ | exact ⟨by assumption, rfl, by omega, by omega⟩) ?_ | refine Ar.fit (by omega) ?_ | refine Eqv.shr1 ?_ | refine Ar.u64 (by omega) ?_) <;> conv => whnf) | ((first | refine CallN.ret1 (implMsV_c c v.ps (by omega) (by omega)) ?_ | refine CallN.ret1 (isRound_c _) ?_ | refine CallN.ret1 (hh) ?_ | refine CallN.ret1 (isDigest_c _) ?_ | refine CallN.ret1 (implMsW_c c v.ps (by simp_all) (by simp_all)) ?_ | refine CallN.ret1 (implCmQuo_c c (by simp_all)) ?_) <;> conv => whnf) | (with_reducible exact trivial) | ((with_reducible refine And.intro ?_ ?_) <;> conv => whnf) | (intro gn; conv => whnf))
  all_goals exact Fin.pureS (by repeat (first | exact List.Sublist.refl _ | refine List.Sublist.cons_cons _ ?_ | refine List.Sublist.cons _ ?_)) (sv_b (by unfold vxOkA vxOk; first | (simp_all; done) | (simp_all; rw [Bool.eq_iff_iff]; simp)))⟩
theorem vxA_iff {c : List Int} {v : Vx} (h : vxOkA c v = true) : cmOk c = true ∧ vxOk c v = true := by
  unfold vxOkA at h
  rwa [Bool.and_eq_true] at h
end Go.Proofs.YtpmhikdefbcofaaDoor
