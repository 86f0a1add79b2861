/- What is drawn: readers, digests, committees, members. -/
import Derived.Test.YtjkeapkpdgfhcaaCm
set_option linter.all false
namespace Go.Proofs.Ytjkeapkpdgfhcaa
open Go.RowKit

theorem box_rd {w : World} {F : Nat → Prop} {g n : Nat} {f : Nat → SV} {zs : List Int} (hg : ¬ F g) (h : (Hp.box g 67 2 f).holds w F) (h0 : f 0 = .sl 1 n (rowF u8F zs)) (h1 : f 1 = .i 0) (hn : n ≤ 2000) (hzn : n ≤ zs.length) (hz : ∀ z ∈ zs, 0 ≤ z ∧ z ≤ 255) :
    (Hp.cust (rdH g 0)).holds w F := by
  obtain ⟨cs, hbx, hsz, hc⟩ := h
  have c0 := (hc 0 (by omega)).2
  have c1 := (hc 1 (by omega)).2
  rw [h0] at c0
  rw [h1] at c1
  simp only [Has] at c1
  obtain ⟨A, c, e0, _, _, hr⟩ := c0
  have hcs : cs = #[.slice A n c, .int .i64 0] := by
    apply Array.ext
    · simpa using hsz
    · intro i hi1 hi2
      have hi : i < 2 := by simpa using hi2
      rcases (by omega : i = 0 ∨ i = 1) with rfl | rfl
      · simpa [Array.getD, hi1] using e0
      · simpa [Array.getD, hi1] using c1
  subst hcs
  have hl : (zs.take n).length = n := by simp; omega
  by_cases hn0 : n = 0
  · subst hn0
    exact ⟨0, A, 0, c, [], 0, ⟨hbx, by omega, Reads.nil, by simp, Int.le_refl _, fun h => absurd h (by omega)⟩, Int.le_refl _, fun h => absurd h (by omega)⟩
  · obtain ⟨b, off, rfl, hF, hcell⟩ := hr (by omega)
    refine ⟨b + 1, some ⟨b, off, none⟩, n, c, zs.take n, 0, ⟨hbx, hn, ⟨by simp; omega, fun _ => ⟨b, off, rfl, by omega, fun j u hu => ?_⟩⟩, fun z hz' => hz z (List.mem_of_mem_take hz'), Int.le_refl _, fun _ a ha => ?_⟩, Int.le_refl _, fun _ => ⟨b, off, rfl, hF⟩⟩
    · have hj : j < n := by
        have := (List.getElem?_eq_some_iff.1 hu).1
        simp at this
        omega
      obtain ⟨u', hu', _, hh⟩ := hcell j 0 hj (by omega)
      simp only [Nat.mul_one, Nat.add_zero] at hu'
      have : u' = u := by
        simp only [rowF, u8F, Has] at hh
        rw [hh]
        rw [List.getElem?_map, List.getElem?_take, if_pos hj] at hu
        obtain ⟨z, hz1, rfl⟩ := Option.map_eq_some_iff.1 hu
        simp [List.getD_eq_getElem?_getD, hz1]
      rw [← this]
      exact hu'
    · injection ha with ha
      subst ha
      exact fun e => hg (e ▸ hF)

/-- a list of ints was made -/
def MadeL (P : List Int → Prop) (e : TypeId) (r : SV) (N : List Hp) : Prop :=
  ∃ l A n c, P l ∧ n = l.length ∧ r = .own 0 (.slice A n c) ∧ N = [.row (.slice A n c) e 1 l.length (rowF intF l)]
theorem MadeL.free {P : List Int → Prop} {e : TypeId} {r : SV} {N : List Hp} (h : MadeL P e r N) : r.free ∧ ∀ p ∈ N, p.free := by
  obtain ⟨l, A, n, c, _, _, rfl, rfl⟩ := h
  exact ⟨trivial, fun p hp => by rw [List.mem_singleton.1 hp]; exact fun i k hi hk => trivial⟩
theorem SNew.stillL {Pr : Program} {f : FuncId} {ss : List SV} {P : List Int → Prop} {e : TypeId} (h : SNew Pr f ss (MadeL P e)) : SRet Pr f ss fun r => ∃ l, P l ∧ r = isl l :=
  h.frozen fun r N ⟨l, A, n, c, hP, _, hr, hN⟩ => by
    subst hr hN
    exact ⟨_, ⟨l, hP, rfl⟩, fun R => Ent.row fun w F x hv hx => by have e : x = _ := hx; subst e; exact hv⟩
/-- a new reader -/
def Opened (r : SV) (N : List Hp) : Prop := ∃ g, r = .ptr 0 g 0 ∧ N = [.cust (rdH g 0)]
theorem Fin.opened {g k n : Nat} {f : Nat → SV} {zs : List Int} {R : Heaplet} (h0 : f 0 = .sl 1 n (rowF u8F zs)) (h1 : f 1 = .i 0) (hn : n ≤ 2000) (hzn : n ≤ zs.length) (hz : ∀ z ∈ zs, 0 ≤ z ∧ z ≤ 255) :
    Fin (.ptr k g 0) [.box g 67 2 f, .cust R] (fun r H' => ∃ N, H' = N ++ [.cust R] ∧ Opened r N) :=
  ⟨⟨.ptr 0 g 0, [.cust (rdH g 0), .cust R], fun w F v hs hv => ⟨F, fun _ h => h, hs.turn (Nat.le_refl _) (fun _ _ _ => rfl) (box_rd (hs.fp _ List.mem_cons_self g rfl).2 (hs.holds _ List.mem_cons_self) h0 h1 hn hzn hz) (fun b hb => ⟨(hs.fp _ List.mem_cons_self b hb).1, .inl hb⟩), hv⟩, [_], rfl, g, rfl, rfl⟩⟩
theorem l6Open_c (zs : List Int) (hz : ∀ z ∈ zs, 0 ≤ z ∧ z ≤ 255) (hl : zs.length ≤ 2000000) : SNew Try.prog 19 [.sl 1 zs.length (rowF u8F zs)] Opened := ⟨fun R => by
  refine SCalls.enter tt_ok Try.func19 (by kernel_rfl) rfl [(900, .cust R)] rfl (argF _) (fun w F v k h => h) (by simp) ?_
  repeat' (first | (with_reducible first | refine HT.seq ?_ | refine HT.block ?_ | refine Br.not ?_) | ((with_reducible first | refine HT.region tt_ok ?_ | refine HT.drawn tt_ok (by kernel_rfl) (by decide +kernel) ?_ | refine HT.drawnL tt_ok (by kernel_rfl) (by decide +kernel) ?_ | refine HT.cond ?_ | refine HT.ret ?_ | refine HT.skip ?_ | refine HT.exit ?_ | refine Br.tt ?_ | refine Br.ff ?_); conv => whnf) | ((with_reducible first | refine Br.dec (fun hc => ?_) (fun hc => ?_) | refine Br.eq (fun hc => ?_) (fun hc => ?_) | refine Br.ne (fun hc => ?_) (fun hc => ?_)) <;> (first | (exfalso; omega) | conv => whnf)) | ((with_reducible first | refine Br.ttE (by decide) ?_ | refine Br.ffE (by decide) ?_ | refine Br.mk (fun hc => ?_) (fun hc => ?_) | refine Chk.mk (by first | omega | with_reducible rfl | (refine ⟨rfl, ?_⟩; omega) | decide | exact ⟨rfl, by omega, by omega, rfl⟩ | exact ⟨by assumption, rfl, by omega, by omega⟩) ?_ | refine Ar.fit (by omega) ?_ | refine Eqv.shr1 ?_ | refine Ar.u64 (by omega) ?_) <;> conv => whnf) | (with_reducible exact trivial) | ((with_reducible refine And.intro ?_ ?_) <;> conv => whnf) | (intro gn; conv => whnf))
  · exact Fin.opened rfl rfl (by omega) (by omega) hz
  · exact Fin.opened rfl rfl (by omega) (by omega) hz⟩

theorem l91Digest_c (g : Nat) (m : Int) (hm : m ≤ 900000000000) : SMut Try.prog 39 [.val (.pointer (some ⟨g, 0, none⟩))] (.cust (rdH g m)) (DrewI (-1) 991 3 g m) := ⟨fun R => by
  refine SCalls.enter tt_ok Try.func39 (by kernel_rfl) rfl [(0, .cust (rdH g m)), (900, .cust R)] rfl (argF _) (fun w F v k h => h) (by simp) ?_
  repeat' (first | (with_reducible first | refine HT.seq ?_ | refine HT.block ?_ | refine Br.not ?_) | ((with_reducible first | refine HT.region tt_ok ?_ | refine HT.drawn tt_ok (by kernel_rfl) (by decide +kernel) ?_ | refine HT.drawnL tt_ok (by kernel_rfl) (by decide +kernel) ?_ | refine HT.cond ?_ | refine HT.ret ?_ | refine HT.skip ?_ | refine HT.exit ?_ | refine Br.tt ?_ | refine Br.ff ?_); conv => whnf) | ((with_reducible first | refine Br.dec (fun hc => ?_) (fun hc => ?_) | refine Br.eq (fun hc => ?_) (fun hc => ?_) | refine Br.ne (fun hc => ?_) (fun hc => ?_)) <;> (first | (exfalso; omega) | conv => whnf)) | ((with_reducible first | refine Br.ttE (by decide) ?_ | refine Br.ffE (by decide) ?_ | refine Br.mk (fun hc => ?_) (fun hc => ?_) | refine Chk.mk (by first | omega | with_reducible rfl | (refine ⟨rfl, ?_⟩; omega) | decide | exact ⟨rfl, by omega, by omega, rfl⟩ | exact ⟨by assumption, rfl, by omega, by omega⟩) ?_ | refine Ar.fit (by omega) ?_ | refine Eqv.shr1 ?_ | refine Ar.u64 (by omega) ?_) <;> conv => whnf) | ((first | (refine CallN.turn 0 _ _ rfl (pick_c _ _ 16 (by omega) (by omega)) ?_; rintro r N p' ⟨⟨k, hk0, hk1, rfl⟩, rfl, rfl⟩) | (refine CallN.turn 0 _ _ rfl (pick_c _ _ 4 (by omega) (by omega)) ?_; rintro r N p' ⟨⟨k, hk0, hk1, rfl⟩, rfl, rfl⟩) | (refine CallN.turn 0 _ _ rfl (pick_c _ _ _ (by omega) (by omega)) ?_; rintro r N p' ⟨⟨k, hk0, hk1, rfl⟩, rfl, rfl⟩)) <;> conv => whnf) | (with_reducible exact trivial) | ((with_reducible refine And.intro ?_ ?_) <;> conv => whnf) | (intro gn; conv => whnf))
  · have hb := lit_bd (l := [-1, 0, 990, 991]) (lo := -1) (hi := 991) rfl (k := k.toNat) (by simp; omega)
    exact Fin.rd (A := [_]) (by omega) ⟨⟨_, hb.1, hb.2, rfl⟩, rfl, rfl⟩
  · exact Fin.rd (A := []) (by omega) ⟨⟨_, by omega, by omega, rfl⟩, rfl, rfl⟩⟩
end Go.Proofs.Ytjkeapkpdgfhcaa
