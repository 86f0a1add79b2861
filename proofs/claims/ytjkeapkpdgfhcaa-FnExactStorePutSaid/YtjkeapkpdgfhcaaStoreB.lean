/- The program's own test of a store. -/
import Derived.Test.YtjkeapkpdgfhcaaStoreA
import Derived.RegionTactic
set_option linter.all false
namespace Go.Proofs.Ytjkeapkpdgfhcaa
open Go.RowKit

theorem cs_upd {cs : Array Value} {l : List Bt} {k a : Nat} {x : Bt} (hcs : ∀ a : Nat, a < 7 → cs[a]? = some (.int .i64 (used (l.take k) a))) (hx : l[k]? = some x) (ea : x.a = a) (ha : a < 7) :
    ∀ a' : Nat, a' < 7 → (cs.setIfInBounds a (.int .i64 (used (l.take k) x.a + x.s)))[a']? = some (.int .i64 (used (l.take (k + 1)) a')) := by
  intro a' ha'
  rw [take_snoc l k x hx, used_snoc, Array.getElem?_setIfInBounds]
  have hsz : a < cs.size := (Array.getElem?_eq_some_iff.1 (hcs a ha)).1
  by_cases h : a = a'
  · subst h
    simp [hsz, ea]
  · have h' : (x.a == (a' : Int)) = false := by rw [ea]; simp; omega
    rw [if_neg h, hcs a' ha', h']
    simp
theorem used_upd {l : List Bt} {k : Nat} {x : Bt} (hx : l[k]? = some x) (hu : ∀ a : Int, used (l.take k) a ≤ 30) (h : used (l.take k) x.a + x.s ≤ 30) : ∀ a : Int, used (l.take (k + 1)) a ≤ 30 := by
  intro a
  rw [take_snoc l k x hx, used_snoc]
  have := hu a
  by_cases e : x.a = a
  · subst e; simp; omega
  · simp [e]; omega
theorem used_at {l : List Bt} {k : Nat} {x : Bt} (hx : l[k]? = some x) : used (l.take (k + 1)) x.a = used (l.take k) x.a + x.s := by
  rw [take_snoc l k x hx, used_snoc]; simp

set_option maxHeartbeats 1600000 in
theorem implStoreValid_any (w : World) (A : Option Addr) (n c : Nat) (l : List Bt) (f : Int) (hr : Reads w w.heap.size 4 A n (btCells l)) (hn : n ≤ 2000000) :
    Calls Try.prog 12 #[.agg #[.int .i64 f, .slice A n c]] w fun e w' => e = .returned (.bool (stOk f l)) ∧ Below w.heap.size w w' := by
  have hl := hr.bt_len
  have HL := hide hl
  have HR := hide hr
  clear hr hl
  by_cases hf : inB f 0 31 = false
  · go_enter Try.func12, Try.ntmps12
    go_wp2_with (go_at_call 32; refine (isFloor_any _ _).mono ?_; rintro e w' ⟨rfl, rfl⟩)
    go_ret
    exact ⟨ret_bool (by simp [stOk, hf]), (Below.refl _ _).alloc (Nat.le_refl _) _⟩
  replace hf : inB f 0 31 = true := by simpa using hf
  by_cases h12 : 12 < n
  · go_enter Try.func12, Try.ntmps12
    go_wp2_with (go_at_call 32; refine (isFloor_any _ _).mono ?_; rintro e w' ⟨rfl, rfl⟩)
    go_ret
    have := HL.out
    exact ⟨ret_bool (by simp [stOk]; omega), (Below.refl _ _).alloc (Nat.le_refl _) _⟩
  have h12' : decide (12 < (n : Int)) = false := by simp; omega
  go_enter Try.func12, Try.ntmps12
  go_wp2_with (go_at_call 32; refine (isFloor_any _ _).mono ?_; rintro e w' ⟨rfl, rfl⟩)
  go_loopw [19] (fun i wr => ∃ k : Nat, k ≤ n ∧ i = .int .i64 k ∧ Box wr w.heap.size 25 #[.int .i64 f, .slice A n c] ∧ Below w.heap.size w wr ∧ (∃ cs, Box wr (w.heap.size + 1) 62 cs ∧ ∀ a : Nat, a < 7 → cs[a]? = some (.int .i64 (used (l.take k) a))) ∧
    (∀ j x, j < k → l[j]? = some x → btOk x = true ∧ f ≤ x.r ∧ ∀ y, l[j - 1]? = some y → 0 < j → y.d < x.d) ∧ ∀ a : Int, used (l.take k) a ≤ 30) (fun i _ => n - (intOf i).toNat)
  case atStart =>
    refine ⟨0, Nat.zero_le _, rfl, (Box.new _ _ _).alloc _, ((Below.refl _ _).alloc (Nat.le_refl _) _).alloc (by simp) _, ⟨_, by have := Box.new (w.alloc (.cells #[.int .i64 f, .slice A n c] 25)) 62 #[.int .i64 0, .int .i64 0, .int .i64 0, .int .i64 0, .int .i64 0, .int .i64 0, .int .i64 0]; simpa using this, fun a ha => ?_⟩, fun j x hj => absurd hj (by omega), fun a => by simp [used]⟩
    rcases (by omega : a = 0 ∨ a = 1 ∨ a = 2 ∨ a = 3 ∨ a = 4 ∨ a = 5 ∨ a = 6) with rfl | rfl | rfl | rfl | rfl | rfl | rfl <;> simp [used]
  case round =>
    obtain ⟨k, hk, rfl, hbx, hbw, ⟨cs, hbc, hcs⟩, hall, hus⟩ := hrel
    have HB := hide hbx
    have HC := hide hbc
    have HW := hide hbw
    have HA := hide hall
    have HU := hide hus
    clear hbx hbw hall hus hbc
    have lB := HB.out.lt
    have lC := HC.out.lt
    have cB0 := HB.out.cell 0
    have cB1 := HB.out.cell 1
    simp at cB0 cB1
    by_cases hlt : k < n
    · obtain ⟨b, off, x, rfl, hbB, hx, h0, h1, h2, h3⟩ := (HR.out.below HW.out).bt hlt
      have HX := hide hx
      clear hx
      by_cases ho : btOk x = false
      · go_wp2_with (go_at_call 22; refine (bvalid_any x _).mono ?_; rintro e w' ⟨rfl, rfl⟩)
        go_ret
        exact ⟨ret_bool (stOk_no HX.out (by have := HL.out; omega) (.inl ho)).symm, (HW.out.alloc (by omega) _).alloc (by simp; omega) _⟩
      replace ho : btOk x = true := by simpa using ho
      by_cases hf : x.r < f
      · go_wp2_with (go_at_call 22; refine (bvalid_any x _).mono ?_; rintro e w' ⟨rfl, rfl⟩)
        go_ret
        exact ⟨ret_bool (stOk_no HX.out (by have := HL.out; omega) (.inr (.inl hf))).symm, (HW.out.alloc (by omega) _).alloc (by simp; omega) _⟩
      have hf' : decide (x.r < f) = false := by simpa using hf
      have hab := btOk_auth ho
      have hsb := btOk_size ho
      go_wp2_with (go_at_call 22; refine (bvalid_any x _).mono ?_; rintro e w' ⟨rfl, rfl⟩)
      obtain ⟨a, ea⟩ : ∃ a : Nat, x.a = a := ⟨x.a.toNat, by omega⟩
      have cC := HC.out.cell a
      rw [hcs a (by omega), ← ea] at cC
      have fC := HC.out.frozen a
      have ean : x.a.toNat = a := by omega
      have HE := hide ea
      clear ea
      have hu0 := HU.out x.a
      have hu1 := used_bd (l.take k) x.a (fun b hb => by
        obtain ⟨i, hi⟩ := List.getElem?_of_mem hb
        have hik : i < k := by have := (List.getElem?_eq_some_iff.1 hi).1; simp at this; omega
        rw [List.getElem?_take, if_pos hik] at hi
        exact btOk_size (HA.out i b hik hi).1)
      by_cases hk0 : k = 0
      · have hk0' : decide ((0 : Int) < (k : Int)) = false := by simp; omega
        have hk0n : decide (0 < k) = false := by simp; omega
        have HK0 := hide hk0
        clear hk0
        go_quiet (fail)
        go_wp2
        go_region
        go_wp2
        · go_ret
          exact ⟨ret_bool (stOk_over HX.out (by rw [used_at HX.out]; omega)).symm, below_put (below_drewN ((HW.out.alloc (by omega) _).alloc (by simp; omega) _) _) (by omega) _⟩
        · go_roundw
          case rel =>
            refine ⟨k + 1, by omega, by go_num, (((HB.out.alloc _).alloc _).drewN _).off (by omega) _, below_put (below_drewN ((HW.out.alloc (by omega) _).alloc (by simp; omega) _) _) (by omega) _, ⟨_, (((HC.out.alloc _).alloc _).drewN _).put _ _, cs_upd hcs HX.out HE.out (by omega)⟩, fun j x' hj hx' => ?_, used_upd HX.out HU.out (by omega)⟩
            rcases Nat.lt_or_ge j k with hjk | hjk
            · exact HA.out j x' hjk hx'
            · obtain rfl : j = k := by omega
              obtain rfl : x = x' := same_get HX.out hx'
              exact ⟨ho, by omega, fun y hy h0 => by have := HK0.out; omega⟩
          case measure => simp [intOf]; omega
      · obtain ⟨b', off', y, e', hbB', hy, y0, y1, y2, y3⟩ := (HR.out.below HW.out).bt (show k - 1 < n by omega)
        obtain ⟨rfl, rfl⟩ : b = b' ∧ off = off' := by injection e' with e'; injection e' with e1 e2; exact ⟨e1, e2⟩
        have HY := hide hy
        clear hy y1 y2 y3 e'
        have hk1 : 0 < k := by omega
        have hbr : b < wr.heap.size := by omega
        by_cases hd : x.d ≤ y.d
        · go_quiet (fail)
          go_wp2
          go_ret
          exact ⟨ret_bool (stOk_no HX.out (by have := HL.out; omega) (.inr (.inr (.inr ⟨by omega, y, HY.out, hd⟩)))).symm, below_drewN ((HW.out.alloc (by omega) _).alloc (by simp; omega) _) _⟩
        · have hd' : decide (x.d ≤ y.d) = false := by simpa using hd
          go_quiet (fail)
          go_wp2
          go_region
          go_wp2
          · go_ret
            exact ⟨ret_bool (stOk_over HX.out (by rw [used_at HX.out]; omega)).symm, below_put (below_drewN ((HW.out.alloc (by omega) _).alloc (by simp; omega) _) _) (by omega) _⟩
          · go_roundw
            case rel =>
              refine ⟨k + 1, by omega, by go_num, (((HB.out.alloc _).alloc _).drewN _).off (by omega) _, below_put (below_drewN ((HW.out.alloc (by omega) _).alloc (by simp; omega) _) _) (by omega) _, ⟨_, (((HC.out.alloc _).alloc _).drewN _).put _ _, cs_upd hcs HX.out HE.out (by omega)⟩, fun j x' hj hx' => ?_, used_upd HX.out HU.out (by omega)⟩
              rcases Nat.lt_or_ge j k with hjk | hjk
              · exact HA.out j x' hjk hx'
              · obtain rfl : j = k := by omega
                obtain rfl : x = x' := same_get HX.out hx'
                exact ⟨ho, by omega, fun y' hy' _ => by have e := same_get HY.out hy'; subst e; omega⟩
            case measure => simp [intOf]; omega
    · go_wp2
      go_ret
      exact ⟨ret_bool (stOk_all (by have := HL.out; omega) hf (fun j x hj => HA.out j x (by have := HL.out; omega)) (fun a => by have := HU.out a; rwa [List.take_of_length_le (by have := HL.out; omega)] at this)).symm, HW.out⟩

end Go.Proofs.Ytjkeapkpdgfhcaa
