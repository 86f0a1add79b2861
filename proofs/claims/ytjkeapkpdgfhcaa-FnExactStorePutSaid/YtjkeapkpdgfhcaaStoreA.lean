/- Which batches and stores are valid: the contracts of both sides' tests. -/
import Derived.Test.YtjkeapkpdgfhcaaStorePure
set_option linter.all false
namespace Go.Proofs.Ytjkeapkpdgfhcaa
open Go.RowKit

set_option maxHeartbeats 400000 in
theorem l23Batch_any (b : Bt) (w : World) :
    Calls Try.prog 29 #[.agg #[.int .i64 b.d, .int .i64 b.a, .int .i64 b.r, .int .i64 b.s]] w fun e w' => e = .returned (.bool (btOk b)) ∧ w.alloc (.cells #[.int .i64 b.d, .int .i64 b.a, .int .i64 b.r, .int .i64 b.s] 27) = w' := by
  go_enter Try.func29, Try.ntmps29
  go_wp2_with (first | (go_at_call 42; refine (l6In_any _ _ _ _).mono ?_; rintro e w' ⟨rfl, rfl⟩) | (go_at_call 43; refine (l2Digest_any _ _).mono ?_; rintro e w' ⟨rfl, rfl⟩))
  all_goals
    go_ret
    refine ⟨?_, rfl⟩
    unfold btOk
    simp_all

set_option maxHeartbeats 400000 in
theorem bvalid_any (b : Bt) (w : World) :
    Calls Try.prog 22 #[.agg #[.int .i64 b.d, .int .i64 b.a, .int .i64 b.r, .int .i64 b.s]] w fun e w' => e = .returned (.bool (btOk b)) ∧ w.alloc (.cells #[.int .i64 b.d, .int .i64 b.a, .int .i64 b.r, .int .i64 b.s] 27) = w' := by
  go_enter Try.func22, Try.ntmps22
  go_wp2_with (first | (go_at_call 40; refine (isDigest_any _ _).mono ?_; rintro e w' ⟨rfl, rfl⟩) | (go_at_call 31; refine (isAuthor_any _ _).mono ?_; rintro e w' ⟨rfl, rfl⟩) | (go_at_call 41; refine (isRound_any _ _).mono ?_; rintro e w' ⟨rfl, rfl⟩))
  all_goals
    go_ret
    refine ⟨?_, rfl⟩
    unfold btOk
    simp_all [inB] <;> omega

set_option maxHeartbeats 400000 in
theorem l23Used_any (w : World) (B : Nat) (A : Option Addr) (n c : Nat) (l : List Bt) (a : Int) (hr : Reads w B 4 A n (btCells l)) (hn : n ≤ 2000000) :
    Calls Try.prog 30 #[.slice A n c, .int .i64 a] w fun e w' => e = .returned (.int .i64 (usedW l a)) ∧ w = w' := by
  have hl := hr.bt_len
  have HL := hide hl
  have HR := hide hr
  clear hr hl
  go_enter Try.func30, Try.ntmps30
  go_wp2
  go_loop [5, 6] (fun s i => ∃ k : Nat, k ≤ n ∧ i = .int .i64 k ∧ s = .int .i64 (usedW (l.take k) a)) (fun _ i => n - (intOf i).toNat)
  case atStart => exact ⟨0, Nat.zero_le _, rfl, rfl⟩
  case round =>
    obtain ⟨k, hk, rfl, rfl⟩ := hrel
    by_cases hlt : k < n
    · obtain ⟨b, off, x, rfl, hbB, hx, h0, h1, h2, h3⟩ := HR.out.bt hlt
      have HS := hide (usedW_snoc (l.take k) x a)
      have HX := hide (take_snoc l k x hx)
      clear hx
      go_wp2
      all_goals
        go_round
        case rel => exact ⟨k + 1, by omega, by go_num, by rw [HX.out, HS.out]; simp_all⟩
        case measure => simp [intOf]; omega
    · go_wp2
      go_ret
      exact ⟨ret_int (by rw [List.take_of_length_le (by have := HL.out; omega)]), rfl⟩

set_option maxHeartbeats 800000 in
theorem specStoreValid_any (w : World) (A : Option Addr) (n c : Nat) (l : List Bt) (f : Int) (hr : Reads w w.heap.size 4 A n (btCells l)) (hn : n ≤ 2000000) :
    Calls Try.prog 28 #[.agg #[.int .i64 f, .slice A n c]] w fun e w' => e = .returned (.bool (stOk f l)) ∧ Below w.heap.size w w' := by
  have hl := hr.bt_len
  have HL := hide hl
  have HR := hide hr
  clear hr hl
  go_enter Try.func28, Try.ntmps28
  go_wp2
  go_loopw [3] (fun i wr => ∃ k : Nat, k ≤ n ∧ i = .int .i64 k ∧ Box wr w.heap.size 25 #[.int .i64 f, .slice A n c] ∧ Below w.heap.size w wr ∧ (∀ j x, j < k → l[j]? = some x → btOk x = true ∧ f ≤ x.r ∧ usedW l x.a ≤ 30 ∧ ∀ y, l[j - 1]? = some y → 0 < j → y.d < x.d)) (fun i _ => n - (intOf i).toNat)
  case atStart => exact ⟨0, Nat.zero_le _, rfl, Box.new _ _ _, (Below.refl _ _).alloc (Nat.le_refl _) _, fun j x hj => absurd hj (by omega)⟩
  case round =>
    obtain ⟨k, hk, rfl, hbx, hbw, hall⟩ := hrel
    have HB := hide hbx
    have HW := hide hbw
    have HA := hide hall
    clear hbx hbw hall
    have lB := HB.out.lt
    have cB0 := HB.out.cell 0
    have cB1 := HB.out.cell 1
    simp at cB0 cB1
    by_cases hlt : k < n
    · obtain ⟨b, off, x, rfl, hbB, hx, h0, h1, h2, h3⟩ := (HR.out.below HW.out).bt hlt
      have HX := hide hx
      clear hx
      go_wp2
      have kB := fun (y : Kept (wr.heap.size + 1) (wr.alloc (.cells #[.int .i64 x.d, .int .i64 x.a, .int .i64 x.r, .int .i64 x.s] 27))) => y.box (HB.out.alloc _) (by omega)
      have kX := fun (y : Kept (wr.heap.size + 1) (wr.alloc (.cells #[.int .i64 x.d, .int .i64 x.a, .int .i64 x.r, .int .i64 x.s] 27))) => y.box (Box.new wr 27 #[.int .i64 x.d, .int .i64 x.a, .int .i64 x.r, .int .i64 x.s]) (by omega)
      have k0 := fun y => (kB y).cell 0
      have k1 := fun y => (kB y).cell 1
      have x0 := fun y => (kX y).cell 0
      have x1 := fun y => (kX y).cell 1
      have x2 := fun y => (kX y).cell 2
      have x3 := fun y => (kX y).cell 3
      simp at k0 k1 x0 x1 x2 x3
      clear kB kX
      have HK := hide (fun (y : Kept (wr.heap.size + 1) (wr.alloc (.cells #[.int .i64 x.d, .int .i64 x.a, .int .i64 x.r, .int .i64 x.s] 27))) =>
        y.reads (((HR.out.below HW.out).alloc (by omega) (.cells #[.int .i64 x.d, .int .i64 x.a, .int .i64 x.r, .int .i64 x.s] 27)).more (by omega : w.heap.size ≤ wr.heap.size + 1)))
      by_cases ho : btOk x = false
      · refine wp_region_kept (wr.heap.size + 1) (by kernel_rfl) (by kernel_rfl) ?_
        repeat (go_big_quiet_step ((go_at_call 29; exact Calls.kept_alloc (by simp) (l23Batch_any x _))))
        refine wpQuiet_nil ?_
        rintro _ ⟨⟨w2, hb2⟩, rfl⟩
        have HB2 := hide hb2
        clear hb2
        go_wp2
        go_ret
        exact ⟨ret_bool (stOk_no HX.out (by have := HL.out; omega) (.inl ho)).symm, HW.out.trans (((Below.refl _ _).alloc (by omega) _).trans (HB2.out.mono (by omega)))⟩
      replace ho : btOk x = true := by simpa using ho
      by_cases hf : x.r < f
      · refine wp_region_kept (wr.heap.size + 1) (by kernel_rfl) (by kernel_rfl) ?_
        repeat (go_big_quiet_step ((go_at_call 29; exact Calls.kept_alloc (by simp) (l23Batch_any x _))))
        refine wpQuiet_nil ?_
        rintro _ ⟨⟨w2, hb2⟩, rfl⟩
        have HB2 := hide hb2
        clear hb2
        go_wp2
        go_ret
        exact ⟨ret_bool (stOk_no HX.out (by have := HL.out; omega) (.inr (.inl hf))).symm, HW.out.trans (((Below.refl _ _).alloc (by omega) _).trans (HB2.out.mono (by omega)))⟩
      have hf' : decide (x.r < f) = false := by simpa using hf
      by_cases hk0 : k = 0
      · have hk0' : decide ((0 : Int) < (k : Int)) = false := by simp; omega
        by_cases hu : 30 < usedW l x.a
        · refine wp_region_kept (wr.heap.size + 1) (by kernel_rfl) (by kernel_rfl) ?_
          repeat (go_big_quiet_step (((first | (go_at_call 29; exact Calls.kept_alloc (by simp) (l23Batch_any x _)) | (go_at_call 30; exact Calls.kept_same (l23Used_any _ _ _ _ _ l _ (HK.out _) hn))))))
          refine wpQuiet_nil ?_
          rintro _ ⟨⟨w2, hb2⟩, rfl⟩
          have HB2 := hide hb2
          clear hb2
          go_wp2
          go_ret
          exact ⟨ret_bool (stOk_no HX.out (by have := HL.out; omega) (.inr (.inr (.inl hu)))).symm, HW.out.trans (((Below.refl _ _).alloc (by omega) _).trans (HB2.out.mono (by omega)))⟩
        · have hu' : decide (30 < usedW l x.a) = false := by simpa using hu
          refine wp_region_kept (wr.heap.size + 1) (by kernel_rfl) (by kernel_rfl) ?_
          repeat (go_big_quiet_step (((first | (go_at_call 29; exact Calls.kept_alloc (by simp) (l23Batch_any x _)) | (go_at_call 30; exact Calls.kept_same (l23Used_any _ _ _ _ _ l _ (HK.out _) hn))))))
          refine wpQuiet_nil ?_
          rintro _ ⟨⟨w2, hb2⟩, rfl⟩
          have HB2 := hide hb2
          clear hb2
          go_wp2
          go_roundw
          case rel =>
            refine ⟨k + 1, by omega, by go_num, (HB.out.alloc _).below HB2.out (by omega), HW.out.trans (((Below.refl _ _).alloc (by omega) _).trans (HB2.out.mono (by omega))), fun j x' hj hx' => ?_⟩
            rcases Nat.lt_or_ge j k with hjk | hjk
            · exact HA.out j x' hjk hx'
            · obtain rfl : j = k := by omega
              obtain rfl : x = x' := same_get HX.out hx'
              exact ⟨ho, by omega, by omega, fun y hy h0 => by omega⟩
          case measure => simp [intOf]; omega
      · obtain ⟨b', off', y, e', hbB', hy, y0, y1, y2, y3⟩ := (HR.out.below HW.out).bt (show k - 1 < n by omega)
        obtain ⟨rfl, rfl⟩ : b = b' ∧ off = off' := by injection e' with e'; injection e' with e1 e2; exact ⟨e1, e2⟩
        have HY := hide hy
        have z0 := fun (y' : Kept (wr.heap.size + 1) (wr.alloc (.cells #[.int .i64 x.d, .int .i64 x.a, .int .i64 x.r, .int .i64 x.s] 27))) => (y'.ok.cell (p := ⟨b, off + (k - 1) * 4, none⟩) (show b < _ by omega)).trans ((((Below.refl w.heap.size wr).alloc (by omega) _).cell (show b < _ by omega)).trans y0)
        clear hy y0 y1 y2 y3 e'
        have hk1 : 0 < k := by omega
        by_cases hd : x.d ≤ y.d
        · refine wp_region_kept (wr.heap.size + 1) (by kernel_rfl) (by kernel_rfl) ?_
          repeat (go_big_quiet_step (((first | (go_at_call 29; exact Calls.kept_alloc (by simp) (l23Batch_any x _)) | (go_at_call 30; exact Calls.kept_same (l23Used_any _ _ _ _ _ l _ (HK.out _) hn))))))
          refine wpQuiet_nil ?_
          rintro _ ⟨⟨w2, hb2⟩, rfl⟩
          have HB2 := hide hb2
          clear hb2
          go_wp2
          go_ret
          exact ⟨ret_bool (stOk_no HX.out (by have := HL.out; omega) (.inr (.inr (.inr ⟨by omega, y, HY.out, hd⟩)))).symm, HW.out.trans (((Below.refl _ _).alloc (by omega) _).trans (HB2.out.mono (by omega)))⟩
        · have hd' : decide (x.d ≤ y.d) = false := by simpa using hd
          by_cases hu : 30 < usedW l x.a
          · refine wp_region_kept (wr.heap.size + 1) (by kernel_rfl) (by kernel_rfl) ?_
            repeat (go_big_quiet_step (((first | (go_at_call 29; exact Calls.kept_alloc (by simp) (l23Batch_any x _)) | (go_at_call 30; exact Calls.kept_same (l23Used_any _ _ _ _ _ l _ (HK.out _) hn))))))
            refine wpQuiet_nil ?_
            rintro _ ⟨⟨w2, hb2⟩, rfl⟩
            have HB2 := hide hb2
            clear hb2
            go_wp2
            go_ret
            exact ⟨ret_bool (stOk_no HX.out (by have := HL.out; omega) (.inr (.inr (.inl hu)))).symm, HW.out.trans (((Below.refl _ _).alloc (by omega) _).trans (HB2.out.mono (by omega)))⟩
          · have hu' : decide (30 < usedW l x.a) = false := by simpa using hu
            refine wp_region_kept (wr.heap.size + 1) (by kernel_rfl) (by kernel_rfl) ?_
            repeat (go_big_quiet_step (((first | (go_at_call 29; exact Calls.kept_alloc (by simp) (l23Batch_any x _)) | (go_at_call 30; exact Calls.kept_same (l23Used_any _ _ _ _ _ l _ (HK.out _) hn))))))
            refine wpQuiet_nil ?_
            rintro _ ⟨⟨w2, hb2⟩, rfl⟩
            have HB2 := hide hb2
            clear hb2
            go_wp2
            go_roundw
            case rel =>
              refine ⟨k + 1, by omega, by go_num, (HB.out.alloc _).below HB2.out (by omega), HW.out.trans (((Below.refl _ _).alloc (by omega) _).trans (HB2.out.mono (by omega))), fun j x' hj hx' => ?_⟩
              rcases Nat.lt_or_ge j k with hjk | hjk
              · exact HA.out j x' hjk hx'
              · obtain rfl : j = k := by omega
                obtain rfl : x = x' := same_get HX.out hx'
                exact ⟨ho, by omega, by omega, fun y' hy' _ => by have e := same_get HY.out hy'; subst e; omega⟩
            case measure => simp [intOf]; omega
    · go_wp2_with (go_at_call 42; refine (l6In_any _ _ _ _).mono ?_; rintro e w' ⟨rfl, rfl⟩)
      all_goals
        go_ret
        refine ⟨ret_bool ?_, HW.out⟩
        rw [stOk_yes (by have := HL.out; omega) (fun j x hj => HA.out j x (by have := HL.out; omega)), HL.out]
        simp [*] <;> omega

end Go.Proofs.Ytjkeapkpdgfhcaa
