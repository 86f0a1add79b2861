/- Texts of this proof put together: Rd, SxP, Leaf, Lf, Gen, CmPure, Cm, Frame. -/
import Derived.Laws.BitsAllLaws
import Derived.Laws.BitsLemmas
import Derived.IntWalk
import Derived.Test.YtcagfmbboliohaaRows
import Derived.ProofKit
import Derived.Carry
import Derived.DataReads
import Derived.Test.YtcagfmbboliohaaP01
import Derived.Test.YtcagfmbboliohaaP02
import Derived.Test.YtcagfmbboliohaaP03
import Derived.Test.YtcagfmbboliohaaP04
import Derived.Test.YtcagfmbboliohaaP05
import Derived.Test.YtcagfmbboliohaaP06
import Derived.Test.YtcagfmbboliohaaP07
/-! YtcagfmbboliohaaRd -/
set_option linter.all false
namespace Go.Proofs.Ytcagfmbboliohaa
open Go.RowKit

/-- what pick leaves: a number below n (or 0), the reader one step on, nothing else turned -/
def Picked (n : Int) (B g : Nat) (A : Option Addr) (m c : Nat) (zs : List Int) (p : Int) (w : World) (e : Ending) (w' : World) : Prop :=
  ∃ k : Int, 0 ≤ k ∧ (k < n ∨ k = 0) ∧ e = .returned (.int .i64 k) ∧ Rd w' B g A m c zs (p + 1) ∧ Touch g w w' ∧ w.drawn ≤ w'.drawn

theorem Rd.step {w w' : World} {B g : Nat} {A : Option Addr} {m c : Nat} {zs : List Int} {p p' : Int} (h : Rd w B g A m c zs p) (hp' : 0 ≤ p') (hw : ∀ b, b ≠ g → w'.heap[b]? = w.heap[b]?) (hb : ∀ cs, Box w g 63 cs → Box w' g 63 (cs.setIfInBounds 1 (.int .i64 p'))) : Rd w' B g A m c zs p' := by
  obtain ⟨hbox, hn, hr, hz, hp, hB⟩ := h
  refine ⟨hb _ hbox, hn, ⟨hr.1, fun hn => ?_⟩, hz, hp', hB⟩
  obtain ⟨b, off, e, hbB, hc⟩ := hr.2 hn
  exact ⟨b, off, e, hbB, fun j u hu => (World.cell?_of_block (w := w) (a := ⟨b, off + j, none⟩) (hw b (hB hn _ e))).trans (hc j u hu)⟩

theorem i64_xor_ok (x y : Int) (hx : 0 ≤ x) (hx1 : x < 4611686018427387904) (hy : 0 ≤ y) (hy1 : y < 4611686018427387904) : 0 ≤ bits .xor .i64 x y := by
  obtain ⟨a, rfl⟩ := Int.eq_ofNat_of_zero_le hx
  obtain ⟨b, rfl⟩ := Int.eq_ofNat_of_zero_le hy
  have e1 : (BitVec.ofInt 64 (a : Int)).toNat = a := by
    rw [BitVec.ofInt_natCast, BitVec.toNat_ofNat]; exact Nat.mod_eq_of_lt (by omega)
  have e2 : (BitVec.ofInt 64 (b : Int)).toNat = b := by
    rw [BitVec.ofInt_natCast, BitVec.toNat_ofNat]; exact Nat.mod_eq_of_lt (by omega)
  have hlt : a ^^^ b < 2 ^ 63 := Nat.xor_lt_two_pow (by omega) (by omega)
  show 0 ≤ IntKind.i64.wrap ((BitVec.ofInt 64 (a : Int) ^^^ BitVec.ofInt 64 (b : Int)).toNat : Int)
  rw [BitVec.toNat_xor, e1, e2, IntKind.wrap_i64]
  omega

theorem xor_pick (X n : Int) (hX : 0 ≤ X) (hX1 : X < 4611686018427387904) (hn : 1 ≤ n) :
    0 ≤ (bits .xor .i64 X (wrap64 (X.tdiv 64))).tmod n ∧ (bits .xor .i64 X (wrap64 (X.tdiv 64))).tmod n < n := by
  have e : X.tdiv 64 = X / 64 := Int.tdiv_eq_ediv_of_nonneg hX
  have e2 : wrap64 (X.tdiv 64) = X / 64 := by rw [e]; exact IntWalk.wrap64_in _ ⟨by omega, by omega⟩
  rw [e2]
  have h := i64_xor_ok X (X / 64) hX hX1 (by omega) (by omega)
  rw [Int.tmod_eq_emod_of_nonneg h]
  exact ⟨Int.emod_nonneg _ (by omega), Int.emod_lt_of_pos _ (by omega)⟩

theorem pick_sum (q m : Nat) (z y : Int) (hq : (q : Int) ≤ 1000000000000) (hz0 : 0 ≤ z) (hz1 : z ≤ 255) (hy0 : 0 ≤ y) (hy1 : y ≤ 255) :
    0 ≤ wrap64 (z * 131 + y * 1117 + ↑q * 29 + wrap64 (wrap64 ((q : Int) / (m : Int)) * 53)) ∧ wrap64 (z * 131 + y * 1117 + ↑q * 29 + wrap64 (wrap64 ((q : Int) / (m : Int)) * 53)) < 4611686018427387904 := by
  have h1 : 0 ≤ (q : Int) / (m : Int) := Int.ediv_nonneg (by omega) (by omega)
  have h2 : (q : Int) / (m : Int) ≤ q := Int.ediv_le_self _ (by omega)
  rw [IntWalk.wrap64_in ((q : Int) / (m : Int)) ⟨by omega, by omega⟩]
  generalize (q : Int) / (m : Int) = d at *
  rw [IntWalk.wrap64_in (d * 53) ⟨by omega, by omega⟩, IntWalk.wrap64_in _ ⟨by omega, by omega⟩]
  omega

theorem Rd.setp {w : World} {B g : Nat} {A : Option Addr} {m c : Nat} {zs : List Int} {p p' : Int} (h : Rd w B g A m c zs p) (hp' : 0 ≤ p') : Rd (w.setCell ⟨g, 1, none⟩ (.int .i64 p')) B g A m c zs p' :=
  h.step hp' (fun b hb => Below.heap_setCell w ⟨g, 1, none⟩ _ b hb) fun _ hb => hb.put 1 _
theorem Rd.drewN {w : World} {B g : Nat} {A : Option Addr} {m c : Nat} {zs : List Int} {p : Int} (h : Rd w B g A m c zs p) (k : Nat) : Rd (w.drewN k) B g A m c zs p := by
  obtain ⟨hbox, hn, hr, hz, hp, hB⟩ := h
  exact ⟨hbox.drewN k, hn, hr.drewN k, hz, hp, hB⟩

set_option maxHeartbeats 400000 in
theorem pick_any (w : World) (B g : Nat) (A : Option Addr) (m c : Nat) (zs : List Int) (p n : Int) (hr : Rd w B g A m c zs p) (hp : p ≤ 1000000000000) (hn : n ≤ 1000000000000) :
    Calls Try.prog 25 #[.pointer (some ⟨g, 0, none⟩), .int .i64 n] w (Picked n B g A m c zs p w) := by
  have hr0 := hr
  obtain ⟨hbox, hm, hrd, hz, hp0, hBg⟩ := hr
  have HBG := hide hBg
  clear hBg
  obtain ⟨q, rfl⟩ := Int.eq_ofNat_of_zero_le hp0
  have hc0 := hbox.cell 0
  have hc1 := hbox.cell 1
  have hf1 := hbox.frozen 1
  simp at hc0 hc1
  have hlen : zs.length = m := by have := hrd.1; simpa using this
  clear hbox
  have HR := hide (hr0.setp (p' := (q : Int) + 1) (by omega))
  have HT : Touch g w (w.setCell ⟨g, 1, none⟩ (.int .i64 ((q : Int) + 1))) := (Touch.refl w).setCell (.inl rfl) _
  have HTT := hide HT
  clear hr0 HT
  by_cases h1 : n < 1
  · have Hl := hide hlen
    clear hlen hrd hz
    go_enter Try.func25, Try.ntmps25
    go_wp2
    go_ret
    exact ⟨0, by omega, .inr rfl, rfl, HR.out, HTT.out, Nat.le_refl _⟩
  · by_cases hm0 : m = 0
    · have Hl := hide hlen
      clear hlen hrd hz
      have hm1 : ((m : Int) == 0) = true := by simp; omega
      clear hm0
      go_enter Try.func25, Try.ntmps25
      go_wp2
      go_ret
      exact ⟨0, by omega, .inr rfl, rfl, HR.out, HTT.out, Nat.le_refl _⟩
    · obtain ⟨b, off, rfl, hbg, hcs⟩ := hrd.2 (by omega)
      have hne : b ≠ g := HBG.out (by omega) _ rfl
      have hne' : g ≠ b := fun e => hne e.symm
      have hcz : ∀ j, j < m → ∃ z, 0 ≤ z ∧ z ≤ 255 ∧ w.cell? ⟨b, off + j, none⟩ = some (.int .u8 z) := fun j hj => by
        have hj' : zs[j]? = some zs[j] := List.getElem?_eq_getElem (by omega)
        have := hz zs[j] (List.getElem_mem _)
        exact ⟨zs[j], this.1, this.2, hcs j _ (by rw [List.getElem?_map, hj']; rfl)⟩
      have hm1 : ((m : Int) == 0) = false := by simp; omega
      have Hl := hide hlen
      clear hlen hrd hz hcs
      by_cases hpm : q < m
      · obtain ⟨z, hz0, hz1, hz⟩ := hcz q hpm
        clear hcz
        go_enter Try.func25, Try.ntmps25
        go_wp2
        go_ret
        exact ⟨z % n, Int.emod_nonneg _ (by omega), .inl (Int.emod_lt_of_pos _ (by omega)), rfl, HR.out, HTT.out, Nat.le_refl _⟩
      · obtain ⟨z, hz0, hz1, hz⟩ := hcz (q % m) (Nat.mod_lt _ (by omega))
        obtain ⟨y, hy0, hy1, hy⟩ := hcz ((q * 7 + 3) % m) (Nat.mod_lt _ (by omega))
        clear hcz
        have a1 : 0 ≤ (q : Int) % (m : Int) := by omega
        have a2 : (q : Int) % (m : Int) < m := Int.emod_lt_of_pos _ (by omega)
        have a3 : ((q : Int) % (m : Int)).toNat = q % m := by omega
        have b1 : 0 ≤ ((q : Int) * 7 + 3) % (m : Int) := Int.emod_nonneg _ (by omega)
        have b2 : ((q : Int) * 7 + 3) % (m : Int) < m := Int.emod_lt_of_pos _ (by omega)
        have b3 : (((q : Int) * 7 + 3) % (m : Int)).toNat = (q * 7 + 3) % m := by
          have : ((q : Int) * 7 + 3) % (m : Int) = (((q * 7 + 3) % m : Nat) : Int) := by simp
          omega
        go_enter Try.func25, Try.ntmps25
        go_wp2
        go_quiet (fail)
        clear a1 a2 a3 b1 b2 b3
        go_wp2
        go_ret
        have hs := pick_sum q m z y hp hz0 hz1 hy0 hy1
        have hx := xor_pick _ n hs.1 hs.2 (by omega)
        exact ⟨_, hx.1, .inl hx.2, rfl, HR.out.drewN nq, HTT.out.drewN nq, Nat.le_add_right _ _⟩

end Go.Proofs.Ytcagfmbboliohaa
/-! YtcagfmbboliohaaSxP -/
set_option linter.all false

namespace Go.Proofs.Ytcagfmbboliohaa
open Go.RowKit

/-- the reader at block g, at most m steps on -/
def rdH (g : Nat) (m : Int) : Heaplet where
  fp b := b = g
  holds w F := ∃ B A n c zs p, Rd w B g A n c zs p ∧ p ≤ m ∧ (0 < n → ∃ b off, A = some ⟨b, off, none⟩ ∧ F b)
  mono hF h := by
    obtain ⟨B, A, n, c, zs, p, h1, h2, h3⟩ := h
    exact ⟨B, A, n, c, zs, p, h1, h2, fun hn => by obtain ⟨b, off, e, hb⟩ := h3 hn; exact ⟨b, off, e, hF b hb⟩⟩
  stable hk h := by
    obtain ⟨B, A, n, c, zs, p, ⟨q1, q2, q3, q4⟩, h2, h3⟩ := h
    refine ⟨B, A, n, c, zs, p, ⟨(hk g (.inl rfl)).trans q1, q2, ⟨q3.1, fun hn => ?_⟩, q4⟩, h2, h3⟩
    obtain ⟨b, off, e, hb, hc⟩ := q3.2 hn
    obtain ⟨b', off', e', hb'⟩ := h3 hn
    rw [e] at e'
    injection e' with e'
    injection e' with e1 e2
    subst e1
    exact ⟨b, off, e, hb, fun j u hu => (World.cell?_of_block (hk b (.inr hb'))).trans (hc j u hu)⟩

theorem callable_of {P : Program} {f : FuncId} {fn : Func} (hf : P.funcs[f]? = some fn) (hn : (fn.name == "runtime.NumGoroutine") = false) (hb : fn.body.isNone = false) : callable P f := ⟨fn, hf, hn, hb⟩

/-- what pick leaves -/
def PickPost (n : Int) (g : Nat) (m : Int) (r : SV) (N : List Hp) (p' : Hp) : Prop := (∃ k : Int, 0 ≤ k ∧ (k < n ∨ k = 0) ∧ r = .i k) ∧ N = [] ∧ p' = .cust (rdH g (m + 1))

theorem pick_c (g : Nat) (m n : Int) (hm : m ≤ 1000000000000) (hn : n ≤ 1000000000000) : SMut Try.prog 25 [.val (.pointer (some ⟨g, 0, none⟩)), .i n] (.cust (rdH g m)) (PickPost n g m) := ⟨fun R => by
  refine ⟨callable_of Try.func25 (by kernel_rfl) (by kernel_rfl), fun w F vs hs hv => ?_⟩
  match vs, hv with
  | [v1, v2], ⟨h1, h2, _⟩ =>
    simp only [Has] at h1 h2
    subst h1
    subst h2
    obtain ⟨B, A, k, c, zs, p, hR, hp, hA⟩ := hs.holds _ List.mem_cons_self
    refine (pick_any w B g A k c zs p n hR (by omega) hn).mono ?_
    rintro e w' ⟨q, hq0, hq1, rfl, hR', hT, hdr⟩
    have hb : ∀ b, b < w.heap.size → ¬ (Hp.cust (rdH g m)).fp b → w'.heap[b]? = w.heap[b]? := fun b hb hne => hT.block b hb fun e => hne (by injection e)
    refine ⟨_, rfl, .i q, F, [.cust (rdH g (m + 1)), .cust R], ⟨[], _, rfl, ⟨q, hq0, hq1, rfl⟩, rfl, rfl⟩, ⟨hT.os, hT.tape, hT.output, hT.size, fun b hF => hb b (hs.lt b hF) fun hf => (hs.fp _ List.mem_cons_self b hf).2 hF, hdr⟩, fun _ h => h, ?_, rfl⟩
    refine hs.turn hT.size hb ⟨B, A, k, c, zs, p + 1, hR', by omega, hA⟩ fun b hb' => ?_
    have := (hs.fp _ List.mem_cons_self b hb').1
    exact ⟨Nat.lt_of_lt_of_le this hT.size, .inl hb'⟩⟩

theorem rd_weak {w : World} {F : Nat → Prop} {g : Nat} {m m' : Int} (hm : m ≤ m') (h : (Hp.cust (rdH g m)).holds w F) : (Hp.cust (rdH g m')).holds w F := by
  obtain ⟨B, A, n, c, zs, p, h1, h2, h3⟩ := h
  exact ⟨B, A, n, c, zs, p, h1, by omega, h3⟩
theorem Fin.rd {r : SV} {A : List Hp} {g : Nat} {m1 m2 : Int} {R : Heaplet} {Φ : SV → List Hp → Hp → Prop} (hm : m1 ≤ m2) (h : Φ r [] (.cust (rdH g m2))) :
    Fin r (A ++ [.cust (rdH g m1), .cust R]) (fun r H' => ∃ N p', H' = N ++ [p', .cust R] ∧ Φ r N p') :=
  ⟨⟨r, [.cust (rdH g m2), .cust R], fun w F v hs hv => ⟨F, fun _ h => h, (hs.dropN (A := A)).turn (Nat.le_refl _) (fun _ _ _ => rfl) (rd_weak hm ((hs.dropN (A := A)).holds _ List.mem_cons_self)) fun b hb => ⟨((hs.dropN (A := A)).fp _ List.mem_cons_self b hb).1, .inl hb⟩, hv⟩, [], _, rfl, h⟩⟩
theorem Fin.rdA {n : Nat} {f f' : Nat → SV} {A : List Hp} {g : Nat} {m1 m2 : Int} {R : Heaplet} {Φ : SV → List Hp → Hp → Prop} (hf : ∀ k, k < n → f k = f' k) (hm : m1 ≤ m2) (h : Φ (.agg n f') [] (.cust (rdH g m2))) :
    Fin (.agg n f) (A ++ [.cust (rdH g m1), .cust R]) (fun r H' => ∃ N p', H' = N ++ [p', .cust R] ∧ Φ r N p') := by
  obtain ⟨r', H', he, hK⟩ := (Fin.rd (A := A) (R := R) hm h).h
  exact ⟨⟨r', H', fun w F v hs hv => he w F v hs (hv.agg fun k hk v hv => by rw [← hf k hk]; exact hv), hK⟩⟩
theorem eq2 {f g : Nat → SV} (h0 : f 0 = g 0) (h1 : f 1 = g 1) : ∀ k, k < 2 → f k = g k := all_lt_succ h1 (all_lt_succ h0 all_lt_zero)
theorem eq3 {f g : Nat → SV} (h0 : f 0 = g 0) (h1 : f 1 = g 1) (h2 : f 2 = g 2) : ∀ k, k < 3 → f k = g k := all_lt_succ h2 (eq2 h0 h1)
theorem eq4 {f g : Nat → SV} (h0 : f 0 = g 0) (h1 : f 1 = g 1) (h2 : f 2 = g 2) (h3 : f 3 = g 3) : ∀ k, k < 4 → f k = g k := all_lt_succ h3 (eq3 h0 h1 h2)
/-- a number between lo and hi was drawn, in at most d steps -/
def DrewI (lo hi d : Int) (g : Nat) (m : Int) (r : SV) (N : List Hp) (p' : Hp) : Prop := (∃ k : Int, lo ≤ k ∧ k ≤ hi ∧ r = .i k) ∧ N = [] ∧ p' = .cust (rdH g (m + d))
theorem pick3_c (g : Nat) (m : Int) (hm : m ≤ 1000000000000) : SMut Try.prog 25 [.val (.pointer (some ⟨g, 0, none⟩)), .i 3] (.cust (rdH g m)) fun r N p' => (r = .i 0 ∨ r = .i 1 ∨ r = .i 2) ∧ N = [] ∧ p' = .cust (rdH g (m + 1)) :=
  ⟨fun R => ((pick_c g m 3 hm (by omega)).h R).mono fun r H' ⟨N, p', e, ⟨k, h0, h1, hr⟩, hN, hp⟩ => ⟨N, p', e, by
    rcases (by omega : k = 0 ∨ k = 1 ∨ k = 2) with rfl | rfl | rfl
    · exact .inl hr
    · exact .inr (.inl hr)
    · exact .inr (.inr hr), hN, hp⟩⟩
theorem pick4_c (g : Nat) (m : Int) (hm : m ≤ 1000000000000) : SMut Try.prog 25 [.val (.pointer (some ⟨g, 0, none⟩)), .i 4] (.cust (rdH g m)) fun r N p' => (r = .i 0 ∨ r = .i 1 ∨ r = .i 2 ∨ r = .i 3) ∧ N = [] ∧ p' = .cust (rdH g (m + 1)) :=
  ⟨fun R => ((pick_c g m 4 hm (by omega)).h R).mono fun r H' ⟨N, p', e, ⟨k, h0, h1, hr⟩, hN, hp⟩ => ⟨N, p', e, by
    rcases (by omega : k = 0 ∨ k = 1 ∨ k = 2 ∨ k = 3) with rfl | rfl | rfl | rfl
    · exact .inl hr
    · exact .inr (.inl hr)
    · exact .inr (.inr (.inl hr))
    · exact .inr (.inr (.inr hr)), hN, hp⟩⟩
def u8F (z : Int) : Nat → SV := fun _ => .val (.int .u8 z)
end Go.Proofs.Ytcagfmbboliohaa
/-! YtcagfmbboliohaaLeaf -/
set_option linter.all false
namespace Go.Proofs.Ytcagfmbboliohaa
open Go.RowKit

/-- n lies between lo and hi -/
def inB (n lo hi : Int) : Bool := decide (lo ≤ n) && decide (n ≤ hi)
theorem inB_true {n lo hi : Int} : inB n lo hi = true ↔ lo ≤ n ∧ n ≤ hi := by simp [inB]
theorem inB_false {n lo hi : Int} : inB n lo hi = false ↔ n < lo ∨ hi < n := by
  rw [← Bool.not_eq_true, inB_true]; omega

set_option maxHeartbeats 400000 in
theorem l6In_any (n lo hi : Int) (w : World) :
    Calls Try.prog 47 #[.int .i64 n, .int .i64 lo, .int .i64 hi] w fun e w' => e = .returned (.bool (inB n lo hi)) ∧ w = w' := by
  go_enter Try.func47, Try.ntmps47
  go_wp2
  all_goals
    go_ret
    refine ⟨?_, rfl⟩
    unfold inB
    simp_all <;> omega

set_option maxHeartbeats 400000 in
theorem isDigest_any (n : Int) (w : World) :
    Calls Try.prog 44 #[.int .i64 n] w fun e w' => e = .returned (.bool (inB n 0 990)) ∧ w = w' := by
  go_enter Try.func44, Try.ntmps44
  go_wp2
  all_goals
    go_ret
    refine ⟨?_, rfl⟩
    unfold inB
    simp_all <;> omega

set_option maxHeartbeats 400000 in
theorem l2Digest_any (n : Int) (w : World) :
    Calls Try.prog 48 #[.int .i64 n] w fun e w' => e = .returned (.bool (inB n 0 990)) ∧ w = w' := by
  go_enter Try.func48, Try.ntmps48
  go_wp2_with (go_at_call 47; refine (l6In_any _ _ _ _).mono ?_; rintro e w' ⟨rfl, rfl⟩)
  go_ret
  exact ⟨rfl, rfl⟩

end Go.Proofs.Ytcagfmbboliohaa
/-! YtcagfmbboliohaaLf -/
set_option linter.all false
namespace Go.Proofs.Ytcagfmbboliohaa
open Go.RowKit

theorem isDigest_c (n : Int) : SRet Try.prog 44 [.i n] (· = .b (inB n 0 990)) := ⟨fun R => by
  refine SCalls.enter tt_ok Try.func44 (by kernel_rfl) rfl [(900, .cust R)] rfl (argF _) (fun w F v k h => h) (by simp) ?_
  repeat' (first | (with_reducible first | refine HT.seq ?_ | refine HT.block ?_ | refine Br.not ?_) | ((with_reducible first | refine HT.region tt_ok ?_ | refine HT.drawn tt_ok (by kernel_rfl) (by decide +kernel) ?_ | refine HT.drawnL tt_ok (by kernel_rfl) (by decide +kernel) ?_ | refine HT.cond ?_ | refine HT.ret ?_ | refine HT.skip ?_ | refine HT.exit ?_ | refine Br.tt ?_ | refine Br.ff ?_); conv => whnf) | ((with_reducible first | refine Br.dec (fun hc => ?_) (fun hc => ?_) | refine Br.eq (fun hc => ?_) (fun hc => ?_) | refine Br.ne (fun hc => ?_) (fun hc => ?_)) <;> (first | (exfalso; omega) | conv => whnf)) | ((with_reducible first | refine Br.ttE (by decide) ?_ | refine Br.ffE (by decide) ?_ | refine Br.mk (fun hc => ?_) (fun hc => ?_) | refine Chk.mk (by first | omega | with_reducible rfl | (refine ⟨rfl, ?_⟩; omega) | decide | exact ⟨rfl, by omega, by omega, rfl⟩ | exact ⟨by assumption, rfl, by omega, by omega⟩) ?_ | refine Ar.fit (by omega) ?_ | refine Eqv.shr1 ?_ | refine Ar.u64 (by omega) ?_) <;> conv => whnf) | (with_reducible exact trivial) | ((with_reducible refine And.intro ?_ ?_) <;> conv => whnf) | (intro gn; conv => whnf))
  all_goals refine Fin.pure (A := []) (sv_b ?_)
  all_goals (rw [Bool.eq_iff_iff]; simp only [inB, Bool.and_eq_true, decide_eq_true_eq, Bool.false_eq_true, false_iff]; omega)⟩
theorem l6In_c (n lo hi : Int) : SRet Try.prog 47 [.i n, .i lo, .i hi] (· = .b (inB n lo hi)) := ⟨fun R => by
  refine SCalls.enter tt_ok Try.func47 (by kernel_rfl) rfl [(900, .cust R)] rfl (argF _) (fun w F v k h => h) (by simp) ?_
  repeat' (first | (with_reducible first | refine HT.seq ?_ | refine HT.block ?_ | refine Br.not ?_) | ((with_reducible first | refine HT.region tt_ok ?_ | refine HT.drawn tt_ok (by kernel_rfl) (by decide +kernel) ?_ | refine HT.drawnL tt_ok (by kernel_rfl) (by decide +kernel) ?_ | refine HT.cond ?_ | refine HT.ret ?_ | refine HT.skip ?_ | refine HT.exit ?_ | refine Br.tt ?_ | refine Br.ff ?_); conv => whnf) | ((with_reducible first | refine Br.dec (fun hc => ?_) (fun hc => ?_) | refine Br.eq (fun hc => ?_) (fun hc => ?_) | refine Br.ne (fun hc => ?_) (fun hc => ?_)) <;> (first | (exfalso; omega) | conv => whnf)) | ((with_reducible first | refine Br.ttE (by decide) ?_ | refine Br.ffE (by decide) ?_ | refine Br.mk (fun hc => ?_) (fun hc => ?_) | refine Chk.mk (by first | omega | with_reducible rfl | (refine ⟨rfl, ?_⟩; omega) | decide | exact ⟨rfl, by omega, by omega, rfl⟩ | exact ⟨by assumption, rfl, by omega, by omega⟩) ?_ | refine Ar.fit (by omega) ?_ | refine Eqv.shr1 ?_ | refine Ar.u64 (by omega) ?_) <;> conv => whnf) | (with_reducible exact trivial) | ((with_reducible refine And.intro ?_ ?_) <;> conv => whnf) | (intro gn; conv => whnf))
  all_goals refine Fin.pure (A := []) (sv_b ?_)
  all_goals (rw [Bool.eq_iff_iff]; simp only [inB, Bool.and_eq_true, decide_eq_true_eq, Bool.false_eq_true, false_iff]; omega)⟩
theorem l2Digest_c (n : Int) : SRet Try.prog 48 [.i n] (· = .b (inB n 0 990)) := ⟨fun R => by
  refine SCalls.enter tt_ok Try.func48 (by kernel_rfl) rfl [(900, .cust R)] rfl (argF _) (fun w F v k h => h) (by simp) ?_
  repeat' (first | (with_reducible first | refine HT.seq ?_ | refine HT.block ?_ | refine Br.not ?_) | ((with_reducible first | refine HT.region tt_ok ?_ | refine HT.drawn tt_ok (by kernel_rfl) (by decide +kernel) ?_ | refine HT.drawnL tt_ok (by kernel_rfl) (by decide +kernel) ?_ | refine HT.cond ?_ | refine HT.ret ?_ | refine HT.skip ?_ | refine HT.exit ?_ | refine Br.tt ?_ | refine Br.ff ?_); conv => whnf) | ((with_reducible first | refine Br.dec (fun hc => ?_) (fun hc => ?_) | refine Br.eq (fun hc => ?_) (fun hc => ?_) | refine Br.ne (fun hc => ?_) (fun hc => ?_)) <;> (first | (exfalso; omega) | conv => whnf)) | ((with_reducible first | refine Br.ttE (by decide) ?_ | refine Br.ffE (by decide) ?_ | refine Br.mk (fun hc => ?_) (fun hc => ?_) | refine Chk.mk (by first | omega | with_reducible rfl | (refine ⟨rfl, ?_⟩; omega) | decide | exact ⟨rfl, by omega, by omega, rfl⟩ | exact ⟨by assumption, rfl, by omega, by omega⟩) ?_ | refine Ar.fit (by omega) ?_ | refine Eqv.shr1 ?_ | refine Ar.u64 (by omega) ?_) <;> conv => whnf) | ((first | refine CallN.ret1 (l6In_c _ _ _) ?_) <;> conv => whnf) | (with_reducible exact trivial) | ((with_reducible refine And.intro ?_ ?_) <;> conv => whnf) | (intro gn; conv => whnf))
  exact Fin.pure (A := []) rfl⟩

/-! ### small laws -/
theorem dall_true {n : Nat} {p : Nat → Prop} [DecidablePred p] (h : ∀ j, j < n → p j) : decide (∀ j, j < n → p j) = true := decide_eq_true h
theorem dall_false {n k : Nat} {p : Nat → Prop} [DecidablePred p] (hk : k < n) (hp : ¬ p k) : decide (∀ j, j < n → p j) = false := decide_eq_false fun h => hp (h k hk)
theorem Fin.pureS {r : SV} {H : List Hp} {R : Heaplet} {Φ : SV → Prop} (hs : List.Sublist [.cust R] H) (h : Φ r) : Fin r H (fun r H' => H' = [.cust R] ∧ Φ r) :=
  ⟨⟨r, [.cust R], fun w F v hw hv => ⟨F, fun _ h => h, ⟨fun p hp => hw.holds p (hs.subset hp), fun p hp => hw.fp p (hs.subset hp), hw.apart.sublist hs, hw.lt⟩, hv⟩, rfl, h⟩⟩
theorem SRet.bt {P : Program} {f : FuncId} {ss : List SV} {β : Bool} (h : SRet P f ss (· = .b β)) (hb : β = true) : SRet P f ss (· = .b true) := hb ▸ h
theorem SRet.bf {P : Program} {f : FuncId} {ss : List SV} {β : Bool} (h : SRet P f ss (· = .b β)) (hb : β = false) : SRet P f ss (· = .b false) := hb ▸ h
theorem SRet.imp {P : Program} {f : FuncId} {ss : List SV} {Φ Ψ : SV → Prop} (h : SRet P f ss Φ) (hi : ∀ r, Φ r → Ψ r) : SRet P f ss Ψ := ⟨fun R => (h.h R).mono fun r H' ⟨e, hΦ⟩ => ⟨e, hi r hΦ⟩⟩
end Go.Proofs.Ytcagfmbboliohaa
/-! YtcagfmbboliohaaGen -/
set_option linter.all false
namespace Go.Proofs.Ytcagfmbboliohaa
open Go.RowKit

/-- one piece told by another -/
structure Hp.Sub (p p' : Hp) : Prop where
  fp : ∀ b, p'.fp b → p.fp b
  holds : ∀ w F, p.holds w F → p'.holds w F
theorem Hp.Sub.refl (p : Hp) : p.Sub p := ⟨fun _ h => h, fun _ _ h => h⟩
theorem Hp.Sub.box {g n : Nat} {t : TypeId} {f f' : Nat → SV} (h : ∀ j, j < n → f j = f' j) : (Hp.box g t n f).Sub (.box g t n f') :=
  ⟨fun _ h => h, fun w F ⟨cs, a, b, c⟩ => ⟨cs, a, b, fun j hj => by have := c j hj; rw [h j hj] at this; exact this⟩⟩
theorem Hp.Sub.row {n sz : Nat} {v : Value} {e : TypeId} {f f' : Nat → Nat → SV} (h : ∀ i j, i < n → j < sz → f i j = f' i j) : (Hp.row v e sz n f).Sub (.row v e sz n f') :=
  ⟨fun _ h => h, fun w F ⟨xs, a, c⟩ => ⟨xs, a, fun i j hi hj => by have := c i j hi hj; rw [h i j hi hj] at this; exact this⟩⟩
def PLe : Hpl → Hpl → Prop
  | x :: L, y :: L' => x.2.Sub y.2 ∧ PLe L L'
  | [], [] => True
  | _, _ => False
theorem PLe.refl : ∀ L, PLe L L
  | [] => trivial
  | _ :: L => ⟨.refl _, PLe.refl L⟩
theorem PLe.cons {k : Nat} {p p' : Hp} {L L' : Hpl} (h : p.Sub p') (t : PLe L L') : PLe ((k, p) :: L) ((k, p') :: L') := ⟨h, t⟩
theorem PLe.mem : ∀ {L L' : Hpl}, PLe L L' → ∀ q ∈ L'.map Prod.snd, ∃ p ∈ L.map Prod.snd, p.Sub q
  | [], [], _, _, h => by cases h
  | x :: L, y :: L', h, q, hq => by
    rcases List.mem_cons.1 hq with rfl | hq
    · exact ⟨_, List.mem_cons_self, h.1⟩
    · obtain ⟨p, hp, hs⟩ := PLe.mem h.2 q hq
      exact ⟨p, List.mem_cons_of_mem _ hp, hs⟩
  | [], _ :: _, h, _, _ => h.elim
  | _ :: _, [], h, _, _ => h.elim
theorem PLe.apart : ∀ {L L' : Hpl}, PLe L L' → (L.map Prod.snd).Pairwise (fun p q => ∀ b, p.fp b → ¬ q.fp b) → (L'.map Prod.snd).Pairwise (fun p q => ∀ b, p.fp b → ¬ q.fp b)
  | [], [], _, _ => .nil
  | x :: L, y :: L', h, hp => by
    obtain ⟨h1, h2⟩ := List.pairwise_cons.1 hp
    refine List.pairwise_cons.2 ⟨fun q hq b hb hbq => ?_, PLe.apart h.2 h2⟩
    obtain ⟨p, hp, hs⟩ := h.2.mem q hq
    exact h1 p hp b (h.1.fp b hb) (hs.fp b hbq)
  | [], _ :: _, h, _ => h.elim
  | _ :: _, [], h, _ => h.elim
theorem PLe.hle {L L' : Hpl} (h : PLe L L') : HLe L L' := fun w F hs => ⟨F, fun _ h => h, ⟨fun q hq => by
    obtain ⟨p, hp, hsb⟩ := h.mem q hq
    exact hsb.holds _ _ (hs.holds p hp), fun q hq b hb => by
    obtain ⟨p, hp, hsb⟩ := h.mem q hq
    exact hs.fp p hp b (hsb.fp b hb), h.apart hs.apart, hs.lt⟩⟩
/-- the heap of a walk, told anew -/
theorem HT.swapL {P : Program} {n : Nat} {c : Code} {Q : Exit → St → Prop} {σ : Fr} {L L' : Hpl} {nx : Nat} (h : PLe L L') (k : HT P n c Q ⟨σ, L', nx⟩) : HT P n c Q ⟨σ, L, nx⟩ :=
  HT.le (fun n _ F a w hs => by
    obtain ⟨F', hF, hh⟩ := h.hle w F hs.heap
    exact ⟨F', hF, hs.size, hs.defers, fun k => (hs.fr k).mono hF, hh⟩) k

theorem HT.loopS {P : Program} {n : Nat} {c : Code} {Q : Exit → St → Prop} {s : St} {ι : Type} (ks : List Nat) (chg : ι → List (Nat × SV)) (J : ι → Prop) (μ : ι → Nat) (i0 : ι) (hJ : J i0) (h0 : MatchL s.σ (chg i0))
    (h : fcK s.L fun L => ∀ i, J i → HT P n c (Qloop ks s.σ chg (fun _ => L) J μ i Q) ⟨updL (keepF ks s.σ) (chg i), L, s.nx⟩) : HT P n (.loop c) Q s := by
  rw [fcK_eq] at h
  exact HT.loopK ks chg (fun _ => s.L) s.nx J μ i0 hJ h0 (HLe.refl _) h

theorem HSat.sub {w : World} {F : Nat → Prop} {H H' : List Hp} (h : HSat w F H) (s : H'.Sublist H) : HSat w F H' :=
  ⟨fun p hp => h.holds p (s.subset hp), fun p hp => h.fp p (s.subset hp), h.apart.sublist s, h.lt⟩
theorem HSat.one {w : World} {F : Nat → Prop} {p q : Hp} {H : List Hp} (h : HSat w F (p :: H)) (s : p.Sub q) : HSat w F (q :: H) :=
  h.turn (Nat.le_refl _) (fun _ _ _ => rfl) (s.holds _ _ (h.holds _ List.mem_cons_self)) fun b hb => ⟨(h.fp _ List.mem_cons_self b (s.fp b hb)).1, .inl (s.fp b hb)⟩
/-- the keys of a result: those that own, by m -/
def SV.rekey (m : Nat → Nat) : SV → SV
  | .ptr k g o => .ptr (m k) g o
  | .own k v => .own (m k) v
  | .rp k g sz i o => .rp (m k) g sz i o
  | .vw k g sz i n c => .vw (m k) g sz i n c
  | .agg n f => .agg n (litF (tabF (fun k => (f k).rekey m) n 0))
  | .tup n f => .tup n (litF (tabF (fun k => (f k).rekey m) n 0))
  | .ifc t s => .ifc t (s.rekey m)
  | s => s
theorem Has.rekey {w : World} {F : Nat → Prop} {m : Nat → Nat} : ∀ {s : SV} {v : Value}, Has w F s v → Has w F (s.rekey m) v
  | .any, _, h => h
  | .val _, _, h => h
  | .agg n f, _, ⟨vs, e, hn, h⟩ => ⟨vs, e, hn, fun k hk => by
      have := tabF_get (f := fun k => (f k).rekey m) n 0 k hk
      rw [Nat.zero_add] at this
      show Has w F ((tabF (fun k => (f k).rekey m) n 0).getD k .any) _
      rw [this]
      exact Has.rekey (h k hk)⟩
  | .tup n f, _, ⟨vs, e, hn, h⟩ => ⟨vs, e, hn, fun k hk => by
      have := tabF_get (f := fun k => (f k).rekey m) n 0 k hk
      rw [Nat.zero_add] at this
      show Has w F ((tabF (fun k => (f k).rekey m) n 0).getD k .any) _
      rw [this]
      exact Has.rekey (h k hk)⟩
  | .sl _ _ _, _, h => h
  | .ref _ _ _ _, _, h => h
  | .pp _ _, _, h => h
  | .ptr _ _ _, _, h => h
  | .own _ _, _, h => h
  | .rp _ _ _ _ _, _, h => h
  | .vw _ _ _ _ _ _, _, h => h
  | .ifc _ _, _, ⟨v, e, h⟩ => ⟨v, e, Has.rekey h⟩
  | .fn _ _ _, _, h => h
/-- nil owns a row of no elements -/
theorem HSat.nil {w : World} {F : Nat → Prop} {H : List Hp} (h : HSat w F H) (e : TypeId) (sz : Nat) (f : Nat → Nat → SV) : HSat w F (.row (.slice none 0 0) e sz 0 f :: H) :=
  ⟨fun p hp => by
    rcases List.mem_cons.1 hp with rfl | hp
    · exact ⟨[], World.ownsRow_nil _ _ _ _, fun i k hi => absurd hi (by omega)⟩
    · exact h.holds p hp,
   fun p hp b hb => by
    rcases List.mem_cons.1 hp with rfl | hp
    · cases hb
    · exact h.fp p hp b hb,
   List.pairwise_cons.2 ⟨fun q _ b hb => (by cases hb), h.apart⟩, h.lt⟩
theorem Fin.nil {r r' : SV} {e : TypeId} {sz : Nat} {f : Nat → Nat → SV} {H : List Hp} {R : Heaplet} {Φ : SV → List Hp → Prop} (hs : List.Sublist [.cust R] H) (hr : ∀ w F x, Has w F r x → Has w F r' x) (h : Φ r' [.row (.slice none 0 0) e sz 0 f]) : Fin r H (fun r H' => ∃ N, H' = N ++ [.cust R] ∧ Φ r N) :=
  ⟨⟨r', [.row (.slice none 0 0) e sz 0 f, .cust R], fun w F x hw hv => ⟨F, fun _ h => h, (hw.sub hs).nil e sz f, hr w F x hv⟩, [_], rfl, h⟩⟩
theorem Fin.row {r : SV} {v : Value} {e : TypeId} {sz n n' : Nat} {f f' : Nat → Nat → SV} {H : List Hp} {R : Heaplet} {Φ : SV → List Hp → Prop} (hs : List.Sublist [.row v e sz n f, .cust R] H) (hn : n = n') (hf : ∀ i j, i < n → j < sz → f i j = f' i j) (h : Φ (r.rekey fun _ => 0) [.row v e sz n' f']) : Fin r H (fun r H' => ∃ N, H' = N ++ [.cust R] ∧ Φ r N) := by
  subst hn
  exact ⟨⟨r.rekey fun _ => 0, [.row v e sz n f', .cust R], fun w F x hw hv => ⟨F, fun _ h => h, (hw.sub hs).one (.row hf), hv.rekey⟩, [_], rfl, h⟩⟩
theorem HLe.sub {L L' : Hpl} (h : (L'.map Prod.snd).Sublist (L.map Prod.snd)) : HLe L L' := fun w F hs => ⟨F, fun _ h => h, hs.sub h⟩
theorem HLe.swap (x y : Nat × Hp) (L : Hpl) : HLe (x :: y :: L) (y :: x :: L) := fun w F hs => ⟨F, fun _ h => h, hs.perm (List.Perm.swap _ _ _)⟩

theorem Hp.Sub.rd {g : Nat} {m m' : Int} (hm : m ≤ m') : (Hp.cust (rdH g m)).Sub (.cust (rdH g m')) := ⟨fun _ h => h, fun _ _ h => rd_weak hm h⟩
theorem Hp.Sub.boxH {g n : Nat} {t : TypeId} {f f' : Nat → SV} (h : ∀ j, j < n → ∀ w F x, Has w F (f j) x → Has w F (f' j) x) : (Hp.box g t n f).Sub (.box g t n f') :=
  ⟨fun _ h => h, fun w F ⟨cs, a, b, c⟩ => ⟨cs, a, b, fun j hj => ⟨(c j hj).1, h j hj _ _ _ (c j hj).2⟩⟩⟩
theorem HLe.of_sub {L L' : Hpl} (ps : List Hp) (h : ps.Sublist (L.map Prod.snd)) (h2 : ∀ w F, HSat w F ps → HSat w F (L'.map Prod.snd)) : HLe L L' := fun w F hs => ⟨F, fun _ h => h, h2 w F (hs.sub h)⟩
theorem HSat.ple {w : World} {F : Nat → Prop} (L L' : Hpl) (h : PLe L L') (hs : HSat w F (L.map Prod.snd)) : HSat w F (L'.map Prod.snd) := by
  exact ⟨fun q hq => by
    obtain ⟨p, hp, hsb⟩ := h.mem q hq
    exact hsb.holds _ _ (hs.holds p hp), fun q hq b hb => by
    obtain ⟨p, hp, hsb⟩ := h.mem q hq
    exact hs.fp p hp b (hsb.fp b hb), h.apart hs.apart, hs.lt⟩
theorem has2 {f f' : Nat → SV} (h0 : ∀ w F x, Has w F (f 0) x → Has w F (f' 0) x) (h1 : ∀ w F x, Has w F (f 1) x → Has w F (f' 1) x) : ∀ j, j < 2 → ∀ w F x, Has w F (f j) x → Has w F (f' j) x := fun j hj => by
  rcases (by omega : j = 0 ∨ j = 1) with rfl | rfl <;> assumption
theorem Fin.rowRd {r : SV} {v : Value} {e : TypeId} {sz n n' : Nat} {f f' : Nat → Nat → SV} {g : Nat} {m1 m2 : Int} {H : List Hp} {R : Heaplet} {Φ : SV → List Hp → Hp → Prop} (hs : List.Sublist [.row v e sz n f, .cust (rdH g m1), .cust R] H) (hm : m1 ≤ m2) (hn : n = n') (hf : ∀ i j, i < n → j < sz → f i j = f' i j)
    (h : Φ (r.rekey fun _ => 0) [.row v e sz n' f'] (.cust (rdH g m2))) : Fin r H (fun r H' => ∃ N p', H' = N ++ [p', .cust R] ∧ Φ r N p') := by
  subst hn
  exact ⟨⟨r.rekey fun _ => 0, [.row v e sz n f', .cust (rdH g m2), .cust R], fun w F x hw hv => ⟨F, fun _ h => h, HSat.ple [(0, .row v e sz n f), (0, .cust (rdH g m1)), (0, .cust R)] [(0, .row v e sz n f'), (0, .cust (rdH g m2)), (0, .cust R)] (.cons (.row hf) (.cons (.rd hm) (.cons (.refl _) trivial))) (hw.sub hs), hv.rekey⟩, [_], _, rfl, h⟩⟩


/-- the heap, to be looked at -/
def ShowL (_ : Hpl) : Prop := True
theorem HT.see {P : Program} {n : Nat} {c : Code} {Q : Exit → St → Prop} {s : St} (h : fcK s.L fun L => ShowL L → HT P n c Q s) : HT P n c Q s := by
  rw [fcK_eq] at h
  exact h trivial
/-! ### picking -/
/-- the pieces of H', each told by one of H -/
inductive PPick : List Hp → List Hp → Prop
  | nil (H : List Hp) : PPick H []
  | cons {H H' : List Hp} {p q : Hp} (i : Nat) (h : H[i]? = some p) (s : p.Sub q) (r : PPick (H.eraseIdx i) H') : PPick H (q :: H')
theorem perm_erase {H : List Hp} {i : Nat} {p : Hp} (h : H[i]? = some p) : H.Perm (p :: H.eraseIdx i) := by
  have hlt : i < H.length := (List.getElem?_eq_some_iff.1 h).1
  have hget : H[i] = p := (List.getElem?_eq_some_iff.1 h).2
  have hperm : (H.set i p).Perm (p :: H.eraseIdx i) := by
    rw [List.set_eq_take_append_cons_drop, if_pos hlt, List.eraseIdx_eq_take_drop_succ]
    exact List.perm_middle
  subst hget
  rwa [List.set_getElem_self] at hperm
theorem PPick.fp {H H' : List Hp} (h : PPick H H') : ∀ q ∈ H', ∀ b, q.fp b → ∃ p ∈ H, p.fp b := by
  induction h with
  | nil H => intro q hq; cases hq
  | cons i h s r ih =>
    intro q hq b hb
    rcases List.mem_cons.1 hq with rfl | hq
    · exact ⟨_, List.mem_of_getElem? h, s.fp b hb⟩
    · obtain ⟨p, hp, hb⟩ := ih q hq b hb
      exact ⟨p, List.mem_of_mem_eraseIdx hp, hb⟩
theorem PPick.sat {w : World} {F : Nat → Prop} {H H' : List Hp} (h : PPick H H') : HSat w F H → HSat w F H' := by
  induction h with
  | nil H => intro hs; exact ⟨fun _ h => (by cases h), fun _ h => (by cases h), List.Pairwise.nil, hs.lt⟩
  | cons i h s r ih =>
    intro hs
    have hs1 := hs.perm (perm_erase h)
    have hap := List.pairwise_cons.1 hs1.apart
    have ht := ih hs1.tail
    refine ⟨fun q hq => ?_, fun q hq b hb => ?_, List.pairwise_cons.2 ⟨fun q hq b hb hbq => ?_, ht.apart⟩, hs.lt⟩
    · rcases List.mem_cons.1 hq with rfl | hq
      · exact s.holds _ _ (hs1.holds _ List.mem_cons_self)
      · exact ht.holds q hq
    · rcases List.mem_cons.1 hq with rfl | hq
      · exact hs1.fp _ List.mem_cons_self b (s.fp b hb)
      · exact ht.fp q hq b hb
    · obtain ⟨p, hp, hbp⟩ := r.fp q hq b hbq
      exact hap.1 p hp b (s.fp b hb) hbp
theorem PPick.hle {L L' : Hpl} (h : PPick (L.map Prod.snd) (L'.map Prod.snd)) : HLe L L' := fun w F hs => ⟨F, fun _ h => h, h.sat hs⟩
/-- pieces looked at one by one: those passed by stand in acc -/
def PP (acc H H' : List Hp) : Prop := PPick (acc ++ H) H'
theorem PP.start {H H' : List Hp} (h : PP [] H H') : PPick H H' := h
theorem PP.nil {acc H : List Hp} : PP acc H [] := PPick.nil _
theorem PP.take {acc H H' : List Hp} {p q : Hp} (s : p.Sub q) (r : PP [] (acc ++ H) H') : PP acc (p :: H) (q :: H') :=
  PPick.cons acc.length (by simp) s (by
    have : (acc ++ p :: H).eraseIdx acc.length = acc ++ H := by
      rw [List.eraseIdx_append_of_length_le (Nat.le_refl _), Nat.sub_self]; rfl
    rw [this]; exact r)
theorem PP.skip {acc H H' : List Hp} {p : Hp} (h : PP (acc ++ [p]) H H') : PP acc (p :: H) H' := by
  unfold PP at h ⊢
  rwa [List.append_assoc] at h
theorem Fin.pick {r r' : SV} {H H' : List Hp} {K : SV → List Hp → Prop} (hp : PPick H H') (hr : ∀ w F v, Has w F r v → Has w F r' v) (h : K r' H') : Fin r H K :=
  ⟨⟨r', H', fun w F v hs hv => ⟨F, fun _ h => h, hp.sat hs, hr w F v hv⟩, h⟩⟩
/-- a result with new pieces -/
theorem Fin.news {r : SV} {H : List Hp} {R : Heaplet} {Φ : SV → List Hp → Prop} (N : List Hp) (m : Nat → Nat) (hp : PPick H (N ++ [.cust R])) (h : Φ (r.rekey m) N) : Fin r H (fun r H' => ∃ N, H' = N ++ [.cust R] ∧ Φ r N) :=
  Fin.pick hp (fun _ _ _ h => h.rekey) ⟨N, rfl, h⟩
theorem Fin.mut {r : SV} {H : List Hp} {R : Heaplet} {Φ : SV → List Hp → Hp → Prop} (N : List Hp) (p' : Hp) (m : Nat → Nat) (hp : PPick H (N ++ [p', .cust R])) (h : Φ (r.rekey m) N p') : Fin r H (fun r H' => ∃ N p', H' = N ++ [p', .cust R] ∧ Φ r N p') :=
  Fin.pick hp (fun _ _ _ h => h.rekey) ⟨N, p', rfl, h⟩
/-- a row that stands still from here on; the rest is picked -/
theorem Fin.still {r r' : SV} {H H' : List Hp} {K : SV → List Hp → Prop} {v : Value} {e : TypeId} {sz n : Nat} {f' : Nat → Nat → SV} (hp : PPick H (.row v e sz n f' :: H')) (hr : ∀ w F x, Has w F (.sl sz n f') v → Has w F r x → Has w F r' x) (h : K r' H') : Fin r H K :=
  ⟨⟨r', H', fun w F x hs hx => Ent.row hr w F x (hp.sat hs) hx, h⟩⟩
theorem Fin.still3 {r r' : SV} {H H' : List Hp} {K : SV → List Hp → Prop} {v1 v2 v3 : Value} {e1 e2 e3 : TypeId} {z1 z2 z3 n1 n2 n3 : Nat} {f1 f2 f3 : Nat → Nat → SV} (hp : PPick H (.row v1 e1 z1 n1 f1 :: .row v2 e2 z2 n2 f2 :: .row v3 e3 z3 n3 f3 :: H'))
    (hr : ∀ w F x, Has w F (.sl z1 n1 f1) v1 → Has w F (.sl z2 n2 f2) v2 → Has w F (.sl z3 n3 f3) v3 → Has w F r x → Has w F r' x) (h : K r' H') : Fin r H K :=
  ⟨⟨r', H', fun w F x hs hx => by
    have h0 := hp.sat hs
    have h1 := h0.freeze
    have h2 := h1.freeze
    have h3 := h2.freeze
    refine ⟨_, fun b hb => .inl (.inl (.inl hb)), h3, hr w _ x ?_ ?_ ?_ (hx.mono fun b hb => .inl (.inl (.inl hb)))⟩
    · exact row_sl (h0.holds _ List.mem_cons_self) (fun b hb => .inl (.inl (.inl hb))) fun b hb => .inl (.inl (.inr hb))
    · exact row_sl (h1.holds _ List.mem_cons_self) (fun b hb => .inl (.inl hb)) fun b hb => .inl (.inr hb)
    · exact row_sl (h2.holds _ List.mem_cons_self) (fun b hb => .inl hb) fun b hb => .inr hb, h⟩⟩
theorem Fin.still2 {r r' : SV} {H H' : List Hp} {K : SV → List Hp → Prop} {v1 v2 : Value} {e1 e2 : TypeId} {z1 z2 n1 n2 : Nat} {f1 f2 : Nat → Nat → SV} (hp : PPick H (.row v1 e1 z1 n1 f1 :: .row v2 e2 z2 n2 f2 :: H'))
    (hr : ∀ w F x, Has w F (.sl z1 n1 f1) v1 → Has w F (.sl z2 n2 f2) v2 → Has w F r x → Has w F r' x) (h : K r' H') : Fin r H K :=
  ⟨⟨r', H', fun w F x hs hx => by
    have h0 := hp.sat hs
    have h1 := h0.freeze
    have h2 := h1.freeze
    refine ⟨_, fun b hb => .inl (.inl hb), h2, hr w _ x ?_ ?_ (hx.mono fun b hb => .inl (.inl hb))⟩
    · exact row_sl (h0.holds _ List.mem_cons_self) (fun b hb => .inl (.inl hb)) fun b hb => .inl (.inr hb)
    · exact row_sl (h1.holds _ List.mem_cons_self) (fun b hb => .inl hb) fun b hb => .inr hb, h⟩⟩
/-- the one row that is the result -/
theorem Fin.sl {v : Value} {e : TypeId} {sz n n' k : Nat} {f f' : Nat → Nat → SV} {H : List Hp} {R : Heaplet} {Φ : SV → Prop} (hs : List.Sublist [.row v e sz n f, .cust R] H) (hn : n = n') (hf : ∀ i j, i < n → j < sz → f i j = f' i j) (h : Φ (.sl sz n' f')) : Fin (.own k v) H (fun r H' => H' = [.cust R] ∧ Φ r) := by
  subst hn
  exact ⟨⟨.sl sz n f', [.cust R], fun w F x hw hx => Ent.row (fun w F x hv hx => by have e : x = v := hx; subst e; exact hv) w F x ((hw.sub hs).one (.row hf)) hx, rfl, h⟩⟩
theorem Fin.slNil {sz : Nat} {f : Nat → Nat → SV} {H : List Hp} {R : Heaplet} {Φ : SV → Prop} (hs : List.Sublist [.cust R] H) (h : Φ (.sl sz 0 f)) : Fin (.val (.slice none 0 0)) H (fun r H' => H' = [.cust R] ∧ Φ r) :=
  ⟨⟨.sl sz 0 f, [.cust R], fun w F x hw hx => ⟨F, fun _ h => h, hw.sub hs, by have e : x = .slice none 0 0 := hx; subst e; exact ⟨none, 0, rfl, Nat.le_refl _, Nat.zero_le _, fun h => absurd h (by omega)⟩⟩, rfl, h⟩⟩

/-- one cell told by another -/
def CellLe (s s' : SV) : Prop := ∀ w F x, Has w F s x → Has w F s' x
theorem CellLe.refl (s : SV) : CellLe s s := fun _ _ _ h => h
theorem CellLe.of_eq {s s' : SV} (h : s = s') : CellLe s s' := h ▸ CellLe.refl _
theorem CellLe.own {k k' : Nat} {v : Value} : CellLe (.own k v) (.own k' v) := fun _ _ _ h => h
theorem CellLe.i {a b : Int} (h : a = b) : CellLe (.i a) (.i b) := h ▸ CellLe.refl _
theorem CellLe.b {a b : Bool} (h : a = b) : CellLe (.b a) (.b b) := h ▸ CellLe.refl _
theorem CellLe.any (s : SV) : CellLe s .any := fun _ _ _ _ => trivial
theorem CellLe.nil {k : Nat} : CellLe (.val (.slice none 0 0)) (.own k (.slice none 0 0)) := fun _ _ _ h => h
theorem CellLe.slNil {sz : Nat} {f : Nat → Nat → SV} : CellLe (.val (.slice none 0 0)) (.sl sz 0 f) := fun w F x hx => by
  have e : x = .slice none 0 0 := hx
  subst e
  exact ⟨none, 0, rfl, Nat.le_refl _, Nat.zero_le _, fun h => absurd h (by omega)⟩
theorem CellLe.aggL {n : Nat} {f f' : Nat → SV} (h : ∀ j, j < n → CellLe (f j) (f' j)) : CellLe (.agg n f) (.agg n f') := fun w F x ⟨vs, e, hn, hc⟩ => ⟨vs, e, hn, fun k hk => h k hk w F _ (hc k hk)⟩
theorem CellLe.ifc {t : TypeId} {s s' : SV} (h : CellLe s s') : CellLe (.ifc t s) (.ifc t s') := fun w F x ⟨v, e, hv⟩ => ⟨v, e, h w F v hv⟩
theorem CellLe.tupL {n : Nat} {f f' : Nat → SV} (h : ∀ j, j < n → CellLe (f j) (f' j)) : CellLe (.tup n f) (.tup n f') := fun w F x ⟨vs, e, hn, hc⟩ => ⟨vs, e, hn, fun k hk => h k hk w F _ (hc k hk)⟩
theorem Fin.pureLe {r r' : SV} {H : List Hp} {R : Heaplet} {Φ : SV → Prop} (hs : List.Sublist [.cust R] H) (hc : CellLe r r') (h : Φ r') : Fin r H (fun r H' => H' = [.cust R] ∧ Φ r) :=
  ⟨⟨r', [.cust R], fun w F v hw hv => ⟨F, fun _ h => h, hw.sub hs, hc w F v hv⟩, rfl, h⟩⟩
theorem Ent.le {r r' : SV} (H : List Hp) (h : CellLe r r') : Ent r H r' H := fun w F v hs hv => ⟨F, fun _ h => h, hs, h w F v hv⟩
theorem Hp.Sub.boxA {g n : Nat} {t : TypeId} {f f' : Nat → SV} (h : ∀ j, j < n → CellLe (f j) (f' j)) : (Hp.box g t n f).Sub (.box g t n f') := Hp.Sub.boxH fun j hj w F x => h j hj w F x
theorem Hp.Sub.rowA {n n' sz : Nat} {v : Value} {e : TypeId} {f f' : Nat → Nat → SV} (hn : n = n') (h : ∀ i j, i < n → j < sz → f i j = f' i j) : (Hp.row v e sz n f).Sub (.row v e sz n' f') := by
  subst hn
  exact .row h
theorem Hp.Sub.rowH {n n' sz : Nat} {v : Value} {e : TypeId} {f f' : Nat → Nat → SV} (hn : n = n') (h : ∀ i j, i < n → j < sz → CellLe (f i j) (f' i j)) : (Hp.row v e sz n f).Sub (.row v e sz n' f') := by
  subst hn
  exact ⟨fun _ h => h, fun w F ⟨xs, a, c⟩ => ⟨xs, a, fun i j hi hj => ⟨(c i j hi hj).1, h i j hi hj w F _ (c i j hi hj).2⟩⟩⟩
theorem HLe.pk {L L' : Hpl} (h : fcH (L.map Prod.snd) fun H => fcH (L'.map Prod.snd) fun H' => PPick H H') : HLe L L' := by
  rw [fcH_eq, fcH_eq] at h
  exact PPick.hle h
/-! ### loops that turn some pieces -/
inductive HC where
  | box (f : Nat → SV)
  | row (v : Value) (n : Nat) (f : Nat → Nat → SV)
  | cells (f : Nat → Nat → SV)
  | cust (h : Heaplet)
def chgP : HC → Hp → Hp
  | .box f, .box g t n _ => .box g t n f
  | .row v n f, .row _ e sz _ _ => .row v e sz n f
  | .cells f, .row v e sz n _ => .row v e sz n f
  | .cust h, _ => .cust h
  | _, p => p
def chgH : List (Nat × HC) → Hpl → Hpl
  | [], L => L
  | (k, c) :: cs, L => chgH cs (setK k (chgP c (lk k L)) L)
def MatchC (σ : Fr) : List (Nat × SV) → Prop
  | [] => True
  | (k, v) :: l => CellLe (σ k) v ∧ MatchC σ l
theorem SLe.mkC {σ' σ : Fr} {ks : List Nat} {chg : List (Nat × SV)} {L' L : Hpl} {nx nx' : Nat} (h1 : KeepL σ' σ ks) (h2 : MatchC σ' chg) (h3 : HLe L' L) : SLe ⟨σ', L', nx⟩ ⟨updL (keepF ks σ) chg, L, nx'⟩ := fun n _ F a w hs => by
  obtain ⟨F', hF, hh⟩ := h3 w F hs.heap
  refine ⟨F', hF, hs.size, hs.defers, ?_, hh⟩
  have hf : FrHas w F' σ' a := fun k => (hs.fr k).mono hF
  have base : FrHas w F' (keepF ks σ) a := fun k => by
    unfold keepF
    cases e : elemB k ks
    · trivial
    · have := hf k
      rw [h1.get e] at this
      exact this
  have : ∀ l : List (Nat × SV), MatchC σ' l → FrHas w F' (updL (keepF ks σ) l) a := by
    intro l
    induction l with
    | nil => intro _; exact base
    | cons p l ih =>
      intro hm k
      obtain ⟨q, v⟩ := p
      show Has w F' (upd _ q v k) _
      unfold upd
      cases e : Nat.beq k q
      · exact ih hm.2 k
      · have := Nat.eq_of_beq_eq_true e
        subst this
        exact hm.1 w F' _ (hf k)
  exact this chg h2
/-- what a round hands on -/
structure HandC {ι : Type} (ks : List Nat) (σ : Fr) (chg : ι → List (Nat × SV)) (LL : ι → Hpl) (J : ι → Prop) (μ : ι → Nat) (i : ι) (s' : St) : Prop where
  h : ∃ j, J j ∧ μ j < μ i ∧ KeepL s'.σ σ ks ∧ MatchC s'.σ (chg j) ∧ HLe s'.L (LL j)
def QloopC {ι : Type} (ks : List Nat) (σ : Fr) (chg : ι → List (Nat × SV)) (LL : ι → Hpl) (J : ι → Prop) (μ : ι → Nat) (i : ι) (Q : Exit → St → Prop) : Exit → St → Prop
  | .normal, s' => HandC ks σ chg LL J μ i s'
  | e, s' => Q e s'
theorem HT.loopC {P : Program} {n : Nat} {c : Code} {Q : Exit → St → Prop} {s : St} {ι : Type} (ks : List Nat) (chg : ι → List (Nat × SV)) (hc : ι → List (Nat × HC)) (J : ι → Prop) (μ : ι → Nat) (i0 : ι) (hJ : J i0) (h0 : MatchC s.σ (chg i0))
    (h0' : fcH (s.L.map Prod.snd) fun H => fcH ((chgH (hc i0) s.L).map Prod.snd) fun H' => PPick H H')
    (h : fcK s.L fun L => ∀ i, J i → fcK (chgH (hc i) L) fun L' => HT P n c (QloopC ks s.σ chg (fun i => chgH (hc i) L) J μ i Q) ⟨updL (keepF ks s.σ) (chg i), L', s.nx⟩) : HT P n (.loop c) Q s := by
  rw [fcK_eq] at h
  refine HT.loop (ι := {i : ι // J i}) (fun i => ⟨updL (keepF ks s.σ) (chg i.1), chgH (hc i.1) s.L, s.nx⟩) (fun i => μ i.1) ⟨i0, hJ⟩ (SLe.mkC (KeepL.rfl _ _) h0 (HLe.pk h0')) fun ⟨i, hi⟩ => ?_
  have := h i hi
  rw [fcK_eq] at this
  refine this.mono fun e s' hq => ?_
  cases e
  case normal =>
    obtain ⟨⟨j, hj, hμ, h1, h2, h3⟩⟩ := hq
    exact ⟨⟨j, hj⟩, SLe.mkC h1 h2 h3, hμ⟩
  all_goals exact hq
/-- a cell of a list of ints is written -/
theorem put_int {l : List Int} {p i j : Nat} {x : Int} {fv : Nat → SV} (hp : p < l.length) (hv : fv 0 = .i x) (hj : j < 1) : putR p 0 1 fv (rowF intF l) i j = rowF intF (l.set p x) i j := by
  have hj : j = 0 := by omega
  subst hj
  show _ = SV.i ((l.set p x).getD i default)
  unfold putR
  by_cases h : i = p
  · subst h
    rw [Nat.beq_refl, cond_true, List.getD_eq_getElem?_getD, List.getElem?_set_self hp]
    exact hv
  · have e : Nat.beq i p = false := by rw [Bool.eq_false_iff]; exact fun hb => h (Nat.eq_of_beq_eq_true hb)
    rw [e, cond_false, List.getD_eq_getElem?_getD, List.getElem?_set_ne (fun e => h e.symm), ← List.getD_eq_getElem?_getD]
    rfl
theorem cat_ints {l m : List Int} {i j : Nat} (hi : i < l.length + m.length) (hj : j < 1) : catF l.length (rowF intF l) (rowF intF m) i j = rowF intF (l ++ m) i j := by
  have hj : j = 0 := by omega
  subst hj
  show _ = SV.i ((l ++ m).getD i default)
  unfold catF
  by_cases h : i < l.length
  · rw [if_pos h]
    show SV.i (l.getD i default) = _
    rw [List.getD_eq_getElem?_getD, List.getD_eq_getElem?_getD, List.getElem?_append_left h]
  · rw [if_neg h]
    show SV.i (m.getD (i - l.length) default) = _
    rw [List.getD_eq_getElem?_getD, List.getD_eq_getElem?_getD, List.getElem?_append_right (by omega)]
theorem cat0 {f g : Nat → Nat → SV} (i j : Nat) : catF 0 f g i j = g i j := rfl
theorem putR_self (i : Nat) (fv : Nat → SV) (f : Nat → Nat → SV) : putR i 0 1 fv f i 0 = fv 0 := by
  unfold putR
  rw [Nat.beq_refl, cond_true]
  rfl
theorem take_ints {l : List Int} {n i j : Nat} (hi : i < n) (hj : j < 1) : rowF intF l i j = rowF intF (l.take n) i j := by
  show SV.i (l.getD i default) = SV.i ((l.take n).getD i default)
  rw [List.getD_eq_getElem?_getD, List.getD_eq_getElem?_getD, List.getElem?_take, if_pos hi]
/-- an element of a literal list -/
theorem lit_bd {l : List Int} {lo hi : Int} (h : l.all (fun x => decide (lo ≤ x) && decide (x ≤ hi)) = true) {k : Nat} (hk : k < l.length) : lo ≤ l.getD k default ∧ l.getD k default ≤ hi := by
  have := List.all_eq_true.1 h l[k] (List.getElem_mem _)
  rw [Bool.and_eq_true, decide_eq_true_eq, decide_eq_true_eq] at this
  rw [show l.getD k default = l[k] by simp [hk]]
  exact this
/-- a list of ints with one more -/
theorem cat_int {l : List Int} {x : Int} {i j : Nat} {g : Nat → Nat → SV} (hi : i < l.length + 1) (hg : g 0 0 = .i x) (hj : j < 1) : catF l.length (rowF intF l) g i j = rowF intF (l ++ [x]) i j := by
  have hj : j = 0 := by omega
  subst hj
  show _ = SV.i ((l ++ [x]).getD i default)
  unfold catF
  by_cases h : i < l.length
  · rw [if_pos h]
    show SV.i (l.getD i default) = _
    rw [List.getD_eq_getElem?_getD, List.getD_eq_getElem?_getD, List.getElem?_append_left h]
  · obtain rfl : i = l.length := by omega
    rw [if_neg h, Nat.sub_self, hg, List.getD_eq_getElem?_getD, List.getElem?_append_right (Nat.le_refl _), Nat.sub_self]
    rfl

/-! ### lending -/
def Lends (L : Hpl) (s s' : SV) : Prop := ∀ w F x, HSat w F (L.map Prod.snd) → Has w F s x → Has w (fun b => b < w.heap.size) s' x
def LendsL (L : Hpl) : List SV → List SV → Prop
  | [], [] => True
  | s :: l, s' :: l' => Lends L s s' ∧ LendsL L l l'
  | _, _ => False
theorem Lends.refl {L : Hpl} (s : SV) : Lends L s s := fun w F x hs hx => hx.mono hs.lt
theorem Lends.row {L : Hpl} {v : Value} {e : TypeId} {sz n : Nat} {f : Nat → Nat → SV} (hm : Hp.row v e sz n f ∈ L.map Prod.snd) : Lends L (.val v) (.sl sz n f) := fun w F x hs hx => by
  have e : x = v := hx
  subst e
  exact row_all hs hm
theorem Lends.rowA {L : Hpl} {v : Value} {e : TypeId} {sz n n' : Nat} {f f' : Nat → Nat → SV} (hm : Hp.row v e sz n f ∈ L.map Prod.snd) (hn : n = n') (hf : ∀ i j, i < n → j < sz → f i j = f' i j) : Lends L (.val v) (.sl sz n' f') := fun w F x hs hx => by
  subst hn
  obtain ⟨A, c, e, h1, h2, h⟩ := Lends.row hm w F x hs hx
  exact ⟨A, c, e, h1, h2, fun hp => by
    obtain ⟨b, off, e, hb, h⟩ := h hp
    exact ⟨b, off, e, hb, fun i k hi hk => by rw [← hf i k hi hk]; exact h i k hi hk⟩⟩
theorem Lends.slNil {L : Hpl} (sz : Nat) (f : Nat → Nat → SV) : Lends L (.val (.slice none 0 0)) (.sl sz 0 f) := fun w F x hs hx => by
  have e : x = .slice none 0 0 := hx
  subst e
  exact ⟨none, 0, rfl, Nat.le_refl _, Nat.zero_le _, fun h => absurd h (by omega)⟩
theorem LendsL.get {L : Hpl} : ∀ {l l' : List SV}, LendsL L l l' → ∀ k, k < l.length → Lends L (l.getD k .any) (l'.getD k .any)
  | [], [], _, k, hk => absurd hk (by simp)
  | s :: l, s' :: l', h, 0, _ => h.1
  | s :: l, s' :: l', h, k + 1, hk => by simpa using LendsL.get h.2 k (by simpa using hk)
  | [], _ :: _, h, _, _ => h.elim
  | _ :: _, [], h, _, _ => h.elim
theorem Lends.agg {L : Hpl} {n : Nat} {l l' : List SV} (h : LendsL L l l') (hn : n = l.length) : Lends L (.agg n (litF l)) (.agg n (litF l')) := fun w F x hs hx => by
  obtain ⟨vs, e, hv, hc⟩ := hx
  exact ⟨vs, e, hv, fun k hk => LendsL.get h k (by omega) w F _ hs (hc k hk)⟩
theorem LendsL.has {L : Hpl} {w : World} {F : Nat → Prop} (hs : HSat w F (L.map Prod.snd)) : ∀ {ss ss' : List SV} {vs : List Value}, LendsL L ss ss' → HasL w F ss vs → HasL w (fun b => b < w.heap.size) ss' vs
  | [], [], [], _, _ => trivial
  | s :: ss, s' :: ss', v :: vs, h, hv => ⟨h.1 w F v hs hv.1, LendsL.has hs h.2 hv.2⟩
  | [], _ :: _, _, h, _ => h.elim
  | _ :: _, [], _, h, _ => h.elim
  | [], [], _ :: _, _, h => h.elim
  | _ :: _, _ :: _, [], _, h => h.elim
/-- a reader is called while rows are owned -/
theorem CallN.retB {P : Program} {f : FuncId} {ss : List SV} {L : Hpl} {nx : Nat} {K : KK} {ss' : List SV} {Φ : SV → Prop} (h : SRet P f ss' Φ) (hl : LendsL L ss ss') (hf : ∀ r, Φ r → r.free) (k : ∀ r, Φ r → K (r.lift nx) L (nx + 10)) : CallN P f ss L nx K :=
  .newB ss' (fun r N => N = [] ∧ Φ r) ⟨fun R => (h.h R).mono fun r H' ⟨e, hΦ⟩ => ⟨[], e, rfl, hΦ⟩⟩ (fun w F vs hs hv => hl.has hs hv) (fun r N ⟨e, hΦ⟩ => ⟨hf r hΦ, by subst e; simp⟩) fun r N ⟨e, hΦ⟩ => by subst e; exact k r hΦ
theorem CallN.retB1 {P : Program} {f : FuncId} {ss : List SV} {L : Hpl} {nx : Nat} {K : KK} {ss' : List SV} {r0 : SV} (h : SRet P f ss' (· = r0)) (hl : LendsL L ss ss') (hf : r0.free) (k : K (r0.lift nx) L (nx + 10)) : CallN P f ss L nx K :=
  CallN.retB h hl (fun r e => e ▸ hf) fun r e => e ▸ k
/-- what a call makes out of rows that are lent -/
theorem CallN.newBL {P : Program} {f : FuncId} {ss : List SV} {L : Hpl} {nx : Nat} {K : KK} {ss' : List SV} {Φ : SV → List Hp → Prop} (h : SNew P f ss' Φ) (hl : LendsL L ss ss') (hf : ∀ r N, Φ r N → r.free ∧ ∀ p ∈ N, p.free) (k : ∀ r N, Φ r N → K (r.lift nx) (keyN nx N L) (nx + 10)) : CallN P f ss L nx K :=
  .newB ss' Φ h (fun w F vs hs hv => hl.has hs hv) hf k
theorem SMut.frozen {P : Program} {f : FuncId} {ss : List SV} {p : Hp} {Φ : SV → List Hp → Hp → Prop} {Ψ : SV → Hp → Prop} (h : SMut P f ss p Φ) (hf : ∀ r N p', Φ r N p' → ∃ r', Ψ r' p' ∧ ∀ R : Heaplet, Ent r (N ++ [p', .cust R]) r' [p', .cust R]) : SMut P f ss p fun r N p' => N = [] ∧ Ψ r p' :=
  ⟨fun R => ⟨(h.h R).1, fun w F vs hs hv => ((h.h R).2 w F vs hs hv).mono fun e w' ⟨v, he, r, F', H', ⟨N, p', hH, hΦ⟩, hk, hF, hs', hr⟩ => by
    obtain ⟨r', hΨ, hE⟩ := hf r N p' hΦ
    subst hH
    obtain ⟨F2, q1, q2, q3⟩ := hE R w' F' v hs' hr
    exact ⟨v, he, r', F2, _, ⟨[], p', rfl, rfl, hΨ⟩, hk, fun b hb => q1 b (hF b hb), q2, q3⟩⟩⟩
/-- a list of ints was drawn, in at most d steps; it is owned; it stands still -/
def DrewL (P : List Int → Prop) (e : TypeId) (d : Int) (g : Nat) (m : Int) (r : SV) (N : List Hp) (p' : Hp) : Prop :=
  ∃ l A n c, P l ∧ n = l.length ∧ r = .own 0 (.slice A n c) ∧ N = [.row (.slice A n c) e 1 l.length (rowF intF l)] ∧ p' = .cust (rdH g (m + d))
def DrewS1 (P : List Int → Prop) (d : Int) (g : Nat) (m : Int) (r : SV) (N : List Hp) (p' : Hp) : Prop :=
  N = [] ∧ (∃ l, P l ∧ r = .sl 1 l.length (rowF intF l)) ∧ p' = .cust (rdH g (m + d))
theorem SMut.stillL {Pr : Program} {f : FuncId} {ss : List SV} {p : Hp} {P : List Int → Prop} {e : TypeId} {d : Int} {g : Nat} {m : Int} (h : SMut Pr f ss p (DrewL P e d g m)) : SMut Pr f ss p (DrewS1 P d g m) :=
  ⟨fun R => ((h.frozen (Ψ := fun r p' => (∃ l, P l ∧ r = .sl 1 l.length (rowF intF l)) ∧ p' = .cust (rdH g (m + d))) fun r N p' ⟨l, A, n, c, hP, _, hr, hN, hp⟩ => by
    subst hr hN hp
    exact ⟨_, ⟨⟨l, hP, rfl⟩, rfl⟩, fun R => Ent.row fun w F x hv hx => by have e : x = _ := hx; subst e; exact hv⟩).h R).mono fun r H' ⟨N, p', e, hN, hh⟩ => ⟨N, p', e, hN, hh⟩⟩
/-- a contract over what is new, its pieces frozen -/
theorem SNew.frozen {P : Program} {f : FuncId} {ss : List SV} {Φ : SV → List Hp → Prop} {Ψ : SV → Prop} (h : SNew P f ss Φ) (hf : ∀ r N, Φ r N → ∃ r', Ψ r' ∧ ∀ R : Heaplet, Ent r (N ++ [.cust R]) r' [.cust R]) : SRet P f ss Ψ :=
  ⟨fun R => ⟨(h.h R).1, fun w F vs hs hv => ((h.h R).2 w F vs hs hv).mono fun e w' ⟨v, he, r, F', H', ⟨N, hH, hΦ⟩, hk, hF, hs', hr⟩ => by
    obtain ⟨r', hΨ, hE⟩ := hf r N hΦ
    subst hH
    obtain ⟨F2, q1, q2, q3⟩ := hE R w' F' v hs' hr
    exact ⟨v, he, r', F2, _, ⟨rfl, hΨ⟩, hk, fun b hb => q1 b (hF b hb), q2, q3⟩⟩⟩
/-- a row's cells told anew, ahead of a call -/
theorem CallN.row {P : Program} {f : FuncId} {ss : List SV} {L : Hpl} {nx : Nat} {K : KK} (key : Nat) {v : Value} {e : TypeId} {sz n : Nat} {f0 : Nat → Nat → SV} (f' : Nat → Nat → SV) (hl : lk key L = .row v e sz n f0) (hf : ∀ i j, i < n → j < sz → f0 i j = f' i j)
    (h : fcK (setK key (.row v e sz n f') L) fun L' => CallN P f ss L' nx K) : CallN P f ss L nx K := by
  rw [fcK_eq] at h
  exact .le _ (fun w F hs => HSat.setK hl (by simp) ((hs.lk hl (by simp)).one (.row hf))) (fun k g t n f e => by rw [lk_setK_ne (by rintro rfl; rw [hl] at e; cases e)]; exact e) h
end Go.Proofs.Ytcagfmbboliohaa
/-! YtcagfmbboliohaaCmPure -/
set_option linter.all false
namespace Go.Proofs.Ytcagfmbboliohaa

def gI (l : List Int) (i : Nat) : Int := l.getD i default
/-- a valid committee -/
def cmOk (c : List Int) : Bool := inB c.length 1 7 && decide (∀ i, i < c.length → inB (c.getD i default) 1 9 = true)
/-- an ascending list of members of n -/
def msOk (n : Nat) (ms : List Int) : Bool := decide (∀ i, i < ms.length → (0 ≤ ms.getD i default ∧ ms.getD i default < n) ∧ (0 < i → ms.getD (i - 1) default < ms.getD i default))
/-- the sum of the first k -/
def sumTo (g : Nat → Int) : Nat → Int
  | 0 => 0
  | k + 1 => sumTo g k + g k
def tot (c : List Int) : Int := sumTo (fun i => c.getD i default) c.length
def wt (c ms : List Int) : Int := sumTo (fun i => c.getD (ms.getD i default).toNat default) ms.length
def quo (c : List Int) : Int := 2 * tot c / 3 + 1

theorem cmOk_iff {c : List Int} : cmOk c = true ↔ (1 ≤ c.length ∧ c.length ≤ 7) ∧ ∀ i, i < c.length → 1 ≤ c.getD i default ∧ c.getD i default ≤ 9 := by
  unfold cmOk
  rw [Bool.and_eq_true, inB_true, decide_eq_true_eq]
  constructor
  · rintro ⟨h1, h2⟩
    exact ⟨by omega, fun i hi => inB_true.1 (h2 i hi)⟩
  · rintro ⟨h1, h2⟩
    exact ⟨by omega, fun i hi => inB_true.2 (h2 i hi)⟩
theorem msOk_iff {n : Nat} {ms : List Int} : msOk n ms = true ↔ ∀ i, i < ms.length → (0 ≤ ms.getD i default ∧ ms.getD i default < n) ∧ (0 < i → ms.getD (i - 1) default < ms.getD i default) := by
  unfold msOk; rw [decide_eq_true_eq]
theorem sumTo_bd {g : Nat → Int} {lo hi : Int} : ∀ {k : Nat}, (∀ i, i < k → lo ≤ g i ∧ g i ≤ hi) → lo * k ≤ sumTo g k ∧ sumTo g k ≤ hi * k
  | 0, _ => by simp [sumTo]
  | k + 1, h => by
    have ih := sumTo_bd (k := k) fun i hi' => h i (by omega)
    have := h k (by omega)
    have e1 : lo * ((k + 1 : Nat) : Int) = lo * k + lo := by rw [Int.natCast_add, Int.mul_add]; simp
    have e2 : hi * ((k + 1 : Nat) : Int) = hi * k + hi := by rw [Int.natCast_add, Int.mul_add]; simp
    rw [e1, e2]
    unfold sumTo
    omega
theorem sumTo_congr {g g' : Nat → Int} : ∀ {k : Nat}, (∀ i, i < k → g i = g' i) → sumTo g k = sumTo g' k
  | 0, _ => rfl
  | k + 1, h => by unfold sumTo; rw [sumTo_congr fun i hi => h i (by omega), h k (by omega)]
theorem tot_bd {c : List Int} (h : cmOk c = true) : 1 ≤ tot c ∧ tot c ≤ 63 := by
  obtain ⟨h1, h2⟩ := cmOk_iff.1 h
  have := sumTo_bd (k := c.length) h2
  unfold tot
  omega
theorem tot_part {c : List Int} (h : cmOk c = true) {k : Nat} (hk : k ≤ c.length) : 0 ≤ sumTo (fun i => c.getD i default) k ∧ sumTo (fun i => c.getD i default) k ≤ 63 := by
  obtain ⟨h1, h2⟩ := cmOk_iff.1 h
  have := sumTo_bd (k := k) fun i hi => h2 i (by omega)
  omega
/-- an ascending list of members is short -/
theorem ms_ge {n : Nat} {ms : List Int} (h : msOk n ms = true) : ∀ i, i < ms.length → (i : Int) ≤ ms.getD i default
  | 0, hi => by have := (msOk_iff.1 h 0 hi).1.1; simpa using this
  | i + 1, hi => by
    have := ms_ge h i (by omega)
    have := (msOk_iff.1 h (i + 1) hi).2 (by omega)
    simp only [Nat.add_sub_cancel] at this
    omega
theorem ms_len {n : Nat} {ms : List Int} (h : msOk n ms = true) : ms.length ≤ n := by
  rcases Nat.eq_zero_or_pos ms.length with h0 | h0
  · omega
  · have h1 := ms_ge h (ms.length - 1) (by omega)
    have h2 := (msOk_iff.1 h (ms.length - 1) (by omega)).1.2
    omega
theorem wt_part {c ms : List Int} (h : cmOk c = true) (hm : msOk c.length ms = true) {k : Nat} (hk : k ≤ ms.length) : 0 ≤ sumTo (fun i => c.getD (ms.getD i default).toNat default) k ∧ sumTo (fun i => c.getD (ms.getD i default).toNat default) k ≤ 63 := by
  obtain ⟨h1, h2⟩ := cmOk_iff.1 h
  have hl := ms_len hm
  have := sumTo_bd (g := fun i => c.getD (ms.getD i default).toNat default) (k := k) fun i hi => h2 _ (by have := (msOk_iff.1 hm i (by omega)).1; omega)
  omega
theorem wt_bd {c ms : List Int} (h : cmOk c = true) (hm : msOk c.length ms = true) : 0 ≤ wt c ms ∧ wt c ms ≤ 63 := wt_part h hm (Nat.le_refl _)
theorem quo_bd {c : List Int} (h : cmOk c = true) : 1 ≤ quo c ∧ quo c ≤ 43 := by
  have := tot_bd h
  unfold quo
  omega
end Go.Proofs.Ytcagfmbboliohaa
/-! YtcagfmbboliohaaCm -/
set_option linter.all false
namespace Go.Proofs.Ytcagfmbboliohaa
open Go.RowKit

abbrev isl (l : List Int) : SV := .sl 1 l.length (rowF intF l)

theorem cm_no {c : List Int} {k : Nat} (hk : k < c.length) (h : inB (c.getD k default) 1 9 = false) : false = cmOk c := by
  unfold cmOk
  rw [dall_false hk (by rw [h]; simp), Bool.and_false]
theorem cm_yes {c : List Int} {k : Nat} (hk : c.length ≤ k) (h : ∀ j, j < k → inB (c.getD j default) 1 9 = true) : inB c.length 1 7 = cmOk c := by
  unfold cmOk
  rw [dall_true fun j hj => h j (by omega), Bool.and_true]
theorem cm_len {c : List Int} (h : c.length < 1 ∨ 7 < c.length) : false = cmOk c := by
  unfold cmOk
  rw [inB_false.2 (by omega), Bool.false_and]
theorem ms_no {n : Nat} {ms : List Int} {k : Nat} (hk : k < ms.length) (h : ¬ ((0 ≤ ms.getD k default ∧ ms.getD k default < n) ∧ (0 < k → ms.getD (k - 1) default < ms.getD k default))) : false = msOk n ms := (dall_false hk h).symm
theorem ms_yes {n : Nat} {ms : List Int} {k : Nat} (hk : ms.length ≤ k) (h : ∀ i, i < k → (0 ≤ ms.getD i default ∧ ms.getD i default < n) ∧ (0 < i → ms.getD (i - 1) default < ms.getD i default)) : true = msOk n ms := (dall_true fun i hi => h i (by omega)).symm
def MsAll (n : Nat) (ms : List Int) (k : Nat) : Prop := ∀ i, i < k → (0 ≤ ms.getD i default ∧ ms.getD i default < n) ∧ (0 < i → ms.getD (i - 1) default < ms.getD i default)
theorem MsAll.next {n : Nat} {ms : List Int} {k : Nat} (h : MsAll n ms k) (h1 : 0 ≤ ms.getD k default ∧ ms.getD k default < n) (h2 : 0 < k → ms.getD (k - 1) default < ms.getD k default) : MsAll n ms (k + 1) := all_lt_succ ⟨h1, h2⟩ h
theorem toNat_sub1 (k : Nat) : ((k : Int) - 1).toNat = k - 1 := by omega

theorem tdiv3 {a : Int} (h : 0 ≤ a) : a.tdiv 3 = a / 3 := Int.tdiv_eq_ediv_of_nonneg h

/-- what MembersWeight gives -/
def mw (c ms : List Int) : Int := if cmOk c && msOk c.length ms then wt c ms else -1
end Go.Proofs.Ytcagfmbboliohaa
/-! YtcagfmbboliohaaFrame -/
set_option linter.all false

set_option maxRecDepth 100000
namespace Go.Proofs.Ytcagfmbboliohaa
open Go.ChangeShapes Go.WideShapes Go.ChangeAt Go.RowKit

theorem Try.own : ownKnob Try.prog.godebug = none := by kernel_rfl
theorem Try.laidOut : laidOutB Try.prog = true := by kernel_rfl

section
variable {H : Type} {enc : TypeId × Value → H}
theorem trodAll_below {W W' : World} (hb : Below W.heap.size W W') : ∀ {ts : List TypeId} {vs : List Value} {ds : List (DataW H)} {ps : List MemPlace}, (∀ t ∈ ts, Try.prog.readableRec t = true ∧ t < Try.prog.types.size) →
    DataW.TrodAll enc Try.prog W 0 (fun _ => true) true ts vs ds ps → (∀ x ∈ ps, x.block < W.heap.size) → DataW.TrodAll enc Try.prog W' 0 (fun b => decide (b < W.heap.size)) true ts vs ds ps
  | [], [], [], ps, _, h, _ => h
  | t :: ts, v :: vs, d :: ds, ps, hr, ⟨p, q, h1, h2, e⟩, hl => by
    subst e
    exact ⟨p, q, Below.trod Try.laidOut (hr t List.mem_cons_self).1 (hr t List.mem_cons_self).2 h1 hb fun x hx => hl x (List.mem_append_left _ hx),
      trodAll_below hb (fun t ht => hr t (List.mem_cons_of_mem _ ht)) h2 fun x hx => hl x (List.mem_append_right _ hx), rfl⟩
  | [], _ :: _, _, _, _, h, _ => h.elim
  | [], [], _ :: _, _, _, h, _ => h.elim
  | _ :: _, [], _, _, _, h, _ => h.elim
  | _ :: _, _ :: _, [], _, _, h, _ => h.elim

/-- the types of the parameters can be read -/
theorem readable_ok {ts : List TypeId} (h : (ts.all fun t => Try.prog.readableRec t && Nat.blt t Try.prog.types.size) = true) : ∀ t ∈ ts, Try.prog.readableRec t = true ∧ t < Try.prog.types.size := fun t ht => by
  have := List.all_eq_true.1 h t ht
  rw [Bool.and_eq_true] at this
  exact ⟨this.1, Nat.le_of_ble_eq_true this.2⟩


theorem law_lifted {f : FuncId} {fn : Func} {s : ChangeSpec} {os : Os} (started : os.Started) (hfn : Try.checked.prog.funcs[f]? = some fn) (hno : Try.checked.prog.inits.idxOf? f = none) {bt : TypeId} (hbt : Try.prog.underlying bt = some .bool) (hrt : fn.resultTypes = #[bt])
    (hpr : (fn.params.toList.all fun t => Try.prog.readableRec t && Nat.blt t Try.prog.types.size) = true) (hv : s.vars = []) (hs : ∀ ds : List (DataW H), ds.length = fn.params.size → (s.fn H (ds ++ [])).results = [.lit (.bool true)] ∧ (s.fn H (ds ++ [])).args = ds ∧ (s.fn H (ds ++ [])).vars = [])
    (wit : ∃ (w : World) (tape : Tape) (i : Input), w.os = os ∧ (w.forCall tape i).Shaped Try.checked.prog ∧ i.vars = [] ∧ Input.okWide Try.checked.prog (w.forCall tape i) .any w.heap.size f i ∧
      s.pre6 enc Try.checked.prog fn [] false (w.forCall tape i).memory i.args ∧ ({} : Assume).holds Try.checked.prog (lone (Frame.enter Try.checked.prog f i.args .normal) [] (w.forCall tape i)))
    (hc : ∀ (W : World) (base : Nat) (args : Array Value) (ds : List (DataW H)) (ps : List MemPlace), (∀ (j : Nat) t v, fn.params[j]? = some t → args[j]? = some v → Value.okWide Try.prog W .any base t v) →
      DataW.TrodAll enc Try.prog W 0 (fun _ => true) true fn.params.toList args.toList ds ps → Calls Try.prog f args W fun e W' => e = .returned (.bool true) ∧ Below W.heap.size W W') :
    ReturnsInHanded {} Try.checked os f .any (s.pre6 enc Try.checked.prog fn [] false) (s.post enc Try.checked.prog fn false true false false) := by
  refine returnsInHanded_of_change (C := Try.checked) Try.own started hno hfn wit ?_
  intro W base args ds gs before hval hW hcnd _
  have hW' := hW
  obtain ⟨p, q, hA0, hV, rfl, hfz, hnd⟩ := hW
  have hA : DataW.TrodAll enc Try.prog W 0 (fun _ => true) true fn.params.toList args.toList ds p := hA0
  have hl : ds.length = fn.params.size := by
    have : ∀ (ts : List TypeId) (vs : List Value) (ds : List (DataW H)) (p : List MemPlace), DataW.TrodAll enc Try.prog W 0 (fun _ => true) true ts vs ds p → ds.length = ts.length := by
      intro ts
      induction ts with
      | nil => intro vs ds p h; cases vs <;> cases ds <;> simp [DataW.TrodAll] at h ⊢
      | cons t ts ih => intro vs ds p h; cases vs <;> cases ds <;> simp [DataW.TrodAll] at h ⊢; obtain ⟨_, _, _, h, _⟩ := h; exact ih _ _ _ h
    have := this _ _ _ _ hA
    simpa using this
  rw [hv] at hV
  have hg : gs = [] ∧ q = [] := by cases gs <;> simp [DataW.TrodVars] at hV; exact ⟨rfl, hV⟩
  obtain ⟨rfl, rfl⟩ := hg
  obtain ⟨hs1, hs2, hs3⟩ := hs ds hl
  refine (hc W base args ds p hval hA).mono fun e W' ⟨he, hb⟩ => ⟨_, he, ds, [], _, [], p, [], hW', ?_, ?_, ?_, hb.frame _, fun h => by cases h⟩
  · rw [hs1, hrt]
    exact trodAll_mk1 (shut_bool hbt true)
  · rw [hs2]
    exact trodAll_below hb (readable_ok hpr) hA fun x hx => hW'.lt x (by simpa using hx)
  · rw [hs3, hv]
    exact rfl

/-- a code that came in, as data -/

theorem code_has {t e : TypeId} (ht : Try.prog.underlying t = some (.slice e)) (he : Try.prog.underlying e = some (.int .u8)) (hc : Try.prog.cellsOf e = 1) {W : World} {v : Value} {d : DataW H} {p : List MemPlace} {base : Nat} (hv : Value.okWide Try.prog W .any base t v) (h : DataW.Trod enc Try.prog W 0 (fun _ => true) true t v d p) :
    ∃ zs : List Int, Has W (fun b => b < W.heap.size) (.sl 1 zs.length (rowF u8F zs)) v ∧ (∀ z ∈ zs, 0 ≤ z ∧ z ≤ 255) := by
  obtain ⟨a0, len, cap, rfl⟩ := okWide_slice ht hv
  obtain ⟨fuel, hf⟩ := h
  rcases open_ints ht he hc hf with ⟨hcs, hx⟩ | ⟨a, len', cap', zs, hcs, _, hl, hm, hz, hx, hcell, hwz⟩
  · simp [Value.cells] at hcs
    obtain ⟨rfl, rfl, rfl⟩ := hcs
    exact ⟨[], ⟨none, 0, rfl, Nat.le_refl _, Nat.zero_le _, fun h => absurd h (by simp)⟩, by simp⟩
  · simp [Value.cells] at hcs
    obtain ⟨rfl, rfl, rfl⟩ := hcs
    have hz : zs.length = cap := by simpa using hz
    have hlen : (zs.take len).length = len := by simp; omega
    refine ⟨zs.take len, ?_, fun z hz' => ?_⟩
    · rw [hlen]
      refine ⟨some a, cap, rfl, hl, hm, fun hp => ?_⟩
      have h0 := hcell 0 (by omega)
      have hsp := World.cell?_spot h0
      have hsp : a.spot = none := hsp
      obtain ⟨b, off, spot⟩ := a
      simp only at hsp
      subst hsp
      refine ⟨b, off, rfl, ?_, fun i k hi hk => ?_⟩
      · rcases Nat.lt_or_ge b W.heap.size with hlt | hge
        · exact hlt
        · have h0 : W.cell? ⟨b, off, none⟩ = _ := h0
          simp [World.cell?, Array.getElem?_eq_none hge] at h0
      · have hk : k = 0 := by omega
        subst hk
        have h1 := hcell i (by omega)
        rw [addr_add'] at h1
        refine ⟨_, by simpa using h1, rfl, ?_⟩
        show Value.int .u8 _ = .int .u8 _
        congr 1
        simp [List.getD_eq_getElem?_getD, List.getElem?_take, hi]
    · have := hwz z (List.mem_of_mem_take hz')
      simpa [Lit.wf, IntKind.min, IntKind.max, IntKind.signed, IntKind.bits] using this
end

/-- a law's contract in the frame's words -/
theorem law_calls {f : FuncId} {ss : List SV} (h : SRet Try.prog f ss (· = .b true)) {W : World} {args : Array Value} (ha : HasL W (fun b => b < W.heap.size) ss args.toList) : Calls Try.prog f args W fun e W' => e = .returned (.bool true) ∧ Below W.heap.size W W' := by
  let R0 : Heaplet := ⟨fun _ => False, fun _ _ => True, fun _ _ => trivial, fun _ _ => trivial⟩
  have hs0 : HSat W (fun b => b < W.heap.size) [.cust R0] := ⟨fun x hx => by rw [List.mem_singleton.1 hx]; trivial, fun x hx b hb => by rw [List.mem_singleton.1 hx] at hb; exact hb.elim, by simp, fun b hb => hb⟩
  refine ((h.h R0).2 W _ args.toList hs0 ha).mono ?_
  rintro e W' ⟨v, rfl, r, F', H', ⟨_, rfl⟩, hk, hF, hs', hr⟩
  have hr : v = .bool true := hr
  subst hr
  exact ⟨rfl, hk.os, hk.tape, hk.output, hk.size, hk.blk⟩
end Go.Proofs.Ytcagfmbboliohaa
