/- The reader of a code: l6Open makes it, pick draws a number below n from it. -/
import Derived.Test.YtbcmpfhemangpaaBase
import Derived.Laws.BitsAllLaws
import Derived.Laws.BitsLemmas
set_option linter.all false
namespace Go.Proofs.Ytbcmpfhemangpaa
open Go.RowKit

/-- what pick leaves: a number below n (or 0), the reader one step on, nothing else turned -/
def Picked (n : Int) (B g : Nat) (A : Option Addr) (m c : Nat) (zs : List Int) (p : Int) (w : World) (e : Ending) (w' : World) : Prop :=
  ∃ k : Int, 0 ≤ k ∧ (k < n ∨ k = 0) ∧ e = .returned (.int .i64 k) ∧ Rd w' B g A m c zs (p + 1) ∧ Touch g w w' ∧ w.drawn ≤ w'.drawn

theorem Rd.step {w w' : World} {B g : Nat} {A : Option Addr} {m c : Nat} {zs : List Int} {p p' : Int} (h : Rd w B g A m c zs p) (hp' : 0 ≤ p') (hw : ∀ b, b ≠ g → w'.heap[b]? = w.heap[b]?) (hb : ∀ cs, Box w g 96 cs → Box w' g 96 (cs.setIfInBounds 1 (.int .i64 p'))) : Rd w' B g A m c zs p' := by
  obtain ⟨hbox, hn, hr, hz, hp, hB⟩ := h
  refine ⟨hb _ hbox, hn, ⟨hr.1, fun hn => ?_⟩, hz, hp', hB⟩
  obtain ⟨b, off, e, hbB, hc⟩ := hr.2 hn
  exact ⟨b, off, e, hbB, fun j u hu => (World.cell?_of_block (w := w) (a := ⟨b, off + j, none⟩) (hw b (hB hn _ e))).trans (hc j u hu)⟩

theorem i64_xor_ok (x y : Int) (hx : 0 ≤ x) (hx1 : x < 4611686018427387904) (hy : 0 ≤ y) (hy1 : y < 4611686018427387904) : 0 ≤ bits .xor .i64 x y := by
  obtain ⟨a, rfl⟩ := Int.eq_ofNat_of_zero_le hx
  obtain ⟨b, rfl⟩ := Int.eq_ofNat_of_zero_le hy
  have e1 : (BitVec.ofInt 64 (a : Int)).toNat = a := by
    rw [BitVec.ofInt_natCast, BitVec.toNat_ofNat]; exact Nat.mod_eq_of_lt (by omega)
  have e2 : (BitVec.ofInt 64 (b : Int)).toNat = b := by
    rw [BitVec.ofInt_natCast, BitVec.toNat_ofNat]; exact Nat.mod_eq_of_lt (by omega)
  have hlt : a ^^^ b < 2 ^ 63 := Nat.xor_lt_two_pow (by omega) (by omega)
  show 0 ≤ IntKind.i64.wrap ((BitVec.ofInt 64 (a : Int) ^^^ BitVec.ofInt 64 (b : Int)).toNat : Int)
  rw [BitVec.toNat_xor, e1, e2, IntKind.wrap_i64]
  omega

theorem xor_pick (X n : Int) (hX : 0 ≤ X) (hX1 : X < 4611686018427387904) (hn : 1 ≤ n) :
    0 ≤ (bits .xor .i64 X (wrap64 (X.tdiv 64))).tmod n ∧ (bits .xor .i64 X (wrap64 (X.tdiv 64))).tmod n < n := by
  have e : X.tdiv 64 = X / 64 := Int.tdiv_eq_ediv_of_nonneg hX
  have e2 : wrap64 (X.tdiv 64) = X / 64 := by rw [e]; exact IntWalk.wrap64_in _ ⟨by omega, by omega⟩
  rw [e2]
  have h := i64_xor_ok X (X / 64) hX hX1 (by omega) (by omega)
  rw [Int.tmod_eq_emod_of_nonneg h]
  exact ⟨Int.emod_nonneg _ (by omega), Int.emod_lt_of_pos _ (by omega)⟩

theorem pick_sum (q m : Nat) (z y : Int) (hq : (q : Int) ≤ 1000000000000) (hz0 : 0 ≤ z) (hz1 : z ≤ 255) (hy0 : 0 ≤ y) (hy1 : y ≤ 255) :
    0 ≤ wrap64 (z * 131 + y * 1117 + ↑q * 29 + wrap64 (wrap64 ((q : Int) / (m : Int)) * 53)) ∧ wrap64 (z * 131 + y * 1117 + ↑q * 29 + wrap64 (wrap64 ((q : Int) / (m : Int)) * 53)) < 4611686018427387904 := by
  have h1 : 0 ≤ (q : Int) / (m : Int) := Int.ediv_nonneg (by omega) (by omega)
  have h2 : (q : Int) / (m : Int) ≤ q := Int.ediv_le_self _ (by omega)
  rw [IntWalk.wrap64_in ((q : Int) / (m : Int)) ⟨by omega, by omega⟩]
  generalize (q : Int) / (m : Int) = d at *
  rw [IntWalk.wrap64_in (d * 53) ⟨by omega, by omega⟩, IntWalk.wrap64_in _ ⟨by omega, by omega⟩]
  omega

theorem Rd.setp {w : World} {B g : Nat} {A : Option Addr} {m c : Nat} {zs : List Int} {p p' : Int} (h : Rd w B g A m c zs p) (hp' : 0 ≤ p') : Rd (w.setCell ⟨g, 1, none⟩ (.int .i64 p')) B g A m c zs p' :=
  h.step hp' (fun b hb => Below.heap_setCell w ⟨g, 1, none⟩ _ b hb) fun _ hb => hb.put 1 _
theorem Rd.drewN {w : World} {B g : Nat} {A : Option Addr} {m c : Nat} {zs : List Int} {p : Int} (h : Rd w B g A m c zs p) (k : Nat) : Rd (w.drewN k) B g A m c zs p := by
  obtain ⟨hbox, hn, hr, hz, hp, hB⟩ := h
  exact ⟨hbox.drewN k, hn, hr.drewN k, hz, hp, hB⟩

set_option maxHeartbeats 400000 in
theorem pick_any (w : World) (B g : Nat) (A : Option Addr) (m c : Nat) (zs : List Int) (p n : Int) (hr : Rd w B g A m c zs p) (hp : p ≤ 1000000000000) (hn : n ≤ 1000000000000) :
    Calls Try.prog 48 #[.pointer (some ⟨g, 0, none⟩), .int .i64 n] w (Picked n B g A m c zs p w) := by
  have hr0 := hr
  obtain ⟨hbox, hm, hrd, hz, hp0, hBg⟩ := hr
  have HBG := hide hBg
  clear hBg
  obtain ⟨q, rfl⟩ := Int.eq_ofNat_of_zero_le hp0
  have hc0 := hbox.cell 0
  have hc1 := hbox.cell 1
  have hf1 := hbox.frozen 1
  simp at hc0 hc1
  have hlen : zs.length = m := by have := hrd.1; simpa using this
  clear hbox
  have HR := hide (hr0.setp (p' := (q : Int) + 1) (by omega))
  have HT : Touch g w (w.setCell ⟨g, 1, none⟩ (.int .i64 ((q : Int) + 1))) := (Touch.refl w).setCell (.inl rfl) _
  have HTT := hide HT
  clear hr0 HT
  by_cases h1 : n < 1
  · have Hl := hide hlen
    clear hlen hrd hz
    go_enter Try.func48, Try.ntmps48
    go_wp2
    go_ret
    exact ⟨0, by omega, .inr rfl, rfl, HR.out, HTT.out, Nat.le_refl _⟩
  · by_cases hm0 : m = 0
    · have Hl := hide hlen
      clear hlen hrd hz
      have hm1 : ((m : Int) == 0) = true := by simp; omega
      clear hm0
      go_enter Try.func48, Try.ntmps48
      go_wp2
      go_ret
      exact ⟨0, by omega, .inr rfl, rfl, HR.out, HTT.out, Nat.le_refl _⟩
    · obtain ⟨b, off, rfl, hbg, hcs⟩ := hrd.2 (by omega)
      have hne : b ≠ g := HBG.out (by omega) _ rfl
      have hne' : g ≠ b := fun e => hne e.symm
      have hcz : ∀ j, j < m → ∃ z, 0 ≤ z ∧ z ≤ 255 ∧ w.cell? ⟨b, off + j, none⟩ = some (.int .u8 z) := fun j hj => by
        have hj' : zs[j]? = some zs[j] := List.getElem?_eq_getElem (by omega)
        have := hz zs[j] (List.getElem_mem _)
        exact ⟨zs[j], this.1, this.2, hcs j _ (by rw [List.getElem?_map, hj']; rfl)⟩
      have hm1 : ((m : Int) == 0) = false := by simp; omega
      have Hl := hide hlen
      clear hlen hrd hz hcs
      by_cases hpm : q < m
      · obtain ⟨z, hz0, hz1, hz⟩ := hcz q hpm
        clear hcz
        go_enter Try.func48, Try.ntmps48
        go_wp2
        go_ret
        exact ⟨z % n, Int.emod_nonneg _ (by omega), .inl (Int.emod_lt_of_pos _ (by omega)), rfl, HR.out, HTT.out, Nat.le_refl _⟩
      · obtain ⟨z, hz0, hz1, hz⟩ := hcz (q % m) (Nat.mod_lt _ (by omega))
        obtain ⟨y, hy0, hy1, hy⟩ := hcz ((q * 7 + 3) % m) (Nat.mod_lt _ (by omega))
        clear hcz
        have a1 : 0 ≤ (q : Int) % (m : Int) := by omega
        have a2 : (q : Int) % (m : Int) < m := Int.emod_lt_of_pos _ (by omega)
        have a3 : ((q : Int) % (m : Int)).toNat = q % m := by omega
        have b1 : 0 ≤ ((q : Int) * 7 + 3) % (m : Int) := Int.emod_nonneg _ (by omega)
        have b2 : ((q : Int) * 7 + 3) % (m : Int) < m := Int.emod_lt_of_pos _ (by omega)
        have b3 : (((q : Int) * 7 + 3) % (m : Int)).toNat = (q * 7 + 3) % m := by
          have : ((q : Int) * 7 + 3) % (m : Int) = (((q * 7 + 3) % m : Nat) : Int) := by simp
          omega
        go_enter Try.func48, Try.ntmps48
        go_wp2
        go_quiet (fail)
        clear a1 a2 a3 b1 b2 b3
        go_wp2
        go_ret
        have hs := pick_sum q m z y hp hz0 hz1 hy0 hy1
        have hx := xor_pick _ n hs.1 hs.2 (by omega)
        exact ⟨_, hx.1, .inl hx.2, rfl, HR.out.drewN nq, HTT.out.drewN nq, Nat.le_add_right _ _⟩

end Go.Proofs.Ytbcmpfhemangpaa
