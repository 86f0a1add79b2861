/- The reader of a code as a piece of memory; pick. -/
import Derived.Test.YtbcmpfhemangpaaSxK
import Derived.Test.YtbcmpfhemangpaaRd
set_option linter.all false

namespace Go.Proofs.Ytbcmpfhemangpaa
open Go.RowKit

/-- the reader at block g, at most m steps on -/
def rdH (g : Nat) (m : Int) : Heaplet where
  fp b := b = g
  holds w F := ∃ B A n c zs p, Rd w B g A n c zs p ∧ p ≤ m ∧ (0 < n → ∃ b off, A = some ⟨b, off, none⟩ ∧ F b)
  mono hF h := by
    obtain ⟨B, A, n, c, zs, p, h1, h2, h3⟩ := h
    exact ⟨B, A, n, c, zs, p, h1, h2, fun hn => by obtain ⟨b, off, e, hb⟩ := h3 hn; exact ⟨b, off, e, hF b hb⟩⟩
  stable hk h := by
    obtain ⟨B, A, n, c, zs, p, ⟨q1, q2, q3, q4⟩, h2, h3⟩ := h
    refine ⟨B, A, n, c, zs, p, ⟨(hk g (.inl rfl)).trans q1, q2, ⟨q3.1, fun hn => ?_⟩, q4⟩, h2, h3⟩
    obtain ⟨b, off, e, hb, hc⟩ := q3.2 hn
    obtain ⟨b', off', e', hb'⟩ := h3 hn
    rw [e] at e'
    injection e' with e'
    injection e' with e1 e2
    subst e1
    exact ⟨b, off, e, hb, fun j u hu => (World.cell?_of_block (hk b (.inr hb'))).trans (hc j u hu)⟩

theorem callable_of {P : Program} {f : FuncId} {fn : Func} (hf : P.funcs[f]? = some fn) (hn : (fn.name == "runtime.NumGoroutine") = false) (hb : fn.body.isNone = false) : callable P f := ⟨fn, hf, hn, hb⟩

/-- what pick leaves -/
def PickPost (n : Int) (g : Nat) (m : Int) (r : SV) (N : List Hp) (p' : Hp) : Prop := (∃ k : Int, 0 ≤ k ∧ (k < n ∨ k = 0) ∧ r = .i k) ∧ N = [] ∧ p' = .cust (rdH g (m + 1))

theorem pick_c (g : Nat) (m n : Int) (hm : m ≤ 1000000000000) (hn : n ≤ 1000000000000) : SMut Try.prog 48 [.val (.pointer (some ⟨g, 0, none⟩)), .i n] (.cust (rdH g m)) (PickPost n g m) := ⟨fun R => by
  refine ⟨callable_of Try.func48 (by kernel_rfl) (by kernel_rfl), fun w F vs hs hv => ?_⟩
  match vs, hv with
  | [v1, v2], ⟨h1, h2, _⟩ =>
    simp only [Has] at h1 h2
    subst h1
    subst h2
    obtain ⟨B, A, k, c, zs, p, hR, hp, hA⟩ := hs.holds _ List.mem_cons_self
    refine (pick_any w B g A k c zs p n hR (by omega) hn).mono ?_
    rintro e w' ⟨q, hq0, hq1, rfl, hR', hT, hdr⟩
    have hb : ∀ b, b < w.heap.size → ¬ (Hp.cust (rdH g m)).fp b → w'.heap[b]? = w.heap[b]? := fun b hb hne => hT.block b hb fun e => hne (by injection e)
    refine ⟨_, rfl, .i q, F, [.cust (rdH g (m + 1)), .cust R], ⟨[], _, rfl, ⟨q, hq0, hq1, rfl⟩, rfl, rfl⟩, ⟨hT.os, hT.tape, hT.output, hT.size, fun b hF => hb b (hs.lt b hF) fun hf => (hs.fp _ List.mem_cons_self b hf).2 hF, hdr⟩, fun _ h => h, ?_, rfl⟩
    refine hs.turn hT.size hb ⟨B, A, k, c, zs, p + 1, hR', by omega, hA⟩ fun b hb' => ?_
    have := (hs.fp _ List.mem_cons_self b hb').1
    exact ⟨Nat.lt_of_lt_of_le this hT.size, .inl hb'⟩⟩

theorem rd_weak {w : World} {F : Nat → Prop} {g : Nat} {m m' : Int} (hm : m ≤ m') (h : (Hp.cust (rdH g m)).holds w F) : (Hp.cust (rdH g m')).holds w F := by
  obtain ⟨B, A, n, c, zs, p, h1, h2, h3⟩ := h
  exact ⟨B, A, n, c, zs, p, h1, by omega, h3⟩
theorem Fin.rd {r : SV} {A : List Hp} {g : Nat} {m1 m2 : Int} {R : Heaplet} {Φ : SV → List Hp → Hp → Prop} (hm : m1 ≤ m2) (h : Φ r [] (.cust (rdH g m2))) :
    Fin r (A ++ [.cust (rdH g m1), .cust R]) (fun r H' => ∃ N p', H' = N ++ [p', .cust R] ∧ Φ r N p') :=
  ⟨⟨r, [.cust (rdH g m2), .cust R], fun w F v hs hv => ⟨F, fun _ h => h, (hs.dropN (A := A)).turn (Nat.le_refl _) (fun _ _ _ => rfl) (rd_weak hm ((hs.dropN (A := A)).holds _ List.mem_cons_self)) fun b hb => ⟨((hs.dropN (A := A)).fp _ List.mem_cons_self b hb).1, .inl hb⟩, hv⟩, [], _, rfl, h⟩⟩
theorem Fin.rdA {n : Nat} {f f' : Nat → SV} {A : List Hp} {g : Nat} {m1 m2 : Int} {R : Heaplet} {Φ : SV → List Hp → Hp → Prop} (hf : ∀ k, k < n → f k = f' k) (hm : m1 ≤ m2) (h : Φ (.agg n f') [] (.cust (rdH g m2))) :
    Fin (.agg n f) (A ++ [.cust (rdH g m1), .cust R]) (fun r H' => ∃ N p', H' = N ++ [p', .cust R] ∧ Φ r N p') := by
  obtain ⟨r', H', he, hK⟩ := (Fin.rd (A := A) (R := R) hm h).h
  exact ⟨⟨r', H', fun w F v hs hv => he w F v hs (hv.agg fun k hk v hv => by rw [← hf k hk]; exact hv), hK⟩⟩
theorem eq2 {f g : Nat → SV} (h0 : f 0 = g 0) (h1 : f 1 = g 1) : ∀ k, k < 2 → f k = g k := all_lt_succ h1 (all_lt_succ h0 all_lt_zero)
theorem eq3 {f g : Nat → SV} (h0 : f 0 = g 0) (h1 : f 1 = g 1) (h2 : f 2 = g 2) : ∀ k, k < 3 → f k = g k := all_lt_succ h2 (eq2 h0 h1)
theorem eq4 {f g : Nat → SV} (h0 : f 0 = g 0) (h1 : f 1 = g 1) (h2 : f 2 = g 2) (h3 : f 3 = g 3) : ∀ k, k < 4 → f k = g k := all_lt_succ h3 (eq3 h0 h1 h2)
/-- a number between lo and hi was drawn, in at most d steps -/
def DrewI (lo hi d : Int) (g : Nat) (m : Int) (r : SV) (N : List Hp) (p' : Hp) : Prop := (∃ k : Int, lo ≤ k ∧ k ≤ hi ∧ r = .i k) ∧ N = [] ∧ p' = .cust (rdH g (m + d))
theorem pick3_c (g : Nat) (m : Int) (hm : m ≤ 1000000000000) : SMut Try.prog 48 [.val (.pointer (some ⟨g, 0, none⟩)), .i 3] (.cust (rdH g m)) fun r N p' => (r = .i 0 ∨ r = .i 1 ∨ r = .i 2) ∧ N = [] ∧ p' = .cust (rdH g (m + 1)) :=
  ⟨fun R => ((pick_c g m 3 hm (by omega)).h R).mono fun r H' ⟨N, p', e, ⟨k, h0, h1, hr⟩, hN, hp⟩ => ⟨N, p', e, by
    rcases (by omega : k = 0 ∨ k = 1 ∨ k = 2) with rfl | rfl | rfl
    · exact .inl hr
    · exact .inr (.inl hr)
    · exact .inr (.inr hr), hN, hp⟩⟩
theorem pick4_c (g : Nat) (m : Int) (hm : m ≤ 1000000000000) : SMut Try.prog 48 [.val (.pointer (some ⟨g, 0, none⟩)), .i 4] (.cust (rdH g m)) fun r N p' => (r = .i 0 ∨ r = .i 1 ∨ r = .i 2 ∨ r = .i 3) ∧ N = [] ∧ p' = .cust (rdH g (m + 1)) :=
  ⟨fun R => ((pick_c g m 4 hm (by omega)).h R).mono fun r H' ⟨N, p', e, ⟨k, h0, h1, hr⟩, hN, hp⟩ => ⟨N, p', e, by
    rcases (by omega : k = 0 ∨ k = 1 ∨ k = 2 ∨ k = 3) with rfl | rfl | rfl | rfl
    · exact .inl hr
    · exact .inr (.inl hr)
    · exact .inr (.inr (.inl hr))
    · exact .inr (.inr (.inr hr)), hN, hp⟩⟩
def u8F (z : Int) : Nat → SV := fun _ => .val (.int .u8 z)
end Go.Proofs.Ytbcmpfhemangpaa
