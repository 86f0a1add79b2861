/- Borrowing owned memory for a call; freezing it; contracts from older ones. -/
import Derived.Test.YtbcmpfhemangpaaSxT
set_option linter.all false

namespace Go.Proofs.Ytbcmpfhemangpaa
open Go.RowKit

theorem row_sl {w : World} {F F' : Nat → Prop} {v : Value} {e : TypeId} {sz n : Nat} {f : Nat → Nat → SV} (h : (Hp.row v e sz n f).holds w F) (hF : ∀ b, F b → F' b) (hv : ∀ b, v.ownBlock = some b → F' b) : Has w F' (.sl sz n f) v := by
  obtain ⟨xs, ho, hc⟩ := h
  rcases ho.2 with ⟨rfl, rfl⟩ | ⟨g, cap, cur, rfl, _, hg, hnc, hcm, _⟩
  · exact ⟨none, 0, rfl, Nat.le_refl _, Nat.zero_le _, fun h => absurd h (by omega)⟩
  · refine ⟨_, cap, rfl, hnc, hcm, fun hp => ⟨g, 0, rfl, hv g rfl, fun i k hi hk => ?_⟩⟩
    have hcell := row_cells (w := w) (F := F) (g := g) ⟨xs, ho, hc⟩ rfl hi k hk
    obtain ⟨u, h1, h2, h3⟩ := hcell
    exact ⟨u, by rw [Nat.zero_add]; exact h1, h2, h3.mono hF⟩
theorem row_all {w : World} {F : Nat → Prop} {H : List Hp} {v : Value} {e : TypeId} {sz n : Nat} {f : Nat → Nat → SV} (hs : HSat w F H) (h : Hp.row v e sz n f ∈ H) : Has w (fun b => b < w.heap.size) (.sl sz n f) v :=
  row_sl (hs.holds _ h) hs.lt fun b hb => (hs.fp _ h b hb).1

/-! ### freezing -/
theorem HSat.freeze {w : World} {F : Nat → Prop} {h : Hp} {l : List Hp} (hs : HSat w F (h :: l)) : HSat w (fun b => F b ∨ h.fp b) l := by
  have hap := List.pairwise_cons.1 hs.apart
  refine ⟨fun x hx => Hp.mono (fun b => .inl) (hs.holds x (List.mem_cons_of_mem _ hx)), fun x hx b hb => ?_, hap.2, fun b hb => hb.elim (hs.lt b) fun hb => (hs.fp h List.mem_cons_self b hb).1⟩
  have := hs.fp x (List.mem_cons_of_mem _ hx) b hb
  exact ⟨this.1, fun h1 => h1.elim this.2 fun h1 => hap.1 x hx b h1 hb⟩
theorem Ent.trans {r r' r'' : SV} {H H' H'' : List Hp} (h1 : Ent r H r' H') (h2 : Ent r' H' r'' H'') : Ent r H r'' H'' := fun w F v hs hv => by
  obtain ⟨F1, a1, a2, a3⟩ := h1 w F v hs hv
  obtain ⟨F2, b1, b2, b3⟩ := h2 w F1 v a2 a3
  exact ⟨F2, fun b hb => b1 b (a1 b hb), b2, b3⟩
theorem Ent.perm {r : SV} {H H' : List Hp} (h : H.Perm H') : Ent r H r H' := fun w F v hs hv => ⟨F, fun _ h => h, hs.perm h, hv⟩
/-- the first piece, a row, stands still from here on: what was owned reads -/
theorem Ent.row {r r' : SV} {v : Value} {e : TypeId} {sz n : Nat} {f : Nat → Nat → SV} {H : List Hp} (h : ∀ w F x, Has w F (.sl sz n f) v → Has w F r x → Has w F r' x) : Ent r (.row v e sz n f :: H) r' H := fun w F x hs hx =>
  ⟨_, fun _ => .inl, hs.freeze, h w _ x (row_sl (hs.holds _ List.mem_cons_self) (fun b => .inl) fun b hb => .inr hb) (hx.mono fun b => .inl)⟩
theorem all_lt_succ {p : Nat → Prop} {n : Nat} (h1 : p n) (h2 : ∀ k, k < n → p k) : ∀ k, k < n + 1 → p k := fun k hk => by
  rcases Nat.lt_succ_iff_lt_or_eq.1 hk with h | rfl
  · exact h2 k h
  · exact h1
theorem all_lt_zero {p : Nat → Prop} : ∀ k, k < 0 → p k := fun k hk => absurd hk (by omega)
theorem Has.agg {w : World} {F : Nat → Prop} {n : Nat} {f g : Nat → SV} {x : Value} (h : ∀ k, k < n → ∀ v, Has w F (f k) v → Has w F (g k) v) (hx : Has w F (.agg n f) x) : Has w F (.agg n g) x := by
  obtain ⟨vs, e, hn, hc⟩ := hx
  exact ⟨vs, e, hn, fun k hk => h k hk _ (hc k hk)⟩
theorem Has.tup {w : World} {F : Nat → Prop} {n : Nat} {f g : Nat → SV} {x : Value} (h : ∀ k, k < n → ∀ v, Has w F (f k) v → Has w F (g k) v) (hx : Has w F (.tup n f) x) : Has w F (.tup n g) x := by
  obtain ⟨vs, e, hn, hc⟩ := hx
  exact ⟨vs, e, hn, fun k hk => h k hk _ (hc k hk)⟩

/-! ### contracts of the older form -/
theorem HSat.below {w w' : World} {F : Nat → Prop} {H : List Hp} (hs : HSat w F H) (hb : Below w.heap.size w w') (hd : w.drawn ≤ w'.drawn) : HSat w' F H ∧ Keep F w w' :=
  ⟨hs.same hb.size hb.block, ⟨hb.os, hb.tape, hb.output, hb.size, fun b hF => hb.block b (hs.lt b hF), hd⟩⟩
theorem HasL.all {w : World} {F : Nat → Prop} {H : List Hp} (hs : HSat w F H) : ∀ {ss : List SV} {vs : List Value}, HasL w F ss vs → HasL w (fun b => b < w.heap.size) ss vs
  | [], [], _ => trivial
  | s :: ss, v :: vs, h => ⟨h.1.mono hs.lt, HasL.all hs h.2⟩
  | [], _ :: _, h => h.elim
  | _ :: _, [], h => h.elim
theorem SRet.of_val {P : Program} {f : FuncId} {ss : List SV} {v : Value} (hc : callable P f) (h : ∀ w vs, HasL w (fun b => b < w.heap.size) ss vs → Calls P f vs.toArray w fun e w' => e = .returned v ∧ Below w.heap.size w w' ∧ w.drawn ≤ w'.drawn) : SRet P f ss (· = .val v) :=
  ⟨fun R => ⟨hc, fun w F vs hs hv => (h w vs (hv.all hs)).mono fun e w' ⟨he, hb, hd⟩ => ⟨v, he, .val v, F, _, ⟨rfl, rfl⟩, (hs.below hb hd).2, fun _ h => h, (hs.below hb hd).1, rfl⟩⟩⟩
end Go.Proofs.Ytbcmpfhemangpaa
