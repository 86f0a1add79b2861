/- append of a slice that reads, onto a row of the call's own: at a plain operation, and at a step of a region that draws. -/
import Derived.Test.YtbcmpfhemangpaaBase
import Derived.Deep.AppendLies
import Derived.Deep.RegionLaw
set_option linter.all false
namespace Go.Proofs.Ytbcmpfhemangpaa
open Go.RowKit

theorem run_append_reads' {P : Program} (w : World) (t ty : TypeId) (base : Nat) (e : TypeId) (z : Value) (size bytes : Nat) (ht : P.underlying t = some (.slice e)) (hi : (P.info? e).map (fun i => (i.zero, i.size, i.bytes)) = some (some z, size, bytes))
    (hzs : z.cells.size = size) (hsz : 0 < size) (A : Option Addr) (n c : Nat) (xs : List Value) (hown : w.ownsRow base e size (.slice A n c) n xs)
    (B : Nat) (D : Option Addr) (m k : Nat) (news : List Value) (hr : Reads w B size D m news) (h1 : ∀ u ∈ news, u.oneCell' = true)
    (h63 : n + m ≤ 1000000000) (hby : bytes ≤ 1000) (hbase : base ≤ w.heap.size) :
    ∃ A' c' w', (Builtin.append_ #[t, t] ty #[.slice A n c, .slice D m k]).run P w = .ok (.slice A' (n + m) c') w' ∧ w'.ownsRow base e size (.slice A' (n + m) c') (n + m) (xs ++ news) ∧ w.grownBy w' (Value.slice A n c).ownBlock ∧ ((Value.slice A' (n + m) c').ownBlock = (Value.slice A n c).ownBlock ∨ (Value.slice A' (n + m) c').ownBlock = some w.heap.size) := by
  obtain ⟨i, hi0, hz0, hz1, hz2⟩ := info_parts hi
  by_cases hm : m = 0
  · subst hm
    have hn : news = [] := List.eq_nil_of_length_eq_zero (by simpa using hr.1)
    subst hn
    obtain ⟨A2, c2, he, hnc, _⟩ := own_shape hown
    injection he with hA _ hc
    subst hA hc
    refine ⟨A, c, w, ?_, by simpa using hown, ⟨rfl, rfl, rfl, Nat.le_refl _, fun _ _ _ => rfl⟩, .inl (by cases A <;> rfl)⟩
    cases A <;> cases D <;> simp [Builtin.append_, run_underlying ht, sizeOf, typeInfo, hi0, Builtin.lenOf, Builtin.firstCells, loadCells, loadCellsFrom, storeCells, hnc]
  · have hmul : (n + m) * bytes ≤ 1000000000 * 1000 := Nat.mul_le_mul h63 hby
    obtain ⟨b, off, rfl, _, hc⟩ := hr.2 (by omega)
    obtain ⟨v', w', h, hown', hg, _, hb4⟩ := run_append_own_at (P := P) w base t ty e i z size bytes ht hi0 hz0 hz1 hz2 hzs hsz _ n xs hown ⟨b, off, none⟩ m k news hr.1 (fun j u hu => by
      have hadd : (⟨b, off, none⟩ : Addr).add j = ⟨b, off + j, none⟩ := by unfold Addr.add; split <;> simp_all
      rw [hadd]; exact hc j u hu) h1 (by unfold maxLen; omega) (by omega) hbase
    obtain ⟨A', c', rfl, _, _⟩ := own_shape hown'
    exact ⟨A', c', w', h, hown', hg, hb4⟩

theorem run_append_reads {P : Program} (w : World) (t ty : TypeId) (base : Nat) (e : TypeId) (z : Value) (size bytes : Nat) (ht : P.underlying t = some (.slice e)) (hi : (P.info? e).map (fun i => (i.zero, i.size, i.bytes)) = some (some z, size, bytes))
    (hzs : z.cells.size = size) (hsz : 0 < size) (A : Option Addr) (n c : Nat) (xs : List Value) (hown : w.ownsRow base e size (.slice A n c) n xs)
    (B : Nat) (D : Option Addr) (m k : Nat) (news : List Value) (hr : Reads w B size D m news) (h1 : ∀ u ∈ news, u.oneCell' = true)
    (h63 : n + m ≤ 1000000000) (hby : bytes ≤ 1000) (hbase : base ≤ w.heap.size) :
    ∃ A' c' w', (Builtin.append_ #[t, t] ty #[.slice A n c, .slice D m k]).run P w = .ok (.slice A' (n + m) c') w' ∧ w'.ownsRow base e size (.slice A' (n + m) c') (n + m) (xs ++ news) ∧ w.grownBy w' (Value.slice A n c).ownBlock := by
  obtain ⟨A', c', w', h1, h2, h3, _⟩ := run_append_reads' (P := P) w t ty base e z size bytes ht hi hzs hsz A n c xs hown B D m k news hr h1 h63 hby hbase
  exact ⟨A', c', w', h1, h2, h3⟩

theorem wp_append_reads {P : Program} (w : World) {o : Oper} {a : Act} {K : Act → World → Prop} {Q : Exit → Act → World → Prop} (s x : Operand) (t : TypeId)
    (ho : o.op = .call { callee := .builtin .append, args := #[s, x], argTypes := #[t, t] })
    (base : Nat) (e : TypeId) (z : Value) (size bytes : Nat) (ht : P.underlying t = some (.slice e)) (hi : (P.info? e).map (fun i => (i.zero, i.size, i.bytes)) = some (some z, size, bytes))
    (hzs : z.cells.size = size) (hsz : 0 < size) (A : Option Addr) (n c : Nat) (xs : List Value) (hs : a.eval s = .slice A n c) (hown : w.ownsRow base e size (.slice A n c) n xs)
    (B : Nat) (D : Option Addr) (m k : Nat) (news : List Value) (hx : a.eval x = .slice D m k) (hr : Reads w B size D m news) (h1 : ∀ u ∈ news, u.oneCell' = true)
    (h63 : n + m ≤ 1000000000) (hby : bytes ≤ 1000) (hbase : base ≤ w.heap.size)
    (h : ∀ A' c' w', w'.ownsRow base e size (.slice A' (n + m) c') (n + m) (xs ++ news) → w.grownBy w' (Value.slice A n c).ownBlock → K (a.put o.dst (.slice A' (n + m) c')) w') : o.wp P a w K Q := by
  obtain ⟨A', c', w', hr, h2, h3⟩ := run_append_reads (P := P) w t o.type base e z size bytes ht hi hzs hsz A n c xs hown B D m k news hr h1 h63 hby hbase
  unfold Oper.wp execOp
  simp only [ho, resolve, invoke, builtin, Sem.run_bind, Sem.run_pure, Result.andThen_ok, List.map_toArray, List.map_cons, List.map_nil, hs, hx, hr]
  exact h A' c' w' h2 h3

theorem wpList_append_reads {P : Program} (w : World) {ops : Array Oper} {rest : List Oper} {o : Oper} {a : Act} {Q : Exit → Act → World → Prop} (hgd : o.guard = none) (s x : Operand) (t : TypeId)
    (ho : o.op = .call { callee := .builtin .append, args := #[s, x], argTypes := #[t, t] })
    (base : Nat) (e : TypeId) (z : Value) (size bytes : Nat) (ht : P.underlying t = some (.slice e)) (hi : (P.info? e).map (fun i => (i.zero, i.size, i.bytes)) = some (some z, size, bytes))
    (hzs : z.cells.size = size) (hsz : 0 < size) (A : Option Addr) (n c : Nat) (xs : List Value) (hs : a.eval s = .slice A n c) (hown : w.ownsRow base e size (.slice A n c) n xs)
    (B : Nat) (D : Option Addr) (m k : Nat) (news : List Value) (hx : a.eval x = .slice D m k) (hr : Reads w B size D m news) (h1 : ∀ u ∈ news, u.oneCell' = true)
    (h63 : n + m ≤ 1000000000) (hby : bytes ≤ 1000) (hbase : base ≤ w.heap.size)
    (h : ∀ A' c' w', w'.ownsRow base e size (.slice A' (n + m) c') (n + m) (xs ++ news) → w.grownBy w' (Value.slice A n c).ownBlock → wpList P ops Q rest (a.put o.dst (.slice A' (n + m) c')) w') : wpList P ops Q (o :: rest) a w :=
  wpList_plain hgd fun _ hK => wp_append_reads w s x t ho base e z size bytes ht hi hzs hsz A n c xs hs hown B D m k news hx hr h1 h63 hby hbase fun A' c' w' h2 h3 => hK _ _ (h A' c' w' h2 h3)

theorem step_append_reads {P : Program} (w : World) {ops : Array Oper} {o : Oper} {a : Act} {K : Act → World → Prop} {Q : Exit → Act → World → Prop} {E : Prop} (hgd : o.guard = none) (s x : Operand) (t : TypeId)
    (ho : o.op = .call { callee := .builtin .append, args := #[s, x], argTypes := #[t, t] })
    (base : Nat) (e : TypeId) (z : Value) (size bytes : Nat) (ht : P.underlying t = some (.slice e)) (hi : (P.info? e).map (fun i => (i.zero, i.size, i.bytes)) = some (some z, size, bytes))
    (hzs : z.cells.size = size) (hsz : 0 < size) (A : Option Addr) (n c : Nat) (xs : List Value) (hs : a.eval s = .slice A n c) (hown : w.ownsRow base e size (.slice A n c) n xs)
    (B : Nat) (D : Option Addr) (m k : Nat) (news : List Value) (hx : a.eval x = .slice D m k) (hr : Reads w B size D m news) (h1 : ∀ u ∈ news, u.oneCell' = true)
    (h63 : n + m ≤ 1000000000) (hby : bytes ≤ 1000) (hbase : base ≤ w.heap.size)
    (h : ∀ A' c' w', w'.ownsRow base e size (.slice A' (n + m) c') (n + m) (xs ++ news) → w.grownBy w' (Value.slice A n c).ownBlock → K (a.put o.dst (.slice A' (n + m) c')) w') :
    if Region.wanted o (yielded ops a.tmps) = true then Oper.wp P o a w K Q else E := by
  have hw : Region.wanted o (yielded ops a.tmps) = true := by simp [Region.wanted, hgd]
  rw [if_pos hw]
  exact wp_append_reads w s x t ho base e z size bytes ht hi hzs hsz A n c xs hs hown B D m k news hx hr h1 h63 hby hbase h

theorem own_empty {w : World} {g base : Nat} {e : TypeId} {size : Nat} (h : Box w g e #[]) (hb : base ≤ g) : w.ownsRow base e size (.slice (some ⟨g, 0, none⟩) 0 0) 0 [] :=
  ⟨by simp, .inr ⟨g, 0, #[], rfl, hb, h, Nat.le_refl _, by simp [maxLen], by simp, by simp⟩⟩

theorem Box.new' (w : World) (t : TypeId) (cs : Array Value) (k : Nat) (h : w.heap.size = k) : Box (w.alloc (.cells cs t)) k t cs := h ▸ Box.new w t cs

/-- append onto an empty slice that was just written out -/
theorem wp_clone {P : Program} {w : World} {o : Oper} {a : Act} {K : Act → World → Prop} {Q : Exit → Act → World → Prop} (s x : Operand) (t : TypeId)
    (ho : o.op = .call { callee := .builtin .append, args := #[s, x], argTypes := #[t, t] })
    (base : Nat) (e : TypeId) (z : Value) (size bytes : Nat) (ht : P.underlying t = some (.slice e)) (hi : (P.info? e).map (fun i => (i.zero, i.size, i.bytes)) = some (some z, size, bytes))
    (hzs : z.cells.size = size) (hsz : 0 < size) (g : Nat) (hs : a.eval s = .slice (some ⟨g, 0, none⟩) 0 0) (hbox : Box w g e #[]) (hb : base ≤ g)
    (B : Nat) (D : Option Addr) (m k : Nat) (news : List Value) (hx : a.eval x = .slice D m k) (hr : Reads w B size D m news) (h1 : ∀ u ∈ news, u.oneCell' = true)
    (h63 : m ≤ 1000000000) (hby : bytes ≤ 1000)
    (h : ∀ A' c' w', w'.ownsRow base e size (.slice A' m c') m news → Touch g w w' → K (a.put o.dst (.slice A' m c')) w') : o.wp P a w K Q := by
  refine wp_append_reads w s x t ho base e z size bytes ht hi hzs hsz _ 0 0 [] hs (own_empty hbox hb) B D m k news hx hr h1 (by omega) hby (by have := hbox.lt; omega) fun A' c' w' h2 h3 => ?_
  rw [Nat.zero_add] at h2 ⊢
  exact h A' c' w' (by simpa using h2) h3

/-- append onto an empty slice that was just written out, at a step of a region that draws -/
theorem step_clone {P : Program} (w : World) {ops : Array Oper} {o : Oper} {a : Act} {K : Act → World → Prop} {Q : Exit → Act → World → Prop} {E : Prop} (hgd : o.guard = none) (s x : Operand) (t : TypeId)
    (ho : o.op = .call { callee := .builtin .append, args := #[s, x], argTypes := #[t, t] })
    (base : Nat) (e : TypeId) (z : Value) (size bytes : Nat) (ht : P.underlying t = some (.slice e)) (hi : (P.info? e).map (fun i => (i.zero, i.size, i.bytes)) = some (some z, size, bytes))
    (hzs : z.cells.size = size) (hsz : 0 < size) (g : Nat) (hbox : Box w g e #[]) (hb : base ≤ g) (hs : a.eval s = .slice (some ⟨g, 0, none⟩) 0 0)
    (B : Nat) (D : Option Addr) (m k : Nat) (news : List Value) (hx : a.eval x = .slice D m k) (hr : Reads w B size D m news) (h1 : ∀ u ∈ news, u.oneCell' = true)
    (h63 : m ≤ 1000000000) (hby : bytes ≤ 1000)
    (h : ∀ A' c' w', w'.ownsRow base e size (.slice A' m c') m news → Touch g w w' → K (a.put o.dst (.slice A' m c')) w') :
    if Region.wanted o (yielded ops a.tmps) = true then Oper.wp P o a w K Q else E := by
  refine step_append_reads w hgd s x t ho base e z size bytes ht hi hzs hsz _ 0 0 [] hs (own_empty hbox hb) B D m k news hx hr h1 (by omega) hby (by have := hbox.lt; omega) fun A' c' w' h2 h3 => ?_
  rw [Nat.zero_add] at h2 ⊢
  exact h A' c' w' (by simpa using h2) h3

end Go.Proofs.Ytbcmpfhemangpaa
