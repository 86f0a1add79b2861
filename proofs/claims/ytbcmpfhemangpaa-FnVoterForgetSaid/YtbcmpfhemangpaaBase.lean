/- Words for memory: a slice that reads as a list of cells, a block that is known whole, frames. -/
import Derived.Test.YtbcmpfhemangpaaProg
import Derived.WalkKit
import Derived.WalkSpells
import Derived.WalkLawsBesides
import Derived.Lib.Hide
import Derived.Deep.QuietTactic
import Derived.BigQuiet
set_option linter.all false
namespace Go.Proofs.Ytbcmpfhemangpaa
open Go.RowKit

theorem hide {p : Prop} (h : p) : Hid p := h
theorem ret_int {k : IntKind} {a b : Int} (h : a = b) : Ending.returned (.int k a) = .returned (.int k b) := by rw [h]
theorem ret_bool {a b : Bool} (h : a = b) : Ending.returned (.bool a) = .returned (.bool b) := by rw [h]

theorem same_get {α : Type} {l : List α} {i : Nat} {x y : α} (h : l[i]? = some x) (h' : l[i]? = some y) : x = y := by rw [h] at h'; injection h'

/-- The slice value '.slice A n c' holds the cells xs and lies below block B (nil and empty ones let in). -/
def Reads (w : World) (B size : Nat) (A : Option Addr) (n : Nat) (xs : List Value) : Prop :=
  xs.length = n * size ∧ (0 < n → ∃ b off, A = some ⟨b, off, none⟩ ∧ b < B ∧ ∀ j u, xs[j]? = some u → w.cell? ⟨b, off + j, none⟩ = some u)

/-- Block g is just the cells cs of element type t, none of them frozen. -/
def Box (w : World) (g : Nat) (t : TypeId) (cs : Array Value) : Prop := w.heap[g]? = some (.cells cs t (0, 0))

/-- w' is w with new blocks, and block g may have turned. -/
def Touch (g : Nat) (w w' : World) : Prop := w.grownBy w' (some g)

section
variable {w w' w'' : World} {B B' size n g : Nat} {A : Option Addr} {xs : List Value} {t : TypeId} {cs : Array Value}

theorem Box.lt (h : Box w g t cs) : g < w.heap.size := by
  rcases Nat.lt_or_ge g w.heap.size with hlt | hge
  · exact hlt
  · unfold Box at h; rw [Array.getElem?_eq_none hge] at h; cases h
theorem Box.cell (h : Box w g t cs) (i : Nat) : w.cell? ⟨g, i, none⟩ = cs[i]? := by
  unfold Box at h; simp [World.cell?, h]
theorem Box.frozen (h : Box w g t cs) (i : Nat) : w.frozen? ⟨g, i, none⟩ = false := by
  unfold Box at h; simp [World.frozen?, h]
theorem Box.new (w : World) (t : TypeId) (cs : Array Value) : Box (w.alloc (.cells cs t)) w.heap.size t cs := by
  unfold Box; show (w.heap.push _)[w.heap.size]? = _; simp
theorem Box.drew (h : Box w g t cs) : Box w.drew g t cs := h
theorem Box.drewN (h : Box w g t cs) (k : Nat) : Box (w.drewN k) g t cs := h
theorem Box.alloc (h : Box w g t cs) (o : Obj) : Box (w.alloc o) g t cs := (Below.heap_alloc w o g h.lt).trans h
theorem Box.put (h : Box w g t cs) (i : Nat) (u : Value) : Box (w.setCell ⟨g, i, none⟩ u) g t (cs.setIfInBounds i u) := by
  unfold Box at h ⊢
  simp [World.setCell, Array.getElem?_modify, h]
theorem Box.far (h : Box w g t cs) {p : Addr} (hp : g ≠ p.block) (u : Value) : Box (w.setCell p u) g t cs := (Below.heap_setCell w p u g hp).trans h
theorem Box.off (h : Box w g t cs) {b o : Nat} (hp : g ≠ b) (u : Value) : Box (w.setCell ⟨b, o, none⟩ u) g t cs := h.far hp u
theorem Box.below (h : Box w g t cs) (hb : Below B w w') (hg : g < B) : Box w' g t cs := (hb.block g hg).trans h
theorem Box.touch {k : Nat} (h : Box w g t cs) (hb : Touch k w w') (hg : g ≠ k) : Box w' g t cs := (hb.block g h.lt (by simpa using hg)).trans h

theorem Touch.refl (w : World) : Touch g w w := ⟨rfl, rfl, rfl, Nat.le_refl _, fun _ _ _ => rfl⟩
theorem Touch.trans (h : Touch g w w') (k : Touch g w' w'') : Touch g w w'' :=
  ⟨k.os.trans h.os, k.tape.trans h.tape, k.output.trans h.output, Nat.le_trans h.size k.size, fun i hi hne => (k.block i (Nat.lt_of_lt_of_le hi h.size) hne).trans (h.block i hi hne)⟩
theorem Touch.drew (h : Touch g w w') : Touch g w w'.drew := ⟨h.os, h.tape, h.output, h.size, h.block⟩
theorem Touch.drewN (h : Touch g w w') (n : Nat) : Touch g w (w'.drewN n) := ⟨h.os, h.tape, h.output, h.size, h.block⟩
theorem Touch.alloc (h : Touch g w w') (o : Obj) : Touch g w (w'.alloc o) :=
  ⟨h.os, h.tape, h.output, Nat.le_trans h.size (by simp), fun i hi hne => (Below.heap_alloc w' o i (Nat.lt_of_lt_of_le hi h.size)).trans (h.block i hi hne)⟩
theorem Touch.setCell (h : Touch g w w') {p : Addr} (hp : p.block = g ∨ w.heap.size ≤ p.block) (u : Value) : Touch g w (w'.setCell p u) :=
  ⟨h.os, h.tape, h.output, by simpa [World.setCell] using h.size, fun i hi hne => (Below.heap_setCell w' p u i (by
    rintro rfl
    rcases hp with hp | hp
    · exact hne (by rw [hp])
    · omega)).trans (h.block i hi hne)⟩
theorem Touch.put (h : Touch g w w') {b o : Nat} (hp : b = g ∨ w.heap.size ≤ b) (u : Value) : Touch g w (w'.setCell ⟨b, o, none⟩ u) := h.setCell hp u
theorem Touch.of_below (h : Below w.heap.size w w') : Touch g w w' := ⟨h.os, h.tape, h.output, h.size, fun i hi _ => h.block i hi⟩
theorem Touch.below_le (h : Touch g w w') (hg : B ≤ g) (hB : B ≤ w.heap.size) : Below B w w' := ⟨h.os, h.tape, h.output, h.size, fun i hi => h.block i (by omega) (by simp; omega)⟩
theorem Touch.cell (h : Touch g w w') {b o : Nat} (hb : b < w.heap.size) (hne : b ≠ g) : w'.cell? ⟨b, o, none⟩ = w.cell? ⟨b, o, none⟩ :=
  World.cell?_of_block (h.block b hb (by simpa using hne))
theorem Touch.frozen (h : Touch g w w') {b o : Nat} (hb : b < w.heap.size) (hne : b ≠ g) : w'.frozen? ⟨b, o, none⟩ = w.frozen? ⟨b, o, none⟩ :=
  World.frozen?_of_block (h.block b hb (by simpa using hne))

theorem Reads.nil : Reads w B size A 0 [] := ⟨by simp, fun h => absurd h (by omega)⟩
theorem Reads.keep (h : Reads w B size A n xs) (hk : ∀ b o, b < B → w'.cell? ⟨b, o, none⟩ = w.cell? ⟨b, o, none⟩) : Reads w' B size A n xs :=
  ⟨h.1, fun hn => by
    obtain ⟨b, off, e, hb, hc⟩ := h.2 hn
    exact ⟨b, off, e, hb, fun j u hu => (hk _ _ hb).trans (hc j u hu)⟩⟩
theorem Reads.more (h : Reads w B size A n xs) (hB : B ≤ B') : Reads w B' size A n xs :=
  ⟨h.1, fun hn => by
    obtain ⟨b, off, e, hb, hc⟩ := h.2 hn
    exact ⟨b, off, e, by omega, hc⟩⟩
theorem Reads.below (h : Reads w B size A n xs) (hb : Below B w w') : Reads w' B size A n xs := h.keep fun _ _ hp => hb.cell hp
theorem Reads.touch (h : Reads w B size A n xs) (hb : Touch g w w') (hg : B ≤ g) (hB : B ≤ w.heap.size) : Reads w' B size A n xs := h.below (hb.below_le hg hB)
theorem Reads.drew (h : Reads w B size A n xs) : Reads w.drew B size A n xs := h
theorem Reads.drewN (h : Reads w B size A n xs) (k : Nat) : Reads (w.drewN k) B size A n xs := h
theorem Reads.alloc (h : Reads w B size A n xs) (hB : B ≤ w.heap.size) (o : Obj) : Reads (w.alloc o) B size A n xs := h.below ((Below.refl _ _).alloc hB o)
theorem Reads.setCell (h : Reads w B size A n xs) {p : Addr} (hB : B ≤ p.block) (u : Value) : Reads (w.setCell p u) B size A n xs := h.below ((Below.refl _ _).setCell hB u)
theorem Reads.put (h : Reads w B size A n xs) {b o : Nat} (hB : B ≤ b) (u : Value) : Reads (w.setCell ⟨b, o, none⟩ u) B size A n xs := h.setCell hB u
theorem below_put {a : World} (h : Below B a w) {b o : Nat} (hp : B ≤ b) (u : Value) : Below B a (w.setCell ⟨b, o, none⟩ u) := h.setCell hp u
theorem below_drewN {a : World} (h : Below B a w) (k : Nat) : Below B a (w.drewN k) := ⟨h.os, h.tape, h.output, h.size, h.block⟩
theorem Reads.of_own {base : Nat} {e : TypeId} {c : Nat} (h : w.ownsRow base e size (.slice A n c) n xs) : Reads w w.heap.size size A n xs := by
  refine ⟨h.1, fun hn => ?_⟩
  rcases h.2 with ⟨hv, h0⟩ | ⟨g, cap, cur, hv, hb, hh, hnc, hcm, hsz, htake⟩
  · omega
  · injection hv with hA
    subst hA
    refine ⟨g, 0, rfl, (Array.getElem?_eq_some_iff.1 hh).1, fun j u hu => ?_⟩
    have hx : (Box w g e cur) := hh
    rw [hx.cell]
    rw [← htake, List.getElem?_take] at hu
    split at hu
    · simpa using hu
    · cases hu
end

theorem own_shape {w : World} {base : Nat} {e : TypeId} {size : Nat} {v : Value} {n : Nat} {xs : List Value} (h : w.ownsRow base e size v n xs) : ∃ A c, v = .slice A n c ∧ n ≤ c ∧ c ≤ maxLen := by
  rcases h.2 with ⟨rfl, rfl⟩ | ⟨g, cap, cur, rfl, _, _, h1, h2, _⟩
  · exact ⟨none, 0, rfl, Nat.le_refl _, Nat.zero_le _⟩
  · exact ⟨_, cap, rfl, h1, h2⟩

/-- append of elements that were just written out ('append(s, x)', 'append(s, x, y)'), onto a row of the call's own -/
theorem wpList_append_lit {P : Program} {ops : Array Oper} {rest : List Oper} {o : Oper} {a : Act} {Q : Exit → Act → World → Prop} (w : World) (hgd : o.guard = none) (s x : Operand) (t : TypeId)
    (ho : o.op = .call { callee := .builtin .append, args := #[s, x], argTypes := #[t, t] })
    (base : Nat) (e : TypeId) (z : Value) (size bytes : Nat) (ht : P.underlying t = some (.slice e)) (hi : (P.info? e).map (fun i => (i.zero, i.size, i.bytes)) = some (some z, size, bytes))
    (hzs : z.cells.size = size) (hsz : 0 < size) (A : Option Addr) (n c : Nat) (xs : List Value) (hs : a.eval s = .slice A n c) (hown : w.ownsRow base e size (.slice A n c) n xs)
    (news : Array Value) (et : TypeId) (m k : Nat) (hx : a.eval x = .slice (some ⟨w.heap.size, 0, none⟩) m k) (hl : news.size = m * size) (h1 : ∀ u ∈ news.toList, u.oneCell' = true)
    (h63 : n + m ≤ 1000000000) (hby : bytes ≤ 1000) (hbase : base ≤ w.heap.size)
    (h : ∀ A' c' w', w'.ownsRow base e size (.slice A' (n + m) c') (n + m) (xs ++ news.toList) → w.grownBy w' (Value.slice A n c).ownBlock → wpList P ops Q rest (a.put o.dst (.slice A' (n + m) c')) w') :
    wpList P ops Q (o :: rest) a (w.alloc (.cells news et)) := by
  obtain ⟨i, hi0, hz0, hz1, hz2⟩ := info_parts hi
  have hmul : (n + m) * bytes ≤ 1000000000 * 1000 := Nat.mul_le_mul h63 hby
  refine wpList_append_own _ hgd s x t ho base e i z size bytes ht hi0 hz0 hz1 hz2 hzs hsz _ n xs hs (hown.alloc _) ⟨w.heap.size, 0, none⟩ m k news.toList hx (by simpa using hl) (fun j u hu => ?_) h1 (by unfold maxLen; omega) (by omega) (by simp; omega) ?_
  · have hadd : (⟨w.heap.size, 0, none⟩ : Addr).add j = ⟨w.heap.size, j, none⟩ := by unfold Addr.add; split <;> simp_all
    rw [hadd, (Box.new w et news).cell]
    simpa using hu
  · intro v' w' hown' hg _
    obtain ⟨A', c', rfl, _, _⟩ := own_shape hown'
    exact h A' c' w' hown' ((World.grownBy_alloc w _ _).trans hg)

/-- a world that is as w was below block B -/
structure Kept (B : Nat) (w : World) where
  val : World
  ok : Below B w val

instance (B : Nat) (w : World) : Nonempty (Kept B w) := ⟨⟨w, Below.refl B w⟩⟩

/-- A region that draws its order, whose operations read below block B and whose callees make memory alone: walked once, in the order of the text. -/
theorem wp_region_kept {P : Program} {id : Nat} {Q : Exit → Act → World → Prop} {a : Act} {w : World} {l : List Oper} (B : Nat) (hm : P.follows .mixedOrders = true) (hB : Region.lexB .any l.toArray = true)
    (h : wpQuiet P l.toArray (fun w' => ∃ x : Kept B w, w' = x.val) (fun a' => ∀ w', (∃ x : Kept B w, w' = x.val) → Q .normal a' w') l a) : (Code.region id l.toArray true).wp P Q a w :=
  wp_region_quiet (C := fun w' => ∃ x : Kept B w, w' = x.val) hm hB ⟨⟨_, (Below.refl B w).drew⟩, rfl⟩ (by simpa using h)

theorem Calls.kept {P : Program} {f : FuncId} {args : Array Value} {B : Nat} {w : World} {x : Kept B w} {v : Value}
    (h : Calls P f args x.val fun e w' => e = .returned v ∧ Below B x.val w') : Calls P f args x.val fun e w'' => e = .returned v ∧ ∃ y : Kept B w, w'' = y.val :=
  h.mono fun _ w' ⟨he, hw⟩ => ⟨he, ⟨w', x.ok.trans hw⟩, rfl⟩
theorem Calls.kept_same {P : Program} {f : FuncId} {args : Array Value} {B : Nat} {w : World} {x : Kept B w} {v : Value}
    (h : Calls P f args x.val fun e w' => e = .returned v ∧ x.val = w') : Calls P f args x.val fun e w'' => e = .returned v ∧ ∃ y : Kept B w, w'' = y.val :=
  h.mono fun _ _ ⟨he, hw⟩ => ⟨he, x, hw.symm⟩
theorem Calls.kept_alloc {P : Program} {f : FuncId} {args : Array Value} {B : Nat} {w : World} {x : Kept B w} {v : Value} {o : Obj} (hB : B ≤ w.heap.size)
    (h : Calls P f args x.val fun e w' => e = .returned v ∧ x.val.alloc o = w') : Calls P f args x.val fun e w'' => e = .returned v ∧ ∃ y : Kept B w, w'' = y.val :=
  h.mono fun _ _ ⟨he, hw⟩ => ⟨he, ⟨_, x.ok.alloc (Nat.le_trans hB x.ok.size) o⟩, hw.symm⟩
theorem Kept.box {B g : Nat} {w : World} {t : TypeId} {cs : Array Value} (x : Kept B w) (h : Box w g t cs) (hg : g < B) : Box x.val g t cs := h.below x.ok hg
theorem Kept.reads {B size n : Nat} {w : World} {A : Option Addr} {xs : List Value} (x : Kept B w) (h : Reads w B size A n xs) : Reads x.val B size A n xs := h.below x.ok

/-- the reader of a code: its box, and the bytes, below B -/
def Rd (w : World) (B g : Nat) (A : Option Addr) (n c : Nat) (zs : List Int) (p : Int) : Prop :=
  Box w g 96 #[.slice A n c, .int .i64 p] ∧ n ≤ 2000 ∧ Reads w B 1 A n (zs.map (Value.int .u8)) ∧ (∀ z ∈ zs, 0 ≤ z ∧ z ≤ 255) ∧ 0 ≤ p ∧ (0 < n → ∀ a, A = some a → a.block ≠ g)

end Go.Proofs.Ytbcmpfhemangpaa
