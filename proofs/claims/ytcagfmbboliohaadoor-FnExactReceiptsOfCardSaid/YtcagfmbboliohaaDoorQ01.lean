/- Texts of this proof put together: Mk, Base, Dw, SxA, App. -/
import Derived.Test.YtcagfmbboliohaaDoorProg
import Derived.WalkKit
import Derived.WalkSpells
import Derived.WalkLawsBesides
import Derived.Lib.Hide
import Derived.Deep.QuietTactic
import Derived.BigQuiet
import Derived.StillTail
import Derived.Laws.AppendOwn
import Derived.Deep.AppendLies
import Derived.Deep.RegionLaw
/-! YtcagfmbboliohaaDoorMk -/
namespace Go.Proofs.YtcagfmbboliohaaDoor

/-- the digest of two digests -/
def hp (a b : Int) : Int := (31 * a + 17 * b + 5).tmod 991
abbrev isD (z : Int) : Prop := 0 ≤ z ∧ z < 991
theorem hp_emod {a b : Int} (ha : 0 ≤ a) (hb : 0 ≤ b) : hp a b = (31 * a + 17 * b + 5) % 991 := Int.tmod_eq_emod_of_nonneg (by omega)
theorem hp_d {a b : Int} (ha : isD a) (hb : isD b) : isD (hp a b) := by rw [hp_emod ha.1 hb.1]; omega
theorem hp_inj1 {a a' b : Int} (ha : isD a) (ha' : isD a') (hb : isD b) (h : hp a b = hp a' b) : a = a' := by
  rw [hp_emod ha.1 hb.1, hp_emod ha'.1 hb.1] at h; omega
theorem hp_inj2 {a b b' : Int} (ha : isD a) (hb : isD b) (hb' : isD b') (h : hp a b = hp a b') : b = b' := by
  rw [hp_emod ha.1 hb.1, hp_emod ha.1 hb'.1] at h; omega
/-- the other node of a pair -/
def sib (i : Nat) : Nat := if i % 2 = 0 then i + 1 else i - 1
/-- the next level -/
def upL : List Int → List Int
  | a :: b :: l => hp a b :: upL l
  | l => l
theorem upL_len : ∀ {l : List Int}, (upL l).length = (l.length + 1) / 2
  | [] => rfl
  | [_] => by simp [upL]
  | a :: b :: l => by
    rw [upL, List.length_cons, upL_len, List.length_cons, List.length_cons]
    omega
theorem upL_two : ∀ {l : List Int} {i : Nat}, 2 * i + 1 < l.length → (upL l).getD i default = hp (l.getD (2 * i) default) (l.getD (2 * i + 1) default)
  | [], i, h => absurd h (by simp)
  | [_], i, h => absurd h (by simp)
  | a :: b :: l, 0, _ => rfl
  | a :: b :: l, i + 1, h => by
    have hl : 2 * i + 1 < l.length := by simp only [List.length_cons] at h; omega
    have ih := upL_two (l := l) (i := i) hl
    rw [upL, List.getD_cons_succ, ih, show 2 * (i + 1) = 2 * i + 1 + 1 by omega, List.getD_cons_succ, List.getD_cons_succ, List.getD_cons_succ, List.getD_cons_succ]
theorem upL_one : ∀ {l : List Int} {i : Nat}, 2 * i + 1 = l.length → (upL l).getD i default = l.getD (2 * i) default
  | [], i, h => absurd h (by simp)
  | [a], i, h => by
    have : i = 0 := by simp only [List.length_cons, List.length_nil] at h; omega
    subst this; rfl
  | a :: b :: l, 0, h => absurd h (by simp)
  | a :: b :: l, i + 1, h => by
    have hl : 2 * i + 1 = l.length := by simp only [List.length_cons] at h; omega
    have ih := upL_one (l := l) (i := i) hl
    rw [upL, List.getD_cons_succ, ih, show 2 * (i + 1) = 2 * i + 1 + 1 by omega, List.getD_cons_succ, List.getD_cons_succ]
def allD (l : List Int) : Prop := ∀ z ∈ l, isD z
theorem allD.getD {l : List Int} (h : allD l) {i : Nat} (hi : i < l.length) : isD (l.getD i default) := by
  rw [List.getD_eq_getElem?_getD, List.getElem?_eq_getElem hi]
  exact h _ (List.getElem_mem hi)
theorem allD.up : ∀ {l : List Int}, allD l → allD (upL l)
  | [], h => h
  | [_], h => h
  | a :: b :: l, h => fun z hz => by
    rw [upL] at hz
    rcases List.mem_cons.1 hz with rfl | hz
    · exact hp_d (h a (by simp)) (h b (by simp))
    · exact allD.up (l := l) (fun y hy => h y (by simp [hy])) z hz
/-- the proof of a leaf -/
def prf (l : List Int) (i : Nat) : List Int := if l.length ≤ 1 then [] else (if sib i < l.length then [l.getD (sib i) default] else []) ++ prf (upL l) (i / 2)
termination_by l.length
decreasing_by rw [upL_len]; omega
theorem prf_one {l : List Int} {i : Nat} (h : l.length ≤ 1) : prf l i = [] := by rw [prf, if_pos h]
theorem prf_in {l : List Int} {i : Nat} (h : ¬ l.length ≤ 1) (hs : sib i < l.length) : prf l i = l.getD (sib i) default :: prf (upL l) (i / 2) := by rw [prf, if_neg h, if_pos hs]; rfl
theorem prf_out {l : List Int} {i : Nat} (h : ¬ l.length ≤ 1) (hs : ¬ sib i < l.length) : prf l i = prf (upL l) (i / 2) := by rw [prf, if_neg h, if_neg hs]; rfl
def rootL (l : List Int) : Int := if l.length ≤ 1 then l.getD 0 default else rootL (upL l)
termination_by l.length
decreasing_by rw [upL_len]; omega
theorem rootL_one {l : List Int} (h : l.length ≤ 1) : rootL l = l.getD 0 default := by rw [rootL, if_pos h]
theorem rootL_up {l : List Int} (h : ¬ l.length ≤ 1) : rootL l = rootL (upL l) := by rw [rootL, if_neg h]
/-- what a proof leads to, and what is left of it -/
def climb (size i : Nat) (n : Int) (pf : List Int) : Option (Int × List Int) :=
  if size ≤ 1 then some (n, pf) else if sib i < size then
    match pf with
    | [] => none
    | p :: r => climb ((size + 1) / 2) (i / 2) (if i % 2 = 0 then hp n p else hp p n) r
  else climb ((size + 1) / 2) (i / 2) n pf
termination_by size
theorem climb_one {size i : Nat} {n : Int} {pf : List Int} (h : size ≤ 1) : climb size i n pf = some (n, pf) := by rw [climb.eq_def, if_pos h]
theorem climb_out {size i : Nat} {n : Int} {pf : List Int} (h : ¬ size ≤ 1) (hs : ¬ sib i < size) : climb size i n pf = climb ((size + 1) / 2) (i / 2) n pf := by rw [climb.eq_def, if_neg h, if_neg hs]
theorem climb_nil {size i : Nat} {n : Int} (h : ¬ size ≤ 1) (hs : sib i < size) : climb size i n [] = none := by rw [climb.eq_def, if_neg h, if_pos hs]
theorem climb_in {size i : Nat} {n p : Int} {r : List Int} (h : ¬ size ≤ 1) (hs : sib i < size) : climb size i n (p :: r) = climb ((size + 1) / 2) (i / 2) (if i % 2 = 0 then hp n p else hp p n) r := by rw [climb.eq_def, if_neg h, if_pos hs]
theorem climb_more {z : Int} : ∀ (size i : Nat) (n : Int) (pf : List Int) (v : Int) (r : List Int), climb size i n pf = some (v, r) → climb size i n (pf ++ [z]) = some (v, r ++ [z]) := by
  intro size
  induction size using Nat.strongRecOn with
  | _ size ih =>
    intro i n pf v r h
    by_cases h1 : size ≤ 1
    · rw [climb_one h1] at h ⊢
      injection h with h; injection h with h2 h3
      rw [h2, h3]
    by_cases hs : sib i < size
    · cases pf with
      | nil => rw [climb_nil h1 hs] at h; cases h
      | cons p q =>
        rw [climb_in h1 hs] at h
        rw [List.cons_append, climb_in h1 hs]
        exact ih _ (by omega) _ _ _ _ _ h
    · rw [climb_out h1 hs] at h ⊢
      exact ih _ (by omega) _ _ _ _ _ h
/-- a leaf's proof leads to the root; two digests in its place lead apart -/
theorem climb_prf : ∀ (m : Nat) (l : List Int) (i : Nat), l.length = m → allD l → i < l.length → ∃ f : Int → Int, (∀ n, climb l.length i n (prf l i) = some (f n, [])) ∧ f (l.getD i default) = rootL l ∧ ∀ a b, isD a → isD b → f a = f b → a = b := by
  intro m
  induction m using Nat.strongRecOn with
  | _ m ih =>
    rintro l i rfl hd hi
    by_cases h1 : l.length ≤ 1
    · refine ⟨fun n => n, fun n => ?_, ?_, fun a b _ _ h => h⟩
      · rw [climb_one h1, prf_one h1]
      · rw [rootL_one h1, show i = 0 by omega]
    have hul : (upL l).length = (l.length + 1) / 2 := upL_len
    obtain ⟨f, hf1, hf2, hf3⟩ := ih (upL l).length (by omega) (upL l) (i / 2) rfl hd.up (by omega)
    rw [hul] at hf1
    by_cases hs : sib i < l.length
    · have hp0 := hd.getD hs
      refine ⟨fun n => f (if i % 2 = 0 then hp n (l.getD (sib i) default) else hp (l.getD (sib i) default) n), fun n => ?_, ?_, fun a b ha hb h => ?_⟩
      · rw [prf_in h1 hs, climb_in h1 hs, hf1]
      · rw [rootL_up h1, ← hf2]
        show f _ = f _
        congr 1
        unfold sib at hs ⊢
        by_cases he : i % 2 = 0
        · rw [if_pos he] at hs
          rw [if_pos he, if_pos he, upL_two (by omega), show 2 * (i / 2) = i by omega]
        · rw [if_neg he, if_neg he, upL_two (by omega), show 2 * (i / 2) = i - 1 by omega, show i - 1 + 1 = i by omega]
      · by_cases he : i % 2 = 0
        · simp only [if_pos he] at h
          exact hp_inj1 ha hb hp0 (hf3 _ _ (hp_d ha hp0) (hp_d hb hp0) h)
        · simp only [if_neg he] at h
          exact hp_inj2 hp0 ha hb (hf3 _ _ (hp_d hp0 ha) (hp_d hp0 hb) h)
    · refine ⟨f, fun n => ?_, ?_, hf3⟩
      · rw [prf_out h1 hs, climb_out h1 hs, hf1]
      · rw [rootL_up h1, ← hf2]
        congr 1
        have he : i % 2 = 0 ∧ i + 1 = l.length := by
          unfold sib at hs
          by_cases he : i % 2 = 0
          · rw [if_pos he] at hs; omega
          · rw [if_neg he] at hs; omega
        rw [upL_one (by omega), show 2 * (i / 2) = i by omega]
theorem prf_d : ∀ (m : Nat) (l : List Int) (i : Nat), l.length = m → allD l → allD (prf l i) := by
  intro m
  induction m using Nat.strongRecOn with
  | _ m ih =>
    rintro l i rfl hd
    by_cases h1 : l.length ≤ 1
    · rw [prf_one h1]; intro z hz; cases hz
    have hul : (upL l).length = (l.length + 1) / 2 := upL_len
    have hr := ih (upL l).length (by omega) (upL l) (i / 2) rfl hd.up
    by_cases hs : sib i < l.length
    · rw [prf_in h1 hs]
      intro z hz
      rcases List.mem_cons.1 hz with rfl | hz
      · exact hd.getD hs
      · exact hr z hz
    · rw [prf_out h1 hs]; exact hr
theorem rootL_d : ∀ (m : Nat) (l : List Int), l.length = m → 0 < l.length → allD l → isD (rootL l) := by
  intro m
  induction m using Nat.strongRecOn with
  | _ m ih =>
    rintro l rfl h0 hd
    by_cases h1 : l.length ≤ 1
    · rw [rootL_one h1]; exact hd.getD h0
    · rw [rootL_up h1]
      have hul : (upL l).length = (l.length + 1) / 2 := upL_len
      exact ih _ (by omega) (upL l) rfl (by omega) hd.up
/-- the length of a proof -/
theorem prf_len : ∀ (m : Nat) (l : List Int) (i : Nat), l.length = m → (prf l i).length ≤ l.length := by
  intro m
  induction m using Nat.strongRecOn with
  | _ m ih =>
    rintro l i rfl
    by_cases h1 : l.length ≤ 1
    · rw [prf_one h1]; exact Nat.zero_le _
    have hul : (upL l).length = (l.length + 1) / 2 := upL_len
    have hr := ih (upL l).length (by omega) (upL l) (i / 2) rfl
    by_cases hs : sib i < l.length
    · rw [prf_in h1 hs, List.length_cons]; omega
    · rw [prf_out h1 hs]; omega
/-- the levels, one above the other -/
def lvl (l : List Int) : Nat → List Int
  | 0 => l
  | k + 1 => upL (lvl l k)
theorem lvl_d {l : List Int} (h : allD l) : ∀ k, allD (lvl l k)
  | 0 => h
  | k + 1 => (lvl_d h k).up
/-- the widths, one above the other -/
def wid (n : Nat) : Nat → Nat
  | 0 => n
  | k + 1 => (wid n k + 1) / 2
theorem lvl_len {l : List Int} : ∀ k, (lvl l k).length = wid l.length k
  | 0 => rfl
  | k + 1 => by rw [lvl, upL_len, lvl_len k]; rfl
/-- how many levels -/
def dep (n : Nat) : Nat := if n ≤ 1 then 1 else dep ((n + 1) / 2) + 1
termination_by n
theorem dep_one {n : Nat} (h : n ≤ 1) : dep n = 1 := by rw [dep, if_pos h]
theorem dep_up {n : Nat} (h : ¬ n ≤ 1) : dep n = dep ((n + 1) / 2) + 1 := by rw [dep, if_neg h]
theorem wid_dep : ∀ (n k : Nat), k < dep n → dep (wid n k) = dep n - k
  | n, 0, _ => rfl
  | n, k + 1, h => by
    have ih := wid_dep n k (by omega)
    show dep ((wid n k + 1) / 2) = _
    by_cases h1 : wid n k ≤ 1
    · rw [dep_one h1] at ih; omega
    · rw [dep_up h1] at ih; omega
theorem dep_pos {n : Nat} : 1 ≤ dep n := by
  by_cases h : n ≤ 1
  · rw [dep_one h]; exact Nat.le_refl _
  · rw [dep_up h]; omega
/-- the last level is reached when one node is left -/
theorem wid_last {n k : Nat} (h : k < dep n) : wid n k ≤ 1 ↔ k + 1 = dep n := by
  have hd := wid_dep n k h
  constructor
  · intro h1; rw [dep_one h1] at hd; omega
  · intro h1
    by_cases h2 : wid n k ≤ 1
    · exact h2
    · rw [dep_up h2] at hd
      have := dep_pos (n := (wid n k + 1) / 2)
      omega
theorem wid_pos {n : Nat} (h : 0 < n) : ∀ k, 0 < wid n k
  | 0 => h
  | k + 1 => by have := wid_pos h k; show 0 < (wid n k + 1) / 2; omega
theorem wid_le {n : Nat} : ∀ k, wid n k ≤ n
  | 0 => Nat.le_refl _
  | k + 1 => by have := wid_le (n := n) k; show (wid n k + 1) / 2 ≤ n; by_cases h : n = 0
                · omega
                · omega
end Go.Proofs.YtcagfmbboliohaaDoor
/-! YtcagfmbboliohaaDoorBase -/
set_option linter.all false
namespace Go.Proofs.YtcagfmbboliohaaDoor
open Go.RowKit

theorem hide {p : Prop} (h : p) : Hid p := h
theorem ret_int {k : IntKind} {a b : Int} (h : a = b) : Ending.returned (.int k a) = .returned (.int k b) := by rw [h]
theorem ret_bool {a b : Bool} (h : a = b) : Ending.returned (.bool a) = .returned (.bool b) := by rw [h]

theorem same_get {α : Type} {l : List α} {i : Nat} {x y : α} (h : l[i]? = some x) (h' : l[i]? = some y) : x = y := by rw [h] at h'; injection h'

/-- The slice value '.slice A n c' holds the cells xs and lies below block B (nil and empty ones let in). -/
def Reads (w : World) (B size : Nat) (A : Option Addr) (n : Nat) (xs : List Value) : Prop :=
  xs.length = n * size ∧ (0 < n → ∃ b off, A = some ⟨b, off, none⟩ ∧ b < B ∧ ∀ j u, xs[j]? = some u → w.cell? ⟨b, off + j, none⟩ = some u)

/-- Block g is just the cells cs of element type t, none of them frozen. -/
def Box (w : World) (g : Nat) (t : TypeId) (cs : Array Value) : Prop := w.heap[g]? = some (.cells cs t (0, 0))

/-- w' is w with new blocks, and block g may have turned. -/
def Touch (g : Nat) (w w' : World) : Prop := w.grownBy w' (some g)

section
variable {w w' w'' : World} {B B' size n g : Nat} {A : Option Addr} {xs : List Value} {t : TypeId} {cs : Array Value}

theorem Box.lt (h : Box w g t cs) : g < w.heap.size := by
  rcases Nat.lt_or_ge g w.heap.size with hlt | hge
  · exact hlt
  · unfold Box at h; rw [Array.getElem?_eq_none hge] at h; cases h
theorem Box.cell (h : Box w g t cs) (i : Nat) : w.cell? ⟨g, i, none⟩ = cs[i]? := by
  unfold Box at h; simp [World.cell?, h]
theorem Box.frozen (h : Box w g t cs) (i : Nat) : w.frozen? ⟨g, i, none⟩ = false := by
  unfold Box at h; simp [World.frozen?, h]
theorem Box.new (w : World) (t : TypeId) (cs : Array Value) : Box (w.alloc (.cells cs t)) w.heap.size t cs := by
  unfold Box; show (w.heap.push _)[w.heap.size]? = _; simp
theorem Box.drew (h : Box w g t cs) : Box w.drew g t cs := h
theorem Box.drewN (h : Box w g t cs) (k : Nat) : Box (w.drewN k) g t cs := h
theorem Box.alloc (h : Box w g t cs) (o : Obj) : Box (w.alloc o) g t cs := (Below.heap_alloc w o g h.lt).trans h
theorem Box.put (h : Box w g t cs) (i : Nat) (u : Value) : Box (w.setCell ⟨g, i, none⟩ u) g t (cs.setIfInBounds i u) := by
  unfold Box at h ⊢
  simp [World.setCell, Array.getElem?_modify, h]
theorem Box.far (h : Box w g t cs) {p : Addr} (hp : g ≠ p.block) (u : Value) : Box (w.setCell p u) g t cs := (Below.heap_setCell w p u g hp).trans h
theorem Box.off (h : Box w g t cs) {b o : Nat} (hp : g ≠ b) (u : Value) : Box (w.setCell ⟨b, o, none⟩ u) g t cs := h.far hp u
theorem Box.below (h : Box w g t cs) (hb : Below B w w') (hg : g < B) : Box w' g t cs := (hb.block g hg).trans h
theorem Box.touch {k : Nat} (h : Box w g t cs) (hb : Touch k w w') (hg : g ≠ k) : Box w' g t cs := (hb.block g h.lt (by simpa using hg)).trans h

theorem Touch.refl (w : World) : Touch g w w := ⟨rfl, rfl, rfl, Nat.le_refl _, fun _ _ _ => rfl⟩
theorem Touch.trans (h : Touch g w w') (k : Touch g w' w'') : Touch g w w'' :=
  ⟨k.os.trans h.os, k.tape.trans h.tape, k.output.trans h.output, Nat.le_trans h.size k.size, fun i hi hne => (k.block i (Nat.lt_of_lt_of_le hi h.size) hne).trans (h.block i hi hne)⟩
theorem Touch.drew (h : Touch g w w') : Touch g w w'.drew := ⟨h.os, h.tape, h.output, h.size, h.block⟩
theorem Touch.drewN (h : Touch g w w') (n : Nat) : Touch g w (w'.drewN n) := ⟨h.os, h.tape, h.output, h.size, h.block⟩
theorem Touch.alloc (h : Touch g w w') (o : Obj) : Touch g w (w'.alloc o) :=
  ⟨h.os, h.tape, h.output, Nat.le_trans h.size (by simp), fun i hi hne => (Below.heap_alloc w' o i (Nat.lt_of_lt_of_le hi h.size)).trans (h.block i hi hne)⟩
theorem Touch.setCell (h : Touch g w w') {p : Addr} (hp : p.block = g ∨ w.heap.size ≤ p.block) (u : Value) : Touch g w (w'.setCell p u) :=
  ⟨h.os, h.tape, h.output, by simpa [World.setCell] using h.size, fun i hi hne => (Below.heap_setCell w' p u i (by
    rintro rfl
    rcases hp with hp | hp
    · exact hne (by rw [hp])
    · omega)).trans (h.block i hi hne)⟩
theorem Touch.put (h : Touch g w w') {b o : Nat} (hp : b = g ∨ w.heap.size ≤ b) (u : Value) : Touch g w (w'.setCell ⟨b, o, none⟩ u) := h.setCell hp u
theorem Touch.of_below (h : Below w.heap.size w w') : Touch g w w' := ⟨h.os, h.tape, h.output, h.size, fun i hi _ => h.block i hi⟩
theorem Touch.below_le (h : Touch g w w') (hg : B ≤ g) (hB : B ≤ w.heap.size) : Below B w w' := ⟨h.os, h.tape, h.output, h.size, fun i hi => h.block i (by omega) (by simp; omega)⟩
theorem Touch.cell (h : Touch g w w') {b o : Nat} (hb : b < w.heap.size) (hne : b ≠ g) : w'.cell? ⟨b, o, none⟩ = w.cell? ⟨b, o, none⟩ :=
  World.cell?_of_block (h.block b hb (by simpa using hne))
theorem Touch.frozen (h : Touch g w w') {b o : Nat} (hb : b < w.heap.size) (hne : b ≠ g) : w'.frozen? ⟨b, o, none⟩ = w.frozen? ⟨b, o, none⟩ :=
  World.frozen?_of_block (h.block b hb (by simpa using hne))

theorem Reads.nil : Reads w B size A 0 [] := ⟨by simp, fun h => absurd h (by omega)⟩
theorem Reads.keep (h : Reads w B size A n xs) (hk : ∀ b o, b < B → w'.cell? ⟨b, o, none⟩ = w.cell? ⟨b, o, none⟩) : Reads w' B size A n xs :=
  ⟨h.1, fun hn => by
    obtain ⟨b, off, e, hb, hc⟩ := h.2 hn
    exact ⟨b, off, e, hb, fun j u hu => (hk _ _ hb).trans (hc j u hu)⟩⟩
theorem Reads.more (h : Reads w B size A n xs) (hB : B ≤ B') : Reads w B' size A n xs :=
  ⟨h.1, fun hn => by
    obtain ⟨b, off, e, hb, hc⟩ := h.2 hn
    exact ⟨b, off, e, by omega, hc⟩⟩
theorem Reads.below (h : Reads w B size A n xs) (hb : Below B w w') : Reads w' B size A n xs := h.keep fun _ _ hp => hb.cell hp
theorem Reads.touch (h : Reads w B size A n xs) (hb : Touch g w w') (hg : B ≤ g) (hB : B ≤ w.heap.size) : Reads w' B size A n xs := h.below (hb.below_le hg hB)
theorem Reads.drew (h : Reads w B size A n xs) : Reads w.drew B size A n xs := h
theorem Reads.drewN (h : Reads w B size A n xs) (k : Nat) : Reads (w.drewN k) B size A n xs := h
theorem Reads.alloc (h : Reads w B size A n xs) (hB : B ≤ w.heap.size) (o : Obj) : Reads (w.alloc o) B size A n xs := h.below ((Below.refl _ _).alloc hB o)
theorem Reads.setCell (h : Reads w B size A n xs) {p : Addr} (hB : B ≤ p.block) (u : Value) : Reads (w.setCell p u) B size A n xs := h.below ((Below.refl _ _).setCell hB u)
theorem Reads.put (h : Reads w B size A n xs) {b o : Nat} (hB : B ≤ b) (u : Value) : Reads (w.setCell ⟨b, o, none⟩ u) B size A n xs := h.setCell hB u
theorem below_put {a : World} (h : Below B a w) {b o : Nat} (hp : B ≤ b) (u : Value) : Below B a (w.setCell ⟨b, o, none⟩ u) := h.setCell hp u
theorem below_drewN {a : World} (h : Below B a w) (k : Nat) : Below B a (w.drewN k) := ⟨h.os, h.tape, h.output, h.size, h.block⟩
theorem Reads.of_own {base : Nat} {e : TypeId} {c : Nat} (h : w.ownsRow base e size (.slice A n c) n xs) : Reads w w.heap.size size A n xs := by
  refine ⟨h.1, fun hn => ?_⟩
  rcases h.2 with ⟨hv, h0⟩ | ⟨g, cap, cur, hv, hb, hh, hnc, hcm, hsz, htake⟩
  · omega
  · injection hv with hA
    subst hA
    refine ⟨g, 0, rfl, (Array.getElem?_eq_some_iff.1 hh).1, fun j u hu => ?_⟩
    have hx : (Box w g e cur) := hh
    rw [hx.cell]
    rw [← htake, List.getElem?_take] at hu
    split at hu
    · simpa using hu
    · cases hu
end

theorem own_shape {w : World} {base : Nat} {e : TypeId} {size : Nat} {v : Value} {n : Nat} {xs : List Value} (h : w.ownsRow base e size v n xs) : ∃ A c, v = .slice A n c ∧ n ≤ c ∧ c ≤ maxLen := by
  rcases h.2 with ⟨rfl, rfl⟩ | ⟨g, cap, cur, rfl, _, _, h1, h2, _⟩
  · exact ⟨none, 0, rfl, Nat.le_refl _, Nat.zero_le _⟩
  · exact ⟨_, cap, rfl, h1, h2⟩

/-- append of elements that were just written out ('append(s, x)', 'append(s, x, y)'), onto a row of the call's own -/
theorem wpList_append_lit {P : Program} {ops : Array Oper} {rest : List Oper} {o : Oper} {a : Act} {Q : Exit → Act → World → Prop} (w : World) (hgd : o.guard = none) (s x : Operand) (t : TypeId)
    (ho : o.op = .call { callee := .builtin .append, args := #[s, x], argTypes := #[t, t] })
    (base : Nat) (e : TypeId) (z : Value) (size bytes : Nat) (ht : P.underlying t = some (.slice e)) (hi : (P.info? e).map (fun i => (i.zero, i.size, i.bytes)) = some (some z, size, bytes))
    (hzs : z.cells.size = size) (hsz : 0 < size) (A : Option Addr) (n c : Nat) (xs : List Value) (hs : a.eval s = .slice A n c) (hown : w.ownsRow base e size (.slice A n c) n xs)
    (news : Array Value) (et : TypeId) (m k : Nat) (hx : a.eval x = .slice (some ⟨w.heap.size, 0, none⟩) m k) (hl : news.size = m * size) (h1 : ∀ u ∈ news.toList, u.oneCell' = true)
    (h63 : n + m ≤ 1000000000) (hby : bytes ≤ 1000) (hbase : base ≤ w.heap.size)
    (h : ∀ A' c' w', w'.ownsRow base e size (.slice A' (n + m) c') (n + m) (xs ++ news.toList) → w.grownBy w' (Value.slice A n c).ownBlock → wpList P ops Q rest (a.put o.dst (.slice A' (n + m) c')) w') :
    wpList P ops Q (o :: rest) a (w.alloc (.cells news et)) := by
  obtain ⟨i, hi0, hz0, hz1, hz2⟩ := info_parts hi
  have hmul : (n + m) * bytes ≤ 1000000000 * 1000 := Nat.mul_le_mul h63 hby
  refine wpList_append_own _ hgd s x t ho base e i z size bytes ht hi0 hz0 hz1 hz2 hzs hsz _ n xs hs (hown.alloc _) ⟨w.heap.size, 0, none⟩ m k news.toList hx (by simpa using hl) (fun j u hu => ?_) h1 (by unfold maxLen; omega) (by omega) (by simp; omega) ?_
  · have hadd : (⟨w.heap.size, 0, none⟩ : Addr).add j = ⟨w.heap.size, j, none⟩ := by unfold Addr.add; split <;> simp_all
    rw [hadd, (Box.new w et news).cell]
    simpa using hu
  · intro v' w' hown' hg _
    obtain ⟨A', c', rfl, _, _⟩ := own_shape hown'
    exact h A' c' w' hown' ((World.grownBy_alloc w _ _).trans hg)

/-- a world that is as w was below block B -/
structure Kept (B : Nat) (w : World) where
  val : World
  ok : Below B w val

instance (B : Nat) (w : World) : Nonempty (Kept B w) := ⟨⟨w, Below.refl B w⟩⟩

/-- A region that draws its order, whose operations read below block B and whose callees make memory alone: walked once, in the order of the text. -/
theorem wp_region_kept {P : Program} {id : Nat} {Q : Exit → Act → World → Prop} {a : Act} {w : World} {l : List Oper} (B : Nat) (hm : P.follows .mixedOrders = true) (hB : Region.lexB .any l.toArray = true)
    (h : wpQuiet P l.toArray (fun w' => ∃ x : Kept B w, w' = x.val) (fun a' => ∀ w', (∃ x : Kept B w, w' = x.val) → Q .normal a' w') l a) : (Code.region id l.toArray true).wp P Q a w :=
  wp_region_quiet (C := fun w' => ∃ x : Kept B w, w' = x.val) hm hB ⟨⟨_, (Below.refl B w).drew⟩, rfl⟩ (by simpa using h)

theorem Calls.kept {P : Program} {f : FuncId} {args : Array Value} {B : Nat} {w : World} {x : Kept B w} {v : Value}
    (h : Calls P f args x.val fun e w' => e = .returned v ∧ Below B x.val w') : Calls P f args x.val fun e w'' => e = .returned v ∧ ∃ y : Kept B w, w'' = y.val :=
  h.mono fun _ w' ⟨he, hw⟩ => ⟨he, ⟨w', x.ok.trans hw⟩, rfl⟩
theorem Calls.kept_same {P : Program} {f : FuncId} {args : Array Value} {B : Nat} {w : World} {x : Kept B w} {v : Value}
    (h : Calls P f args x.val fun e w' => e = .returned v ∧ x.val = w') : Calls P f args x.val fun e w'' => e = .returned v ∧ ∃ y : Kept B w, w'' = y.val :=
  h.mono fun _ _ ⟨he, hw⟩ => ⟨he, x, hw.symm⟩
theorem Calls.kept_alloc {P : Program} {f : FuncId} {args : Array Value} {B : Nat} {w : World} {x : Kept B w} {v : Value} {o : Obj} (hB : B ≤ w.heap.size)
    (h : Calls P f args x.val fun e w' => e = .returned v ∧ x.val.alloc o = w') : Calls P f args x.val fun e w'' => e = .returned v ∧ ∃ y : Kept B w, w'' = y.val :=
  h.mono fun _ _ ⟨he, hw⟩ => ⟨he, ⟨_, x.ok.alloc (Nat.le_trans hB x.ok.size) o⟩, hw.symm⟩
theorem Kept.box {B g : Nat} {w : World} {t : TypeId} {cs : Array Value} (x : Kept B w) (h : Box w g t cs) (hg : g < B) : Box x.val g t cs := h.below x.ok hg
theorem Kept.reads {B size n : Nat} {w : World} {A : Option Addr} {xs : List Value} (x : Kept B w) (h : Reads w B size A n xs) : Reads x.val B size A n xs := h.below x.ok

/-- the reader of a code: its box, and the bytes, below B -/
def Rd (w : World) (B g : Nat) (A : Option Addr) (n c : Nat) (zs : List Int) (p : Int) : Prop :=
  Box w g 65 #[.slice A n c, .int .i64 p] ∧ n ≤ 2000 ∧ Reads w B 1 A n (zs.map (Value.int .u8)) ∧ (∀ z ∈ zs, 0 ≤ z ∧ z ≤ 255) ∧ 0 ≤ p ∧ (0 < n → ∀ a, A = some a → a.block ≠ g)

end Go.Proofs.YtcagfmbboliohaaDoor
/-! YtcagfmbboliohaaDoorDw -/
set_option linter.all false
namespace Go.Proofs.YtcagfmbboliohaaDoor

theorem viewStore_drawn {p : Program} {w : World} {a : Addr} {u : TypeId} {k : Addr} {v : Value} {at_ : Bool} {r : World × List Addr} (h : w.viewStore p a u k v at_ = .ok r) : r.1.drawn = w.drawn := by
  unfold World.viewStore at h
  simp only [bind, Except.bind, pure, Except.pure, throw, throwThe, MonadExceptOf.throw] at h
  repeat' (first | (cases h; done) | (injection h with h; subst h; rfl) | split at h)
theorem farStore_drawn {p : Program} {w : World} {a : Addr} {v : Value} {at_ : Bool} {r : World × List Addr} (h : w.farStore p a v at_ = .ok r) : r.1.drawn = w.drawn := by
  unfold World.farStore at h
  split at h
  · split at h
    · rename_i hv
      injection h with h
      subst h
      exact viewStore_drawn hv
    · cases h
  · cases h
theorem ask_drawn {α : Type} : ∀ (k : Ask α) (w : World), w.drawn ≤ (w.ask k).2.drawn
  | .done a, w => Nat.le_refl _
  | .ask what range k, w => by
    unfold World.ask
    dsimp only
    split
    · exact ask_drawn (k 0) w
    · exact Nat.le_trans (Nat.le_succ _) (ask_drawn (k _) { w with drawn := w.drawn + 1 })
theorem sys_drawn (w : World) (c : Sys) : w.drawn ≤ (w.sys c).2.drawn := by
  unfold World.sys
  have := ask_drawn (Kernel.perform c w.os) w
  split
  · exact Nat.le_refl _
  · rename_i h
    rw [h] at this
    exact this
theorem Sem.drawn {α : Type} {P : Program} : ∀ (s : Sem α) {w w' : World} {v : α}, s.run P w = .ok v w' → w.drawn ≤ w'.drawn
  | .pure a, w, w', v, h => by injection h with _ h; subst h; exact Nat.le_refl _
  | .load m a k, w, w', v, h => by
    simp only [Sem.run] at h
    split at h
    · exact Sem.drawn _ h
    · split at h
      · exact Sem.drawn _ h
      · cases h
  | .store m a x k, w, w', v, h => by
    have key : ∀ {r : Result α}, (match w.cell? a with
        | some _ => if w.frozen? a then .halt (.unsupported (.unsafePointer "a write to bytes that a string shares")) w else k.run P (w.setCell a x)
        | none => match w.farStore P a x (m == .atomic) with
          | .ok (w, _) => k.run P w
          | .error h => .halt h w) = r → r = .ok v w' → w.drawn ≤ w'.drawn := fun {r} h1 h2 => by
      subst h2
      split at h1
      · split at h1
        · cases h1
        · exact Sem.drawn k (w := w.setCell a x) h1
      · split at h1
        · rename_i hf
          have h1' := farStore_drawn hf
          have h2 := Sem.drawn k h1
          dsimp only at h1'
          omega
        · cases h1
    cases x <;> simp only [Sem.run] at h <;> first | cases h | exact key h rfl
  | .new o k, w, w', v, h => Sem.drawn _ (w := { w with heap := w.heap.push o }) h
  | .shape r k, w, w', v, h => Sem.drawn (k _) h
  | .freeze a n k, w, w', v, h => by
    have h2 := Sem.drawn k (w := w.freeze a n) h
    have : (w.freeze a n).drawn = w.drawn := by unfold World.freeze; split <;> rfl
    omega
  | .frozen a k, w, w', v, h => Sem.drawn (k _) h
  | .getObj r k, w, w', v, h => by
    simp only [Sem.run] at h
    split at h
    · cases h
    · exact Sem.drawn _ h
    · cases h
  | .setObj r o k, w, w', v, h => by
    simp only [Sem.run] at h
    split at h
    · cases h
    · exact Sem.drawn _ (w := { w with heap := w.heap.setIfInBounds r o }) h
    · cases h
  | .choose q k, w, w', v, h => by
    simp only [Sem.run] at h
    split at h
    · exact Sem.drawn _ h
    · exact Nat.le_trans (Nat.le_succ _) (Sem.drawn _ (w := { w with drawn := w.drawn + 1 }) h)
  | .sys c k, w, w', v, h => Nat.le_trans (sys_drawn w c) (Sem.drawn (k _) h)
  | .program k, w, w', v, h => Sem.drawn (k _) h
  | .mark _ k, w, w', v, h => Sem.drawn k h
  | .halt h', w, w', v, h => by cases h
end Go.Proofs.YtcagfmbboliohaaDoor
/-! YtcagfmbboliohaaDoorSxA -/
set_option linter.all false
namespace Go.Proofs.YtcagfmbboliohaaDoor

/-- what is known of a value: nothing; all; a struct; several results; a slice that reads; a pointer to cells that stand still (with its place, without); a pointer into a block of the heap's (its key); a slice that owns its row (its key); a pointer into an owned row; a slice that looks into an owned row (its key, block, elements' size, first element, length, capacity) -/
inductive SV where
  | any
  | val (v : Value)
  | agg (n : Nat) (f : Nat → SV)
  | tup (n : Nat) (f : Nat → SV)
  | sl (sz n : Nat) (f : Nat → Nat → SV)
  | ref (b off n : Nat) (f : Nat → SV)
  | pp (n : Nat) (f : Nat → SV)
  | ptr (k g off : Nat)
  | own (k : Nat) (v : Value)
  | rp (k g sz i o : Nat)
  | vw (k g sz i n c : Nat)
  | ifc (t : TypeId) (s : SV)
  | fn (f : FuncId) (n : Nat) (g : Nat → SV)

instance : Inhabited SV := ⟨.any⟩
abbrev SV.i (z : Int) : SV := .val (.int .i64 z)
abbrev SV.b (b : Bool) : SV := .val (.bool b)

/-- the value is as told, by memory that stands still (F) -/
def Has (w : World) (F : Nat → Prop) : SV → Value → Prop
  | .any, _ => True
  | .val v, x => x = v
  | .agg n f, x => ∃ vs : Array Value, x = .agg vs ∧ vs.size = n ∧ ∀ k, k < n → Has w F (f k) (vs.getD k undef)
  | .tup n f, x => ∃ vs : Array Value, x = .tuple vs ∧ vs.size = n ∧ ∀ k, k < n → Has w F (f k) (vs.getD k undef)
  | .sl sz n f, x => ∃ A c, x = .slice A n c ∧ n ≤ c ∧ c ≤ maxLen ∧ (0 < n → ∃ b off, A = some ⟨b, off, none⟩ ∧ F b ∧ ∀ i k, i < n → k < sz → ∃ u, w.cell? ⟨b, off + (i * sz + k), none⟩ = some u ∧ u.oneCell' = true ∧ Has w F (f i k) u)
  | .ref b off n f, x => x = .pointer (some ⟨b, off, none⟩) ∧ F b ∧ (∃ cs t, w.heap[b]? = some (.cells cs t (0, 0))) ∧ ∀ k, k < n → ∃ u, w.cell? ⟨b, off + k, none⟩ = some u ∧ u.oneCell' = true ∧ Has w F (f k) u
  | .pp n f, x => ∃ b off, x = .pointer (some ⟨b, off, none⟩) ∧ F b ∧ ∀ k, k < n → ∃ u, w.cell? ⟨b, off + k, none⟩ = some u ∧ u.oneCell' = true ∧ Has w F (f k) u
  | .ptr _ g off, x => x = .pointer (some ⟨g, off, none⟩)
  | .own _ v, x => x = v
  | .rp _ g sz i o, x => x = .pointer (some ⟨g, i * sz + o, none⟩)
  | .vw _ g sz i n c, x => n ≤ c ∧ c ≤ maxLen ∧ ∃ A, x = .slice A n c ∧ (0 < c → A = some ⟨g, i * sz, none⟩)
  | .ifc t s, x => ∃ v, x = .iface t v ∧ Has w F s v
  | .fn f n g, x => ∃ vs : Array Value, x = .func (.func f) #[] vs ∧ vs.size = n ∧ ∀ k, k < n → Has w F (g k) (vs.getD k undef)

section
variable {w w' w'' : World} {F F' : Nat → Prop} {s : SV} {v : Value}

theorem Has.mono (hF : ∀ b, F b → F' b) : ∀ {s : SV} {v : Value}, Has w F s v → Has w F' s v
  | .any, _, h => h
  | .val _, _, h => h
  | .agg _ _, _, ⟨vs, e, hn, h⟩ => ⟨vs, e, hn, fun k hk => Has.mono hF (h k hk)⟩
  | .tup _ _, _, ⟨vs, e, hn, h⟩ => ⟨vs, e, hn, fun k hk => Has.mono hF (h k hk)⟩
  | .sl _ _ _, _, ⟨A, c, e, h1, h2, h⟩ => ⟨A, c, e, h1, h2, fun hp => by
      obtain ⟨b, off, eA, hb, h⟩ := h hp
      exact ⟨b, off, eA, hF b hb, fun i k hi hk => by
        obtain ⟨u, hu, h1, h⟩ := h i k hi hk
        exact ⟨u, hu, h1, Has.mono hF h⟩⟩⟩
  | .ref _ _ _ _, _, ⟨e, hb, hz, h⟩ => ⟨e, hF _ hb, hz, fun k hk => by
      obtain ⟨u, hu, h1, h⟩ := h k hk
      exact ⟨u, hu, h1, Has.mono hF h⟩⟩
  | .pp _ _, _, ⟨b, off, e, hb, h⟩ => ⟨b, off, e, hF _ hb, fun k hk => by
      obtain ⟨u, hu, h1, h⟩ := h k hk
      exact ⟨u, hu, h1, Has.mono hF h⟩⟩
  | .ptr _ _ _, _, h => h
  | .own _ _, _, h => h
  | .rp _ _ _ _ _, _, h => h
  | .vw _ _ _ _ _ _, _, h => h
  | .ifc _ _, _, ⟨v, e, h⟩ => ⟨v, e, Has.mono hF h⟩
  | .fn _ _ _, _, ⟨vs, e, hn, h⟩ => ⟨vs, e, hn, fun k hk => Has.mono hF (h k hk)⟩

theorem Has.keep (hF : ∀ b, F b → w'.heap[b]? = w.heap[b]?) : ∀ {s : SV} {v : Value}, Has w F s v → Has w' F s v
  | .any, _, h => h
  | .val _, _, h => h
  | .agg _ _, _, ⟨vs, e, hn, h⟩ => ⟨vs, e, hn, fun k hk => Has.keep hF (h k hk)⟩
  | .tup _ _, _, ⟨vs, e, hn, h⟩ => ⟨vs, e, hn, fun k hk => Has.keep hF (h k hk)⟩
  | .sl _ _ _, _, ⟨A, c, e, h1, h2, h⟩ => ⟨A, c, e, h1, h2, fun hp => by
      obtain ⟨b, off, eA, hb, h⟩ := h hp
      exact ⟨b, off, eA, hb, fun i k hi hk => by
        obtain ⟨u, hu, h1, h⟩ := h i k hi hk
        exact ⟨u, (World.cell?_of_block (w := w) (hF b hb)).trans hu, h1, Has.keep hF h⟩⟩⟩
  | .ref b _ _ _, _, ⟨e, hb, hz, h⟩ => ⟨e, hb, (by rw [hF b hb]; exact hz), fun k hk => by
      obtain ⟨u, hu, h1, h⟩ := h k hk
      exact ⟨u, (World.cell?_of_block (w := w) (hF b hb)).trans hu, h1, Has.keep hF h⟩⟩
  | .pp _ _, _, ⟨b, off, e, hb, h⟩ => ⟨b, off, e, hb, fun k hk => by
      obtain ⟨u, hu, h1, h⟩ := h k hk
      exact ⟨u, (World.cell?_of_block (w := w) (hF b hb)).trans hu, h1, Has.keep hF h⟩⟩
  | .ptr _ _ _, _, h => h
  | .own _ _, _, h => h
  | .rp _ _ _ _ _, _, h => h
  | .vw _ _ _ _ _ _, _, h => h
  | .ifc _ _, _, ⟨v, e, h⟩ => ⟨v, e, Has.keep hF h⟩
  | .fn _ _ _, _, ⟨vs, e, hn, h⟩ => ⟨vs, e, hn, fun k hk => Has.keep hF (h k hk)⟩

/-- the world went on: what stands still stood still -/
structure Keep (F : Nat → Prop) (w w' : World) : Prop where
  os : w'.os = w.os
  tape : w'.tape = w.tape
  output : w'.output = w.output
  size : w.heap.size ≤ w'.heap.size
  blk : ∀ b, F b → w'.heap[b]? = w.heap[b]?
  drawn : w.drawn ≤ w'.drawn

theorem Keep.refl (F : Nat → Prop) (w : World) : Keep F w w := ⟨rfl, rfl, rfl, Nat.le_refl _, fun _ _ => rfl, Nat.le_refl _⟩
theorem Keep.trans (h : Keep F w w') (k : Keep F' w' w'') (hF : ∀ b, F b → F' b) : Keep F w w'' :=
  ⟨k.os.trans h.os, k.tape.trans h.tape, k.output.trans h.output, Nat.le_trans h.size k.size, fun b hb => (k.blk b (hF b hb)).trans (h.blk b hb), Nat.le_trans h.drawn k.drawn⟩
theorem Keep.mono (h : Keep F' w w') (hF : ∀ b, F b → F' b) : Keep F w w' := ⟨h.os, h.tape, h.output, h.size, fun b hb => h.blk b (hF b hb), h.drawn⟩
theorem Keep.has (h : Keep F w w') (hs : Has w F s v) : Has w' F s v := Has.keep h.blk hs
theorem Keep.drew (h : Keep F w w') : Keep F w w'.drew := ⟨h.os, h.tape, h.output, h.size, h.blk, Nat.le_succ_of_le h.drawn⟩
theorem Keep.alloc (hF : ∀ b, F b → b < w.heap.size) (o : Obj) : Keep F w (w.alloc o) :=
  ⟨rfl, rfl, rfl, by simp, fun b hb => RowKit.Below.heap_alloc w o b (hF b hb), Nat.le_refl _⟩
end

/-- a piece of memory of one's own kind -/
structure Heaplet where
  fp : Nat → Prop
  holds : World → (Nat → Prop) → Prop
  mono : ∀ {w : World} {F F' : Nat → Prop}, (∀ b, F b → F' b) → holds w F → holds w F'
  stable : ∀ {w w' : World} {F : Nat → Prop}, (∀ b, fp b ∨ F b → w'.heap[b]? = w.heap[b]?) → holds w F → holds w' F

/-- a piece of memory that is owned: none; a block known whole; a row that a slice owns -/
inductive Hp where
  | emp
  | box (g : Nat) (t : TypeId) (n : Nat) (f : Nat → SV)
  | row (v : Value) (e : TypeId) (sz n : Nat) (f : Nat → Nat → SV)
  | cust (h : Heaplet)

def Hp.fp : Hp → Nat → Prop
  | .emp, _ => False
  | .box g _ _ _, b => b = g
  | .row v _ _ _ _, b => v.ownBlock = some b
  | .cust h, b => h.fp b
def Hp.holds (w : World) (F : Nat → Prop) : Hp → Prop
  | .emp => True
  | .box g t n f => ∃ cs, w.heap[g]? = some (.cells cs t (0, 0)) ∧ cs.size = n ∧ ∀ k, k < n → (cs.getD k undef).oneCell' = true ∧ Has w F (f k) (cs.getD k undef)
  | .row v e sz n f => ∃ xs, w.ownsRow 0 e sz v n xs ∧ ∀ i k, i < n → k < sz → (xs.getD (i * sz + k) undef).oneCell' = true ∧ Has w F (f i k) (xs.getD (i * sz + k) undef)
  | .cust h => h.holds w F

theorem ownsRow_block {w w' : World} {base : Nat} {e : TypeId} {size : Nat} {v : Value} {n : Nat} {xs : List Value} (h : w.ownsRow base e size v n xs) (hk : ∀ b, v.ownBlock = some b → w'.heap[b]? = w.heap[b]?) : w'.ownsRow base e size v n xs := by
  refine ⟨h.1, ?_⟩
  rcases h.2 with h | ⟨g, cap, cur, hv, hg, hh, h⟩
  · exact .inl h
  · exact .inr ⟨g, cap, cur, hv, hg, (hk g (by rw [hv]; rfl)).trans hh, h⟩

theorem Hp.mono {w : World} {F F' : Nat → Prop} (hF : ∀ b, F b → F' b) : ∀ {h : Hp}, h.holds w F → h.holds w F'
  | .emp, h => h
  | .box _ _ _ _, ⟨cs, e, hn, h⟩ => ⟨cs, e, hn, fun k hk => ⟨(h k hk).1, (h k hk).2.mono hF⟩⟩
  | .row _ _ _ _ _, ⟨xs, e, h⟩ => ⟨xs, e, fun i k hi hk => ⟨(h i k hi hk).1, (h i k hi hk).2.mono hF⟩⟩
  | .cust x, h => x.mono hF h
theorem Hp.stable {w w' : World} {F : Nat → Prop} : ∀ {h : Hp}, (∀ b, h.fp b ∨ F b → w'.heap[b]? = w.heap[b]?) → h.holds w F → h.holds w' F
  | .emp, _, h => h
  | .box g _ _ _, hF, ⟨cs, e, hn, h⟩ => ⟨cs, (hF g (.inl rfl)).trans e, hn, fun k hk => ⟨(h k hk).1, (h k hk).2.keep fun b hb => hF b (.inr hb)⟩⟩
  | .row _ _ _ _ _, hF, ⟨xs, e, h⟩ => ⟨xs, ownsRow_block e fun b hb => hF b (.inl hb), fun i k hi hk => ⟨(h i k hi hk).1, (h i k hi hk).2.keep fun b hb => hF b (.inr hb)⟩⟩
  | .cust x, hF, h => x.stable hF h

/-- the heap is these pieces, apart from each other and from what stands still -/
structure HSat (w : World) (F : Nat → Prop) (l : List Hp) : Prop where
  holds : ∀ h ∈ l, h.holds w F
  fp : ∀ h ∈ l, ∀ b, h.fp b → b < w.heap.size ∧ ¬ F b
  apart : l.Pairwise fun h h' => ∀ b, h.fp b → ¬ h'.fp b
  lt : ∀ b, F b → b < w.heap.size

section
variable {w w' : World} {F F' : Nat → Prop} {l l' : List Hp} {h h' : Hp}

theorem HSat.perm (hs : HSat w F l) (hp : l.Perm l') : HSat w F l' :=
  ⟨fun h hh => hs.holds h (hp.mem_iff.2 hh), fun h hh => hs.fp h (hp.mem_iff.2 hh), (hp.pairwise_iff (fun h1 b h2 h3 => h1 b h3 h2)).1 hs.apart, hs.lt⟩

/-- nothing that was there has turned -/
theorem HSat.same (hs : HSat w F l) (hz : w.heap.size ≤ w'.heap.size) (hk : ∀ b, b < w.heap.size → w'.heap[b]? = w.heap[b]?) : HSat w' F l :=
  ⟨fun h hh => Hp.stable (fun b hb => hk b (hb.elim (fun hb => (hs.fp h hh b hb).1) (hs.lt b))) (hs.holds h hh), fun h hh b hb => ⟨Nat.lt_of_lt_of_le (hs.fp h hh b hb).1 hz, (hs.fp h hh b hb).2⟩, hs.apart, fun b hb => Nat.lt_of_lt_of_le (hs.lt b hb) hz⟩
theorem HSat.drew (hs : HSat w F l) : HSat w.drew F l := hs.same (Nat.le_refl _) fun _ _ => rfl

/-- the first piece has turned into another one, within its own blocks and new ones -/
theorem HSat.turn (hs : HSat w F (h :: l)) (hz : w.heap.size ≤ w'.heap.size) (hk : ∀ b, b < w.heap.size → ¬ h.fp b → w'.heap[b]? = w.heap[b]?)
    (hh : h'.holds w' F) (hf : ∀ b, h'.fp b → b < w'.heap.size ∧ (h.fp b ∨ w.heap.size ≤ b)) : HSat w' F (h' :: l) := by
  have hap := List.pairwise_cons.1 hs.apart
  refine ⟨fun x hx => ?_, fun x hx b hb => ?_, List.pairwise_cons.2 ⟨fun x hx b hb hbx => ?_, hap.2⟩, fun b hb => Nat.lt_of_lt_of_le (hs.lt b hb) hz⟩
  · rcases List.mem_cons.1 hx with rfl | hx
    · exact hh
    · refine Hp.stable (fun b hb => ?_) (hs.holds x (List.mem_cons_of_mem _ hx))
      rcases hb with hb | hb
      · exact hk b (hs.fp x (List.mem_cons_of_mem _ hx) b hb).1 fun h1 => hap.1 x hx b h1 hb
      · exact hk b (hs.lt b hb) fun h1 => (hs.fp h (by simp) b h1).2 hb
  · rcases List.mem_cons.1 hx with rfl | hx
    · refine ⟨(hf b hb).1, fun hF => ?_⟩
      rcases (hf b hb).2 with h1 | h1
      · exact (hs.fp h (by simp) b h1).2 hF
      · have := hs.lt b hF; omega
    · have := hs.fp x (List.mem_cons_of_mem _ hx) b hb
      exact ⟨by omega, this.2⟩
  · rcases (hf b hb).2 with h1 | h1
    · exact hap.1 x hx b h1 hbx
    · have := (hs.fp x (List.mem_cons_of_mem _ hx) b hbx).1
      omega
/-- a new piece, of new blocks -/
theorem HSat.cons (hs : HSat w F l) (hz : w.heap.size ≤ w'.heap.size) (hk : ∀ b, b < w.heap.size → w'.heap[b]? = w.heap[b]?)
    (hh : h'.holds w' F) (hf : ∀ b, h'.fp b → b < w'.heap.size ∧ w.heap.size ≤ b) : HSat w' F (h' :: l) := by
  have : HSat w F (.emp :: l) := ⟨fun x hx => by
      rcases List.mem_cons.1 hx with rfl | hx
      · trivial
      · exact hs.holds x hx, fun x hx b hb => by
      rcases List.mem_cons.1 hx with rfl | hx
      · exact hb.elim
      · exact hs.fp x hx b hb, List.pairwise_cons.2 ⟨fun _ _ _ hb => hb.elim, hs.apart⟩, hs.lt⟩
  exact this.turn hz (fun b hb _ => hk b hb) hh fun b hb => ⟨(hf b hb).1, .inr (hf b hb).2⟩
theorem HSat.tail (hs : HSat w F (h :: l)) : HSat w F l :=
  ⟨fun x hx => hs.holds x (List.mem_cons_of_mem _ hx), fun x hx => hs.fp x (List.mem_cons_of_mem _ hx), (List.pairwise_cons.1 hs.apart).2, hs.lt⟩
theorem HSat.drop1 (hs : HSat w F (h :: l)) : HSat w F (.emp :: l) := hs.turn (Nat.le_refl _) (fun _ _ _ => rfl) trivial fun _ hb => hb.elim
end

/-- the heap, its pieces under their keys -/
abbrev Hpl := List (Nat × Hp)
def lk (k : Nat) : Hpl → Hp
  | [] => .emp
  | (j, h) :: l => bif Nat.beq j k then h else lk k l
def setK (k : Nat) (h' : Hp) : Hpl → Hpl
  | [] => []
  | (j, h) :: l => bif Nat.beq j k then (j, h') :: l else (j, h) :: setK k h' l
/-- all pieces but the one under this key -/
def offK (k : Nat) : Hpl → List Hp
  | [] => []
  | (j, h) :: l => bif Nat.beq j k then l.map Prod.snd else h :: offK k l
def hasK (k : Nat) : Hpl → Bool
  | [] => false
  | (j, _) :: l => bif Nat.beq j k then true else hasK k l

theorem lk_perm {k : Nat} : ∀ {L : Hpl}, hasK k L = true → (L.map Prod.snd).Perm (lk k L :: offK k L)
  | [], h => by cases h
  | (j, x) :: l, h => by
    simp only [hasK] at h
    simp only [lk, offK, List.map_cons]
    cases e : Nat.beq j k <;> simp only [e, cond_true, cond_false] at h ⊢
    · exact ((lk_perm h).cons x).trans (List.Perm.swap _ _ _)
    · exact List.Perm.refl _
theorem setK_perm {k : Nat} {h' : Hp} : ∀ {L : Hpl}, hasK k L = true → ((setK k h' L).map Prod.snd).Perm (h' :: offK k L)
  | [], h => by cases h
  | (j, x) :: l, h => by
    simp only [hasK] at h
    simp only [setK, offK]
    cases e : Nat.beq j k <;> simp only [e, cond_true, cond_false, List.map_cons] at h ⊢
    · exact ((setK_perm h).cons x).trans (List.Perm.swap _ _ _)
    · exact List.Perm.refl _
theorem lk_emp {k : Nat} : ∀ {L : Hpl}, hasK k L = false → lk k L = .emp
  | [], _ => rfl
  | (j, x) :: l, h => by
    simp only [hasK] at h
    simp only [lk]
    cases e : Nat.beq j k <;> simp only [e, cond_true, cond_false] at h ⊢
    · exact lk_emp h
    · cases h
theorem hasK_of {k : Nat} {L : Hpl} (h : lk k L ≠ .emp) : hasK k L = true := by
  cases e : hasK k L
  · exact absurd (lk_emp e) h
  · rfl

theorem HSat.lk {w : World} {F : Nat → Prop} {L : Hpl} (hs : HSat w F (L.map Prod.snd)) {k : Nat} {h : Hp} (hk : lk k L = h) (hne : h ≠ .emp) : HSat w F (h :: offK k L) := by
  subst hk
  exact hs.perm (lk_perm (hasK_of hne))
theorem HSat.setK {w' : World} {F' : Nat → Prop} {L : Hpl} {k : Nat} {h h' : Hp} (hk : Proofs.YtcagfmbboliohaaDoor.lk k L = h) (hne : h ≠ .emp) (hs : HSat w' F' (h' :: offK k L)) : HSat w' F' ((Proofs.YtcagfmbboliohaaDoor.setK k h' L).map Prod.snd) := by
  subst hk
  exact hs.perm (setK_perm (hasK_of hne)).symm
end Go.Proofs.YtcagfmbboliohaaDoor
/-! YtcagfmbboliohaaDoorApp -/
set_option linter.all false
namespace Go.Proofs.YtcagfmbboliohaaDoor
open Go.RowKit

theorem run_append_reads' {P : Program} (w : World) (t ty : TypeId) (base : Nat) (e : TypeId) (z : Value) (size bytes : Nat) (ht : P.underlying t = some (.slice e)) (hi : (P.info? e).map (fun i => (i.zero, i.size, i.bytes)) = some (some z, size, bytes))
    (hzs : z.cells.size = size) (hsz : 0 < size) (A : Option Addr) (n c : Nat) (xs : List Value) (hown : w.ownsRow base e size (.slice A n c) n xs)
    (B : Nat) (D : Option Addr) (m k : Nat) (news : List Value) (hr : Reads w B size D m news) (h1 : ∀ u ∈ news, u.oneCell' = true)
    (h63 : n + m ≤ 1000000000) (hby : bytes ≤ 1000) (hbase : base ≤ w.heap.size) :
    ∃ A' c' w', (Builtin.append_ #[t, t] ty #[.slice A n c, .slice D m k]).run P w = .ok (.slice A' (n + m) c') w' ∧ w'.ownsRow base e size (.slice A' (n + m) c') (n + m) (xs ++ news) ∧ w.grownBy w' (Value.slice A n c).ownBlock ∧ ((Value.slice A' (n + m) c').ownBlock = (Value.slice A n c).ownBlock ∨ (Value.slice A' (n + m) c').ownBlock = some w.heap.size) := by
  obtain ⟨i, hi0, hz0, hz1, hz2⟩ := info_parts hi
  by_cases hm : m = 0
  · subst hm
    have hn : news = [] := List.eq_nil_of_length_eq_zero (by simpa using hr.1)
    subst hn
    obtain ⟨A2, c2, he, hnc, _⟩ := own_shape hown
    injection he with hA _ hc
    subst hA hc
    refine ⟨A, c, w, ?_, by simpa using hown, ⟨rfl, rfl, rfl, Nat.le_refl _, fun _ _ _ => rfl⟩, .inl (by cases A <;> rfl)⟩
    cases A <;> cases D <;> simp [Builtin.append_, run_underlying ht, sizeOf, typeInfo, hi0, Builtin.lenOf, Builtin.firstCells, loadCells, loadCellsFrom, storeCells, hnc]
  · have hmul : (n + m) * bytes ≤ 1000000000 * 1000 := Nat.mul_le_mul h63 hby
    obtain ⟨b, off, rfl, _, hc⟩ := hr.2 (by omega)
    obtain ⟨v', w', h, hown', hg, _, hb4⟩ := run_append_own_at (P := P) w base t ty e i z size bytes ht hi0 hz0 hz1 hz2 hzs hsz _ n xs hown ⟨b, off, none⟩ m k news hr.1 (fun j u hu => by
      have hadd : (⟨b, off, none⟩ : Addr).add j = ⟨b, off + j, none⟩ := by unfold Addr.add; split <;> simp_all
      rw [hadd]; exact hc j u hu) h1 (by unfold maxLen; omega) (by omega) hbase
    obtain ⟨A', c', rfl, _, _⟩ := own_shape hown'
    exact ⟨A', c', w', h, hown', hg, hb4⟩

theorem run_append_reads {P : Program} (w : World) (t ty : TypeId) (base : Nat) (e : TypeId) (z : Value) (size bytes : Nat) (ht : P.underlying t = some (.slice e)) (hi : (P.info? e).map (fun i => (i.zero, i.size, i.bytes)) = some (some z, size, bytes))
    (hzs : z.cells.size = size) (hsz : 0 < size) (A : Option Addr) (n c : Nat) (xs : List Value) (hown : w.ownsRow base e size (.slice A n c) n xs)
    (B : Nat) (D : Option Addr) (m k : Nat) (news : List Value) (hr : Reads w B size D m news) (h1 : ∀ u ∈ news, u.oneCell' = true)
    (h63 : n + m ≤ 1000000000) (hby : bytes ≤ 1000) (hbase : base ≤ w.heap.size) :
    ∃ A' c' w', (Builtin.append_ #[t, t] ty #[.slice A n c, .slice D m k]).run P w = .ok (.slice A' (n + m) c') w' ∧ w'.ownsRow base e size (.slice A' (n + m) c') (n + m) (xs ++ news) ∧ w.grownBy w' (Value.slice A n c).ownBlock := by
  obtain ⟨A', c', w', h1, h2, h3, _⟩ := run_append_reads' (P := P) w t ty base e z size bytes ht hi hzs hsz A n c xs hown B D m k news hr h1 h63 hby hbase
  exact ⟨A', c', w', h1, h2, h3⟩

theorem wp_append_reads {P : Program} (w : World) {o : Oper} {a : Act} {K : Act → World → Prop} {Q : Exit → Act → World → Prop} (s x : Operand) (t : TypeId)
    (ho : o.op = .call { callee := .builtin .append, args := #[s, x], argTypes := #[t, t] })
    (base : Nat) (e : TypeId) (z : Value) (size bytes : Nat) (ht : P.underlying t = some (.slice e)) (hi : (P.info? e).map (fun i => (i.zero, i.size, i.bytes)) = some (some z, size, bytes))
    (hzs : z.cells.size = size) (hsz : 0 < size) (A : Option Addr) (n c : Nat) (xs : List Value) (hs : a.eval s = .slice A n c) (hown : w.ownsRow base e size (.slice A n c) n xs)
    (B : Nat) (D : Option Addr) (m k : Nat) (news : List Value) (hx : a.eval x = .slice D m k) (hr : Reads w B size D m news) (h1 : ∀ u ∈ news, u.oneCell' = true)
    (h63 : n + m ≤ 1000000000) (hby : bytes ≤ 1000) (hbase : base ≤ w.heap.size)
    (h : ∀ A' c' w', w'.ownsRow base e size (.slice A' (n + m) c') (n + m) (xs ++ news) → w.grownBy w' (Value.slice A n c).ownBlock → K (a.put o.dst (.slice A' (n + m) c')) w') : o.wp P a w K Q := by
  obtain ⟨A', c', w', hr, h2, h3⟩ := run_append_reads (P := P) w t o.type base e z size bytes ht hi hzs hsz A n c xs hown B D m k news hr h1 h63 hby hbase
  unfold Oper.wp execOp
  simp only [ho, resolve, invoke, builtin, Sem.run_bind, Sem.run_pure, Result.andThen_ok, List.map_toArray, List.map_cons, List.map_nil, hs, hx, hr]
  exact h A' c' w' h2 h3

theorem wpList_append_reads {P : Program} (w : World) {ops : Array Oper} {rest : List Oper} {o : Oper} {a : Act} {Q : Exit → Act → World → Prop} (hgd : o.guard = none) (s x : Operand) (t : TypeId)
    (ho : o.op = .call { callee := .builtin .append, args := #[s, x], argTypes := #[t, t] })
    (base : Nat) (e : TypeId) (z : Value) (size bytes : Nat) (ht : P.underlying t = some (.slice e)) (hi : (P.info? e).map (fun i => (i.zero, i.size, i.bytes)) = some (some z, size, bytes))
    (hzs : z.cells.size = size) (hsz : 0 < size) (A : Option Addr) (n c : Nat) (xs : List Value) (hs : a.eval s = .slice A n c) (hown : w.ownsRow base e size (.slice A n c) n xs)
    (B : Nat) (D : Option Addr) (m k : Nat) (news : List Value) (hx : a.eval x = .slice D m k) (hr : Reads w B size D m news) (h1 : ∀ u ∈ news, u.oneCell' = true)
    (h63 : n + m ≤ 1000000000) (hby : bytes ≤ 1000) (hbase : base ≤ w.heap.size)
    (h : ∀ A' c' w', w'.ownsRow base e size (.slice A' (n + m) c') (n + m) (xs ++ news) → w.grownBy w' (Value.slice A n c).ownBlock → wpList P ops Q rest (a.put o.dst (.slice A' (n + m) c')) w') : wpList P ops Q (o :: rest) a w :=
  wpList_plain hgd fun _ hK => wp_append_reads w s x t ho base e z size bytes ht hi hzs hsz A n c xs hs hown B D m k news hx hr h1 h63 hby hbase fun A' c' w' h2 h3 => hK _ _ (h A' c' w' h2 h3)

theorem step_append_reads {P : Program} (w : World) {ops : Array Oper} {o : Oper} {a : Act} {K : Act → World → Prop} {Q : Exit → Act → World → Prop} {E : Prop} (hgd : o.guard = none) (s x : Operand) (t : TypeId)
    (ho : o.op = .call { callee := .builtin .append, args := #[s, x], argTypes := #[t, t] })
    (base : Nat) (e : TypeId) (z : Value) (size bytes : Nat) (ht : P.underlying t = some (.slice e)) (hi : (P.info? e).map (fun i => (i.zero, i.size, i.bytes)) = some (some z, size, bytes))
    (hzs : z.cells.size = size) (hsz : 0 < size) (A : Option Addr) (n c : Nat) (xs : List Value) (hs : a.eval s = .slice A n c) (hown : w.ownsRow base e size (.slice A n c) n xs)
    (B : Nat) (D : Option Addr) (m k : Nat) (news : List Value) (hx : a.eval x = .slice D m k) (hr : Reads w B size D m news) (h1 : ∀ u ∈ news, u.oneCell' = true)
    (h63 : n + m ≤ 1000000000) (hby : bytes ≤ 1000) (hbase : base ≤ w.heap.size)
    (h : ∀ A' c' w', w'.ownsRow base e size (.slice A' (n + m) c') (n + m) (xs ++ news) → w.grownBy w' (Value.slice A n c).ownBlock → K (a.put o.dst (.slice A' (n + m) c')) w') :
    if Region.wanted o (yielded ops a.tmps) = true then Oper.wp P o a w K Q else E := by
  have hw : Region.wanted o (yielded ops a.tmps) = true := by simp [Region.wanted, hgd]
  rw [if_pos hw]
  exact wp_append_reads w s x t ho base e z size bytes ht hi hzs hsz A n c xs hs hown B D m k news hx hr h1 h63 hby hbase h

theorem own_empty {w : World} {g base : Nat} {e : TypeId} {size : Nat} (h : Box w g e #[]) (hb : base ≤ g) : w.ownsRow base e size (.slice (some ⟨g, 0, none⟩) 0 0) 0 [] :=
  ⟨by simp, .inr ⟨g, 0, #[], rfl, hb, h, Nat.le_refl _, by simp [maxLen], by simp, by simp⟩⟩

theorem Box.new' (w : World) (t : TypeId) (cs : Array Value) (k : Nat) (h : w.heap.size = k) : Box (w.alloc (.cells cs t)) k t cs := h ▸ Box.new w t cs

/-- append onto an empty slice that was just written out -/
theorem wp_clone {P : Program} {w : World} {o : Oper} {a : Act} {K : Act → World → Prop} {Q : Exit → Act → World → Prop} (s x : Operand) (t : TypeId)
    (ho : o.op = .call { callee := .builtin .append, args := #[s, x], argTypes := #[t, t] })
    (base : Nat) (e : TypeId) (z : Value) (size bytes : Nat) (ht : P.underlying t = some (.slice e)) (hi : (P.info? e).map (fun i => (i.zero, i.size, i.bytes)) = some (some z, size, bytes))
    (hzs : z.cells.size = size) (hsz : 0 < size) (g : Nat) (hs : a.eval s = .slice (some ⟨g, 0, none⟩) 0 0) (hbox : Box w g e #[]) (hb : base ≤ g)
    (B : Nat) (D : Option Addr) (m k : Nat) (news : List Value) (hx : a.eval x = .slice D m k) (hr : Reads w B size D m news) (h1 : ∀ u ∈ news, u.oneCell' = true)
    (h63 : m ≤ 1000000000) (hby : bytes ≤ 1000)
    (h : ∀ A' c' w', w'.ownsRow base e size (.slice A' m c') m news → Touch g w w' → K (a.put o.dst (.slice A' m c')) w') : o.wp P a w K Q := by
  refine wp_append_reads w s x t ho base e z size bytes ht hi hzs hsz _ 0 0 [] hs (own_empty hbox hb) B D m k news hx hr h1 (by omega) hby (by have := hbox.lt; omega) fun A' c' w' h2 h3 => ?_
  rw [Nat.zero_add] at h2 ⊢
  exact h A' c' w' (by simpa using h2) h3

/-- append onto an empty slice that was just written out, at a step of a region that draws -/
theorem step_clone {P : Program} (w : World) {ops : Array Oper} {o : Oper} {a : Act} {K : Act → World → Prop} {Q : Exit → Act → World → Prop} {E : Prop} (hgd : o.guard = none) (s x : Operand) (t : TypeId)
    (ho : o.op = .call { callee := .builtin .append, args := #[s, x], argTypes := #[t, t] })
    (base : Nat) (e : TypeId) (z : Value) (size bytes : Nat) (ht : P.underlying t = some (.slice e)) (hi : (P.info? e).map (fun i => (i.zero, i.size, i.bytes)) = some (some z, size, bytes))
    (hzs : z.cells.size = size) (hsz : 0 < size) (g : Nat) (hbox : Box w g e #[]) (hb : base ≤ g) (hs : a.eval s = .slice (some ⟨g, 0, none⟩) 0 0)
    (B : Nat) (D : Option Addr) (m k : Nat) (news : List Value) (hx : a.eval x = .slice D m k) (hr : Reads w B size D m news) (h1 : ∀ u ∈ news, u.oneCell' = true)
    (h63 : m ≤ 1000000000) (hby : bytes ≤ 1000)
    (h : ∀ A' c' w', w'.ownsRow base e size (.slice A' m c') m news → Touch g w w' → K (a.put o.dst (.slice A' m c')) w') :
    if Region.wanted o (yielded ops a.tmps) = true then Oper.wp P o a w K Q else E := by
  refine step_append_reads w hgd s x t ho base e z size bytes ht hi hzs hsz _ 0 0 [] hs (own_empty hbox hb) B D m k news hx hr h1 (by omega) hby (by have := hbox.lt; omega) fun A' c' w' h2 h3 => ?_
  rw [Nat.zero_add] at h2 ⊢
  exact h A' c' w' (by simpa using h2) h3

end Go.Proofs.YtcagfmbboliohaaDoor
