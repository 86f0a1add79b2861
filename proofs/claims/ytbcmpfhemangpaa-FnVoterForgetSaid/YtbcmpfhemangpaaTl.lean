/- The library's binary search and insertion in a list of ints, off the kit's shelf. -/
import Derived.Shelf.Slices.SearchI
import Derived.Shelf.Slices.Empties
import Derived.Shelf.Spec.SlicesInsert
import Derived.Shelf.Spec.SlicesInsertGrow
import Derived.Deep.OwnRows
import Derived.Lib.LazyBuf
import Derived.Test.YtbcmpfhemangpaaTy
set_option linter.all false
namespace Go.Proofs.Ytbcmpfhemangpaa
open Go.RowKit Go.Shelf

def rnS : Ren :=
  { f := fun x => match x with
      | 25 => 72
      | 31 => 97
      | 32 => 98
      | 37 => 106
      | n => n
    t := fun x => match x with
      | 22 => 23
      | 3 => 3
      | 4 => 4
      | 40 => 103
      | 0 => 0
      | n => n
    g := fun n => n }
set_option maxRecDepth 100000 in
theorem laysS : Lays2.n25 Try.prog rnS :=
  { mixed := rfl, f25 := Try.func72.trans (congrArg some rfl), f31 := Try.func97.trans (congrArg some rfl), f32 := Try.func98.trans (congrArg some rfl), f37 := Try.func106.trans (congrArg some rfl)
    t0 := Try.underlying0, a0 := Try.isAgg0, z0 := Try.sizeOf0, v0 := Try.zeroValue0
    t3 := Try.underlying3, a3 := Try.isAgg3, z3 := Try.sizeOf3, v3 := Try.zeroValue3
    t4 := Try.underlying4, a4 := Try.isAgg4, z4 := Try.sizeOf4, v4 := Try.zeroValue4
    t22 := Try.underlying23, a22 := Try.isAgg23, z22 := Try.sizeOf23, v22 := Try.zeroValue23
    t40 := Try.underlying103, a40 := Try.isAgg103, z40 := Try.sizeOf103, v40 := Try.zeroValue103 }
theorem bins_c (l : List Int) (x : Int) (hl : l.length ≤ 1000000000) (hs : l.Pairwise (· ≤ ·)) : SRet Try.prog 72 [isl l, .i x] (· = .tup 2 (litF [.i (l.countP fun y => decide (y < x)), .b (l.contains x)])) := ⟨fun R => by
  refine ⟨callable_of Try.func72 (by kernel_rfl) (by kernel_rfl), fun w F vs hsat hv => ?_⟩
  have fin : ∀ w' : World, (∃ q, w' = w.drewN q) → ∃ v, Ending.returned (.tuple #[.int .i64 (l.countP fun y => decide (y < x)), .bool (l.contains x)]) = .returned v ∧ ∃ r F' H', (H' = [Hp.cust R] ∧ r = .tup 2 (litF [.i (l.countP fun y => decide (y < x)), .b (l.contains x)])) ∧ Keep F w w' ∧ (∀ b, F b → F' b) ∧ HSat w' F' H' ∧ Has w' F' r v := by
    rintro w' ⟨q, rfl⟩
    refine ⟨_, rfl, _, F, _, ⟨rfl, rfl⟩, ⟨rfl, rfl, rfl, Nat.le_refl _, fun _ _ => rfl, Nat.le_add_right _ _⟩, fun _ h => h, hsat.same (Nat.le_refl _) (fun _ _ => rfl), _, rfl, rfl, fun k hk => ?_⟩
    rcases (by omega : k = 0 ∨ k = 1) with rfl | rfl <;> rfl
  match vs, hv with
  | [v0, v1], ⟨⟨A, c, e0, hn, hc, h⟩, h1, _⟩ =>
    have e1 : v1 = .int .i64 x := h1
    subst e0 e1
    by_cases h0 : l.length = 0
    · obtain rfl : l = [] := List.length_eq_zero_iff.1 h0
      refine (Any.slices_BinarySearch_int_empty laysS A c x w).mono ?_
      rintro e w' ⟨rfl, hw⟩
      exact fin w' ⟨0, hw⟩
    · obtain ⟨b, off, rfl, hb, hcell⟩ := h (by omega)
      have hz : l.take l.length = l := List.take_length
      refine (Any.slices_BinarySearch_int laysS b off l.length c l x w (Nat.le_refl _) (by omega) (fun j hj => ?_) (by rw [hz]; exact hs)).mono ?_
      · obtain ⟨u, hu, _, hx⟩ := hcell j 0 hj (by omega)
        have e : u = .int .i64 (l.getD j default) := hx
        rw [e, Nat.mul_one, Nat.add_zero] at hu
        exact hu
      · rintro e w' ⟨rfl, hq⟩
        rw [hz]
        exact fin w' hq⟩
def rnI : Ren :=
  { f := fun x => match x with
      | 21 => 73
      | 27 => 99
      | 28 => 100
      | 35 => 107
      | 39 => 118
      | n => n
    t := fun x => match x with
      | 22 => 23
      | 3 => 3
      | 4 => 4
      | 0 => 0
      | n => n
    g := fun n => n }
set_option maxRecDepth 100000 in
theorem laysI : Lays2.n21 Try.prog rnI :=
  { mixed := rfl, f21 := Try.func73.trans (congrArg some rfl), f27 := Try.func99.trans (congrArg some rfl), f28 := Try.func100.trans (congrArg some rfl), f35 := Try.func107.trans (congrArg some rfl), f39 := Try.func118.trans (congrArg some rfl)
    t0 := Try.underlying0, a0 := Try.isAgg0, z0 := Try.sizeOf0, v0 := Try.zeroValue0
    t3 := Try.underlying3, a3 := Try.isAgg3, z3 := Try.sizeOf3, v3 := Try.zeroValue3
    t4 := Try.underlying4, a4 := Try.isAgg4, z4 := Try.sizeOf4, v4 := Try.zeroValue4
    t22 := Try.underlying23, a22 := Try.isAgg23, z22 := Try.sizeOf23, v22 := Try.zeroValue23
    i3 := rfl }
/-- the list with x at place p -/
def insI (l : List Int) (p : Nat) (x : Int) : List Int := l.take p ++ x :: l.drop p
theorem insI_len {l : List Int} {p : Nat} {x : Int} (h : p ≤ l.length) : (insI l p x).length = l.length + 1 := by
  unfold insI; simp; omega
theorem insI_get {l : List Int} {p i : Nat} {x : Int} (h : p ≤ l.length) : (insI l p x).getD i default = if i < p then l.getD i default else if i = p then x else l.getD (i - 1) default := by
  unfold insI
  rw [List.getD_eq_getElem?_getD, List.getElem?_append, List.length_take, Nat.min_eq_left h]
  by_cases h1 : i < p
  · rw [if_pos h1, if_pos h1, List.getElem?_take, if_pos h1, ← List.getD_eq_getElem?_getD]
  · rw [if_neg h1, if_neg h1]
    by_cases h2 : i = p
    · subst h2; simp
    · rw [if_neg h2, show i - p = (i - p - 1) + 1 by omega, List.getElem?_cons_succ, List.getElem?_drop, show p + (i - p - 1) = i - 1 by omega, ← List.getD_eq_getElem?_getD]
/-- a row of ints, off its block -/
theorem row_of_is {w : World} {F : Nat → Prop} {g n cap : Nat} {t : TypeId} {f : Nat → Value} {l : List Int} (h : w.rowIs g t cap f) (hn : n ≤ cap) (hc : cap ≤ maxLen) (hf : ∀ i, i < n → f i = .int .i64 (l.getD i default)) : (Hp.row (.slice (some ⟨g, 0, none⟩) n cap) t 1 n (rowF intF l)).holds w F := by
  obtain ⟨cur, hb, hz, hcur⟩ := h
  refine ⟨cur.toList.take (n * 1), ⟨by simp [hz]; omega, .inr ⟨g, cap, cur, rfl, Nat.zero_le _, hb, hn, hc, by omega, rfl⟩⟩, fun i k hi hk => ?_⟩
  obtain rfl : k = 0 := by omega
  have e : (cur.toList.take (n * 1)).getD (i * 1 + 0) undef = .int .i64 (l.getD i default) := by
    rw [Nat.mul_one, Nat.mul_one, Nat.add_zero, List.getD_eq_getElem?_getD, List.getElem?_take, if_pos hi, Array.getElem?_toList, hcur i (by omega), hf i hi]
    rfl
  rw [e]
  exact ⟨rfl, rfl⟩
theorem row_is {w : World} {F : Nat → Prop} {A : Option Addr} {n c : Nat} {t : TypeId} {f : Nat → Nat → SV} (h : (Hp.row (.slice A n c) t 1 n f).holds w F) : (A = none ∧ n = 0 ∧ c = 0) ∨ ∃ g fN, A = some ⟨g, 0, none⟩ ∧ w.rowIs g t c fN ∧ n ≤ c ∧ c ≤ maxLen ∧ ∀ i, i < n → Has w F (f i 0) (fN i) := by
  obtain ⟨xs, ⟨hl, hor⟩, hx⟩ := h
  rcases hor with ⟨hv, hn⟩ | ⟨g, cap, cur, hv, _, hb, hn, hc, hz, ht⟩
  · injection hv with h1 h2 h3
    exact .inl ⟨h1, hn, h3⟩
  · injection hv with h1 h2 h3
    subst h1 h3
    refine .inr ⟨g, fun i => cur.getD i undef, rfl, ⟨cur, hb, by omega, fun i hi => by simp [show i < cur.size by omega]⟩, hn, hc, fun i hi => ?_⟩
    have := (hx i 0 hi (by omega)).2
    have e : xs.getD (i * 1 + 0) undef = cur.getD i undef := by
      rw [← ht, Nat.mul_one, Nat.mul_one, Nat.add_zero, List.getD_eq_getElem?_getD, List.getElem?_take, if_pos hi, Array.getElem?_toList, Array.getD_eq_getD_getElem?]
    rwa [e] at this
theorem blk_setCells {b b' : Nat} (hne : b' ≠ b) : ∀ (vs : List Value) (o : Nat) (w : World), (w.setCells b o vs).heap[b']? = w.heap[b']?
  | [], _, _ => rfl
  | v :: r, o, w => (blk_setCells hne r (o + 1) _).trans (Go.Deep.blk_setCell_other _ _ _ _ hne)
theorem setCells_world (b : Nat) : ∀ (vs : List Value) (o : Nat) (w : World), (w.setCells b o vs).heap.size = w.heap.size ∧ (w.setCells b o vs).os = w.os ∧ (w.setCells b o vs).tape = w.tape ∧ (w.setCells b o vs).output = w.output
  | [], _, _ => ⟨rfl, rfl, rfl, rfl⟩
  | v :: r, o, w => by
    obtain ⟨h1, h2, h3, h4⟩ := setCells_world b r (o + 1) (w.setCell ⟨b, o, none⟩ v)
    exact ⟨h1.trans (by simp [World.setCell]), h2, h3, h4⟩
theorem setCells_drawn (b : Nat) : ∀ (vs : List Value) (o : Nat) (w : World), (w.setCells b o vs).drawn = w.drawn
  | [], _, _ => rfl
  | v :: r, o, w => setCells_drawn b r (o + 1) (w.setCell ⟨b, o, none⟩ v)
theorem set_is {w : World} {b : Nat} {t : TypeId} {n : Nat} {f : Nat → Value} (vs : List Value) (o : Nat) (h : w.rowIs b t n f) : (w.setCells b o vs).rowIs b t n (fun j => if o ≤ j ∧ j < o + vs.length then vs[j - o]?.getD default else f j) := Go.rowIs_setCells vs o w f h
theorem alloc_is (w : World) (arr : Array Value) {cap : Nat} (t : TypeId) (h : arr.size = cap) : (w.alloc (.cells arr t)).rowIs w.heap.size t cap (fun i => arr[i]?.getD undef) :=
  ⟨arr, by show (w.heap.push _)[w.heap.size]? = _; simp, h, fun i hi => by simp [show i < arr.size by omega]⟩
theorem shape_is {w : World} {b : Nat} {t : TypeId} {n : Nat} {f : Nat → Value} (h : w.rowIs b t n f) : w.shape? b = some (t, n) := by
  obtain ⟨c, hb, hn, _⟩ := h
  simp [World.shape?, hb, hn]
theorem zc_len (k : Nat) : (Builtin.zeroCells (Value.int .i64 0).cells k).size = k := by
  have := zeroCells_len (z := .int .i64 0) (q := k) (esz := 1) rfl rfl
  rwa [Array.length_toList, Nat.mul_one] at this
theorem map_at {l : List Int} {i : Nat} {d : Value} (h : i < l.length) : (l.map (Value.int .i64))[i]?.getD d = .int .i64 (l.getD i default) := by simp [h]
theorem insI_c (l : List Int) (p : Nat) (x : Int) (A : Option Addr) (c gv : Nat) (fv : Nat → Nat → SV) (hp : p ≤ l.length) (hl : l.length ≤ 1000000000) (hf : fv 0 0 = .i x) (R : Heaplet) :
    SCalls Try.prog 73 [.val (.slice A l.length c), .i p, .val (.slice (some ⟨gv, 0, none⟩) 1 1)] [.row (.slice A l.length c) 3 1 l.length (rowF intF l), .row (.slice (some ⟨gv, 0, none⟩) 1 1) 3 1 1 fv, .cust R]
      fun r H' => ∃ N, H' = N ++ [.cust R] ∧ ∃ A m c, m = l.length + 1 ∧ r = .own 0 (.slice A m c) ∧ N = [.row (.slice A m c) 3 1 m (rowF intF (insI l p x))] := by
  refine ⟨callable_of Try.func73 (by kernel_rfl) (by kernel_rfl), fun w F vs hs hv => ?_⟩
  match vs, hv with
  | [v0, v1, v2], ⟨h0, h1, h2, _⟩ =>
    have e0 : v0 = .slice A l.length c := h0
    have e1 : v1 = .int .i64 p := h1
    have e2 : v2 = .slice (some ⟨gv, 0, none⟩) 1 1 := h2
    subst e0 e1 e2
    obtain ⟨g2, f2, hg2, hr2, -, -, hx2⟩ := (row_is (hs.holds _ (List.mem_cons_of_mem _ List.mem_cons_self))).resolve_left (fun h => by cases h.1)
    obtain rfl : gv = g2 := by injection hg2 with h; injection h
    have hfx : f2 0 = .int .i64 x := by have := hx2 0 (by omega); rw [hf] at this; exact this
    have hlen : (insI l p x).length = l.length + 1 := insI_len hp
    have hvs : ∀ j v, [Value.int .i64 x][j]? = some v → w.cell? ⟨gv, 0 + j, none⟩ = some v := fun j v hj => by
      obtain ⟨hj1, rfl⟩ := List.getElem?_eq_some_iff.1 hj
      obtain rfl : j = 0 := by simp at hj1; omega
      have := hr2.cell (i := 0) (by omega)
      rw [hfx] at this
      exact this
    have h1v : ∀ v ∈ [Value.int .i64 x], v.oneCell' = true := fun v hv => by rw [List.mem_singleton.1 hv]; rfl
    have hcl : (l.map (Value.int .i64)).length = l.length := List.length_map ..
    have h1c : ∀ v ∈ l.map (Value.int .i64), v.oneCell' = true := fun v hv => by obtain ⟨z, _, rfl⟩ := List.mem_map.1 hv; rfl
    have hR : HSat w F [.cust R] := hs.tail.tail
    have hgt : ∀ i, (l.map (Value.int .i64))[i]?.getD default = (l[i]?.map (Value.int .i64)).getD default := fun i => by rw [List.getElem?_map]
    -- a new block
    have new : ∀ (w' : World) (f : Nat → Value) (cap : Nat), w'.os = w.os → w'.tape = w.tape → w'.output = w.output → w.drawn ≤ w'.drawn → w.heap.size < w'.heap.size → (∀ b, b < w.heap.size → w'.heap[b]? = w.heap[b]?) → w'.rowIs w.heap.size 3 cap f → l.length + 1 ≤ cap → cap ≤ maxLen → (∀ i, i < l.length + 1 → f i = .int .i64 ((insI l p x).getD i default)) →
        ∃ v, Ending.returned (.slice (some ⟨w.heap.size, 0, none⟩) (l.length + 1) cap) = .returned v ∧ ∃ r F' H', (∃ N, H' = N ++ [.cust R] ∧ ∃ A m c, m = l.length + 1 ∧ r = .own 0 (.slice A m c) ∧ N = [.row (.slice A m c) 3 1 m (rowF intF (insI l p x))]) ∧ Keep F w w' ∧ (∀ b, F b → F' b) ∧ HSat w' F' H' ∧ Has w' F' r v := by
      intro w' f cap h1 h2 h3 hdr h4 h5 h6 h7 h8 h9
      refine ⟨_, rfl, .own 0 _, F, _, ⟨[_], rfl, _, _, _, rfl, rfl, rfl⟩, ⟨h1, h2, h3, by omega, fun b hb => h5 b (hs.lt b hb), hdr⟩, fun _ h => h, ?_, rfl⟩
      exact hR.cons (by omega) h5 (row_of_is h6 h7 h8 h9) (fun b hb => by obtain rfl : w.heap.size = b := by injection hb
                                                                          omega)
    -- the old block
    have old : ∀ (w' : World) (g : Nat) (f : Nat → Value), A = some ⟨g, 0, none⟩ → w'.os = w.os → w'.tape = w.tape → w'.output = w.output → w.drawn ≤ w'.drawn → w'.heap.size = w.heap.size → (∀ b, b ≠ g → w'.heap[b]? = w.heap[b]?) → w'.rowIs g 3 c f → l.length + 1 ≤ c → c ≤ maxLen → (∀ i, i < l.length + 1 → f i = .int .i64 ((insI l p x).getD i default)) →
        ∃ v, Ending.returned (.slice (some ⟨g, 0, none⟩) (l.length + 1) c) = .returned v ∧ ∃ r F' H', (∃ N, H' = N ++ [.cust R] ∧ ∃ A m c, m = l.length + 1 ∧ r = .own 0 (.slice A m c) ∧ N = [.row (.slice A m c) 3 1 m (rowF intF (insI l p x))]) ∧ Keep F w w' ∧ (∀ b, F b → F' b) ∧ HSat w' F' H' ∧ Has w' F' r v := by
      intro w' g f hA h1 h2 h3 hdr h4 h5 h6 h7 h8 h9
      have hgF : ∀ b, (Hp.row (.slice A l.length c) 3 1 l.length (rowF intF l)).fp b → b = g := fun b hb => by
        rw [hA] at hb
        have : some g = some b := hb
        injection this with this
        exact this.symm
      have hgA : (Hp.row (.slice A l.length c) 3 1 l.length (rowF intF l)).fp g := by rw [hA]; rfl
      refine ⟨_, rfl, .own 0 _, F, _, ⟨[_], rfl, _, _, _, rfl, rfl, rfl⟩, ⟨h1, h2, h3, by omega, fun b hb => h5 b fun e => (hs.fp _ List.mem_cons_self b (e ▸ hgA)).2 hb, hdr⟩, fun _ h => h, ?_, rfl⟩
      have h10 := hs.turn (w' := w') (h' := .row (.slice (some ⟨g, 0, none⟩) (l.length + 1) c) 3 1 (l.length + 1) (rowF intF (insI l p x))) (by omega) (fun b _ hne => h5 b fun e => hne (e ▸ hgA)) (row_of_is h6 h7 h8 h9) (fun b hb => by
        have : some g = some b := hb
        injection this with this
        subst this
        exact ⟨by have := (hs.fp _ List.mem_cons_self g hgA).1; omega, .inl hgA⟩)
      exact (h10.perm (List.Perm.swap _ _ _)).tail
    rcases row_is (hs.holds _ List.mem_cons_self) with ⟨rfl, hn0, rfl⟩ | ⟨g, f1, rfl, hr1, hnc, hcm, hx1⟩
    · obtain rfl : l = [] := List.length_eq_zero_iff.1 hn0
      obtain rfl : p = 0 := by simpa using hp
      refine (Any2.slices_Insert_int_end_grow laysI none 0 0 gv 0 1 1 [] [.int .i64 x] w (by omega) (by omega) (by omega) (by omega) rfl rfl (fun _ => rfl) (fun a h => by cases h) hvs h1v).mono ?_
      rintro e w' ⟨rfl, rfl⟩
      have hcap := grownCap_ge w (0 + 1) 0 (rnI.t 3)
      have hal := alloc_is w.drew ((([] : List Value) ++ [Value.int .i64 x]).toArray ++ Builtin.zeroCells (Value.int .i64 0).cells (grownCap w (0 + 1) 0 (rnI.t 3) - (0 + 1))) (cap := grownCap w (0 + 1) 0 (rnI.t 3)) 3 (by rw [Array.size_append, zc_len]; show 1 + _ = _; omega)
      exact new _ _ _ rfl rfl rfl (Nat.le_succ _) (by simp) (fun b hb => Below.heap_alloc w.drew _ b hb) hal hcap (grownCap_le_maxLen w _ _ _ (by unfold maxLen; omega)) (fun i hi => by
        obtain rfl : i = 0 := by simpa using hi
        rw [Array.getElem?_append_left (by simp)]
        rfl)
    · have hcs : ∀ j v, (l.map (Value.int .i64))[j]? = some v → w.cell? ⟨g, 0 + j, none⟩ = some v := fun j v hj => by
        obtain ⟨hj1, hj2⟩ := List.getElem?_eq_some_iff.1 hj
        rw [hcl] at hj1
        have h1 := hr1.cell (i := j) (by omega)
        have h2 : f1 j = .int .i64 (l.getD j default) := hx1 j hj1
        rw [Nat.zero_add, h1, h2, ← hj2, List.getElem_map]
        simp [hj1]
      have hne : gv ≠ g := fun e => by
        have := (List.pairwise_cons.1 hs.apart).1 _ List.mem_cons_self g rfl
        exact this (by rw [e]; rfl)
      by_cases hpn : p = l.length
      · subst hpn
        have hins : insI l l.length x = l ++ [x] := by simp [insI]
        by_cases hroom : l.length + 1 ≤ c
        · refine (Any2.slices_Insert_int_end_room laysI g 0 l.length c gv 0 1 1 [.int .i64 x] w (by omega) hroom (by unfold maxLen at hcm; omega) rfl (fun j hj => by rw [hr1.cell (by omega)]; rfl) (fun j hj => hr1.frozen _) hvs h1v).mono ?_
          rintro e w' ⟨rfl, rfl⟩
          obtain ⟨s1, s2, s3, s4⟩ := setCells_world g [Value.int .i64 x] (0 + l.length) w
          exact old _ g _ rfl s2 s3 s4 (by rw [setCells_drawn]; exact Nat.le_refl _) s1 (fun b hb => blk_setCells hb _ _ _) (set_is _ _ hr1) hroom hcm (fun i hi => by
            rw [hins]
            by_cases h : i = l.length
            · subst h; simp
            · rw [if_neg (by simp; omega)]
              have h2 : f1 i = .int .i64 (l.getD i default) := hx1 i (by omega)
              rw [h2, List.getD_eq_getElem?_getD, List.getD_eq_getElem?_getD, List.getElem?_append_left (by omega)])
        · refine (Any2.slices_Insert_int_end_grow laysI (some ⟨g, 0, none⟩) l.length c gv 0 1 1 (l.map (.int .i64)) [.int .i64 x] w (by omega) hnc (by omega) (by omega) hcl rfl (fun h => by cases h) (fun a ha j v hj => by injection ha with ha; subst ha; rw [Addr.add_lit]; exact hcs j v hj) hvs h1v).mono ?_
          rintro e w' ⟨rfl, rfl⟩
          have hcap := grownCap_ge w (l.length + 1) c (rnI.t 3)
          have hal := alloc_is w.drew ((l.map (Value.int .i64) ++ [Value.int .i64 x]).toArray ++ Builtin.zeroCells (Value.int .i64 0).cells (grownCap w (l.length + 1) c (rnI.t 3) - (l.length + 1))) (cap := grownCap w (l.length + 1) c (rnI.t 3)) 3 (by rw [Array.size_append, zc_len]; simp; omega)
          exact new _ _ _ rfl rfl rfl (Nat.le_succ _) (by simp) (fun b hb => Below.heap_alloc w.drew _ b hb) hal hcap (grownCap_le_maxLen w _ _ _ (by unfold maxLen; omega)) (fun i hi => by
            rw [hins, Array.getElem?_append_left (by simpa using hi), show (List.map (Value.int .i64) l ++ [Value.int .i64 x]) = (l ++ [x]).map (Value.int .i64) by simp]
            rw [List.getElem?_toArray]
            exact map_at (by simpa using hi))
      · have hpl : p < l.length := by omega
        by_cases hroom : l.length + 1 ≤ c
        · refine (Any2.slices_Insert_int_shift laysI g 0 l.length c p gv 0 1 1 (l.map (.int .i64)) [.int .i64 x] w hpl (by omega) hroom (by unfold maxLen at hcm; omega) hne hcl rfl hcs (fun j hj => by rw [Nat.zero_add, hr1.cell (by omega)]; rfl) (fun j hj => hr1.frozen _) hvs h1c h1v _ _ _ _ (shape_is hr2) (shape_is hr1) (by omega) (hr2.frozen _) (hr2.frozen _)).mono ?_
          rintro e w' ⟨rfl, rfl⟩
          obtain ⟨s1, s2, s3, s4⟩ := setCells_world g ((l.map (Value.int .i64)).drop p) (0 + (p + 1)) w.drew
          obtain ⟨q1, q2, q3, q4⟩ := setCells_world g [Value.int .i64 x] (0 + p) (w.drew.setCells g (0 + (p + 1)) ((l.map (Value.int .i64)).drop p))
          exact old _ g _ rfl (q2.trans s2) (q3.trans s3) (q4.trans s4) (by rw [setCells_drawn, setCells_drawn]; exact Nat.le_succ _) (q1.trans s1) (fun b hb => (blk_setCells hb _ _ _).trans (blk_setCells hb _ _ _)) (set_is _ _ (set_is _ _ hr1.drew)) hroom hcm (fun i hi => by
            rw [insI_get hp]
            by_cases h1 : i < p
            · rw [if_pos h1, if_neg (by simp; omega), if_neg (by omega)]
              exact hx1 i (by omega)
            · rw [if_neg h1]
              by_cases h2 : i = p
              · rw [if_pos h2, if_pos (by simp; omega), h2]; simp
              · rw [if_neg h2, if_neg (by simp; omega), if_pos (by simp; omega), List.getElem?_drop, show p + (i - (0 + (p + 1))) = i - 1 by omega]
                exact map_at (by omega))
        · refine (Any2.slices_Insert_int_grow laysI g 0 l.length c p gv 0 1 1 (l.map (.int .i64)) [.int .i64 x] w hpl (by omega) hnc (by omega) (by omega) hcl rfl hcs hvs h1c h1v).mono ?_
          rintro e w' ⟨rfl, rfl⟩
          have hcap := grownCap_ge w (l.length + 1) c (rnI.t 3)
          have hal := alloc_is w ((((l.map (Value.int .i64)).take p).toArray ++ Builtin.zeroCells (Value.int .i64 0).cells (l.length + 1 - p)) ++ Builtin.zeroCells (Value.int .i64 0).cells (grownCap w (l.length + 1) c (rnI.t 3) - (l.length + 1))) (cap := grownCap w (l.length + 1) c (rnI.t 3)) 3 (by rw [Array.size_append, Array.size_append, zc_len, zc_len]; simp; omega)
          generalize hW : w.alloc (.cells ((((l.map (Value.int .i64)).take p).toArray ++ Builtin.zeroCells (Value.int .i64 0).cells (l.length + 1 - p)) ++ Builtin.zeroCells (Value.int .i64 0).cells (grownCap w (l.length + 1) c (rnI.t 3) - (l.length + 1))) 3) = W at hal
          have hW' : w.alloc (.cells ((((l.map (Value.int .i64)).take p).toArray ++ Builtin.zeroCells (Value.int .i64 0).cells (l.length + 1 - p)) ++ Builtin.zeroCells (Value.int .i64 0).cells (grownCap w (l.length + 1) c (rnI.t 3) - (l.length + 1))) (rnI.t 3)) = W := hW
          rw [hW']
          have w1 : W.heap.size = w.heap.size + 1 := by rw [← hW]; simp
          have w2 : ∀ b, b < w.heap.size → W.heap[b]? = w.heap[b]? := fun b hb => by rw [← hW]; exact Below.heap_alloc w _ b hb
          have w3 : W.os = w.os ∧ W.tape = w.tape ∧ W.output = w.output := by rw [← hW]; exact ⟨rfl, rfl, rfl⟩
          have w4 : W.drawn = w.drawn := by rw [← hW]; rfl
          obtain ⟨s1, s2, s3, s4⟩ := setCells_world w.heap.size [Value.int .i64 x] p W.drew
          obtain ⟨q1, q2, q3, q4⟩ := setCells_world w.heap.size ((l.map (Value.int .i64)).drop p) (p + 1) (W.drew.setCells w.heap.size p [Value.int .i64 x]).drew
          have z1 : W.drew.heap.size = w.heap.size + 1 := w1
          have z2 : (W.drew.setCells w.heap.size p [Value.int .i64 x]).drew.heap.size = w.heap.size + 1 := s1.trans w1
          exact new _ _ _ (q2.trans (s2.trans w3.1)) (q3.trans (s3.trans w3.2.1)) (q4.trans (s4.trans w3.2.2)) (by rw [setCells_drawn]; show w.drawn ≤ (W.drew.setCells _ _ _).drawn + 1; rw [setCells_drawn]; show w.drawn ≤ W.drawn + 1 + 1; omega) (by omega) (fun b hb => (blk_setCells (by omega) _ _ _).trans ((blk_setCells (w := W.drew) (by omega) _ _).trans (w2 b hb))) (set_is _ _ (set_is _ _ hal.drew).drew) hcap (grownCap_le_maxLen w _ _ _ (by unfold maxLen; omega)) (fun i hi => by
            rw [insI_get hp]
            by_cases h1 : i < p
            · rw [if_pos h1, if_neg (by simp; omega), if_neg (by simp; omega), Array.getElem?_append_left (by simp [zc_len]; omega), Array.getElem?_append_left (by simp; omega), List.getElem?_toArray, List.getElem?_take, if_pos h1]
              exact map_at (by omega)
            · rw [if_neg h1]
              by_cases h2 : i = p
              · rw [if_pos h2, if_neg (by omega), if_pos (by simp; omega), h2]; simp
              · rw [if_neg h2, if_pos (by simp; omega), List.getElem?_drop, show p + (i - (p + 1)) = i - 1 by omega]
                exact map_at (by omega))
end Go.Proofs.Ytbcmpfhemangpaa
