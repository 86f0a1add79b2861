/- The contract of the library's sort of votes. -/
import Derived.Test.YtbcmpfhemangpaaMs
set_option linter.all false
namespace Go.Proofs.Ytbcmpfhemangpaa
open Go.RowKit Go.Shelf Go.Sort
theorem row_k {w : World} {F : Nat → Prop} {A : Option Addr} {n c k : Nat} {t : TypeId} {f : Nat → Nat → SV} (h : (Hp.row (.slice A n c) t k n f).holds w F) : (A = none ∧ n = 0 ∧ c = 0) ∨ ∃ g cur, A = some ⟨g, 0, none⟩ ∧ w.heap[g]? = some (.cells cur t) ∧ n ≤ c ∧ c ≤ maxLen ∧ cur.size = c * k ∧ ∀ i j, i < n → j < k → (cur.toList.take (n * k)).getD (i * k + j) undef = (cur.toList.take (n * k)).getD (i * k + j) undef ∧ Has w F (f i j) ((cur.toList.take (n * k)).getD (i * k + j) undef) := by
  obtain ⟨xs, ⟨hl, hor⟩, hx⟩ := h
  rcases hor with ⟨hv, hn⟩ | ⟨g, cap, cur, hv, _, hb, hn, hc, hz, ht⟩
  · injection hv with h1 h2 h3
    exact .inl ⟨h1, hn, h3⟩
  · injection hv with h1 h2 h3
    subst h1 h3
    exact .inr ⟨g, cur, rfl, hb, hn, hc, hz, fun i j hi hj => ⟨rfl, by rw [ht]; exact (hx i j hi hj).2⟩⟩
theorem flat_at {l : List Vo} {t : Nat} (h : t < l.length * 3) : (flatK encV 3 l.toArray)[t]! = (encV (vo l (t / 3)))[t % 3]! := by
  rw [get_flatK _ _ _ _ (by simpa using h)]
  congr 2
  have : t / 3 < l.length := by omega
  simp [vo, this]
theorem enc_at {v : Vo} {j : Nat} (hj : j < 3) {w : World} {F : Nat → Prop} {x : Value} (h : Has w F (voF v j) x) : x = (encV v)[j]! := by
  rcases (by omega : j = 0 ∨ j = 1 ∨ j = 2) with rfl | rfl | rfl <;> exact h
theorem enc_has {v : Vo} {j : Nat} (hj : j < 3) {w : World} {F : Nat → Prop} : (encV v)[j]!.oneCell' = true ∧ Has w F (voF v j) (encV v)[j]! := by
  rcases (by omega : j = 0 ∨ j = 1 ∨ j = 2) with rfl | rfl | rfl <;> exact ⟨rfl, rfl⟩
theorem sortV_c (l : List Vo) (A : Option Addr) (c : Nat) (hl : l.length ≤ 1000000) (hnd : l.Pairwise fun u v => ¬ sameS u v) : SMut Try.prog 94 [.val (.slice A l.length c), .val (.func (.func 67) #[] #[])] (.row (.slice A l.length c) 25 3 l.length (rowF voF l))
    fun r N p' => r = .any ∧ N = [] ∧ ∃ l', (∀ x, x ∈ l' ↔ x ∈ l) ∧ Srt l' ∧ l'.length = l.length ∧ p' = .row (.slice A l.length c) 25 3 l.length (rowF voF l') := ⟨fun R => by
  refine ⟨callable_of Try.func94 (by kernel_rfl) (by kernel_rfl), fun w F vs hs hv => ?_⟩
  match vs, hv with
  | [v0, v1], ⟨h0, h1, _⟩ =>
    have e0 : v0 = .slice A l.length c := h0
    have e1 : v1 = .func (.func 67) #[] #[] := h1
    subst e0 e1
    rcases row_k (hs.holds _ List.mem_cons_self) with ⟨rfl, hn0, rfl⟩ | ⟨g, cur, rfl, hb, hnc, hcm, hz, hx⟩
    · obtain rfl : l = [] := List.length_eq_zero_iff.1 hn0
      refine (AnyF.slices_SortFunc_none laysV none 0 _ w).mono ?_
      rintro e w' ⟨rfl, rfl⟩
      exact ⟨_, rfl, .any, F, _, ⟨[], _, rfl, rfl, rfl, [], fun x => Iff.rfl, List.Pairwise.nil, rfl, rfl⟩, Keep.refl _ _, fun _ h => h, hs, trivial⟩
    · have hgF : ∀ b, (Hp.row (.slice (some ⟨g, 0, none⟩) l.length c) 25 3 l.length (rowF voF l)).fp b ↔ b = g := fun b => by
        constructor
        · intro hb
          have : some g = some b := hb
          injection this with this
          exact this.symm
        · rintro rfl; rfl
      have hcell : ∀ t, t < l.length * 3 → cur[t]? = some (flatK encV 3 l.toArray)[t]! := fun t ht => by
        have h1 := (hx (t / 3) (t % 3) (by omega) (by omega)).2
        have h2 := enc_at (by omega) h1
        rw [flat_at ht, ← h2, show t / 3 * 3 + t % 3 = t by omega, List.getD_eq_getElem?_getD, List.getElem?_take, if_pos ht, Array.getElem?_toList]
        rw [Array.getElem?_eq_getElem (by omega)]
        rfl
      have hH : HoldsK encV 3 w g 0 l.toArray := fun j hj => by
        rw [size_flatK] at hj
        have hj : j < l.length * 3 := by simpa using hj
        refine ⟨?_, ?_⟩
        · unfold World.cell?
          simp only [hb, Nat.zero_add]
          exact hcell j hj
        · unfold World.frozen?
          simp only [hb]
          simp
      have hsort := AnyQ.slices_SortFunc laysV 3 Try.isAgg25 Try.sizeOf25 encV (fun _ => rfl) (fun x v hv => by simp [encV] at hv; rcases hv with rfl | rfl | rfl <;> rfl) cmpV swoV 67 #[] g 0 c l.toArray w (enters_of Try.func67 (by kernel_rfl) rfl) (cmpLV g 0 _ w) hH (by have := (hs.fp _ List.mem_cons_self g ((hgF g).2 rfl)).1; omega) (by simp; omega)
      refine hsort.mono ?_
      rintro e w' ⟨rfl, d', n, os, ⟨hp1, -, hp2⟩, hso, rfl⟩
      have hsz : d'.size = l.length := by simpa using hp1
      have hperm : d'.toList.Perm l := by
        have h1 : d'.extract 0 l.toArray.size = d' := by rw [← hp1]; exact Array.extract_size
        have h2 : l.toArray.extract 0 l.toArray.size = l.toArray := Array.extract_size
        rw [h1, h2] at hp2
        exact hp2
      have hheap : (sortWorldK encV 3 w g 0 n d' os).heap = w.heap.modify g (onCells (putCells id 0 (flatK encV 3 d'))) ++ os := rfl
      have hmem : ∀ x, x ∈ d'.toList ↔ x ∈ l := fun x => hperm.mem_iff
      have hgs : g < w.heap.size := (hs.fp _ List.mem_cons_self g ((hgF g).2 rfl)).1
      have hw : ∀ b, b < w.heap.size → b ≠ g → (sortWorldK encV 3 w g 0 n d' os).heap[b]? = w.heap[b]? := fun b hb hne => by
        rw [hheap, Array.getElem?_append_left (by simpa using hb), Array.getElem?_modify, if_neg (by omega)]
      have hg2 : (sortWorldK encV 3 w g 0 n d' os).heap[g]? = some (.cells (putCells id 0 (flatK encV 3 d') cur) 25) := by
        rw [hheap, Array.getElem?_append_left (by simpa using hgs), Array.getElem?_modify, if_pos rfl, hb]
        rfl
      have hzs : w.heap.size ≤ (sortWorldK encV 3 w g 0 n d' os).heap.size := by
        rw [hheap]
        simp
      have hd : d' = d'.toList.toArray := rfl
      refine ⟨_, rfl, .any, F, _, ⟨[], _, rfl, rfl, rfl, d'.toList, hmem, ?_, by simpa using hsz, rfl⟩, ⟨rfl, rfl, rfl, hzs, fun b hb => hw b (hs.lt b hb) fun e => (hs.fp _ List.mem_cons_self b ((hgF b).2 e)).2 hb, Nat.le_add_right _ _⟩, fun _ h => h, ?_, trivial⟩
      · have hnd' : d'.toList.Pairwise fun u v => ¬ sameS u v := (hperm.pairwise_iff (fun {a b} h e => h ⟨e.1.symm, e.2.symm⟩)).2 hnd
        refine Srt.of fun i j hij hj => ?_
        have hj' : j < d'.size := by simpa using hj
        have h1 := hso i j (Nat.zero_le _) hij (by simpa [hsz] using hj')
        rw [ltV, getElem!_pos d' j hj', getElem!_pos d' i (by omega)] at h1
        have h2 := List.pairwise_iff_getElem.1 hnd' i j (by simp; omega) hj hij
        rw [vo_eq (by simp; omega), vo_eq hj]
        simp only [Array.getElem_toList] at h2 ⊢
        rw [bfo_false] at h1
        rw [bfo_iff]
        unfold sameS at h2
        omega
      · refine hs.turn hzs (fun b hb hne => hw b hb fun e => hne ((hgF b).2 e)) ?_ fun b hb => ⟨by rw [(hgF b).1 hb]; omega, .inl hb⟩
        have hcs : (putCells id 0 (flatK encV 3 d') cur).size = c * 3 := by unfold putCells; rw [Array.size_mapIdx, hz]
        have hcl : (putCells id 0 (flatK encV 3 d') cur).toList.length = c * 3 := hcs
        refine ⟨(putCells id 0 (flatK encV 3 d') cur).toList.take (l.length * 3), ⟨by rw [List.length_take, hcl]; omega, .inr ⟨g, c, _, rfl, by omega, hg2, hnc, hcm, hcs, rfl⟩⟩, fun i k hi hk => ?_⟩
        have e : ((putCells id 0 (flatK encV 3 d') cur).toList.take (l.length * 3)).getD (i * 3 + k) undef = (encV (vo d'.toList i))[k]! := by
          have ht : i * 3 + k < l.length * 3 := by omega
          rw [List.getD_eq_getElem?_getD, List.getElem?_take, if_pos ht, Array.getElem?_toList]
          unfold putCells
          rw [Array.getElem?_mapIdx, hcell _ ht]
          simp only [Option.map_some, Option.getD_some, size_flatK, hsz, Nat.zero_le, true_and, Nat.zero_add, if_pos ht, Nat.sub_zero, id]
          have := flat_at (l := d'.toList) (t := i * 3 + k) (by simpa [hsz] using ht)
          rw [show (i * 3 + k) / 3 = i by omega, show (i * 3 + k) % 3 = k by omega] at this
          exact this
        rw [e]
        exact enc_has hk⟩
end Go.Proofs.Ytbcmpfhemangpaa
