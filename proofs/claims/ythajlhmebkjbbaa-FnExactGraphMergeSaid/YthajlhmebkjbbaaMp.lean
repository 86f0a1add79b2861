/- Two graphs merged, in plain Lean. -/
import Derived.Test.YthajlhmebkjbbaaGm
set_option linter.all false
namespace Go.Proofs.Ythajlhmebkjbbaa

/-- no vertex of one contradicts a vertex of the other -/
def Cf (a b : List Vx) : Prop := ∀ u ∈ a, ∀ w ∈ b, u.r = w.r → u.a = w.a → u = w
/-- what a merge gives -/
def MgP (c : List Int) (a b L : List Vx) (β : Bool) : Prop :=
  (β = true ∧ grOk c a = true ∧ grOk c b = true ∧ Cf a b ∧ grOk c L = true ∧ ∀ x, x ∈ L ↔ x ∈ a ∨ x ∈ b) ∨ (β = false ∧ L = [] ∧ ¬ (grOk c a = true ∧ grOk c b = true ∧ Cf a b))
theorem MgP.uniq {c : List Int} {a b L L' : List Vx} {β β' : Bool} (h : MgP c a b L β) (h' : MgP c a b L' β') : L = L' ∧ β = β' := by
  rcases h with ⟨rfl, h1, h2, h3, h4, h5⟩ | ⟨rfl, rfl, h1⟩
  · rcases h' with ⟨rfl, _, _, _, h6, h7⟩ | ⟨rfl, _, h8⟩
    · exact ⟨good_ext h4 h6 fun x => (h5 x).trans (h7 x).symm, rfl⟩
    · exact absurd ⟨h1, h2, h3⟩ h8
  · rcases h' with ⟨rfl, h2, h3, h4, _⟩ | ⟨rfl, rfl, _⟩
    · exact absurd ⟨h2, h3, h4⟩ h1
    · exact ⟨rfl, rfl⟩
theorem ord_uniq {vs : List Vx} (h : Ord vs) {u w : Vx} (hu : u ∈ vs) (hw : w ∈ vs) (hr : u.r = w.r) (ha : u.a = w.a) : u = w := by
  obtain ⟨i, hi, rfl⟩ := List.getElem_of_mem hu
  obtain ⟨j, hj, rfl⟩ := List.getElem_of_mem hw
  have h := ord_get.1 h
  rcases Nat.lt_trichotomy i j with e | e | e
  · have := bef_iff.1 (h i j e hj); rw [vg_eq hi, vg_eq hj] at this; omega
  · subst e; rfl
  · have := bef_iff.1 (h j i e hi); rw [vg_eq hi, vg_eq hj] at this; omega
/-- a union of good graphs that stands in order is good -/
theorem good_union {c : List Int} {a b L : List Vx} (ha : grOk c a = true) (hb : grOk c b = true) (ho : Ord L) (hm : ∀ x, x ∈ L ↔ x ∈ a ∨ x ∈ b) : grOk c L = true := by
  obtain ⟨a1, _, a3, a4⟩ := good_pw.1 ha
  obtain ⟨_, _, b3, b4⟩ := good_pw.1 hb
  refine good_pw.2 ⟨a1, ho, fun x hx => ?_, fun x hx => ?_⟩
  · rcases (hm x).1 hx with h | h
    · exact a3 x h
    · exact b3 x h
  · rcases (hm x).1 hx with h | h
    · exact par_mono (fun y hy => (hm y).2 (.inl hy)) (a4 x h)
    · exact par_mono (fun y hy => (hm y).2 (.inr hy)) (b4 x h)
/-- the state of the program's loop -/
structure MgI (a b M : List Vx) (i j : Nat) : Prop where
  hi : i ≤ a.length
  hj : j ≤ b.length
  len : M.length ≤ i + j
  ord : Ord M
  mem : ∀ x, x ∈ M ↔ x ∈ a.take i ∨ x ∈ b.take j
  lta : ∀ x ∈ M, ∀ k, i ≤ k → k < a.length → bef x (vg a k) = true
  ltb : ∀ x ∈ M, ∀ k, j ≤ k → k < b.length → bef x (vg b k) = true
theorem MgI.start (a b : List Vx) : MgI a b [] 0 0 := ⟨Nat.zero_le _, Nat.zero_le _, Nat.zero_le _, List.Pairwise.nil, by simp, by simp, by simp⟩
theorem mem_take {vs : List Vx} {k : Nat} {x : Vx} (h : k < vs.length) : x ∈ vs.take (k + 1) ↔ x ∈ vs.take k ∨ x = vg vs k := by
  rw [take_succ h, List.mem_append, List.mem_singleton]
theorem ord_snoc {M : List Vx} {v : Vx} (h : Ord M) (hv : ∀ x ∈ M, bef x v = true) : Ord (M ++ [v]) := List.pairwise_append.2 ⟨h, by simp, fun x hx y hy => by rw [List.mem_singleton.1 hy]; exact hv x hx⟩
theorem MgI.left {a b M : List Vx} {i j : Nat} (h : MgI a b M i j) (ha : Ord a) (hb : Ord b) (hi : i < a.length) (hlt : j < b.length → bef (vg a i) (vg b j) = true) : MgI a b (M ++ [vg a i]) (i + 1) j := by
  have oa := ord_get.1 ha
  have ob := ord_get.1 hb
  refine ⟨by omega, h.hj, by have := h.len; simp; omega, ord_snoc h.ord fun x hx => h.lta x hx i (Nat.le_refl _) hi, fun x => ?_, fun x hx k hk hkl => ?_, fun x hx k hk hkl => ?_⟩
  · rw [List.mem_append, List.mem_singleton, h.mem, mem_take hi]
    constructor
    · rintro ((h | h) | h)
      · exact .inl (.inl h)
      · exact .inr h
      · exact .inl (.inr h)
    · rintro ((h | h) | h)
      · exact .inl (.inl h)
      · exact .inr h
      · exact .inl (.inr h)
  · rcases List.mem_append.1 hx with hx | hx
    · exact h.lta x hx k (by omega) hkl
    · rw [List.mem_singleton.1 hx]; exact oa i k (by omega) hkl
  · rcases List.mem_append.1 hx with hx | hx
    · exact h.ltb x hx k hk hkl
    · rw [List.mem_singleton.1 hx]
      rcases Nat.eq_or_lt_of_le hk with e | e
      · subst e; exact hlt hkl
      · exact bef_trans (hlt (by omega)) (ob j k e hkl)
theorem MgI.swap {a b M : List Vx} {i j : Nat} (h : MgI a b M i j) : MgI b a M j i := ⟨h.hj, h.hi, by have := h.len; omega, h.ord, fun x => (h.mem x).trans Or.comm, h.ltb, h.lta⟩
theorem MgI.right {a b M : List Vx} {i j : Nat} (h : MgI a b M i j) (ha : Ord a) (hb : Ord b) (hj : j < b.length) (hlt : i < a.length → bef (vg b j) (vg a i) = true) : MgI a b (M ++ [vg b j]) i (j + 1) := (h.swap.left hb ha hj hlt).swap
theorem MgI.both {a b M : List Vx} {i j : Nat} (h : MgI a b M i j) (ha : Ord a) (hb : Ord b) (hi : i < a.length) (hj : j < b.length) (he : vg a i = vg b j) : MgI a b (M ++ [vg a i]) (i + 1) (j + 1) := by
  have oa := ord_get.1 ha
  have ob := ord_get.1 hb
  refine ⟨by omega, by omega, by have := h.len; simp; omega, ord_snoc h.ord fun x hx => h.lta x hx i (Nat.le_refl _) hi, fun x => ?_, fun x hx k hk hkl => ?_, fun x hx k hk hkl => ?_⟩
  · rw [List.mem_append, List.mem_singleton, h.mem, mem_take hi, mem_take hj, ← he]
    constructor
    · rintro ((h | h) | h)
      · exact .inl (.inl h)
      · exact .inr (.inl h)
      · exact .inl (.inr h)
    · rintro ((h | h) | (h | h))
      · exact .inl (.inl h)
      · exact .inr h
      · exact .inl (.inr h)
      · exact .inr h
  · rcases List.mem_append.1 hx with hx | hx
    · exact h.lta x hx k (by omega) hkl
    · rw [List.mem_singleton.1 hx]; exact oa i k (by omega) hkl
  · rcases List.mem_append.1 hx with hx | hx
    · exact h.ltb x hx k (by omega) hkl
    · rw [List.mem_singleton.1 hx, he]; exact ob j k (by omega) hkl
theorem MgI.done {c : List Int} {a b M : List Vx} (ha : grOk c a = true) (hb : grOk c b = true) (h : MgI a b M a.length b.length) : MgP c a b M true := by
  have hm := h.mem
  rw [List.take_length, List.take_length] at hm
  refine .inl ⟨rfl, ha, hb, fun u hu w hw hr hw2 => ?_, good_union ha hb h.ord hm, hm⟩
  exact ord_uniq h.ord ((hm u).2 (.inl hu)) ((hm w).2 (.inr hw)) hr hw2
theorem MgP.bad {c : List Int} {a b : List Vx} (h : ¬ (grOk c a = true ∧ grOk c b = true ∧ Cf a b)) : MgP c a b [] false := .inr ⟨rfl, rfl, h⟩
theorem MgP.clash {c : List Int} {a b : List Vx} {u w : Vx} (hu : u ∈ a) (hw : w ∈ b) (h1 : bef u w = false) (h2 : bef w u = false) (hne : u ≠ w) : MgP c a b [] false :=
  .bad fun ⟨_, _, h⟩ => hne (h u hu w hw (by have := bef_false.1 h1; have := bef_false.1 h2; omega) (by have := bef_false.1 h1; have := bef_false.1 h2; omega))
/-- the state of the reference's loop -/
structure MgS (c : List Int) (a b M : List Vx) (k : Nat) : Prop where
  hk : k ≤ b.length
  len : M.length ≤ a.length + k
  good : grOk c M = true
  mem : ∀ x, x ∈ M ↔ x ∈ a ∨ x ∈ b.take k
  cf : Cf a (b.take k)
theorem MgS.start {c : List Int} {a b : List Vx} (ha : grOk c a = true) : MgS c a b a 0 := ⟨Nat.zero_le _, Nat.le_refl _, ha, by simp, by intro u _ w hw; simp at hw⟩
/-- one more vertex of b -/
theorem MgS.next {c : List Int} {a b M : List Vx} {k : Nat} (h : MgS c a b M k) (hb : grOk c b = true) (hk : k < b.length) :
    (gaC c M (vg b k) = 2 ∧ MgP c a b [] false) ∨ (gaC c M (vg b k) ≠ 2 ∧ MgS c a b (gaL c M (vg b k)) (k + 1)) := by
  obtain ⟨b1, b2, b3, b4⟩ := good_pw.1 hb
  have hm : vg b k ∈ b := by rw [vg_eq hk]; exact List.getElem_mem _
  have hv : vxOkA c (vg b k) = true := by unfold vxOkA; rw [b1, b3 _ hm]; rfl
  have cfn : ∀ {M' : List Vx}, grOk c M' = true → (∀ x, x ∈ M' ↔ x ∈ a ∨ x ∈ b.take (k + 1)) → Cf a (b.take (k + 1)) := fun hg hmm u hu w hw hr ha =>
    ord_uniq (good_pw.1 hg).2.1 ((hmm u).2 (.inl hu)) ((hmm w).2 (.inr hw)) hr ha
  cases hf : fdV M (vg b k).r (vg b k).a with
  | some i =>
    have hz := gaC_known h.good hv hf
    obtain ⟨hi, hr, ha, _⟩ := fd_some hf
    have him : vg M i ∈ M := by rw [vg_eq hi]; exact List.getElem_mem _
    by_cases he : vg M i = vg b k
    · rw [if_pos he] at hz
      have hL : gaL c M (vg b k) = M := gaL_vs (by omega) (by omega)
      have hmm : ∀ x, x ∈ M ↔ x ∈ a ∨ x ∈ b.take (k + 1) := fun x => by
        rw [mem_take hk]
        constructor
        · intro hx
          rcases (h.mem x).1 hx with h1 | h1
          · exact .inl h1
          · exact .inr (.inl h1)
        · rintro (h1 | h1 | h1)
          · exact (h.mem x).2 (.inl h1)
          · exact (h.mem x).2 (.inr h1)
          · rw [h1, ← he]; exact him
      exact .inr ⟨by omega, by rw [hL]; exact ⟨by omega, by have := h.len; omega, h.good, hmm, cfn h.good hmm⟩⟩
    · rw [if_neg he] at hz
      refine .inl ⟨hz, .bad fun ⟨_, _, hc⟩ => he ?_⟩
      rcases (h.mem _).1 him with h1 | h1
      · exact hc _ h1 _ hm hr ha
      · exact ord_uniq b2 (List.mem_of_mem_take h1) hm hr ha
  | none =>
    have hz := gaC_new h.good hv hf
    have hp : parOk M (vg b k) = true := by
      have hst := (st_parts ((grOk_iff.1 hb).2 k hk)).2.2
      unfold parOk
      rw [decide_eq_true_eq]
      intro j hj
      obtain ⟨u, hu, h1⟩ := fd_mem.1 (hst j hj)
      exact fd_mem.2 ⟨u, (h.mem u).2 (.inr hu), h1⟩
    rw [if_pos hp] at hz
    have hg := done_good hz
    have hmm : ∀ x, x ∈ gaL c M (vg b k) ↔ x ∈ a ∨ x ∈ b.take (k + 1) := fun x => by
      rw [done_mem hz, mem_take hk, h.mem]
      constructor
      · rintro (h1 | h1 | h1)
        · exact .inr (.inr h1)
        · exact .inl h1
        · exact .inr (.inl h1)
      · rintro (h1 | h1 | h1)
        · exact .inr (.inl h1)
        · exact .inr (.inr h1)
        · exact .inl h1
    exact .inr ⟨by omega, ⟨by omega, by rw [done_len hz]; have := h.len; omega, hg, hmm, cfn hg hmm⟩⟩
theorem MgS.done {c : List Int} {a b M : List Vx} (ha : grOk c a = true) (hb : grOk c b = true) (h : MgS c a b M b.length) : MgP c a b M true := by
  have hm := h.mem
  have hc := h.cf
  rw [List.take_length] at hm hc
  exact .inl ⟨rfl, ha, hb, hc, h.good, hm⟩
end Go.Proofs.Ythajlhmebkjbbaa
