/- Laws of what a vertex depends on, in plain Lean. -/
import Derived.Test.YthajlhmebkjbbaaPp
set_option linter.all false
namespace Go.Proofs.Ythajlhmebkjbbaa

theorem gD_eq {α : Type} [Inhabited α] {l : List α} {k : Nat} (h : k < l.length) : l.getD k default = l[k] := by simp [h]
theorem idx_get {R : List Bool} {n i : Nat} (hi : i < (idxTo R n).length) : ∃ j : Nat, (idxTo R n).getD i default = j ∧ j < n ∧ rg R j = true := by
  have hm : (idxTo R n).getD i default ∈ idxTo R n := by rw [show (idxTo R n).getD i default = (idxTo R n)[i] by simp [hi]]; exact List.getElem_mem _
  exact mem_idx.1 hm
theorem idx_lt {R : List Bool} {n i k : Nat} (hik : i < k) (hk : k < (idxTo R n).length) : (idxTo R n).getD i default < (idxTo R n).getD k default := by
  have := List.pairwise_iff_getElem.1 (idx_asc (R := R) (k := n)) i k (by omega) hk hik
  simpa [hk, show i < (idxTo R n).length by omega] using this
theorem idx_at {R : List Bool} {n j : Nat} (hj : j < n) (h : rg R j = true) : ∃ i, i < (idxTo R n).length ∧ (idxTo R n).getD i default = j := by
  obtain ⟨i, hi, e⟩ := List.getElem_of_mem (mem_idx.2 ⟨j, rfl, hj, h⟩ : (j : Int) ∈ idxTo R n)
  exact ⟨i, hi, by rw [← e]; simp [hi]⟩
theorem Cor.self {vs : List Vx} {s : Nat} {R : List Bool} (h : Cor vs s R) (hs : s < vs.length) : rg R s = true := (h.iff s hs).2 .self
theorem Cor.last {c : List Int} {vs : List Vx} {s : Nat} {R : List Bool} (h : Cor vs s R) (hg : GoodN c vs vs.length) (hs : s < vs.length) : 0 < (idxTo R vs.length).length ∧ (idxTo R vs.length).getD ((idxTo R vs.length).length - 1) default = s := by
  obtain ⟨i, hi, e⟩ := idx_at hs (h.self hs)
  refine ⟨by omega, ?_⟩
  obtain ⟨j, ej, hj, hr⟩ := idx_get (R := R) (n := vs.length) (i := (idxTo R vs.length).length - 1) (by omega)
  have hle := ((h.iff j hj).1 hr).le hg hs
  rcases Nat.lt_or_ge i ((idxTo R vs.length).length - 1) with h1 | h1
  · have := idx_lt (R := R) (n := vs.length) h1 (by omega)
    omega
  · rw [show (idxTo R vs.length).length - 1 = i by omega]; exact e
theorem Cor.par {c : List Int} {vs : List Vx} {s : Nat} {R : List Bool} (h : Cor vs s R) (hg : GoodN c vs vs.length) {j k : Nat} (hj : rg R j = true) (hk : k < (vg vs j).ps.length) : pix vs j k < vs.length ∧ rg R (pix vs j k) = true := by
  have hjl : j < vs.length := by rw [← h.len]; exact rg_lt hj
  have := (hg.pix hjl (Nat.le_refl _) hk).2
  exact ⟨by omega, (h.iff _ (by omega)).2 (.step ((h.iff j hjl).1 hj) hk)⟩
/-- a marked vertex that is not the last has a child that is marked -/
theorem Cor.child {c : List Int} {vs : List Vx} {s : Nat} {R : List Bool} (h : Cor vs s R) (hg : GoodN c vs vs.length) (hs : s < vs.length) {j : Nat} (hj : rg R j = true) (hne : j ≠ s) :
    ∃ p, j < p ∧ p < vs.length ∧ rg R p = true ∧ (vg vs p).r = (vg vs j).r + 1 ∧ (vg vs j).a ∈ (vg vs p).ps := by
  have hjl : j < vs.length := by rw [← h.len]; exact rg_lt hj
  have ha := (h.iff j hjl).1 hj
  cases ha with
  | self => exact absurd rfl hne
  | @step p q hp hq =>
    have hpl := hp.lt hg hs
    have hx := hg.pix hpl (Nat.le_refl _) hq
    obtain ⟨_, h1, h2, _⟩ := fd_some hx.1
    exact ⟨p, hx.2, hpl, (h.iff p hpl).2 hp, by omega, by rw [h2, gD_eq hq]; exact List.getElem_mem _⟩
theorem Cor.childAt {c : List Int} {vs : List Vx} {s : Nat} {R : List Bool} (h : Cor vs s R) (hg : GoodN c vs vs.length) (hs : s < vs.length) {i j : Nat} (hi : i + 1 < (idxTo R vs.length).length) (hj : (idxTo R vs.length).getD i default = j) :
    ∃ k p, i < k ∧ k < (idxTo R vs.length).length ∧ (idxTo R vs.length).getD k default = (p : Nat) ∧ (vg vs p).r = (vg vs j).r + 1 ∧ (vg vs j).a ∈ (vg vs p).ps := by
  obtain ⟨j', e, hjl, hr⟩ := idx_get (R := R) (n := vs.length) (i := i) (by omega)
  obtain rfl : j = j' := by omega
  have hne : j ≠ s := fun e' => by
    have := idx_lt (R := R) (n := vs.length) (i := i) (k := (idxTo R vs.length).length - 1) (by omega) (by omega)
    rw [(h.last hg hs).2] at this
    omega
  obtain ⟨p, h1, h2, h3, h4, h5⟩ := h.child hg hs hr hne
  obtain ⟨k, hk, ek⟩ := idx_at h2 h3
  refine ⟨k, p, ?_, hk, ek, h4, h5⟩
  rcases Nat.lt_trichotomy i k with h6 | h6 | h6
  · exact h6
  · subst h6; omega
  · have := idx_lt (R := R) (n := vs.length) h6 (by omega); omega
/-- the authors of a round, out of a list of indexes -/
def apTo (vs : List Vx) (l : List Int) (r : Int) : Nat → List Int
  | 0 => []
  | k + 1 => if (vg vs (l.getD k default).toNat).r = r then apTo vs l r k ++ [(vg vs (l.getD k default).toNat).a] else apTo vs l r k
theorem ap1 {vs : List Vx} {l : List Int} {r : Int} {k : Nat} (h : (vg vs (l.getD k default).toNat).r = r) : apTo vs l r (k + 1) = apTo vs l r k ++ [(vg vs (l.getD k default).toNat).a] := if_pos h
theorem ap0 {vs : List Vx} {l : List Int} {r : Int} {k : Nat} (h : ¬ (vg vs (l.getD k default).toNat).r = r) : apTo vs l r (k + 1) = apTo vs l r k := if_neg h
theorem ap_len {vs : List Vx} {l : List Int} {r : Int} : ∀ {k : Nat}, (apTo vs l r k).length ≤ k
  | 0 => Nat.le_refl _
  | k + 1 => by
    have := ap_len (vs := vs) (l := l) (r := r) (k := k)
    unfold apTo
    split
    · rw [List.length_append]; simp; omega
    · omega
theorem mem_ap {vs : List Vx} {l : List Int} {r x : Int} : ∀ {k : Nat}, x ∈ apTo vs l r k ↔ ∃ i, i < k ∧ (vg vs (l.getD i default).toNat).r = r ∧ (vg vs (l.getD i default).toNat).a = x
  | 0 => by simp [apTo]
  | k + 1 => by
    by_cases h : (vg vs (l.getD k default).toNat).r = r
    · rw [ap1 h, List.mem_append, mem_ap, List.mem_singleton]
      constructor
      · rintro (⟨i, h1, h2, h3⟩ | h1)
        · exact ⟨i, by omega, h2, h3⟩
        · exact ⟨k, by omega, h, h1.symm⟩
      · rintro ⟨i, h1, h2, h3⟩
        rcases Nat.lt_succ_iff_lt_or_eq.1 h1 with h4 | rfl
        · exact .inl ⟨i, h4, h2, h3⟩
        · exact .inr h3.symm
    · rw [ap0 h, mem_ap]
      constructor
      · rintro ⟨i, h1, h2, h3⟩; exact ⟨i, by omega, h2, h3⟩
      · rintro ⟨i, h1, h2, h3⟩
        rcases Nat.lt_succ_iff_lt_or_eq.1 h1 with h4 | rfl
        · exact ⟨i, h4, h2, h3⟩
        · exact absurd h2 h
theorem ap_asc {c : List Int} {vs : List Vx} {R : List Bool} {r : Int} (hg : GoodN c vs vs.length) : ∀ {k : Nat}, k ≤ (idxTo R vs.length).length → (apTo vs (idxTo R vs.length) r k).Pairwise fun a b => a < b
  | 0, _ => List.Pairwise.nil
  | k + 1, hk => by
    by_cases h : (vg vs ((idxTo R vs.length).getD k default).toNat).r = r
    · rw [ap1 h]
      refine List.pairwise_append.2 ⟨ap_asc hg (by omega), by simp, fun a ha b hb => ?_⟩
      obtain ⟨i, hi, h1, h2⟩ := mem_ap.1 ha
      rw [List.mem_singleton.1 hb, ← h2]
      have h3 := idx_lt (R := R) (n := vs.length) hi (by omega)
      obtain ⟨j, ej, hj, _⟩ := idx_get (R := R) (n := vs.length) (i := i) (by omega)
      obtain ⟨j', ej', hj', _⟩ := idx_get (R := R) (n := vs.length) (i := k) (by omega)
      rw [ej, ej'] at h3 ⊢
      rw [ej, Int.toNat_natCast] at h1
      rw [ej', Int.toNat_natCast] at h
      rw [Int.toNat_natCast, Int.toNat_natCast]
      have := bef_iff.1 (hg.lt (i := j) (j := j') (by omega) hj')
      omega
    · rw [ap0 h]; exact ap_asc hg (by omega)
theorem asc_sub : ∀ {a b : List Int}, a.Pairwise (fun x y => x < y) → b.Pairwise (fun x y => x < y) → (∀ x ∈ a, x ∈ b) → a.Sublist b
  | [], b, _, _, _ => List.nil_sublist b
  | x :: a, [], _, _, h => absurd (h x List.mem_cons_self) (by simp)
  | x :: a, y :: b, h1, h2, h => by
    obtain ⟨p1, q1⟩ := List.pairwise_cons.1 h1
    obtain ⟨p2, q2⟩ := List.pairwise_cons.1 h2
    by_cases e : x = y
    · subst e
      refine List.Sublist.cons_cons x (asc_sub q1 q2 fun z hz => ?_)
      rcases List.mem_cons.1 (h z (List.mem_cons_of_mem _ hz)) with h3 | h3
      · have := p1 z hz; omega
      · exact h3
    · have hx : x ∈ b := by
        rcases List.mem_cons.1 (h x List.mem_cons_self) with h3 | h3
        · exact absurd h3 e
        · exact h3
      have hlt := p2 x hx
      refine List.Sublist.cons y (asc_sub h1 q2 fun z hz => ?_)
      rcases List.mem_cons.1 (h z hz) with h3 | h3
      · rcases List.mem_cons.1 hz with h4 | h4
        · omega
        · have := p1 z h4; omega
      · exact h3
theorem sumTo_cons {g : Nat → Int} : ∀ {k : Nat}, sumTo g (k + 1) = g 0 + sumTo (fun i => g (i + 1)) k
  | 0 => by simp [sumTo]
  | k + 1 => by
    have := sumTo_cons (g := g) (k := k)
    rw [sumTo, this]
    show _ = g 0 + (sumTo (fun i => g (i + 1)) k + g (k + 1))
    omega
theorem wt_cons (c ms : List Int) (x : Int) : wt c (x :: ms) = c.getD x.toNat default + wt c ms := by
  unfold wt
  rw [List.length_cons, sumTo_cons]
  rfl
theorem wt_sub {c a b : List Int} (h : a.Sublist b) : (∀ x ∈ b, 0 ≤ c.getD x.toNat default) → wt c a ≤ wt c b := by
  induction h with
  | slnil => intro _; exact Int.le_refl _
  | cons y h ih =>
    intro hb
    rw [wt_cons]
    have := ih fun x hx => hb x (List.mem_cons_of_mem _ hx)
    have := hb y List.mem_cons_self
    omega
  | cons_cons y h ih =>
    intro hb
    rw [wt_cons, wt_cons]
    have := ih fun x hx => hb x (List.mem_cons_of_mem _ hx)
    omega
theorem ms_pw {n : Nat} {ms : List Int} : msOk n ms = true ↔ ms.Pairwise (fun x y => x < y) ∧ ∀ x ∈ ms, 0 ≤ x ∧ x < n := by
  rw [msOk_iff]
  constructor
  · intro h
    have hlt : ∀ i k, i < k → k < ms.length → ms.getD i default < ms.getD k default := by
      intro i k hik
      induction k with
      | zero => omega
      | succ k ih =>
        intro hk
        have h1 := (h (k + 1) hk).2 (by omega)
        rw [Nat.add_sub_cancel] at h1
        rcases Nat.lt_succ_iff_lt_or_eq.1 hik with h2 | rfl
        · have := ih h2 (by omega); omega
        · exact h1
    refine ⟨List.pairwise_iff_getElem.2 fun i k hi hk hik => ?_, fun x hx => ?_⟩
    · have := hlt i k hik hk
      simpa [hi, hk] using this
    · obtain ⟨i, hi, rfl⟩ := List.getElem_of_mem hx
      have := (h i hi).1
      simpa [hi] using this
  · rintro ⟨h1, h2⟩ i hi
    refine ⟨h2 _ (by rw [show ms.getD i default = ms[i] by simp [hi]]; exact List.getElem_mem _), fun h0 => ?_⟩
    have := List.pairwise_iff_getElem.1 h1 (i - 1) i (by omega) hi (by omega)
    simpa [hi, show i - 1 < ms.length by omega] using this
theorem vx_quo {c : List Int} {v : Vx} (h : vxOk c v = true) (h0 : v.r ≠ 0) : quo c ≤ wt c v.ps := by
  unfold vxOk at h
  simp only [Bool.and_eq_true] at h
  have := h.2.2.2.2
  rw [if_neg h0] at this
  exact of_decide_eq_true this
/-- down to each round -/
theorem Anc.down {c : List Int} {vs : List Vx} {s : Nat} (hcm : cmOk c = true) (hg : GoodN c vs vs.length) (hs : s < vs.length) : ∀ (n : Nat) {r : Int}, 0 ≤ r → (vg vs s).r = r + n → ∃ p, Anc vs s p ∧ (vg vs p).r = r
  | 0, r, _, h => ⟨s, .self, by omega⟩
  | n + 1, r, h0, h => by
    obtain ⟨p, hp, hr⟩ := Anc.down hcm hg hs n (r := r + 1) (by omega) (by omega)
    have hpl := hp.lt hg hs
    have hq := vx_quo (st_parts (hg p hpl)).1 (by omega)
    have h1 := quo_bd hcm
    have hps : 0 < (vg vs p).ps.length := by
      rcases Nat.eq_zero_or_pos (vg vs p).ps.length with h2 | h2
      · rw [List.eq_nil_of_length_eq_zero h2] at hq
        have : wt c [] = 0 := rfl
        omega
      · exact h2
    obtain ⟨_, h2, _, _⟩ := fd_some (hg.pix hpl (Nat.le_refl _) hps).1
    exact ⟨_, .step hp hps, by omega⟩
/-- the past has a quorum in each round -/
theorem Cor.rounds {c : List Int} {vs : List Vx} {s : Nat} {R : List Bool} (h : Cor vs s R) (hcm : cmOk c = true) (hg : GoodN c vs vs.length) (hs : s < vs.length) {r : Int} (h0 : 0 ≤ r) (hr : r < (vg vs s).r) :
    msOk c.length (apTo vs (idxTo R vs.length) r (idxTo R vs.length).length) = true ∧ quo c ≤ wt c (apTo vs (idxTo R vs.length) r (idxTo R vs.length).length) := by
  have hms : msOk c.length (apTo vs (idxTo R vs.length) r (idxTo R vs.length).length) = true := by
    refine ms_pw.2 ⟨ap_asc hg (Nat.le_refl _), fun x hx => ?_⟩
    obtain ⟨i, hi, _, rfl⟩ := mem_ap.1 hx
    obtain ⟨j, ej, hj, _⟩ := idx_get hi
    rw [ej, Int.toNat_natCast]
    exact (vxOk_iff (st_parts (hg j hj)).1).2.1
  refine ⟨hms, ?_⟩
  obtain ⟨p, hp, hpr⟩ := Anc.down hcm hg hs ((vg vs s).r - (r + 1)).toNat (r := r + 1) (by omega) (by omega)
  have hpl := hp.lt hg hs
  have hv := (st_parts (hg p hpl)).1
  have hq := vx_quo hv (by omega)
  have hsub : ∀ x ∈ (vg vs p).ps, x ∈ apTo vs (idxTo R vs.length) r (idxTo R vs.length).length := fun x hx => by
    obtain ⟨k, hk, rfl⟩ := List.getElem_of_mem hx
    have hx := hg.pix hpl (Nat.le_refl _) hk
    obtain ⟨hl, h1, h2, _⟩ := fd_some hx.1
    have hm := (h.iff _ hl).2 (.step hp hk)
    obtain ⟨i, hi, ei⟩ := idx_at hl hm
    refine mem_ap.2 ⟨i, hi, ?_, ?_⟩
    · rw [ei, Int.toNat_natCast]; omega
    · rw [ei, Int.toNat_natCast, h2]; exact gD_eq hk
  have h3 := wt_sub (c := c) (asc_sub (ms_pw.1 (vxOk_iff hv).2.2.1).1 (ms_pw.1 hms).1 hsub) fun x hx => by
    have hb := (ms_pw.1 hms).2 x hx
    have := (cmOk_iff.1 hcm).2 x.toNat (by omega)
    omega
  omega
end Go.Proofs.Ythajlhmebkjbbaa
