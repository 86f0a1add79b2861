/- Plain laws of valid graphs and of a vertex added. -/
import Derived.Test.YtaddgbalnhpllaaGk
set_option linter.all false
namespace Go.Proofs.Ytaddgbalnhpllaa

abbrev Ord (vs : List Vx) : Prop := vs.Pairwise fun u v => bef u v = true
theorem ord_get {vs : List Vx} : Ord vs ↔ ∀ i j, i < j → j < vs.length → bef (vg vs i) (vg vs j) = true := by
  unfold Ord
  rw [List.pairwise_iff_getElem]
  constructor
  · intro h i j hij hj
    rw [vg_eq hj, vg_eq (by omega : i < vs.length)]
    exact h i j (by omega) hj hij
  · intro h i j hi hj hij
    have := h i j hij hj
    rwa [vg_eq hj, vg_eq hi] at this
theorem fd_mem {vs : List Vx} {r a : Int} : (fdV vs r a).isSome = true ↔ ∃ u ∈ vs, u.r = r ∧ u.a = a := by
  rw [fd_isSome]
  constructor
  · rintro ⟨i, hi, h1, h2⟩
    exact ⟨vg vs i, by rw [vg_eq hi]; exact List.getElem_mem _, h1, h2⟩
  · rintro ⟨u, hu, h1, h2⟩
    obtain ⟨i, hi, rfl⟩ := List.getElem_of_mem hu
    exact ⟨i, hi, by rw [vg_eq hi]; exact h1, by rw [vg_eq hi]; exact h2⟩
theorem par_mem {vs : List Vx} {v : Vx} : parOk vs v = true ↔ ∀ x ∈ v.ps, ∃ u ∈ vs, u.r = v.r - 1 ∧ u.a = x := by
  unfold parOk
  rw [decide_eq_true_eq]
  constructor
  · intro h x hx
    obtain ⟨j, hj, rfl⟩ := List.getElem_of_mem hx
    have := fd_mem.1 (h j hj)
    rwa [show v.ps.getD j default = v.ps[j] by simp [hj]] at this
  · intro h j hj
    rw [show v.ps.getD j default = v.ps[j] by simp [hj]]
    exact fd_mem.2 (h _ (List.getElem_mem _))
theorem good_pw {c : List Int} {vs : List Vx} : grOk c vs = true ↔ cmOk c = true ∧ Ord vs ∧ (∀ v ∈ vs, vxOk c v = true) ∧ ∀ v ∈ vs, parOk vs v = true := by
  rw [grOk_iff, good_iff, ord_get]
  refine and_congr_right fun _ => ?_
  constructor
  · intro h
    have hp : ∀ k, k < vs.length → vxOk c (vg vs k) = true ∧ (0 < k → bef (vg vs (k - 1)) (vg vs k) = true) ∧ parOk vs (vg vs k) = true := fun k hk => by
      have := h k hk
      unfold stS at this
      simp only [Bool.and_eq_true, Bool.or_eq_true, decide_eq_true_eq] at this
      exact ⟨this.1, fun h0 => this.2.1.resolve_left (by omega), this.2.2⟩
    refine ⟨fun i j hij hj => ord_lt (fun k hk h0 => (hp k hk).2.1 h0) hij hj, fun v hv => ?_, fun v hv => ?_⟩
    · obtain ⟨i, hi, rfl⟩ := List.getElem_of_mem hv
      have := (hp i hi).1; rwa [vg_eq hi] at this
    · obtain ⟨i, hi, rfl⟩ := List.getElem_of_mem hv
      have := (hp i hi).2.2; rwa [vg_eq hi] at this
  · rintro ⟨h1, h2, h3⟩ k hk
    have hm : vg vs k ∈ vs := by rw [vg_eq hk]; exact List.getElem_mem _
    unfold stS
    rw [h2 _ hm, h3 _ hm, Bool.and_true, Bool.true_and, Bool.or_eq_true, decide_eq_true_eq]
    rcases Nat.eq_zero_or_pos k with h | h
    · exact .inl h
    · exact .inr (h1 (k - 1) k (by omega) hk)
theorem bef_irr (v : Vx) : ¬ bef v v = true := fun h => by have := bef_iff.1 h; omega
theorem bef_asym {u v : Vx} (h : bef u v = true) : ¬ bef v u = true := fun h' => by have := bef_iff.1 h; have := bef_iff.1 h'; omega
theorem ord_ext : ∀ {l l' : List Vx}, Ord l → Ord l' → (∀ x, x ∈ l ↔ x ∈ l') → l = l'
  | [], [], _, _, _ => rfl
  | [], b :: l', _, _, h => absurd ((h b).2 List.mem_cons_self) (by simp)
  | a :: l, [], _, _, h => absurd ((h a).1 List.mem_cons_self) (by simp)
  | a :: l, b :: l', h1, h2, h => by
    obtain ⟨p1, q1⟩ := List.pairwise_cons.1 h1
    obtain ⟨p2, q2⟩ := List.pairwise_cons.1 h2
    have e : a = b := by
      rcases List.mem_cons.1 ((h a).1 List.mem_cons_self) with h3 | h3
      · exact h3
      · rcases List.mem_cons.1 ((h b).2 List.mem_cons_self) with h4 | h4
        · exact h4.symm
        · exact absurd (p2 a h3) (bef_asym (p1 b h4))
    subst e
    rw [ord_ext q1 q2 fun x => ⟨fun hx => ?_, fun hx => ?_⟩]
    · rcases List.mem_cons.1 ((h x).1 (List.mem_cons_of_mem _ hx)) with rfl | h3
      · exact absurd (p1 _ hx) (bef_irr _)
      · exact h3
    · rcases List.mem_cons.1 ((h x).2 (List.mem_cons_of_mem _ hx)) with rfl | h3
      · exact absurd (p2 _ hx) (bef_irr _)
      · exact h3
theorem good_ext {c : List Int} {vs ws : List Vx} (h1 : grOk c vs = true) (h2 : grOk c ws = true) (h : ∀ x, x ∈ vs ↔ x ∈ ws) : vs = ws := ord_ext (good_pw.1 h1).2.1 (good_pw.1 h2).2.1 h
/-- a vertex of a valid graph stands where it is found -/
theorem fd_self {c : List Int} {vs : List Vx} {v : Vx} (h : grOk c vs = true) (hv : v ∈ vs) : ∃ i, fdV vs v.r v.a = some i ∧ vg vs i = v := by
  obtain ⟨i, hi, rfl⟩ := List.getElem_of_mem hv
  have := (grOk_iff.1 h).2.fd hi
  rw [vg_eq hi] at this
  exact ⟨i, this, vg_eq hi⟩
theorem mem_insAt {vs : List Vx} {p : Nat} {v x : Vx} : x ∈ insAt vs p v ↔ x = v ∨ x ∈ vs := by
  unfold insAt
  rw [List.mem_append, List.mem_cons]
  have e : x ∈ vs ↔ x ∈ vs.take p ∨ x ∈ vs.drop p := by
    rw [← List.mem_append, List.take_append_drop]
  rw [e]
  constructor
  · rintro (h | h | h)
    · exact .inr (.inl h)
    · exact .inl h
    · exact .inr (.inr h)
  · rintro (h | h | h)
    · exact .inr (.inl h)
    · exact .inl h
    · exact .inr (.inr h)
theorem plc_lt {vs : List Vx} {v : Vx} : ∀ j, j < plc vs v → bef (vg vs j) v = true := fun j hj => by
  have hl : j < vs.length := Nat.lt_of_lt_of_le hj plc_le
  have := List.not_of_lt_findIdx hj
  rw [vg_eq hl]
  simpa using this
theorem plc_at {vs : List Vx} {v : Vx} (h : plc vs v < vs.length) : bef (vg vs (plc vs v)) v = false := by
  have := List.findIdx_getElem (w := h)
  rw [vg_eq h]
  exact (Bool.not_eq_true' (bef vs[plc vs v] v)) ▸ this
theorem ord_ins {vs : List Vx} {v : Vx} (h : Ord vs) (hn : fdV vs v.r v.a = none) : Ord (insAt vs (plc vs v) v) := by
  rw [ord_get] at h ⊢
  have hp := plc_le (vs := vs) (v := v)
  have hlt := plc_lt (vs := vs) (v := v)
  have hge : ∀ j, plc vs v ≤ j → j < vs.length → bef v (vg vs j) = true := fun j hj hl => by
    have h1 := bef_false.1 (plc_at (vs := vs) (v := v) (by omega))
    have h2 := fd_none.1 hn (plc vs v) (by omega)
    have h3 : bef v (vg vs (plc vs v)) = true := by rw [bef_iff]; omega
    rcases Nat.eq_or_lt_of_le hj with e | e
    · rw [← e]; exact h3
    · exact bef_trans h3 (h _ _ e hl)
  intro i j hij hj
  rw [insAt_len hp] at hj
  rw [insAt_get hp, insAt_get hp]
  by_cases i1 : i < plc vs v
  · rw [if_pos i1]
    by_cases j1 : j < plc vs v
    · rw [if_pos j1]; exact h i j hij (by omega)
    · rw [if_neg j1]
      by_cases j2 : j = plc vs v
      · rw [if_pos j2]; exact hlt i i1
      · rw [if_neg j2]; exact h i (j - 1) (by omega) (by omega)
  · rw [if_neg i1, if_neg (show ¬ j < plc vs v by omega), if_neg (show ¬ j = plc vs v by omega)]
    by_cases i2 : i = plc vs v
    · rw [if_pos i2]; exact hge _ (by omega) (by omega)
    · rw [if_neg i2]; exact h _ _ (by omega) (by omega)
theorem par_mono {vs ws : List Vx} {v : Vx} (h : ∀ x ∈ vs, x ∈ ws) (hp : parOk vs v = true) : parOk ws v = true := by
  rw [par_mem] at hp ⊢
  intro x hx
  obtain ⟨u, hu, h1⟩ := hp x hx
  exact ⟨u, h u hu, h1⟩
theorem good_ins {c : List Int} {vs : List Vx} {v : Vx} (h : grOk c vs = true) (hv : vxOk c v = true) (hn : fdV vs v.r v.a = none) (hp : parOk vs v = true) : grOk c (insAt vs (plc vs v) v) = true := by
  obtain ⟨h1, h2, h3, h4⟩ := good_pw.1 h
  refine good_pw.2 ⟨h1, ord_ins h2 hn, fun x hx => ?_, fun x hx => ?_⟩
  · rcases mem_insAt.1 hx with rfl | hx
    · exact hv
    · exact h3 x hx
  · have hm : ∀ y ∈ vs, y ∈ insAt vs (plc vs v) v := fun y hy => mem_insAt.2 (.inr hy)
    rcases mem_insAt.1 hx with rfl | hx
    · exact par_mono hm hp
    · exact par_mono hm (h4 x hx)
/-- a vertex was added -/
theorem gaC_done {c : List Int} {vs : List Vx} {v : Vx} (h : gaC c vs v = 0) : grOk c vs = true ∧ vxOkA c v = true ∧ fdV vs v.r v.a = none ∧ parOk vs v = true := by
  unfold gaC at h
  split at h
  · rename_i h1
    split at h
    · split at h <;> cases h
    · rename_i hn
      split at h
      · rename_i hp
        exact ⟨h1.1, h1.2, hn, hp⟩
      · cases h
  · cases h
theorem done_good {c : List Int} {vs : List Vx} {v : Vx} (h : gaC c vs v = 0) : grOk c (gaL c vs v) = true := by
  obtain ⟨h1, h2, h3, h4⟩ := gaC_done h
  rw [gaL_0 h]
  exact good_ins h1 (vxA_iff h2).2 h3 h4
theorem done_mem {c : List Int} {vs : List Vx} {v x : Vx} (h : gaC c vs v = 0) : x ∈ gaL c vs v ↔ x = v ∨ x ∈ vs := by
  rw [gaL_0 h]; exact mem_insAt
theorem done_len {c : List Int} {vs : List Vx} {v : Vx} (h : gaC c vs v = 0) : (gaL c vs v).length = vs.length + 1 := by
  rw [gaL_0 h]; exact insAt_len plc_le
theorem known {c : List Int} {vs : List Vx} {v : Vx} (h : grOk c vs = true) (hv : vxOkA c v = true) (hm : v ∈ vs) : gaC c vs v = 1 ∧ gaL c vs v = vs := by
  obtain ⟨i, hi, e⟩ := fd_self h hm
  have := gaC_known h hv hi
  rw [if_pos e] at this
  exact ⟨this, gaL_vs (by omega) (by omega)⟩
theorem twice {c : List Int} {vs : List Vx} {v u : Vx} (h : grOk c vs = true) (hu : vxOkA c u = true) (hm : v ∈ vs) (hr : u.r = v.r) (ha : u.a = v.a) (hne : v ≠ u) : gaC c vs u = 2 ∧ gaL c vs u = vs := by
  obtain ⟨i, hi, e⟩ := fd_self h hm
  rw [← hr, ← ha] at hi
  have := gaC_known h hu hi
  rw [if_neg (by rw [e]; exact hne)] at this
  exact ⟨this, gaL_vs (by omega) (by omega)⟩
theorem order {c : List Int} {vs : List Vx} {v u : Vx} (h : gaC c vs v = 0) (h1 : gaC c (gaL c vs v) u = 0) (h2 : gaC c vs u = 0) : gaC c (gaL c vs u) v = 0 ∧ gaL c (gaL c vs u) v = gaL c (gaL c vs v) u := by
  obtain ⟨a1, a2, a3, a4⟩ := gaC_done h
  obtain ⟨b1, b2, b3, b4⟩ := gaC_done h1
  have hg := done_good h2
  have hn : fdV (gaL c vs u) v.r v.a = none := by
    cases e : fdV (gaL c vs u) v.r v.a with
    | none => rfl
    | some i =>
      obtain ⟨x, hx, hr, ha⟩ := fd_mem.1 (show (fdV (gaL c vs u) v.r v.a).isSome = true by rw [e]; rfl)
      rcases (done_mem h2).1 hx with rfl | hx
      · have := fd_mem.2 ⟨v, (done_mem h).2 (.inl rfl), hr.symm, ha.symm⟩
        rw [b3] at this; cases this
      · have := fd_mem.2 ⟨x, hx, hr, ha⟩
        rw [a3] at this; cases this
  have hz : gaC c (gaL c vs u) v = 0 := by
    rw [gaC_new hg a2 hn, if_pos (par_mono (fun y hy => (done_mem h2).2 (.inr hy)) a4)]
  refine ⟨hz, good_ext (done_good hz) (done_good h1) fun x => ?_⟩
  rw [done_mem hz, done_mem h2, done_mem h1, done_mem h]
  constructor
  · rintro (h | h | h)
    · exact .inr (.inl h)
    · exact .inl h
    · exact .inr (.inr h)
  · rintro (h | h | h)
    · exact .inr (.inl h)
    · exact .inl h
    · exact .inr (.inr h)
end Go.Proofs.Ytaddgbalnhpllaa
