/- Calls in a larger heap; contracts at a call. -/
import Derived.Test.YtbcmpfhemangpaaSxC
set_option linter.all false


namespace Go.Proofs.Ytbcmpfhemangpaa

section
variable {P : Program}
theorem HasL.length {w : World} {F : Nat → Prop} : ∀ {ss : List SV} {vs : List Value}, HasL w F ss vs → ss.length = vs.length
  | [], [], _ => rfl
  | s :: ss, v :: vs, h => by simp [HasL.length h.2]
  | [], _ :: _, h => h.elim
  | _ :: _, [], h => h.elim
theorem HasL.get {w : World} {F : Nat → Prop} : ∀ {ss : List SV} {vs : List Value}, HasL w F ss vs → ∀ k, Has w F (ss.getD k (.val undef)) (vs.getD k undef)
  | [], [], _, k => by simp [Has]
  | s :: ss, v :: vs, h, 0 => h.1
  | s :: ss, v :: vs, h, k + 1 => by simpa using HasL.get h.2 k
  | [], _ :: _, h, _ => h.elim
  | _ :: _, [], h, _ => h.elim
theorem HasL.go {w w' : World} {F F' : Nat → Prop} (hk : Keep F w w') (hF : ∀ b, F b → F' b) : ∀ {ss : List SV} {vs : List Value}, HasL w F ss vs → HasL w' F' ss vs
  | [], [], _ => trivial
  | s :: ss, v :: vs, h => ⟨(hk.has h.1).mono hF, HasL.go hk hF h.2⟩
  | [], _ :: _, h => h.elim
  | _ :: _, [], h => h.elim

theorem SCalls.mono {f : FuncId} {ss : List SV} {H : List Hp} {K K' : SV → List Hp → Prop} (h : SCalls P f ss H K) (hk : ∀ r H', K r H' → K' r H') : SCalls P f ss H K' :=
  ⟨h.1, fun w F vs hs hv => (h.2 w F vs hs hv).mono fun e w' ⟨v, he, r, F', H', q, rest⟩ => ⟨v, he, r, F', H', hk _ _ q, rest⟩⟩

/-! ### frames -/
def bundle (H : List Hp) : Heaplet where
  fp b := ∃ h ∈ H, h.fp b
  holds w F := (∀ h ∈ H, h.holds w F) ∧ H.Pairwise fun (h h' : Hp) => ∀ b : Nat, h.fp b → ¬ h'.fp b
  mono hF h := ⟨fun x hx => Hp.mono hF (h.1 x hx), h.2⟩
  stable hk h := ⟨fun x hx => Hp.stable (fun b hb => hk b (hb.elim (fun hb => .inl ⟨x, hx, hb⟩) .inr)) (h.1 x hx), h.2⟩

theorem HSat.bundle {w : World} {F : Nat → Prop} {A H : List Hp} (h : HSat w F (A ++ H)) : HSat w F (A ++ [.cust (Proofs.Ytbcmpfhemangpaa.bundle H)]) := by
  have hp := List.pairwise_append.1 h.apart
  refine ⟨fun x hx => ?_, fun x hx b hb => ?_, List.pairwise_append.2 ⟨hp.1, by simp, fun x hx y hy b hb hby => ?_⟩, h.lt⟩
  · rcases List.mem_append.1 hx with hx | hx
    · exact h.holds x (List.mem_append_left _ hx)
    · rw [List.mem_singleton.1 hx]
      exact ⟨fun y hy => h.holds y (List.mem_append_right _ hy), hp.2.1⟩
  · rcases List.mem_append.1 hx with hx | hx
    · exact h.fp x (List.mem_append_left _ hx) b hb
    · rw [List.mem_singleton.1 hx] at hb
      obtain ⟨y, hy, hb⟩ := hb
      exact h.fp y (List.mem_append_right _ hy) b hb
  · rw [List.mem_singleton.1 hy] at hby
    obtain ⟨y', hy', hb'⟩ := hby
    exact hp.2.2 x hx y' hy' b hb hb'
theorem HSat.unbundle {w : World} {F : Nat → Prop} {A H : List Hp} (h : HSat w F (A ++ [.cust (Proofs.Ytbcmpfhemangpaa.bundle H)])) : HSat w F (A ++ H) := by
  have hp := List.pairwise_append.1 h.apart
  have hb : (Hp.cust (Proofs.Ytbcmpfhemangpaa.bundle H)).holds w F := h.holds _ (List.mem_append_right _ (by simp))
  refine ⟨fun x hx => ?_, fun x hx b hb' => ?_, List.pairwise_append.2 ⟨hp.1, hb.2, fun x hx y hy b hbx hby => ?_⟩, h.lt⟩
  · rcases List.mem_append.1 hx with hx | hx
    · exact h.holds x (List.mem_append_left _ hx)
    · exact hb.1 x hx
  · rcases List.mem_append.1 hx with hx | hx
    · exact h.fp x (List.mem_append_left _ hx) b hb'
    · exact h.fp _ (List.mem_append_right _ (List.mem_singleton_self _)) b ⟨x, hx, hb'⟩
  · exact hp.2.2 x hx (.cust (Proofs.Ytbcmpfhemangpaa.bundle H)) List.mem_cons_self b hbx ⟨y, hy, hby⟩

theorem SCalls.frame {f : FuncId} {ss : List SV} {A H : List Hp} {K : SV → List Hp → Prop} (h : ∀ R, SCalls P f ss (A ++ [.cust R]) fun r H' => ∃ A', H' = A' ++ [.cust R] ∧ K r (A' ++ H)) : SCalls P f ss (A ++ H) K := by
  refine ⟨(h (bundle H)).1, fun w F vs hs hv => ((h (bundle H)).2 w F vs hs.bundle hv).mono ?_⟩
  rintro e w' ⟨v, he, r, F', H', ⟨A', rfl, hK⟩, hk, hF, hs', hr⟩
  exact ⟨v, he, r, F', _, hK, hk, hF, hs'.unbundle, hr⟩
theorem SCalls.perm {f : FuncId} {ss : List SV} {H H1 : List Hp} {K : SV → List Hp → Prop} (hp : H.Perm H1) (h : SCalls P f ss H1 fun r H' => ∃ H2, H'.Perm H2 ∧ K r H2) : SCalls P f ss H K := by
  refine ⟨h.1, fun w F vs hs hv => (h.2 w F vs (hs.perm hp) hv).mono ?_⟩
  rintro e w' ⟨v, he, r, F', H', ⟨H2, hp2, hK⟩, hk, hF, hs', hr⟩
  exact ⟨v, he, r, F', H2, hK, hk, hF, hs'.perm hp2, hr⟩

theorem SRet.call {f : FuncId} {ss : List SV} {Φ : SV → Prop} {H : List Hp} {K : SV → List Hp → Prop} (h : SRet P f ss Φ) (hK : ∀ r, Φ r → K r H) : SCalls P f ss H K :=
  SCalls.frame (A := []) fun R => (h.h R).mono fun r H' ⟨e, hΦ⟩ => ⟨[], e, hK r hΦ⟩
theorem SRet.call1 {f : FuncId} {ss : List SV} {r0 : SV} {H : List Hp} {K : SV → List Hp → Prop} (h : SRet P f ss (· = r0)) (hK : K r0 H) : SCalls P f ss H K := h.call fun r e => e ▸ hK
theorem SNew.call {f : FuncId} {ss : List SV} {Φ : SV → List Hp → Prop} {H : List Hp} {K : SV → List Hp → Prop} (h : SNew P f ss Φ) (hK : ∀ r N, Φ r N → K r (N ++ H)) : SCalls P f ss H K :=
  SCalls.frame (A := []) fun R => (h.h R).mono fun r H' ⟨N, e, hΦ⟩ => ⟨N, e, hK r N hΦ⟩
theorem SMut.call {f : FuncId} {ss : List SV} {p : Hp} {Φ : SV → List Hp → Hp → Prop} {H : List Hp} {K : SV → List Hp → Prop} (h : SMut P f ss p Φ) (i : Nat) (hi : H[i]? = some p) (hK : ∀ r N p', Φ r N p' → K r (N ++ H.set i p')) : SCalls P f ss H K := by
  have hlt : i < H.length := (List.getElem?_eq_some_iff.1 hi).1
  have hget : H[i] = p := (List.getElem?_eq_some_iff.1 hi).2
  have hperm : ∀ q, (H.set i q).Perm (q :: H.eraseIdx i) := fun q => by
    rw [List.set_eq_take_append_cons_drop, if_pos hlt, List.eraseIdx_eq_take_drop_succ]
    exact List.perm_middle
  have hH : H.Perm (p :: H.eraseIdx i) := by
    have := hperm p
    subst hget
    rwa [List.set_getElem_self] at this
  refine SCalls.perm hH (SCalls.frame (A := [p]) fun R => (h.h R).mono ?_)
  rintro r H' ⟨N, p', rfl, hΦ⟩
  refine ⟨N ++ [p'], by simp, N ++ H.set i p', ?_, hK r N p' hΦ⟩
  rw [List.append_assoc]
  exact List.Perm.append_left _ (hperm p').symm
end
theorem Has.free {w : World} {F F' : Nat → Prop} : ∀ {s : SV} {v : Value}, s.free → Has w F s v → Has w F' s v
  | .any, _, _, _ => trivial
  | .val _, _, _, h => h
  | .ptr _ _ _, _, _, h => h
  | .own _ _, _, _, h => h
  | .rp _ _ _ _ _, _, _, h => h
  | .vw _ _ _ _ _ _, _, _, h => h
  | .ifc _ _, _, hf, ⟨v, e, h⟩ => ⟨v, e, Has.free hf h⟩
  | .fn _ _ _, _, hf, ⟨vs, e, hn, h⟩ => ⟨vs, e, hn, fun k hk => Has.free (hf k hk) (h k hk)⟩
  | .agg _ _, _, hf, ⟨vs, e, hn, h⟩ => ⟨vs, e, hn, fun k hk => Has.free (hf k hk) (h k hk)⟩
  | .tup _ _, _, hf, ⟨vs, e, hn, h⟩ => ⟨vs, e, hn, fun k hk => Has.free (hf k hk) (h k hk)⟩
  | .sl _ _ _, _, hf, _ => hf.elim
  | .ref _ _ _ _, _, hf, _ => hf.elim
  | .pp _ _, _, hf, _ => hf.elim
theorem Hp.holds_free {w : World} {F F' : Nat → Prop} : ∀ {h : Hp}, h.free → h.holds w F → h.holds w F'
  | .emp, _, h => h
  | .box _ _ _ _, hf, ⟨cs, e, hn, h⟩ => ⟨cs, e, hn, fun k hk => ⟨(h k hk).1, Has.free (hf k hk) (h k hk).2⟩⟩
  | .row _ _ _ _ _, hf, ⟨xs, e, h⟩ => ⟨xs, e, fun i k hi hk => ⟨(h i k hi hk).1, Has.free (hf i k hi hk) (h i k hi hk).2⟩⟩
  | .cust _, hf, h => hf _ _ _ h

theorem SNew.borrow {P : Program} {f : FuncId} {ss ss' : List SV} {Φ : SV → List Hp → Prop} {H : List Hp} {K : SV → List Hp → Prop} (h : SNew P f ss' Φ) (hb : ∀ w F vs, HSat w F H → HasL w F ss vs → HasL w (fun b => b < w.heap.size) ss' vs)
    (hfree : ∀ r N, Φ r N → r.free ∧ ∀ p ∈ N, p.free) (hK : ∀ r N, Φ r N → K r (N ++ H)) : SCalls P f ss H K := by
  have R : Heaplet := ⟨fun _ => False, fun _ _ => True, fun _ _ => trivial, fun _ _ => trivial⟩
  let R0 : Heaplet := ⟨fun _ => False, fun _ _ => True, fun _ _ => trivial, fun _ _ => trivial⟩
  refine ⟨(h.h R0).1, fun w F vs hs hv => ?_⟩
  have hs0 : HSat w (fun b => b < w.heap.size) [.cust R0] := ⟨fun x hx => by rw [List.mem_singleton.1 hx]; trivial, fun x hx b hb => by rw [List.mem_singleton.1 hx] at hb; exact hb.elim, by simp, fun b hb => hb⟩
  refine ((h.h R0).2 w _ vs hs0 (hb w F vs hs hv)).mono ?_
  rintro e w' ⟨v, rfl, r, F', H', ⟨N, rfl, hΦ⟩, hk, hF, hs', hr⟩
  obtain ⟨hrf, hNf⟩ := hfree r N hΦ
  have hsame : ∀ b, b < w.heap.size → w'.heap[b]? = w.heap[b]? := hk.blk
  refine ⟨v, rfl, r, F, N ++ H, hK r N hΦ, ⟨hk.os, hk.tape, hk.output, hk.size, fun b hb => hsame b (hs.lt b hb), hk.drawn⟩, fun _ h => h, ?_, Has.free hrf hr⟩
  have hsH := hs.same hk.size hsame
  have hNap := (List.pairwise_append.1 hs'.apart).1
  have hNfp : ∀ p ∈ N, ∀ b, p.fp b → b < w'.heap.size ∧ w.heap.size ≤ b := fun p hp b hb => by
    have := hs'.fp p (List.mem_append_left _ hp) b hb
    refine ⟨this.1, ?_⟩
    rcases Nat.lt_or_ge b w.heap.size with hlt | hge
    · exact absurd (hF b hlt) this.2
    · exact hge
  refine ⟨fun p hp => ?_, fun p hp b hb => ?_, List.pairwise_append.2 ⟨hNap, hsH.apart, fun p hp q hq b hb hb2 => ?_⟩, hsH.lt⟩
  · rcases List.mem_append.1 hp with hp | hp
    · exact Hp.holds_free (hNf p hp) (hs'.holds p (List.mem_append_left _ hp))
    · exact hsH.holds p hp
  · rcases List.mem_append.1 hp with hp | hp
    · have := hNfp p hp b hb
      exact ⟨this.1, fun hF' => by have := hs.lt b hF'; omega⟩
    · exact hsH.fp p hp b hb
  · have := hNfp p hp b hb
    have := (hs.fp q hq b hb2).1
    omega
theorem SRet.borrow {P : Program} {f : FuncId} {ss ss' : List SV} {Φ : SV → Prop} {H : List Hp} {K : SV → List Hp → Prop} (h : SRet P f ss' Φ) (hb : ∀ w F vs, HSat w F H → HasL w F ss vs → HasL w (fun b => b < w.heap.size) ss' vs)
    (hfree : ∀ r, Φ r → r.free) (hK : ∀ r, Φ r → K r H) : SCalls P f ss H K :=
  SNew.borrow (Φ := fun r N => N = [] ∧ Φ r) ⟨fun R => (h.h R).mono fun r H' ⟨e, hΦ⟩ => ⟨[], e, rfl, hΦ⟩⟩ hb (fun r N ⟨e, hΦ⟩ => ⟨hfree r hΦ, by subst e; simp⟩) fun r N ⟨e, hΦ⟩ => by subst e; exact hK r hΦ


theorem keyN_snd : ∀ (N : List Hp) (nx : Nat) (L : Hpl), (keyN nx N L).map Prod.snd = N ++ L.map Prod.snd
  | [], _, _ => rfl
  | h :: N, nx, L => by simp [keyN, keyN_snd N]
theorem setK_idx {i : Nat} {p : Hp} : ∀ {L : Hpl}, hasK i L = true → ∃ j, (L.map Prod.snd)[j]? = some (lk i L) ∧ ∀ p, (setK i p L).map Prod.snd = (L.map Prod.snd).set j p
  | [], h => by cases h
  | (k, x) :: L, h => by
    simp only [hasK] at h
    simp only [lk, setK]
    cases e : Nat.beq k i <;> simp only [e, cond_true, cond_false] at h ⊢
    · obtain ⟨j, h1, h2⟩ := setK_idx (p := p) h
      exact ⟨j + 1, by simpa using h1, fun p => by simp [h2]⟩
    · exact ⟨0, by simp, fun p => by simp⟩
theorem SCalls.le {P : Program} {f : FuncId} {ss : List SV} {H H' : List Hp} {K : SV → List Hp → Prop} (hl : ∀ w F, HSat w F H → HSat w F H') (h : SCalls P f ss H' K) : SCalls P f ss H K :=
  ⟨h.1, fun w F vs hs hv => h.2 w F vs (hl w F hs) hv⟩
theorem SCalls.post {P : Program} {f : FuncId} {ss : List SV} {H : List Hp} {K K' : SV → List Hp → Prop} (h : SCalls P f ss H K) (hk : ∀ r H', K r H' → ∃ r' H'', (∀ w F v, HSat w F H' → Has w F r v → ∃ F', (∀ b, F b → F' b) ∧ HSat w F' H'' ∧ Has w F' r' v) ∧ K' r' H'') : SCalls P f ss H K' :=
  ⟨h.1, fun w F vs hs hv => (h.2 w F vs hs hv).mono fun e w' ⟨v, he, r, F', H', hK, hkeep, hF, hs', hr⟩ => by
    obtain ⟨r', H'', hE, hK'⟩ := hk r H' hK
    obtain ⟨F2, q1, q2, q3⟩ := hE w' F' v hs' hr
    exact ⟨v, he, r', F2, H'', hK', hkeep, fun b hb => q1 b (hF b hb), q2, q3⟩⟩
theorem CallN.calls {P : Program} {f : FuncId} {ss : List SV} {L : Hpl} {nx : Nat} {K : KK} (h : CallN P f ss L nx K) : SCalls P f ss (L.map Prod.snd) fun r H => ∃ L', H = L'.map Prod.snd ∧ K (r.lift nx) L' (nx + 10) := by
  induction h with
  | ret Φ h k => exact h.call fun r hr => ⟨_, rfl, k r hr⟩
  | new Φ h k => exact h.call fun r N hr => ⟨_, (keyN_snd N _ _).symm, k r N hr⟩
  | @turn L nx K i c Φ hl h k =>
    obtain ⟨j, h1, h2⟩ := setK_idx (i := i) (p := .emp) (L := L) (hasK_of (by rw [hl]; simp))
    rw [hl] at h1
    exact h.call j h1 fun r N p' hr => ⟨_, by rw [keyN_snd, h2], k r N p' hr⟩
  | gen h => exact h.mono fun r H ⟨L', e, _, k⟩ => ⟨L', e, k⟩
  | @keep L nx K i p Φ hl hp h k =>
    obtain ⟨j, h1, h2⟩ := setK_idx (i := i) (p := .emp) (L := L) (hasK_of (by rw [hl]; exact hp))
    rw [hl] at h1
    refine h.call j h1 fun r N p' hr => ?_
    obtain ⟨rfl, rfl, hr⟩ := hr
    have hlt : j < (L.map Prod.snd).length := (List.getElem?_eq_some_iff.1 h1).1
    have hget : (L.map Prod.snd)[j] = p' := (List.getElem?_eq_some_iff.1 h1).2
    exact ⟨L, by rw [← hget, List.set_getElem_self]; rfl, k r hr⟩
  | newB ss' Φ h hb hf k => exact h.borrow hb hf fun r N hr => ⟨_, (keyN_snd N _ _).symm, k r N hr⟩
  | @newF L nx K ss' Φ Ψ h hb hf hz k =>
    refine (h.borrow (K := fun r H => ∃ N, H = N ++ L.map Prod.snd ∧ Φ r N) hb hf fun r N hr => ⟨N, rfl, hr⟩).post ?_
    rintro r H' ⟨N, rfl, hΦ⟩
    obtain ⟨r', hΨ, hE⟩ := hz r N hΦ
    exact ⟨r', _, hE _, _, rfl, k r' hΨ⟩
  | le L' hl hb h ih => exact SCalls.le hl ih
theorem CallN.mono {P : Program} {f : FuncId} {ss : List SV} {L : Hpl} {nx : Nat} {K K' : KK} (hk : ∀ r L' nx', (∀ k g t n f, k < nx → lk k L = .box g t n f → lk k L' = .box g t n f) → nx ≤ nx' → K r L' nx' → K' r L' nx') (h : CallN P f ss L nx K) : CallN P f ss L nx K' := by
  have key : ∀ (N : List Hp) (m : Nat) (L' : Hpl) (k : Nat) (x : Hp), k < m → lk k L' = x → lk k (keyN m N L') = x := by
    intro N
    induction N with
    | nil => intro m L' k x _ h; exact h
    | cons y N ih =>
      intro m L' k x hkm h
      simp only [keyN, lk]
      have : Nat.beq m k = false := by rw [Bool.eq_false_iff]; intro hb; have := Nat.eq_of_beq_eq_true hb; omega
      rw [this, cond_false]
      exact ih (m + 1) L' k x (by omega) h
  have set : ∀ (i : Nat) (p : Hp) (k : Nat) (x : Hp) (L' : Hpl), k ≠ i → lk k L' = x → lk k (setK i p L') = x := by
    intro i p k x L'
    induction L' with
    | nil => intro _ h; exact h
    | cons q L' ih =>
      intro hne h
      obtain ⟨j, y⟩ := q
      simp only [lk, setK] at h ⊢
      cases e : Nat.beq j i
      · rw [cond_false]
        simp only [lk]
        cases e2 : Nat.beq j k
        · rw [e2, cond_false] at h
          rw [cond_false]
          exact ih hne h
        · rw [e2, cond_true] at h
          rw [cond_true]
          exact h
      · rw [cond_true]
        simp only [lk]
        have := Nat.eq_of_beq_eq_true e
        have e2 : Nat.beq j k = false := by rw [Bool.eq_false_iff]; intro hb; have := Nat.eq_of_beq_eq_true hb; omega
        rw [e2, cond_false] at h ⊢
        exact h
  induction h with
  | ret Φ h k => exact .ret Φ h fun r hr => hk _ _ _ (fun _ _ _ _ _ _ h => h) (by omega) (k r hr)
  | le L' hl hb h ih => exact .le L' hl hb (ih fun r L2 nx' h1 => hk r L2 nx' fun k g t n f hk h2 => h1 k g t n f hk (hb k g t n f h2))
  | new Φ h k => exact .new Φ h fun r N hr => hk _ _ _ (fun _ _ _ _ _ h1 h2 => key N _ _ _ _ h1 h2) (by omega) (k r N hr)
  | turn i c Φ hl h k => exact .turn i c Φ hl h fun r N p' hr => hk _ _ _ (fun q _ _ _ _ h1 h2 => key N _ _ _ _ h1 (set i p' q _ _ (by rintro rfl; rw [hl] at h2; cases h2) h2)) (by omega) (k r N p' hr)
  | gen h => exact .gen (h.mono fun r H ⟨L', e, hb, k⟩ => ⟨L', e, hb, hk _ _ _ hb (by omega) k⟩)
  | keep i p Φ hl hp h k => exact .keep i p Φ hl hp h fun r hr => hk _ _ _ (fun _ _ _ _ _ _ h => h) (by omega) (k r hr)
  | newB ss' Φ h hb hf k => exact .newB ss' Φ h hb hf fun r N hr => hk _ _ _ (fun _ _ _ _ _ h1 h2 => key N _ _ _ _ h1 h2) (by omega) (k r N hr)
  | newF ss' Φ Ψ h hb hf hz k => exact .newF ss' Φ Ψ h hb hf hz fun r hr => hk _ _ _ (fun _ _ _ _ _ _ h => h) (by omega) (k r hr)
end Go.Proofs.Ytbcmpfhemangpaa

