/- Texts of this proof put together: SxJ. -/
import Derived.Test.YtcagfmbboliohaaDoorQ01
import Derived.Test.YtcagfmbboliohaaDoorQ02
import Derived.Test.YtcagfmbboliohaaDoorQ03
import Derived.Test.YtcagfmbboliohaaDoorQ04
import Derived.Test.YtcagfmbboliohaaDoorQ05
import Derived.Test.YtcagfmbboliohaaDoorQ06
/-! YtcagfmbboliohaaDoorSxJ -/
set_option linter.all false


namespace Go.Proofs.YtcagfmbboliohaaDoor

def elemB (k : Nat) : List Nat → Bool
  | [] => false
  | j :: l => bif Nat.beq k j then true else elemB k l

section
variable {P : Program} {tt : List (Nat × TI)} {n : Nat} {all : List Oper}

theorem PR.det : ∀ pr : PR, ∃ (C : Prop) (r : SV), ∀ K, pr.run K ↔ C ∧ K r
  | .no => ⟨False, .any, fun K => ⟨False.elim, fun h => h.1⟩⟩
  | .nc r => ⟨True, r, fun K => ⟨fun h => ⟨trivial, h⟩, fun h => h.2⟩⟩
  | .ok c r => ⟨c, r, fun K => ⟨fun ⟨a, b⟩ => ⟨a, b⟩, fun h => ⟨h.1, h.2⟩⟩⟩
  | .ar c k z => ⟨c, .val (.int k (k.wrap z)), fun K => ⟨fun ⟨a, b⟩ => by
      obtain ⟨z', e, hK⟩ := b
      exact ⟨a, by rw [e]; exact hK⟩, fun h => ⟨h.1, ⟨_, rfl, h.2⟩⟩⟩⟩
  | .eq c k z => ⟨c, .val (.int k z), fun K => ⟨fun ⟨a, b⟩ => by
      obtain ⟨z', e, hK⟩ := b
      exact ⟨a, by rw [e]; exact hK⟩, fun h => ⟨h.1, ⟨_, rfl, h.2⟩⟩⟩⟩
  | .br β a b => by
    cases β
    · exact ⟨True, b, fun K => ⟨fun h => ⟨trivial, h.f rfl⟩, fun h => ⟨(fun h => by cases h), fun _ => h.2⟩⟩⟩
    · exact ⟨True, a, fun K => ⟨fun h => ⟨trivial, h.t rfl⟩, fun h => ⟨fun _ => h.2, (fun h => by cases h)⟩⟩⟩

/-- an operation that looks at its operands alone -/
def pB (o : Oper) (σ : Fr) (L : Hpl) (nx : Nat) : Bool :=
  match o.op with
  | .move _ | .assign _ | .pick _ _ _ | .build _ _ | .nilCheck _ | .binOp _ _ _ _ _ | .unOp _ _ _ | .fieldAddr _ _ _ | .field _ _ _ | .extract _ _ | .makeInterface _ _ | .typeAssert _ _ _ _ | .makeFunc _ _ _ => true
  | .convert _ _ x => !isOwnV (sv σ x)
  | .slice _ x _ _ none => match sv σ x with | .own _ _ => false | .vw _ _ _ _ _ _ => false | _ => true
  | .indexAddr _ x _ => match sv σ x with | .own _ _ => false | _ => true
  | .load _ a => match sv σ a with
    | .ptr k _ _ => bif Nat.blt k nx then (match lk k L with | .box _ _ _ _ => true | _ => false) else false
    | .rp _ _ _ _ _ => false
    | _ => true
  | .call c => match c.callee with
    | .builtin .len => (match c.args.toList with
      | [x] => !isMapV (sv σ x)
      | _ => true)
    | .builtin .max | .builtin .cap => true
    | _ => false
  | _ => false

def isLd (o : Oper) : Bool := match o.op with | .load _ _ => true | _ => false
def isSt (o : Oper) : Bool := match o.op with | .store _ _ _ => true | _ => false
/-- the blocks that were known whole are known as before -/
def BoxKeep (L : Hpl) (nx : Nat) (L' : Hpl) : Prop := ∀ k g t n f, k < nx → lk k L = .box g t n f → lk k L' = .box g t n f
theorem BoxKeep.refl (L : Hpl) (nx : Nat) : BoxKeep L nx L := fun _ _ _ _ _ _ h => h
theorem BoxKeep.trans {L L' L'' : Hpl} {nx nx' : Nat} (h : BoxKeep L nx L') (h' : BoxKeep L' nx' L'') (hn : nx ≤ nx') : BoxKeep L nx L'' := fun k g t n f hk hl => h' k g t n f (by omega) (h k g t n f hk hl)
theorem BoxKeep.cons {L L' : Hpl} {nx : Nat} {x : Hp} (h : BoxKeep L nx L') : BoxKeep L nx ((nx, x) :: L') := fun k g t n f hk hl => by
  simp only [lk]
  have : Nat.beq nx k = false := by rw [Bool.eq_false_iff]; intro hb; have := Nat.eq_of_beq_eq_true hb; omega
  rw [this, cond_false]
  exact h k g t n f hk hl
theorem lk_setK_ne {i : Nat} {p : Hp} {k : Nat} (hne : k ≠ i) : ∀ {L : Hpl}, lk k (setK i p L) = lk k L
  | [] => rfl
  | (j, y) :: L => by
    simp only [setK]
    cases e : Nat.beq j i
    · rw [cond_false]
      simp only [lk]
      rw [lk_setK_ne hne]
    · rw [cond_true]
      simp only [lk]
      have := Nat.eq_of_beq_eq_true e
      have e2 : Nat.beq j k = false := by rw [Bool.eq_false_iff]; intro hb; have := Nat.eq_of_beq_eq_true hb; omega
      rw [e2, cond_false, cond_false]
theorem BoxKeep.setK {L : Hpl} {nx i : Nat} {p : Hp} (h : ∀ g t n f, lk i L ≠ .box g t n f) : BoxKeep L nx (Proofs.YtcagfmbboliohaaDoor.setK i p L) := fun k g t n f hk hl => by
  rw [lk_setK_ne (by rintro rfl; exact h _ _ _ _ hl)]
  exact hl

theorem pLoad_any {i : TI} {a : SV} {L L' : Hpl} (h1 : ∀ k g o, a = .ptr k g o → lk k L' = lk k L) (h2 : ∀ k g sz i o, a ≠ .rp k g sz i o) : pLoad i a L' = pLoad i a L := by
  unfold pLoad
  cases a with
  | ptr k g o => simp only [h1 k g o rfl]
  | rp k g sz i o => exact absurd rfl (h2 _ _ _ _ _)
  | _ => rfl
theorem pB_load {t : TypeId} {a : Operand} {o : Oper} {σ : Fr} {L : Hpl} {nx : Nat} (ho : o.op = .load t a) (h : pB o σ L nx = true) : (∀ k g off, sv σ a = .ptr k g off → k < nx ∧ ∃ g' t' n f, lk k L = .box g' t' n f) ∧ ∀ k g sz i o, sv σ a ≠ .rp k g sz i o := by
  unfold pB at h
  simp only [ho] at h
  split at h
  · rename_i k g off hs
    refine ⟨fun k' g' off' e => ?_, fun _ _ _ _ _ e => by rw [hs] at e; cases e⟩
    rw [hs] at e
    injection e with e1 e2 e3
    subst e1
    cases hb : Nat.blt k nx
    · rw [hb] at h; cases h
    · rw [hb, cond_true] at h
      split at h
      · rename_i hl
        exact ⟨Nat.le_of_ble_eq_true hb, _, _, _, _, hl⟩
      · cases h
  · cases h
  · rename_i h1 h2
    exact ⟨fun k g o e => absurd e (h1 k g o), fun k g sz i o => h2 k g sz i o⟩

theorem pB_plain {o : Oper} {σ : Fr} {L : Hpl} {nx : Nat} (h : pB o σ L nx = true) : ∃ pr : PR, ∀ L' nx', (isLd o = true → BoxKeep L nx L') → ∀ (K : KK), sop P tt o σ L' nx' K ↔ pr.run fun r => K r L' nx' := by
  have h0 := h
  unfold pB at h
  split at h
  case h_19 => cases h
  case h_18 c ho =>
    split at h
    · rename_i hc
      split at h
      · rename_i x hx
        have hb : isMapV (sv σ x) = false := by simpa using h
        refine ⟨pop tt o σ L, fun L' nx' _ K => ?_⟩
        unfold sop pop
        simp only [ho, hc, hx, hb, cond_false]
      · rename_i hx
        refine ⟨pop tt o σ L, fun L' nx' _ K => ?_⟩
        unfold sop pop
        simp only [ho, hc]
    · rename_i hc
      refine ⟨pop tt o σ L, fun L' nx' _ K => ?_⟩
      unfold sop pop
      simp only [ho, hc]
    · rename_i hc
      refine ⟨pop tt o σ L, fun L' nx' _ K => ?_⟩
      unfold sop pop
      simp only [ho, hc]
    · cases h
  case h_17 t a ho =>
    refine ⟨pop tt o σ L, fun L' nx' hk K => ?_⟩
    obtain ⟨h1, h2⟩ := pB_load ho h0
    have hk := hk (by unfold isLd; rw [ho])
    unfold sop pop
    simp only [ho]
    rw [pLoad_any (L := L) (L' := L') (fun k g off e => by
      obtain ⟨hlt, g', t', n, f, hl⟩ := h1 k g off e
      rw [hk k g' t' n f hlt hl, hl]) h2]
  case h_15 t x lo hi ho =>
    split at h
    · cases h
    · cases h
    · rename_i h1 h2
      refine ⟨pSlice (fetch t tt) (sv σ x) (lo.map (sv σ)) (hi.map (sv σ)), fun L' nx' _ K => ?_⟩
      unfold sop
      simp only [ho]
      unfold sSlice
      split
      · exfalso; exact h1 _ _ ‹_›
      · exfalso; exact h2 _ _ _ _ _ _ ‹_›
      · exact Iff.rfl
  case h_16 t x ix ho =>
    split at h
    · cases h
    · rename_i h1
      refine ⟨pIndex (fetch t tt) (sv σ x) (sv σ ix), fun L' nx' _ K => ?_⟩
      unfold sop
      simp only [ho]
      unfold sIndex
      split
      · exfalso; exact h1 _ _ ‹_›
      · exact Iff.rfl
  all_goals
    refine ⟨pop tt o σ L, fun L' nx' _ K => ?_⟩
    unfold sop pop
    simp_all

/-! ### monotone, and by the operands alone -/
theorem PR.mono : ∀ {pr : PR} {K K' : SV → Prop}, (∀ r, K r → K' r) → pr.run K → pr.run K'
  | .no, _, _, _, h => h
  | .nc _, _, _, hk, h => hk _ h
  | .ok _ _, _, _, hk, h => ⟨h.a, hk _ h.b⟩
  | .ar _ _ _, _, _, hk, h => ⟨h.a, by obtain ⟨z, e, h⟩ := h.b.h; exact ⟨⟨z, e, hk _ h⟩⟩⟩
  | .eq _ _ _, _, _, hk, h => ⟨h.a, by obtain ⟨z, e, h⟩ := h.b.h; exact ⟨⟨z, e, hk _ h⟩⟩⟩
  | .br _ _ _, _, _, hk, h => ⟨fun e => hk _ (h.t e), fun e => hk _ (h.f e)⟩

theorem Chk.mono {A B B' : Prop} (hb : B → B') (h : Chk A B) : Chk A B' := ⟨h.a, hb h.b⟩
theorem sStore_mono {i : TI} {a x : SV} {L : Hpl} {K K' : Hpl → Prop} (hk : ∀ L, K L → K' L) (h : sStore i a x L K) : sStore i a x L K' := by
  rw [sStore_eq] at h ⊢
  unfold sStoreC at h ⊢
  cases hw : i.w with
  | none => rw [hw] at h; exact h.elim
  | some p =>
    obtain ⟨ag, m⟩ := p
    rw [hw] at h
    simp only at h ⊢
    cases hc : (Nat.beq m x.cells.1 && allOne m x.cells.2)
    · rw [hc] at h; exact h.elim
    · rw [hc, cond_true] at h
      rw [cond_true]
      cases a with
      | ptr k g off => cases hl : lk k L <;> simp only [hl] at h ⊢ <;> exact h.mono (hk _)
      | rp k g sz i o => cases hl : lk k L <;> simp only [hl] at h ⊢ <;> exact h.mono (hk _)
      | _ => exact h.elim
theorem sIndex_mono {i : TI} {x ix : SV} {L : Hpl} {K K' : SV → Prop} (hk : ∀ r, K r → K' r) (h : sIndex i x ix L K) : sIndex i x ix L K' := by
  cases x with
  | own k v =>
    simp only [sIndex] at h ⊢
    split at h
    · split at h
      · exact h.mono fun h g hg => hk _ (h g hg)
      · exact h.elim
    · exact h.elim
  | _ => exact PR.mono hk h
theorem sMake_mono {i : TI} {l c : SV} {L : Hpl} {nx : Nat} {K K' : KK} (hk : ∀ r L' nx', BoxKeep L nx L' → nx ≤ nx' → K r L' nx' → K' r L' nx') (h : sMake i l c L nx K) : sMake i l c L nx K' := by
  unfold sMake at h ⊢
  split at h
  · exact h.mono fun h g => hk _ _ _ (BoxKeep.refl _ _).cons (by omega) (h g)
  · exact h
theorem sSrc_mono {x : SV} {L : Hpl} {K K' : Nat → Nat → (Nat → Nat → SV) → Prop} (hk : ∀ a b c, K a b c → K' a b c) (h : sSrc x L K) : sSrc x L K' := by
  unfold sSrc at h ⊢
  split at h
  · exact hk _ _ _ h
  · split at h
    · exact h.mono (hk _ _ _)
    · exact h
  · split at h
    · exact h.mono (hk _ _ _)
    · exact h
  · exact h
theorem sAppendZ_mono {i j : TI} {s x : SV} {L : Hpl} {nx : Nat} {K K' : KK} (hk : ∀ r L' nx', BoxKeep L nx L' → nx ≤ nx' → K r L' nx' → K' r L' nx') (h : sAppendZ i j s x L nx K) : sAppendZ i j s x L nx K' := by
  unfold sAppendZ at h ⊢
  split at h
  · split at h
    · split at h
      · exact h.mono fun h g c => hk _ _ _ (BoxKeep.refl _ _).cons (by omega) (h g c)
      · exact h
    · exact h
  · exact h
theorem sCopy_mono {i : TI} {d s : SV} {L : Hpl} {nx : Nat} {K K' : KK} (hk : ∀ r L' nx', BoxKeep L nx L' → nx ≤ nx' → K r L' nx' → K' r L' nx') (h : sCopy i d s L nx K) : sCopy i d s L nx K' := by
  unfold sCopy at h ⊢
  split at h
  · split at h
    · split at h
      · rename_i hl
        exact sSrc_mono (fun a b c h => h.mono fun h => hk _ _ _ (BoxKeep.setK (fun _ _ _ _ e => by rw [hl] at e; cases e)) (Nat.le_refl _) h) h
      · exact h
    · exact h
  · exact h
theorem sAppend_mono {i : TI} {s x : SV} {L : Hpl} {nx : Nat} {K K' : KK} (hk : ∀ r L' nx', BoxKeep L nx L' → nx ≤ nx' → K r L' nx' → K' r L' nx') (h : sAppend i s x L nx K) : sAppend i s x L nx K' := by
  unfold sAppend at h ⊢
  split at h
  · split at h
    · split at h
      · rename_i hl
        exact sSrc_mono (fun a b c h => h.mono fun h A c => hk _ _ _ (BoxKeep.setK (fun _ _ _ _ e => by rw [hl] at e; cases e)).cons (by omega) (h A c)) h
      · exact h
    · exact sSrc_mono (fun a b c h => h.mono fun h A c => hk _ _ _ (BoxKeep.refl _ _).cons (by omega) (h A c)) h
    · split at h
      · exact sSrc_mono (fun a b c h => h.mono fun h g c => hk _ _ _ (BoxKeep.refl _ _).cons (by omega) (h g c)) h
      · exact h
    · exact h
  · exact h

theorem sSlice_mono {i : TI} {x : SV} {lo hi : Option SV} {L : Hpl} {nx : Nat} {K K' : KK} (hk : ∀ r L' nx', BoxKeep L nx L' → nx ≤ nx' → K r L' nx' → K' r L' nx') (h : sSlice i x lo hi L nx K) : sSlice i x lo hi L nx K' := by
  unfold sSlice at h ⊢
  split at h
  · split at h
    · split at h
      · rename_i v' e' sz n f hl
        exact ⟨h.a, fun A c => hk _ _ _ (BoxKeep.setK fun _ _ _ _ e => by rw [hl] at e; cases e).cons (by omega) (h.b A c)⟩
      · exact h
    · split at h
      · split at h
        · exact h.mono fun h => hk _ _ _ (BoxKeep.refl _ _) (Nat.le_refl _) h
        · exact h
      · exact h
    · exact h
  · split at h
    · exact h.mono fun h => hk _ _ _ (BoxKeep.refl _ _) (Nat.le_refl _) h
    · exact h.mono fun h => hk _ _ _ (BoxKeep.refl _ _) (Nat.le_refl _) h
    · exact h
  · exact PR.mono (fun r h => hk _ _ _ (BoxKeep.refl _ _) (Nat.le_refl _) h) h
theorem sFgn_mono {o : Oper} {σ : Fr} {L : Hpl} {nx : Nat} {K K' : KK} (hk : ∀ r L' nx', BoxKeep L nx L' → nx ≤ nx' → K r L' nx' → K' r L' nx') (h : sFgn P o σ L nx K) : sFgn P o σ L nx K' := by
  unfold sFgn at h ⊢
  rw [fcK_eq, fcL_eq] at h ⊢
  exact ⟨fun w F ev hs hl => (h.h w F ev hs hl).mono fun v w' ⟨r, L', nx', F', ⟨q1, q2, hK⟩, rest⟩ => ⟨r, L', nx', F', ⟨q1, q2, hk r L' nx' q1 q2 hK⟩, rest⟩⟩
theorem sFgn_congr {o : Oper} {σ σ' : Fr} (h : ∀ x ∈ o.op.operands, sv σ' x = sv σ x) (L : Hpl) (nx : Nat) (K : KK) : sFgn P o σ' L nx K = sFgn P o σ L nx K := by
  unfold sFgn
  rw [List.map_congr_left fun x hx => h x (by simpa using hx)]
theorem sop_mono {o : Oper} {σ : Fr} {L : Hpl} {nx : Nat} {K K' : KK} (hk : ∀ r L' nx', (isSt o = false → BoxKeep L nx L') → nx ≤ nx' → K r L' nx' → K' r L' nx') (h : sop P tt o σ L nx K) : sop P tt o σ L nx K' := by
  have hs : ∀ r, K r L nx → K' r L nx := fun r => hk r L nx (fun _ => BoxKeep.refl _ _) (Nat.le_refl _)
  have hn : ∀ r x, K r ((nx, x) :: L) (nx + 1) → K' r ((nx, x) :: L) (nx + 1) := fun r x => hk r _ _ (fun _ => (BoxKeep.refl _ _).cons) (by omega)
  unfold sop at h ⊢
  split at h
  · unfold sAlloc at h ⊢
    split at h
    · exact fun g => hn _ _ (h g)
    · exact h
  · rename_i t x ho
    rw [sBox_eq] at h ⊢
    unfold sBoxC at h ⊢
    cases hc : allOne (sv σ x).cells.1 (sv σ x).cells.2 <;> rw [hc] at h
    · exact h
    · exact fun g => hn _ _ (h g)
  · unfold sBuildS at h ⊢
    split at h
    · refine ⟨h.a, ?_⟩
      have h2 := h.b
      unfold sBuildI at h2 ⊢
      split at h2
      · exact fun g => hn _ _ (h2 g)
      · exact buildR_mono (fun f hf g => hn _ _ (hf g)) h2
    · exact h
  · rename_i t a x ho
    exact sStore_mono (fun L' h => hk _ _ _ (fun e => by unfold isSt at e; rw [ho] at e; cases e) (Nat.le_refl _) h) h
  · exact sIndex_mono (fun r h => hs _ h) h
  · exact sMake_mono (fun r L' nx' h1 => hk r L' nx' fun _ => h1) h
  · exact sSlice_mono (fun r L' nx' h1 => hk r L' nx' fun _ => h1) h
  · split at h
    · rw [fcK_eq, fcL_eq] at h ⊢
      exact h.mono fun r L' nx' h1 => hk r L' nx' fun _ => h1
    · split at h
      · rw [fcK_eq, fcL_eq] at h ⊢
        exact h.mono fun r L' nx' h1 => hk r L' nx' fun _ => h1
      · exact sFgn_mono (fun r L' nx' h1 => hk r L' nx' fun _ => h1) h
      · exact h
    · split at h
      · rename_i s x t t' ha ht
        cases hb : Nat.beq t t' <;> rw [hb] at h
        · cases hbo : isOwnV (sv σ s) <;> rw [cond_false, hbo] at h
          · exact sAppendZ_mono (fun r L' nx' h1 => hk r L' nx' fun _ => h1) h
          · exact sFgn_mono (fun r L' nx' h1 => hk r L' nx' fun _ => h1) h
        · exact sAppend_mono (fun r L' nx' h1 => hk r L' nx' fun _ => h1) h
      · exact h
    · split at h
      · rename_i d s t t' ha ht
        cases hb : Nat.beq t t' <;> rw [hb] at h
        · exact h.elim
        · exact sCopy_mono (fun r L' nx' h1 => hk r L' nx' fun _ => h1) h
      · exact h
    · split at h
      · rename_i x hx
        cases hb : isMapV (sv σ x) <;> rw [hb] at h
        · exact PR.mono (fun r h => hs _ h) h
        · exact sFgn_mono (fun r L' nx' h1 => hk r L' nx' fun _ => h1) h
      · exact PR.mono (fun r h => hs _ h) h
    · exact sFgn_mono (fun r L' nx' h1 => hk r L' nx' fun _ => h1) h
    · exact PR.mono (fun r h => hs _ h) h
  all_goals first
    | exact PR.mono (fun r h => hs _ h) h
    | exact sFgn_mono (fun r L' nx' h1 => hk r L' nx' fun _ => h1) h
    | (rename_i x ho
       cases hb : isOwnV (sv σ x) <;> rw [hb] at h
       · exact PR.mono (fun r h => hs _ h) h
       · exact sFgn_mono (fun r L' nx' h1 => hk r L' nx' fun _ => h1) h)

theorem sop_congr {o : Oper} {σ σ' : Fr} (h : ∀ x ∈ o.op.operands, sv σ' x = sv σ x) (L : Hpl) (nx : Nat) (K : KK) : sop P tt o σ' L nx K = sop P tt o σ L nx K := by
  have parts : ∀ ps : Array (Nat × Operand), (∀ x ∈ (ps.toList.map (·.2)).toArray, sv σ' x = sv σ x) → (ps.toList.map fun p => (p.1, sv σ' p.2)) = ps.toList.map fun p => (p.1, sv σ p.2) := fun ps hp => List.map_congr_left fun p hpm => by
    rw [hp p.2 (by simp; exact ⟨p.1, by simpa using hpm⟩)]
  unfold sop pop
  cases ho : o.op with
  | move x => simp only [ho, Op.operands] at h ⊢; rw [h x (by simp)]
  | assign x => simp only [ho, Op.operands] at h ⊢; rw [h x (by simp)]
  | pick c a b => simp only [ho, Op.operands] at h ⊢; rw [h c (by simp), h a (by simp), h b (by simp)]
  | box t x => simp only [ho, Op.operands] at h ⊢; rw [h x (by simp)]
  | build t ps => simp only [ho, Op.operands] at h ⊢; rw [parts ps h]
  | buildSlice t k ps => simp only [ho, Op.operands] at h ⊢; rw [parts ps h]
  | load t x => simp only [ho, Op.operands] at h ⊢; rw [h x (by simp)]
  | store t a x => simp only [ho, Op.operands] at h ⊢; rw [h a (by simp), h x (by simp)]
  | nilCheck x => simp only [ho, Op.operands] at h ⊢; rw [h x (by simp)]
  | binOp op t a x y => simp only [ho, Op.operands] at h ⊢; rw [h a (by simp), h x (by simp)]
  | unOp op t x => simp only [ho, Op.operands] at h ⊢; rw [h x (by simp)]
  | slice t x lo hi mx =>
    simp only [ho, Op.operands] at h
    have hl : lo.map (sv σ') = lo.map (sv σ) := by
      cases lo with
      | none => rfl
      | some l => simp only [Option.map_some]; rw [h l (by simp)]
    have hh : hi.map (sv σ') = hi.map (sv σ) := by
      cases hi with
      | none => rfl
      | some l => simp only [Option.map_some]; rw [h l (by simp)]
    cases mx with
    | none => simp only [hl, hh]; rw [h x (by simp)]
    | some m => rfl
  | fieldAddr t x f => simp only [ho, Op.operands] at h ⊢; rw [h x (by simp)]
  | field t x f => simp only [ho, Op.operands] at h ⊢; rw [h x (by simp)]
  | indexAddr t x ix => simp only [ho, Op.operands] at h ⊢; rw [h x (by simp), h ix (by simp)]
  | extract x k => simp only [ho, Op.operands] at h ⊢; rw [h x (by simp)]
  | makeInterface t x => simp only [ho, Op.operands] at h ⊢; rw [h x (by simp)]
  | typeAssert x xt t ok => simp only [ho, Op.operands] at h ⊢; rw [h x (by simp)]
  | convert s d x =>
    have hF := sFgn_congr (P := P) (o := o) (σ := σ) (σ' := σ') h L nx K
    simp only [ho, Op.operands] at h ⊢
    rw [h x (by simp), hF]
  | makeFunc f first caps =>
    simp only [ho, Op.operands] at h ⊢
    rw [List.map_congr_left fun x hx => h x (by simp; exact .inl (by simpa using hx)), List.map_congr_left fun x hx => h x (by simp; exact .inr (by simpa using hx))]
  | makeSlice t l c => simp only [ho, Op.operands] at h ⊢; rw [h l (by simp), h c (by simp)]
  | call c =>
    simp only [ho, Op.operands] at h
    have ha : ∀ x ∈ c.args.toList, sv σ' x = sv σ x := fun x hx => h x (by simp [Call.operands]; exact .inr (by simpa using hx))
    simp only
    split
    · rw [List.map_congr_left fun x hx => by rw [ha x hx]]
    · rename_i d hd
      have e : σ' d = σ d := h (.tmp d) (by simp [Call.operands, hd])
      have hF := sFgn_congr (P := P) (o := o) (σ := σ) (σ' := σ') (by simp only [ho, Op.operands]; exact h) L nx K
      rw [e, List.map_congr_left fun x hx => by rw [ha x hx], hF]
    · have hF := sFgn_congr (P := P) (o := o) (σ := σ) (σ' := σ') (by simp only [ho, Op.operands]; exact h) L nx K
      split
      · rename_i s x t t' hargs hts
        rw [ha s (by rw [hargs]; simp), ha x (by rw [hargs]; simp), hF]
      · rfl
    · split
      · rename_i s x t t' hargs hts
        rw [ha s (by rw [hargs]; simp), ha x (by rw [hargs]; simp)]
      · rfl
    · rename_i hc
      have hF := sFgn_congr (P := P) (o := o) (σ := σ) (σ' := σ') (by simp only [ho, Op.operands]; exact h) L nx K
      simp only [hc]
      cases hargs : c.args.toList with
      | nil => rfl
      | cons x l =>
        have hx := ha x (by rw [hargs]; exact List.mem_cons_self)
        cases l with
        | nil =>
          have e : ∀ ts : List TypeId, (match [x], ts with | [x], [t] => pLen (fetch t tt) (sv σ' x) | _, _ => PR.no) = (match [x], ts with | [x], [t] => pLen (fetch t tt) (sv σ x) | _, _ => PR.no) := fun ts => by
            match ts with
            | [] => rfl
            | [t] => show pLen _ _ = pLen _ _; rw [hx]
            | _ :: _ :: _ => rfl
          have e2 := e c.argTypes.toList
          show cond _ _ _ = cond _ _ _
          rw [hx, hF]
          exact congrArg (fun z => cond (isMapV (sv σ x)) (sFgn P o σ L nx K) (PR.run z fun r => K r L nx)) e2
        | cons y l => rfl
    · exact sFgn_congr (P := P) (o := o) (σ := σ) (σ' := σ') (by simp only [ho, Op.operands]; exact h) L nx K
    · split
      · rw [List.map_congr_left fun x hx => ha x hx]
      · split
        · rename_i x t hargs hts
          rw [ha x (by rw [hargs]; simp)]
        · rfl
      · split
        · rename_i x t hargs hts
          rw [ha x (by rw [hargs]; simp)]
        · rfl
      · rfl
  | _ => first | rfl | exact sFgn_congr h L nx K
theorem pB_congr {o : Oper} {σ σ' : Fr} {L L' : Hpl} {nx nx' : Nat} (h : ∀ x ∈ o.op.operands, sv σ' x = sv σ x) (hk : isLd o = true → BoxKeep L nx L') (hn : nx ≤ nx') (hB : pB o σ L nx = true) : pB o σ' L' nx' = true := by
  cases ho : o.op with
  | load t x =>
    obtain ⟨h1, h2⟩ := pB_load ho hB
    simp only [ho, Op.operands] at h
    have hk := hk (by unfold isLd; rw [ho])
    unfold pB
    simp only [ho]
    rw [h x (by simp)]
    split
    · rename_i k g off e
      obtain ⟨hlt, g', t', n, f, hl⟩ := h1 k g off e
      have : Nat.blt k nx' = true := Nat.ble_eq_true_of_le (show k + 1 ≤ nx' by omega)
      rw [this, cond_true, hk k g' t' n f hlt hl]
    · rename_i k g sz i o e
      exact absurd e (h2 _ _ _ _ _)
    · rfl
  | indexAddr t x ix =>
    unfold pB at hB ⊢
    simp only [ho, Op.operands] at h hB ⊢
    rw [h x (by simp)]
    exact hB
  | slice t x lo hi mx =>
    unfold pB at hB ⊢
    simp only [ho, Op.operands] at h hB ⊢
    cases mx with
    | none =>
      simp only at hB ⊢
      rw [h x (by simp)]
      exact hB
    | some m => exact hB
  | call c =>
    unfold pB at hB ⊢
    simp only [ho, Op.operands] at h hB ⊢
    split
    · rename_i hc
      rw [hc] at hB
      simp only at hB
      split
      · rename_i x hx
        rw [hx] at hB
        have hm : x ∈ c.args.toList := by rw [hx]; exact List.mem_cons_self
        rw [h x (by simp [Call.operands]; exact .inr (by simpa using hm))]
        exact hB
      · rfl
    · rfl
    · rfl
    · rename_i h1 h2 h3
      split at hB
      · rename_i hc; exact absurd hc h1
      · rename_i hc; exact absurd hc h2
      · rename_i hc; exact absurd hc h3
      · cases hB
  | convert t d x =>
    simp only [ho, Op.operands] at h
    unfold pB at hB ⊢
    simp only [ho] at hB ⊢
    rw [h x (by simp)]
    exact hB
  | _ => unfold pB at hB ⊢; simp only [ho] at hB ⊢ <;> exact hB

/-! ### one operation under its guard -/
theorem putS_mono {d : Option Tmp} {r : SV} {σ : Fr} {K K' : Fr → Prop} (hk : ∀ σ, K σ → K' σ) (h : putS n d r σ K) : putS n d r σ K' := by
  unfold putS at h ⊢
  cases d with
  | none => exact hk _ h
  | some d =>
    simp only at h ⊢
    cases hb : Nat.blt d n <;> rw [hb] at h
    · exact h.elim
    · rw [cond_true, fc_eq] at h ⊢
      exact hk _ h
def updO (σ : Fr) (d : Option Tmp) (r : SV) : Fr := match d with | none => σ | some d => upd σ d r
theorem putS_iff {d : Option Tmp} {r : SV} {σ : Fr} {K : Fr → Prop} : putS n d r σ K ↔ (∀ k, d = some k → k < n) ∧ K (updO σ d r) := by
  unfold putS updO
  cases d with
  | none => simp
  | some d =>
    simp only
    cases hb : Nat.blt d n
    · rw [cond_false]
      have : ¬ d < n := fun h => by rw [show Nat.blt d n = true from Nat.ble_eq_true_of_le h] at hb; cases hb
      simp [this]
    · have : d < n := Nat.le_of_ble_eq_true hb
      rw [cond_true, fc_eq]
      simp [this]
theorem upd_self {σ : Fr} {d : Nat} {v : SV} (h : σ d = v) : upd σ d v = σ := by
  funext k
  unfold upd
  cases e : Nat.beq k d
  · rfl
  · rw [Nat.eq_of_beq_eq_true e, cond_true, h]
theorem updO_ne {σ : Fr} {d : Option Tmp} {r : SV} {k : Nat} (h : d ≠ some k) : updO σ d r k = σ k := by
  unfold updO
  cases d with
  | none => rfl
  | some d =>
    unfold upd
    have : Nat.beq k d = false := by rw [Bool.eq_false_iff]; intro hb; exact h (by rw [Nat.eq_of_beq_eq_true hb])
    simp only [this, cond_false]
theorem updO_comm {σ : Fr} {d e : Option Tmp} {r s : SV} (h : ∀ k, d = some k → e ≠ some k) : updO (updO σ d r) e s = updO (updO σ e s) d r := by
  funext k
  by_cases h1 : d = some k
  · rw [updO_ne (h k h1)]
    subst h1
    simp [updO, upd]
  · rw [updO_ne (d := d) h1]
    by_cases h2 : e = some k
    · subst h2; simp [updO, upd]
    · rw [updO_ne h2, updO_ne h2, updO_ne h1]

/-- one operation with its test told -/
def gop1 (P : Program) (tt : List (Nat × TI)) (n : Nat) (o : Oper) (go : Bool) (σ : Fr) (L : Hpl) (nx : Nat) (K : Fr → Hpl → Nat → Prop) : Prop :=
  if go = true then sop P tt o σ L nx fun r L' nx' => putS n o.dst r σ fun σ' => K σ' L' nx' else putS n o.dst (.val undef) σ fun σ' => K σ' L nx
/-- which operations are wanted, by the frame -/
def wantS (all : List Oper) (o : Oper) (σ : Fr) : Option Bool :=
  match o.guard with
  | none => some true
  | some (j, want) => match (all[j]?).bind (·.dst) with
    | none => none
    | some d => match σ d with
      | .val (.bool β) => some (β == want)
      | .val (.tuple _) => some false
      | _ => none
theorem gop_iff {o : Oper} {σ : Fr} {L : Hpl} {nx : Nat} {K : Fr → Hpl → Nat → Prop} : gop P tt n all o σ L nx K ↔ ∃ go, wantS all o σ = some go ∧ gop1 P tt n o go σ L nx K := by
  unfold gop wantS gop1
  cases hg : o.guard with
  | none => simp
  | some p =>
    obtain ⟨j, want⟩ := p
    simp only
    cases hd : (all[j]?).bind (·.dst) with
    | none => simp
    | some d =>
      simp only
      split
      · rename_i β hβ
        simp only [hβ, Option.some.injEq, exists_eq_left']
        cases β <;> cases want <;> rw [upd_self hβ] <;> simp only [cond_true, cond_false] <;> constructor <;> intro h
        all_goals first
          | (have h := h.f rfl; simpa using h)
          | (have h := h.t rfl; simpa using h)
          | exact ⟨(fun h => by cases h), fun _ => by simpa using h⟩
          | exact ⟨fun _ => by simpa using h, (fun h => by cases h)⟩
      · rename_i vs hβ
        simp only [hβ, Option.some.injEq, exists_eq_left']
        simp
      · rename_i h1 h2
        constructor
        · exact False.elim
        · rintro ⟨go, hgo, _⟩
          split at hgo
          · rename_i β hβ
            exact absurd hβ (h1 β)
          · rename_i vs hβ
            exact absurd hβ (h2 vs)
          · cases hgo
theorem gop1_mono {o : Oper} {go : Bool} {σ : Fr} {L : Hpl} {nx : Nat} {K K' : Fr → Hpl → Nat → Prop} (hk : ∀ σ' L' nx', (∀ k, o.dst ≠ some k → σ' k = σ k) → (isSt o = false → BoxKeep L nx L') → nx ≤ nx' → K σ' L' nx' → K' σ' L' nx') (h : gop1 P tt n o go σ L nx K) : gop1 P tt n o go σ L nx K' := by
  have hp : ∀ r L' nx', (isSt o = false → BoxKeep L nx L') → nx ≤ nx' → putS n o.dst r σ (fun σ' => K σ' L' nx') → putS n o.dst r σ (fun σ' => K' σ' L' nx') := fun r L' nx' h1 h2 h => by
    rw [putS_iff] at h ⊢
    exact ⟨h.1, hk _ _ _ (fun k hne => updO_ne hne) h1 h2 h.2⟩
  unfold gop1 at h ⊢
  split at h
  · rw [if_pos ‹_›]; exact sop_mono (fun r L' nx' h1 h2 h => hp r L' nx' h1 h2 h) h
  · rw [if_neg ‹_›]; exact hp _ _ _ (fun _ => BoxKeep.refl _ _) (Nat.le_refl _) h

/-- the slots that an operation looks at -/
def lookB (all : List Oper) (o : Oper) : List Tmp := o.looksAt all.toArray
theorem look_ops {o : Oper} {σ σ' : Fr} (h : ∀ t ∈ lookB all o, σ' t = σ t) : ∀ x ∈ o.op.operands, sv σ' x = sv σ x := fun x hx => by
  cases x with
  | tmp t => exact h t (List.mem_append_left _ (List.mem_filterMap.2 ⟨.tmp t, by simpa using hx, rfl⟩))
  | _ => rfl
theorem look_want {o : Oper} {σ σ' : Fr} (h : ∀ t ∈ lookB all o, σ' t = σ t) : wantS all o σ' = wantS all o σ := by
  unfold wantS
  cases hg : o.guard with
  | none => rfl
  | some p =>
    obtain ⟨j, want⟩ := p
    simp only
    cases hd : (all[j]?).bind (·.dst) with
    | none => rfl
    | some d =>
      simp only
      rw [h d (List.mem_append_right _ (by simp [hg, hd]))]

/-- a plain operation: its condition and its value -/
theorem gop1_det {o : Oper} {σ : Fr} {go : Bool} {L : Hpl} {nx : Nat} (hB : pB o σ L nx = true) : ∃ (C : Prop) (r : SV), ∀ σ', (∀ t ∈ lookB all o, σ' t = σ t) → ∀ L' nx', (isLd o = true → BoxKeep L nx L') → ∀ K, gop1 P tt n o go σ' L' nx' K ↔ C ∧ K (updO σ' o.dst r) L' nx' := by
  cases go with
  | false => exact ⟨∀ k, o.dst = some k → k < n, .val undef, fun σ' _ L' nx' _ K => by unfold gop1; rw [if_neg (by simp), putS_iff]⟩
  | true =>
    obtain ⟨pr, hpr⟩ := pB_plain (P := P) (tt := tt) hB
    obtain ⟨C, r, hd⟩ := PR.det pr
    refine ⟨C ∧ ∀ k, o.dst = some k → k < n, r, fun σ' hσ L' nx' hk K => ?_⟩
    unfold gop1
    rw [if_pos rfl, sop_congr (look_ops hσ), hpr L' nx' hk, hd, putS_iff]
    exact ⟨fun ⟨a, b, c⟩ => ⟨⟨a, b⟩, c⟩, fun ⟨⟨a, b⟩, c⟩ => ⟨a, b, c⟩⟩

/-- an operation that does not look at slot d, and does not write it -/
theorem gop1_upd {o : Oper} {go : Bool} {σ : Fr} {d : Option Tmp} {r0 : SV} {L : Hpl} {nx : Nat} {K : Fr → Hpl → Nat → Prop} (h1 : ∀ k, d = some k → k ∉ lookB all o) (h2 : ∀ k, d = some k → o.dst ≠ some k) :
    gop1 P tt n o go (updO σ d r0) L nx K ↔ gop1 P tt n o go σ L nx fun σ' L' nx' => K (updO σ' d r0) L' nx' := by
  have hl : ∀ t ∈ lookB all o, updO σ d r0 t = σ t := fun t ht => updO_ne fun e => h1 t e ht
  have hp : ∀ (r : SV) (L : Hpl) (nx : Nat), putS n o.dst r (updO σ d r0) (fun σ' => K σ' L nx) ↔ putS n o.dst r σ fun σ' => K (updO σ' d r0) L nx := fun r L nx => by
    rw [putS_iff, putS_iff, updO_comm h2]
  unfold gop1
  split
  · rw [sop_congr (look_ops hl)]
    exact ⟨sop_mono fun r L nx _ _ h => (hp r L nx).1 h, sop_mono fun r L nx _ _ h => (hp r L nx).2 h⟩
  · exact hp _ _ _

/-! ### every order -/
def rdy (all : List Oper) (rem : List Nat) (i : Nat) : Bool :=
  match all[i]? with
  | some o => o.after.toList.all fun e => !Region.binds .any e || !elemB e.on rem
  | none => false
def anyA (P : Program) (tt : List (Nat × TI)) (n : Nat) (all : List Oper) : Nat → List Nat → Fr → Hpl → Nat → (Fr → Hpl → Nat → Prop) → Prop
  | 0, rem, σ, L, nx, K => rem = [] ∧ K σ L nx
  | f + 1, rem, σ, L, nx, K => ∀ i o, all[i]? = some o → i ∈ rem → rdy all rem i = true → gop P tt n all o σ L nx fun σ' L' nx' => anyA P tt n all f (rem.erase i) σ' L' nx' K

/-- those that do not wait for each other lie apart -/
def apartB (ld : Bool) (all : List Oper) : Bool :=
  (List.range all.length).all fun i => (List.range all.length).all fun j => Nat.beq i j ||
    match all[i]?, all[j]? with
    | some x, some y => (Oper.apart all.toArray x y && (!ld || (!(isLd x && isSt y) && !(isSt x && isLd y)))) || x.after.toList.any (fun e => Region.binds .any e && Nat.beq e.on j) || y.after.toList.any (fun e => Region.binds .any e && Nat.beq e.on i)
    | _, _ => false
theorem elemB_mem {k : Nat} : ∀ {l : List Nat}, elemB k l = true ↔ k ∈ l
  | [] => by simp [elemB]
  | j :: l => by
    unfold elemB
    cases e : Nat.beq k j
    · have : k ≠ j := fun h => by rw [h, Nat.beq_refl] at e; cases e
      simp [elemB_mem, this]
    · simp [Nat.eq_of_beq_eq_true e]
theorem rdy_wait {rem : List Nat} {i j : Nat} {x : Oper} (hx : all[i]? = some x) (h : rdy all rem i = true) (hj : j ∈ rem) : x.after.toList.any (fun e => Region.binds .any e && Nat.beq e.on j) = false := by
  rw [Bool.eq_false_iff]
  intro ha
  obtain ⟨e, he, h2⟩ := List.any_eq_true.1 ha
  simp only [Bool.and_eq_true] at h2
  unfold rdy at h
  rw [hx] at h
  have := List.all_eq_true.1 h e he
  rw [h2.1, Nat.eq_of_beq_eq_true h2.2, elemB_mem.2 hj] at this
  cases this
theorem rdy_mono {rem : List Nat} {i j : Nat} (h : rdy all rem i = true) : rdy all (rem.erase j) i = true := by
  unfold rdy at h ⊢
  split at h
  · refine List.all_eq_true.2 fun e he => ?_
    have := List.all_eq_true.1 h e he
    simp only [Bool.or_eq_true, Bool.not_eq_true'] at this ⊢
    refine this.imp id fun h1 => ?_
    rw [Bool.eq_false_iff] at h1 ⊢
    exact fun h2 => h1 (elemB_mem.2 (List.mem_of_mem_erase (elemB_mem.1 h2)))
  · cases h

theorem anyA_take {ld : Bool} (hap : apartB ld all = true) : ∀ (f : Nat) (rem : List Nat) (σ : Fr) (L : Hpl) (nx : Nat) (K : Fr → Hpl → Nat → Prop) (p : Nat) (op : Oper), rem.length = f + 1 → rem.Nodup → all[p]? = some op → p ∈ rem → rdy all rem p = true → pB op σ L nx = true → (ld = true ∨ isLd op = false) →
    gop P tt n all op σ L nx (fun σ' L' nx' => anyA P tt n all f (rem.erase p) σ' L' nx' K) → anyA P tt n all (f + 1) rem σ L nx K := by
  intro f
  induction f with
  | zero =>
    intro rem σ L nx K p op hlen hnd hp hpm hr hB hld h i o ho hi hri
    match rem, hlen, hpm, hi with
    | [q], _, hpm, hi =>
      simp at hpm hi
      subst hpm
      subst hi
      obtain rfl : o = op := Option.some.inj (ho.symm.trans hp)
      exact h
  | succ f ih =>
    intro rem σ L nx K p op hlen hnd hp hpm hr hB hld h i o ho hi hri
    by_cases hip : i = p
    · subst hip
      obtain rfl : o = op := Option.some.inj (ho.symm.trans hp)
      exact h
    · obtain ⟨go, hgo, hg1⟩ := gop_iff.1 h
      obtain ⟨C, r0, hdet⟩ := gop1_det (P := P) (tt := tt) (n := n) (all := all) (go := go) hB
      obtain ⟨hC, hA⟩ := (hdet σ (fun _ _ => rfl) L nx (fun _ => BoxKeep.refl _ _) _).1 hg1
      have hpi : p ≠ i := fun e => hip e.symm
      have himem : i ∈ rem.erase p := (List.mem_erase_of_ne hip).2 hi
      have hpmem : p ∈ rem.erase i := (List.mem_erase_of_ne hpi).2 hpm
      have hlt : ∀ {k : Nat} {x : Oper}, all[k]? = some x → k < all.length := fun h => (List.getElem?_eq_some_iff.1 h).1
      have hapx : Oper.apart all.toArray op o = true ∧ (isLd op = true → isSt o = false) := by
        have h1 := List.all_eq_true.1 (List.all_eq_true.1 hap p (List.mem_range.2 (hlt hp))) i (List.mem_range.2 (hlt ho))
        have hne : Nat.beq p i = false := by rw [Bool.eq_false_iff]; intro hb; exact hpi (Nat.eq_of_beq_eq_true hb)
        simp only [hne, Bool.false_or, hp, ho, rdy_wait hp hr hi, rdy_wait ho hri hpm, Bool.or_false, Bool.and_eq_true] at h1
        refine ⟨h1.1, fun e => ?_⟩
        have h2 := h1.2
        rcases hld with rfl | h3
        · simp only [Bool.not_true, Bool.false_or, Bool.and_eq_true] at h2
          have := h2.1
          rw [e] at this
          simpa using this
        · rw [h3] at e; cases e
      obtain ⟨hapx, hls⟩ := hapx
      obtain ⟨a1, a2, a3⟩ := Oper.apart_spec hapx
      have hI := hA i o ho himem (rdy_mono hri)
      obtain ⟨go2, hgo2, hI1⟩ := gop_iff.1 hI
      have hl2 : ∀ t ∈ lookB all o, updO σ op.dst r0 t = σ t := fun t ht => updO_ne fun e => a1 t e ht
      rw [look_want hl2] at hgo2
      refine gop_iff.2 ⟨go2, hgo2, ?_⟩
      have hI2 := (gop1_upd (all := all) (d := op.dst) (fun k hk => a1 k hk) (fun k hk => a2 k hk)).1 hI1
      refine gop1_mono (fun σ' L' nx' hσ' hbk hnx hK => ?_) hI2
      have hbk' : isLd op = true → BoxKeep L nx L' := fun e => hbk (hls e)
      have hlp : ∀ t ∈ lookB all op, σ' t = σ t := fun t ht => hσ' t fun e => a3 t e ht
      refine ih (rem.erase i) σ' L' nx' K p op (by rw [List.length_erase_of_mem hi, hlen]; rfl) (hnd.erase i) hp hpmem (rdy_mono hr) (pB_congr (look_ops hlp) hbk' hnx hB) hld ?_
      refine gop_iff.2 ⟨go, by rw [look_want hlp]; exact hgo, (hdet σ' hlp L' nx' hbk' _).2 ⟨hC, ?_⟩⟩
      rwa [List.erase_comm] at hK

/-- the first plain operation that may come up -/
def pick1 (ld : Bool) (all : List Oper) (σ : Fr) (L : Hpl) (nx : Nat) (rem : List Nat) : List Nat → Option (Nat × Oper)
  | [] => none
  | i :: l => match all[i]? with
    | some o => bif rdy all rem i && pB o σ L nx && (ld || !isLd o) then some (i, o) else pick1 ld all σ L nx rem l
    | none => pick1 ld all σ L nx rem l
def andL (all : List Oper) (rem : List Nat) (p : Nat → Oper → Prop) : List Nat → Prop
  | [] => True
  | i :: l => match all[i]? with
    | some o => bif rdy all rem i then p i o ∧ andL all rem p l else andL all rem p l
    | none => andL all rem p l
def anyS (P : Program) (tt : List (Nat × TI)) (n : Nat) (ld : Bool) (all : List Oper) : Nat → List Nat → Fr → Hpl → Nat → (Fr → Hpl → Nat → Prop) → Prop
  | 0, rem, σ, L, nx, K => match rem with | [] => K σ L nx | _ :: _ => False
  | f + 1, rem, σ, L, nx, K => match pick1 ld all σ L nx rem rem with
    | some (i, o) => gop P tt n all o σ L nx fun σ' L' nx' => anyS P tt n ld all f (rem.erase i) σ' L' nx' K
    | none => andL all rem (fun i o => gop P tt n all o σ L nx fun σ' L' nx' => anyS P tt n ld all f (rem.erase i) σ' L' nx' K) rem

theorem pick1_spec {ld : Bool} {σ : Fr} {L : Hpl} {nx : Nat} {rem : List Nat} {i : Nat} {o : Oper} : ∀ {l : List Nat}, pick1 ld all σ L nx rem l = some (i, o) → i ∈ l ∧ all[i]? = some o ∧ rdy all rem i = true ∧ pB o σ L nx = true ∧ (ld = true ∨ isLd o = false)
  | [], h => by cases h
  | j :: l, h => by
    unfold pick1 at h
    split at h
    · rename_i x hx
      cases hc : (rdy all rem j && pB x σ L nx && (ld || !isLd x)) <;> rw [hc] at h
      · have := pick1_spec (l := l) h
        exact ⟨List.mem_cons_of_mem _ this.1, this.2⟩
      · rw [cond_true] at h
        injection h with h
        injection h with h1 h2
        subst h1
        subst h2
        simp only [Bool.and_eq_true] at hc
        refine ⟨by simp, hx, hc.1.1, hc.1.2, ?_⟩
        have h3 := hc.2
        rw [Bool.or_eq_true, Bool.not_eq_true'] at h3
        exact h3
    · have := pick1_spec (l := l) h
      exact ⟨List.mem_cons_of_mem _ this.1, this.2⟩
theorem andL_get {rem : List Nat} {p : Nat → Oper → Prop} {i : Nat} {o : Oper} (ho : all[i]? = some o) (hr : rdy all rem i = true) : ∀ {l : List Nat}, andL all rem p l → i ∈ l → p i o
  | j :: l, h, hi => by
    unfold andL at h
    by_cases hij : i = j
    · subst hij
      rw [ho] at h
      simp only [hr, cond_true] at h
      exact h.1
    · have hi' : i ∈ l := by simpa [hij] using hi
      split at h
      · cases hc : rdy all rem j <;> rw [hc] at h
        · exact andL_get ho hr h hi'
        · exact andL_get ho hr h.2 hi'
      · exact andL_get ho hr h hi'
theorem gop_mono {o : Oper} {σ : Fr} {L : Hpl} {nx : Nat} {K K' : Fr → Hpl → Nat → Prop} (hk : ∀ σ L nx, K σ L nx → K' σ L nx) (h : gop P tt n all o σ L nx K) : gop P tt n all o σ L nx K' := by
  obtain ⟨go, h1, h2⟩ := gop_iff.1 h
  exact gop_iff.2 ⟨go, h1, gop1_mono (fun σ' L nx _ _ _ h => hk σ' L nx h) h2⟩

theorem anyA_of_anyS {ld : Bool} (hap : apartB ld all = true) : ∀ (f : Nat) (rem : List Nat) (σ : Fr) (L : Hpl) (nx : Nat) (K : Fr → Hpl → Nat → Prop), rem.length = f → rem.Nodup → anyS P tt n ld all f rem σ L nx K → anyA P tt n all f rem σ L nx K
  | 0, rem, σ, L, nx, K, hl, _, h => by
    match rem, hl with
    | [], _ => exact ⟨rfl, h⟩
  | f + 1, rem, σ, L, nx, K, hl, hnd, h => by
    unfold anyS at h
    split at h
    · rename_i i o hp
      obtain ⟨hi, ho, hr, hB, hld⟩ := pick1_spec hp
      refine anyA_take hap f rem σ L nx K i o hl hnd ho hi hr hB hld (gop_mono (fun σ' L' nx' h => ?_) h)
      exact anyA_of_anyS hap f _ σ' L' nx' K (by rw [List.length_erase_of_mem hi, hl]; rfl) (hnd.erase i) h
    · intro i o ho hi hr
      refine gop_mono (fun σ' L' nx' h => ?_) (andL_get ho hr h hi)
      exact anyA_of_anyS hap f _ σ' L' nx' K (by rw [List.length_erase_of_mem hi, hl]; rfl) (hnd.erase i) h

def lowB (all : List Oper) : Bool := (List.range all.length).all fun i => match all[i]? with | some o => o.after.toList.all fun e => !Region.binds .any e || Nat.blt e.on i | none => true
def drawB (ld : Bool) (all : List Oper) : Bool := apartB ld all && lowB all

theorem wpAny_of_anyA {ds : List Deferred} (htt : TTok P tt) (hlow : lowB all = true) {Kn : Act → World → Prop} : ∀ (f : Nat) (rem : List Nat) (listed : Array Bool) (σ : Fr) (L : Hpl) (nx : Nat) (K : Fr → Hpl → Nat → Prop) (a : Act) (w : World) (F : Nat → Prop), rem.length = f → rem.Nodup → (∀ i ∈ rem, i < all.length) → listed.size = all.length →
    (∀ i, i < all.length → (listed.getD i false = true ↔ i ∉ rem)) → anyA P tt n all f rem σ L nx K → Sat n ds ⟨σ, L, nx⟩ F a w →
    (∀ σ' L' nx' a' w' F', K σ' L' nx' → Sat n ds ⟨σ', L', nx'⟩ F' a' w' → Keep F w w' → (∀ b, F b → F' b) → Kn a' w') → AnyRun P .any all.toArray Kn f listed a w := by
  intro f
  have hrd : ∀ (rem : List Nat) (listed : Array Bool), (∀ i ∈ rem, i < all.length) → listed.size = all.length → (∀ i, i < all.length → (listed.getD i false = true ↔ i ∉ rem)) → ∀ i, i ∈ Region.ready .any all.toArray listed → i ∈ rem ∧ rdy all rem i = true ∧ ∃ o, all[i]? = some o := by
    intro rem listed hrem hsz hl i hi
    obtain ⟨hun, o, ho, hall⟩ := mem_ready.1 hi
    have ho' : all[i]? = some o := by simpa using ho
    have hlt := (List.getElem?_eq_some_iff.1 ho').1
    have hun' := getD_both hun
    refine ⟨?_, ?_, o, ho'⟩
    · by_cases h : i ∈ rem
      · exact h
      · have := (hl i hlt).2 h
        rw [hun'] at this
        cases this
    · unfold rdy
      rw [ho']
      refine List.all_eq_true.2 fun e he => ?_
      simp only [Bool.or_eq_true, Bool.not_eq_true']
      by_cases hb : Region.binds .any e = true
      · refine .inr ?_
        rw [Bool.eq_false_iff]
        intro h
        have h1 := hall e (by simpa using he) hb
        have hmem := elemB_mem.1 h
        exact ((hl e.on (hrem _ hmem)).1 h1) hmem
      · exact .inl (by simpa using hb)
  induction f with
  | zero =>
    intro rem listed σ L nx K a w F hlen hnd hrem hsz hl h hs hq
    refine ⟨?_, hq σ L nx a w F h.2 hs (Keep.refl _ _) fun _ h => h⟩
    rw [List.eq_nil_iff_forall_not_mem]
    intro i hi
    have := (hrd rem listed hrem hsz hl i hi).1
    rw [h.1] at this
    cases this
  | succ f ih =>
    intro rem listed σ L nx K a w F hlen hnd hrem hsz hl h hs hq
    refine ⟨fun h0 => ?_, fun i hi => ?_⟩
    · -- the least of those that are left may come up
      exfalso
      have hne : rem ≠ [] := by intro e; rw [e] at hlen; cases hlen
      obtain ⟨m, hm, hmin⟩ : ∃ m, m ∈ rem ∧ ∀ k ∈ rem, m ≤ k := by
        clear hlen hnd hrem hl h
        induction rem with
        | nil => exact absurd rfl hne
        | cons x l ihl =>
          by_cases hl0 : l = []
          · subst hl0; exact ⟨x, by simp, by simp⟩
          · obtain ⟨m, hm, hmin⟩ := ihl hl0
            by_cases hxm : x ≤ m
            · exact ⟨x, by simp, fun k hk => by
                rcases List.mem_cons.1 hk with rfl | hk
                · exact Nat.le_refl _
                · exact Nat.le_trans hxm (hmin k hk)⟩
            · exact ⟨m, List.mem_cons_of_mem _ hm, fun k hk => by
                rcases List.mem_cons.1 hk with rfl | hk
                · omega
                · exact hmin k hk⟩
      have hlt := hrem m hm
      have ho : all[m]? = some all[m] := List.getElem?_eq_getElem hlt
      have hun : listed.getD m false = false := by
        rw [Bool.eq_false_iff]; intro h1; exact (hl m hlt).1 h1 hm
      have : m ∈ Region.ready .any all.toArray listed := by
        refine mem_ready.2 ⟨getD_in (by omega) hun, all[m], by simpa using ho, fun e he hb => ?_⟩
        have h1 := List.all_eq_true.1 hlow m (List.mem_range.2 hlt)
        rw [ho] at h1
        have h2 := List.all_eq_true.1 h1 e (by simpa using he)
        simp only [hb, Bool.not_true, Bool.false_or] at h2
        have h3 : e.on < m := Nat.le_of_ble_eq_true h2
        exact (hl e.on (by omega)).2 fun h4 => by have := hmin e.on h4; omega
      rw [h0] at this
      cases this
    · obtain ⟨hir, hrdy, o, ho⟩ := hrd rem listed hrem hsz hl i hi
      have hstep := h i o ho hir hrdy
      have hlt := hrem i hir
      have := gop_wp (next := AnyRun P .any all.toArray Kn f (listed.setIfInBounds i true)) htt all hstep hs fun σ' L' nx' a' w' F' hk hs' hkeep hF =>
        ih (rem.erase i) (listed.setIfInBounds i true) σ' L' nx' K a' w' F' (by rw [List.length_erase_of_mem hir, hlen]; rfl) (hnd.erase i) (fun k hk => hrem k (List.mem_of_mem_erase hk)) (by simpa using hsz) (fun k hk => by
          by_cases e : i = k
          · subst e
            simp only [show (listed.setIfInBounds i true).getD i false = true by simp [hsz, hlt], true_iff]
            exact hnd.not_mem_erase
          · rw [getD_set_ne false e, hl k hk, List.mem_erase_of_ne (fun h => e h.symm)]) hk hs' fun σ2 L2 nx2 a2 w2 F2 q1 q2 q3 q4 => hq σ2 L2 nx2 a2 w2 F2 q1 q2 (hkeep.trans q3 hF) fun b hb => q4 b (hF b hb)
      exact ⟨o, by simpa using ho, this⟩

/-- A REGION THAT DRAWS -/
theorem HT.drawnA {ld : Bool} (htt : TTok P tt) (hm : P.follows .mixedOrders = true) {id : Nat} {l : List Oper} {Q : Exit → St → Prop} {s : St} (hB : drawB ld l = true) (h : anyS P tt n ld l l.length (List.range l.length) s.σ s.L s.nx fun σ L nx => Q .normal ⟨σ, L, nx⟩) : HT P n (.region id l.toArray true) Q s :=
  ⟨fun ro ds a w F hs => by
    simp only [drawB, Bool.and_eq_true] at hB
    refine wpIn_anyrun hm ?_
    have hs' : Sat n ds ⟨s.σ, s.L, s.nx⟩ F a w.drew := ⟨hs.size, hs.defers, fun k => Has.keep (w := w) (w' := w.drew) (fun _ _ => rfl) (hs.fr k), hs.heap.drew⟩
    have hA := anyA_of_anyS hB.1 l.length (List.range l.length) s.σ s.L s.nx _ (by simp) List.nodup_range h
    have := wpAny_of_anyA htt hB.2 l.length (List.range l.length) (Array.replicate l.toArray.size false) s.σ s.L s.nx _ a w.drew F (by simp) List.nodup_range (fun i hi => List.mem_range.1 hi) (by simp) (fun i hi => by rw [getD_replicate_false]; simp [hi]) hA hs'
      (Kn := fun a' w' => ∃ s' F', Q .normal s' ∧ Sat n ds s' F' a' w' ∧ Keep F w w' ∧ ∀ b, F b → F' b) fun σ' L' nx' a' w' F' hk hs2 hkeep hF => ⟨⟨σ', L', nx'⟩, F', hk, hs2, ⟨hkeep.os, hkeep.tape, hkeep.output, hkeep.size, hkeep.blk, Nat.le_trans (Nat.le_succ _) hkeep.drawn⟩, hF⟩
    simpa using this⟩
theorem HT.drawn (htt : TTok P tt) (hm : P.follows .mixedOrders = true) {id : Nat} {l : List Oper} {Q : Exit → St → Prop} {s : St} (hB : drawB true l = true) (h : anyS P tt n true l l.length (List.range l.length) s.σ s.L s.nx fun σ L nx => Q .normal ⟨σ, L, nx⟩) : HT P n (.region id l.toArray true) Q s := HT.drawnA htt hm hB h
/-- with loads in every order -/
theorem HT.drawnL (htt : TTok P tt) (hm : P.follows .mixedOrders = true) {id : Nat} {l : List Oper} {Q : Exit → St → Prop} {s : St} (hB : drawB false l = true) (h : anyS P tt n false l l.length (List.range l.length) s.σ s.L s.nx fun σ L nx => Q .normal ⟨σ, L, nx⟩) : HT P n (.region id l.toArray true) Q s := HT.drawnA htt hm hB h

end
end Go.Proofs.YtcagfmbboliohaaDoor
