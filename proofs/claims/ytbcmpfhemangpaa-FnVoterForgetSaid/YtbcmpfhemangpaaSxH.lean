/- Triples of code over symbolic states; functions; the forms of contracts. -/
import Derived.Test.YtbcmpfhemangpaaSxG
import Derived.Deep.LoopGhost
set_option linter.all false


namespace Go.Proofs.Ytbcmpfhemangpaa

structure St where
  σ : Fr
  L : Hpl
  nx : Nat

structure Sat (n : Nat) (s : St) (F : Nat → Prop) (a : Act) (w : World) : Prop where
  size : a.tmps.size = n
  defers : a.defers = []
  fr : FrHas w F s.σ a
  heap : HSat w F (s.L.map Prod.snd)

/-- code, from a symbolic state -/
structure HT (P : Program) (n : Nat) (c : Code) (Q : Exit → St → Prop) (s : St) : Prop where
  h : ∀ a w F, Sat n s F a w → c.wp P (fun e a' w' => ∃ s' F', Q e s' ∧ Sat n s' F' a' w' ∧ Keep F w w' ∧ ∀ b, F b → F' b) a w

def upd (σ : Fr) (d : Nat) (v : SV) : Fr := fun k => bif Nat.beq k d then v else σ k
def putS (n : Nat) (d : Option Tmp) (v : SV) (σ : Fr) (K : Fr → Prop) : Prop :=
  match d with
  | none => K σ
  | some d => bif Nat.blt d n then fc v fun v => K (upd σ d v) else False

/-- one operation, under its guard; all: the whole region -/
def gop (P : Program) (tt : List (Nat × TI)) (n : Nat) (all : List Oper) (o : Oper) (σ : Fr) (L : Hpl) (nx : Nat) (K : Fr → Hpl → Nat → Prop) : Prop :=
  match o.guard with
  | none => sop P tt o σ L nx fun r L' nx' => putS n o.dst r σ fun σ' => K σ' L' nx'
  | some (j, want) =>
    match (all[j]?).bind (·.dst) with
    | none => False
    | some d => match σ d with
      | .val (.bool β) => Br β
          (bif want then sop P tt o (upd σ d (.val (.bool true))) L nx fun r L' nx' => putS n o.dst r (upd σ d (.val (.bool true))) fun σ' => K σ' L' nx'
           else putS n o.dst (.val undef) (upd σ d (.val (.bool true))) fun σ' => K σ' L nx)
          (bif want then putS n o.dst (.val undef) (upd σ d (.val (.bool false))) fun σ' => K σ' L nx
           else sop P tt o (upd σ d (.val (.bool false))) L nx fun r L' nx' => putS n o.dst r (upd σ d (.val (.bool false))) fun σ' => K σ' L' nx')
      | .val (.tuple _) => putS n o.dst (.val undef) σ fun σ' => K σ' L nx
      | _ => False
/-- a list of operations, one behind the other -/
def sops (P : Program) (tt : List (Nat × TI)) (n : Nat) (all : List Oper) : List Oper → Fr → Hpl → Nat → (Fr → Hpl → Nat → Prop) → Prop
  | [], σ, L, nx, K => K σ L nx
  | o :: rest, σ, L, nx, K => gop P tt n all o σ L nx fun σ' L' nx' => sops P tt n all rest σ' L' nx' K

section
variable {P : Program} {tt : List (Nat × TI)} {n : Nat} {s : St} {Q : Exit → St → Prop}

theorem put_has {w : World} {F : Nat → Prop} {σ : Fr} {a : Act} {r : SV} {v : Value} {d : Nat} (hd : d < a.tmps.size) (h : FrHas w F σ a) (hv : Has w F r v) : FrHas w F (upd σ d r) (a.put (some d) v) := fun k => by
  unfold upd
  simp only [Act.put]
  by_cases e : k = d
  · subst e
    rw [Nat.beq_refl, cond_true]
    simpa [Array.getD, hd] using hv
  · have e1 : Nat.beq k d = false := by rw [Bool.eq_false_iff]; intro hb; exact e (Nat.eq_of_beq_eq_true hb)
    rw [e1, cond_false, Array.getD_eq_getD_getElem?, Array.getElem?_setIfInBounds_ne (fun e' => e e'.symm), ← Array.getD_eq_getD_getElem?]
    exact h k
theorem upd_has {w : World} {F : Nat → Prop} {σ : Fr} {a : Act} {d : Nat} {r : SV} (h : FrHas w F σ a) (hr : Has w F r (a.tmps.getD d undef)) : FrHas w F (upd σ d r) a := fun k => by
  unfold upd
  cases e : Nat.beq k d
  · exact h k
  · have := Nat.eq_of_beq_eq_true e
    subst this
    exact hr
theorem FrHas.go {w w' : World} {F F' : Nat → Prop} {σ : Fr} {a : Act} (h : FrHas w F σ a) (hk : Keep F w w') (hF : ∀ b, F b → F' b) : FrHas w' F' σ a := fun k => (hk.has (h k)).mono hF

theorem putS_sat {d : Option Tmp} {r : SV} {σ : Fr} {K : Fr → Prop} (h : putS n d r σ K) {w : World} {F : Nat → Prop} {a : Act} {v : Value} (hz : a.tmps.size = n) (hf : FrHas w F σ a) (hv : Has w F r v) :
    ∃ σ', K σ' ∧ (a.put d v).tmps.size = n ∧ (a.put d v).defers = a.defers ∧ FrHas w F σ' (a.put d v) := by
  unfold putS at h
  cases d with
  | none => exact ⟨σ, h, hz, rfl, hf⟩
  | some d =>
    simp only at h
    cases e : Nat.blt d n
    · rw [e] at h; exact h.elim
    · rw [e, cond_true] at h
      have hd : d < n := Nat.le_of_ble_eq_true e
      rw [fc_eq] at h
      exact ⟨_, h, by simp [Act.put, hz], rfl, put_has (hz.symm ▸ hd) hf hv⟩

theorem gop_wp (htt : TTok P tt) (all : List Oper) {o : Oper} {σ : Fr} {L : Hpl} {nx : Nat} {K : Fr → Hpl → Nat → Prop} {a : Act} {w : World} {F : Nat → Prop} (h : gop P tt n all o σ L nx K) (hs : Sat n ⟨σ, L, nx⟩ F a w) {next : Act → World → Prop} {Q' : Exit → Act → World → Prop}
    (hq : ∀ σ' L' nx' a' w' F', K σ' L' nx' → Sat n ⟨σ', L', nx'⟩ F' a' w' → Keep F w w' → (∀ b, F b → F' b) → next a' w') : if Region.wanted o (yielded all.toArray a.tmps) = true then o.wp P a w next Q' else next (a.put o.dst undef) w := by
  have skip : ∀ (σ1 : Fr), FrHas w F σ1 a → putS n o.dst (.val undef) σ1 (fun σ' => K σ' L nx) → Region.wanted o (yielded all.toArray a.tmps) = false → if Region.wanted o (yielded all.toArray a.tmps) = true then o.wp P a w next Q' else next (a.put o.dst undef) w := fun σ1 h1 h2 h3 => by
    rw [if_neg (by rw [h3]; simp)]
    obtain ⟨σ', hk, hz, hd, hf⟩ := putS_sat h2 hs.size h1 (v := undef) rfl
    exact hq σ' L nx _ w F hk ⟨hz, hd.trans hs.defers, hf, hs.heap⟩ (Keep.refl _ _) fun _ h => h
  have run : ∀ (σ1 : Fr), FrHas w F σ1 a → sop P tt o σ1 L nx (fun r L' nx' => putS n o.dst r σ1 fun σ' => K σ' L' nx') → Region.wanted o (yielded all.toArray a.tmps) = true → if Region.wanted o (yielded all.toArray a.tmps) = true then o.wp P a w next Q' else next (a.put o.dst undef) w := fun σ1 h1 h2 h3 => by
    rw [if_pos h3]
    refine (sop_sound h2 htt hs.heap h1).wp ?_
    rintro v w' ⟨r, L', nx', F', hk, hkeep, hF, hh, hv⟩
    obtain ⟨σ', hk, hz, hd, hf⟩ := putS_sat hk hs.size (h1.go hkeep hF) hv
    exact hq σ' L' nx' _ w' F' hk ⟨hz, hd.trans hs.defers, hf, hh⟩ hkeep hF
  unfold gop at h
  split at h
  · rename_i hg
    exact run σ hs.fr h (by simp [Region.wanted, hg])
  · rename_i j want hg
    split at h
    · exact h.elim
    · rename_i d hd
      split at h
      · rename_i β hβ
        have hdv : Has w F (σ d) (a.tmps.getD d undef) := hs.fr d
        rw [hβ] at hdv
        simp only [Has] at hdv
        have hlt : d < a.tmps.size := by
          rcases Nat.lt_or_ge d a.tmps.size with h' | h'
          · exact h'
          · have : a.tmps.getD d undef = undef := by simp [Array.getD, Nat.not_lt.2 h']
            rw [this] at hdv
            cases hdv
        have hget : a.tmps[d]? = some (.bool β) := by
          rw [Array.getElem?_eq_getElem hlt]
          rw [← hdv]
          simp [Array.getD, hlt]
        have hy : yielded all.toArray a.tmps j = some β := by
          unfold yielded
          simp only [List.getElem?_toArray, hd, Option.bind_some, hget]
        have hw : Region.wanted o (yielded all.toArray a.tmps) = (β == want) := by
          simp only [Region.wanted, hg, hy]
          cases β <;> cases want <;> rfl
        have hf : FrHas w F (upd σ d (.val (.bool β))) a := upd_has hs.fr hdv
        cases β
        all_goals first | replace h := h.t rfl | replace h := h.f rfl
        all_goals cases want <;> simp only [cond_true, cond_false] at h
        · exact run _ hf h (by rw [hw]; rfl)
        · exact skip _ hf h (by rw [hw]; rfl)
        · exact skip _ hf h (by rw [hw]; rfl)
        · exact run _ hf h (by rw [hw]; rfl)
      · rename_i vs hβ
        have hdv : Has w F (σ d) (a.tmps.getD d undef) := hs.fr d
        rw [hβ] at hdv
        simp only [Has] at hdv
        refine skip σ hs.fr h ?_
        have hy : yielded all.toArray a.tmps j = none := by
          unfold yielded
          simp only [List.getElem?_toArray, hd, Option.bind_some]
          rcases Nat.lt_or_ge d a.tmps.size with h' | h'
          · have : a.tmps[d]? = some (.tuple vs) := by
              rw [Array.getElem?_eq_getElem h', ← hdv]
              simp [Array.getD, h']
            rw [this]
          · rw [Array.getElem?_eq_none h']
        simp only [Region.wanted, hg, hy]
        rfl
      · exact h.elim

theorem sops_sound (htt : TTok P tt) (all : List Oper) {Q' : Exit → Act → World → Prop} : ∀ (rest : List Oper) (σ : Fr) (L : Hpl) (nx : Nat) (K : Fr → Hpl → Nat → Prop) (a : Act) (w : World) (F : Nat → Prop), sops P tt n all rest σ L nx K → Sat n ⟨σ, L, nx⟩ F a w →
    (∀ σ' L' nx' a' w' F', K σ' L' nx' → Sat n ⟨σ', L', nx'⟩ F' a' w' → Keep F w w' → (∀ b, F b → F' b) → Q' .normal a' w') → wpList P all.toArray Q' rest a w
  | [], σ, L, nx, K, a, w, F, h, hs, hq => wpList_nil (hq σ L nx a w F h hs (Keep.refl _ _) fun _ h => h)
  | o :: rest, σ, L, nx, K, a, w, F, h, hs, hq => by
    have := gop_wp (next := wpList P all.toArray Q' rest) (Q' := Q') htt all h hs fun σ' L' nx' a' w' F' hk hs' hkeep hF => sops_sound htt all rest σ' L' nx' K a' w' F' hk hs' fun σ2 L2 nx2 a2 w2 F2 q1 q2 q3 q4 => hq σ2 L2 nx2 a2 w2 F2 q1 q2 (hkeep.trans q3 hF) fun b hb => q4 b (hF b hb)
    unfold wpList
    by_cases hw : Region.wanted o (yielded all.toArray a.tmps) = true
    · rw [if_pos hw] at this ⊢
      exact .inl this
    · rw [if_neg hw] at this ⊢
      exact this

theorem HT.region (htt : TTok P tt) {id : Nat} {l : List Oper} (h : sops P tt n l l s.σ s.L s.nx fun σ L nx => Q .normal ⟨σ, L, nx⟩) : HT P n (.region id l.toArray false) Q s :=
  ⟨fun a w F hs => wp_region_lit (sops_sound htt l l s.σ s.L s.nx _ a w F h hs fun σ' L' nx' a' w' F' hk hs' hkeep hF => ⟨⟨σ', L', nx'⟩, F', hk, hs', hkeep, hF⟩)⟩

def Qseq (P : Program) (n : Nat) (c : Code) (Q : Exit → St → Prop) : Exit → St → Prop
  | .normal, s => HT P n c Q s
  | e, s => Q e s
theorem HT.seq {x y : Code} (h : HT P n x (Qseq P n y Q) s) : HT P n (.seq x y) Q s :=
  ⟨fun a w F hs => wp_seq (Code.wp_mono (fun e a' w' hq => by
    obtain ⟨s', F', hq, hs', hk, hF⟩ := hq
    cases e
    case normal =>
      refine Code.wp_mono (fun e a2 w2 hq2 => ?_) (hq.h a' w' F' hs')
      obtain ⟨s2, F2, q1, q2, q3, q4⟩ := hq2
      exact ⟨s2, F2, q1, q2, hk.trans q3 hF, fun b hb => q4 b (hF b hb)⟩
    all_goals exact ⟨s', F', hq, hs', hk, hF⟩) (h.h a w F hs))⟩
def sCond (c : SV) (X Y : Prop) : Prop :=
  match c with
  | .val (.bool β) => Br β X Y
  | _ => False
theorem HT.cond {c : Operand} {x y : Code} (h : sCond (sv s.σ c) (HT P n x Q s) (HT P n y Q s)) : HT P n (.cond c x y) Q s :=
  ⟨fun a w F hs => by
    unfold sCond at h
    split at h
    · rename_i β hβ
      have hc := sv_has hs.fr c
      rw [hβ] at hc
      cases β
      · exact wp_cond_false hc ((h.f rfl).h a w F hs)
      · exact wp_cond_true hc ((h.t rfl).h a w F hs)
    · exact h.elim⟩
def Qblk (id : Nat) (Q : Exit → St → Prop) : Exit → St → Prop
  | .exit id', s => bif Nat.beq id' id then Q .normal s else Q (.exit id') s
  | e, s => Q e s
theorem HT.block {id : Nat} {c : Code} (h : HT P n c (Qblk id Q) s) : HT P n (.block id c) Q s :=
  ⟨fun a w F hs => wp_block (Code.wp_mono (fun e a' w' hq => by
    obtain ⟨s', F', hq, rest⟩ := hq
    cases e
    case exit id' =>
      simp only [Qblk] at hq
      simp only [Exit.inBlock]
      by_cases e : id' = id
      · subst e
        rw [if_pos rfl]
        rw [Nat.beq_refl, cond_true] at hq
        exact ⟨s', F', hq, rest⟩
      · rw [if_neg e]
        have e1 : Nat.beq id' id = false := by rw [Bool.eq_false_iff]; intro hb; exact e (Nat.eq_of_beq_eq_true hb)
        rw [e1, cond_false] at hq
        exact ⟨s', F', hq, rest⟩
    all_goals exact ⟨s', F', hq, rest⟩) (h.h a w F hs))⟩
theorem HT.skip (h : Q .normal s) : HT P n .skip Q s := ⟨fun a w F hs => wp_skip ⟨s, F, h, hs, Keep.refl _ _, fun _ h => h⟩⟩
theorem HT.exit {id : Nat} (h : Q (.exit id) s) : HT P n (.exit id) Q s := ⟨fun a w F hs => wp_exit ⟨s, F, h, hs, Keep.refl _ _, fun _ h => h⟩⟩
theorem HT.ret (h : Q .ret s) : HT P n .ret Q s := ⟨fun a w F hs => wp_ret ⟨s, F, h, hs, Keep.refl _ _, fun _ h => h⟩⟩
theorem HT.mono {c : Code} {Q' : Exit → St → Prop} (h : HT P n c Q s) (hq : ∀ e s, Q e s → Q' e s) : HT P n c Q' s :=
  ⟨fun a w F hs => Code.wp_mono (fun e a' w' ⟨s', F', h1, h2⟩ => ⟨s', F', hq _ _ h1, h2⟩) (h.h a w F hs)⟩

/-- one state told by another -/
def SLe (s s' : St) : Prop := ∀ n F a w, Sat n s F a w → ∃ F', (∀ b, F b → F' b) ∧ Sat n s' F' a w
theorem SLe.refl (s : St) : SLe s s := fun n F a w h => ⟨F, fun _ h => h, h⟩
theorem HT.le {c : Code} {s' : St} (hl : SLe s s') (h : HT P n c Q s') : HT P n c Q s :=
  ⟨fun a w F hs => by
    obtain ⟨F', hF, hs'⟩ := hl n F a w hs
    exact Code.wp_mono (fun e a' w' ⟨s2, F2, q1, q2, q3, q4⟩ => ⟨s2, F2, q1, q2, q3.mono hF, fun b hb => q4 b (hF b hb)⟩) (h.h a w F' hs')⟩

/-- a loop: a family of states, each round comes to one of a lower measure -/
theorem HT.loop {c : Code} {ι : Type} (I : ι → St) (μ : ι → Nat) (i0 : ι) (h0 : SLe s (I i0)) (h : ∀ i, HT P n c (fun e s' => match e with | .normal => ∃ j, SLe s' (I j) ∧ μ j < μ i | e => Q e s') (I i)) : HT P n (.loop c) Q s := by
  refine ⟨fun a w F hs => ?_⟩
  obtain ⟨F0, hF0, hs0⟩ := h0 n F a w hs
  refine wp_loop_ghost (fun m a' w' => ∃ i F', m = μ i ∧ Sat n (I i) F' a' w' ∧ Keep F w w' ∧ ∀ b, F b → F' b) (μ i0) ⟨i0, F0, rfl, hs0, Keep.refl _ _, hF0⟩ ?_
  rintro m a1 w1 ⟨i, F1, rfl, hs1, hk1, hF1⟩
  refine Code.wp_mono (fun e a2 w2 hq => ?_) ((h i).h a1 w1 F1 hs1)
  obtain ⟨s2, F2, q1, q2, q3, q4⟩ := hq
  cases e
  case normal =>
    obtain ⟨j, hle, hlt⟩ := q1
    obtain ⟨F3, hF3, hs3⟩ := hle n F2 a2 w2 q2
    exact ⟨_, hlt, j, F3, rfl, hs3, hk1.trans q3 hF1, fun b hb => hF3 b (q4 b (hF1 b hb))⟩
  all_goals exact ⟨s2, F2, q1, q2, hk1.trans q3 hF1, fun b hb => q4 b (hF1 b hb)⟩
end
end Go.Proofs.Ytbcmpfhemangpaa
