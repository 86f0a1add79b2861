/- Texts of this proof put together: SxG, SxH, SxI. -/
import Derived.Deep.LoopGhost
import Derived.Test.YtcagfmbboliohaaDoorQ01
import Derived.Test.YtcagfmbboliohaaDoorQ02
import Derived.Test.YtcagfmbboliohaaDoorQ03
import Derived.Test.YtcagfmbboliohaaDoorQ04
import Derived.Test.YtcagfmbboliohaaDoorQ05
/-! YtcagfmbboliohaaDoorSxG -/
set_option linter.all false


namespace Go.Proofs.YtcagfmbboliohaaDoor

section
variable {P : Program} {w : World} {F : Nat → Prop} {L : Hpl} {nx : Nat} {K : KK} {tt : List (Nat × TI)} {σ : Fr}

/-- the frame is as told -/
def FrHas (w : World) (F : Nat → Prop) (σ : Fr) (a : Act) : Prop := ∀ k, Has w F (σ k) (a.tmps.getD k undef)

theorem sv_has {a : Act} (h : FrHas w F σ a) : ∀ x, Has w F (sv σ x) (a.eval x)
  | .tmp k => h k
  | .const v => rfl
  | .global g => rfl
  | .func f => rfl

theorem parts_has {a : Act} (h : FrHas w F σ a) : ∀ l : List (Nat × Operand), PartsHas w F (l.map fun p => (p.1, sv σ p.2)) (l.map fun p => (p.1, a.eval p.2))
  | [] => trivial
  | p :: l => ⟨rfl, sv_has h p.2, parts_has h l⟩
theorem args_has {a : Act} (h : FrHas w F σ a) : ∀ l : List Operand, HasL w F (l.map fun x => (sv σ x).bare) (l.map a.eval)
  | [] => trivial
  | x :: l => ⟨(sv_has h x).bare, args_has h l⟩

theorem out_pure {r : SV} {v : Value} (hs : HSat w F (L.map Prod.snd)) (hK : K r L nx) (hv : Has w F r v) : Out w F K v w := Out.same hK hs hv

theorem pop_sound {o : Oper} {a : Act} {K : SV → Prop} (h : (pop tt o σ L).run K) (htt : TTok P tt) (hs : HSat w F (L.map Prod.snd)) (hf : FrHas w F σ a) : StepV P o a.eval w fun v w' => w' = w ∧ ∃ r, K r ∧ Has w F r v := by
  have val : ∀ {s : Sem Value}, (execOp a.eval o = do pure (.value (← s))) → (∃ v r, s.run P w = .ok v w ∧ K r ∧ Has w F r v) → StepV P o a.eval w fun v w' => w' = w ∧ ∃ r, K r ∧ Has w F r v := by
    rintro s he ⟨v, r, hr, hK, hv⟩
    refine StepV.value (v := v) (w' := w) ?_ ⟨rfl, r, hK, hv⟩
    rw [he]; simp [hr]
  have hx := sv_has hf
  unfold pop at h
  split at h
  · rename_i x ho
    exact StepV.value (v := a.eval x) (w' := w) (by unfold execOp; simp [ho]) ⟨rfl, _, h, hx x⟩
  · rename_i x ho
    exact StepV.value (v := a.eval x) (w' := w) (by unfold execOp; simp [ho]) ⟨rfl, _, h, hx x⟩
  · rename_i c p q ho
    unfold pPick at h
    split at h
    · rename_i β hc
      have hcv := hx c
      rw [hc] at hcv
      simp only [Has] at hcv
      obtain ⟨ht, hff⟩ := h
      cases β with
      | true =>
        refine StepV.value (v := a.eval p) (w' := w) ?_ ⟨rfl, _, ht rfl, hx p⟩
        unfold execOp
        simp [ho, hcv, asBool]
      | false =>
        refine StepV.value (v := a.eval q) (w' := w) ?_ ⟨rfl, _, hff rfl, hx q⟩
        unfold execOp
        simp [ho, hcv, asBool]
    · exact False.elim h
  · rename_i t ps ho
    refine val (by unfold execOp; rw [ho]) (s_build h htt.fetch htt ?_)
    have := parts_has hf ps.toList
    simpa using this
  · rename_i t x ho
    exact val (by unfold execOp; rw [ho]) (s_load h htt.fetch hs (hx x))
  · rename_i x ho
    obtain ⟨hK, p, hp⟩ := s_nil h (hx x)
    refine StepV.value (v := a.eval x) (w' := w) ?_ ⟨rfl, _, hK, hx x⟩
    unfold execOp
    simp [ho, hp]
  · rename_i op t x y yt ho
    exact val (by unfold execOp; rw [ho]) (s_binO htt h htt.fetch (hx x) (hx y) (fun c e => by rw [e]; rfl))
  · rename_i op t x ho
    exact val (by unfold execOp; rw [ho]) (s_un h (hx x))
  · rename_i t x k ho
    exact val (by unfold execOp; rw [ho]) (s_field h htt.fetch (hx x))
  · rename_i t x k ho
    exact val (by unfold execOp; rw [ho]) (s_get h htt.fetch htt (hx x))
  · rename_i x k ho
    exact val (by unfold execOp; rw [ho]) (s_extract h (hx x))
  · rename_i t x ho
    exact val (by unfold execOp; rw [ho]) (s_mkI h htt.fetch (hx x))
  · rename_i x xt t ok ho
    exact val (by unfold execOp; rw [ho]) (s_assert h htt.fetch (hx x))
  · rename_i f first caps ho
    unfold pFn at h
    split at h
    · rename_i f hf1
      have e0 : first = #[] := by
        have : first.toList = [] := by simpa using hf1
        rw [← Array.toArray_toList (xs := first), this]
      subst e0
      refine StepV.value (v := .func (.func f) #[] (caps.map a.eval)) (w' := w) ?_ ⟨rfl, _, h, caps.map a.eval, rfl, by simp, fun k hk => ?_⟩
      · unfold execOp
        simp [ho, Instr.makeFunc]
      · have hk : k < caps.size := by simpa using hk
        simpa [litF, Array.getD, List.getD_eq_getElem?_getD, hk] using hx caps[k]
    · exact False.elim h
  · rename_i s d x ho
    exact val (by unfold execOp; rw [ho]) (s_conv h htt.fetch htt.fetch (hx x))
  · rename_i c ho
    split at h
    · rename_i hc
      have hl : HasL w F (c.args.toList.map (sv σ)) (c.args.toList.map a.eval) := by
        induction c.args.toList with
        | nil => trivial
        | cons x l ih => exact ⟨hx x, ih⟩
      refine val (s := Builtin.max_ c.argTypes o.type (c.args.toList.map a.eval).toArray) ?_ (s_max h hl)
      have e : c.args.map a.eval = (c.args.toList.map a.eval).toArray := by apply Array.ext'; simp
      unfold execOp
      simp [ho, resolve, hc, invoke, builtin, e]
    · rename_i hc
      split at h
      · rename_i x t ha ht
        have ea : c.args = #[x] := by rw [← Array.toArray_toList (xs := c.args), ha]
        have et : c.argTypes = #[t] := by rw [← Array.toArray_toList (xs := c.argTypes), ht]
        refine val (s := Builtin.cap_ #[t] o.type #[a.eval x]) ?_ (s_cap h htt.fetch (hx x))
        unfold execOp
        simp [ho, resolve, hc, invoke, builtin, ea, et]
      · exact False.elim h
    · rename_i hc
      split at h
      · rename_i x t ha ht
        have ea : c.args = #[x] := by rw [← Array.toArray_toList (xs := c.args), ha]
        have et : c.argTypes = #[t] := by rw [← Array.toArray_toList (xs := c.argTypes), ht]
        refine val (s := Builtin.len_ #[t] o.type #[a.eval x]) ?_ (s_len h htt.fetch (hx x))
        unfold execOp
        simp [ho, resolve, hc, invoke, builtin, ea, et]
      · exact False.elim h
    · exact False.elim h
  · exact False.elim h

theorem sop_sound {o : Oper} {a : Act} (h : sop P tt o σ L nx K) (htt : TTok P tt) (hs : HSat w F (L.map Prod.snd)) (hf : FrHas w F σ a) : StepV P o a.eval w (Out w F K) := by
  have val : ∀ {s : Sem Value}, (execOp a.eval o = do pure (.value (← s))) → (∃ v r, s.run P w = .ok v w ∧ K r L nx ∧ Has w F r v) → StepV P o a.eval w (Out w F K) := by
    rintro s he ⟨v, r, hr, hK, hv⟩
    refine StepV.value (v := v) (w' := w) ?_ (Out.same hK hs hv)
    rw [he]; simp [hr]
  have valW : ∀ {s : Sem Value}, (execOp a.eval o = do pure (.value (← s))) → (∃ v w', s.run P w = .ok v w' ∧ Out w F K v w') → StepV P o a.eval w (Out w F K) := by
    rintro s he ⟨v, w', hr, hO⟩
    refine StepV.value (v := v) (w' := w') ?_ hO
    rw [he]; simp [hr]
  have hx := sv_has hf
  have plain : (pop tt o σ L).run (fun r => K r L nx) → StepV P o a.eval w (Out w F K) := fun h =>
    (pop_sound h htt hs hf).mono fun v w' h => by
      obtain ⟨rfl, r, hK, hv⟩ := h
      exact Out.same hK hs hv
  have fgn : ∀ {o' : Oper}, o' = o → sFgn P o σ L nx K → StepV P o a.eval w (Out w F K) := fun _ h => by
    unfold sFgn at h
    rw [fcK_eq, fcL_eq] at h
    have hl : HasL w F (o.op.operands.toList.map (sv σ)) (o.op.operands.toList.map a.eval) := by
      induction o.op.operands.toList with
      | nil => trivial
      | cons x l ih => exact ⟨hx x, ih⟩
    exact (h.h w F a.eval hs hl).mono fun v w' ⟨r, L', nx', F', ⟨_, _, hK⟩, q1, q2, q3, q4⟩ => ⟨r, L', nx', F', hK, q1, q2, q3, q4⟩
  unfold sop at h
  split at h
  · rename_i t ho
    exact valW (by unfold execOp; rw [ho]) (s_alloc h htt.fetch hs)
  · rename_i t x ho
    exact valW (by unfold execOp; rw [ho]) (s_box h hs (hx x))
  · rename_i t n ps ho
    refine valW (by unfold execOp; rw [ho]) (s_buildS h htt.fetch hs ?_)
    have := parts_has hf ps.toList
    simpa using this
  · rename_i t p x ho
    obtain ⟨w', L', hr, hK, hk, hs'⟩ := s_store h htt.fetch hs (hx p) (hx x)
    refine StepV.skip (w' := w') ?_ ⟨_, _, _, F, hK, hk, fun _ h => h, hs', rfl⟩
    unfold execOp
    simp [ho, hr]
  · rename_i t x i ho
    exact val (by unfold execOp; rw [ho]) (s_index h htt.fetch hs (hx x) (hx i))
  · rename_i t l c ho
    exact valW (by unfold execOp; rw [ho]) (s_make h htt.fetch hs (hx l) (hx c))
  · rename_i t x lo hi ho
    refine valW (s := Instr.sliceAt t (a.eval x) (lo.map a.eval) (hi.map a.eval) none) (by unfold execOp; rw [ho]; rfl) (s_cut h htt.fetch hs (hx x) ?_ ?_)
    · cases lo with
      | none => exact .inl ⟨rfl, rfl⟩
      | some l => exact .inr ⟨_, _, rfl, rfl, hx l⟩
    · cases hi with
      | none => exact .inl ⟨rfl, rfl⟩
      | some l => exact .inr ⟨_, _, rfl, rfl, hx l⟩
  · rename_i c ho
    split at h
    · rename_i f hc
      rw [fcK_eq, fcL_eq] at h
      obtain ⟨⟨fn, hfn, hnm, hb⟩, hcall⟩ := h.calls
      have hargs := args_has hf c.args.toList
      have := hcall w F _ hs hargs
      refine StepV.enter (w' := w) (f := f) (args := (c.args.toList.map a.eval).toArray) ?_ (this.mono ?_)
      · have e : c.args.map a.eval = (c.args.toList.map a.eval).toArray := by apply Array.ext'; simp
        have e2 : a.eval (.func f) = .func (.func f) #[] #[] := rfl
        unfold execOp
        rw [ho]
        simp only [resolve, hc, e, e2, Deferred.ofValue, Sem.run_bind]
        have h1 : ¬ fn.name = "runtime.NumGoroutine" := by simpa using hnm
        have h2 : ¬ fn.body = none := by intro e; rw [e] at hb; cases hb
        simp [invoke, callFunc, program, Sem.run, hfn, h1, h2]
      · rintro e w' ⟨v, rfl, r, F', H', ⟨L', rfl, hK⟩, hk, hF, hs', hv⟩
        exact ⟨v, rfl, _, _, _, F', hK, hk, hF, hs', hv.lift nx⟩
    · rename_i d hc
      split at h
      · rename_i f n g hd
        rw [fcK_eq, fcL_eq] at h
        obtain ⟨⟨fn, hfn, hnm, hb⟩, hcall⟩ := h.calls
        have hfv := hf d
        rw [hd] at hfv
        obtain ⟨vs, hvs, hvn, hvc⟩ := hfv
        have happ : ∀ {ss ss' : List SV} {us us' : List Value}, HasL w F ss us → HasL w F ss' us' → HasL w F (ss ++ ss') (us ++ us') := by
          intro ss
          induction ss with
          | nil => intro ss' us us' h1 h2; cases us with | nil => exact h2 | cons => exact h1.elim
          | cons s ss ih => intro ss' us us' h1 h2; cases us with | nil => exact h1.elim | cons u us => exact ⟨h1.1, ih h1.2 h2⟩
        have hcap : ∀ (m i : Nat), i + m ≤ n → HasL w F (tabF (fun k => (g k).bare) m i) ((vs.toList.drop i).take m) := by
          intro m
          induction m with
          | zero => intro i _; simp [tabF, HasL]
          | succ m ih =>
            intro i hi
            have hlt : i < vs.toList.length := by simp; omega
            rw [List.drop_eq_getElem_cons hlt, List.take_succ_cons]
            refine ⟨?_, ih (i + 1) (by omega)⟩
            have := (hvc i (by omega)).bare
            simpa [Array.getD, show i < vs.size by omega] using this
        have hc0 := hcap n 0 (by omega)
        rw [List.drop_zero, List.take_of_length_le (by simp; omega)] at hc0
        have hargs := happ (args_has hf c.args.toList) hc0
        have := hcall w F _ hs hargs
        refine StepV.enter (w' := w) (f := f) (args := ((c.args.toList.map a.eval) ++ vs.toList).toArray) ?_ (this.mono ?_)
        · have e : c.args.map a.eval = (c.args.toList.map a.eval).toArray := by apply Array.ext'; simp
          have e2 : a.eval (.tmp d) = .func (.func f) #[] vs := hvs
          unfold execOp
          rw [ho]
          simp only [resolve, hc, e, e2, Deferred.ofValue, Sem.run_bind]
          have h1 : ¬ fn.name = "runtime.NumGoroutine" := by simpa using hnm
          have h2 : ¬ fn.body = none := by intro e; rw [e] at hb; cases hb
          simp [invoke, callFunc, program, Sem.run, hfn, h1, h2]
        · rintro e w' ⟨v, rfl, r, F', H', ⟨L', rfl, hK⟩, hk, hF, hs', hv⟩
          exact ⟨v, rfl, _, _, _, F', hK, hk, hF, hs', hv.lift nx⟩
      · exact fgn rfl h
      · exact h.elim
    · rename_i hc
      split at h
      · rename_i s x t t' ha ht
        have ea : c.args = #[s, x] := by rw [← Array.toArray_toList (xs := c.args), ha]
        have et : c.argTypes = #[t, t'] := by rw [← Array.toArray_toList (xs := c.argTypes), ht]
        cases hb : Nat.beq t t'
        · rw [hb, cond_false] at h
          cases hbo : isOwnV (sv σ s) <;> rw [hbo] at h
          rotate_left
          · exact fgn rfl h
          rw [cond_false] at h
          refine valW (s := Builtin.append_ #[t, t'] o.type #[a.eval s, a.eval x]) ?_ (s_appendZ h htt.fetch htt.fetch hs (hx s) (hx x))
          unfold execOp
          simp [ho, resolve, hc, invoke, builtin, ea, et]
        · rw [hb, cond_true] at h
          have : t = t' := Nat.eq_of_beq_eq_true hb
          subst this
          refine valW (s := Builtin.append_ #[t, t] o.type #[a.eval s, a.eval x]) ?_ (s_append h htt.fetch hs (hx s) (hx x))
          unfold execOp
          simp [ho, resolve, hc, invoke, builtin, ea, et]
      · exact h.elim
    · rename_i hc
      split at h
      · rename_i d s t t' ha ht
        have ea : c.args = #[d, s] := by rw [← Array.toArray_toList (xs := c.args), ha]
        have et : c.argTypes = #[t, t'] := by rw [← Array.toArray_toList (xs := c.argTypes), ht]
        cases hb : Nat.beq t t'
        · rw [hb] at h; exact h.elim
        · rw [hb, cond_true] at h
          have : t = t' := Nat.eq_of_beq_eq_true hb
          subst this
          refine valW (s := Builtin.copy_ #[t, t] o.type #[a.eval d, a.eval s]) ?_ (s_copy h htt.fetch hs (hx d) (hx s))
          unfold execOp
          simp [ho, resolve, hc, invoke, builtin, ea, et]
      · exact h.elim
    · split at h
      · rename_i x hx1
        cases hb : isMapV (sv σ x) <;> rw [hb] at h
        · exact plain h
        · exact fgn rfl h
      · exact plain h
    · exact fgn rfl h
    · exact plain h
  all_goals first
    | exact plain h
    | exact fgn rfl h
    | (rename_i x ho
       cases hb : isOwnV (sv σ x) <;> rw [hb] at h
       · exact plain h
       · exact fgn rfl h)
end
end Go.Proofs.YtcagfmbboliohaaDoor
/-! YtcagfmbboliohaaDoorSxH -/
set_option linter.all false


namespace Go.Proofs.YtcagfmbboliohaaDoor

structure St where
  σ : Fr
  L : Hpl
  nx : Nat

structure Sat (n : Nat) (ds : List Deferred) (s : St) (F : Nat → Prop) (a : Act) (w : World) : Prop where
  size : a.tmps.size = n
  defers : a.defers = ds
  fr : FrHas w F s.σ a
  heap : HSat w F (s.L.map Prod.snd)

/-- code, from a symbolic state -/
structure HT (P : Program) (n : Nat) (c : Code) (Q : Exit → St → Prop) (s : St) : Prop where
  h : ∀ (ro : Option Nat) (ds : List Deferred) a w F, Sat n ds s F a w → c.wpIn (Fw ro) 0 P (fun e a' w' => ∃ s' F', Q e s' ∧ Sat n ds s' F' a' w' ∧ Keep F w w' ∧ ∀ b, F b → F' b) a w

def upd (σ : Fr) (d : Nat) (v : SV) : Fr := fun k => bif Nat.beq k d then v else σ k
def putS (n : Nat) (d : Option Tmp) (v : SV) (σ : Fr) (K : Fr → Prop) : Prop :=
  match d with
  | none => K σ
  | some d => bif Nat.blt d n then fc v fun v => K (upd σ d v) else False

/-- one operation, under its guard; all: the whole region -/
def gop (P : Program) (tt : List (Nat × TI)) (n : Nat) (all : List Oper) (o : Oper) (σ : Fr) (L : Hpl) (nx : Nat) (K : Fr → Hpl → Nat → Prop) : Prop :=
  match o.guard with
  | none => sop P tt o σ L nx fun r L' nx' => putS n o.dst r σ fun σ' => K σ' L' nx'
  | some (j, want) =>
    match (all[j]?).bind (·.dst) with
    | none => False
    | some d => match σ d with
      | .val (.bool β) => Br β
          (bif want then sop P tt o (upd σ d (.val (.bool true))) L nx fun r L' nx' => putS n o.dst r (upd σ d (.val (.bool true))) fun σ' => K σ' L' nx'
           else putS n o.dst (.val undef) (upd σ d (.val (.bool true))) fun σ' => K σ' L nx)
          (bif want then putS n o.dst (.val undef) (upd σ d (.val (.bool false))) fun σ' => K σ' L nx
           else sop P tt o (upd σ d (.val (.bool false))) L nx fun r L' nx' => putS n o.dst r (upd σ d (.val (.bool false))) fun σ' => K σ' L' nx')
      | .val (.tuple _) => putS n o.dst (.val undef) σ fun σ' => K σ' L nx
      | _ => False
/-- a list of operations, one behind the other -/
def sops (P : Program) (tt : List (Nat × TI)) (n : Nat) (all : List Oper) : List Oper → Fr → Hpl → Nat → (Fr → Hpl → Nat → Prop) → Prop
  | [], σ, L, nx, K => K σ L nx
  | o :: rest, σ, L, nx, K => gop P tt n all o σ L nx fun σ' L' nx' => sops P tt n all rest σ' L' nx' K

section
variable {P : Program} {tt : List (Nat × TI)} {n : Nat} {s : St} {Q : Exit → St → Prop}

theorem put_has {w : World} {F : Nat → Prop} {σ : Fr} {a : Act} {r : SV} {v : Value} {d : Nat} (hd : d < a.tmps.size) (h : FrHas w F σ a) (hv : Has w F r v) : FrHas w F (upd σ d r) (a.put (some d) v) := fun k => by
  unfold upd
  simp only [Act.put]
  by_cases e : k = d
  · subst e
    rw [Nat.beq_refl, cond_true]
    simpa [Array.getD, hd] using hv
  · have e1 : Nat.beq k d = false := by rw [Bool.eq_false_iff]; intro hb; exact e (Nat.eq_of_beq_eq_true hb)
    rw [e1, cond_false, Array.getD_eq_getD_getElem?, Array.getElem?_setIfInBounds_ne (fun e' => e e'.symm), ← Array.getD_eq_getD_getElem?]
    exact h k
theorem upd_has {w : World} {F : Nat → Prop} {σ : Fr} {a : Act} {d : Nat} {r : SV} (h : FrHas w F σ a) (hr : Has w F r (a.tmps.getD d undef)) : FrHas w F (upd σ d r) a := fun k => by
  unfold upd
  cases e : Nat.beq k d
  · exact h k
  · have := Nat.eq_of_beq_eq_true e
    subst this
    exact hr
theorem FrHas.go {w w' : World} {F F' : Nat → Prop} {σ : Fr} {a : Act} (h : FrHas w F σ a) (hk : Keep F w w') (hF : ∀ b, F b → F' b) : FrHas w' F' σ a := fun k => (hk.has (h k)).mono hF

theorem putS_sat {d : Option Tmp} {r : SV} {σ : Fr} {K : Fr → Prop} (h : putS n d r σ K) {w : World} {F : Nat → Prop} {a : Act} {v : Value} (hz : a.tmps.size = n) (hf : FrHas w F σ a) (hv : Has w F r v) :
    ∃ σ', K σ' ∧ (a.put d v).tmps.size = n ∧ (a.put d v).defers = a.defers ∧ FrHas w F σ' (a.put d v) := by
  unfold putS at h
  cases d with
  | none => exact ⟨σ, h, hz, rfl, hf⟩
  | some d =>
    simp only at h
    cases e : Nat.blt d n
    · rw [e] at h; exact h.elim
    · rw [e, cond_true] at h
      have hd : d < n := Nat.le_of_ble_eq_true e
      rw [fc_eq] at h
      exact ⟨_, h, by simp [Act.put, hz], rfl, put_has (hz.symm ▸ hd) hf hv⟩

theorem gop_wp {ds : List Deferred} (htt : TTok P tt) (all : List Oper) {o : Oper} {σ : Fr} {L : Hpl} {nx : Nat} {K : Fr → Hpl → Nat → Prop} {a : Act} {w : World} {F : Nat → Prop} (h : gop P tt n all o σ L nx K) (hs : Sat n ds ⟨σ, L, nx⟩ F a w) {next : Act → World → Prop}
    (hq : ∀ σ' L' nx' a' w' F', K σ' L' nx' → Sat n ds ⟨σ', L', nx'⟩ F' a' w' → Keep F w w' → (∀ b, F b → F' b) → next a' w') : OpV P all.toArray o a w next := by
  unfold OpV
  have skip : ∀ (σ1 : Fr), FrHas w F σ1 a → putS n o.dst (.val undef) σ1 (fun σ' => K σ' L nx) → Region.wanted o (yielded all.toArray a.tmps) = false → if Region.wanted o (yielded all.toArray a.tmps) = true then StepV P o a.eval w (fun v w' => next (a.put o.dst v) w') else next (a.put o.dst undef) w := fun σ1 h1 h2 h3 => by
    rw [if_neg (by rw [h3]; simp)]
    obtain ⟨σ', hk, hz, hd, hf⟩ := putS_sat h2 hs.size h1 (v := undef) rfl
    exact hq σ' L nx _ w F hk ⟨hz, hd.trans hs.defers, hf, hs.heap⟩ (Keep.refl _ _) fun _ h => h
  have run : ∀ (σ1 : Fr), FrHas w F σ1 a → sop P tt o σ1 L nx (fun r L' nx' => putS n o.dst r σ1 fun σ' => K σ' L' nx') → Region.wanted o (yielded all.toArray a.tmps) = true → if Region.wanted o (yielded all.toArray a.tmps) = true then StepV P o a.eval w (fun v w' => next (a.put o.dst v) w') else next (a.put o.dst undef) w := fun σ1 h1 h2 h3 => by
    rw [if_pos h3]
    refine (sop_sound h2 htt hs.heap h1).mono ?_
    rintro v w' ⟨r, L', nx', F', hk, hkeep, hF, hh, hv⟩
    obtain ⟨σ', hk, hz, hd, hf⟩ := putS_sat hk hs.size (h1.go hkeep hF) hv
    exact hq σ' L' nx' _ w' F' hk ⟨hz, hd.trans hs.defers, hf, hh⟩ hkeep hF
  unfold gop at h
  split at h
  · rename_i hg
    exact run σ hs.fr h (by simp [Region.wanted, hg])
  · rename_i j want hg
    split at h
    · exact h.elim
    · rename_i d hd
      split at h
      · rename_i β hβ
        have hdv : Has w F (σ d) (a.tmps.getD d undef) := hs.fr d
        rw [hβ] at hdv
        simp only [Has] at hdv
        have hlt : d < a.tmps.size := by
          rcases Nat.lt_or_ge d a.tmps.size with h' | h'
          · exact h'
          · have : a.tmps.getD d undef = undef := by simp [Array.getD, Nat.not_lt.2 h']
            rw [this] at hdv
            cases hdv
        have hget : a.tmps[d]? = some (.bool β) := by
          rw [Array.getElem?_eq_getElem hlt]
          rw [← hdv]
          simp [Array.getD, hlt]
        have hy : yielded all.toArray a.tmps j = some β := by
          unfold yielded
          simp only [List.getElem?_toArray, hd, Option.bind_some, hget]
        have hw : Region.wanted o (yielded all.toArray a.tmps) = (β == want) := by
          simp only [Region.wanted, hg, hy]
          cases β <;> cases want <;> rfl
        have hf : FrHas w F (upd σ d (.val (.bool β))) a := upd_has hs.fr hdv
        cases β
        all_goals first | replace h := h.t rfl | replace h := h.f rfl
        all_goals cases want <;> simp only [cond_true, cond_false] at h
        · exact run _ hf h (by rw [hw]; rfl)
        · exact skip _ hf h (by rw [hw]; rfl)
        · exact skip _ hf h (by rw [hw]; rfl)
        · exact run _ hf h (by rw [hw]; rfl)
      · rename_i vs hβ
        have hdv : Has w F (σ d) (a.tmps.getD d undef) := hs.fr d
        rw [hβ] at hdv
        simp only [Has] at hdv
        refine skip σ hs.fr h ?_
        have hy : yielded all.toArray a.tmps j = none := by
          unfold yielded
          simp only [List.getElem?_toArray, hd, Option.bind_some]
          rcases Nat.lt_or_ge d a.tmps.size with h' | h'
          · have : a.tmps[d]? = some (.tuple vs) := by
              rw [Array.getElem?_eq_getElem h', ← hdv]
              simp [Array.getD, h']
            rw [this]
          · rw [Array.getElem?_eq_none h']
        simp only [Region.wanted, hg, hy]
        rfl
      · exact h.elim

theorem sops_sound {ds : List Deferred} (htt : TTok P tt) (all : List Oper) {Kn : Act → World → Prop} : ∀ (rest : List Oper) (j : Nat) (σ : Fr) (L : Hpl) (nx : Nat) (K : Fr → Hpl → Nat → Prop) (a : Act) (w : World) (F : Nat → Prop), (∀ m, rest[m]? = all[j + m]?) → sops P tt n all rest σ L nx K → Sat n ds ⟨σ, L, nx⟩ F a w →
    (∀ σ' L' nx' a' w' F', K σ' L' nx' → Sat n ds ⟨σ', L', nx'⟩ F' a' w' → Keep F w w' → (∀ b, F b → F' b) → Kn a' w') → LRun P all.toArray Kn (List.range' j rest.length) a w
  | [], j, σ, L, nx, K, a, w, F, hd, h, hs, hq => LRun.nil (hq σ L nx a w F h hs (Keep.refl _ _) fun _ h => h)
  | o :: rest, j, σ, L, nx, K, a, w, F, hd, h, hs, hq => by
    have ho : all.toArray[j]? = some o := by
      have := hd 0
      simpa using this.symm
    exact LRun.cons ho (gop_wp htt all h hs fun σ' L' nx' a' w' F' hk hs' hkeep hF => sops_sound htt all rest (j + 1) σ' L' nx' K a' w' F' (fun m => by
      have := hd (m + 1)
      rw [List.getElem?_cons_succ] at this
      rw [this]; congr 1; omega) hk hs' fun σ2 L2 nx2 a2 w2 F2 q1 q2 q3 q4 => hq σ2 L2 nx2 a2 w2 F2 q1 q2 (hkeep.trans q3 hF) fun b hb => q4 b (hF b hb))

theorem HT.region (htt : TTok P tt) {id : Nat} {l : List Oper} (h : sops P tt n l l s.σ s.L s.nx fun σ L nx => Q .normal ⟨σ, L, nx⟩) : HT P n (.region id l.toArray false) Q s :=
  ⟨fun ro ds a w F hs => wpIn_lrun (by
    rw [List.size_toArray, List.range_eq_range']
    exact sops_sound htt l l 0 s.σ s.L s.nx _ a w F (fun m => by rw [Nat.zero_add]) h hs fun σ' L' nx' a' w' F' hk hs' hkeep hF => ⟨⟨σ', L', nx'⟩, F', hk, hs', hkeep, hF⟩)⟩

def Qseq (P : Program) (n : Nat) (c : Code) (Q : Exit → St → Prop) : Exit → St → Prop
  | .normal, s => HT P n c Q s
  | e, s => Q e s
theorem HT.seq {x y : Code} (h : HT P n x (Qseq P n y Q) s) : HT P n (.seq x y) Q s :=
  ⟨fun ro ds a w F hs => wpIn_seq (Code.wpIn_mono (fun e a' w' hq => by
    obtain ⟨s', F', hq, hs', hk, hF⟩ := hq
    cases e
    case normal =>
      refine Code.wpIn_mono (fun e a2 w2 hq2 => ?_) (hq.h ro ds a' w' F' hs')
      obtain ⟨s2, F2, q1, q2, q3, q4⟩ := hq2
      exact ⟨s2, F2, q1, q2, hk.trans q3 hF, fun b hb => q4 b (hF b hb)⟩
    all_goals exact ⟨s', F', hq, hs', hk, hF⟩) (h.h ro ds a w F hs))⟩
def sCond (c : SV) (X Y : Prop) : Prop :=
  match c with
  | .val (.bool β) => Br β X Y
  | _ => False
theorem HT.cond {c : Operand} {x y : Code} (h : sCond (sv s.σ c) (HT P n x Q s) (HT P n y Q s)) : HT P n (.cond c x y) Q s :=
  ⟨fun ro ds a w F hs => by
    unfold sCond at h
    split at h
    · rename_i β hβ
      have hc := sv_has hs.fr c
      rw [hβ] at hc
      cases β
      · exact wpIn_cond_false hc ((h.f rfl).h ro ds a w F hs)
      · exact wpIn_cond_true hc ((h.t rfl).h ro ds a w F hs)
    · exact h.elim⟩
def Qblk (id : Nat) (Q : Exit → St → Prop) : Exit → St → Prop
  | .exit id', s => bif Nat.beq id' id then Q .normal s else Q (.exit id') s
  | e, s => Q e s
theorem HT.block {id : Nat} {c : Code} (h : HT P n c (Qblk id Q) s) : HT P n (.block id c) Q s :=
  ⟨fun ro ds a w F hs => wpIn_block (Code.wpIn_mono (fun e a' w' hq => by
    obtain ⟨s', F', hq, rest⟩ := hq
    cases e
    case exit id' =>
      simp only [Qblk] at hq
      simp only [Exit.inBlock]
      by_cases e : id' = id
      · subst e
        rw [if_pos rfl]
        rw [Nat.beq_refl, cond_true] at hq
        exact ⟨s', F', hq, rest⟩
      · rw [if_neg e]
        have e1 : Nat.beq id' id = false := by rw [Bool.eq_false_iff]; intro hb; exact e (Nat.eq_of_beq_eq_true hb)
        rw [e1, cond_false] at hq
        exact ⟨s', F', hq, rest⟩
    all_goals exact ⟨s', F', hq, rest⟩) (h.h ro ds a w F hs))⟩
theorem HT.skip (h : Q .normal s) : HT P n .skip Q s := ⟨fun ro ds a w F hs => wpIn_skip ⟨s, F, h, hs, Keep.refl _ _, fun _ h => h⟩⟩
theorem HT.exit {id : Nat} (h : Q (.exit id) s) : HT P n (.exit id) Q s := ⟨fun ro ds a w F hs => wpIn_exit ⟨s, F, h, hs, Keep.refl _ _, fun _ h => h⟩⟩
theorem HT.ret (h : Q .ret s) : HT P n .ret Q s := ⟨fun ro ds a w F hs => wpIn_ret ⟨s, F, h, hs, Keep.refl _ _, fun _ h => h⟩⟩
theorem HT.mono {c : Code} {Q' : Exit → St → Prop} (h : HT P n c Q s) (hq : ∀ e s, Q e s → Q' e s) : HT P n c Q' s :=
  ⟨fun ro ds a w F hs => Code.wpIn_mono (fun e a' w' ⟨s', F', h1, h2⟩ => ⟨s', F', hq _ _ h1, h2⟩) (h.h ro ds a w F hs)⟩

/-- one state told by another -/
def SLe (s s' : St) : Prop := ∀ n ds F a w, Sat n ds s F a w → ∃ F', (∀ b, F b → F' b) ∧ Sat n ds s' F' a w
theorem SLe.refl (s : St) : SLe s s := fun n ds F a w h => ⟨F, fun _ h => h, h⟩
theorem HT.le {c : Code} {s' : St} (hl : SLe s s') (h : HT P n c Q s') : HT P n c Q s :=
  ⟨fun ro ds a w F hs => by
    obtain ⟨F', hF, hs'⟩ := hl n ds F a w hs
    exact Code.wpIn_mono (fun e a' w' ⟨s2, F2, q1, q2, q3, q4⟩ => ⟨s2, F2, q1, q2, q3.mono hF, fun b hb => q4 b (hF b hb)⟩) (h.h ro ds a w F' hs')⟩

/-- a loop: a family of states, each round comes to one of a lower measure -/
theorem HT.loop {c : Code} {ι : Type} (I : ι → St) (μ : ι → Nat) (i0 : ι) (h0 : SLe s (I i0)) (h : ∀ i, HT P n c (fun e s' => match e with | .normal => ∃ j, SLe s' (I j) ∧ μ j < μ i | e => Q e s') (I i)) : HT P n (.loop c) Q s := by
  refine ⟨fun ro ds a w F hs => ?_⟩
  obtain ⟨F0, hF0, hs0⟩ := h0 n ds F a w hs
  refine wpIn_loop_ghost (fun m a' w' => ∃ i F', m = μ i ∧ Sat n ds (I i) F' a' w' ∧ Keep F w w' ∧ ∀ b, F b → F' b) (μ i0) ⟨i0, F0, rfl, hs0, Keep.refl _ _, hF0⟩ ?_
  rintro m a1 w1 ⟨i, F1, rfl, hs1, hk1, hF1⟩
  refine Code.wpIn_mono (fun e a2 w2 hq => ?_) ((h i).h ro ds a1 w1 F1 hs1)
  obtain ⟨s2, F2, q1, q2, q3, q4⟩ := hq
  cases e
  case normal =>
    obtain ⟨j, hle, hlt⟩ := q1
    obtain ⟨F3, hF3, hs3⟩ := hle n ds F2 a2 w2 q2
    exact ⟨_, hlt, j, F3, rfl, hs3, hk1.trans q3 hF1, fun b hb => hF3 b (q4 b (hF1 b hb))⟩
  all_goals exact ⟨s2, F2, q1, q2, hk1.trans q3 hF1, fun b hb => q4 b (hF1 b hb)⟩
end
end Go.Proofs.YtcagfmbboliohaaDoor
/-! YtcagfmbboliohaaDoorSxI -/
set_option linter.all false


namespace Go.Proofs.YtcagfmbboliohaaDoor

section
variable {P : Program} {tt : List (Nat × TI)} {n : Nat}

/-- a value and a heap told by others -/
def Ent (r : SV) (H : List Hp) (r' : SV) (H' : List Hp) : Prop := ∀ w F v, HSat w F H → Has w F r v → ∃ F', (∀ b, F b → F' b) ∧ HSat w F' H' ∧ Has w F' r' v
/-- what a function hands back, told as its contract has it -/
structure Fin (r : SV) (H : List Hp) (K : SV → List Hp → Prop) : Prop where
  h : ∃ r' H', Ent r H r' H' ∧ K r' H'

/-- the results, by their slots -/
def sRes (tt : List (Nat × TI)) (σ : Fr) (L : Hpl) : List ResultVar → List SV → (List SV → Prop) → Prop
  | [], acc, K => K acc.reverse
  | .tmp t :: rs, acc, K => fc (σ t) fun r => sRes tt σ L rs (r :: acc) K
  | .cell a t :: rs, acc, K => (pLoad (fetch t tt) (σ a) L).run fun r => sRes tt σ L rs (r :: acc) K
def resV : List SV → SV
  | [r] => r
  | rs => .tup rs.length fun k => rs.getD k (.val undef)
/-- what is asked at the end of a body -/
def Qret (tt : List (Nat × TI)) (rs : List ResultVar) (K : SV → List Hp → Prop) : Exit → St → Prop
  | .ret, s | .normal, s => sRes tt s.σ s.L rs [] fun l => fc (resV l).norm fun r => fcH (s.L.map Prod.snd) fun H => Fin r H K
  | _, _ => False

theorem sRes_run (htt : TTok P tt) {w : World} {F : Nat → Prop} {σ : Fr} {L : Hpl} {a : Act} (hs : HSat w F (L.map Prod.snd)) (hf : FrHas w F σ a) : ∀ (rs : List ResultVar) (acc : List SV) (K : List SV → Prop) (va : List Value), sRes tt σ L rs acc K → HasL w F acc.reverse va →
    ∃ l vs, (rs.mapM fun | .tmp t => pure (a.tmps.getD t undef) | .cell b t => do loadVar t (← asAddr (a.tmps.getD b undef)) : Sem (List Value)).run P w = .ok vs w ∧ K l ∧ HasL w F l (va ++ vs)
  | [], acc, K, va, h, hva => ⟨acc.reverse, [], by simp, h, by simpa using hva⟩
  | .tmp t :: rs, acc, K, va, h, hva => by
    have hap : ∀ {ss : List SV} {vs : List Value} {s v}, HasL w F ss vs → Has w F s v → HasL w F (ss ++ [s]) (vs ++ [v]) := by
      intro ss
      induction ss with
      | nil => intro vs s v h1 h2; cases vs with | nil => exact ⟨h2, trivial⟩ | cons => exact h1.elim
      | cons s' ss ih => intro vs s v h1 h2; cases vs with | nil => exact h1.elim | cons v' vs => exact ⟨h1.1, ih h1.2 h2⟩
    unfold sRes at h
    rw [fc_eq] at h
    obtain ⟨l, vs, h1, h2, h3⟩ := sRes_run htt hs hf rs (σ t :: acc) K (va ++ [a.tmps.getD t undef]) h (by rw [List.reverse_cons]; exact hap hva (hf t))
    refine ⟨l, a.tmps.getD t undef :: vs, ?_, h2, by simpa using h3⟩
    simp only [List.mapM_cons, Sem.run_bind, Sem.run_pure, Result.andThen_ok, h1]
  | .cell b t :: rs, acc, K, va, h, hva => by
    have hap : ∀ {ss : List SV} {vs : List Value} {s v}, HasL w F ss vs → Has w F s v → HasL w F (ss ++ [s]) (vs ++ [v]) := by
      intro ss
      induction ss with
      | nil => intro vs s v h1 h2; cases vs with | nil => exact ⟨h2, trivial⟩ | cons => exact h1.elim
      | cons s' ss ih => intro vs s v h1 h2; cases vs with | nil => exact h1.elim | cons v' vs => exact ⟨h1.1, ih h1.2 h2⟩
    unfold sRes at h
    obtain ⟨v, r, hr, hK, hv⟩ := s_load (P := P) h htt.fetch hs (hf b)
    obtain ⟨l, vs, h1, h2, h3⟩ := sRes_run htt hs hf rs (r :: acc) K (va ++ [v]) hK (by rw [List.reverse_cons]; exact hap hva hv)
    refine ⟨l, v :: vs, ?_, h2, by simpa using h3⟩
    have hv' : (do loadVar t (← asAddr (a.tmps.getD b undef)) : Sem Value).run P w = .ok v w := by
      unfold Instr.loadAt at hr
      generalize a.tmps.getD b undef = x at hr
      cases x <;> simp [Instr.sureAddr, stuck, Sem.run] at hr
      rename_i p
      cases p <;> simp [Instr.sureAddr, stuck, Sem.run] at hr
      simpa [asAddr] using hr
    simp only [List.mapM_cons, Sem.run_bind] at hv' ⊢
    rw [hv']
    simp only [Result.andThen_ok, h1, Sem.run_pure]

theorem has_resV {w : World} {F : Nat → Prop} {l : List SV} {vs : List Value} (h : HasL w F l vs) : Has w F (resV l) (if h : vs.toArray.size = 1 then vs.toArray[0] else .tuple vs.toArray) := by
  have hl := h.length
  have gen : ∀ l : List SV, l.length ≠ 1 → HasL w F l vs → l.length = vs.length → Has w F (.tup l.length fun k => l.getD k (.val undef)) (.tuple vs.toArray) := fun l _ h hl =>
    ⟨vs.toArray, rfl, by simpa using hl.symm, fun k hk => by simpa using h.get k⟩
  match l, vs, h, hl with
  | [], [], h, hl => simpa [resV] using gen [] (by simp) h hl
  | [s], [v], h, hl => simpa [resV] using h.1
  | s :: s' :: l, v :: v' :: vs, h, hl => simpa [resV] using gen (s :: s' :: l) (by simp) h hl

theorem SCalls.enter (htt : TTok P tt) {f : FuncId} {fn : Func} {c : Code} (hfn : P.funcs[f]? = some fn) (hnm : (fn.name == "runtime.NumGoroutine") = false) (hb : fn.body = some c) {ss : List SV} {H : List Hp} {K : SV → List Hp → Prop} (L : Hpl) (hL : L.map Prod.snd = H) (σ : Fr)
    (hσ : ∀ w F v k, Has w F (ss.getD k (.val undef)) v → Has w F (σ k) v) (hn : ss.length ≤ fn.ntmps)
    (h : HT P fn.ntmps c (Qret tt fn.results.toList K) ⟨σ, L, 100⟩) : SCalls P f ss H K := by
  refine ⟨⟨fn, hfn, hnm, by rw [hb]; rfl⟩, fun w F vs hs hv => ?_⟩
  subst hL
  have hvl := hv.length
  refine calls_of_wp hfn hb (Code.wp_mono ?_ ((wpIn_wide (n := 0)).1 (h.h none [] _ w F ⟨?_, rfl, fun k => ?_, hs⟩)))
  · rintro e a' w' ⟨s', F', hq, hs', hk, hF⟩
    have key : sRes tt s'.σ s'.L fn.results.toList [] (fun l => fc (resV l).norm fun r => fcH (s'.L.map Prod.snd) fun H => Fin r H K) → a'.defers = [] ∧ ∃ v, (results fn a'.tmps).run P w' = .ok v w' ∧ ∃ v', Ending.returned v = .returned v' ∧ ∃ r F' H', K r H' ∧ Keep F w w' ∧ (∀ b, F b → F' b) ∧ HSat w' F' H' ∧ Has w' F' r v' := fun hq => by
      obtain ⟨l, rv, h1, h2, h3⟩ := sRes_run htt hs'.heap hs'.fr fn.results.toList [] _ [] hq trivial
      rw [fc_eq, fcH_eq] at h2
      obtain ⟨r', H', he, hK⟩ := h2.h
      have h3' : HasL w' F' l rv := h3
      obtain ⟨F2, q1, q2, q3⟩ := he w' F' _ hs'.heap (has_resV h3').norm
      refine ⟨hs'.defers, _, ?_, _, rfl, r', F2, H', hK, hk, fun b hb => q1 b (hF b hb), q2, q3⟩
      unfold results
      rw [Array.mapM_eq_mapM_toList]
      simp only [map_eq_pure_bind, Sem.run_bind]
      have fin : ∀ x : Result (List Value), x = .ok rv w' → ((x.andThen fun a w' => Sem.run P (pure a.toArray) w').andThen fun (a : Array Value) w' => Sem.run P (pure (if h : a.size = 1 then a[0] else Value.tuple a)) w') = .ok (if h : rv.toArray.size = 1 then rv.toArray[0] else .tuple rv.toArray) w' := fun x hx => by
        rw [hx]
        simp only [Result.andThen_ok, Sem.run_pure]
      exact fin _ h1
    cases e with
    | normal => exact key hq
    | ret => exact key hq
    | exit => exact hq.elim
    | goto => exact hq.elim
    | panic => exact hq.elim
    | outgrown => exact hq.elim
  · have : vs.toArray.size = ss.length := by simpa using hvl.symm
    simp only [Array.size_append, Array.size_replicate, this]
    omega
  · refine hσ w F _ k ?_
    have := hv.get k
    have e : (vs.toArray ++ Array.replicate (fn.ntmps - vs.toArray.size) undef).getD k undef = vs.getD k undef := by
      rw [Array.getD_eq_getD_getElem?, List.getD_eq_getElem?_getD]
      by_cases hk : k < vs.length
      · rw [Array.getElem?_append_left (by simpa using hk)]
        simp
      · rw [Array.getElem?_append_right (by simpa using hk), List.getElem?_eq_none (by omega)]
        simp only [Array.getElem?_replicate]
        split <;> rfl
    rw [e]
    exact this
/-- the frame of the arguments -/
def argF (ss : List SV) : Fr := fun k => ss.getD k (.val undef)

end
end Go.Proofs.YtcagfmbboliohaaDoor
