/- The symbolic step of any operation is sound; regions, one operation behind the other; the triples of code. -/
import Derived.Test.YtbcmpfhemangpaaSxF
set_option linter.all false


namespace Go.Proofs.Ytbcmpfhemangpaa

section
variable {P : Program} {w : World} {F : Nat → Prop} {L : Hpl} {nx : Nat} {K : KK} {tt : List (Nat × TI)} {σ : Fr}

/-- the frame is as told -/
def FrHas (w : World) (F : Nat → Prop) (σ : Fr) (a : Act) : Prop := ∀ k, Has w F (σ k) (a.tmps.getD k undef)

theorem sv_has {a : Act} (h : FrHas w F σ a) : ∀ x, Has w F (sv σ x) (a.eval x)
  | .tmp k => h k
  | .const v => rfl
  | .global g => rfl
  | .func f => rfl

theorem parts_has {a : Act} (h : FrHas w F σ a) : ∀ l : List (Nat × Operand), PartsHas w F (l.map fun p => (p.1, sv σ p.2)) (l.map fun p => (p.1, a.eval p.2))
  | [] => trivial
  | p :: l => ⟨rfl, sv_has h p.2, parts_has h l⟩
theorem args_has {a : Act} (h : FrHas w F σ a) : ∀ l : List Operand, HasL w F (l.map fun x => (sv σ x).bare) (l.map a.eval)
  | [] => trivial
  | x :: l => ⟨(sv_has h x).bare, args_has h l⟩

theorem out_pure {r : SV} {v : Value} (hs : HSat w F (L.map Prod.snd)) (hK : K r L nx) (hv : Has w F r v) : Out w F K v w := Out.same hK hs hv

theorem pop_sound {o : Oper} {a : Act} {K : SV → Prop} (h : (pop tt o σ L).run K) (htt : TTok P tt) (hs : HSat w F (L.map Prod.snd)) (hf : FrHas w F σ a) : StepV P o a.eval w fun v w' => w' = w ∧ ∃ r, K r ∧ Has w F r v := by
  have val : ∀ {s : Sem Value}, (execOp a.eval o = do pure (.value (← s))) → (∃ v r, s.run P w = .ok v w ∧ K r ∧ Has w F r v) → StepV P o a.eval w fun v w' => w' = w ∧ ∃ r, K r ∧ Has w F r v := by
    rintro s he ⟨v, r, hr, hK, hv⟩
    refine StepV.value (v := v) (w' := w) ?_ ⟨rfl, r, hK, hv⟩
    rw [he]; simp [hr]
  have hx := sv_has hf
  unfold pop at h
  split at h
  · rename_i x ho
    exact StepV.value (v := a.eval x) (w' := w) (by unfold execOp; simp [ho]) ⟨rfl, _, h, hx x⟩
  · rename_i x ho
    exact StepV.value (v := a.eval x) (w' := w) (by unfold execOp; simp [ho]) ⟨rfl, _, h, hx x⟩
  · rename_i c p q ho
    unfold pPick at h
    split at h
    · rename_i β hc
      have hcv := hx c
      rw [hc] at hcv
      simp only [Has] at hcv
      obtain ⟨ht, hff⟩ := h
      cases β with
      | true =>
        refine StepV.value (v := a.eval p) (w' := w) ?_ ⟨rfl, _, ht rfl, hx p⟩
        unfold execOp
        simp [ho, hcv, asBool]
      | false =>
        refine StepV.value (v := a.eval q) (w' := w) ?_ ⟨rfl, _, hff rfl, hx q⟩
        unfold execOp
        simp [ho, hcv, asBool]
    · exact False.elim h
  · rename_i t ps ho
    refine val (by unfold execOp; rw [ho]) (s_build h htt.fetch htt ?_)
    have := parts_has hf ps.toList
    simpa using this
  · rename_i t x ho
    exact val (by unfold execOp; rw [ho]) (s_load h htt.fetch hs (hx x))
  · rename_i x ho
    obtain ⟨hK, p, hp⟩ := s_nil h (hx x)
    refine StepV.value (v := a.eval x) (w' := w) ?_ ⟨rfl, _, hK, hx x⟩
    unfold execOp
    simp [ho, hp]
  · rename_i op t x y yt ho
    exact val (by unfold execOp; rw [ho]) (s_binO htt h htt.fetch (hx x) (hx y) (fun c e => by rw [e]; rfl))
  · rename_i op t x ho
    exact val (by unfold execOp; rw [ho]) (s_un h (hx x))
  · rename_i t x k ho
    exact val (by unfold execOp; rw [ho]) (s_field h htt.fetch (hx x))
  · rename_i t x k ho
    exact val (by unfold execOp; rw [ho]) (s_get h htt.fetch htt (hx x))
  · rename_i x k ho
    exact val (by unfold execOp; rw [ho]) (s_extract h (hx x))
  · rename_i t x ho
    exact val (by unfold execOp; rw [ho]) (s_mkI h htt.fetch (hx x))
  · rename_i x xt t ok ho
    exact val (by unfold execOp; rw [ho]) (s_assert h htt.fetch (hx x))
  · rename_i f first caps ho
    unfold pFn at h
    split at h
    · rename_i f hf1
      have e0 : first = #[] := by
        have : first.toList = [] := by simpa using hf1
        rw [← Array.toArray_toList (xs := first), this]
      subst e0
      refine StepV.value (v := .func (.func f) #[] (caps.map a.eval)) (w' := w) ?_ ⟨rfl, _, h, caps.map a.eval, rfl, by simp, fun k hk => ?_⟩
      · unfold execOp
        simp [ho, Instr.makeFunc]
      · have hk : k < caps.size := by simpa using hk
        simpa [litF, Array.getD, List.getD_eq_getElem?_getD, hk] using hx caps[k]
    · exact False.elim h
  · rename_i s d x ho
    exact val (by unfold execOp; rw [ho]) (s_conv h htt.fetch htt.fetch (hx x))
  · rename_i c ho
    split at h
    · rename_i hc
      have hl : HasL w F (c.args.toList.map (sv σ)) (c.args.toList.map a.eval) := by
        induction c.args.toList with
        | nil => trivial
        | cons x l ih => exact ⟨hx x, ih⟩
      refine val (s := Builtin.max_ c.argTypes o.type (c.args.toList.map a.eval).toArray) ?_ (s_max h hl)
      have e : c.args.map a.eval = (c.args.toList.map a.eval).toArray := by apply Array.ext'; simp
      unfold execOp
      simp [ho, resolve, hc, invoke, builtin, e]
    · rename_i hc
      split at h
      · rename_i x t ha ht
        have ea : c.args = #[x] := by rw [← Array.toArray_toList (xs := c.args), ha]
        have et : c.argTypes = #[t] := by rw [← Array.toArray_toList (xs := c.argTypes), ht]
        refine val (s := Builtin.cap_ #[t] o.type #[a.eval x]) ?_ (s_cap h htt.fetch (hx x))
        unfold execOp
        simp [ho, resolve, hc, invoke, builtin, ea, et]
      · exact False.elim h
    · rename_i hc
      split at h
      · rename_i x t ha ht
        have ea : c.args = #[x] := by rw [← Array.toArray_toList (xs := c.args), ha]
        have et : c.argTypes = #[t] := by rw [← Array.toArray_toList (xs := c.argTypes), ht]
        refine val (s := Builtin.len_ #[t] o.type #[a.eval x]) ?_ (s_len h htt.fetch (hx x))
        unfold execOp
        simp [ho, resolve, hc, invoke, builtin, ea, et]
      · exact False.elim h
    · exact False.elim h
  · exact False.elim h

theorem sop_sound {o : Oper} {a : Act} (h : sop P tt o σ L nx K) (htt : TTok P tt) (hs : HSat w F (L.map Prod.snd)) (hf : FrHas w F σ a) : StepV P o a.eval w (Out w F K) := by
  have val : ∀ {s : Sem Value}, (execOp a.eval o = do pure (.value (← s))) → (∃ v r, s.run P w = .ok v w ∧ K r L nx ∧ Has w F r v) → StepV P o a.eval w (Out w F K) := by
    rintro s he ⟨v, r, hr, hK, hv⟩
    refine StepV.value (v := v) (w' := w) ?_ (Out.same hK hs hv)
    rw [he]; simp [hr]
  have valW : ∀ {s : Sem Value}, (execOp a.eval o = do pure (.value (← s))) → (∃ v w', s.run P w = .ok v w' ∧ Out w F K v w') → StepV P o a.eval w (Out w F K) := by
    rintro s he ⟨v, w', hr, hO⟩
    refine StepV.value (v := v) (w' := w') ?_ hO
    rw [he]; simp [hr]
  have hx := sv_has hf
  have plain : (pop tt o σ L).run (fun r => K r L nx) → StepV P o a.eval w (Out w F K) := fun h => by
    have := pop_sound h htt hs hf
    unfold StepV at this ⊢
    split
    · rename_i v w' hr
      rw [hr] at this
      obtain ⟨rfl, r, hK, hv⟩ := this
      exact Out.same hK hs hv
    · rename_i w' hr
      rw [hr] at this
      obtain ⟨rfl, r, hK, hv⟩ := this
      exact Out.same hK hs hv
    · rename_i f args w' hr
      rw [hr] at this
      refine this.mono fun e w'' he => ?_
      cases e with
      | returned v =>
        obtain ⟨rfl, r, hK, hv⟩ := he
        exact Out.same hK hs hv
      | panicked => exact he.elim
      | outgrown => exact he.elim
    · rename_i row args w' hr
      rw [hr] at this
      refine Rows.mono this fun v w'' he => ?_
      obtain ⟨rfl, r, hK, hv⟩ := he
      exact Out.same hK hs hv
    · rename_i h1 h2 h3 h4
      generalize (execOp a.eval o).run P w = res at this h1 h2 h3 h4
      cases res with
      | halt => exact this.elim
      | ok n w' => cases n <;> first | exact this.elim | exact absurd rfl (h1 _ _) | exact absurd rfl (h2 _) | exact absurd rfl (h3 _ _ _) | exact absurd rfl (h4 _ _ _)
  have fgn : ∀ {o' : Oper}, o' = o → sFgn P o σ L nx K → StepV P o a.eval w (Out w F K) := fun _ h => by
    unfold sFgn at h
    rw [fcK_eq, fcL_eq] at h
    have hl : HasL w F (o.op.operands.toList.map (sv σ)) (o.op.operands.toList.map a.eval) := by
      induction o.op.operands.toList with
      | nil => trivial
      | cons x l ih => exact ⟨hx x, ih⟩
    exact (h.h w F a.eval hs hl).mono fun v w' ⟨r, L', nx', F', ⟨_, _, hK⟩, q1, q2, q3, q4⟩ => ⟨r, L', nx', F', hK, q1, q2, q3, q4⟩
  unfold sop at h
  split at h
  · rename_i t ho
    exact valW (by unfold execOp; rw [ho]) (s_alloc h htt.fetch hs)
  · rename_i t x ho
    exact valW (by unfold execOp; rw [ho]) (s_box h hs (hx x))
  · rename_i t n ps ho
    refine valW (by unfold execOp; rw [ho]) (s_buildS h htt.fetch hs ?_)
    have := parts_has hf ps.toList
    simpa using this
  · rename_i t p x ho
    obtain ⟨w', L', hr, hK, hk, hs'⟩ := s_store h htt.fetch hs (hx p) (hx x)
    refine StepV.skip (w' := w') ?_ ⟨_, _, _, F, hK, hk, fun _ h => h, hs', rfl⟩
    unfold execOp
    simp [ho, hr]
  · rename_i t x i ho
    exact val (by unfold execOp; rw [ho]) (s_index h htt.fetch hs (hx x) (hx i))
  · rename_i t l c ho
    exact valW (by unfold execOp; rw [ho]) (s_make h htt.fetch hs (hx l) (hx c))
  · rename_i t x lo hi ho
    refine valW (s := Instr.sliceAt t (a.eval x) (lo.map a.eval) (hi.map a.eval) none) (by unfold execOp; rw [ho]; rfl) (s_cut h htt.fetch hs (hx x) ?_ ?_)
    · cases lo with
      | none => exact .inl ⟨rfl, rfl⟩
      | some l => exact .inr ⟨_, _, rfl, rfl, hx l⟩
    · cases hi with
      | none => exact .inl ⟨rfl, rfl⟩
      | some l => exact .inr ⟨_, _, rfl, rfl, hx l⟩
  · rename_i c ho
    split at h
    · rename_i f hc
      rw [fcK_eq, fcL_eq] at h
      obtain ⟨⟨fn, hfn, hnm, hb⟩, hcall⟩ := h.calls
      have hargs := args_has hf c.args.toList
      have := hcall w F _ hs hargs
      refine StepV.enter (w' := w) (f := f) (args := (c.args.toList.map a.eval).toArray) ?_ (this.mono ?_)
      · have e : c.args.map a.eval = (c.args.toList.map a.eval).toArray := by apply Array.ext'; simp
        have e2 : a.eval (.func f) = .func (.func f) #[] #[] := rfl
        unfold execOp
        rw [ho]
        simp only [resolve, hc, e, e2, Deferred.ofValue, Sem.run_bind]
        have h1 : ¬ fn.name = "runtime.NumGoroutine" := by simpa using hnm
        have h2 : ¬ fn.body = none := by intro e; rw [e] at hb; cases hb
        simp [invoke, callFunc, program, Sem.run, hfn, h1, h2]
      · rintro e w' ⟨v, rfl, r, F', H', ⟨L', rfl, hK⟩, hk, hF, hs', hv⟩
        exact ⟨v, rfl, _, _, _, F', hK, hk, hF, hs', hv.lift nx⟩
    · rename_i d hc
      split at h
      · rename_i f n g hd
        rw [fcK_eq, fcL_eq] at h
        obtain ⟨⟨fn, hfn, hnm, hb⟩, hcall⟩ := h.calls
        have hfv := hf d
        rw [hd] at hfv
        obtain ⟨vs, hvs, hvn, hvc⟩ := hfv
        have happ : ∀ {ss ss' : List SV} {us us' : List Value}, HasL w F ss us → HasL w F ss' us' → HasL w F (ss ++ ss') (us ++ us') := by
          intro ss
          induction ss with
          | nil => intro ss' us us' h1 h2; cases us with | nil => exact h2 | cons => exact h1.elim
          | cons s ss ih => intro ss' us us' h1 h2; cases us with | nil => exact h1.elim | cons u us => exact ⟨h1.1, ih h1.2 h2⟩
        have hcap : ∀ (m i : Nat), i + m ≤ n → HasL w F (tabF (fun k => (g k).bare) m i) ((vs.toList.drop i).take m) := by
          intro m
          induction m with
          | zero => intro i _; simp [tabF, HasL]
          | succ m ih =>
            intro i hi
            have hlt : i < vs.toList.length := by simp; omega
            rw [List.drop_eq_getElem_cons hlt, List.take_succ_cons]
            refine ⟨?_, ih (i + 1) (by omega)⟩
            have := (hvc i (by omega)).bare
            simpa [Array.getD, show i < vs.size by omega] using this
        have hc0 := hcap n 0 (by omega)
        rw [List.drop_zero, List.take_of_length_le (by simp; omega)] at hc0
        have hargs := happ (args_has hf c.args.toList) hc0
        have := hcall w F _ hs hargs
        refine StepV.enter (w' := w) (f := f) (args := ((c.args.toList.map a.eval) ++ vs.toList).toArray) ?_ (this.mono ?_)
        · have e : c.args.map a.eval = (c.args.toList.map a.eval).toArray := by apply Array.ext'; simp
          have e2 : a.eval (.tmp d) = .func (.func f) #[] vs := hvs
          unfold execOp
          rw [ho]
          simp only [resolve, hc, e, e2, Deferred.ofValue, Sem.run_bind]
          have h1 : ¬ fn.name = "runtime.NumGoroutine" := by simpa using hnm
          have h2 : ¬ fn.body = none := by intro e; rw [e] at hb; cases hb
          simp [invoke, callFunc, program, Sem.run, hfn, h1, h2]
        · rintro e w' ⟨v, rfl, r, F', H', ⟨L', rfl, hK⟩, hk, hF, hs', hv⟩
          exact ⟨v, rfl, _, _, _, F', hK, hk, hF, hs', hv.lift nx⟩
      · exact h.elim
    · rename_i hc
      split at h
      · rename_i s x t t' ha ht
        have ea : c.args = #[s, x] := by rw [← Array.toArray_toList (xs := c.args), ha]
        have et : c.argTypes = #[t, t'] := by rw [← Array.toArray_toList (xs := c.argTypes), ht]
        cases hb : Nat.beq t t'
        · rw [hb, cond_false] at h
          refine valW (s := Builtin.append_ #[t, t'] o.type #[a.eval s, a.eval x]) ?_ (s_appendZ h htt.fetch htt.fetch hs (hx s) (hx x))
          unfold execOp
          simp [ho, resolve, hc, invoke, builtin, ea, et]
        · rw [hb, cond_true] at h
          have : t = t' := Nat.eq_of_beq_eq_true hb
          subst this
          refine valW (s := Builtin.append_ #[t, t] o.type #[a.eval s, a.eval x]) ?_ (s_append h htt.fetch hs (hx s) (hx x))
          unfold execOp
          simp [ho, resolve, hc, invoke, builtin, ea, et]
      · exact h.elim
    · rename_i hc
      split at h
      · rename_i d s t t' ha ht
        have ea : c.args = #[d, s] := by rw [← Array.toArray_toList (xs := c.args), ha]
        have et : c.argTypes = #[t, t'] := by rw [← Array.toArray_toList (xs := c.argTypes), ht]
        cases hb : Nat.beq t t'
        · rw [hb] at h; exact h.elim
        · rw [hb, cond_true] at h
          have : t = t' := Nat.eq_of_beq_eq_true hb
          subst this
          refine valW (s := Builtin.copy_ #[t, t] o.type #[a.eval d, a.eval s]) ?_ (s_copy h htt.fetch hs (hx d) (hx s))
          unfold execOp
          simp [ho, resolve, hc, invoke, builtin, ea, et]
      · exact h.elim
    · split at h
      · rename_i x hx1
        cases hb : isMapV (sv σ x) <;> rw [hb] at h
        · exact plain h
        · exact fgn rfl h
      · exact plain h
    · exact fgn rfl h
    · exact plain h
  all_goals first | exact plain h | exact fgn rfl h
end
end Go.Proofs.Ytbcmpfhemangpaa
