/- Functions: entering, results; the forms of contracts; one heap told by another. -/
import Derived.Test.YtbcmpfhemangpaaSxH
set_option linter.all false


namespace Go.Proofs.Ytbcmpfhemangpaa

section
variable {P : Program} {tt : List (Nat × TI)} {n : Nat}

/-- a value and a heap told by others -/
def Ent (r : SV) (H : List Hp) (r' : SV) (H' : List Hp) : Prop := ∀ w F v, HSat w F H → Has w F r v → ∃ F', (∀ b, F b → F' b) ∧ HSat w F' H' ∧ Has w F' r' v
/-- what a function hands back, told as its contract has it -/
structure Fin (r : SV) (H : List Hp) (K : SV → List Hp → Prop) : Prop where
  h : ∃ r' H', Ent r H r' H' ∧ K r' H'

/-- the results, by their slots -/
def sRes (tt : List (Nat × TI)) (σ : Fr) (L : Hpl) : List ResultVar → List SV → (List SV → Prop) → Prop
  | [], acc, K => K acc.reverse
  | .tmp t :: rs, acc, K => fc (σ t) fun r => sRes tt σ L rs (r :: acc) K
  | .cell a t :: rs, acc, K => (pLoad (fetch t tt) (σ a) L).run fun r => sRes tt σ L rs (r :: acc) K
def resV : List SV → SV
  | [r] => r
  | rs => .tup rs.length fun k => rs.getD k (.val undef)
/-- what is asked at the end of a body -/
def Qret (tt : List (Nat × TI)) (rs : List ResultVar) (K : SV → List Hp → Prop) : Exit → St → Prop
  | .ret, s | .normal, s => sRes tt s.σ s.L rs [] fun l => fc (resV l).norm fun r => fcH (s.L.map Prod.snd) fun H => Fin r H K
  | _, _ => False

theorem sRes_run (htt : TTok P tt) {w : World} {F : Nat → Prop} {σ : Fr} {L : Hpl} {a : Act} (hs : HSat w F (L.map Prod.snd)) (hf : FrHas w F σ a) : ∀ (rs : List ResultVar) (acc : List SV) (K : List SV → Prop) (va : List Value), sRes tt σ L rs acc K → HasL w F acc.reverse va →
    ∃ l vs, (rs.mapM fun | .tmp t => pure (a.tmps.getD t undef) | .cell b t => do loadVar t (← asAddr (a.tmps.getD b undef)) : Sem (List Value)).run P w = .ok vs w ∧ K l ∧ HasL w F l (va ++ vs)
  | [], acc, K, va, h, hva => ⟨acc.reverse, [], by simp, h, by simpa using hva⟩
  | .tmp t :: rs, acc, K, va, h, hva => by
    have hap : ∀ {ss : List SV} {vs : List Value} {s v}, HasL w F ss vs → Has w F s v → HasL w F (ss ++ [s]) (vs ++ [v]) := by
      intro ss
      induction ss with
      | nil => intro vs s v h1 h2; cases vs with | nil => exact ⟨h2, trivial⟩ | cons => exact h1.elim
      | cons s' ss ih => intro vs s v h1 h2; cases vs with | nil => exact h1.elim | cons v' vs => exact ⟨h1.1, ih h1.2 h2⟩
    unfold sRes at h
    rw [fc_eq] at h
    obtain ⟨l, vs, h1, h2, h3⟩ := sRes_run htt hs hf rs (σ t :: acc) K (va ++ [a.tmps.getD t undef]) h (by rw [List.reverse_cons]; exact hap hva (hf t))
    refine ⟨l, a.tmps.getD t undef :: vs, ?_, h2, by simpa using h3⟩
    simp only [List.mapM_cons, Sem.run_bind, Sem.run_pure, Result.andThen_ok, h1]
  | .cell b t :: rs, acc, K, va, h, hva => by
    have hap : ∀ {ss : List SV} {vs : List Value} {s v}, HasL w F ss vs → Has w F s v → HasL w F (ss ++ [s]) (vs ++ [v]) := by
      intro ss
      induction ss with
      | nil => intro vs s v h1 h2; cases vs with | nil => exact ⟨h2, trivial⟩ | cons => exact h1.elim
      | cons s' ss ih => intro vs s v h1 h2; cases vs with | nil => exact h1.elim | cons v' vs => exact ⟨h1.1, ih h1.2 h2⟩
    unfold sRes at h
    obtain ⟨v, r, hr, hK, hv⟩ := s_load (P := P) h htt.fetch hs (hf b)
    obtain ⟨l, vs, h1, h2, h3⟩ := sRes_run htt hs hf rs (r :: acc) K (va ++ [v]) hK (by rw [List.reverse_cons]; exact hap hva hv)
    refine ⟨l, v :: vs, ?_, h2, by simpa using h3⟩
    have hv' : (do loadVar t (← asAddr (a.tmps.getD b undef)) : Sem Value).run P w = .ok v w := by
      unfold Instr.loadAt at hr
      generalize a.tmps.getD b undef = x at hr
      cases x <;> simp [Instr.sureAddr, stuck, Sem.run] at hr
      rename_i p
      cases p <;> simp [Instr.sureAddr, stuck, Sem.run] at hr
      simpa [asAddr] using hr
    simp only [List.mapM_cons, Sem.run_bind] at hv' ⊢
    rw [hv']
    simp only [Result.andThen_ok, h1, Sem.run_pure]

theorem has_resV {w : World} {F : Nat → Prop} {l : List SV} {vs : List Value} (h : HasL w F l vs) : Has w F (resV l) (if h : vs.toArray.size = 1 then vs.toArray[0] else .tuple vs.toArray) := by
  have hl := h.length
  have gen : ∀ l : List SV, l.length ≠ 1 → HasL w F l vs → l.length = vs.length → Has w F (.tup l.length fun k => l.getD k (.val undef)) (.tuple vs.toArray) := fun l _ h hl =>
    ⟨vs.toArray, rfl, by simpa using hl.symm, fun k hk => by simpa using h.get k⟩
  match l, vs, h, hl with
  | [], [], h, hl => simpa [resV] using gen [] (by simp) h hl
  | [s], [v], h, hl => simpa [resV] using h.1
  | s :: s' :: l, v :: v' :: vs, h, hl => simpa [resV] using gen (s :: s' :: l) (by simp) h hl

theorem SCalls.enter (htt : TTok P tt) {f : FuncId} {fn : Func} {c : Code} (hfn : P.funcs[f]? = some fn) (hnm : (fn.name == "runtime.NumGoroutine") = false) (hb : fn.body = some c) {ss : List SV} {H : List Hp} {K : SV → List Hp → Prop} (L : Hpl) (hL : L.map Prod.snd = H) (σ : Fr)
    (hσ : ∀ w F v k, Has w F (ss.getD k (.val undef)) v → Has w F (σ k) v) (hn : ss.length ≤ fn.ntmps)
    (h : HT P fn.ntmps c (Qret tt fn.results.toList K) ⟨σ, L, 100⟩) : SCalls P f ss H K := by
  refine ⟨⟨fn, hfn, hnm, by rw [hb]; rfl⟩, fun w F vs hs hv => ?_⟩
  subst hL
  have hvl := hv.length
  refine calls_of_wp hfn hb (Code.wp_mono ?_ (h.h _ w F ⟨?_, rfl, fun k => ?_, hs⟩))
  · rintro e a' w' ⟨s', F', hq, hs', hk, hF⟩
    have key : sRes tt s'.σ s'.L fn.results.toList [] (fun l => fc (resV l).norm fun r => fcH (s'.L.map Prod.snd) fun H => Fin r H K) → a'.defers = [] ∧ ∃ v, (results fn a'.tmps).run P w' = .ok v w' ∧ ∃ v', Ending.returned v = .returned v' ∧ ∃ r F' H', K r H' ∧ Keep F w w' ∧ (∀ b, F b → F' b) ∧ HSat w' F' H' ∧ Has w' F' r v' := fun hq => by
      obtain ⟨l, rv, h1, h2, h3⟩ := sRes_run htt hs'.heap hs'.fr fn.results.toList [] _ [] hq trivial
      rw [fc_eq, fcH_eq] at h2
      obtain ⟨r', H', he, hK⟩ := h2.h
      have h3' : HasL w' F' l rv := h3
      obtain ⟨F2, q1, q2, q3⟩ := he w' F' _ hs'.heap (has_resV h3').norm
      refine ⟨hs'.defers, _, ?_, _, rfl, r', F2, H', hK, hk, fun b hb => q1 b (hF b hb), q2, q3⟩
      unfold results
      rw [Array.mapM_eq_mapM_toList]
      simp only [map_eq_pure_bind, Sem.run_bind]
      have fin : ∀ x : Result (List Value), x = .ok rv w' → ((x.andThen fun a w' => Sem.run P (pure a.toArray) w').andThen fun (a : Array Value) w' => Sem.run P (pure (if h : a.size = 1 then a[0] else Value.tuple a)) w') = .ok (if h : rv.toArray.size = 1 then rv.toArray[0] else .tuple rv.toArray) w' := fun x hx => by
        rw [hx]
        simp only [Result.andThen_ok, Sem.run_pure]
      exact fin _ h1
    cases e with
    | normal => exact key hq
    | ret => exact key hq
    | exit => exact hq.elim
    | goto => exact hq.elim
    | panic => exact hq.elim
    | outgrown => exact hq.elim
  · have : vs.toArray.size = ss.length := by simpa using hvl.symm
    simp only [Array.size_append, Array.size_replicate, this]
    omega
  · refine hσ w F _ k ?_
    have := hv.get k
    have e : (vs.toArray ++ Array.replicate (fn.ntmps - vs.toArray.size) undef).getD k undef = vs.getD k undef := by
      rw [Array.getD_eq_getD_getElem?, List.getD_eq_getElem?_getD]
      by_cases hk : k < vs.length
      · rw [Array.getElem?_append_left (by simpa using hk)]
        simp
      · rw [Array.getElem?_append_right (by simpa using hk), List.getElem?_eq_none (by omega)]
        simp only [Array.getElem?_replicate]
        split <;> rfl
    rw [e]
    exact this
/-- the frame of the arguments -/
def argF (ss : List SV) : Fr := fun k => ss.getD k (.val undef)

end
end Go.Proofs.Ytbcmpfhemangpaa
