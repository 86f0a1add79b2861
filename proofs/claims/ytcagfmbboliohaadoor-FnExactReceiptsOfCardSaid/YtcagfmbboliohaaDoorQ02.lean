/- Texts of this proof put together: Rg, SxB. -/
import Derived.Conc.LoneCalls
import Derived.StillTail
import Derived.RangeFuncNested
import Derived.OrdersIn
import Derived.TacticsIn
import Derived.Sort.LoopGhostIn
import Derived.Tactics
import Derived.Test.YtcagfmbboliohaaDoorQ01
/-! YtcagfmbboliohaaDoorRg -/
set_option linter.all false
namespace Go.Proofs.YtcagfmbboliohaaDoor

def dstOf (ops : Array Oper) (k : Nat) : Option Tmp := (ops[k]?).bind (·.dst)

/-- the frame behind the first k operations, in the order of the text -/
def cfr (ops : Array Oper) (a0 : Act) (vs : Nat → Value) : Nat → Act
  | 0 => a0
  | k + 1 => (cfr ops a0 vs k).put (dstOf ops k) (vs k)
/-- the frame behind those of the first k operations that are listed -/
def dfr (ops : Array Oper) (a0 : Act) (D : Array Bool) (vs : Nat → Value) : Nat → Act
  | 0 => a0
  | k + 1 => if D.getD k false = true then (dfr ops a0 D vs k).put (dstOf ops k) (vs k) else dfr ops a0 D vs k

/-- what one operation does, by its value -/
def StepO (P : Program) (o : Oper) (ρ : Operand → Value) (w : World) (K : Value → World → Prop) : Prop :=
  match (execOp ρ o).run P w with
  | .ok (.value v) w' => K v w'
  | .ok .skip w' => K undef w'
  | .ok (.enter f args) w' => Calls P f args w' fun | .returned v, w'' => K v w'' | _, _ => False
  | .ok (.row row args) w' => Rows P row args w' K
  | _ => False
def StepW (P : Program) (ops : Array Oper) (o : Oper) (a : Act) (w : World) (K : Value → World → Prop) : Prop :=
  if Region.wanted o (yielded ops a.tmps) = true then StepO P o a.eval w K else K undef w

theorem StepO.value {P : Program} {o : Oper} {ρ : Operand → Value} {w w' : World} {v : Value} {K : Value → World → Prop} (h : (execOp ρ o).run P w = .ok (.value v) w') (hk : K v w') : StepO P o ρ w K := by
  unfold StepO; rw [h]; exact hk
theorem StepO.skip {P : Program} {o : Oper} {ρ : Operand → Value} {w w' : World} {K : Value → World → Prop} (h : (execOp ρ o).run P w = .ok .skip w') (hk : K undef w') : StepO P o ρ w K := by
  unfold StepO; rw [h]; exact hk
theorem StepO.enter {P : Program} {o : Oper} {ρ : Operand → Value} {w w' : World} {f : FuncId} {args : Array Value} {K : Value → World → Prop} (h : (execOp ρ o).run P w = .ok (.enter f args) w')
    (hc : Calls P f args w' fun e w'' => ∃ v, e = .returned v ∧ K v w'') : StepO P o ρ w K := by
  unfold StepO; rw [h]
  refine hc.mono ?_
  rintro e w'' ⟨v, rfl, hk⟩
  exact hk

theorem StepO.mono {P : Program} {o : Oper} {ρ : Operand → Value} {w : World} {K K' : Value → World → Prop} (h : StepO P o ρ w K) (hk : ∀ v w', K v w' → K' v w') : StepO P o ρ w K' := by
  unfold StepO at h ⊢
  split
  · rename_i v w' hr; rw [hr] at h; exact hk _ _ h
  · rename_i w' hr; rw [hr] at h; exact hk _ _ h
  · rename_i f args w' hr
    rw [hr] at h
    refine h.mono fun e w'' he => ?_
    first
      | (obtain ⟨v, e1, h1⟩ := he; exact ⟨v, e1, hk _ _ h1⟩)
      | (cases e with
         | returned v => exact hk _ _ he
         | _ => exact he.elim)
  · rename_i row args w' hr
    rw [hr] at h
    exact Rows.mono h fun v w'' he => hk _ _ he
  · rename_i h1 h2 h3 h4
    generalize (execOp ρ o).run P w = res at h h1 h2 h3 h4
    cases res with
    | halt => exact h.elim
    | ok n w' => cases n <;> first | exact h.elim | exact absurd rfl (h1 _ _) | exact absurd rfl (h2 _) | exact absurd rfl (h3 _ _ _) | exact absurd rfl (h4 _ _ _)
theorem StepO.wp {P : Program} {o : Oper} {a : Act} {w : World} {K : Value → World → Prop} {next : Act → World → Prop} {Q : Exit → Act → World → Prop} (h : StepO P o a.eval w K)
    (hk : ∀ v w', K v w' → next (a.put o.dst v) w') : o.wp P a w next Q := by
  unfold StepO at h
  unfold Oper.wp
  generalize (execOp a.eval o).run P w = r at h
  cases r with
  | halt x w' => exact h.elim
  | ok n w' =>
    cases n with
    | value v => exact hk _ _ h
    | skip => exact hk _ _ h
    | enter f args =>
      refine Calls.mono h ?_
      intro e w'' he
      cases e with
      | returned v => exact hk _ _ he
      | panicked c => exact he.elim
      | outgrown => exact he.elim
    | row row args => exact Rows.mono h fun v w'' he => hk _ _ he
    | _ => exact h.elim

theorem put_size (a : Act) (d : Option Tmp) (v : Value) : (a.put d v).tmps.size = a.tmps.size := by cases d <;> simp [Act.put]
theorem put_get_ne {a : Act} {d : Option Tmp} {t : Tmp} (v : Value) (h : d ≠ some t) : (a.put d v).tmps[t]? = a.tmps[t]? := by
  cases d with
  | none => rfl
  | some d => simp only [Act.put]; rw [Array.getElem?_setIfInBounds_ne (fun e => h (by rw [e]))]
theorem put_get_congr {a b : Act} {d : Option Tmp} {t : Tmp} (v : Value) (hs : a.tmps.size = b.tmps.size) (h : a.tmps[t]? = b.tmps[t]?) : (a.put d v).tmps[t]? = (b.put d v).tmps[t]? := by
  cases d with
  | none => exact h
  | some d =>
    by_cases e : d = t
    · subst e; simp only [Act.put, Array.getElem?_setIfInBounds_self, hs]
    · rw [put_get_ne v (by simpa using e), put_get_ne v (by simpa using e)]; exact h
theorem put_same_none (a : Act) (v : Value) : a.put none v = a := rfl

theorem cfr_size {ops : Array Oper} {a0 : Act} {vs : Nat → Value} : ∀ k, (cfr ops a0 vs k).tmps.size = a0.tmps.size
  | 0 => rfl
  | k + 1 => by rw [cfr, put_size, cfr_size k]
theorem dfr_size {ops : Array Oper} {a0 : Act} {D : Array Bool} {vs : Nat → Value} : ∀ k, (dfr ops a0 D vs k).tmps.size = a0.tmps.size
  | 0 => rfl
  | k + 1 => by
    unfold dfr
    split
    · rw [put_size, dfr_size k]
    · exact dfr_size k

/-- the order of the text gives every operation what it looks at -/
def rgB (ops : Array Oper) (n : Nat) : Bool :=
  (List.range n).all fun i => match ops[i]? with
    | none => false
    | some o => (o.after.all fun e => decide (e.on < i)) && (List.range n).all fun j => j == i ||
      ((match dstOf ops j with
        | none => true
        | some t => !(o.looksAt ops).contains t || (if j < i then Region.waitsFor .any ops i j else Region.waitsFor .any ops j i)) &&
       (o.dst == none || o.dst != dstOf ops j))
def rgAll (ops : Array Oper) (n : Nat) : Bool :=
  Region.noSelect ops && decide (n ≤ ops.size) && rgB ops n && (decide (n = ops.size) || (Region.sinkB .any ops n && Region.chainB .any ops n)) &&
    Region.seqB .any ops (ops.size - n) n (List.replicate n true ++ List.replicate (ops.size - n) false).toArray

theorem rgB_spec {ops : Array Oper} {n i : Nat} {o : Oper} (h : rgB ops n = true) (hi : i < n) (ho : ops[i]? = some o) :
    (∀ e ∈ o.after, e.on < i) ∧ (∀ j t, j < n → j ≠ i → dstOf ops j = some t → t ∈ o.looksAt ops → if j < i then Region.waitsFor .any ops i j = true else Region.waitsFor .any ops j i = true) ∧
    (∀ j d, j < n → j ≠ i → o.dst = some d → dstOf ops j ≠ some d) := by
  have h1 := List.all_eq_true.1 h i (List.mem_range.2 hi)
  rw [ho] at h1
  simp only [Bool.and_eq_true] at h1
  obtain ⟨ha, hb⟩ := h1
  refine ⟨fun e he => by simpa using Array.all_eq_true_iff_forall_mem.1 ha e he, fun j t hj hne hd ht => ?_, fun j d hj hne hd hdj => ?_⟩
  · have h2 := List.all_eq_true.1 hb j (List.mem_range.2 hj)
    simp only [Bool.or_eq_true, beq_iff_eq, hne, false_or, Bool.and_eq_true] at h2
    have h3 := h2.1
    rw [hd] at h3
    have ht' : (o.looksAt ops).contains t = true := by simpa using ht
    simp only [ht', Bool.not_true, Bool.false_or] at h3
    split at h3
    · rename_i hlt; rw [if_pos hlt]; exact h3
    · rename_i hlt; rw [if_neg hlt]; exact h3
  · have h2 := List.all_eq_true.1 hb j (List.mem_range.2 hj)
    simp only [Bool.or_eq_true, beq_iff_eq, hne, false_or, Bool.and_eq_true] at h2
    have h3 := h2.2
    rw [hd, hdj] at h3
    simp at h3

/-- in whatever order: an operation that may come up sees what it would see in the order of the text -/
theorem dfr_agree {ops : Array Oper} {a0 : Act} {D : Array Bool} {vs : Nat → Value} {n i : Nat} {o : Oper} (hB : rgB ops n = true) (hi : i < n) (ho : ops[i]? = some o) (inv : HeadInv .any ops n D) (hr : i ∈ Region.ready .any ops D)
    {t : Tmp} (ht : t ∈ o.looksAt ops) : ∀ k, k ≤ n → (dfr ops a0 D vs k).tmps[t]? = (cfr ops a0 vs (min k i)).tmps[t]?
  | 0, _ => by simp [dfr, cfr]
  | k + 1, hk => by
    have ih := dfr_agree (a0 := a0) (vs := vs) hB hi ho inv hr ht k (by omega)
    obtain ⟨hun, oi, hoi, hall⟩ := mem_ready.1 hr
    obtain rfl : oi = o := Option.some.inj (hoi.symm.trans ho)
    have hs := (rgB_spec hB hi ho).2.1
    rcases Nat.lt_trichotomy k i with hki | hki | hki
    · rw [show min (k + 1) i = k + 1 by omega, cfr]
      rw [show min k i = k by omega] at ih
      unfold dfr
      split
      · exact put_get_congr _ (by rw [dfr_size, cfr_size]) ih
      · rename_i hD
        rw [ih]
        refine (put_get_ne _ fun hd => hD ?_).symm
        have := hs k t (by omega) (by omega) hd ht
        rw [if_pos hki] at this
        obtain ⟨oj, hoj, e, he, hb, hon⟩ := Region.waitsFor_spec this
        obtain rfl : oj = oi := Option.some.inj (hoj.symm.trans hoi)
        rw [← hon]
        exact hall e he hb
    · subst hki
      rw [show min (k + 1) k = min k k by omega]
      unfold dfr
      rw [if_neg (by rw [getD_both hun]; simp)]
      exact ih
    · rw [show min (k + 1) i = min k i by omega]
      unfold dfr
      split
      · rename_i hD
        rw [← ih]
        refine put_get_ne _ fun hd => ?_
        have := hs k t (by omega) (by omega) hd ht
        rw [if_neg (by omega)] at this
        obtain ⟨ok, hok, e, he, hb, hon⟩ := Region.waitsFor_spec this
        have h2 := inv.closed k ok hok hD e he hb
        rw [hon, getD_both hun] at h2
        cases h2
      · exact ih

theorem eval_agree {a b : Act} {t : Tmp} (h : a.tmps[t]? = b.tmps[t]?) : a.eval (.tmp t) = b.eval (.tmp t) := by
  simp only [Act.eval, Array.getD_eq_getD_getElem?, h]
theorem execOp_agree {ops : Array Oper} {a b : Act} {o : Oper} (hs : ∀ cs b, o.op ≠ .select cs b) (h : ∀ t ∈ o.looksAt ops, a.tmps[t]? = b.tmps[t]?) : execOp a.eval o = execOp b.eval o := by
  refine execOp_congr o hs fun x hx => ?_
  cases x with
  | tmp t => exact eval_agree (h t (List.mem_append_left _ (List.mem_filterMap.2 ⟨.tmp t, by simpa using hx, rfl⟩)))
  | _ => rfl
theorem wanted_agree {ops : Array Oper} {a b : Act} {o : Oper} (h : ∀ t ∈ o.looksAt ops, a.tmps[t]? = b.tmps[t]?) : Region.wanted o (yielded ops a.tmps) = Region.wanted o (yielded ops b.tmps) := by
  unfold Region.wanted
  cases hg : o.guard with
  | none => rfl
  | some p =>
    obtain ⟨g, want⟩ := p
    simp only [yielded]
    cases hd : (ops[g]?).bind (·.dst) with
    | none => rfl
    | some d =>
      have : a.tmps[d]? = b.tmps[d]? := h d (List.mem_append_right _ (by simp [hg, hd]))
      simp [this]

theorem dfr_set {ops : Array Oper} {a0 : Act} {D : Array Bool} {vs : Nat → Value} {n i : Nat} {o : Oper} {v : Value} (hB : rgB ops n = true) (hi : i < n) (ho : ops[i]? = some o) (hsz : i < D.size) (hun : D.getD i false = false) :
    ∀ k, k ≤ n → dfr ops a0 (D.setIfInBounds i true) (fun j => if j = i then v else vs j) k = if k ≤ i then dfr ops a0 D vs k else (dfr ops a0 D vs k).put o.dst v
  | 0, _ => by simp [dfr]
  | k + 1, hk => by
    have ih := dfr_set (v := v) (vs := vs) (a0 := a0) hB hi ho hsz hun k (by omega)
    have hd : dstOf ops i = o.dst := by simp [dstOf, ho]
    rcases Nat.lt_trichotomy k i with hki | hki | hki
    · rw [if_pos (by omega)] at ih
      rw [if_pos (by omega)]
      unfold dfr
      rw [getD_set_ne false (by omega), ih]
      simp only [if_neg (show ¬ k = i by omega)]
    · subst hki
      rw [if_pos (by omega)] at ih
      rw [if_neg (by omega)]
      unfold dfr
      rw [if_pos (by simp [hsz]), ih, if_pos rfl, hd, if_neg (by rw [hun]; simp)]
    · rw [if_neg (by omega)] at ih
      rw [if_neg (by omega)]
      unfold dfr
      rw [getD_set_ne false (by omega), ih]
      simp only [if_neg (show ¬ k = i by omega)]
      split
      · refine Act.put_comm _ _ _ fun d hd' => ?_
        exact (rgB_spec hB hi ho).2.2 k d (by omega) (by omega) hd'
      · rfl

theorem dfr_full {ops : Array Oper} {a0 : Act} {D : Array Bool} {vs : Nat → Value} {n : Nat} (h : ∀ i, i < n → D.getD i false = true) : ∀ k, k ≤ n → dfr ops a0 D vs k = cfr ops a0 vs k
  | 0, _ => rfl
  | k + 1, hk => by unfold dfr cfr; rw [if_pos (h k (by omega)), dfr_full h k (by omega)]

/-- how many of the first n are not yet listed -/
def unl (D : Array Bool) : Nat → Nat
  | 0 => 0
  | k + 1 => unl D k + if D.getD k false = true then 0 else 1
theorem unl_zero {D : Array Bool} : ∀ {n}, unl D n = 0 → ∀ i, i < n → D.getD i false = true
  | 0, _, i, hi => absurd hi (by omega)
  | n + 1, h, i, hi => by
    unfold unl at h
    split at h
    · rename_i hD
      rcases Nat.lt_or_ge i n with h' | h'
      · exact unl_zero (by omega) i h'
      · obtain rfl : i = n := by omega
        exact hD
    · omega
theorem unl_pos {D : Array Bool} : ∀ {n}, 0 < unl D n → ∃ i, i < n ∧ D.getD i false = false ∧ ∀ j, j < i → D.getD j false = true
  | 0, h => absurd h (by simp [unl])
  | n + 1, h => by
    by_cases h0 : 0 < unl D n
    · obtain ⟨i, hi, h1, h2⟩ := unl_pos h0
      exact ⟨i, by omega, h1, h2⟩
    · refine ⟨n, by omega, ?_, fun j hj => unl_zero (by omega) j hj⟩
      unfold unl at h
      split at h
      · omega
      · rename_i hD; simpa using hD
theorem unl_set {D : Array Bool} {i : Nat} (hs : i < D.size) (hun : D.getD i false = false) : ∀ n, unl (D.setIfInBounds i true) n = if n ≤ i then unl D n else unl D n - 1
  | 0 => by simp [unl]
  | n + 1 => by
    have ih := unl_set hs hun n
    have hp : i < n → 0 < unl D n := fun hin => by
      rcases Nat.eq_zero_or_pos (unl D n) with h0 | h0
      · have := unl_zero h0 i hin
        rw [hun] at this; cases this
      · exact h0
    unfold unl
    rcases Nat.lt_trichotomy n i with h | h | h
    · rw [if_pos (by omega)] at ih
      rw [ih, getD_set_ne false (by omega), if_pos (show n + 1 ≤ i by omega)]
    · subst h
      rw [if_pos (by omega)] at ih
      have : (D.setIfInBounds n true).getD n false = true := by simp [hs]
      rw [ih, this, if_pos rfl, hun, if_neg (show ¬ (n + 1 ≤ n) by omega), if_neg (by simp)]
      omega
    · rw [if_neg (by omega)] at ih
      have := hp h
      rw [ih, getD_set_ne false (by omega), if_neg (show ¬ (n + 1 ≤ i) by omega)]
      omega

/-- what is said of one operation: a fact on its value; which blocks are the value's own; whose facts it needs, and which of those it uses up -/
structure RgSpec where
  φ : List Value → Value → World → Prop
  own : Value → Nat → Prop
  needs : List Nat
  cons : List Nat

def RgSpec.dflt : RgSpec := ⟨fun _ _ _ => True, fun _ _ => False, [], []⟩
/-- one more -/
def spPut (sp : Nat → RgSpec) (i : Nat) (s : RgSpec) : Nat → RgSpec := fun j => if j = i then s else sp j
/-- an operation's fact stands while the world goes on by R and its own blocks stay -/
def RgSpec.Stable (R : World → World → Prop) (s : RgSpec) : Prop := ∀ ps v w w', R w w' → (∀ b, s.own v b → w'.heap[b]? = w.heap[b]?) → s.φ ps v w → s.φ ps v w'
/-- its fact, of the values at hand -/
def RgSpec.fact (s : RgSpec) (vs : Nat → Value) (v : Value) (w : World) : Prop := s.φ (s.needs.map vs) v w
/-- a state of the world that some of the operations hand on from one to the next: which of them is the how many-th; what stands behind k of them -/
structure RgTok where
  many : Nat
  rank : Nat → Option Nat
  st : Nat → World → Prop
def RgTok.none : RgTok := ⟨0, fun _ => .none, fun _ _ => True⟩
def tokB (tk : RgTok) (n : Nat) (ops : Array Oper) : Bool :=
  (List.range n).all fun i => match tk.rank i with
    | .none => true
    | some j => decide (j < tk.many) && ((List.range n).all fun i' => i' == i || tk.rank i' != some j) && (j == 0 || (List.range n).any fun i' => tk.rank i' == some (j - 1) && Region.waitsFor .any ops i i')
/-- the facts of those that are needed -/
def NeedsHold (sp : Nat → RgSpec) (vs : Nat → Value) (w : World) : List Nat → Prop
  | [] => True
  | j :: js => (sp j).fact vs (vs j) w ∧ NeedsHold sp vs w js
/-- how the world may have turned behind one operation, and what stands of its value -/
def RgOut (R : World → World → Prop) (B : Nat) (tk : RgTok) (i : Nat) (sp : Nat → RgSpec) (s : RgSpec) (vs : Nat → Value) (w : World) (v : Value) (w' : World) : Prop :=
  R w w' ∧ (match tk.rank i with | .none => ∀ k, tk.st k w → tk.st k w' | some j => tk.st (j + 1) w') ∧ w.heap.size ≤ w'.heap.size ∧ (∀ b, B ≤ b → b < w.heap.size → (∀ j ∈ s.cons, ¬ (sp j).own (vs j) b) → w'.heap[b]? = w.heap[b]?) ∧
    (∀ b, s.own v b → B ≤ b ∧ b < w'.heap.size ∧ (w.heap.size ≤ b ∨ ∃ j ∈ s.cons, (sp j).own (vs j) b)) ∧ s.fact vs v w'

def rgUse (sp : Nat → RgSpec) (n : Nat) (ops : Array Oper) : Bool :=
  (List.range n).all fun i => ((sp i).needs.all fun j => decide (j < i) && Region.waitsFor .any ops i j) && ((sp i).cons.all fun j => (sp i).needs.contains j) &&
    (List.range n).all fun k => k == i || (sp i).cons.all fun j => !(sp k).needs.contains j
def rgUsed (sp : Nat → RgSpec) (n : Nat) (i : Nat) : Bool := (List.range n).any fun k => (sp k).cons.contains i

theorem rgUse_spec {sp : Nat → RgSpec} {n : Nat} {ops : Array Oper} (h : rgUse sp n ops = true) {i : Nat} (hi : i < n) :
    (∀ j ∈ (sp i).needs, j < i ∧ Region.waitsFor .any ops i j = true) ∧ (∀ j ∈ (sp i).cons, j ∈ (sp i).needs) ∧ ∀ k, k < n → k ≠ i → ∀ j ∈ (sp i).cons, j ∉ (sp k).needs := by
  have h1 := List.all_eq_true.1 h i (List.mem_range.2 hi)
  simp only [Bool.and_eq_true] at h1
  obtain ⟨⟨ha, hb⟩, hc⟩ := h1
  refine ⟨fun j hj => by simpa using List.all_eq_true.1 ha j hj, fun j hj => by simpa using List.all_eq_true.1 hb j hj, fun k hk hne j hj => ?_⟩
  have h2 := List.all_eq_true.1 hc k (List.mem_range.2 hk)
  simp only [Bool.or_eq_true, beq_iff_eq, hne, false_or] at h2
  simpa using List.all_eq_true.1 h2 j hj

theorem needs_of {sp : Nat → RgSpec} {vs : Nat → Value} {w : World} : ∀ {js : List Nat}, (∀ j ∈ js, (sp j).fact vs (vs j) w) → NeedsHold sp vs w js
  | [], _ => trivial
  | j :: js, h => ⟨h j (by simp), needs_of fun k hk => h k (by simp [hk])⟩

section
variable {P : Program} {l : List Oper} {Q : Exit → Act → World → Prop}

/-- the facts that stand when all has been listed that is listed -/
structure RgInv (R : World → World → Prop) (B : Nat) (tk : RgTok) (sp : Nat → RgSpec) (n : Nat) (w0 : World) (D : Array Bool) (vs : Nat → Value) (w : World) : Prop where
  rel : R w0 w
  tok : ∃ k, k ≤ tk.many ∧ (∀ i j, i < n → tk.rank i = some j → (D.getD i false = true ↔ j < k)) ∧ tk.st k w
  base : B ≤ w.heap.size
  fact : ∀ i, i < n → D.getD i false = true → (∀ k, k < n → D.getD k false = true → i ∉ (sp k).cons) → (sp i).fact vs (vs i) w ∧ ∀ b, (sp i).own (vs i) b → B ≤ b ∧ b < w.heap.size
  apart : ∀ i j, i < n → j < n → i ≠ j → D.getD i false = true → D.getD j false = true → (∀ k, k < n → D.getD k false = true → i ∉ (sp k).cons) → (∀ k, k < n → D.getD k false = true → j ∉ (sp k).cons) →
    ∀ b, (sp i).own (vs i) b → ¬ (sp j).own (vs j) b

theorem wpAny_rg (n B : Nat) (tk : RgTok) (a0 : Act) (w0 : World) (R : World → World → Prop) (sp : Nat → RgSpec) (hB : rgAll l.toArray n = true) (hU : rgUse sp n l.toArray = true) (hTk : tokB tk n l.toArray = true) (htrans : ∀ u v w, R u v → R v w → R u w)
    (hst : ∀ i, i < n → (sp i).Stable R)
    (hob : ∀ i o, i < n → l.toArray[i]? = some o → ∀ vs w, R w0 w → B ≤ w.heap.size → (∀ j, tk.rank i = some j → tk.st j w) → (∀ j ∈ (sp i).needs, (sp j).fact vs (vs j) w ∧ ∀ b, (sp j).own (vs j) b → B ≤ b ∧ b < w.heap.size) → StepW P l.toArray o (cfr l.toArray a0 vs i) w (RgOut R B tk i sp (sp i) vs w))
    (hend : ∀ vs w, RgInv R B tk sp n w0 (Array.replicate n true) vs w → wpList P l.toArray Q (l.drop n) (cfr l.toArray a0 vs n) w) :
    ∀ (f : Nat) (D : Array Bool) (vs : Nat → Value) (w : World), HeadInv .any l.toArray n D → unl D n = f → RgInv R B tk sp n w0 D vs w →
      wpAny P .any l.toArray Q (f + (l.length - n)) D (dfr l.toArray a0 D vs n) w := by
  simp only [rgAll, Bool.and_eq_true, decide_eq_true_eq, Bool.or_eq_true] at hB
  obtain ⟨⟨⟨⟨hsel, hn⟩, hrg⟩, htl⟩, hseq⟩ := hB
  have hn' : n ≤ l.length := by simpa using hn
  intro f
  induction f with
  | zero =>
    intro D vs w inv hf I
    have hall := unl_zero hf
    rw [dfr_full hall _ (Nat.le_refl _), Nat.zero_add]
    have hDe : D = (List.replicate n true ++ List.replicate (l.toArray.size - n) false).toArray := by
      refine Array.ext (by rw [inv.size]; simp; omega) fun i h1 h2 => ?_
      by_cases hi : i < n
      · have := hall i hi
        simp [h1] at this
        simp [this, hi]
      · have := inv.tail i (by omega) (by rw [← inv.size]; exact h1)
        simp [h1] at this
        simp [this, List.getElem_append, hi]
    have hdl : (l.drop n).length = l.length - n := by simp
    have hfl : ∀ i, i < n → (Array.replicate n true).getD i false = true := fun i hi => by simp [hi]
    have hI : RgInv R B tk sp n w0 (Array.replicate n true) vs w :=
      ⟨I.rel, (by
        obtain ⟨k, hkm, hk, hst'⟩ := I.tok
        exact ⟨k, hkm, fun i j hi hj => by rw [hfl i hi]; exact (by simpa [hall i hi] using hk i j hi hj), hst'⟩), I.base, fun i hi _ hu => I.fact i hi (hall i hi) fun k hk _ => hu k hk (hfl k hk), fun i j hi hj hne _ _ h1 h2 => I.apart i j hi hj hne (hall i hi) (hall j hj) (fun k hk _ => h1 k hk (hfl k hk)) (fun k hk _ => h2 k hk (hfl k hk))⟩
    have := wpAny_of_seq (md := .any) (Q' := Q) (P := P) (l.drop n) n D (cfr l.toArray a0 vs n) w (fun j => by simp [List.getElem?_drop]) (by rw [hdl, hDe]; simpa using hseq) (hend vs w hI)
    rwa [hdl] at this
  | succ f ih =>
    intro D vs w inv hf I
    rw [show f + 1 + (l.length - n) = (f + (l.length - n)) + 1 by omega]
    have hready : ∀ i ∈ Region.ready .any l.toArray D, i < n := fun i hi => by
      rcases htl with htl | htl
      · obtain ⟨_, o, ho, _⟩ := mem_ready.1 hi
        have := (Array.getElem?_eq_some_iff.1 ho).1
        omega
      · rcases Nat.lt_or_ge i n with h | h
        · exact h
        · obtain ⟨k, hk, hu, _⟩ := unl_pos (D := D) (n := n) (by omega)
          by_cases hns : n < l.toArray.size
          · exact absurd hi (tail_waits htl.1 htl.2 hns inv (n - k) k rfl hk (getD_in (by rw [inv.size]; omega) hu) i h)
          · obtain ⟨_, o, ho, _⟩ := mem_ready.1 hi
            have := (Array.getElem?_eq_some_iff.1 ho).1
            omega
    refine ⟨fun h0 => ?_, fun i hi => ?_⟩
    · obtain ⟨k, hk, hu, hbefore⟩ := unl_pos (D := D) (n := n) (by omega)
      have hks : k < l.toArray.size := by simp; omega
      have ho : l.toArray[k]? = some l.toArray[k] := Array.getElem?_eq_getElem hks
      have : k ∈ Region.ready .any l.toArray D := mem_ready.2 ⟨getD_in (by rw [inv.size]; exact hks) hu, _, ho, fun e he _ => hbefore e.on ((rgB_spec hrg hk ho).1 e he)⟩
      rw [h0] at this
      cases this
    · have hin := hready i hi
      obtain ⟨hun, o, ho, hdeps⟩ := mem_ready.1 hi
      have hun' := getD_both hun
      have hiD : i < D.size := by rw [inv.size]; exact (Array.getElem?_eq_some_iff.1 ho).1
      have hag : ∀ t ∈ o.looksAt l.toArray, (dfr l.toArray a0 D vs n).tmps[t]? = (cfr l.toArray a0 vs i).tmps[t]? := fun t ht => by
        have := dfr_agree (a0 := a0) (vs := vs) hrg hin ho inv hi ht n (Nat.le_refl _)
        rwa [show min n i = i by omega] at this
      have hwait : ∀ k j, k < n → Region.waitsFor .any l.toArray k j = true → D.getD k false = true → D.getD j false = true := fun k j _ hw hk => by
        obtain ⟨ok, hok, e, he, hb, hon⟩ := Region.waitsFor_spec hw
        exact hon ▸ inv.closed k ok hok hk e he hb
      have hU0 := rgUse_spec hU hin
      have hneed : ∀ j ∈ (sp i).needs, j < n ∧ D.getD j false = true ∧ ∀ k, k < n → D.getD k false = true → j ∉ (sp k).cons := fun j hj => by
        obtain ⟨hji, hw⟩ := hU0.1 j hj
        refine ⟨by omega, ?_, fun k hk hkD hc => ?_⟩
        · obtain ⟨oi, hoi, e, he, hb, hon⟩ := Region.waitsFor_spec hw
          obtain rfl : oi = o := Option.some.inj (hoi.symm.trans ho)
          exact hon ▸ hdeps e he hb
        · have hki : i ≠ k := by rintro rfl; rw [hun'] at hkD; cases hkD
          exact (rgUse_spec hU hk).2.2 i hin hki j hc hj
      obtain ⟨kt, hktm, hkt, hkst⟩ := I.tok
      have hTi : ∀ j, tk.rank i = some j → j < tk.many ∧ kt = j ∧ ∀ i', i' < n → i' ≠ i → tk.rank i' ≠ some j := fun j hj => by
        have h1 := List.all_eq_true.1 hTk i (List.mem_range.2 hin)
        rw [hj] at h1
        simp only [Bool.and_eq_true, Bool.or_eq_true] at h1
        refine ⟨by simpa using h1.1.1, ?_, fun i' hi' hne e => ?_⟩
        · have hle : ¬ j < kt := fun hlt => by have := (hkt i j hin hj).2 hlt; rw [hun'] at this; cases this
          rcases h1.2 with h2 | h2
          · have : j = 0 := by simpa using h2
            omega
          · obtain ⟨i', hi', h3⟩ := List.any_eq_true.1 h2
            simp only [Bool.and_eq_true, beq_iff_eq] at h3
            obtain ⟨oi, hoi, e, he, hb, hon⟩ := Region.waitsFor_spec h3.2
            obtain rfl : oi = o := Option.some.inj (hoi.symm.trans ho)
            have := (hkt i' (j - 1) (List.mem_range.1 hi') h3.1).1 (hon ▸ hdeps e he hb)
            omega
        · have h2 := List.all_eq_true.1 h1.1.2 i' (List.mem_range.2 hi')
          simp [hne, e] at h2
      have hs := hob i o hin ho vs w I.rel I.base (fun j hj => (hTi j hj).2.1 ▸ hkst) fun j hj => I.fact j (hneed j hj).1 (hneed j hj).2.1 (hneed j hj).2.2
      have hnext : ∀ v w', RgOut R B tk i sp (sp i) vs w v w' → wpAny P .any l.toArray Q (f + (l.length - n)) (D.setIfInBounds i true) ((dfr l.toArray a0 D vs n).put o.dst v) w' := by
        rintro v w' ⟨hRw, htk, hsz, hkeep, hown, hv⟩
        have hset := dfr_set (a0 := a0) (vs := vs) (v := v) hrg hin ho hiD hun' n (Nat.le_refl _)
        rw [if_neg (by omega)] at hset
        rw [← hset]
        have hsub : ∀ k, k ≠ i → (D.setIfInBounds i true).getD k false = true → D.getD k false = true := fun k hk h => by rwa [getD_set_ne false (Ne.symm hk)] at h
        have hsup : ∀ k, D.getD k false = true → (D.setIfInBounds i true).getD k false = true := fun k h => getD_set_true h
        have hself : (D.setIfInBounds i true).getD i false = true := by simp [hiD]
        -- what is live behind the step, was live before it and is not used up by it
        have hlive : ∀ x, x ≠ i → (∀ k, k < n → (D.setIfInBounds i true).getD k false = true → x ∉ (sp k).cons) → (∀ k, k < n → D.getD k false = true → x ∉ (sp k).cons) ∧ x ∉ (sp i).cons :=
          fun x _ h => ⟨fun k hk hkD => h k hk (hsup k hkD), h i hin hself⟩
        have hfar : ∀ x, x < n → x ≠ i → D.getD x false = true → (∀ k, k < n → D.getD k false = true → x ∉ (sp k).cons) → x ∉ (sp i).cons → ∀ b, (sp x).own (vs x) b → ∀ j ∈ (sp i).cons, ¬ (sp j).own (vs j) b :=
          fun x hx _ hxD hxl hxc b hb j hj hjb => by
            have hjn := hU0.2.1 j hj
            obtain ⟨h1, h2, h3⟩ := hneed j hjn
            have hxj : x ≠ j := fun e => hxc (e ▸ hj)
            exact I.apart x j hx h1 hxj hxD h2 hxl h3 b hb hjb
        have hmap : ∀ x, (∀ j ∈ (sp x).needs, j ≠ i) → (sp x).needs.map (fun j => if j = i then v else vs j) = (sp x).needs.map vs := fun x hx => List.map_congr_left fun j hj => if_neg (hx j hj)
        refine ih _ _ w' (inv.set hi hin) ?_ ⟨htrans _ _ _ I.rel hRw, ?tok, Nat.le_trans I.base hsz, fun x hx hxD hxl => ?_, fun x y hx hy hne hxD hyD hxl hyl b hbx hby => ?_⟩
        case tok =>
          cases hr' : tk.rank i with
          | none =>
            rw [hr'] at htk
            refine ⟨kt, hktm, fun x j hx hj => ?_, htk kt hkst⟩
            have hxi : x ≠ i := by rintro rfl; rw [hr'] at hj; cases hj
            rw [getD_set_ne false (Ne.symm hxi)]
            exact hkt x j hx hj
          | some j0 =>
            rw [hr'] at htk
            obtain ⟨hm0, hk0, hinj⟩ := hTi j0 hr'
            refine ⟨j0 + 1, hm0, fun x j hx hj => ?_, htk⟩
            by_cases hxi : x = i
            · subst hxi
              have : j0 = j := Option.some.inj (hr'.symm.trans hj)
              subst this
              simp [hiD]
            · rw [getD_set_ne false (Ne.symm hxi), hkt x j hx hj, hk0]
              have : j ≠ j0 := fun e => hinj x hx hxi (e ▸ hj)
              omega
        · rw [unl_set hiD hun', if_neg (by omega), hf]; rfl
        · by_cases hxi : x = i
          · subst hxi
            simp only [if_true]
            refine ⟨?_, fun b hb => ⟨(hown b hb).1, (hown b hb).2.1⟩⟩
            unfold RgSpec.fact at hv ⊢
            rw [hmap x fun j hj => (by have := (hU0.1 j hj).1; omega)]
            exact hv
          · simp only [if_neg hxi]
            obtain ⟨hl1, hl2⟩ := hlive x hxi hxl
            have hxD' := hsub x hxi hxD
            obtain ⟨hf1, hf2⟩ := I.fact x hx hxD' hl1
            have hmx : (sp x).needs.map (fun j => if j = i then v else vs j) = (sp x).needs.map vs := hmap x fun j hj e => by
              have := hwait x j hx ((rgUse_spec hU hx).1 j hj).2 hxD'
              rw [e, hun'] at this
              cases this
            unfold RgSpec.fact at hf1 ⊢
            rw [hmx]
            refine ⟨hst x hx _ _ _ _ hRw (fun b hb => hkeep b (hf2 b hb).1 (hf2 b hb).2 (hfar x hx hxi hxD' hl1 hl2 b hb)) hf1, fun b hb => ⟨(hf2 b hb).1, by have := (hf2 b hb).2; omega⟩⟩
        · by_cases hxi : x = i
          · have hyi : y ≠ i := fun e => hne (hxi.trans e.symm)
            subst hxi
            simp only [if_true] at hbx
            simp only [if_neg hyi] at hby
            obtain ⟨hl1, hl2⟩ := hlive y hyi hyl
            have hyD' := hsub y hyi hyD
            obtain ⟨_, hf2⟩ := I.fact y hy hyD' hl1
            rcases (hown b hbx).2.2 with h | ⟨j, hj, hjb⟩
            · have := (hf2 b hby).2; omega
            · exact hfar y hy hyi hyD' hl1 hl2 b hby j hj hjb
          · by_cases hyi : y = i
            · subst hyi
              simp only [if_true] at hby
              simp only [if_neg hxi] at hbx
              obtain ⟨hl1, hl2⟩ := hlive x hxi hxl
              have hxD' := hsub x hxi hxD
              obtain ⟨_, hf2⟩ := I.fact x hx hxD' hl1
              rcases (hown b hby).2.2 with h | ⟨j, hj, hjb⟩
              · have := (hf2 b hbx).2; omega
              · exact hfar x hx hxi hxD' hl1 hl2 b hbx j hj hjb
            · simp only [if_neg hxi] at hbx
              simp only [if_neg hyi] at hby
              exact I.apart x y hx hy hne (hsub x hxi hxD) (hsub y hyi hyD) (hlive x hxi hxl).1 (hlive y hyi hyl).1 b hbx hby
      unfold wpOp
      simp only [ho]
      unfold StepW at hs
      rw [← wanted_agree hag] at hs
      by_cases hw : Region.wanted o (yielded l.toArray (dfr l.toArray a0 D vs n).tmps) = true
      · rw [if_pos hw] at hs ⊢
        have hs' : StepO P o (dfr l.toArray a0 D vs n).eval w (RgOut R B tk i sp (sp i) vs w) := by
          unfold StepO at hs ⊢
          rw [execOp_agree (Region.noSelect_spec hsel i o · · ho) hag]
          exact hs
        exact .inl (hs'.wp hnext)
      · rw [if_neg hw] at hs ⊢
        exact hnext _ _ hs

/-- the operations one after the other, as the text has them: each with what is said of it -/
def RgGo (P : Program) (ops : Array Oper) (R : World → World → Prop) (B : Nat) (tk : RgTok) (w0 : World) (fin : ((Nat → Value) → Act) → (Nat → RgSpec) → Prop) : Nat → List Oper → ((Nat → Value) → Act) → (Nat → RgSpec) → Prop
  | _, [], fr, sp => fin fr sp
  | i, o :: rest, fr, sp => ∃ s : RgSpec, s.Stable R ∧ (∀ vs w, R w0 w → B ≤ w.heap.size → (∀ j, tk.rank i = some j → tk.st j w) → (∀ j ∈ s.needs, ∀ b, (sp j).own (vs j) b → B ≤ b ∧ b < w.heap.size) → NeedsHold sp vs w s.needs → StepW P ops o (fr vs) w (RgOut R B tk i sp s vs w)) ∧
      RgGo P ops R B tk w0 fin (i + 1) rest (fun vs => (fr vs).put o.dst (vs i)) (spPut sp i s)

theorem NeedsHold.get {sp : Nat → RgSpec} {vs : Nat → Value} {w : World} : ∀ {js : List Nat}, NeedsHold sp vs w js → ∀ j ∈ js, (sp j).fact vs (vs j) w
  | _ :: _, h, j, hj => by
    rcases List.mem_cons.1 hj with rfl | hj
    · exact h.1
    · exact NeedsHold.get h.2 j hj

theorem rgGo_list {ops : Array Oper} {R : World → World → Prop} {B : Nat} {tk : RgTok} {w0 : World} {a0 : Act} {fin : ((Nat → Value) → Act) → (Nat → RgSpec) → Prop} : ∀ (rest : List Oper) (i : Nat) (sp : Nat → RgSpec), (∀ j, j < rest.length → rest[j]? = ops[i + j]?) →
    RgGo P ops R B tk w0 fin i rest (fun vs => cfr ops a0 vs i) sp →
    ∃ sp' : Nat → RgSpec, (∀ j, j < i → sp' j = sp j) ∧ fin (fun vs => cfr ops a0 vs (i + rest.length)) sp' ∧ ∀ k o, i ≤ k → k < i + rest.length → ops[k]? = some o → (sp' k).Stable R ∧
      ((∀ j ∈ (sp' k).needs, j < k) → ∀ vs w, R w0 w → B ≤ w.heap.size → (∀ j, tk.rank k = some j → tk.st j w) → (∀ j ∈ (sp' k).needs, (sp' j).fact vs (vs j) w ∧ ∀ b, (sp' j).own (vs j) b → B ≤ b ∧ b < w.heap.size) →
        ((sp' k).cons.all fun j => decide (j < k)) = true → StepW P ops o (cfr ops a0 vs k) w (RgOut R B tk k sp' (sp' k) vs w))
  | [], i, sp, _, h => ⟨sp, fun _ _ => rfl, by simpa [RgGo] using h, fun k o h1 h2 => absurd h2 (by simp; omega)⟩
  | o :: rest, i, sp, hops, h => by
    obtain ⟨s, hs, hob, hrest⟩ := h
    have ho : ops[i]? = some o := by simpa using (hops 0 (by simp)).symm
    have hfr : (fun vs => (cfr ops a0 vs i).put o.dst (vs i)) = (fun vs => cfr ops a0 vs (i + 1)) := by
      funext vs; rw [cfr]; simp [dstOf, ho]
    rw [hfr] at hrest
    obtain ⟨sp', hpre, hfin, hall⟩ := rgGo_list rest (i + 1) (spPut sp i s) (fun j hj => by have := hops (j + 1) (by simp; omega); simpa [Nat.add_assoc, Nat.add_comm 1 j] using this) hrest
    have hpre0 : ∀ j, j < i → sp' j = sp j := fun j hj => by rw [hpre j (by omega)]; unfold spPut; rw [if_neg (by omega)]
    have hsi : sp' i = s := by rw [hpre i (by omega)]; unfold spPut; rw [if_pos rfl]
    refine ⟨sp', hpre0, by rw [show i + (o :: rest).length = i + 1 + rest.length by simp; omega]; exact hfin, fun k ok h1 h2 hok => ?_⟩
    by_cases hki : k = i
    · subst hki
      obtain rfl : o = ok := Option.some.inj (ho.symm.trans hok)
      rw [hsi]
      refine ⟨hs, fun hlt vs w hR hBw htk hn hc => ?_⟩
      have hj : ∀ j ∈ s.needs, sp' j = sp j := fun j hj => hpre0 j (hlt j hj)
      have := hob vs w hR hBw htk (fun j hjn => by have := (hn j hjn).2; rwa [hj j hjn] at this) (needs_of fun j hjn => by have := (hn j hjn).1; rwa [hj j hjn] at this)
      have hcj : ∀ j ∈ s.cons, sp' j = sp j := fun j hjc => hpre0 j (by simpa using List.all_eq_true.1 hc j hjc)
      have hout : RgOut R B tk k sp' s vs w = RgOut R B tk k sp s vs w := by
        funext v w'
        unfold RgOut
        refine propext ⟨fun ⟨a, t, b, c, d, e⟩ => ⟨a, t, b, fun b' h1 h2 h3 => c b' h1 h2 fun j hj => by rw [hcj j hj]; exact h3 j hj, fun b' hb' => ?_, e⟩, fun ⟨a, t, b, c, d, e⟩ => ⟨a, t, b, fun b' h1 h2 h3 => c b' h1 h2 fun j hj => by rw [← hcj j hj]; exact h3 j hj, fun b' hb' => ?_, e⟩⟩
        · obtain ⟨x, y, z⟩ := d b' hb'
          exact ⟨x, y, z.imp id fun ⟨j, hj, hh⟩ => ⟨j, hj, by rwa [← hcj j hj]⟩⟩
        · obtain ⟨x, y, z⟩ := d b' hb'
          exact ⟨x, y, z.imp id fun ⟨j, hj, hh⟩ => ⟨j, hj, by rwa [hcj j hj]⟩⟩
      rw [hout]
      exact this
    · exact hall k ok (by omega) (by simp at h2; omega) hok

/-- what stands behind the first phase, one after the other; True of those that are used up -/
def FactsGo (sp : Nat → RgSpec) (n : Nat) (B : Nat) (vs : Nat → Value) (w : World) : Nat → Nat → Prop
  | _, 0 => True
  | i, k + 1 => (if rgUsed sp n i = true then True else (sp i).fact vs (vs i) w ∧ ∀ b, (sp i).own (vs i) b → B ≤ b ∧ b < w.heap.size) ∧ FactsGo sp n B vs w (i + 1) k
/-- the blocks of two values that are not used up lie apart -/
def RgApart (sp : Nat → RgSpec) (n : Nat) (vs : Nat → Value) : Prop := ∀ i j b, i < n → j < n → i ≠ j → rgUsed sp n i = false → rgUsed sp n j = false → (sp i).own (vs i) b → ¬ (sp j).own (vs j) b

def RgFin (P : Program) (l : List Oper) (Q : Exit → Act → World → Prop) (R : World → World → Prop) (B : Nat) (tk : RgTok) (w0 : World) (n : Nat) (fr : (Nat → Value) → Act) (sp : Nat → RgSpec) : Prop :=
  rgUse sp n l.toArray = true ∧ ∀ vs w, R w0 w → (∃ k, k ≤ tk.many ∧ tk.st k w) → B ≤ w.heap.size → FactsGo sp n B vs w 0 n → RgApart sp n vs → wpList P l.toArray Q (l.drop n) (fr vs) w

theorem rgUsed_false {sp : Nat → RgSpec} {n i : Nat} (h : rgUsed sp n i = false) : ∀ k, k < n → i ∉ (sp k).cons := fun k hk hc => by
  have : rgUsed sp n i = true := by
    unfold rgUsed
    rw [List.any_eq_true]
    exact ⟨k, List.mem_range.2 hk, by simpa using hc⟩
  rw [h] at this
  cases this

theorem facts_of {R : World → World → Prop} {B n : Nat} {tk : RgTok} {sp : Nat → RgSpec} {w0 w : World} {vs : Nat → Value} (I : RgInv R B tk sp n w0 (Array.replicate n true) vs w) : ∀ (k i : Nat), i + k = n → FactsGo sp n B vs w i k
  | 0, _, _ => trivial
  | k + 1, i, hl => by
    have hi : i < n := by omega
    refine ⟨?_, facts_of I k (i + 1) (by omega)⟩
    split
    · trivial
    · rename_i hu
      exact I.fact i hi (by simp [hi]) fun k hk _ => rgUsed_false (by simpa using hu) k hk

/-- THE REGION: its first n operations in whatever order, then the others -/
theorem wp_region_rgT {id : Nat} {a : Act} {w : World} (n B : Nat) (tk : RgTok) (hTk : tokB tk n l.toArray = true) (hT0 : tk.st 0 w.drew) (R : World → World → Prop) (hm : P.follows .mixedOrders = true) (hB : rgAll l.toArray n = true) (hrefl : ∀ w, R w w) (htrans : ∀ u v w, R u v → R v w → R u w) (hbase : B ≤ w.heap.size)
    (h : RgGo P l.toArray R B tk w.drew (RgFin P l Q R B tk w.drew n) 0 (l.take n) (fun _ => a) (fun _ => .dflt)) : (Code.region id l.toArray true).wp P Q a w := by
  have hn : n ≤ l.length := by
    simp only [rgAll, Bool.and_eq_true, decide_eq_true_eq] at hB
    simpa using hB.1.1.1.2
  have htl : (l.take n).length = n := by simp; omega
  obtain ⟨sp, _, ⟨hU, hend⟩, hall⟩ := rgGo_list (a0 := a) (l.take n) 0 (fun _ => .dflt) (fun j hj => by
    have hj' : j < n := by rw [htl] at hj; exact hj
    simp [hj']) h
  rw [Nat.zero_add, htl] at hend
  refine wp_region_any hm ?_
  have inv0 : HeadInv .any l.toArray n (Array.replicate l.toArray.size false) :=
    ⟨by simp, fun j oj _ hl => (by rw [getD_replicate_false] at hl; cases hl), fun t _ ht => getD_in (by simpa using ht) (getD_replicate_false _ _)⟩
  have hu : ∀ k, unl (Array.replicate l.toArray.size false) k = k := fun k => by
    induction k with
    | zero => rfl
    | succ k ih => unfold unl; rw [ih, getD_replicate_false]; simp
  have hd : ∀ k, dfr l.toArray a (Array.replicate l.toArray.size false) (fun _ => undef) k = a := fun k => by
    induction k with
    | zero => rfl
    | succ k ih => unfold dfr; rw [getD_replicate_false, if_neg (by simp), ih]
  have hI0 : RgInv R B tk sp n w.drew (Array.replicate l.toArray.size false) (fun _ => undef) w.drew :=
    ⟨hrefl _, ⟨0, Nat.zero_le _, fun i j _ _ => by rw [getD_replicate_false]; simp, hT0⟩, hbase, fun i _ hl => (by rw [getD_replicate_false] at hl; cases hl), fun i j _ _ _ hl => (by rw [getD_replicate_false] at hl; cases hl)⟩
  have hk : ∀ k, k < n → ∃ o, l.toArray[k]? = some o := fun k hk => ⟨l.toArray[k]'(by simp; omega), Array.getElem?_eq_getElem _⟩
  have := wpAny_rg (Q := Q) (P := P) n B tk a w.drew R sp hB hU hTk htrans (fun i hi => by
      obtain ⟨o, ho⟩ := hk i hi
      exact (hall i o (by omega) (by rw [Nat.zero_add, htl]; exact hi) ho).1)
    (fun i o hi ho vs w' hR hBw htk hnd => by
      have hUi := rgUse_spec hU (i := i) hi
      exact (hall i o (by omega) (by rw [Nat.zero_add, htl]; exact hi) ho).2 (fun j hj => (hUi.1 j hj).1) vs w' hR hBw htk hnd (List.all_eq_true.2 fun j hj => by simpa using (hUi.1 j (hUi.2.1 j hj)).1))
    (fun vs w' I => hend vs w' I.rel (by
        obtain ⟨k, hm', _, h2⟩ := I.tok
        exact ⟨k, hm', h2⟩) I.base (facts_of I n 0 (by omega)) (fun i j b hi hj hne h1 h2 => I.apart i j hi hj hne (by simp [hi]) (by simp [hj]) (fun k hk _ => rgUsed_false h1 k hk) (fun k hk _ => rgUsed_false h2 k hk) b))
    n _ (fun _ => undef) w.drew inv0 (hu n) hI0
  rw [hd, show n + (l.length - n) = l.length by omega] at this
  simpa using this
theorem wp_region_rg {id : Nat} {a : Act} {w : World} (n B : Nat) (R : World → World → Prop) (hm : P.follows .mixedOrders = true) (hB : rgAll l.toArray n = true) (hrefl : ∀ w, R w w) (htrans : ∀ u v w, R u v → R v w → R u w) (hbase : B ≤ w.heap.size)
    (h : RgGo P l.toArray R B .none w.drew (RgFin P l Q R B .none w.drew n) 0 (l.take n) (fun _ => a) (fun _ => .dflt)) : (Code.region id l.toArray true).wp P Q a w :=
  wp_region_rgT n B .none (by simp [tokB, RgTok.none]) trivial R hm hB hrefl htrans hbase h
end

/-! ### What one operation does, by its value; rounds of a range over a function, sends and receives too -/
/-- a send or a receive of one that is alone -/
def CommV (cases : Array CommCase) (blocking : Bool) (shape : CommShape) (w : World) (K : Value → World → Prop) : Prop :=
  blocking = true ∧
  ((∃ c v z cap buf s r tm, cases = #[Conc.scase c v z] ∧ shape = .send ∧ w.heap[c]? = some (.chan cap buf false s r tm) ∧ buf.size < cap ∧ K undef (w.setChan c cap (buf.push v) false (s + 1) r tm)) ∨
   (∃ c z cap buf cl s r tm ok, cases = #[Conc.rcase c z] ∧ shape = .recv ok ∧ w.heap[c]? = some (.chan cap buf cl s r tm) ∧ 0 < buf.size ∧ K (Conc.got ok (buf.getD 0 undef) true) (w.setChan c cap (buf.extract 1 buf.size) cl s (r + 1) tm)) ∨
   (∃ c z cap s r tm ok, cases = #[Conc.rcase c z] ∧ shape = .recv ok ∧ w.heap[c]? = some (.chan cap #[] true s r tm) ∧ K (Conc.got ok z false) w))
theorem CommV.mono {cases : Array CommCase} {blocking : Bool} {shape : CommShape} {w : World} {K K' : Value → World → Prop} (h : CommV cases blocking shape w K) (hk : ∀ v w', K v w' → K' v w') : CommV cases blocking shape w K' := by
  refine ⟨h.1, ?_⟩
  rcases h.2 with ⟨c, v, z, cap, buf, s, r, tm, h1, h2, h3, h4, h5⟩ | ⟨c, z, cap, buf, cl, s, r, tm, ok, h1, h2, h3, h4, h5⟩ | ⟨c, z, cap, s, r, tm, ok, h1, h2, h3, h5⟩
  · exact .inl ⟨c, v, z, cap, buf, s, r, tm, h1, h2, h3, h4, hk _ _ h5⟩
  · exact .inr (.inl ⟨c, z, cap, buf, cl, s, r, tm, ok, h1, h2, h3, h4, hk _ _ h5⟩)
  · exact .inr (.inr ⟨c, z, cap, s, r, tm, ok, h1, h2, h3, hk _ _ h5⟩)
def StepV (P : Program) (o : Oper) (ρ : Operand → Value) (w : World) (K : Value → World → Prop) : Prop :=
  match (execOp ρ o).run P w with
  | .ok (.value v) w' => K v w'
  | .ok .skip w' => K undef w'
  | .ok (.enter f args) w' => Calls P f args w' fun | .returned v, w'' => K v w'' | _, _ => False
  | .ok (.row row args) w' => Rows P row args w' K
  | .ok (.round l f tmps assign body) w' => RoundIn Fence.wide 0 P l f tmps assign body w' fun | .returned v, w'' => K v w'' | _, _ => False
  | .ok (.comm cases blocking shape) w' => CommV cases blocking shape w' K
  | _ => False
theorem StepV.value {P : Program} {o : Oper} {ρ : Operand → Value} {w w' : World} {v : Value} {K : Value → World → Prop} (h : (execOp ρ o).run P w = .ok (.value v) w') (hk : K v w') : StepV P o ρ w K := by
  unfold StepV; rw [h]; exact hk
theorem StepV.skip {P : Program} {o : Oper} {ρ : Operand → Value} {w w' : World} {K : Value → World → Prop} (h : (execOp ρ o).run P w = .ok .skip w') (hk : K undef w') : StepV P o ρ w K := by
  unfold StepV; rw [h]; exact hk
theorem StepV.enter {P : Program} {o : Oper} {ρ : Operand → Value} {w w' : World} {f : FuncId} {args : Array Value} {K : Value → World → Prop} (h : (execOp ρ o).run P w = .ok (.enter f args) w')
    (hc : Calls P f args w' fun e w'' => ∃ v, e = .returned v ∧ K v w'') : StepV P o ρ w K := by
  unfold StepV; rw [h]
  refine hc.mono ?_
  rintro e w'' ⟨v, rfl, hk⟩
  exact hk
theorem StepV.round {P : Program} {o : Oper} {ρ : Operand → Value} {w w' : World} {l : Nat} {f : FuncId} {tmps : Array Value} {assign body : Code} {K : Value → World → Prop} (h : (execOp ρ o).run P w = .ok (.round l f tmps assign body) w')
    (hc : RoundIn Fence.wide 0 P l f tmps assign body w' fun e w'' => ∃ v, e = .returned v ∧ K v w'') : StepV P o ρ w K := by
  unfold StepV; rw [h]
  refine RoundIn.mono hc ?_
  rintro e w'' ⟨v, rfl, hk⟩
  exact hk
theorem StepV.mono {P : Program} {o : Oper} {ρ : Operand → Value} {w : World} {K K' : Value → World → Prop} (h : StepV P o ρ w K) (hk : ∀ v w', K v w' → K' v w') : StepV P o ρ w K' := by
  unfold StepV at h ⊢
  generalize (execOp ρ o).run P w = res at h ⊢
  cases res with
  | halt => exact h.elim
  | ok n w' =>
    cases n with
    | value v => exact hk _ _ h
    | skip => exact hk _ _ h
    | enter f args =>
      refine Calls.mono h ?_
      intro e w'' he
      cases e with
      | returned v => exact hk _ _ he
      | panicked c => exact he.elim
      | outgrown => exact he.elim
    | row row args => exact Rows.mono h fun v w'' he => hk _ _ he
    | round l f tmps assign body =>
      refine RoundIn.mono h ?_
      intro e w'' he
      cases e with
      | returned v => exact hk _ _ he
      | panicked c => exact he.elim
      | outgrown => exact he.elim
    | comm cases blocking shape => exact CommV.mono h hk
    | _ => exact h.elim
/-- no fence but the make of the frame -/
def Fw (ro : Option Nat) : Fence := { Fence.wide with round := ro }
theorem Fw_room (ro : Option Nat) (n : Nat) : (Fw ro).room n := fun _ h => by simp [Fw, Fence.wide] at h
theorem calls_fw {ro : Option Nat} {n : Nat} {P : Program} {f : FuncId} {args : Array Value} {w : World} {R : Ending → World → Prop} (h : Calls P f args w R) : CallsIn (Fw ro) n P f args w R := (callsIn_wide (n := n)).2 h
theorem rows_fw {ro : Option Nat} {n : Nat} {P : Program} {row : String} {args : Array Value} {w : World} {R : Value → World → Prop} (h : Rows P row args w R) : RowsIn (Fw ro) n P row args w R :=
  fun c cs _ => let ⟨v, w', r, s⟩ := h c cs; ⟨v, w', r, stepsIn_wide.2 s⟩
theorem round_fw {ro : Option Nat} {n : Nat} {P : Program} {l : Nat} {f : FuncId} {tmps : Array Value} {assign body : Code} {w : World} {R : Ending → World → Prop} (h : RoundIn Fence.wide 0 P l f tmps assign body w R) : RoundIn (Fw ro) n P l f tmps assign body w R :=
  ⟨trivial, fun c cs _ => h.2 c cs (room_wide _)⟩
theorem StepV.comm {P : Program} {o : Oper} {ρ : Operand → Value} {w w' : World} {cases : Array CommCase} {blocking : Bool} {shape : CommShape} {K : Value → World → Prop} (h : (execOp ρ o).run P w = .ok (.comm cases blocking shape) w') (hk : CommV cases blocking shape w' K) : StepV P o ρ w K := by
  unfold StepV; rw [h]; exact hk
/-- one operation of a region, by the machine -/
theorem StepV.go {P : Program} {o : Oper} {a : Act} {w : World} {K : Value → World → Prop} {ops : Array Oper} {i : Nat} {rest : List Nat} {b : Frame} {k : List Item} {cs : List Frame} (h : StepV P o a.eval w K) (ho : ops[i]? = some o) (hw : Region.wanted o (yielded ops a.tmps) = true) :
    ∃ v w', K v w' ∧ Steps P (lone (b.atR a (.inRegion ops (i :: rest) :: k)) cs w) (lone (b.atR (a.put o.dst v) (.inRegion ops rest :: k)) cs w') := by
  unfold StepV at h
  have hd : ∀ c, o.op ≠ .defer c := by
    intro c hc
    have e : (execOp a.eval o).run P w = (do return .defer (← resolve a.eval c o.type) : Sem Next).run P w := by unfold execOp; rw [hc]
    rw [e] at h
    simp only [Sem.run_bind, Sem.run_pure] at h
    generalize (resolve a.eval c o.type).run P w = res at h
    cases res with
    | halt => exact h
    | ok d w' => exact h
  have hg := stepGR_op (P := P) (b := b) (k := k) (cs := cs) (w := w) (rest := rest) ho hw
  rw [Oper.semAt_eq b.roundOf a.eval o hd] at hg
  have hfin : ∀ v, (b.atR a (.inRegion ops (i :: rest) :: k)).finish v = b.atR (a.put o.dst v) (.inRegion ops rest :: k) := fun v => by rw [Frame.finish_atR, ho]; rfl
  generalize hr : (execOp a.eval o).run P w = res at h
  cases res with
  | halt x w' => exact h.elim
  | ok n w' =>
    cases n with
    | value v =>
      refine ⟨v, w', h, .head (step_lone_go ?_) (Steps.refl _ _)⟩
      rw [hg, ← hfin]; simp [stepG.apply, hr]
    | skip =>
      refine ⟨undef, w', h, .head (step_lone_go ?_) (Steps.refl _ _)⟩
      rw [hg, ← hfin]; simp [stepG.apply, hr]
    | enter f args =>
      obtain ⟨e, w2, fr, hR, hsteps, hf, hl⟩ := h (b.atR a (.inRegion ops (i :: rest) :: k) :: cs)
      cases e with
      | panicked c => exact hR.elim
      | outgrown => exact hR.elim
      | returned v =>
        have henter : step P (lone (b.atR a (.inRegion ops (i :: rest) :: k)) cs w) = .next (lone (Frame.enter P f args .normal) (b.atR a (.inRegion ops (i :: rest) :: k) :: cs) w') :=
          step_lone_go (by rw [hg]; simp [stepG.apply, hr, Frame.atR])
        refine ⟨v, w2, hR, .head henter (Steps.trans hsteps (.one ?_))⟩
        rw [← hfin]; exact step_leave_returned hl
    | row row args =>
      obtain ⟨v, w2, hR, hsteps⟩ := h (b.atR a (.inRegion ops (i :: rest) :: k)) cs
      have henter : step P (lone (b.atR a (.inRegion ops (i :: rest) :: k)) cs w) = .next (lone (Frame.ofRow P row args .normal) (b.atR a (.inRegion ops (i :: rest) :: k) :: cs) w') :=
        step_lone_go (by rw [hg]; simp [stepG.apply, hr, Frame.atR])
      refine ⟨v, w2, hR, .head henter ?_⟩
      rw [← hfin]; exact hsteps
    | round l f tmps assign body =>
      obtain ⟨e, w2, hR, hsteps⟩ := h.2 (b.atR a (.inRegion ops (i :: rest) :: k)) cs (room_wide _)
      cases e with
      | panicked c => exact hR.elim
      | outgrown => exact hR.elim
      | returned v =>
        have henter : step P (lone (b.atR a (.inRegion ops (i :: rest) :: k)) cs w) = .next (lone (Frame.round l f tmps assign body .normal) (b.atR a (.inRegion ops (i :: rest) :: k) :: cs) w') :=
          step_lone_go (by rw [hg]; simp [stepG.apply, hr, Frame.atR])
        refine ⟨v, w2, hR, .head henter ?_⟩
        rw [← hfin]; exact StepsIn.steps hsteps
    | comm cases blocking shape =>
      obtain ⟨es, hcm⟩ : ∃ es, stepG P true (Conc.G (b.atR a (.inRegion ops (i :: rest) :: k)) cs) w = .comm (Conc.G (b.atR a (.inRegion ops (i :: rest) :: k)) cs) cases blocking shape w' es := by
        unfold Conc.G
        rw [hg]
        simp [stepG.apply, Sem.runT_eq, hr, GStep.after]
      obtain ⟨rfl, hc⟩ := h
      rcases hc with ⟨c, v, z, cap, buf, s, r, tm, rfl, rfl, h3, h4, h5⟩ | ⟨c, z, cap, buf, cl, s, r, tm, ok, rfl, rfl, h3, h4, h5⟩ | ⟨c, z, cap, s, r, tm, ok, rfl, rfl, h3, h5⟩
      · refine ⟨_, _, h5, .one ?_⟩
        rw [← hfin]; exact Conc.step_lone_send_room hcm h3 h4
      · refine ⟨_, _, h5, .one ?_⟩
        rw [← hfin]; exact Conc.step_lone_recv_buf ok hcm h3 h4
      · refine ⟨_, _, h5, .one ?_⟩
        rw [← hfin]; exact Conc.step_lone_recv_shut ok hcm h3
    | _ => exact h.elim
/-- the operations of a region, in the order of a list, by the machine -/
def LRun (P : Program) (ops : Array Oper) (K : Act → World → Prop) (l : List Nat) (a : Act) (w : World) : Prop :=
  ∀ (b : Frame) (k : List Item) (cs : List Frame), ∃ a' w', K a' w' ∧ Steps P (lone (b.atR a (.inRegion ops l :: k)) cs w) (lone (b.atR a' k) cs w')
/-- one of them -/
def OpV (P : Program) (ops : Array Oper) (o : Oper) (a : Act) (w : World) (next : Act → World → Prop) : Prop :=
  if Region.wanted o (yielded ops a.tmps) = true then StepV P o a.eval w (fun v w' => next (a.put o.dst v) w') else next (a.put o.dst undef) w
theorem OpV.mono {P : Program} {ops : Array Oper} {o : Oper} {a : Act} {w : World} {next next' : Act → World → Prop} (h : OpV P ops o a w next) (hk : ∀ a w, next a w → next' a w) : OpV P ops o a w next' := by
  unfold OpV at h ⊢
  split
  · rename_i hw
    rw [if_pos hw] at h
    exact h.mono fun v w' h => hk _ _ h
  · rename_i hw
    rw [if_neg hw] at h
    exact hk _ _ h
theorem LRun.nil {P : Program} {ops : Array Oper} {K : Act → World → Prop} {a : Act} {w : World} (h : K a w) : LRun P ops K [] a w := fun _ _ _ => ⟨a, w, h, .one stepR_region_end⟩
theorem LRun.cons {P : Program} {ops : Array Oper} {K : Act → World → Prop} {a : Act} {w : World} {i : Nat} {o : Oper} {rest : List Nat} (ho : ops[i]? = some o) (h : OpV P ops o a w (LRun P ops K rest)) : LRun P ops K (i :: rest) a w := fun b k cs => by
  unfold OpV at h
  by_cases hw : Region.wanted o (yielded ops a.tmps) = true
  · rw [if_pos hw] at h
    obtain ⟨v, w', h1, hs⟩ := h.go (rest := rest) (b := b) (k := k) (cs := cs) ho hw
    obtain ⟨a2, w2, hK, hs2⟩ := h1 b k cs
    exact ⟨a2, w2, hK, hs.trans hs2⟩
  · rw [if_neg hw] at h
    obtain ⟨a2, w2, hK, hs2⟩ := h b k cs
    have hs := stepR_op_skip (P := P) (b := b) (a := a) (k := k) (cs := cs) (w := w) (ops := ops) (i := i) (rest := rest) (by simp [ho]; simpa using hw)
    rw [ho] at hs
    exact ⟨a2, w2, hK, .head hs hs2⟩
theorem stepsFw {P : Program} {ro : Option Nat} {m m' : Machine} (h : Steps P m m') : StepsIn (Machine.fenced P (Fw ro)) P m m' := stepsIn_wide.2 h
theorem wpIn_lrun {P : Program} {ro : Option Nat} {id : Nat} {ops : Array Oper} {Q : Exit → Act → World → Prop} {a : Act} {w : World} (h : LRun P ops (Q .normal) (List.range ops.size) a w) : (Code.region id ops false).wpIn (Fw ro) 0 P Q a w := fun b k cs _ _ _ =>
  let ⟨a', w', hq, hs⟩ := h b k cs
  ⟨.normal, a', w', hq, stepsFw (Steps.head stepR_region hs)⟩
/-- the operations of a region in every order -/
def AnyRun (P : Program) (md : Region.Mode) (ops : Array Oper) (K : Act → World → Prop) : Nat → Array Bool → Act → World → Prop
  | 0, listed, a, w => Region.ready md ops listed = [] ∧ K a w
  | f + 1, listed, a, w => (Region.ready md ops listed = [] → K a w) ∧ ∀ i ∈ Region.ready md ops listed, ∃ o, ops[i]? = some o ∧ OpV P ops o a w (AnyRun P md ops K f (listed.setIfInBounds i true))
theorem LRun.of_any {P : Program} {md : Region.Mode} {ops : Array Oper} {K : Act → World → Prop} : ∀ (f t : Nat) (listed : Array Bool) (a : Act) (w : World), AnyRun P md ops K f listed a w → LRun P ops K (Region.linearise.go md ops f t listed []) a w
  | 0, t, listed, a, w, h => LRun.nil h.2
  | f + 1, t, listed, a, w, ⟨h0, h1⟩ => by
    simp only [Region.linearise.go]
    change LRun P ops K (match (Region.ready md ops listed)[t % (Region.ready md ops listed).length]? with
      | some i => Region.linearise.go md ops f (t / (Region.ready md ops listed).length) (listed.setIfInBounds i true) [i]
      | none => [].reverse) a w
    cases hi : (Region.ready md ops listed)[t % (Region.ready md ops listed).length]? with
    | none =>
      have hn : Region.ready md ops listed = [] := by
        rcases Nat.eq_zero_or_pos (Region.ready md ops listed).length with h | h
        · exact List.length_eq_zero_iff.1 h
        · have := List.getElem?_eq_none_iff.1 hi
          have := Nat.mod_lt t h
          omega
      exact LRun.nil (h0 hn)
    | some i =>
      obtain ⟨o, ho, h⟩ := h1 i (List.mem_of_getElem? hi)
      simp only []
      rw [linearise_go_acc, List.reverse_singleton, List.singleton_append]
      exact LRun.cons ho (h.mono fun a w h => LRun.of_any f _ _ a w h)
theorem wpIn_anyrun {P : Program} {ro : Option Nat} {id : Nat} {ops : Array Oper} {Q : Exit → Act → World → Prop} {a : Act} {w : World} (hm : P.follows .mixedOrders = true) (h : AnyRun P .any ops (Q .normal) ops.size (Array.replicate ops.size false) a { w with drawn := w.drawn + 1 }) : (Code.region id ops true).wpIn (Fw ro) 0 P Q a w := fun b k cs _ _ _ => by
  have e : ∀ t, Region.schedule (P.follows .mixedOrders) ops t = Region.linearise.go .any ops ops.size t (Array.replicate ops.size false) [] := fun t => by
    simp only [Region.schedule, hm, Bool.true_or, if_true]
    rfl
  obtain ⟨a', w', hq, hs⟩ := LRun.of_any ops.size (w.tape w.drawn (.order b.fn id)) _ a _ h b k cs
  rw [← e] at hs
  exact ⟨.normal, a', w', hq, stepsFw (Steps.head stepR_region_draw hs)⟩
end Go.Proofs.YtcagfmbboliohaaDoor
/-! YtcagfmbboliohaaDoorSxB -/
set_option linter.all false

namespace Go.Proofs.YtcagfmbboliohaaDoor

/-- what is told of a type: a scalar with its zero; a struct: its fields' places and types, its zero cells; an array: its length, its elements' size, its zero cells; a slice: its element's number, size, bytes, zero cells -/
inductive TI where
  | bad
  | sc (d : TypeDesc) (z : Value)
  | st (sz : Nat) (fl : List (Nat × Nat)) (zs : List Value) (q : Bool)
  | ar (len esz sz : Nat) (zs : List Value)
  | slc (e esz eby : Nat) (zs : List Value)

def aggD : TypeDesc → Bool
  | .struct _ | .array _ _ => true
  | _ => false

/-- an int's or a bool's type, told by a value -/
def kindV : Value → Option TypeDesc
  | .int .i64 _ => some (.int .i64)
  | .bool _ => some .bool
  | _ => none
/-- a struct of ints and bools alone, that can be compared -/
def EqFlat (P : Program) (t : TypeId) (zs : List Value) (fs : Array Field) : Prop := P.stoodInHeld t = false ∧ P.eqGuardType P.depth t = false ∧ fs.toList.map (·.offset) = List.range' 0 zs.length ∧ (∀ f ∈ fs.toList, f.name ≠ "_") ∧ fs.toList.map (fun f => P.underlying f.type) = zs.map kindV ∧ ∀ z ∈ zs, kindV z ≠ none

def TIok (P : Program) (t : TypeId) : TI → Prop
  | .bad => True
  | .sc d z => ∃ i, P.underlying t = some d ∧ aggD d = false ∧ P.info? t = some i ∧ i.size = 1 ∧ i.zero = some z ∧ z.oneCell' = true
  | .st sz fl zs q => zs.length = sz ∧ ∃ fs i, P.underlying t = some (.struct fs) ∧ P.info? t = some i ∧ i.size = zs.length ∧ i.zero = some (.agg zs.toArray) ∧ fs.toList.map (fun f => (f.offset, f.type)) = fl ∧ (∀ p ∈ fl, ∃ i, P.info? p.2 = some i ∧ 0 < i.size) ∧ (∀ z ∈ zs, z.oneCell' = true) ∧ (q = true → EqFlat P t zs fs)
  | .ar len esz sz zs => zs.length = sz ∧ ∃ e i ie, P.underlying t = some (.array len e) ∧ P.info? e = some ie ∧ ie.size = esz ∧ P.info? t = some i ∧ i.size = zs.length ∧ i.zero = some (.agg zs.toArray) ∧ (∀ z ∈ zs, z.oneCell' = true) ∧ 1 < len
  | .slc e esz eby zs => ∃ ie i z, P.underlying t = some (.slice e) ∧ P.info? e = some ie ∧ ie.size = esz ∧ ie.bytes = eby ∧ ie.zero = some z ∧ z.cells.toList = zs ∧ zs.length = esz ∧ 0 < esz ∧ eby ≤ 1000 ∧ (∀ z ∈ zs, z.oneCell' = true) ∧ P.info? t = some i ∧ i.size = 1 ∧ i.zero = some (.slice none 0 0)

/-- is it an aggregate, and of how many cells -/
def TI.w : TI → Option (Bool × Nat)
  | .bad => none
  | .sc _ _ | .slc _ _ _ _ => some (false, 1)
  | .st sz _ _ _ | .ar _ _ sz _ => some (true, sz)
/-- the cells of its zero -/
def TI.zc : TI → List Value
  | .bad => []
  | .sc _ z => [z]
  | .slc _ _ _ _ => [.slice none 0 0]
  | .st _ _ zs _ | .ar _ _ _ zs => zs

def fetch (t : Nat) : List (Nat × TI) → TI
  | [] => .bad
  | (j, i) :: l => bif Nat.beq j t then i else fetch t l
def TTok (P : Program) (tt : List (Nat × TI)) : Prop := ∀ p ∈ tt, TIok P p.1 p.2
theorem TTok.fetch {P : Program} {t : Nat} : ∀ {tt : List (Nat × TI)}, TTok P tt → TIok P t (fetch t tt)
  | [], _ => trivial
  | (j, i) :: l, h => by
    unfold Proofs.YtcagfmbboliohaaDoor.fetch
    cases e : Nat.beq j t
    · exact TTok.fetch fun p hp => h p (List.mem_cons_of_mem _ hp)
    · have : j = t := Nat.eq_of_beq_eq_true e
      subst this
      exact h (j, i) (by simp)

section
variable {P : Program} {t : TypeId} {i : TI} {w : World}

theorem TIok.facts (h : TIok P t i) {b : Bool} {n : Nat} (hw : i.w = some (b, n)) : ∃ d ti, P.underlying t = some d ∧ aggD d = b ∧ P.info? t = some ti ∧ ti.size = n ∧
    ∃ z, ti.zero = some z ∧ z.cells.toList = i.zc ∧ i.zc.length = n ∧ ∀ u ∈ i.zc, u.oneCell' = true := by
  cases i with
  | bad => cases hw
  | sc d z =>
    obtain ⟨ti, h1, h2, h3, h4, h5, h6⟩ := h
    cases hw
    refine ⟨d, ti, h1, h2, h3, h4, z, h5, ?_, rfl, fun u hu => ?_⟩
    · cases z <;> first | rfl | cases h6
    · rw [List.mem_singleton.1 hu]; exact h6
  | st sz fl zs q =>
    obtain ⟨rfl, fs, ti, h1, h2, h3, h4, _, _, h7, _⟩ := h
    cases hw
    exact ⟨_, ti, h1, rfl, h2, h3, _, h4, by simp [Value.cells, TI.zc], rfl, h7⟩
  | ar len esz sz zs =>
    obtain ⟨rfl, e, ti, ie, h1, _, _, h2, h3, h4, h7, _⟩ := h
    cases hw
    exact ⟨_, ti, h1, rfl, h2, h3, _, h4, by simp [Value.cells, TI.zc], rfl, h7⟩
  | slc e esz eby zs =>
    obtain ⟨ie, ti, z, h1, _, _, _, _, _, _, _, _, _, h2, h3, h4⟩ := h
    cases hw
    exact ⟨_, ti, h1, rfl, h2, h3, _, h4, rfl, rfl, fun u hu => by rw [List.mem_singleton.1 hu]; rfl⟩

theorem addr_add' (b off j : Nat) : (⟨b, off, none⟩ : Addr).add j = ⟨b, off + j, none⟩ := by unfold Addr.add; split <;> simp_all

theorem run_isAgg {d : TypeDesc} (h : P.underlying t = some d) : (isAgg t).run P w = .ok (aggD d) w := by
  unfold isAgg
  simp only [Sem.run_bind, run_underlying h, Result.andThen_ok]
  cases d <;> rfl

theorem run_load_one (h : TIok P t i) (hw : i.w = some (false, 1)) {b o : Nat} {u : Value} (hc : w.cell? ⟨b, o, none⟩ = some u) :
    (Instr.loadAt t (.pointer (some ⟨b, o, none⟩))).run P w = .ok u w := by
  obtain ⟨d, ti, h1, h2, h3, h4, _⟩ := h.facts hw
  unfold Instr.loadAt loadVar Instr.sureAddr
  simp [Sem.run_bind, run_isAgg h1, h2, run_load, hc]
theorem run_load_agg (h : TIok P t i) {n : Nat} (hw : i.w = some (true, n)) {b o : Nat} {f : Nat → Value} (hc : ∀ j, j < n → w.cell? ⟨b, o + j, none⟩ = some (f j)) :
    (Instr.loadAt t (.pointer (some ⟨b, o, none⟩))).run P w = .ok (.agg ((List.range n).map f).toArray) w := by
  obtain ⟨d, ti, h1, h2, h3, h4, _⟩ := h.facts hw
  have hl := run_loadCells (P := P) w ⟨b, o, none⟩ n f fun j hj => by rw [addr_add']; exact hc j hj
  unfold Instr.loadAt loadVar Instr.sureAddr
  simp [Sem.run_bind, run_isAgg h1, h2, sizeOf, typeInfo, h3, h4, hl]

theorem run_store_at (h : TIok P t i) {m : Bool} {n : Nat} (hw : i.w = some (m, n)) {g o : Nat} {cur : Array Value} {et : TypeId} (hg : w.heap[g]? = some (.cells cur et (0, 0))) {v : Value} (hv : v.cells.size = n) (h1 : ∀ u ∈ v.cells.toList, u.oneCell' = true) (hfit : o + n ≤ cur.size) :
    (Instr.storeAt t (.pointer (some ⟨g, o, none⟩)) v).run P w = .ok () (w.setRow g (cur.toList.take o ++ v.cells.toList ++ cur.toList.drop (o + n)).toArray) := by
  obtain ⟨d, ti, _, h2, h3, h4, _⟩ := h.facts hw
  have hst := run_storeCells_at P g o et v.cells.toList 0 cur w hg (by simp; omega) h1
  simp only [Nat.add_zero, Array.length_toList, hv] at hst
  unfold Instr.storeAt storeVar Instr.sureAddr
  simp [Sem.run_bind, sizeOf, typeInfo, h3, h4, hv, hst]

theorem run_alloc (h : TIok P t i) {m : Bool} {n : Nat} (hw : i.w = some (m, n)) :
    (Instr.alloc t true (.tuple #[])).run P w = .ok (.pointer (some ⟨w.heap.size, 0, none⟩)) (w.alloc (.cells i.zc.toArray t)) := by
  obtain ⟨d, ti, _, h2, h3, h4, z, h5, h6, _⟩ := h.facts hw
  have : z.cells = i.zc.toArray := by rw [← h6]
  have hz : (zeroValue t).run P w = .ok z w := by
    unfold zeroValue typeInfo
    simp [program, Sem.run, h3, h5]
  unfold Instr.alloc
  simp only [Sem.run_bind, hz, Result.andThen_ok, newVar, newRow, this]
  rfl

theorem run_box (v : Value) : (Instr.box t v).run P w = .ok (.pointer (some ⟨w.heap.size, 0, none⟩)) (w.alloc (.cells v.cells t)) := rfl

theorem run_fieldAt {fl : List (Nat × Nat)} {zs : List Value} {sz : Nat} {q : Bool} (h : TIok P t (.st sz fl zs q)) {k fo ft : Nat} (hk : fl[k]? = some (fo, ft)) {b o : Nat} :
    (Instr.fieldAt t (.pointer (some ⟨b, o, none⟩)) k).run P w = .ok (.pointer (some ⟨b, o + fo, none⟩)) w := by
  obtain ⟨_, fs, ti, h1, _, _, _, h5, h6, _⟩ := h
  obtain ⟨i2, hi2, hp⟩ := h6 (fo, ft) (List.mem_of_getElem? hk)
  rw [← h5, List.getElem?_map] at hk
  obtain ⟨f, hf, e⟩ := Option.map_eq_some_iff.1 hk
  injection e with e1 e2
  subst e1
  subst e2
  have hf' : fs[k]? = some f := by simpa using hf
  unfold Instr.fieldAt Instr.sureAddr
  simp only [Sem.run_bind, run_underlying h1, Result.andThen_ok, hf', Sem.run_pure]
  unfold fieldPlace
  simp only [Sem.run_bind, sizeOf, typeInfo, Sem.run_bind]
  simp [program, Sem.run, hi2, Nat.pos_iff_ne_zero.1 hp, addr_add']

theorem run_indexAt_slice {e esz eby : Nat} {zs : List Value} (h : TIok P t (.slc e esz eby zs)) {b o n c : Nat} {z : Int} {kk : IntKind} (h0 : 0 ≤ z) (h1 : z < n) :
    (Instr.indexAt t (.slice (some ⟨b, o, none⟩) n c) (.int kk z)).run P w = .ok (.pointer (some ⟨b, o + z.toNat * esz, none⟩)) w := by
  obtain ⟨ie, ti, zz, g1, g2, g3, _⟩ := h
  unfold Instr.indexAt
  simp [asIntOf, Sem.run_bind, run_underlying g1, h0, h1, sizeOf, typeInfo, g2, g3, addr_add']
theorem run_indexAt_array {len esz sz : Nat} {zs : List Value} (h : TIok P t (.ar len esz sz zs)) {b o : Nat} {z : Int} {kk : IntKind} (h0 : 0 ≤ z) (h1 : z < len) :
    (Instr.indexAt t (.pointer (some ⟨b, o, none⟩)) (.int kk z)).run P w = .ok (.pointer (some ⟨b, o + z.toNat * esz, none⟩)) w := by
  obtain ⟨_, e, ti, ie, g1, g2, g3, _⟩ := h
  unfold Instr.indexAt
  simp [asIntOf, Instr.sureAddr, Sem.run_bind, run_underlying g1, h0, h1, sizeOf, typeInfo, g2, g3, addr_add']
end
end Go.Proofs.YtcagfmbboliohaaDoor
