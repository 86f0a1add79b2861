/- Texts of this proof put together: Re, ExI, ExM. -/
import Derived.Test.YtcagfmbboliohaaDoorQ01
import Derived.Test.YtcagfmbboliohaaDoorQ02
import Derived.Test.YtcagfmbboliohaaDoorQ03
import Derived.Test.YtcagfmbboliohaaDoorQ04
import Derived.Test.YtcagfmbboliohaaDoorQ05
import Derived.Test.YtcagfmbboliohaaDoorQ06
import Derived.Test.YtcagfmbboliohaaDoorQ07
import Derived.Test.YtcagfmbboliohaaDoorQ08
import Derived.Test.YtcagfmbboliohaaDoorQ09
import Derived.Test.YtcagfmbboliohaaDoorQ10
import Derived.Test.YtcagfmbboliohaaDoorQ11
import Derived.Test.YtcagfmbboliohaaDoorQ12
/-! YtcagfmbboliohaaDoorRe -/
set_option linter.all false
namespace Go.Proofs.YtcagfmbboliohaaDoor
open Go.RowKit

/-- one piece told by another, in one world -/
def SubW (w : World) (F : Nat → Prop) (p q : Hp) : Prop := (∀ b, q.fp b → p.fp b) ∧ (p.holds w F → q.holds w F)
def AllW (w : World) (F : Nat → Prop) : List Hp → List Hp → Prop
  | [], [] => True
  | p :: H, q :: H' => SubW w F p q ∧ AllW w F H H'
  | _, _ => False
theorem AllW.fp {w : World} {F : Nat → Prop} : ∀ {H H' : List Hp}, AllW w F H H' → ∀ q ∈ H', ∀ b, q.fp b → ∃ p ∈ H, p.fp b
  | [], [], _, q, hq, _, _ => by cases hq
  | p :: H, q :: H', h, q', hq, b, hb => by
    rcases List.mem_cons.1 hq with rfl | hq
    · exact ⟨p, List.mem_cons_self, h.1.1 b hb⟩
    · obtain ⟨p', hp', hb'⟩ := AllW.fp h.2 q' hq b hb
      exact ⟨p', List.mem_cons_of_mem _ hp', hb'⟩
theorem AllW.sat {w : World} {F : Nat → Prop} : ∀ {H H' : List Hp}, AllW w F H H' → HSat w F H → HSat w F H'
  | [], [], _, hs => hs
  | p :: H, q :: H', h, hs => by
    have hap := List.pairwise_cons.1 hs.apart
    have ht := AllW.sat h.2 hs.tail
    refine ⟨fun x hx => ?_, fun x hx b hb => ?_, List.pairwise_cons.2 ⟨fun x hx b hb hbx => ?_, ht.apart⟩, hs.lt⟩
    · rcases List.mem_cons.1 hx with rfl | hx
      · exact h.1.2 (hs.holds _ List.mem_cons_self)
      · exact ht.holds x hx
    · rcases List.mem_cons.1 hx with rfl | hx
      · exact hs.fp _ List.mem_cons_self b (h.1.1 b hb)
      · exact ht.fp x hx b hb
    · obtain ⟨p', hp', hb'⟩ := h.2.fp x hx b hbx
      exact hap.1 p' hp' b (h.1.1 b hb) hb'
theorem SubW.refl {w : World} {F : Nat → Prop} (p : Hp) : SubW w F p p := ⟨fun _ h => h, fun h => h⟩
theorem SubW.row {w : World} {F : Nat → Prop} {v : Value} {e : TypeId} {sz n n' : Nat} {f f' : Nat → Nat → SV} (hn : n = n') (h : ∀ i j, i < n → j < sz → ∀ x, Has w F (f i j) x → Has w F (f' i j) x) : SubW w F (.row v e sz n f) (.row v e sz n' f') := by
  subst hn
  exact ⟨fun _ h => h, fun ⟨xs, ho, hc⟩ => ⟨xs, ho, fun i k hi hk => ⟨(hc i k hi hk).1, h i k hi hk _ (hc i k hi hk).2⟩⟩⟩
theorem fc_to {s s' : SV} {K : SV → Prop} (h : s = s') (k : fc s' K) : fc s K := h ▸ k
/-- what is known of a piece once it stands still -/
def FrzF (w : World) (F : Nat → Prop) : List Hp → Prop
  | [] => True
  | .row v _ sz n f :: Z => Has w F (.sl sz n f) v ∧ FrzF w F Z
  | .box g _ n f :: Z => Has w F (.ref g 0 n f) (.pointer (some ⟨g, 0, none⟩)) ∧ FrzF w F Z
  | _ :: Z => FrzF w F Z
theorem FrzF.mono {w : World} {F F' : Nat → Prop} (hF : ∀ b, F b → F' b) : ∀ {Z : List Hp}, FrzF w F Z → FrzF w F' Z
  | [], _ => trivial
  | .row _ _ _ _ _ :: _, h => ⟨h.1.mono hF, FrzF.mono hF h.2⟩
  | .box _ _ _ _ :: _, h => ⟨h.1.mono hF, FrzF.mono hF h.2⟩
  | .emp :: Z, h => FrzF.mono (Z := Z) hF h
  | .cust _ :: Z, h => FrzF.mono (Z := Z) hF h
theorem box_cell {w : World} {F : Nat → Prop} {g n : Nat} {t : TypeId} {f : Nat → SV} (h : (Hp.box g t n f).holds w F) : ∀ k, k < n → ∃ u, w.cell? ⟨g, k, none⟩ = some u ∧ u.oneCell' = true ∧ Has w F (f k) u := fun k hk => by
  obtain ⟨cs, hb, hn, hc⟩ := h
  refine ⟨cs.getD k undef, ?_, hc k hk⟩
  unfold World.cell?
  rw [hb]
  have : k < cs.size := by omega
  simp [Array.getD, this]
theorem box_pp {w : World} {F F' : Nat → Prop} {g n : Nat} {t : TypeId} {f : Nat → SV} (h : (Hp.box g t n f).holds w F) (hF : ∀ b, F b → F' b) (hg : F' g) : Has w F' (.pp n f) (.pointer (some ⟨g, 0, none⟩)) := by
  refine ⟨g, 0, rfl, hg, fun k hk => ?_⟩
  obtain ⟨u, h1, h2, h3⟩ := box_cell h k hk
  exact ⟨u, by rw [Nat.zero_add]; exact h1, h2, h3.mono hF⟩
theorem box_ref {w : World} {F F' : Nat → Prop} {g n : Nat} {t : TypeId} {f : Nat → SV} (h : (Hp.box g t n f).holds w F) (hF : ∀ b, F b → F' b) (hg : F' g) : Has w F' (.ref g 0 n f) (.pointer (some ⟨g, 0, none⟩)) := by
  refine ⟨rfl, hg, ?_, fun k hk => ?_⟩
  · obtain ⟨cs, hb, _⟩ := h
    exact ⟨cs, t, hb⟩
  · obtain ⟨u, h1, h2, h3⟩ := box_cell h k hk
    exact ⟨u, by rw [Nat.zero_add]; exact h1, h2, h3.mono hF⟩
theorem Has.ref_pp {w : World} {F : Nat → Prop} {g o n : Nat} {f : Nat → SV} {v : Value} (h : Has w F (.ref g o n f) v) : Has w F (.pp n f) v := by
  obtain ⟨rfl, hF, _, hc⟩ := h
  exact ⟨g, o, rfl, hF, hc⟩
theorem HSat.freezes {w : World} : ∀ {Z H : List Hp} {F : Nat → Prop}, HSat w F (Z ++ H) → ∃ F', (∀ b, F b → F' b) ∧ HSat w F' H ∧ FrzF w F' Z
  | [], H, F, hs => ⟨F, fun _ h => h, hs, trivial⟩
  | p :: Z, H, F, hs => by
    obtain ⟨F', h1, h2, h3⟩ := HSat.freezes (Z := Z) (H := H) hs.freeze
    refine ⟨F', fun b hb => h1 b (.inl hb), h2, ?_⟩
    have hp := hs.holds p List.mem_cons_self
    cases p with
    | emp => exact h3
    | cust c => exact h3
    | row v e sz n f => exact ⟨(row_sl (F' := fun b => F b ∨ (Hp.row v e sz n f).fp b) hp (fun b => .inl) fun b hb => .inr hb).mono h1, h3⟩
    | box g t n f => exact ⟨(box_ref (F' := fun b => F b ∨ (Hp.box g t n f).fp b) hp (fun b => .inl) (.inr rfl)).mono h1, h3⟩
/-- slots told anew -/
def ChgW (w : World) (F : Nat → Prop) (σ : Fr) : List (Nat × SV) → Prop
  | [] => True
  | (k, v) :: l => (∀ x, Has w F (σ k) x → Has w F v x) ∧ ChgW w F σ l
theorem ChgW.has {w : World} {F : Nat → Prop} {σ : Fr} {a : Act} (hf : FrHas w F σ a) : ∀ {l : List (Nat × SV)}, ChgW w F σ l → FrHas w F (updL σ l) a
  | [], _ => hf
  | (k, v) :: l, h => fun q => by
    show Has w F (upd (updL σ l) k v q) _
    unfold upd
    cases e : Nat.beq q k
    · exact ChgW.has hf h.2 q
    · have := Nat.eq_of_beq_eq_true e
      subst this
      exact h.1 _ (hf q)
/-- pieces Z stand still from here on; what names them is told anew -/
theorem HT.frz {P : Program} {n : Nat} {c : Code} {Q : Exit → St → Prop} {s : St} (Z H1 : List Hp) (chg : List (Nat × SV)) (L' : Hpl) (hp : fcH (s.L.map Prod.snd) fun H => PPick H (Z ++ H1)) (h : ∀ w F, FrzF w F Z → AllW w F H1 (L'.map Prod.snd) ∧ ChgW w F s.σ chg) (k : HT P n c Q ⟨updL s.σ chg, L', s.nx⟩) : HT P n c Q s := by
  rw [fcH_eq] at hp
  refine HT.le (fun n _ F a w hs => ?_) k
  obtain ⟨F', h1, h2, h3⟩ := HSat.freezes (hp.sat hs.heap)
  obtain ⟨h4, h5⟩ := h w F' h3
  exact ⟨F', h1, hs.size, hs.defers, h5.has fun k => (hs.fr k).mono h1, h4.sat h2⟩
/-- the same at the end of a function -/
theorem Fin.frz {r r' : SV} {H H' : List Hp} {K : SV → List Hp → Prop} (Z H1 : List Hp) (hp : PPick H (Z ++ H1)) (h : ∀ w F, FrzF w F Z → AllW w F H1 H' ∧ ∀ x, Has w F r x → Has w F r' x) (k : K r' H') : Fin r H K :=
  ⟨⟨r', H', fun w F x hs hx => by
    obtain ⟨F', h1, h2, h3⟩ := HSat.freezes (hp.sat hs)
    obtain ⟨h4, h5⟩ := h w F' h3
    exact ⟨F', h1, h4.sat h2, h5 x (hx.mono h1)⟩, k⟩⟩
theorem HLe.frzs {L L' : Hpl} (Z H1 : List Hp) (hp : PPick (L.map Prod.snd) (Z ++ H1)) (h : ∀ w F, FrzF w F Z → AllW w F H1 (L'.map Prod.snd)) : HLe L L' := fun w F hs => by
  obtain ⟨F', h1, h2, h3⟩ := HSat.freezes (hp.sat hs)
  exact ⟨F', h1, (h w F' h3).sat h2⟩
theorem AllW.refl (w : World) (F : Nat → Prop) : ∀ H, AllW w F H H
  | [] => trivial
  | p :: H => ⟨SubW.refl p, AllW.refl w F H⟩
theorem SubW.box {w : World} {F : Nat → Prop} {g n : Nat} {t : TypeId} {f f' : Nat → SV} (h : ∀ j, j < n → ∀ x, Has w F (f j) x → Has w F (f' j) x) : SubW w F (.box g t n f) (.box g t n f') :=
  ⟨fun _ h => h, fun ⟨cs, a, b, c⟩ => ⟨cs, a, b, fun j hj => ⟨(c j hj).1, h j hj _ (c j hj).2⟩⟩⟩
theorem Has.pp {w : World} {F : Nat → Prop} {n : Nat} {f f' : Nat → SV} {x : Value} (h : ∀ k, k < n → ∀ v, Has w F (f k) v → Has w F (f' k) v) (hx : Has w F (.pp n f) x) : Has w F (.pp n f') x := by
  obtain ⟨b, off, e, hb, hc⟩ := hx
  exact ⟨b, off, e, hb, fun k hk => by
    obtain ⟨u, h1, h2, h3⟩ := hc k hk
    exact ⟨u, h1, h2, h k hk u h3⟩⟩
theorem Has.refL {w : World} {F : Nat → Prop} {g o n : Nat} {f f' : Nat → SV} {x : Value} (h : ∀ k, k < n → ∀ v, Has w F (f k) v → Has w F (f' k) v) (hx : Has w F (.ref g o n f) x) : Has w F (.ref g o n f') x := by
  obtain ⟨e, hb, hz, hc⟩ := hx
  exact ⟨e, hb, hz, fun k hk => by
    obtain ⟨u, h1, h2, h3⟩ := hc k hk
    exact ⟨u, h1, h2, h k hk u h3⟩⟩
theorem Has.slL {w : World} {F : Nat → Prop} {sz n : Nat} {f f' : Nat → Nat → SV} {x : Value} (h : ∀ i k, i < n → k < sz → ∀ v, Has w F (f i k) v → Has w F (f' i k) v) (hx : Has w F (.sl sz n f) x) : Has w F (.sl sz n f') x := by
  obtain ⟨A, c, e, h1, h2, hc⟩ := hx
  exact ⟨A, c, e, h1, h2, fun hn => by
    obtain ⟨b, off, e, hb, hc⟩ := hc hn
    exact ⟨b, off, e, hb, fun i k hi hk => by
      obtain ⟨u, q1, q2, q3⟩ := hc i k hi hk
      exact ⟨u, q1, q2, h i k hi hk u q3⟩⟩⟩
/-- a row of nothing is at hand -/
theorem HT.nilRow {P : Program} {n : Nat} {c : Code} {Q : Exit → St → Prop} {s : St} (key : Nat) (e : TypeId) (sz : Nat) (f : Nat → Nat → SV) (h : HT P n c Q ⟨s.σ, (key, .row (.slice none 0 0) e sz 0 f) :: s.L, s.nx⟩) : HT P n c Q s :=
  HT.le (s' := ⟨s.σ, (key, .row (.slice none 0 0) e sz 0 f) :: s.L, s.nx⟩) (fun n _ F a w hs => ⟨F, fun _ h => h, hs.size, hs.defers, hs.fr, hs.heap.nil e sz f⟩) h
/-- a piece is opened: it was a bundle of others -/
theorem HSat.unbundleK {w : World} {F : Nat → Prop} {A B H : List Hp} (h : HSat w F (A ++ .cust (Proofs.YtcagfmbboliohaaDoor.bundle H) :: B)) : HSat w F (A ++ H ++ B) := by
  have h1 : (A ++ .cust (Proofs.YtcagfmbboliohaaDoor.bundle H) :: B).Perm ((A ++ B) ++ [.cust (Proofs.YtcagfmbboliohaaDoor.bundle H)]) := by
    rw [List.append_assoc]
    exact List.Perm.append_left A (List.perm_append_comm (l₁ := [Hp.cust (Proofs.YtcagfmbboliohaaDoor.bundle H)]) (l₂ := B))
  have h2 := (h.perm h1).unbundle
  refine h2.perm ?_
  rw [List.append_assoc, List.append_assoc]
  exact List.Perm.append_left A List.perm_append_comm
theorem HSat.bundleK {w : World} {F : Nat → Prop} {A B H : List Hp} (h : HSat w F (A ++ H ++ B)) : HSat w F (A ++ .cust (Proofs.YtcagfmbboliohaaDoor.bundle H) :: B) := by
  have h1 : (A ++ H ++ B).Perm ((A ++ B) ++ H) := by
    rw [List.append_assoc, List.append_assoc]
    exact List.Perm.append_left A List.perm_append_comm
  refine (h.perm h1).bundle.perm ?_
  rw [List.append_assoc]
  exact List.Perm.append_left A (List.perm_append_comm (l₁ := B) (l₂ := [Hp.cust (Proofs.YtcagfmbboliohaaDoor.bundle H)]))
/-- the first argument points into a block at hand -/
theorem at_arg {g : Nat} {l : List SV} {w : World} {F : Nat → Prop} {v : Value} {k : Nat} (h : Has w F ((SV.val (.pointer (some ⟨g, 0, none⟩)) :: l).getD k (.val undef)) v) : Has w F (upd (argF (SV.val (.pointer (some ⟨g, 0, none⟩)) :: l)) 0 (.ptr 0 g 0) k) v := by
  unfold upd
  cases e : Nat.beq k 0
  · exact h
  · have := Nat.eq_of_beq_eq_true e
    subst this
    exact h
theorem PPick.refl : ∀ H, PPick H H
  | [] => .nil _
  | p :: H => .cons 0 rfl (.refl p) (PPick.refl H)
def Hp.isEmp : Hp → Bool
  | .emp => true
  | _ => false
theorem Hp.ne_emp {p : Hp} (h : p.isEmp = false) : p ≠ .emp := fun e => by rw [e] at h; cases h
/-- a piece is at hand for a call that leaves it as it was -/
theorem CallN.keepL {P : Program} {f : FuncId} {ss : List SV} {L : Hpl} {nx : Nat} {K : KK} (i : Nat) (p : Hp) (Φ : SV → Prop) (hl : lk i L = p) (hp : p.isEmp = false) (h : SMut P f ss p fun r N p' => N = [] ∧ p' = p ∧ Φ r) (k : ∀ r, Φ r → K (r.lift nx) L (nx + 10)) : CallN P f ss L nx K := .keep i p Φ hl (Hp.ne_emp hp) h k
/-- pieces stand still, others are bundled, at the end of a function -/
theorem Fin.frzB {r r' : SV} {H : List Hp} {R : Heaplet} {Φ : SV → List Hp → Hp → Prop} (Z H1 H2 : List Hp) (hp : PPick H (Z ++ (H1 ++ [.cust R]))) (h : ∀ w F, FrzF w F Z → AllW w F H1 H2 ∧ ∀ x, Has w F r x → Has w F r' x) (k : Φ r' [] (.cust (Proofs.YtcagfmbboliohaaDoor.bundle H2))) : Fin r H (fun r H' => ∃ N p', H' = N ++ [p', .cust R] ∧ Φ r N p') :=
  ⟨⟨r', [.cust (Proofs.YtcagfmbboliohaaDoor.bundle H2), .cust R], fun w F x hs hx => by
    obtain ⟨F', h1, h2, h3⟩ := HSat.freezes (hp.sat hs)
    obtain ⟨h4, h5⟩ := h w F' h3
    have app : ∀ {A B : List Hp}, AllW w F' A B → AllW w F' (A ++ [.cust R]) (B ++ [.cust R]) := by
      intro A
      induction A with
      | nil => intro B hB; cases B with | nil => exact ⟨SubW.refl _, trivial⟩ | cons => exact hB.elim
      | cons a A ih => intro B hB; cases B with | nil => exact hB.elim | cons b B => exact ⟨hB.1, ih hB.2⟩
    exact ⟨F', h1, HSat.bundleK (A := []) (H := H2) (B := [.cust R]) ((app h4).sat h2), h5 x (hx.mono h1)⟩, [], _, rfl, k⟩⟩
/-- one cell told by another, in one world -/
abbrev LeW (w : World) (F : Nat → Prop) (s s' : SV) : Prop := ∀ x, Has w F s x → Has w F s' x
theorem LeW.of_eq {w : World} {F : Nat → Prop} {s s' : SV} (h : s = s') : LeW w F s s' := h ▸ fun _ h => h
theorem cat_one {w : World} {F : Nat → Prop} {n : Nat} {f g f' : Nat → Nat → SV} (hf : ∀ i, i < n → LeW w F (f i 0) (f' i 0)) (h : LeW w F (g 0 0) (f' n 0)) {i j : Nat} (hi : i < n + 1) (hj : j < 1) : LeW w F (catF n f g i j) (f' i j) := by
  obtain rfl : j = 0 := by omega
  unfold catF
  by_cases hlt : i < n
  · rw [if_pos hlt]; exact hf i hlt
  · obtain rfl : i = n := by omega
    rw [if_neg hlt, Nat.sub_self]; exact h
theorem Hp.Sub.rowL {n n' sz : Nat} {v : Value} {e : TypeId} {f f' : Nat → Nat → SV} (hn : n = n') (h : ∀ w F i j, i < n → j < sz → LeW w F (f i j) (f' i j)) : (Hp.row v e sz n f).Sub (.row v e sz n' f') := .rowH hn fun i j hi hj w F => h w F i j hi hj
theorem Fin.open {r : SV} {Z H : List Hp} {K : SV → List Hp → Prop} (h : Fin r (Z ++ H) K) : Fin r (.cust (Proofs.YtcagfmbboliohaaDoor.bundle Z) :: H) K := by
  obtain ⟨r', H', he, hk⟩ := h.h
  exact ⟨⟨r', H', fun w F v hs hv => he w F v (HSat.unbundleK (A := []) hs) hv, hk⟩⟩
theorem LeW.tup2 {w : World} {F : Nat → Prop} {f g : Nat → SV} (h0 : LeW w F (f 0) (g 0)) (h1 : LeW w F (f 1) (g 1)) : LeW w F (.tup 2 f) (.tup 2 g) := fun x hx => Has.tup (fun k hk u hu => by
  rcases (by omega : k = 0 ∨ k = 1) with rfl | rfl
  · exact h0 u hu
  · exact h1 u hu) hx
theorem Hp.Sub.of_eq {p q : Hp} (h : p = q) : p.Sub q := h ▸ Hp.Sub.refl p
theorem Lends.slA {L : Hpl} {sz n n' : Nat} {f f' : Nat → Nat → SV} (hn : n = n') (hf : ∀ i j, i < n → j < sz → f i j = f' i j) : Lends L (.sl sz n f) (.sl sz n' f') := fun w F x hs hx => by
  subst hn
  exact (Has.slL (fun i j hi hj u hu => by rw [← hf i j hi hj]; exact hu) hx).mono hs.lt
theorem put_one {w : World} {F : Nat → Prop} {p i j : Nat} {fv : Nat → SV} {f f' : Nat → Nat → SV} (hv : LeW w F (fv 0) (f' p 0)) (hf : i ≠ p → LeW w F (f i 0) (f' i 0)) (hj : j < 1) : LeW w F (putR p 0 1 fv f i j) (f' i j) := by
  obtain rfl : j = 0 := by omega
  unfold putR
  by_cases h : i = p
  · subst h
    rw [Nat.beq_refl, cond_true]
    exact hv
  · have e : Nat.beq i p = false := by rw [Bool.eq_false_iff]; exact fun hb => h (Nat.eq_of_beq_eq_true hb)
    rw [e, cond_false]
    exact hf h
/-- the first k rows are written -/
def part (f : Nat → Nat → SV) (z : Nat → SV) (k : Nat) : Nat → Nat → SV := fun i j => if i < k then f i j else z j
theorem part_lt {f : Nat → Nat → SV} {z : Nat → SV} {k i j : Nat} (h : i < k) : part f z k i j = f i j := if_pos h
theorem part_ge {f : Nat → Nat → SV} {z : Nat → SV} {k i j : Nat} (h : k ≤ i) : part f z k i j = z j := if_neg (by omega)
theorem part_next {f : Nat → Nat → SV} {z : Nat → SV} {k i j : Nat} (h : i ≠ k) : part f z k i j = part f z (k + 1) i j := by
  by_cases hk : i < k
  · rw [part_lt hk, part_lt (by omega)]
  · rw [part_ge (by omega), part_ge (by omega)]
theorem put_row {w : World} {F : Nat → Prop} {sz p i j : Nat} {fv : Nat → SV} {f f' : Nat → Nat → SV} (hv : ∀ j, j < sz → LeW w F (fv j) (f' p j)) (hf : i ≠ p → ∀ j, j < sz → LeW w F (f i j) (f' i j)) (hj : j < sz) : LeW w F (putR p 0 sz fv f i j) (f' i j) := by
  unfold putR
  by_cases h : i = p
  · subst h
    rw [Nat.beq_refl, cond_true]
    unfold putF
    have : (Nat.ble 0 j && Nat.ble (j + 1) (0 + sz)) = true := by simp [Nat.ble_eq]; omega
    rw [this, cond_true]
    exact hv j hj
  · have e : Nat.beq i p = false := by rw [Bool.eq_false_iff]; exact fun hb => h (Nat.eq_of_beq_eq_true hb)
    rw [e, cond_false]
    exact hf h j hj
theorem lk_setK_self_ne {i k : Nat} {p : Hp} {L : Hpl} (h : k ≠ i) : lk k (setK i p L) = lk k L := lk_setK_ne h
/-- a call that takes two pieces and hands back new ones -/
theorem CallN.turn2 {P : Program} {f : FuncId} {ss : List SV} {L : Hpl} {nx : Nat} {K : KK} (k1 k2 : Nat) (p1 p2 : Hp) (Φ : SV → List Hp → Prop) (hl1 : lk k1 L = p1) (hl2 : lk k2 L = p2) (hne : k1 ≠ k2) (he1 : p1.isEmp = false) (he2 : p2.isEmp = false) (hb1 : ∀ g t n f, p1 ≠ .box g t n f) (hb2 : ∀ g t n f, p2 ≠ .box g t n f)
    (h : ∀ R, SCalls P f ss [p1, p2, .cust R] fun r H' => ∃ N, H' = N ++ [.cust R] ∧ Φ r N) (k : ∀ r N, Φ r N → K (r.lift nx) (keyN nx N (setK k1 .emp (setK k2 .emp L))) (nx + 10)) : CallN P f ss L nx K := by
  have h2 : (L.map Prod.snd).Perm (p2 :: offK k2 L) := by have := lk_perm (k := k2) (L := L) (hasK_of (by rw [hl2]; exact Hp.ne_emp he2)); rwa [hl2] at this
  have h2' : ((setK k2 .emp L).map Prod.snd).Perm (.emp :: offK k2 L) := setK_perm (hasK_of (by rw [hl2]; exact Hp.ne_emp he2))
  have hl1' : lk k1 (setK k2 .emp L) = p1 := by rw [lk_setK_self_ne hne]; exact hl1
  have h1 : ((setK k2 .emp L).map Prod.snd).Perm (p1 :: offK k1 (setK k2 .emp L)) := by have := lk_perm (k := k1) (L := setK k2 .emp L) (hasK_of (by rw [hl1']; exact Hp.ne_emp he1)); rwa [hl1'] at this
  have h1' : ((setK k1 .emp (setK k2 .emp L)).map Prod.snd).Perm (.emp :: offK k1 (setK k2 .emp L)) := setK_perm (hasK_of (by rw [hl1']; exact Hp.ne_emp he1))
  -- the rest, with a hole
  have hrest : (.emp :: L.map Prod.snd).Perm (p2 :: p1 :: offK k1 (setK k2 .emp L)) :=
    ((h2.cons _).trans (List.Perm.swap _ _ _)).trans (((h2'.symm).trans h1).cons _)
  have key : SCalls P f ss (.emp :: L.map Prod.snd) fun r H => ∃ N, Φ r N ∧ H = N ++ offK k1 (setK k2 .emp L) := by
    refine SCalls.perm (hrest.trans (List.Perm.swap _ _ _)) ?_
    refine (SCalls.frame (A := [p1, p2]) (H := offK k1 (setK k2 .emp L)) (K := fun r H => ∃ N, Φ r N ∧ H = N ++ offK k1 (setK k2 .emp L)) fun R => (h R).mono fun r H' ⟨N, e, hΦ⟩ => ⟨N, e, N, hΦ, rfl⟩).mono ?_
    rintro r H' ⟨N, hΦ, rfl⟩
    exact ⟨_, List.Perm.refl _, N, hΦ, rfl⟩
  have addE : ∀ {w : World} {F : Nat → Prop} {l : List Hp}, HSat w F l → HSat w F (.emp :: l) := fun hs =>
    hs.cons (Nat.le_refl _) (fun _ _ => rfl) trivial fun _ hb => hb.elim
  refine .gen ((SCalls.le (fun w F hs => addE hs) key).post ?_)
  rintro r H' ⟨N, hΦ, rfl⟩
  refine ⟨r, (keyN nx N (setK k1 .emp (setK k2 .emp L))).map Prod.snd, fun w F v hs hv => ⟨F, fun _ h => h, ?_, hv⟩, _, rfl, fun k' g t n f hlt hk => ?_, k r N hΦ⟩
  · rw [keyN_snd]
    refine (addE hs).perm ?_
    exact (List.perm_middle.symm).trans (List.Perm.append_left N h1'.symm)
  · have key : ∀ (N : List Hp) (m : Nat) (L' : Hpl) (k : Nat) (x : Hp), k < m → lk k L' = x → lk k (keyN m N L') = x := by
      intro N
      induction N with
      | nil => intro m L' k x _ h; exact h
      | cons y N ih =>
        intro m L' k x hkm h
        simp only [keyN, lk]
        have : Nat.beq m k = false := by rw [Bool.eq_false_iff]; intro hb; have := Nat.eq_of_beq_eq_true hb; omega
        rw [this, cond_false]
        exact ih (m + 1) L' k x (by omega) h
    refine key N nx _ k' _ hlt ?_
    rw [lk_setK_self_ne (by rintro rfl; rw [hl1] at hk; exact hb1 _ _ _ _ hk), lk_setK_self_ne (by rintro rfl; rw [hl2] at hk; exact hb2 _ _ _ _ hk)]
    exact hk
end Go.Proofs.YtcagfmbboliohaaDoor
/-! YtcagfmbboliohaaDoorExI -/
set_option linter.all false
namespace Go.Proofs.YtcagfmbboliohaaDoor
open Go.RowKit

end Go.Proofs.YtcagfmbboliohaaDoor
/-! YtcagfmbboliohaaDoorExM -/
set_option linter.all false
namespace Go.Proofs.YtcagfmbboliohaaDoor
open Go.RowKit

theorem putR_ne {i o m j k : Nat} {fv : Nat → SV} {f : Nat → Nat → SV} (h : j ≠ i) : putR i o m fv f j k = f j k := by
  unfold putR
  have e : Nat.beq j i = false := by rw [Bool.eq_false_iff]; exact fun hb => h (Nat.eq_of_beq_eq_true hb)
  rw [e, cond_false]
theorem putR_eqf (i o m : Nat) (fv : Nat → SV) (f : Nat → Nat → SV) : putR i o m fv f i = putF o m fv (f i) := by
  funext k
  unfold putR
  rw [Nat.beq_refl, cond_true]
/-- elements 0 .. n-1 -/
def mkL {α : Type} (m : Nat → α) (n : Nat) : List α := (List.range n).map m
theorem mkL_len {α : Type} {m : Nat → α} {n : Nat} : (mkL m n).length = n := by simp [mkL]
theorem mkL_get {α : Type} [Inhabited α] {m : Nat → α} {n i : Nat} (h : i < n) : (mkL m n).getD i default = m i := by simp [mkL, List.getD_eq_getElem?_getD, h]
/-- the first i elements are those of m -/
def mixF {α : Type} [Inhabited α] (en : α → Nat → SV) (m : Nat → α) (l : List α) (i : Nat) : Nat → Nat → SV := fun j c => if j < i then en (m j) c else en (l.getD j default) c
theorem mix_lt {α : Type} [Inhabited α] {en : α → Nat → SV} {m : Nat → α} {l : List α} {i j c : Nat} (h : j < i) : mixF en m l i j c = en (m j) c := if_pos h
theorem mix_ge {α : Type} [Inhabited α] {en : α → Nat → SV} {m : Nat → α} {l : List α} {i j c : Nat} (h : i ≤ j) : mixF en m l i j c = en (l.getD j default) c := if_neg (by omega)
theorem mix_next {α : Type} [Inhabited α] {en : α → Nat → SV} {m : Nat → α} {l : List α} {i j c : Nat} (h : j ≠ i) : mixF en m l i j c = mixF en m l (i + 1) j c := by
  unfold mixF
  by_cases h1 : j < i
  · rw [if_pos h1, if_pos (by omega)]
  · rw [if_neg h1, if_neg (by omega)]
theorem mix_end {α : Type} [Inhabited α] {en : α → Nat → SV} {m : Nat → α} {l : List α} {n j c : Nat} (h : j < n) : mixF en m l n j c = rowF en (mkL m n) j c := by
  rw [mix_lt h]
  show _ = en ((mkL m n).getD j default) c
  rw [mkL_get h]
/-- a call that turns one piece, that is no block -/
theorem CallN.turn1 {P : Program} {f : FuncId} {ss : List SV} {L : Hpl} {nx : Nat} {K : KK} (i : Nat) (p : Hp) (Φ : SV → List Hp → Hp → Prop) (hl : lk i L = p) (he : p.isEmp = false) (hb : ∀ g t n f, p ≠ .box g t n f) (h : SMut P f ss p Φ)
    (k : ∀ r N p', Φ r N p' → K (r.lift nx) (keyN nx N (setK i p' L)) (nx + 10)) : CallN P f ss L nx K := by
  obtain ⟨j, h1, h2⟩ := setK_idx (i := i) (p := .emp) (L := L) (hasK_of (by rw [hl]; exact Hp.ne_emp he))
  rw [hl] at h1
  refine .gen (h.call j h1 fun r N p' hr => ⟨_, by rw [keyN_snd, h2], fun q g t n f hlt hk => ?_, k r N p' hr⟩)
  have key : ∀ (N : List Hp) (m : Nat) (L' : Hpl) (k : Nat) (x : Hp), k < m → lk k L' = x → lk k (keyN m N L') = x := by
    intro N
    induction N with
    | nil => intro m L' k x _ h; exact h
    | cons y N ih =>
      intro m L' k x hkm h
      simp only [keyN, lk]
      have : Nat.beq m k = false := by rw [Bool.eq_false_iff]; intro hb; have := Nat.eq_of_beq_eq_true hb; omega
      rw [this, cond_false]
      exact ih (m + 1) L' k x (by omega) h
  refine key N nx _ q _ hlt ?_
  rw [lk_setK_ne (by rintro rfl; rw [hl] at hk; exact hb _ _ _ _ hk)]
  exact hk
/-- a state between two codes, told as the walk goes on from it -/
structure Cut {ι : Type} (S : ι → St) (s : St) : Prop where
  h : ∃ i, SLe s (S i)
def Qcut {ι : Type} (S : ι → St) (Q : Exit → St → Prop) : Exit → St → Prop
  | .normal, s => Cut S s
  | e, s => Q e s
theorem HT.cut {P : Program} {n : Nat} {x y : Code} {Q : Exit → St → Prop} {s : St} {ι : Type} (S : ι → St) (h1 : HT P n x (Qcut S Q) s) (h2 : ∀ i, HT P n y Q (S i)) : HT P n (.seq x y) Q s :=
  HT.seq (h1.mono fun e s' hq => by
    cases e
    case normal =>
      obtain ⟨i, hle⟩ := hq.h
      exact HT.le hle (h2 i)
    all_goals exact hq)
/-- the walk stops ahead of a region -/
structure Stop (p : Prop) : Prop where
  h : p
theorem HT.stopR {P : Program} {n : Nat} {o : Array Oper} {d : Bool} {y : Code} {Q : Exit → St → Prop} {s : St} (r : Nat) (h : Stop (HT P n (.seq (.region r o d) y) Q s)) : HT P n (.seq (.region r o d) y) Q s := h.h
theorem own_arg {v : Value} {l : List SV} {w : World} {F : Nat → Prop} {x : Value} {k : Nat} (h : Has w F ((SV.val v :: l).getD k (.val undef)) x) : Has w F (upd (argF (SV.val v :: l)) 0 (.own 0 v) k) x := by
  unfold upd
  cases e : Nat.beq k 0
  · exact h
  · have := Nat.eq_of_beq_eq_true e
    subst this
    exact h
theorem own_argK {v : Value} {q : Nat} {l : List SV} {w : World} {F : Nat → Prop} {x : Value} {k : Nat} (h : Has w F ((SV.val v :: l).getD k (.val undef)) x) : Has w F (upd (argF (SV.val v :: l)) 0 (.own q v) k) x := by
  unfold upd
  cases e : Nat.beq k 0
  · exact h
  · have := Nat.eq_of_beq_eq_true e
    subst this
    exact h

end Go.Proofs.YtcagfmbboliohaaDoor
