/- Texts of this proof put together: Gen, CmPure, Cm, Dr, Ra. -/
import Derived.Test.YtcagfmbboliohaaDoorQ01
import Derived.Test.YtcagfmbboliohaaDoorQ02
import Derived.Test.YtcagfmbboliohaaDoorQ03
import Derived.Test.YtcagfmbboliohaaDoorQ04
import Derived.Test.YtcagfmbboliohaaDoorQ05
import Derived.Test.YtcagfmbboliohaaDoorQ06
import Derived.Test.YtcagfmbboliohaaDoorQ07
import Derived.Test.YtcagfmbboliohaaDoorQ08
/-! YtcagfmbboliohaaDoorGen -/
set_option linter.all false
namespace Go.Proofs.YtcagfmbboliohaaDoor
open Go.RowKit

/-- one piece told by another -/
structure Hp.Sub (p p' : Hp) : Prop where
  fp : ∀ b, p'.fp b → p.fp b
  holds : ∀ w F, p.holds w F → p'.holds w F
theorem Hp.Sub.refl (p : Hp) : p.Sub p := ⟨fun _ h => h, fun _ _ h => h⟩
theorem Hp.Sub.box {g n : Nat} {t : TypeId} {f f' : Nat → SV} (h : ∀ j, j < n → f j = f' j) : (Hp.box g t n f).Sub (.box g t n f') :=
  ⟨fun _ h => h, fun w F ⟨cs, a, b, c⟩ => ⟨cs, a, b, fun j hj => by have := c j hj; rw [h j hj] at this; exact this⟩⟩
theorem Hp.Sub.row {n sz : Nat} {v : Value} {e : TypeId} {f f' : Nat → Nat → SV} (h : ∀ i j, i < n → j < sz → f i j = f' i j) : (Hp.row v e sz n f).Sub (.row v e sz n f') :=
  ⟨fun _ h => h, fun w F ⟨xs, a, c⟩ => ⟨xs, a, fun i j hi hj => by have := c i j hi hj; rw [h i j hi hj] at this; exact this⟩⟩
def PLe : Hpl → Hpl → Prop
  | x :: L, y :: L' => x.2.Sub y.2 ∧ PLe L L'
  | [], [] => True
  | _, _ => False
theorem PLe.refl : ∀ L, PLe L L
  | [] => trivial
  | _ :: L => ⟨.refl _, PLe.refl L⟩
theorem PLe.cons {k : Nat} {p p' : Hp} {L L' : Hpl} (h : p.Sub p') (t : PLe L L') : PLe ((k, p) :: L) ((k, p') :: L') := ⟨h, t⟩
theorem PLe.mem : ∀ {L L' : Hpl}, PLe L L' → ∀ q ∈ L'.map Prod.snd, ∃ p ∈ L.map Prod.snd, p.Sub q
  | [], [], _, _, h => by cases h
  | x :: L, y :: L', h, q, hq => by
    rcases List.mem_cons.1 hq with rfl | hq
    · exact ⟨_, List.mem_cons_self, h.1⟩
    · obtain ⟨p, hp, hs⟩ := PLe.mem h.2 q hq
      exact ⟨p, List.mem_cons_of_mem _ hp, hs⟩
  | [], _ :: _, h, _, _ => h.elim
  | _ :: _, [], h, _, _ => h.elim
theorem PLe.apart : ∀ {L L' : Hpl}, PLe L L' → (L.map Prod.snd).Pairwise (fun p q => ∀ b, p.fp b → ¬ q.fp b) → (L'.map Prod.snd).Pairwise (fun p q => ∀ b, p.fp b → ¬ q.fp b)
  | [], [], _, _ => .nil
  | x :: L, y :: L', h, hp => by
    obtain ⟨h1, h2⟩ := List.pairwise_cons.1 hp
    refine List.pairwise_cons.2 ⟨fun q hq b hb hbq => ?_, PLe.apart h.2 h2⟩
    obtain ⟨p, hp, hs⟩ := h.2.mem q hq
    exact h1 p hp b (h.1.fp b hb) (hs.fp b hbq)
  | [], _ :: _, h, _ => h.elim
  | _ :: _, [], h, _ => h.elim
theorem PLe.hle {L L' : Hpl} (h : PLe L L') : HLe L L' := fun w F hs => ⟨F, fun _ h => h, ⟨fun q hq => by
    obtain ⟨p, hp, hsb⟩ := h.mem q hq
    exact hsb.holds _ _ (hs.holds p hp), fun q hq b hb => by
    obtain ⟨p, hp, hsb⟩ := h.mem q hq
    exact hs.fp p hp b (hsb.fp b hb), h.apart hs.apart, hs.lt⟩⟩
/-- the heap of a walk, told anew -/
theorem HT.swapL {P : Program} {n : Nat} {c : Code} {Q : Exit → St → Prop} {σ : Fr} {L L' : Hpl} {nx : Nat} (h : PLe L L') (k : HT P n c Q ⟨σ, L', nx⟩) : HT P n c Q ⟨σ, L, nx⟩ :=
  HT.le (fun n _ F a w hs => by
    obtain ⟨F', hF, hh⟩ := h.hle w F hs.heap
    exact ⟨F', hF, hs.size, hs.defers, fun k => (hs.fr k).mono hF, hh⟩) k

theorem HT.loopS {P : Program} {n : Nat} {c : Code} {Q : Exit → St → Prop} {s : St} {ι : Type} (ks : List Nat) (chg : ι → List (Nat × SV)) (J : ι → Prop) (μ : ι → Nat) (i0 : ι) (hJ : J i0) (h0 : MatchL s.σ (chg i0))
    (h : fcK s.L fun L => ∀ i, J i → HT P n c (Qloop ks s.σ chg (fun _ => L) J μ i Q) ⟨updL (keepF ks s.σ) (chg i), L, s.nx⟩) : HT P n (.loop c) Q s := by
  rw [fcK_eq] at h
  exact HT.loopK ks chg (fun _ => s.L) s.nx J μ i0 hJ h0 (HLe.refl _) h

theorem HSat.sub {w : World} {F : Nat → Prop} {H H' : List Hp} (h : HSat w F H) (s : H'.Sublist H) : HSat w F H' :=
  ⟨fun p hp => h.holds p (s.subset hp), fun p hp => h.fp p (s.subset hp), h.apart.sublist s, h.lt⟩
theorem HSat.one {w : World} {F : Nat → Prop} {p q : Hp} {H : List Hp} (h : HSat w F (p :: H)) (s : p.Sub q) : HSat w F (q :: H) :=
  h.turn (Nat.le_refl _) (fun _ _ _ => rfl) (s.holds _ _ (h.holds _ List.mem_cons_self)) fun b hb => ⟨(h.fp _ List.mem_cons_self b (s.fp b hb)).1, .inl (s.fp b hb)⟩
/-- the keys of a result: those that own, by m -/
def SV.rekey (m : Nat → Nat) : SV → SV
  | .ptr k g o => .ptr (m k) g o
  | .own k v => .own (m k) v
  | .rp k g sz i o => .rp (m k) g sz i o
  | .vw k g sz i n c => .vw (m k) g sz i n c
  | .agg n f => .agg n (litF (tabF (fun k => (f k).rekey m) n 0))
  | .tup n f => .tup n (litF (tabF (fun k => (f k).rekey m) n 0))
  | .ifc t s => .ifc t (s.rekey m)
  | s => s
theorem Has.rekey {w : World} {F : Nat → Prop} {m : Nat → Nat} : ∀ {s : SV} {v : Value}, Has w F s v → Has w F (s.rekey m) v
  | .any, _, h => h
  | .val _, _, h => h
  | .agg n f, _, ⟨vs, e, hn, h⟩ => ⟨vs, e, hn, fun k hk => by
      have := tabF_get (f := fun k => (f k).rekey m) n 0 k hk
      rw [Nat.zero_add] at this
      show Has w F ((tabF (fun k => (f k).rekey m) n 0).getD k .any) _
      rw [this]
      exact Has.rekey (h k hk)⟩
  | .tup n f, _, ⟨vs, e, hn, h⟩ => ⟨vs, e, hn, fun k hk => by
      have := tabF_get (f := fun k => (f k).rekey m) n 0 k hk
      rw [Nat.zero_add] at this
      show Has w F ((tabF (fun k => (f k).rekey m) n 0).getD k .any) _
      rw [this]
      exact Has.rekey (h k hk)⟩
  | .sl _ _ _, _, h => h
  | .ref _ _ _ _, _, h => h
  | .pp _ _, _, h => h
  | .ptr _ _ _, _, h => h
  | .own _ _, _, h => h
  | .rp _ _ _ _ _, _, h => h
  | .vw _ _ _ _ _ _, _, h => h
  | .ifc _ _, _, ⟨v, e, h⟩ => ⟨v, e, Has.rekey h⟩
  | .fn _ _ _, _, h => h
/-- nil owns a row of no elements -/
theorem HSat.nil {w : World} {F : Nat → Prop} {H : List Hp} (h : HSat w F H) (e : TypeId) (sz : Nat) (f : Nat → Nat → SV) : HSat w F (.row (.slice none 0 0) e sz 0 f :: H) :=
  ⟨fun p hp => by
    rcases List.mem_cons.1 hp with rfl | hp
    · exact ⟨[], World.ownsRow_nil _ _ _ _, fun i k hi => absurd hi (by omega)⟩
    · exact h.holds p hp,
   fun p hp b hb => by
    rcases List.mem_cons.1 hp with rfl | hp
    · cases hb
    · exact h.fp p hp b hb,
   List.pairwise_cons.2 ⟨fun q _ b hb => (by cases hb), h.apart⟩, h.lt⟩
theorem Fin.nil {r r' : SV} {e : TypeId} {sz : Nat} {f : Nat → Nat → SV} {H : List Hp} {R : Heaplet} {Φ : SV → List Hp → Prop} (hs : List.Sublist [.cust R] H) (hr : ∀ w F x, Has w F r x → Has w F r' x) (h : Φ r' [.row (.slice none 0 0) e sz 0 f]) : Fin r H (fun r H' => ∃ N, H' = N ++ [.cust R] ∧ Φ r N) :=
  ⟨⟨r', [.row (.slice none 0 0) e sz 0 f, .cust R], fun w F x hw hv => ⟨F, fun _ h => h, (hw.sub hs).nil e sz f, hr w F x hv⟩, [_], rfl, h⟩⟩
theorem Fin.row {r : SV} {v : Value} {e : TypeId} {sz n n' : Nat} {f f' : Nat → Nat → SV} {H : List Hp} {R : Heaplet} {Φ : SV → List Hp → Prop} (hs : List.Sublist [.row v e sz n f, .cust R] H) (hn : n = n') (hf : ∀ i j, i < n → j < sz → f i j = f' i j) (h : Φ (r.rekey fun _ => 0) [.row v e sz n' f']) : Fin r H (fun r H' => ∃ N, H' = N ++ [.cust R] ∧ Φ r N) := by
  subst hn
  exact ⟨⟨r.rekey fun _ => 0, [.row v e sz n f', .cust R], fun w F x hw hv => ⟨F, fun _ h => h, (hw.sub hs).one (.row hf), hv.rekey⟩, [_], rfl, h⟩⟩
theorem HLe.sub {L L' : Hpl} (h : (L'.map Prod.snd).Sublist (L.map Prod.snd)) : HLe L L' := fun w F hs => ⟨F, fun _ h => h, hs.sub h⟩
theorem HLe.swap (x y : Nat × Hp) (L : Hpl) : HLe (x :: y :: L) (y :: x :: L) := fun w F hs => ⟨F, fun _ h => h, hs.perm (List.Perm.swap _ _ _)⟩

theorem Hp.Sub.rd {g : Nat} {m m' : Int} (hm : m ≤ m') : (Hp.cust (rdH g m)).Sub (.cust (rdH g m')) := ⟨fun _ h => h, fun _ _ h => rd_weak hm h⟩
theorem Hp.Sub.boxH {g n : Nat} {t : TypeId} {f f' : Nat → SV} (h : ∀ j, j < n → ∀ w F x, Has w F (f j) x → Has w F (f' j) x) : (Hp.box g t n f).Sub (.box g t n f') :=
  ⟨fun _ h => h, fun w F ⟨cs, a, b, c⟩ => ⟨cs, a, b, fun j hj => ⟨(c j hj).1, h j hj _ _ _ (c j hj).2⟩⟩⟩
theorem HLe.of_sub {L L' : Hpl} (ps : List Hp) (h : ps.Sublist (L.map Prod.snd)) (h2 : ∀ w F, HSat w F ps → HSat w F (L'.map Prod.snd)) : HLe L L' := fun w F hs => ⟨F, fun _ h => h, h2 w F (hs.sub h)⟩
theorem HSat.ple {w : World} {F : Nat → Prop} (L L' : Hpl) (h : PLe L L') (hs : HSat w F (L.map Prod.snd)) : HSat w F (L'.map Prod.snd) := by
  exact ⟨fun q hq => by
    obtain ⟨p, hp, hsb⟩ := h.mem q hq
    exact hsb.holds _ _ (hs.holds p hp), fun q hq b hb => by
    obtain ⟨p, hp, hsb⟩ := h.mem q hq
    exact hs.fp p hp b (hsb.fp b hb), h.apart hs.apart, hs.lt⟩
theorem has2 {f f' : Nat → SV} (h0 : ∀ w F x, Has w F (f 0) x → Has w F (f' 0) x) (h1 : ∀ w F x, Has w F (f 1) x → Has w F (f' 1) x) : ∀ j, j < 2 → ∀ w F x, Has w F (f j) x → Has w F (f' j) x := fun j hj => by
  rcases (by omega : j = 0 ∨ j = 1) with rfl | rfl <;> assumption
theorem Fin.rowRd {r : SV} {v : Value} {e : TypeId} {sz n n' : Nat} {f f' : Nat → Nat → SV} {g : Nat} {m1 m2 : Int} {H : List Hp} {R : Heaplet} {Φ : SV → List Hp → Hp → Prop} (hs : List.Sublist [.row v e sz n f, .cust (rdH g m1), .cust R] H) (hm : m1 ≤ m2) (hn : n = n') (hf : ∀ i j, i < n → j < sz → f i j = f' i j)
    (h : Φ (r.rekey fun _ => 0) [.row v e sz n' f'] (.cust (rdH g m2))) : Fin r H (fun r H' => ∃ N p', H' = N ++ [p', .cust R] ∧ Φ r N p') := by
  subst hn
  exact ⟨⟨r.rekey fun _ => 0, [.row v e sz n f', .cust (rdH g m2), .cust R], fun w F x hw hv => ⟨F, fun _ h => h, HSat.ple [(0, .row v e sz n f), (0, .cust (rdH g m1)), (0, .cust R)] [(0, .row v e sz n f'), (0, .cust (rdH g m2)), (0, .cust R)] (.cons (.row hf) (.cons (.rd hm) (.cons (.refl _) trivial))) (hw.sub hs), hv.rekey⟩, [_], _, rfl, h⟩⟩


/-- the heap, to be looked at -/
def ShowL (_ : Hpl) : Prop := True
theorem HT.see {P : Program} {n : Nat} {c : Code} {Q : Exit → St → Prop} {s : St} (h : fcK s.L fun L => ShowL L → HT P n c Q s) : HT P n c Q s := by
  rw [fcK_eq] at h
  exact h trivial
/-! ### picking -/
/-- the pieces of H', each told by one of H -/
inductive PPick : List Hp → List Hp → Prop
  | nil (H : List Hp) : PPick H []
  | cons {H H' : List Hp} {p q : Hp} (i : Nat) (h : H[i]? = some p) (s : p.Sub q) (r : PPick (H.eraseIdx i) H') : PPick H (q :: H')
theorem perm_erase {H : List Hp} {i : Nat} {p : Hp} (h : H[i]? = some p) : H.Perm (p :: H.eraseIdx i) := by
  have hlt : i < H.length := (List.getElem?_eq_some_iff.1 h).1
  have hget : H[i] = p := (List.getElem?_eq_some_iff.1 h).2
  have hperm : (H.set i p).Perm (p :: H.eraseIdx i) := by
    rw [List.set_eq_take_append_cons_drop, if_pos hlt, List.eraseIdx_eq_take_drop_succ]
    exact List.perm_middle
  subst hget
  rwa [List.set_getElem_self] at hperm
theorem PPick.fp {H H' : List Hp} (h : PPick H H') : ∀ q ∈ H', ∀ b, q.fp b → ∃ p ∈ H, p.fp b := by
  induction h with
  | nil H => intro q hq; cases hq
  | cons i h s r ih =>
    intro q hq b hb
    rcases List.mem_cons.1 hq with rfl | hq
    · exact ⟨_, List.mem_of_getElem? h, s.fp b hb⟩
    · obtain ⟨p, hp, hb⟩ := ih q hq b hb
      exact ⟨p, List.mem_of_mem_eraseIdx hp, hb⟩
theorem PPick.sat {w : World} {F : Nat → Prop} {H H' : List Hp} (h : PPick H H') : HSat w F H → HSat w F H' := by
  induction h with
  | nil H => intro hs; exact ⟨fun _ h => (by cases h), fun _ h => (by cases h), List.Pairwise.nil, hs.lt⟩
  | cons i h s r ih =>
    intro hs
    have hs1 := hs.perm (perm_erase h)
    have hap := List.pairwise_cons.1 hs1.apart
    have ht := ih hs1.tail
    refine ⟨fun q hq => ?_, fun q hq b hb => ?_, List.pairwise_cons.2 ⟨fun q hq b hb hbq => ?_, ht.apart⟩, hs.lt⟩
    · rcases List.mem_cons.1 hq with rfl | hq
      · exact s.holds _ _ (hs1.holds _ List.mem_cons_self)
      · exact ht.holds q hq
    · rcases List.mem_cons.1 hq with rfl | hq
      · exact hs1.fp _ List.mem_cons_self b (s.fp b hb)
      · exact ht.fp q hq b hb
    · obtain ⟨p, hp, hbp⟩ := r.fp q hq b hbq
      exact hap.1 p hp b (s.fp b hb) hbp
theorem PPick.hle {L L' : Hpl} (h : PPick (L.map Prod.snd) (L'.map Prod.snd)) : HLe L L' := fun w F hs => ⟨F, fun _ h => h, h.sat hs⟩
/-- pieces looked at one by one: those passed by stand in acc -/
def PP (acc H H' : List Hp) : Prop := PPick (acc ++ H) H'
theorem PP.start {H H' : List Hp} (h : PP [] H H') : PPick H H' := h
theorem PP.nil {acc H : List Hp} : PP acc H [] := PPick.nil _
theorem PP.take {acc H H' : List Hp} {p q : Hp} (s : p.Sub q) (r : PP [] (acc ++ H) H') : PP acc (p :: H) (q :: H') :=
  PPick.cons acc.length (by simp) s (by
    have : (acc ++ p :: H).eraseIdx acc.length = acc ++ H := by
      rw [List.eraseIdx_append_of_length_le (Nat.le_refl _), Nat.sub_self]; rfl
    rw [this]; exact r)
theorem PP.skip {acc H H' : List Hp} {p : Hp} (h : PP (acc ++ [p]) H H') : PP acc (p :: H) H' := by
  unfold PP at h ⊢
  rwa [List.append_assoc] at h
theorem Fin.pick {r r' : SV} {H H' : List Hp} {K : SV → List Hp → Prop} (hp : PPick H H') (hr : ∀ w F v, Has w F r v → Has w F r' v) (h : K r' H') : Fin r H K :=
  ⟨⟨r', H', fun w F v hs hv => ⟨F, fun _ h => h, hp.sat hs, hr w F v hv⟩, h⟩⟩
/-- a result with new pieces -/
theorem Fin.news {r : SV} {H : List Hp} {R : Heaplet} {Φ : SV → List Hp → Prop} (N : List Hp) (m : Nat → Nat) (hp : PPick H (N ++ [.cust R])) (h : Φ (r.rekey m) N) : Fin r H (fun r H' => ∃ N, H' = N ++ [.cust R] ∧ Φ r N) :=
  Fin.pick hp (fun _ _ _ h => h.rekey) ⟨N, rfl, h⟩
theorem Fin.mut {r : SV} {H : List Hp} {R : Heaplet} {Φ : SV → List Hp → Hp → Prop} (N : List Hp) (p' : Hp) (m : Nat → Nat) (hp : PPick H (N ++ [p', .cust R])) (h : Φ (r.rekey m) N p') : Fin r H (fun r H' => ∃ N p', H' = N ++ [p', .cust R] ∧ Φ r N p') :=
  Fin.pick hp (fun _ _ _ h => h.rekey) ⟨N, p', rfl, h⟩
/-- a row that stands still from here on; the rest is picked -/
theorem Fin.still {r r' : SV} {H H' : List Hp} {K : SV → List Hp → Prop} {v : Value} {e : TypeId} {sz n : Nat} {f' : Nat → Nat → SV} (hp : PPick H (.row v e sz n f' :: H')) (hr : ∀ w F x, Has w F (.sl sz n f') v → Has w F r x → Has w F r' x) (h : K r' H') : Fin r H K :=
  ⟨⟨r', H', fun w F x hs hx => Ent.row hr w F x (hp.sat hs) hx, h⟩⟩
theorem Fin.still3 {r r' : SV} {H H' : List Hp} {K : SV → List Hp → Prop} {v1 v2 v3 : Value} {e1 e2 e3 : TypeId} {z1 z2 z3 n1 n2 n3 : Nat} {f1 f2 f3 : Nat → Nat → SV} (hp : PPick H (.row v1 e1 z1 n1 f1 :: .row v2 e2 z2 n2 f2 :: .row v3 e3 z3 n3 f3 :: H'))
    (hr : ∀ w F x, Has w F (.sl z1 n1 f1) v1 → Has w F (.sl z2 n2 f2) v2 → Has w F (.sl z3 n3 f3) v3 → Has w F r x → Has w F r' x) (h : K r' H') : Fin r H K :=
  ⟨⟨r', H', fun w F x hs hx => by
    have h0 := hp.sat hs
    have h1 := h0.freeze
    have h2 := h1.freeze
    have h3 := h2.freeze
    refine ⟨_, fun b hb => .inl (.inl (.inl hb)), h3, hr w _ x ?_ ?_ ?_ (hx.mono fun b hb => .inl (.inl (.inl hb)))⟩
    · exact row_sl (h0.holds _ List.mem_cons_self) (fun b hb => .inl (.inl (.inl hb))) fun b hb => .inl (.inl (.inr hb))
    · exact row_sl (h1.holds _ List.mem_cons_self) (fun b hb => .inl (.inl hb)) fun b hb => .inl (.inr hb)
    · exact row_sl (h2.holds _ List.mem_cons_self) (fun b hb => .inl hb) fun b hb => .inr hb, h⟩⟩
theorem Fin.still2 {r r' : SV} {H H' : List Hp} {K : SV → List Hp → Prop} {v1 v2 : Value} {e1 e2 : TypeId} {z1 z2 n1 n2 : Nat} {f1 f2 : Nat → Nat → SV} (hp : PPick H (.row v1 e1 z1 n1 f1 :: .row v2 e2 z2 n2 f2 :: H'))
    (hr : ∀ w F x, Has w F (.sl z1 n1 f1) v1 → Has w F (.sl z2 n2 f2) v2 → Has w F r x → Has w F r' x) (h : K r' H') : Fin r H K :=
  ⟨⟨r', H', fun w F x hs hx => by
    have h0 := hp.sat hs
    have h1 := h0.freeze
    have h2 := h1.freeze
    refine ⟨_, fun b hb => .inl (.inl hb), h2, hr w _ x ?_ ?_ (hx.mono fun b hb => .inl (.inl hb))⟩
    · exact row_sl (h0.holds _ List.mem_cons_self) (fun b hb => .inl (.inl hb)) fun b hb => .inl (.inr hb)
    · exact row_sl (h1.holds _ List.mem_cons_self) (fun b hb => .inl hb) fun b hb => .inr hb, h⟩⟩
/-- the one row that is the result -/
theorem Fin.sl {v : Value} {e : TypeId} {sz n n' k : Nat} {f f' : Nat → Nat → SV} {H : List Hp} {R : Heaplet} {Φ : SV → Prop} (hs : List.Sublist [.row v e sz n f, .cust R] H) (hn : n = n') (hf : ∀ i j, i < n → j < sz → f i j = f' i j) (h : Φ (.sl sz n' f')) : Fin (.own k v) H (fun r H' => H' = [.cust R] ∧ Φ r) := by
  subst hn
  exact ⟨⟨.sl sz n f', [.cust R], fun w F x hw hx => Ent.row (fun w F x hv hx => by have e : x = v := hx; subst e; exact hv) w F x ((hw.sub hs).one (.row hf)) hx, rfl, h⟩⟩
theorem Fin.slNil {sz : Nat} {f : Nat → Nat → SV} {H : List Hp} {R : Heaplet} {Φ : SV → Prop} (hs : List.Sublist [.cust R] H) (h : Φ (.sl sz 0 f)) : Fin (.val (.slice none 0 0)) H (fun r H' => H' = [.cust R] ∧ Φ r) :=
  ⟨⟨.sl sz 0 f, [.cust R], fun w F x hw hx => ⟨F, fun _ h => h, hw.sub hs, by have e : x = .slice none 0 0 := hx; subst e; exact ⟨none, 0, rfl, Nat.le_refl _, Nat.zero_le _, fun h => absurd h (by omega)⟩⟩, rfl, h⟩⟩

/-- one cell told by another -/
def CellLe (s s' : SV) : Prop := ∀ w F x, Has w F s x → Has w F s' x
theorem CellLe.refl (s : SV) : CellLe s s := fun _ _ _ h => h
theorem CellLe.of_eq {s s' : SV} (h : s = s') : CellLe s s' := h ▸ CellLe.refl _
theorem CellLe.own {k k' : Nat} {v : Value} : CellLe (.own k v) (.own k' v) := fun _ _ _ h => h
theorem CellLe.i {a b : Int} (h : a = b) : CellLe (.i a) (.i b) := h ▸ CellLe.refl _
theorem CellLe.b {a b : Bool} (h : a = b) : CellLe (.b a) (.b b) := h ▸ CellLe.refl _
theorem CellLe.any (s : SV) : CellLe s .any := fun _ _ _ _ => trivial
theorem CellLe.nil {k : Nat} : CellLe (.val (.slice none 0 0)) (.own k (.slice none 0 0)) := fun _ _ _ h => h
theorem CellLe.slNil {sz : Nat} {f : Nat → Nat → SV} : CellLe (.val (.slice none 0 0)) (.sl sz 0 f) := fun w F x hx => by
  have e : x = .slice none 0 0 := hx
  subst e
  exact ⟨none, 0, rfl, Nat.le_refl _, Nat.zero_le _, fun h => absurd h (by omega)⟩
theorem CellLe.aggL {n : Nat} {f f' : Nat → SV} (h : ∀ j, j < n → CellLe (f j) (f' j)) : CellLe (.agg n f) (.agg n f') := fun w F x ⟨vs, e, hn, hc⟩ => ⟨vs, e, hn, fun k hk => h k hk w F _ (hc k hk)⟩
theorem CellLe.ifc {t : TypeId} {s s' : SV} (h : CellLe s s') : CellLe (.ifc t s) (.ifc t s') := fun w F x ⟨v, e, hv⟩ => ⟨v, e, h w F v hv⟩
theorem CellLe.tupL {n : Nat} {f f' : Nat → SV} (h : ∀ j, j < n → CellLe (f j) (f' j)) : CellLe (.tup n f) (.tup n f') := fun w F x ⟨vs, e, hn, hc⟩ => ⟨vs, e, hn, fun k hk => h k hk w F _ (hc k hk)⟩
theorem Fin.pureLe {r r' : SV} {H : List Hp} {R : Heaplet} {Φ : SV → Prop} (hs : List.Sublist [.cust R] H) (hc : CellLe r r') (h : Φ r') : Fin r H (fun r H' => H' = [.cust R] ∧ Φ r) :=
  ⟨⟨r', [.cust R], fun w F v hw hv => ⟨F, fun _ h => h, hw.sub hs, hc w F v hv⟩, rfl, h⟩⟩
theorem Ent.le {r r' : SV} (H : List Hp) (h : CellLe r r') : Ent r H r' H := fun w F v hs hv => ⟨F, fun _ h => h, hs, h w F v hv⟩
theorem Hp.Sub.boxA {g n : Nat} {t : TypeId} {f f' : Nat → SV} (h : ∀ j, j < n → CellLe (f j) (f' j)) : (Hp.box g t n f).Sub (.box g t n f') := Hp.Sub.boxH fun j hj w F x => h j hj w F x
theorem Hp.Sub.rowA {n n' sz : Nat} {v : Value} {e : TypeId} {f f' : Nat → Nat → SV} (hn : n = n') (h : ∀ i j, i < n → j < sz → f i j = f' i j) : (Hp.row v e sz n f).Sub (.row v e sz n' f') := by
  subst hn
  exact .row h
theorem Hp.Sub.rowH {n n' sz : Nat} {v : Value} {e : TypeId} {f f' : Nat → Nat → SV} (hn : n = n') (h : ∀ i j, i < n → j < sz → CellLe (f i j) (f' i j)) : (Hp.row v e sz n f).Sub (.row v e sz n' f') := by
  subst hn
  exact ⟨fun _ h => h, fun w F ⟨xs, a, c⟩ => ⟨xs, a, fun i j hi hj => ⟨(c i j hi hj).1, h i j hi hj w F _ (c i j hi hj).2⟩⟩⟩
theorem HLe.pk {L L' : Hpl} (h : fcH (L.map Prod.snd) fun H => fcH (L'.map Prod.snd) fun H' => PPick H H') : HLe L L' := by
  rw [fcH_eq, fcH_eq] at h
  exact PPick.hle h
/-! ### loops that turn some pieces -/
inductive HC where
  | box (f : Nat → SV)
  | row (v : Value) (n : Nat) (f : Nat → Nat → SV)
  | cells (f : Nat → Nat → SV)
  | cust (h : Heaplet)
def chgP : HC → Hp → Hp
  | .box f, .box g t n _ => .box g t n f
  | .row v n f, .row _ e sz _ _ => .row v e sz n f
  | .cells f, .row v e sz n _ => .row v e sz n f
  | .cust h, _ => .cust h
  | _, p => p
def chgH : List (Nat × HC) → Hpl → Hpl
  | [], L => L
  | (k, c) :: cs, L => chgH cs (setK k (chgP c (lk k L)) L)
def MatchC (σ : Fr) : List (Nat × SV) → Prop
  | [] => True
  | (k, v) :: l => CellLe (σ k) v ∧ MatchC σ l
theorem SLe.mkC {σ' σ : Fr} {ks : List Nat} {chg : List (Nat × SV)} {L' L : Hpl} {nx nx' : Nat} (h1 : KeepL σ' σ ks) (h2 : MatchC σ' chg) (h3 : HLe L' L) : SLe ⟨σ', L', nx⟩ ⟨updL (keepF ks σ) chg, L, nx'⟩ := fun n _ F a w hs => by
  obtain ⟨F', hF, hh⟩ := h3 w F hs.heap
  refine ⟨F', hF, hs.size, hs.defers, ?_, hh⟩
  have hf : FrHas w F' σ' a := fun k => (hs.fr k).mono hF
  have base : FrHas w F' (keepF ks σ) a := fun k => by
    unfold keepF
    cases e : elemB k ks
    · trivial
    · have := hf k
      rw [h1.get e] at this
      exact this
  have : ∀ l : List (Nat × SV), MatchC σ' l → FrHas w F' (updL (keepF ks σ) l) a := by
    intro l
    induction l with
    | nil => intro _; exact base
    | cons p l ih =>
      intro hm k
      obtain ⟨q, v⟩ := p
      show Has w F' (upd _ q v k) _
      unfold upd
      cases e : Nat.beq k q
      · exact ih hm.2 k
      · have := Nat.eq_of_beq_eq_true e
        subst this
        exact hm.1 w F' _ (hf k)
  exact this chg h2
/-- what a round hands on -/
structure HandC {ι : Type} (ks : List Nat) (σ : Fr) (chg : ι → List (Nat × SV)) (LL : ι → Hpl) (J : ι → Prop) (μ : ι → Nat) (i : ι) (s' : St) : Prop where
  h : ∃ j, J j ∧ μ j < μ i ∧ KeepL s'.σ σ ks ∧ MatchC s'.σ (chg j) ∧ HLe s'.L (LL j)
def QloopC {ι : Type} (ks : List Nat) (σ : Fr) (chg : ι → List (Nat × SV)) (LL : ι → Hpl) (J : ι → Prop) (μ : ι → Nat) (i : ι) (Q : Exit → St → Prop) : Exit → St → Prop
  | .normal, s' => HandC ks σ chg LL J μ i s'
  | e, s' => Q e s'
theorem HT.loopC {P : Program} {n : Nat} {c : Code} {Q : Exit → St → Prop} {s : St} {ι : Type} (ks : List Nat) (chg : ι → List (Nat × SV)) (hc : ι → List (Nat × HC)) (J : ι → Prop) (μ : ι → Nat) (i0 : ι) (hJ : J i0) (h0 : MatchC s.σ (chg i0))
    (h0' : fcH (s.L.map Prod.snd) fun H => fcH ((chgH (hc i0) s.L).map Prod.snd) fun H' => PPick H H')
    (h : fcK s.L fun L => ∀ i, J i → fcK (chgH (hc i) L) fun L' => HT P n c (QloopC ks s.σ chg (fun i => chgH (hc i) L) J μ i Q) ⟨updL (keepF ks s.σ) (chg i), L', s.nx⟩) : HT P n (.loop c) Q s := by
  rw [fcK_eq] at h
  refine HT.loop (ι := {i : ι // J i}) (fun i => ⟨updL (keepF ks s.σ) (chg i.1), chgH (hc i.1) s.L, s.nx⟩) (fun i => μ i.1) ⟨i0, hJ⟩ (SLe.mkC (KeepL.rfl _ _) h0 (HLe.pk h0')) fun ⟨i, hi⟩ => ?_
  have := h i hi
  rw [fcK_eq] at this
  refine this.mono fun e s' hq => ?_
  cases e
  case normal =>
    obtain ⟨⟨j, hj, hμ, h1, h2, h3⟩⟩ := hq
    exact ⟨⟨j, hj⟩, SLe.mkC h1 h2 h3, hμ⟩
  all_goals exact hq
/-- a cell of a list of ints is written -/
theorem put_int {l : List Int} {p i j : Nat} {x : Int} {fv : Nat → SV} (hp : p < l.length) (hv : fv 0 = .i x) (hj : j < 1) : putR p 0 1 fv (rowF intF l) i j = rowF intF (l.set p x) i j := by
  have hj : j = 0 := by omega
  subst hj
  show _ = SV.i ((l.set p x).getD i default)
  unfold putR
  by_cases h : i = p
  · subst h
    rw [Nat.beq_refl, cond_true, List.getD_eq_getElem?_getD, List.getElem?_set_self hp]
    exact hv
  · have e : Nat.beq i p = false := by rw [Bool.eq_false_iff]; exact fun hb => h (Nat.eq_of_beq_eq_true hb)
    rw [e, cond_false, List.getD_eq_getElem?_getD, List.getElem?_set_ne (fun e => h e.symm), ← List.getD_eq_getElem?_getD]
    rfl
theorem cat_ints {l m : List Int} {i j : Nat} (hi : i < l.length + m.length) (hj : j < 1) : catF l.length (rowF intF l) (rowF intF m) i j = rowF intF (l ++ m) i j := by
  have hj : j = 0 := by omega
  subst hj
  show _ = SV.i ((l ++ m).getD i default)
  unfold catF
  by_cases h : i < l.length
  · rw [if_pos h]
    show SV.i (l.getD i default) = _
    rw [List.getD_eq_getElem?_getD, List.getD_eq_getElem?_getD, List.getElem?_append_left h]
  · rw [if_neg h]
    show SV.i (m.getD (i - l.length) default) = _
    rw [List.getD_eq_getElem?_getD, List.getD_eq_getElem?_getD, List.getElem?_append_right (by omega)]
theorem cat0 {f g : Nat → Nat → SV} (i j : Nat) : catF 0 f g i j = g i j := rfl
theorem putR_self (i : Nat) (fv : Nat → SV) (f : Nat → Nat → SV) : putR i 0 1 fv f i 0 = fv 0 := by
  unfold putR
  rw [Nat.beq_refl, cond_true]
  rfl
theorem take_ints {l : List Int} {n i j : Nat} (hi : i < n) (hj : j < 1) : rowF intF l i j = rowF intF (l.take n) i j := by
  show SV.i (l.getD i default) = SV.i ((l.take n).getD i default)
  rw [List.getD_eq_getElem?_getD, List.getD_eq_getElem?_getD, List.getElem?_take, if_pos hi]
/-- an element of a literal list -/
theorem lit_bd {l : List Int} {lo hi : Int} (h : l.all (fun x => decide (lo ≤ x) && decide (x ≤ hi)) = true) {k : Nat} (hk : k < l.length) : lo ≤ l.getD k default ∧ l.getD k default ≤ hi := by
  have := List.all_eq_true.1 h l[k] (List.getElem_mem _)
  rw [Bool.and_eq_true, decide_eq_true_eq, decide_eq_true_eq] at this
  rw [show l.getD k default = l[k] by simp [hk]]
  exact this
/-- a list of ints with one more -/
theorem cat_int {l : List Int} {x : Int} {i j : Nat} {g : Nat → Nat → SV} (hi : i < l.length + 1) (hg : g 0 0 = .i x) (hj : j < 1) : catF l.length (rowF intF l) g i j = rowF intF (l ++ [x]) i j := by
  have hj : j = 0 := by omega
  subst hj
  show _ = SV.i ((l ++ [x]).getD i default)
  unfold catF
  by_cases h : i < l.length
  · rw [if_pos h]
    show SV.i (l.getD i default) = _
    rw [List.getD_eq_getElem?_getD, List.getD_eq_getElem?_getD, List.getElem?_append_left h]
  · obtain rfl : i = l.length := by omega
    rw [if_neg h, Nat.sub_self, hg, List.getD_eq_getElem?_getD, List.getElem?_append_right (Nat.le_refl _), Nat.sub_self]
    rfl

/-! ### lending -/
def Lends (L : Hpl) (s s' : SV) : Prop := ∀ w F x, HSat w F (L.map Prod.snd) → Has w F s x → Has w (fun b => b < w.heap.size) s' x
def LendsL (L : Hpl) : List SV → List SV → Prop
  | [], [] => True
  | s :: l, s' :: l' => Lends L s s' ∧ LendsL L l l'
  | _, _ => False
theorem Lends.refl {L : Hpl} (s : SV) : Lends L s s := fun w F x hs hx => hx.mono hs.lt
theorem Lends.row {L : Hpl} {v : Value} {e : TypeId} {sz n : Nat} {f : Nat → Nat → SV} (hm : Hp.row v e sz n f ∈ L.map Prod.snd) : Lends L (.val v) (.sl sz n f) := fun w F x hs hx => by
  have e : x = v := hx
  subst e
  exact row_all hs hm
theorem Lends.rowA {L : Hpl} {v : Value} {e : TypeId} {sz n n' : Nat} {f f' : Nat → Nat → SV} (hm : Hp.row v e sz n f ∈ L.map Prod.snd) (hn : n = n') (hf : ∀ i j, i < n → j < sz → f i j = f' i j) : Lends L (.val v) (.sl sz n' f') := fun w F x hs hx => by
  subst hn
  obtain ⟨A, c, e, h1, h2, h⟩ := Lends.row hm w F x hs hx
  exact ⟨A, c, e, h1, h2, fun hp => by
    obtain ⟨b, off, e, hb, h⟩ := h hp
    exact ⟨b, off, e, hb, fun i k hi hk => by rw [← hf i k hi hk]; exact h i k hi hk⟩⟩
theorem Lends.slNil {L : Hpl} (sz : Nat) (f : Nat → Nat → SV) : Lends L (.val (.slice none 0 0)) (.sl sz 0 f) := fun w F x hs hx => by
  have e : x = .slice none 0 0 := hx
  subst e
  exact ⟨none, 0, rfl, Nat.le_refl _, Nat.zero_le _, fun h => absurd h (by omega)⟩
theorem LendsL.get {L : Hpl} : ∀ {l l' : List SV}, LendsL L l l' → ∀ k, k < l.length → Lends L (l.getD k .any) (l'.getD k .any)
  | [], [], _, k, hk => absurd hk (by simp)
  | s :: l, s' :: l', h, 0, _ => h.1
  | s :: l, s' :: l', h, k + 1, hk => by simpa using LendsL.get h.2 k (by simpa using hk)
  | [], _ :: _, h, _, _ => h.elim
  | _ :: _, [], h, _, _ => h.elim
theorem Lends.agg {L : Hpl} {n : Nat} {l l' : List SV} (h : LendsL L l l') (hn : n = l.length) : Lends L (.agg n (litF l)) (.agg n (litF l')) := fun w F x hs hx => by
  obtain ⟨vs, e, hv, hc⟩ := hx
  exact ⟨vs, e, hv, fun k hk => LendsL.get h k (by omega) w F _ hs (hc k hk)⟩
theorem LendsL.has {L : Hpl} {w : World} {F : Nat → Prop} (hs : HSat w F (L.map Prod.snd)) : ∀ {ss ss' : List SV} {vs : List Value}, LendsL L ss ss' → HasL w F ss vs → HasL w (fun b => b < w.heap.size) ss' vs
  | [], [], [], _, _ => trivial
  | s :: ss, s' :: ss', v :: vs, h, hv => ⟨h.1 w F v hs hv.1, LendsL.has hs h.2 hv.2⟩
  | [], _ :: _, _, h, _ => h.elim
  | _ :: _, [], _, h, _ => h.elim
  | [], [], _ :: _, _, h => h.elim
  | _ :: _, _ :: _, [], _, h => h.elim
/-- a reader is called while rows are owned -/
theorem CallN.retB {P : Program} {f : FuncId} {ss : List SV} {L : Hpl} {nx : Nat} {K : KK} {ss' : List SV} {Φ : SV → Prop} (h : SRet P f ss' Φ) (hl : LendsL L ss ss') (hf : ∀ r, Φ r → r.free) (k : ∀ r, Φ r → K (r.lift nx) L (nx + 10)) : CallN P f ss L nx K :=
  .newB ss' (fun r N => N = [] ∧ Φ r) ⟨fun R => (h.h R).mono fun r H' ⟨e, hΦ⟩ => ⟨[], e, rfl, hΦ⟩⟩ (fun w F vs hs hv => hl.has hs hv) (fun r N ⟨e, hΦ⟩ => ⟨hf r hΦ, by subst e; simp⟩) fun r N ⟨e, hΦ⟩ => by subst e; exact k r hΦ
theorem CallN.retB1 {P : Program} {f : FuncId} {ss : List SV} {L : Hpl} {nx : Nat} {K : KK} {ss' : List SV} {r0 : SV} (h : SRet P f ss' (· = r0)) (hl : LendsL L ss ss') (hf : r0.free) (k : K (r0.lift nx) L (nx + 10)) : CallN P f ss L nx K :=
  CallN.retB h hl (fun r e => e ▸ hf) fun r e => e ▸ k
/-- what a call makes out of rows that are lent -/
theorem CallN.newBL {P : Program} {f : FuncId} {ss : List SV} {L : Hpl} {nx : Nat} {K : KK} {ss' : List SV} {Φ : SV → List Hp → Prop} (h : SNew P f ss' Φ) (hl : LendsL L ss ss') (hf : ∀ r N, Φ r N → r.free ∧ ∀ p ∈ N, p.free) (k : ∀ r N, Φ r N → K (r.lift nx) (keyN nx N L) (nx + 10)) : CallN P f ss L nx K :=
  .newB ss' Φ h (fun w F vs hs hv => hl.has hs hv) hf k
theorem SMut.frozen {P : Program} {f : FuncId} {ss : List SV} {p : Hp} {Φ : SV → List Hp → Hp → Prop} {Ψ : SV → Hp → Prop} (h : SMut P f ss p Φ) (hf : ∀ r N p', Φ r N p' → ∃ r', Ψ r' p' ∧ ∀ R : Heaplet, Ent r (N ++ [p', .cust R]) r' [p', .cust R]) : SMut P f ss p fun r N p' => N = [] ∧ Ψ r p' :=
  ⟨fun R => ⟨(h.h R).1, fun w F vs hs hv => ((h.h R).2 w F vs hs hv).mono fun e w' ⟨v, he, r, F', H', ⟨N, p', hH, hΦ⟩, hk, hF, hs', hr⟩ => by
    obtain ⟨r', hΨ, hE⟩ := hf r N p' hΦ
    subst hH
    obtain ⟨F2, q1, q2, q3⟩ := hE R w' F' v hs' hr
    exact ⟨v, he, r', F2, _, ⟨[], p', rfl, rfl, hΨ⟩, hk, fun b hb => q1 b (hF b hb), q2, q3⟩⟩⟩
/-- a list of ints was drawn, in at most d steps; it is owned; it stands still -/
def DrewL (P : List Int → Prop) (e : TypeId) (d : Int) (g : Nat) (m : Int) (r : SV) (N : List Hp) (p' : Hp) : Prop :=
  ∃ l A n c, P l ∧ n = l.length ∧ r = .own 0 (.slice A n c) ∧ N = [.row (.slice A n c) e 1 l.length (rowF intF l)] ∧ p' = .cust (rdH g (m + d))
def DrewS1 (P : List Int → Prop) (d : Int) (g : Nat) (m : Int) (r : SV) (N : List Hp) (p' : Hp) : Prop :=
  N = [] ∧ (∃ l, P l ∧ r = .sl 1 l.length (rowF intF l)) ∧ p' = .cust (rdH g (m + d))
theorem SMut.stillL {Pr : Program} {f : FuncId} {ss : List SV} {p : Hp} {P : List Int → Prop} {e : TypeId} {d : Int} {g : Nat} {m : Int} (h : SMut Pr f ss p (DrewL P e d g m)) : SMut Pr f ss p (DrewS1 P d g m) :=
  ⟨fun R => ((h.frozen (Ψ := fun r p' => (∃ l, P l ∧ r = .sl 1 l.length (rowF intF l)) ∧ p' = .cust (rdH g (m + d))) fun r N p' ⟨l, A, n, c, hP, _, hr, hN, hp⟩ => by
    subst hr hN hp
    exact ⟨_, ⟨⟨l, hP, rfl⟩, rfl⟩, fun R => Ent.row fun w F x hv hx => by have e : x = _ := hx; subst e; exact hv⟩).h R).mono fun r H' ⟨N, p', e, hN, hh⟩ => ⟨N, p', e, hN, hh⟩⟩
/-- a contract over what is new, its pieces frozen -/
theorem SNew.frozen {P : Program} {f : FuncId} {ss : List SV} {Φ : SV → List Hp → Prop} {Ψ : SV → Prop} (h : SNew P f ss Φ) (hf : ∀ r N, Φ r N → ∃ r', Ψ r' ∧ ∀ R : Heaplet, Ent r (N ++ [.cust R]) r' [.cust R]) : SRet P f ss Ψ :=
  ⟨fun R => ⟨(h.h R).1, fun w F vs hs hv => ((h.h R).2 w F vs hs hv).mono fun e w' ⟨v, he, r, F', H', ⟨N, hH, hΦ⟩, hk, hF, hs', hr⟩ => by
    obtain ⟨r', hΨ, hE⟩ := hf r N hΦ
    subst hH
    obtain ⟨F2, q1, q2, q3⟩ := hE R w' F' v hs' hr
    exact ⟨v, he, r', F2, _, ⟨rfl, hΨ⟩, hk, fun b hb => q1 b (hF b hb), q2, q3⟩⟩⟩
/-- a row's cells told anew, ahead of a call -/
theorem CallN.row {P : Program} {f : FuncId} {ss : List SV} {L : Hpl} {nx : Nat} {K : KK} (key : Nat) {v : Value} {e : TypeId} {sz n : Nat} {f0 : Nat → Nat → SV} (f' : Nat → Nat → SV) (hl : lk key L = .row v e sz n f0) (hf : ∀ i j, i < n → j < sz → f0 i j = f' i j)
    (h : fcK (setK key (.row v e sz n f') L) fun L' => CallN P f ss L' nx K) : CallN P f ss L nx K := by
  rw [fcK_eq] at h
  exact .le _ (fun w F hs => HSat.setK hl (by simp) ((hs.lk hl (by simp)).one (.row hf))) (fun k g t n f e => by rw [lk_setK_ne (by rintro rfl; rw [hl] at e; cases e)]; exact e) h
end Go.Proofs.YtcagfmbboliohaaDoor
/-! YtcagfmbboliohaaDoorCmPure -/
set_option linter.all false
namespace Go.Proofs.YtcagfmbboliohaaDoor

def gI (l : List Int) (i : Nat) : Int := l.getD i default
/-- a valid committee -/
def cmOk (c : List Int) : Bool := inB c.length 1 7 && decide (∀ i, i < c.length → inB (c.getD i default) 1 9 = true)
/-- an ascending list of members of n -/
def msOk (n : Nat) (ms : List Int) : Bool := decide (∀ i, i < ms.length → (0 ≤ ms.getD i default ∧ ms.getD i default < n) ∧ (0 < i → ms.getD (i - 1) default < ms.getD i default))
/-- the sum of the first k -/
def sumTo (g : Nat → Int) : Nat → Int
  | 0 => 0
  | k + 1 => sumTo g k + g k
def tot (c : List Int) : Int := sumTo (fun i => c.getD i default) c.length
def wt (c ms : List Int) : Int := sumTo (fun i => c.getD (ms.getD i default).toNat default) ms.length
def quo (c : List Int) : Int := 2 * tot c / 3 + 1

theorem cmOk_iff {c : List Int} : cmOk c = true ↔ (1 ≤ c.length ∧ c.length ≤ 7) ∧ ∀ i, i < c.length → 1 ≤ c.getD i default ∧ c.getD i default ≤ 9 := by
  unfold cmOk
  rw [Bool.and_eq_true, inB_true, decide_eq_true_eq]
  constructor
  · rintro ⟨h1, h2⟩
    exact ⟨by omega, fun i hi => inB_true.1 (h2 i hi)⟩
  · rintro ⟨h1, h2⟩
    exact ⟨by omega, fun i hi => inB_true.2 (h2 i hi)⟩
theorem msOk_iff {n : Nat} {ms : List Int} : msOk n ms = true ↔ ∀ i, i < ms.length → (0 ≤ ms.getD i default ∧ ms.getD i default < n) ∧ (0 < i → ms.getD (i - 1) default < ms.getD i default) := by
  unfold msOk; rw [decide_eq_true_eq]
theorem sumTo_bd {g : Nat → Int} {lo hi : Int} : ∀ {k : Nat}, (∀ i, i < k → lo ≤ g i ∧ g i ≤ hi) → lo * k ≤ sumTo g k ∧ sumTo g k ≤ hi * k
  | 0, _ => by simp [sumTo]
  | k + 1, h => by
    have ih := sumTo_bd (k := k) fun i hi' => h i (by omega)
    have := h k (by omega)
    have e1 : lo * ((k + 1 : Nat) : Int) = lo * k + lo := by rw [Int.natCast_add, Int.mul_add]; simp
    have e2 : hi * ((k + 1 : Nat) : Int) = hi * k + hi := by rw [Int.natCast_add, Int.mul_add]; simp
    rw [e1, e2]
    unfold sumTo
    omega
theorem sumTo_congr {g g' : Nat → Int} : ∀ {k : Nat}, (∀ i, i < k → g i = g' i) → sumTo g k = sumTo g' k
  | 0, _ => rfl
  | k + 1, h => by unfold sumTo; rw [sumTo_congr fun i hi => h i (by omega), h k (by omega)]
theorem tot_bd {c : List Int} (h : cmOk c = true) : 1 ≤ tot c ∧ tot c ≤ 63 := by
  obtain ⟨h1, h2⟩ := cmOk_iff.1 h
  have := sumTo_bd (k := c.length) h2
  unfold tot
  omega
theorem tot_part {c : List Int} (h : cmOk c = true) {k : Nat} (hk : k ≤ c.length) : 0 ≤ sumTo (fun i => c.getD i default) k ∧ sumTo (fun i => c.getD i default) k ≤ 63 := by
  obtain ⟨h1, h2⟩ := cmOk_iff.1 h
  have := sumTo_bd (k := k) fun i hi => h2 i (by omega)
  omega
/-- an ascending list of members is short -/
theorem ms_ge {n : Nat} {ms : List Int} (h : msOk n ms = true) : ∀ i, i < ms.length → (i : Int) ≤ ms.getD i default
  | 0, hi => by have := (msOk_iff.1 h 0 hi).1.1; simpa using this
  | i + 1, hi => by
    have := ms_ge h i (by omega)
    have := (msOk_iff.1 h (i + 1) hi).2 (by omega)
    simp only [Nat.add_sub_cancel] at this
    omega
theorem ms_len {n : Nat} {ms : List Int} (h : msOk n ms = true) : ms.length ≤ n := by
  rcases Nat.eq_zero_or_pos ms.length with h0 | h0
  · omega
  · have h1 := ms_ge h (ms.length - 1) (by omega)
    have h2 := (msOk_iff.1 h (ms.length - 1) (by omega)).1.2
    omega
theorem wt_part {c ms : List Int} (h : cmOk c = true) (hm : msOk c.length ms = true) {k : Nat} (hk : k ≤ ms.length) : 0 ≤ sumTo (fun i => c.getD (ms.getD i default).toNat default) k ∧ sumTo (fun i => c.getD (ms.getD i default).toNat default) k ≤ 63 := by
  obtain ⟨h1, h2⟩ := cmOk_iff.1 h
  have hl := ms_len hm
  have := sumTo_bd (g := fun i => c.getD (ms.getD i default).toNat default) (k := k) fun i hi => h2 _ (by have := (msOk_iff.1 hm i (by omega)).1; omega)
  omega
theorem wt_bd {c ms : List Int} (h : cmOk c = true) (hm : msOk c.length ms = true) : 0 ≤ wt c ms ∧ wt c ms ≤ 63 := wt_part h hm (Nat.le_refl _)
theorem quo_bd {c : List Int} (h : cmOk c = true) : 1 ≤ quo c ∧ quo c ≤ 43 := by
  have := tot_bd h
  unfold quo
  omega
end Go.Proofs.YtcagfmbboliohaaDoor
/-! YtcagfmbboliohaaDoorCm -/
set_option linter.all false
namespace Go.Proofs.YtcagfmbboliohaaDoor
open Go.RowKit

abbrev isl (l : List Int) : SV := .sl 1 l.length (rowF intF l)

theorem cm_no {c : List Int} {k : Nat} (hk : k < c.length) (h : inB (c.getD k default) 1 9 = false) : false = cmOk c := by
  unfold cmOk
  rw [dall_false hk (by rw [h]; simp), Bool.and_false]
theorem cm_yes {c : List Int} {k : Nat} (hk : c.length ≤ k) (h : ∀ j, j < k → inB (c.getD j default) 1 9 = true) : inB c.length 1 7 = cmOk c := by
  unfold cmOk
  rw [dall_true fun j hj => h j (by omega), Bool.and_true]
theorem cm_len {c : List Int} (h : c.length < 1 ∨ 7 < c.length) : false = cmOk c := by
  unfold cmOk
  rw [inB_false.2 (by omega), Bool.false_and]
theorem ms_no {n : Nat} {ms : List Int} {k : Nat} (hk : k < ms.length) (h : ¬ ((0 ≤ ms.getD k default ∧ ms.getD k default < n) ∧ (0 < k → ms.getD (k - 1) default < ms.getD k default))) : false = msOk n ms := (dall_false hk h).symm
theorem ms_yes {n : Nat} {ms : List Int} {k : Nat} (hk : ms.length ≤ k) (h : ∀ i, i < k → (0 ≤ ms.getD i default ∧ ms.getD i default < n) ∧ (0 < i → ms.getD (i - 1) default < ms.getD i default)) : true = msOk n ms := (dall_true fun i hi => h i (by omega)).symm
def MsAll (n : Nat) (ms : List Int) (k : Nat) : Prop := ∀ i, i < k → (0 ≤ ms.getD i default ∧ ms.getD i default < n) ∧ (0 < i → ms.getD (i - 1) default < ms.getD i default)
theorem MsAll.next {n : Nat} {ms : List Int} {k : Nat} (h : MsAll n ms k) (h1 : 0 ≤ ms.getD k default ∧ ms.getD k default < n) (h2 : 0 < k → ms.getD (k - 1) default < ms.getD k default) : MsAll n ms (k + 1) := all_lt_succ ⟨h1, h2⟩ h
theorem toNat_sub1 (k : Nat) : ((k : Int) - 1).toNat = k - 1 := by omega

theorem tdiv3 {a : Int} (h : 0 ≤ a) : a.tdiv 3 = a / 3 := Int.tdiv_eq_ediv_of_nonneg h

/-- what MembersWeight gives -/
def mw (c ms : List Int) : Int := if cmOk c && msOk c.length ms then wt c ms else -1
end Go.Proofs.YtcagfmbboliohaaDoor
/-! YtcagfmbboliohaaDoorDr -/
set_option linter.all false
namespace Go.Proofs.YtcagfmbboliohaaDoor
open Go.RowKit

theorem box_rd {w : World} {F : Nat → Prop} {g n : Nat} {f : Nat → SV} {zs : List Int} (hg : ¬ F g) (h : (Hp.box g 65 2 f).holds w F) (h0 : f 0 = .sl 1 n (rowF u8F zs)) (h1 : f 1 = .i 0) (hn : n ≤ 2000) (hzn : n ≤ zs.length) (hz : ∀ z ∈ zs, 0 ≤ z ∧ z ≤ 255) :
    (Hp.cust (rdH g 0)).holds w F := by
  obtain ⟨cs, hbx, hsz, hc⟩ := h
  have c0 := (hc 0 (by omega)).2
  have c1 := (hc 1 (by omega)).2
  rw [h0] at c0
  rw [h1] at c1
  simp only [Has] at c1
  obtain ⟨A, c, e0, _, _, hr⟩ := c0
  have hcs : cs = #[.slice A n c, .int .i64 0] := by
    apply Array.ext
    · simpa using hsz
    · intro i hi1 hi2
      have hi : i < 2 := by simpa using hi2
      rcases (by omega : i = 0 ∨ i = 1) with rfl | rfl
      · simpa [Array.getD, hi1] using e0
      · simpa [Array.getD, hi1] using c1
  subst hcs
  have hl : (zs.take n).length = n := by simp; omega
  by_cases hn0 : n = 0
  · subst hn0
    exact ⟨0, A, 0, c, [], 0, ⟨hbx, by omega, Reads.nil, by simp, Int.le_refl _, fun h => absurd h (by omega)⟩, Int.le_refl _, fun h => absurd h (by omega)⟩
  · obtain ⟨b, off, rfl, hF, hcell⟩ := hr (by omega)
    refine ⟨b + 1, some ⟨b, off, none⟩, n, c, zs.take n, 0, ⟨hbx, hn, ⟨by simp; omega, fun _ => ⟨b, off, rfl, by omega, fun j u hu => ?_⟩⟩, fun z hz' => hz z (List.mem_of_mem_take hz'), Int.le_refl _, fun _ a ha => ?_⟩, Int.le_refl _, fun _ => ⟨b, off, rfl, hF⟩⟩
    · have hj : j < n := by
        have := (List.getElem?_eq_some_iff.1 hu).1
        simp at this
        omega
      obtain ⟨u', hu', _, hh⟩ := hcell j 0 hj (by omega)
      simp only [Nat.mul_one, Nat.add_zero] at hu'
      have : u' = u := by
        simp only [rowF, u8F, Has] at hh
        rw [hh]
        rw [List.getElem?_map, List.getElem?_take, if_pos hj] at hu
        obtain ⟨z, hz1, rfl⟩ := Option.map_eq_some_iff.1 hu
        simp [List.getD_eq_getElem?_getD, hz1]
      rw [← this]
      exact hu'
    · injection ha with ha
      subst ha
      exact fun e => hg (e ▸ hF)

/-- a list of ints was made -/
def MadeL (P : List Int → Prop) (e : TypeId) (r : SV) (N : List Hp) : Prop :=
  ∃ l A n c, P l ∧ n = l.length ∧ r = .own 0 (.slice A n c) ∧ N = [.row (.slice A n c) e 1 l.length (rowF intF l)]
theorem MadeL.free {P : List Int → Prop} {e : TypeId} {r : SV} {N : List Hp} (h : MadeL P e r N) : r.free ∧ ∀ p ∈ N, p.free := by
  obtain ⟨l, A, n, c, _, _, rfl, rfl⟩ := h
  exact ⟨trivial, fun p hp => by rw [List.mem_singleton.1 hp]; exact fun i k hi hk => trivial⟩
theorem SNew.stillL {Pr : Program} {f : FuncId} {ss : List SV} {P : List Int → Prop} {e : TypeId} (h : SNew Pr f ss (MadeL P e)) : SRet Pr f ss fun r => ∃ l, P l ∧ r = isl l :=
  h.frozen fun r N ⟨l, A, n, c, hP, _, hr, hN⟩ => by
    subst hr hN
    exact ⟨_, ⟨l, hP, rfl⟩, fun R => Ent.row fun w F x hv hx => by have e : x = _ := hx; subst e; exact hv⟩
/-- a new reader -/
def Opened (r : SV) (N : List Hp) : Prop := ∃ g, r = .ptr 0 g 0 ∧ N = [.cust (rdH g 0)]
theorem Fin.opened {g k n : Nat} {f : Nat → SV} {zs : List Int} {R : Heaplet} (h0 : f 0 = .sl 1 n (rowF u8F zs)) (h1 : f 1 = .i 0) (hn : n ≤ 2000) (hzn : n ≤ zs.length) (hz : ∀ z ∈ zs, 0 ≤ z ∧ z ≤ 255) :
    Fin (.ptr k g 0) [.box g 65 2 f, .cust R] (fun r H' => ∃ N, H' = N ++ [.cust R] ∧ Opened r N) :=
  ⟨⟨.ptr 0 g 0, [.cust (rdH g 0), .cust R], fun w F v hs hv => ⟨F, fun _ h => h, hs.turn (Nat.le_refl _) (fun _ _ _ => rfl) (box_rd (hs.fp _ List.mem_cons_self g rfl).2 (hs.holds _ List.mem_cons_self) h0 h1 hn hzn hz) (fun b hb => ⟨(hs.fp _ List.mem_cons_self b hb).1, .inl hb⟩), hv⟩, [_], rfl, g, rfl, rfl⟩⟩
theorem l6Open_c (zs : List Int) (hz : ∀ z ∈ zs, 0 ≤ z ∧ z ≤ 255) (hl : zs.length ≤ 2000000) : SNew Tryd.prog 32 [.sl 1 zs.length (rowF u8F zs)] Opened := ⟨fun R => by
  refine SCalls.enter tt_ok Tryd.func32 (by kernel_rfl) rfl [(900, .cust R)] rfl (argF _) (fun w F v k h => h) (by simp) ?_
  repeat' (first | (with_reducible first | refine HT.seq ?_ | refine HT.block ?_ | refine Br.not ?_) | ((with_reducible first | refine HT.region tt_ok ?_ | refine HT.drawn tt_ok (by kernel_rfl) (by decide +kernel) ?_ | refine HT.drawnL tt_ok (by kernel_rfl) (by decide +kernel) ?_ | refine HT.cond ?_ | refine HT.ret ?_ | refine HT.skip ?_ | refine HT.exit ?_ | refine Br.tt ?_ | refine Br.ff ?_); conv => whnf) | ((with_reducible first | refine Br.dec (fun hc => ?_) (fun hc => ?_) | refine Br.eq (fun hc => ?_) (fun hc => ?_) | refine Br.ne (fun hc => ?_) (fun hc => ?_)) <;> (first | (exfalso; omega) | conv => whnf)) | ((with_reducible first | refine Br.ttE (by decide) ?_ | refine Br.ffE (by decide) ?_ | refine Br.mk (fun hc => ?_) (fun hc => ?_) | refine Chk.mk (by first | omega | with_reducible rfl | (refine ⟨rfl, ?_⟩; omega) | decide | exact ⟨rfl, by omega, by omega, rfl⟩ | exact ⟨by assumption, rfl, by omega, by omega⟩) ?_ | refine Ar.fit (by omega) ?_ | refine Eqv.shr1 ?_ | refine Ar.u64 (by omega) ?_) <;> conv => whnf) | (with_reducible exact trivial) | ((with_reducible refine And.intro ?_ ?_) <;> conv => whnf) | (intro gn; conv => whnf))
  · exact Fin.opened rfl rfl (by omega) (by omega) hz
  · exact Fin.opened rfl rfl (by omega) (by omega) hz⟩

end Go.Proofs.YtcagfmbboliohaaDoor
/-! YtcagfmbboliohaaDoorRa -/
set_option linter.all false
namespace Go.Proofs.YtcagfmbboliohaaDoor
open Go.RowKit

theorem gDi {l : List Int} {j : Nat} (h : j < l.length) : l.getD j default = l[j] := by rw [List.getD_eq_getElem?_getD, List.getElem?_eq_getElem h]; rfl
structure Rc where
  i : Int
  b : Bool
  d : Int
instance : Inhabited Rc := ⟨⟨0, false, 0⟩⟩
theorem gDr {l : List Rc} {j : Nat} (h : j < l.length) : l.getD j default = l[j] := by rw [List.getD_eq_getElem?_getD, List.getElem?_eq_getElem h]; rfl
def rcF (r : Rc) : Nat → SV := litF [.i r.i, .b r.b, .i r.d]
abbrev rcV (r : Rc) : SV := .agg 3 (rcF r)
abbrev rcl (l : List Rc) : SV := .sl 3 l.length (rowF rcF l)
/-- is it valid? -/
def rcOk (r : Rc) : Bool := inB r.i 0 15 && inB r.d 0 990
theorem rcOk_iff {r : Rc} : rcOk r = true ↔ (0 ≤ r.i ∧ r.i ≤ 15) ∧ isD r.d := by
  unfold rcOk isD
  rw [Bool.and_eq_true, inB_true, inB_true]
  omega
/-- its outcome as a number -/
def rcN (r : Rc) : Int := 2 * r.i + if r.b then 1 else 0
/-- its digest -/
def rcD (r : Rc) : Int := if rcOk r = true then hp (rcN r) r.d else -1
theorem rcD_ok {r : Rc} (h : rcOk r = true) : rcD r = hp (rcN r) r.d := if_pos h
theorem rcD_bad {r : Rc} (h : rcOk r = false) : rcD r = -1 := if_neg (by rw [h]; simp)
theorem rcN_d {r : Rc} (h : rcOk r = true) : isD (rcN r) := by
  have := rcOk_iff.1 h
  unfold rcN isD
  split <;> omega
theorem rcD_d {r : Rc} (h : rcOk r = true) : isD (rcD r) := by
  rw [rcD_ok h]; exact hp_d (rcN_d h) (rcOk_iff.1 h).2
/-- is a list valid? -/
def rcsOk (l : List Rc) : Bool := inB l.length 1 16 && decide (∀ j, j < l.length → rcOk (l.getD j default) = true ∧ (l.getD j default).i = j)
theorem rcsOk_iff {l : List Rc} : rcsOk l = true ↔ (1 ≤ l.length ∧ l.length ≤ 16) ∧ ∀ j, j < l.length → rcOk (l.getD j default) = true ∧ (l.getD j default).i = j := by
  unfold rcsOk
  rw [Bool.and_eq_true, inB_true, decide_eq_true_eq]
  exact and_congr_left fun _ => by omega
theorem rcs_no {l : List Rc} {k : Nat} (hk : k < l.length) (h : ¬ (rcOk (l.getD k default) = true ∧ (l.getD k default).i = k)) : rcsOk l = false := by
  unfold rcsOk; rw [dall_false hk h, Bool.and_false]
theorem rcs_len {l : List Rc} (h : ¬ (1 ≤ l.length ∧ l.length ≤ 16)) : rcsOk l = false := by
  unfold rcsOk; rw [inB_false.2 (by omega), Bool.false_and]
theorem rcs_yes {l : List Rc} (hl : 1 ≤ l.length ∧ l.length ≤ 16) (h : ∀ j, j < l.length → rcOk (l.getD j default) = true ∧ (l.getD j default).i = j) : rcsOk l = true := rcsOk_iff.2 ⟨hl, h⟩
theorem rcs_eq {l : List Rc} {k : Nat} (hk : l.length ≤ k) (h : ∀ j, j < k → rcOk (l.getD j default) = true ∧ (l.getD j default).i = j) : inB l.length 1 16 = rcsOk l := by
  unfold rcsOk; rw [dall_true fun j hj => h j (by omega), Bool.and_true]
/-- the leaves -/
def lvs (l : List Rc) : List Int := l.map rcD
theorem lvs_len {l : List Rc} : (lvs l).length = l.length := List.length_map ..
theorem lvs_get {l : List Rc} {k : Nat} (h : k < l.length) : (lvs l).getD k default = rcD (l.getD k default) := by
  unfold lvs
  rw [List.getD_eq_getElem?_getD, List.getD_eq_getElem?_getD, List.getElem?_map, List.getElem?_eq_getElem h]; rfl
theorem take_lvs {l : List Rc} {k : Nat} (h : k < l.length) : (lvs l).take (k + 1) = (lvs l).take k ++ [rcD (l.getD k default)] := by
  rw [List.take_succ, ← lvs_get h, List.getD_eq_getElem?_getD, List.getElem?_eq_getElem (by rw [lvs_len]; exact h)]; rfl
theorem lvs_d {l : List Rc} (h : rcsOk l = true) : allD (lvs l) := fun z hz => by
  obtain ⟨r, hr, rfl⟩ := List.mem_map.1 hz
  obtain ⟨j, hj, rfl⟩ := List.getElem_of_mem hr
  have := ((rcsOk_iff.1 h).2 j hj).1
  rw [gDr hj] at this
  exact rcD_d this
/-- are they leaves? -/
def lfOk (l : List Int) : Bool := inB l.length 1 16 && decide (∀ j, j < l.length → inB (l.getD j default) 0 990 = true)
theorem lfOk_iff {l : List Int} : lfOk l = true ↔ (1 ≤ l.length ∧ l.length ≤ 16) ∧ allD l := by
  unfold lfOk
  rw [Bool.and_eq_true, inB_true, decide_eq_true_eq]
  constructor
  · rintro ⟨h1, h2⟩
    refine ⟨by omega, fun z hz => ?_⟩
    obtain ⟨j, hj, rfl⟩ := List.getElem_of_mem hz
    have := inB_true.1 (h2 j hj)
    rw [gDi hj] at this
    unfold isD; omega
  · rintro ⟨h1, h2⟩
    exact ⟨by omega, fun j hj => inB_true.2 (by have := h2.getD hj; unfold isD at this; omega)⟩
theorem lf_no {l : List Int} {k : Nat} (hk : k < l.length) (h : inB (l.getD k default) 0 990 = false) : lfOk l = false := by
  unfold lfOk; rw [dall_false hk (by rw [h]; simp), Bool.and_false]
theorem lf_len {l : List Int} (h : ¬ (1 ≤ l.length ∧ l.length ≤ 16)) : lfOk l = false := by
  unfold lfOk; rw [inB_false.2 (by omega), Bool.false_and]
theorem lf_yes {l : List Int} (hl : 1 ≤ l.length ∧ l.length ≤ 16) (h : ∀ j, j < l.length → inB (l.getD j default) 0 990 = true) : lfOk l = true := by
  unfold lfOk; rw [inB_true.2 (by omega), Bool.true_and]; exact decide_eq_true h
theorem lf_eq {l : List Int} {k : Nat} (hk : l.length ≤ k) (h : ∀ j, j < k → inB (l.getD j default) 0 990 = true) : inB l.length 1 16 = lfOk l := by
  unfold lfOk; rw [dall_true fun j hj => h j (by omega), Bool.and_true]
theorem lvs_ok {l : List Rc} (h : rcsOk l = true) : lfOk (lvs l) = true := lfOk_iff.2 ⟨by rw [lvs_len]; exact (rcsOk_iff.1 h).1, lvs_d h⟩
end Go.Proofs.YtcagfmbboliohaaDoor
