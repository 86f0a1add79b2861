/- No operation takes a draw back. -/
import Derived.Test.YtbcmpfhemangpaaBase
set_option linter.all false
namespace Go.Proofs.Ytbcmpfhemangpaa

theorem viewStore_drawn {p : Program} {w : World} {a : Addr} {u : TypeId} {k : Addr} {v : Value} {at_ : Bool} {r : World × List Addr} (h : w.viewStore p a u k v at_ = .ok r) : r.1.drawn = w.drawn := by
  unfold World.viewStore at h
  simp only [bind, Except.bind, pure, Except.pure, throw, throwThe, MonadExceptOf.throw] at h
  repeat' (first | (cases h; done) | (injection h with h; subst h; rfl) | split at h)
theorem farStore_drawn {p : Program} {w : World} {a : Addr} {v : Value} {at_ : Bool} {r : World × List Addr} (h : w.farStore p a v at_ = .ok r) : r.1.drawn = w.drawn := by
  unfold World.farStore at h
  split at h
  · split at h
    · rename_i hv
      injection h with h
      subst h
      exact viewStore_drawn hv
    · cases h
  · cases h
theorem ask_drawn {α : Type} : ∀ (k : Ask α) (w : World), w.drawn ≤ (w.ask k).2.drawn
  | .done a, w => Nat.le_refl _
  | .ask what range k, w => by
    unfold World.ask
    dsimp only
    split
    · exact ask_drawn (k 0) w
    · exact Nat.le_trans (Nat.le_succ _) (ask_drawn (k _) { w with drawn := w.drawn + 1 })
theorem sys_drawn (w : World) (c : Sys) : w.drawn ≤ (w.sys c).2.drawn := by
  unfold World.sys
  have := ask_drawn (Kernel.perform c w.os) w
  split
  · exact Nat.le_refl _
  · rename_i h
    rw [h] at this
    exact this
theorem Sem.drawn {α : Type} {P : Program} : ∀ (s : Sem α) {w w' : World} {v : α}, s.run P w = .ok v w' → w.drawn ≤ w'.drawn
  | .pure a, w, w', v, h => by injection h with _ h; subst h; exact Nat.le_refl _
  | .load m a k, w, w', v, h => by
    simp only [Sem.run] at h
    split at h
    · exact Sem.drawn _ h
    · split at h
      · exact Sem.drawn _ h
      · cases h
  | .store m a x k, w, w', v, h => by
    have key : ∀ {r : Result α}, (match w.cell? a with
        | some _ => if w.frozen? a then .halt (.unsupported (.unsafePointer "a write to bytes that a string shares")) w else k.run P (w.setCell a x)
        | none => match w.farStore P a x (m == .atomic) with
          | .ok (w, _) => k.run P w
          | .error h => .halt h w) = r → r = .ok v w' → w.drawn ≤ w'.drawn := fun {r} h1 h2 => by
      subst h2
      split at h1
      · split at h1
        · cases h1
        · exact Sem.drawn k (w := w.setCell a x) h1
      · split at h1
        · rename_i hf
          have h1' := farStore_drawn hf
          have h2 := Sem.drawn k h1
          dsimp only at h1'
          omega
        · cases h1
    cases x <;> simp only [Sem.run] at h <;> first | cases h | exact key h rfl
  | .new o k, w, w', v, h => Sem.drawn _ (w := { w with heap := w.heap.push o }) h
  | .shape r k, w, w', v, h => Sem.drawn (k _) h
  | .freeze a n k, w, w', v, h => by
    have h2 := Sem.drawn k (w := w.freeze a n) h
    have : (w.freeze a n).drawn = w.drawn := by unfold World.freeze; split <;> rfl
    omega
  | .frozen a k, w, w', v, h => Sem.drawn (k _) h
  | .getObj r k, w, w', v, h => by
    simp only [Sem.run] at h
    split at h
    · cases h
    · exact Sem.drawn _ h
    · cases h
  | .setObj r o k, w, w', v, h => by
    simp only [Sem.run] at h
    split at h
    · cases h
    · exact Sem.drawn _ (w := { w with heap := w.heap.setIfInBounds r o }) h
    · cases h
  | .choose q k, w, w', v, h => by
    simp only [Sem.run] at h
    split at h
    · exact Sem.drawn _ h
    · exact Nat.le_trans (Nat.le_succ _) (Sem.drawn _ (w := { w with drawn := w.drawn + 1 }) h)
  | .sys c k, w, w', v, h => Nat.le_trans (sys_drawn w c) (Sem.drawn (k _) h)
  | .program k, w, w', v, h => Sem.drawn (k _) h
  | .mark _ k, w, w', v, h => Sem.drawn k h
  | .halt h', w, w', v, h => by cases h
end Go.Proofs.Ytbcmpfhemangpaa
