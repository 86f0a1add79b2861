/- Lists of vertices whose lists of parents are owned too. -/
import Derived.Test.YtaddgbalnhpllaaExM
import Derived.Test.YtaddgbalnhpllaaExV
set_option linter.all false
namespace Go.Proofs.Ytaddgbalnhpllaa
open Go.RowKit

abbrev vgx (vs : List Vx) (i : Nat) : Vx := vs.getD i default
/-- where the inner lists lie -/
abbrev Ow := Nat → Option Addr × Nat
def inV (O : Ow) (v : Vx) (i : Nat) : Value := .slice (O i).1 v.ps.length (O i).2
def vxC (O : Ow) (v : Vx) (i : Nat) : Nat → SV := litF [.i v.r, .i v.a, .val (inV O v i), .i v.d]
/-- the cells of the outer row -/
def vxO (O : Ow) (l : List Vx) : Nat → Nat → SV := fun i => vxC O (vgx l i) i
def prow (O : Ow) (l : List Vx) (i : Nat) : Hp := .row (inV O (vgx l i) i) 3 1 (vgx l i).ps.length (rowF intF (vgx l i).ps)
/-- the inner rows -/
def psH (O : Ow) (l : List Vx) (k : Nat) : List Hp := (List.range k).map (prow O l)
theorem psH_succ {O : Ow} {l : List Vx} {k : Nat} : psH O l (k + 1) = psH O l k ++ [prow O l k] := by simp [psH, List.range_succ]
theorem psH_get {O : Ow} {l : List Vx} {n k : Nat} (h : k < n) : (psH O l n)[k]? = some (prow O l k) := by simp [psH, h]
theorem psH_congr {O O' : Ow} {l l' : List Vx} {k : Nat} (h : ∀ i, i < k → prow O l i = prow O' l' i) : psH O l k = psH O' l' k := by
  unfold psH
  exact List.map_congr_left fun i hi => h i (List.mem_range.1 hi)
theorem psH_erase {O : Ow} {l l' : List Vx} {n k : Nat} (h : ∀ i, i < n → i ≠ k → prow O l i = prow O l' i) : (psH O l n).eraseIdx k = (psH O l' n).eraseIdx k := by
  apply List.ext_getElem?
  intro i
  rw [List.getElem?_eraseIdx, List.getElem?_eraseIdx]
  have key : ∀ j, j ≠ k → (psH O l n)[j]? = (psH O l' n)[j]? := fun j hj => by
    by_cases hn : j < n
    · rw [psH_get hn, psH_get hn, h j hn hj]
    · simp [psH, hn]
  split
  · exact key i (by omega)
  · exact key (i + 1) (by omega)

theorem HSat.push {w : World} {F : Nat → Prop} {A B Z : List Hp} {p : Hp} (h : HSat w F (A ++ .cust (Proofs.Ytaddgbalnhpllaa.bundle Z) :: p :: B)) : HSat w F (A ++ .cust (Proofs.Ytaddgbalnhpllaa.bundle (Z ++ [p])) :: B) :=
  HSat.bundleK (by
    have h1 := HSat.unbundleK (A := A) (B := p :: B) h
    rwa [show A ++ (Z ++ [p]) ++ B = A ++ Z ++ p :: B by simp])
theorem HSat.pull {w : World} {F : Nat → Prop} {B Z : List Hp} {p : Hp} {k : Nat} (hk : Z[k]? = some p) (h : HSat w F (.cust (Proofs.Ytaddgbalnhpllaa.bundle Z) :: B)) : HSat w F (p :: .cust (Proofs.Ytaddgbalnhpllaa.bundle (Z.eraseIdx k)) :: B) :=
  HSat.bundleK (A := [p]) (by
    have h1 := HSat.unbundleK (A := []) (B := B) h
    exact h1.perm ((perm_erase hk).append_right B))
theorem HSat.back {w : World} {F : Nat → Prop} {B Z : List Hp} {p : Hp} {k : Nat} (hk : Z[k]? = some p) (h : HSat w F (p :: .cust (Proofs.Ytaddgbalnhpllaa.bundle (Z.eraseIdx k)) :: B)) : HSat w F (.cust (Proofs.Ytaddgbalnhpllaa.bundle Z) :: B) :=
  HSat.bundleK (A := []) (by
    have h1 := HSat.unbundleK (A := [p]) (B := B) h
    exact h1.perm ((perm_erase hk).symm.append_right B))
theorem HLe.via {L L' : Hpl} (H1 : List Hp) (hp : fcH (L.map Prod.snd) fun H => PPick H H1) (h : ∀ w F, HSat w F H1 → HSat w F (L'.map Prod.snd)) : HLe L L' := fun w F hs => by
  rw [fcH_eq] at hp
  exact ⟨F, fun _ h => h, h w F (hp.sat hs)⟩
/-- the heap of a walk, told anew -/
theorem HT.heap {P : Program} {n : Nat} {c : Code} {Q : Exit → St → Prop} {s : St} (L' : Hpl) (h : ∀ w F, HSat w F (s.L.map Prod.snd) → HSat w F (L'.map Prod.snd)) (k : HT P n c Q ⟨s.σ, L', s.nx⟩) : HT P n c Q s :=
  HT.le (s' := ⟨s.σ, L', s.nx⟩) (fun n F a w hs => ⟨F, fun _ h => h, hs.size, hs.defers, hs.fr, h w F hs.heap⟩) k
/-- vertices, all of whose memory is new -/
def MadeVs (l : List Vx) (r : SV) (N : List Hp) : Prop := ∃ A n c O, n = l.length ∧ r = .own 0 (.slice A n c) ∧ N = [.row (.slice A n c) 25 4 l.length (vxO O l), .cust (bundle (psH O l l.length))]
/-- what is owned so reads as vertices -/
theorem Lends.vs {L : Hpl} {v : Value} {O : Ow} {l : List Vx} (hm : Hp.row v 25 4 l.length (vxO O l) ∈ L.map Prod.snd) (hb : Hp.cust (bundle (psH O l l.length)) ∈ L.map Prod.snd) : Lends L (.val v) (vsl l) := fun w F x hs hx => by
  have e : x = v := hx
  subst e
  have h1 := row_all hs hm
  have h2 := hs.holds _ hb
  have hfp : ∀ b, (Hp.cust (bundle (psH O l l.length))).fp b → b < w.heap.size := fun b h => (hs.fp _ hb b h).1
  refine Has.slL (fun i j hi hj u hu => ?_) h1
  rcases (by omega : j = 0 ∨ j = 1 ∨ j = 2 ∨ j = 3) with rfl | rfl | rfl | rfl
  · exact hu
  · exact hu
  · have e : u = inV O (vgx l i) i := hu
    subst e
    have hmem : prow O l i ∈ psH O l l.length := List.mem_of_getElem? (psH_get hi)
    exact row_sl (h2.1 _ hmem) (fun b hb => hs.lt b hb) (fun b h => hfp b ⟨_, hmem, h⟩)
  · exact hu
end Go.Proofs.Ytaddgbalnhpllaa
