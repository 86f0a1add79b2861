/- Vertices marked, and the marks looked for. -/
import Derived.Test.YtaddgbalnhpllaaNt
set_option linter.all false
namespace Go.Proofs.Ytaddgbalnhpllaa
open Go.RowKit

/-- how many marks stand ahead of vertex k -/
def off (l : List Vx) : Nat → Nat
  | 0 => 0
  | k + 1 => off l k + 3 + (vgx l k).ps.length
theorem off_succ (l : List Vx) (k : Nat) : off l (k + 1) = off l k + 3 + (vgx l k).ps.length := rfl
theorem off_mono {l : List Vx} : ∀ {n k : Nat}, k ≤ n → off l k ≤ off l n
  | 0, k, h => by rw [show k = 0 by omega]; exact Nat.le_refl _
  | n + 1, k, h => by
    rcases Nat.eq_or_lt_of_le h with h1 | h1
    · rw [h1]; exact Nat.le_refl _
    · have := off_mono (l := l) (n := n) (k := k) (by omega)
      rw [off_succ]; omega
theorem off_le {l : List Vx} {B : Nat} (h : ∀ v ∈ l, v.ps.length ≤ B) : ∀ {k : Nat}, k ≤ l.length → off l k ≤ k * (B + 3)
  | 0, _ => Nat.zero_le _
  | k + 1, hk => by
    have h1 := off_le h (k := k) (by omega)
    have h2 := h (vgx l k) (by rw [show vgx l k = l[k] by simp [vgx, show k < l.length by omega]]; exact List.getElem_mem _)
    rw [off_succ, Nat.add_mul, Nat.one_mul]
    omega
def mkV (z : Int) (l : List Vx) (i : Nat) : Vx := ⟨z + off l i, z + off l i + 1, mkL (fun j => z + off l i + 2 + j) (vgx l i).ps.length, z + off l i + 2 + (vgx l i).ps.length⟩
/-- the first k are marked -/
def mixV (z : Int) (l : List Vx) (k : Nat) : List Vx := mkL (fun j => if j < k then mkV z l j else vgx l j) l.length
theorem mixV_len {z : Int} {l : List Vx} {k : Nat} : (mixV z l k).length = l.length := mkL_len
theorem mixV_lt {z : Int} {l : List Vx} {k j : Nat} (hj : j < l.length) (h : j < k) : vgx (mixV z l k) j = mkV z l j := (mkL_get hj).trans (if_pos h)
theorem mixV_ge {z : Int} {l : List Vx} {k j : Nat} (hj : j < l.length) (h : k ≤ j) : vgx (mixV z l k) j = vgx l j := (mkL_get hj).trans (if_neg (by omega))
theorem mixV_ne {z : Int} {l : List Vx} {k j : Nat} (hj : j < l.length) (h : j ≠ k) : vgx (mixV z l k) j = vgx (mixV z l (k + 1)) j := by
  rcases Nat.lt_or_ge j k with h1 | h1
  · rw [mixV_lt hj h1, mixV_lt hj (by omega)]
  · rw [mixV_ge hj h1, mixV_ge hj (by omega)]
theorem mixV_0 {z : Int} {l : List Vx} : mixV z l 0 = l := by
  apply List.ext_getElem mixV_len
  intro i h1 h2
  have := mixV_ge (z := z) (k := 0) h2 (Nat.zero_le i)
  simpa [vgx, List.getD_eq_getElem?_getD, h1, h2] using this
theorem mixV_end {z : Int} {l : List Vx} : mixV z l l.length = mkL (mkV z l) l.length := by
  apply List.ext_getElem (by rw [mixV_len, mkL_len])
  intro i h1 h2
  have hi : i < l.length := by rwa [mixV_len] at h1
  have e1 := mixV_lt (z := z) (k := l.length) hi hi
  have e2 := mkL_get (m := mkV z l) hi
  simp only [vgx, List.getD_eq_getElem?_getD, List.getElem?_eq_getElem h1, Option.getD_some] at e1
  simp only [List.getD_eq_getElem?_getD, List.getElem?_eq_getElem h2, Option.getD_some] at e2
  rw [e1, e2]
/-- cell 2 is told apart -/
def two (X : Nat → Value) (f : Nat → Nat → SV) : Nat → Nat → SV := fun i j => bif Nat.beq j 2 then .val (X i) else f i j
theorem Hp.Sub.two {v : Value} {e : TypeId} {n : Nat} {X : Nat → Value} {f : Nat → Nat → SV} (h : ∀ i, i < n → f i 2 = .val (X i)) : (Hp.row v e 4 n f).Sub (.row v e 4 n (Proofs.Ytaddgbalnhpllaa.two X f)) :=
  Hp.Sub.row fun i j hi hj => by
    unfold Proofs.Ytaddgbalnhpllaa.two
    rcases (by omega : j = 0 ∨ j = 1 ∨ j = 2 ∨ j = 3) with rfl | rfl | rfl | rfl
    · rfl
    · rfl
    · exact h i hi
    · rfl
theorem HT.heapP {P : Program} {n : Nat} {c : Code} {Q : Exit → St → Prop} {s : St} (L' : Hpl) (h : fcH (s.L.map Prod.snd) fun H => PPick H (L'.map Prod.snd)) (k : HT P n c Q ⟨s.σ, L', s.nx⟩) : HT P n c Q s := by
  rw [fcH_eq] at h
  exact HT.heap L' (fun w F hs => h.sat hs) k
theorem inV_mix {O : Ow} {l : List Vx} {z : Int} {k i : Nat} (hi : i < l.length) : inV O (vgx (mixV z l k) i) i = inV O (vgx l i) i := by
  unfold inV
  rcases Nat.lt_or_ge i k with h | h
  · rw [mixV_lt hi h]; unfold mkV; rw [mkL_len]
  · rw [mixV_ge hi h]
theorem two_vx {O : Ow} {l : List Vx} {z : Int} {p i : Nat} {a0 a1 : SV} (hi : i < l.length) : putR p (0 + 1) 1 (fun _ => a1) (putR p (0 + 0) 1 (fun _ => a0) (vxO O (mixV z l p))) i 2 = .val (inV O (vgx l i) i) := by
  by_cases h : i = p
  · subst h
    rw [putR_eqf, putR_eqf]
    show SV.val (inV O (vgx (mixV z l i) i) i) = _
    rw [inV_mix hi]
  · rw [putR_ne h, putR_ne h]
    show SV.val (inV O (vgx (mixV z l p) i) i) = _
    rw [inV_mix hi]
theorem mark_vx {w : World} {F : Nat → Prop} {O : Ow} {l : List Vx} {z : Int} {p j c : Nat} {a0 a1 a3 : Int} (hp : p < l.length) (hj : j < l.length) (h0 : a0 = z + off l p) (h1 : a1 = z + off l p + 1) (h3 : a3 = z + off l p + 2 + (vgx l p).ps.length) (hc : c < 4) :
    LeW w F (putR p (0 + 3) 1 (fun _ => .i a3) (two (fun i => inV O (vgx l i) i) (putR p (0 + 1) 1 (fun _ => .i a1) (putR p (0 + 0) 1 (fun _ => .i a0) (vxO O (mixV z l p))))) j c) (vxO O (mixV z l (p + 1)) j c) := by
  refine LeW.of_eq ?_
  have h2 : two (fun i => inV O (vgx l i) i) (putR p (0 + 1) 1 (fun _ => .i a1) (putR p (0 + 0) 1 (fun _ => .i a0) (vxO O (mixV z l p)))) j c = putR p (0 + 1) 1 (fun _ => .i a1) (putR p (0 + 0) 1 (fun _ => .i a0) (vxO O (mixV z l p))) j c := by
    rcases (by omega : c = 0 ∨ c = 1 ∨ c = 2 ∨ c = 3) with rfl | rfl | rfl | rfl
    · rfl
    · rfl
    · exact (two_vx hj).symm
    · rfl
  by_cases h : j = p
  · subst h
    rw [putR_eqf] at h2 ⊢
    rw [putR_eqf] at h2
    rcases (by omega : c = 0 ∨ c = 1 ∨ c = 2 ∨ c = 3) with rfl | rfl | rfl | rfl
    · exact h2.trans (by
        show SV.i a0 = SV.i (vgx (mixV z l (j + 1)) j).r
        rw [mixV_lt hp (Nat.lt_succ_self j), h0]; rfl)
    · exact h2.trans (by
        show SV.i a1 = SV.i (vgx (mixV z l (j + 1)) j).a
        rw [mixV_lt hp (Nat.lt_succ_self j), h1]; rfl)
    · show SV.val (inV O (vgx l j) j) = .val (inV O (vgx (mixV z l (j + 1)) j) j)
      rw [inV_mix hp]
    · show SV.i a3 = SV.i (vgx (mixV z l (j + 1)) j).d
      rw [mixV_lt hp (Nat.lt_succ_self j), h3]; rfl
  · rw [putR_ne h, h2, putR_ne h, putR_ne h]
    unfold vxO
    rw [mixV_ne hj h]
theorem prow_mk {O : Ow} {l : List Vx} {z : Int} {k : Nat} (hk : k < l.length) : prow O (mixV z l (k + 1)) k = .row (.slice (O k).1 (vgx l k).ps.length (O k).2) 3 1 (vgx l k).ps.length (rowF intF (mkL (fun i => z + off l k + 2 + i) (vgx l k).ps.length)) := by
  unfold prow inV
  rw [mixV_lt hk (Nat.lt_succ_self k)]
  unfold mkV
  rw [mkL_len]
theorem prow_old {O : Ow} {l : List Vx} {z : Int} {k : Nat} (hk : k < l.length) : prow O (mixV z l k) k = .row (.slice (O k).1 (vgx l k).ps.length (O k).2) 3 1 (vgx l k).ps.length (rowF intF (vgx l k).ps) := by
  unfold prow inV
  rw [mixV_ge hk (Nat.le_refl _)]
theorem psH_mk {O : Ow} {l : List Vx} {z : Int} {k : Nat} : (psH O (mixV z l k) l.length).eraseIdx k = (psH O (mixV z l (k + 1)) l.length).eraseIdx k := psH_erase fun i hi hne => by
  unfold prow
  rw [mixV_ne hi hne]
abbrev vRow (A : Option Addr) (cp n : Nat) (f : Nat → Nat → SV) : Hp := .row (.slice A n cp) 25 4 n f
set_option maxRecDepth 100000 in
set_option maxHeartbeats 400000 in
theorem markVertexS_c (l : List Vx) (A : Option Addr) (cp : Nat) (O : Ow) (z : Int) (hl : l.length ≤ 100000000) (hp : ∀ v ∈ l, v.ps.length ≤ 100000000) (hz : 0 ≤ z) (hb : z + off l l.length ≤ 100000000000000) (R : Heaplet) :
    SCalls Try.prog 40 [.val (.slice A l.length cp), .i z] [.cust (bundle (psH O l l.length)), vRow A cp l.length (vxO O l), .cust R] fun r H' => ∃ N, H' = N ++ [.cust R] ∧ r = .i (z + off l l.length) ∧ N = [.cust (bundle (psH O (mkL (mkV z l) l.length) l.length)), vRow A cp l.length (vxO O (mkL (mkV z l) l.length))] := by
  refine SCalls.enter tt_ok Try.func40 (by kernel_rfl) rfl [(0, .cust (bundle (psH O l l.length))), (1, .row (.slice A l.length cp) 25 4 l.length (vxO O l)), (900, .cust R)] rfl (upd (argF [.val (.slice A l.length cp), .i z]) 0 (.own 1 (.slice A l.length cp))) (fun w F x k h => own_argK h) (by simp) ?_
  repeat' (first | (with_reducible first | refine HT.seq ?_ | refine HT.block ?_ | refine Br.not ?_) | ((with_reducible first | refine HT.region tt_ok ?_ | refine HT.drawn tt_ok (by kernel_rfl) (by decide +kernel) ?_ | refine HT.drawnL tt_ok (by kernel_rfl) (by decide +kernel) ?_ | refine HT.cond ?_ | refine HT.ret ?_ | refine HT.skip ?_ | refine HT.exit ?_ | refine Br.tt ?_ | refine Br.ff ?_); conv => whnf) | ((with_reducible first | refine Br.dec (fun hc => ?_) (fun hc => ?_) | refine Br.eq (fun hc => ?_) (fun hc => ?_) | refine Br.ne (fun hc => ?_) (fun hc => ?_)) <;> (first | (exfalso; omega) | conv => whnf)) | ((with_reducible first | refine Br.ttE (by decide) ?_ | refine Br.ffE (by decide) ?_ | refine Br.mk (fun hc => ?_) (fun hc => ?_) | refine Chk.mk (by first | omega | with_reducible rfl | (refine ⟨rfl, ?_⟩; omega) | decide | exact ⟨rfl, by omega, by omega, rfl⟩ | exact ⟨by assumption, rfl, by omega, by omega⟩) ?_ | refine Ar.fit (by omega) ?_ | refine Eqv.shr1 ?_ | refine Ar.u64 (by omega) ?_) <;> conv => whnf) | (with_reducible exact trivial) | ((with_reducible refine And.intro ?_ ?_) <;> conv => whnf) | (intro gn; conv => whnf))
  refine HT.loopC [0, 4] (fun k : Nat => [(5, .i k), (1, .i (z + off l k))]) (fun k : Nat => [(0, .cust (bundle (psH O (mixV z l k) l.length))), (1, .cells (vxO O (mixV z l k)))]) (fun k : Nat => k ≤ l.length) (fun k : Nat => l.length - k) 0 (Nat.zero_le _) ⟨(by first | with_reducible exact CellLe.refl _ | exact CellLe.own | exact CellLe.i (by omega) | exact CellLe.nil | exact CellLe.slNil | exact CellLe.refl _ | exact CellLe.i (by simp [off])), (by first | with_reducible exact CellLe.refl _ | exact CellLe.own | exact CellLe.i (by omega) | exact CellLe.nil | exact CellLe.slNil | exact CellLe.refl _ | exact CellLe.i (by simp [off])), trivial⟩ ?_ ?_
  · conv => whnf
    refine PP.start ?_; repeat (first | exact PP.nil | refine PP.take (by first | with_reducible exact Hp.Sub.refl _ | exact Hp.Sub.rd (by omega) | (rw [mixV_0]; exact Hp.Sub.refl _) | exact Hp.Sub.boxA (by (repeat (first | exact all_lt_zero | refine all_lt_succ (p := fun j => CellLe _ _) (by first | with_reducible exact CellLe.refl _ | exact CellLe.own | exact CellLe.i (by omega) | exact CellLe.nil | exact CellLe.slNil | exact CellLe.refl _ | exact CellLe.i (by simp [off])) ?_))) | exact Hp.Sub.refl _) ?_ | refine PP.skip ?_)
  conv => whnf
  intro k hk
  have hbk := off_mono (l := l) hk
  by_cases hkl : k < l.length
  rotate_left
  · obtain rfl : k = l.length := by omega
    conv => whnf
    repeat' (first | (with_reducible first | refine HT.seq ?_ | refine HT.block ?_ | refine Br.not ?_) | ((with_reducible first | refine HT.region tt_ok ?_ | refine HT.drawn tt_ok (by kernel_rfl) (by decide +kernel) ?_ | refine HT.drawnL tt_ok (by kernel_rfl) (by decide +kernel) ?_ | refine HT.cond ?_ | refine HT.ret ?_ | refine HT.skip ?_ | refine HT.exit ?_ | refine Br.tt ?_ | refine Br.ff ?_); conv => whnf) | ((with_reducible first | refine Br.dec (fun hc => ?_) (fun hc => ?_) | refine Br.eq (fun hc => ?_) (fun hc => ?_) | refine Br.ne (fun hc => ?_) (fun hc => ?_)) <;> (first | (exfalso; omega) | conv => whnf)) | ((with_reducible first | refine Br.ttE (by decide) ?_ | refine Br.ffE (by decide) ?_ | refine Br.mk (fun hc => ?_) (fun hc => ?_) | refine Chk.mk (by first | omega | with_reducible rfl | (refine ⟨rfl, ?_⟩; omega) | decide | exact ⟨rfl, by omega, by omega, rfl⟩ | exact ⟨by assumption, rfl, by omega, by omega⟩) ?_ | refine Ar.fit (by omega) ?_ | refine Eqv.shr1 ?_ | refine Ar.u64 (by omega) ?_) <;> conv => whnf) | (with_reducible exact trivial) | ((with_reducible refine And.intro ?_ ?_) <;> conv => whnf) | (intro gn; conv => whnf))
    exact Fin.pick (r' := .i (z + off l l.length)) (H' := [.cust (bundle (psH O (mkL (mkV z l) l.length) l.length)), vRow A cp l.length (vxO O (mkL (mkV z l) l.length)), .cust R]) (by rw [← mixV_end]; refine PP.start ?_; repeat (first | exact PP.nil | refine PP.take (by first | with_reducible exact Hp.Sub.refl _ | exact Hp.Sub.rd (by omega) | exact Hp.Sub.rowA rfl (fun i j hi hj => rfl) | exact Hp.Sub.boxA (by (repeat (first | exact all_lt_zero | refine all_lt_succ (p := fun j => CellLe _ _) (by first | with_reducible exact CellLe.refl _ | exact CellLe.own | exact CellLe.i (by omega) | exact CellLe.nil | exact CellLe.slNil | exact CellLe.refl _) ?_))) | exact Hp.Sub.refl _) ?_ | refine PP.skip ?_)) (fun w F v h => h) ⟨_, rfl, rfl, rfl⟩
  have hvk : (vgx l k).ps.length ≤ 100000000 := hp _ (by rw [show vgx l k = l[k] by simp [vgx, hkl]]; exact List.getElem_mem _)
  have hoff := off_succ l k
  have hbk1 := off_mono (l := l) (show k + 1 ≤ l.length from hkl)
  refine HT.heap [(50, .row (.slice (O k).1 (vgx l k).ps.length (O k).2) 3 1 (vgx l k).ps.length (rowF intF (vgx l k).ps)), (0, .cust (bundle ((psH O (mixV z l k) l.length).eraseIdx k))), (1, .row (.slice A l.length cp) 25 4 l.length (vxO O (mixV z l k))), (900, .cust R)] (fun w F hs => by rw [show (.row _ _ _ _ _ : Hp) = _ from (prow_old (O := O) (z := z) hkl).symm]; exact HSat.pull (psH_get hkl) hs) ?_
  have hval : vxO O (mixV z l k) ((k : Int)).toNat = vxC O (vgx l k) k := by rw [Int.toNat_natCast]; unfold vxO; rw [mixV_ge hkl (Nat.le_refl _)]
  conv => whnf
  repeat' (first | (with_reducible refine HT.stopR 8 ?_) | (with_reducible first | refine HT.seq ?_ | refine HT.block ?_ | refine Br.not ?_) | ((with_reducible first | refine HT.region tt_ok ?_ | refine HT.drawn tt_ok (by kernel_rfl) (by decide +kernel) ?_ | refine HT.drawnL tt_ok (by kernel_rfl) (by decide +kernel) ?_ | refine HT.cond ?_ | refine HT.ret ?_ | refine HT.skip ?_ | refine HT.exit ?_ | refine Br.tt ?_ | refine Br.ff ?_); conv => whnf) | ((with_reducible first | refine Br.dec (fun hc => ?_) (fun hc => ?_) | refine Br.eq (fun hc => ?_) (fun hc => ?_) | refine Br.ne (fun hc => ?_) (fun hc => ?_)) <;> (first | (exfalso; omega) | conv => whnf)) | ((with_reducible first | refine Br.ttE (by decide) ?_ | refine Br.ffE (by decide) ?_ | refine Br.mk (fun hc => ?_) (fun hc => ?_) | refine Chk.mk (by first | omega | with_reducible rfl | (refine ⟨rfl, ?_⟩; omega) | decide | exact ⟨rfl, by omega, by omega, rfl⟩ | exact ⟨by assumption, rfl, by omega, by omega⟩) ?_ | refine Ar.fit (by omega) ?_ | refine Eqv.shr1 ?_ | refine Ar.u64 (by omega) ?_) <;> conv => whnf) | (with_reducible exact trivial) | ((with_reducible refine And.intro ?_ ?_) <;> conv => whnf) | (intro gn; conv => whnf))
  refine ⟨HT.heapP [(50, _), (0, _), (1, .row _ _ _ _ (two (fun i => inV O (vgx l i) i) _)), (900, .cust R)] (by
    conv => whnf
    refine PP.start ?_; repeat (first | exact PP.nil | refine PP.take (by first | with_reducible exact Hp.Sub.refl _ | exact Hp.Sub.rd (by omega) | (rw [Int.toNat_natCast]; exact Hp.Sub.two (fun i hi => two_vx hi)) | exact Hp.Sub.boxA (by (repeat (first | exact all_lt_zero | refine all_lt_succ (p := fun j => CellLe _ _) (by first | with_reducible exact CellLe.refl _ | exact CellLe.own | exact CellLe.i (by omega) | exact CellLe.nil | exact CellLe.slNil | exact CellLe.refl _) ?_))) | exact Hp.Sub.refl _) ?_ | refine PP.skip ?_)) ?_⟩
  conv => whnf
  repeat' (first | (with_reducible first | refine HT.seq ?_ | refine HT.block ?_ | refine Br.not ?_) | ((with_reducible first | refine HT.region tt_ok ?_ | refine HT.drawn tt_ok (by kernel_rfl) (by decide +kernel) ?_ | refine HT.drawnL tt_ok (by kernel_rfl) (by decide +kernel) ?_ | refine HT.cond ?_ | refine HT.ret ?_ | refine HT.skip ?_ | refine HT.exit ?_ | refine Br.tt ?_ | refine Br.ff ?_); conv => whnf) | ((with_reducible first | refine Br.dec (fun hc => ?_) (fun hc => ?_) | refine Br.eq (fun hc => ?_) (fun hc => ?_) | refine Br.ne (fun hc => ?_) (fun hc => ?_)) <;> (first | (exfalso; omega) | conv => whnf)) | ((with_reducible first | refine Br.ttE (by decide) ?_ | refine Br.ffE (by decide) ?_ | refine Br.mk (fun hc => ?_) (fun hc => ?_) | refine Chk.mk (by first | omega | with_reducible rfl | (refine ⟨rfl, ?_⟩; omega) | decide | exact ⟨rfl, by omega, by omega, rfl⟩ | exact ⟨by assumption, rfl, by omega, by omega⟩) ?_ | refine Ar.fit (by omega) ?_ | refine Eqv.shr1 ?_ | refine Ar.u64 (by omega) ?_) <;> conv => whnf) | ((first | (refine CallN.turn1 50 _ _ rfl rfl (fun _ _ _ _ h => by cases h) (markIntS_c (vgx l k).ps (O k).1 (O k).2 _ hvk (by omega)) ?_; rintro r N p' ⟨rfl, rfl, rfl⟩)) <;> conv => whnf) | (with_reducible exact trivial) | ((with_reducible refine And.intro ?_ ?_) <;> conv => whnf) | (intro gn; conv => whnf))
  all_goals (try simp only [Int.toNat_natCast] at *)
  refine ⟨⟨k + 1, by omega, by omega, (by repeat' (first | exact trivial | refine ⟨rfl, ?_⟩)), ⟨(by first | with_reducible exact CellLe.refl _ | exact CellLe.own | exact CellLe.i (by omega) | exact CellLe.nil | exact CellLe.slNil | exact CellLe.refl _), (by first | with_reducible exact CellLe.refl _ | exact CellLe.own | exact CellLe.i (by omega) | exact CellLe.nil | exact CellLe.slNil | exact CellLe.refl _), trivial⟩, ?_⟩⟩
  refine HLe.via [.row (.slice (O k).1 (vgx l k).ps.length (O k).2) 3 1 (vgx l k).ps.length (rowF intF (mkL (fun i => z + off l k + 2 + i) (vgx l k).ps.length)), .cust (bundle ((psH O (mixV z l k) l.length).eraseIdx k)), .row (.slice A l.length cp) 25 4 l.length (vxO O (mixV z l (k + 1))), .cust R] (by
    conv => whnf
    refine PP.start ?_; repeat (first | exact PP.nil | refine PP.take (by first | with_reducible exact Hp.Sub.refl _ | exact Hp.Sub.rd (by omega) | exact Hp.Sub.rowA rfl (fun i j hi hj => by rw [show (fun i : Nat => z + (off l k : Int) + 1 + 1 + (i : Int)) = fun i : Nat => z + off l k + 2 + i from funext fun i => by omega]) | exact Hp.Sub.rowL rfl (fun w F i j hi hj => mark_vx hkl hi rfl rfl (by omega) hj) | exact Hp.Sub.rowL rfl (fun w F i j hi hj => mark_vx hkl hi (by omega) (by omega) (by omega) hj) | exact Hp.Sub.boxA (by (repeat (first | exact all_lt_zero | refine all_lt_succ (p := fun j => CellLe _ _) (by first | with_reducible exact CellLe.refl _ | exact CellLe.own | exact CellLe.i (by omega) | exact CellLe.nil | exact CellLe.slNil | exact CellLe.refl _) ?_))) | exact Hp.Sub.refl _) ?_ | refine PP.skip ?_)) (fun w F hs => ?_)
  rw [← prow_mk hkl, psH_mk] at hs
  exact HSat.back (psH_get hkl) hs
set_option maxRecDepth 100000 in
theorem heldVertexS_c (l : List Vx) (z : Int) (hl : l.length ≤ 100000000) (hp : ∀ v ∈ l, v.ps.length ≤ 100000000) (hz : 0 ≤ z) (hb : z + off l l.length ≤ 100000000000000) : SRet Try.prog 42 [vsl (mkL (mkV z l) l.length), .i z] (· = .i (z + off l l.length)) := ⟨fun R => by
  have hlen : (mkL (mkV z l) l.length).length = l.length := mkL_len
  refine SCalls.enter tt_ok Try.func42 (by kernel_rfl) rfl [(900, .cust R)] rfl (argF _) (fun w F v k h => h) (by simp) ?_
  repeat' (first | (with_reducible first | refine HT.seq ?_ | refine HT.block ?_ | refine Br.not ?_) | ((with_reducible first | refine HT.region tt_ok ?_ | refine HT.drawn tt_ok (by kernel_rfl) (by decide +kernel) ?_ | refine HT.drawnL tt_ok (by kernel_rfl) (by decide +kernel) ?_ | refine HT.cond ?_ | refine HT.ret ?_ | refine HT.skip ?_ | refine HT.exit ?_ | refine Br.tt ?_ | refine Br.ff ?_); conv => whnf) | ((with_reducible first | refine Br.dec (fun hc => ?_) (fun hc => ?_) | refine Br.eq (fun hc => ?_) (fun hc => ?_) | refine Br.ne (fun hc => ?_) (fun hc => ?_)) <;> (first | (exfalso; omega) | conv => whnf)) | ((with_reducible first | refine Br.ttE (by decide) ?_ | refine Br.ffE (by decide) ?_ | refine Br.mk (fun hc => ?_) (fun hc => ?_) | refine Chk.mk (by first | omega | with_reducible rfl | (refine ⟨rfl, ?_⟩; omega) | decide | exact ⟨rfl, by omega, by omega, rfl⟩ | exact ⟨by assumption, rfl, by omega, by omega⟩) ?_ | refine Ar.fit (by omega) ?_ | refine Eqv.shr1 ?_ | refine Ar.u64 (by omega) ?_) <;> conv => whnf) | (with_reducible exact trivial) | ((with_reducible refine And.intro ?_ ?_) <;> conv => whnf) | (intro gn; conv => whnf))
  refine HT.loopC [0] (fun k : Nat => [(5, .i k), (1, .i (z + off l k))]) (fun k : Nat => []) (fun k : Nat => k ≤ l.length) (fun k : Nat => l.length - k) 0 (Nat.zero_le _) ⟨(by first | with_reducible exact CellLe.refl _ | exact CellLe.own | exact CellLe.i (by omega) | exact CellLe.nil | exact CellLe.slNil | exact CellLe.refl _ | exact CellLe.i (by simp [off])), (by first | with_reducible exact CellLe.refl _ | exact CellLe.own | exact CellLe.i (by omega) | exact CellLe.nil | exact CellLe.slNil | exact CellLe.refl _ | exact CellLe.i (by simp [off])), trivial⟩ ?_ ?_
  · conv => whnf
    refine PP.start ?_; repeat (first | exact PP.nil | refine PP.take (by first | with_reducible exact Hp.Sub.refl _ | exact Hp.Sub.rd (by omega) | exact Hp.Sub.boxA (by (repeat (first | exact all_lt_zero | refine all_lt_succ (p := fun j => CellLe _ _) (by first | with_reducible exact CellLe.refl _ | exact CellLe.own | exact CellLe.i (by omega) | exact CellLe.nil | exact CellLe.slNil | exact CellLe.refl _ | exact CellLe.i (by simp [off])) ?_))) | exact Hp.Sub.refl _) ?_ | refine PP.skip ?_)
  conv => whnf
  intro k hk
  have hbk := off_mono (l := l) hk
  by_cases hkl : k < l.length
  rotate_left
  · obtain rfl : k = l.length := by omega
    conv => whnf
    repeat' (first | (with_reducible first | refine HT.seq ?_ | refine HT.block ?_ | refine Br.not ?_) | ((with_reducible first | refine HT.region tt_ok ?_ | refine HT.drawn tt_ok (by kernel_rfl) (by decide +kernel) ?_ | refine HT.drawnL tt_ok (by kernel_rfl) (by decide +kernel) ?_ | refine HT.cond ?_ | refine HT.ret ?_ | refine HT.skip ?_ | refine HT.exit ?_ | refine Br.tt ?_ | refine Br.ff ?_); conv => whnf) | ((with_reducible first | refine Br.dec (fun hc => ?_) (fun hc => ?_) | refine Br.eq (fun hc => ?_) (fun hc => ?_) | refine Br.ne (fun hc => ?_) (fun hc => ?_)) <;> (first | (exfalso; omega) | conv => whnf)) | ((with_reducible first | refine Br.ttE (by decide) ?_ | refine Br.ffE (by decide) ?_ | refine Br.mk (fun hc => ?_) (fun hc => ?_) | refine Chk.mk (by first | omega | with_reducible rfl | (refine ⟨rfl, ?_⟩; omega) | decide | exact ⟨rfl, by omega, by omega, rfl⟩ | exact ⟨by assumption, rfl, by omega, by omega⟩) ?_ | refine Ar.fit (by omega) ?_ | refine Eqv.shr1 ?_ | refine Ar.u64 (by omega) ?_) <;> conv => whnf) | (with_reducible exact trivial) | ((with_reducible refine And.intro ?_ ?_) <;> conv => whnf) | (intro gn; conv => whnf))
    all_goals first | (exfalso; omega) | exact Fin.pureS (by repeat (first | exact List.Sublist.refl _ | refine List.Sublist.cons_cons _ ?_ | refine List.Sublist.cons _ ?_)) rfl
  have hvk : (vgx l k).ps.length ≤ 100000000 := hp _ (by rw [show vgx l k = l[k] by simp [vgx, hkl]]; exact List.getElem_mem _)
  have hoff := off_succ l k
  have hbk1 := off_mono (l := l) (show k + 1 ≤ l.length from hkl)
  have he : (mkL (mkV z l) l.length).getD ((k : Int)).toNat default = mkV z l k := by rw [Int.toNat_natCast]; exact mkL_get hkl
  have hr : ((mkL (mkV z l) l.length).getD ((k : Int)).toNat default).r = z + off l k := by rw [he]; rfl
  have ha : ((mkL (mkV z l) l.length).getD ((k : Int)).toNat default).a = z + off l k + 1 := by rw [he]; rfl
  have hd : ((mkL (mkV z l) l.length).getD ((k : Int)).toNat default).d = z + off l k + 2 + (vgx l k).ps.length := by rw [he]; rfl
  have hH : SRet Try.prog 72 [isl ((mkL (mkV z l) l.length).getD ((k : Int)).toNat default).ps, .i (z + off l k + 1 + 1)] (· = .i (z + off l k + 2 + (vgx l k).ps.length)) := by
    rw [he, show z + (off l k : Int) + 1 + 1 = z + off l k + 2 by omega]
    exact heldIntS_c (z + off l k + 2) (vgx l k).ps.length hvk (by omega)
  conv => whnf
  repeat' (first | (with_reducible first | refine HT.seq ?_ | refine HT.block ?_ | refine Br.not ?_) | ((with_reducible first | refine HT.region tt_ok ?_ | refine HT.drawn tt_ok (by kernel_rfl) (by decide +kernel) ?_ | refine HT.drawnL tt_ok (by kernel_rfl) (by decide +kernel) ?_ | refine HT.cond ?_ | refine HT.ret ?_ | refine HT.skip ?_ | refine HT.exit ?_ | refine Br.tt ?_ | refine Br.ff ?_); conv => whnf) | ((with_reducible first | refine Br.dec (fun hc => ?_) (fun hc => ?_) | refine Br.eq (fun hc => ?_) (fun hc => ?_) | refine Br.ne (fun hc => ?_) (fun hc => ?_)) <;> (first | (exfalso; omega) | conv => whnf)) | ((with_reducible first | refine Br.ttE (by decide) ?_ | refine Br.ffE (by decide) ?_ | refine Br.mk (fun hc => ?_) (fun hc => ?_) | refine Chk.mk (by first | omega | with_reducible rfl | (refine ⟨rfl, ?_⟩; omega) | decide | exact ⟨rfl, by omega, by omega, rfl⟩ | exact ⟨by assumption, rfl, by omega, by omega⟩) ?_ | refine Ar.fit (by omega) ?_ | refine Eqv.shr1 ?_ | refine Ar.u64 (by omega) ?_) <;> conv => whnf) | ((first | refine CallN.ret1 (hH) ?_) <;> conv => whnf) | (with_reducible exact trivial) | ((with_reducible refine And.intro ?_ ?_) <;> conv => whnf) | (intro gn; conv => whnf))
  all_goals first
    | (exfalso; omega)
    | exact ⟨⟨k + 1, by omega, by omega, (by repeat' (first | exact trivial | refine ⟨rfl, ?_⟩)), ⟨(by first | with_reducible exact CellLe.refl _ | exact CellLe.own | exact CellLe.i (by omega) | exact CellLe.nil | exact CellLe.slNil | exact CellLe.refl _), (by first | with_reducible exact CellLe.refl _ | exact CellLe.own | exact CellLe.i (by omega) | exact CellLe.nil | exact CellLe.slNil | exact CellLe.refl _), trivial⟩, HLe.pk (by (conv => whnf); (refine PP.start ?_; repeat (first | exact PP.nil | refine PP.take (by first | with_reducible exact Hp.Sub.refl _ | exact Hp.Sub.rd (by omega) | exact Hp.Sub.boxA (by (repeat (first | exact all_lt_zero | refine all_lt_succ (p := fun j => CellLe _ _) (by first | with_reducible exact CellLe.refl _ | exact CellLe.own | exact CellLe.i (by omega) | exact CellLe.nil | exact CellLe.slNil | exact CellLe.refl _) ?_))) | exact Hp.Sub.refl _) ?_ | refine PP.skip ?_)))⟩⟩
    | trace_state⟩
end Go.Proofs.Ytaddgbalnhpllaa
