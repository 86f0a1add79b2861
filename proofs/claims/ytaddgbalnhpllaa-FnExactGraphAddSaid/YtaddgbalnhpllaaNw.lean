/- Vertices, all of whose memory is new: made, joined, handed back. -/
import Derived.Test.YtaddgbalnhpllaaNt
set_option linter.all false
namespace Go.Proofs.Ytaddgbalnhpllaa
open Go.RowKit

theorem bundle_free {Z : List Hp} (h : ∀ p ∈ Z, p.free) : (Hp.cust (bundle Z)).free := fun w F F' ⟨a, b⟩ => ⟨fun x hx => Hp.holds_free (h x hx) (a x hx), b⟩
theorem psH_free {O : Ow} {l : List Vx} {k : Nat} : (Hp.cust (bundle (psH O l k))).free := bundle_free fun p hp => by
  unfold psH at hp
  obtain ⟨i, _, rfl⟩ := List.mem_map.1 hp
  exact fun i k hi hk => trivial
theorem vxO_free {O : Ow} {l : List Vx} {i j : Nat} (hj : j < 4) : (vxO O l i j).free := by
  rcases (by omega : j = 0 ∨ j = 1 ∨ j = 2 ∨ j = 3) with rfl | rfl | rfl | rfl <;> exact trivial
/-- vertices and a further result, all new -/
def MadeVT (P : List Vx → SV → Prop) (r : SV) (N : List Hp) : Prop := ∃ L x A n cp O, P L x ∧ (∃ v, x = .val v) ∧ n = L.length ∧ r = .tup 2 (litF [.own 0 (.slice A n cp), x]) ∧ N = [.row (.slice A n cp) 25 4 L.length (vxO O L), .cust (bundle (psH O L L.length))]
theorem MadeVT.free {P : List Vx → SV → Prop} {r : SV} {N : List Hp} (h : MadeVT P r N) : r.free ∧ ∀ p ∈ N, p.free := by
  obtain ⟨L, x, A, n, cp, O, _, ⟨v, rfl⟩, _, rfl, rfl⟩ := h
  refine ⟨fun k hk => ?_, fun p hp => ?_⟩
  · rcases (by omega : k = 0 ∨ k = 1) with rfl | rfl <;> exact trivial
  · rcases List.mem_cons.1 hp with rfl | hp
    · exact fun i k hi hk => vxO_free hk
    · rw [List.mem_singleton.1 hp]; exact psH_free
theorem HSat.emptyB {w : World} {F : Nat → Prop} {H : List Hp} (h : HSat w F H) : HSat w F (.cust (Proofs.Ytaddgbalnhpllaa.bundle []) :: H) := HSat.bundleK (A := []) (H := []) h
theorem HLe.emp {L L' : Hpl} (h : ∀ w F, HSat w F (L.map Prod.snd) → HSat w F (L'.map Prod.snd)) : HLe L L' := fun w F hs => ⟨F, fun _ h => h, h w F hs⟩
/-- no vertices -/
theorem Fin.vt0 {P : List Vx → SV → Prop} {r x : SV} {v : Value} {A : Option Addr} {cp : Nat} {R : Heaplet} {H : List Hp} (hp : PPick H [.row (.slice A 0 cp) 25 4 0 (vxO (fun _ => (none, 0)) []), .cust R])
    (hr : ∀ w F, LeW w F r (.tup 2 (litF [.own 0 (.slice A 0 cp), x]))) (hx : x = .val v) (h : P [] x) : Fin r H (fun r H' => ∃ N, H' = N ++ [.cust R] ∧ MadeVT P r N) :=
  ⟨⟨.tup 2 (litF [.own 0 (.slice A 0 cp), x]), [.row (.slice A 0 cp) 25 4 0 (vxO (fun _ => (none, 0)) []), .cust (Proofs.Ytaddgbalnhpllaa.bundle (psH (fun _ => (none, 0)) [] 0)), .cust R], fun w F y hs hy => ⟨F, fun _ h => h, (hp.sat hs).emptyB.perm (List.Perm.swap _ _ _), hr w F y hy⟩, [_, _], rfl, [], x, A, 0, cp, _, h, ⟨v, hx⟩, rfl, rfl, rfl⟩⟩
theorem Fin.vt {P : List Vx → SV → Prop} {r x : SV} {v : Value} {L : List Vx} {n : Nat} {A : Option Addr} {cp : Nat} {O : Ow} {R : Heaplet} {H : List Hp} (hp : PPick H [.row (.slice A n cp) 25 4 n (vxO O L), .cust (Proofs.Ytaddgbalnhpllaa.bundle (psH O L L.length)), .cust R]) (hn : n = L.length)
    (hr : ∀ w F, LeW w F r (.tup 2 (litF [.own 0 (.slice A n cp), x]))) (hx : x = .val v) (h : P L x) : Fin r H (fun r H' => ∃ N, H' = N ++ [.cust R] ∧ MadeVT P r N) := by
  subst hn
  exact Fin.pick hp (fun w F y hy => hr w F y hy) ⟨[_, _], rfl, L, x, A, L.length, cp, O, h, ⟨v, hx⟩, rfl, rfl, rfl⟩
theorem oneO_c (v : Vx) (hl : v.ps.length ≤ 100000000) : SNew Try.prog 68 [vxV v] (MadeVx v) := ⟨fun R => by
  refine SCalls.enter tt_ok Try.func68 (by kernel_rfl) rfl [(900, .cust R)] rfl (argF _) (fun w F v k h => h) (by simp) ?_
  repeat' (first | (with_reducible first | refine HT.seq ?_ | refine HT.block ?_ | refine Br.not ?_) | ((with_reducible first | refine HT.region tt_ok ?_ | refine HT.drawn tt_ok (by kernel_rfl) (by decide +kernel) ?_ | refine HT.drawnL tt_ok (by kernel_rfl) (by decide +kernel) ?_ | refine HT.cond ?_ | refine HT.ret ?_ | refine HT.skip ?_ | refine HT.exit ?_ | refine Br.tt ?_ | refine Br.ff ?_); conv => whnf) | ((with_reducible first | refine Br.dec (fun hc => ?_) (fun hc => ?_) | refine Br.eq (fun hc => ?_) (fun hc => ?_) | refine Br.ne (fun hc => ?_) (fun hc => ?_)) <;> (first | (exfalso; omega) | conv => whnf)) | ((with_reducible first | refine Br.ttE (by decide) ?_ | refine Br.ffE (by decide) ?_ | refine Br.mk (fun hc => ?_) (fun hc => ?_) | refine Chk.mk (by first | omega | with_reducible rfl | (refine ⟨rfl, ?_⟩; omega) | decide | exact ⟨rfl, by omega, by omega, rfl⟩ | exact ⟨by assumption, rfl, by omega, by omega⟩) ?_ | refine Ar.fit (by omega) ?_ | refine Eqv.shr1 ?_ | refine Ar.u64 (by omega) ?_) <;> conv => whnf) | (with_reducible exact trivial) | ((with_reducible refine And.intro ?_ ?_) <;> conv => whnf) | (intro gn; conv => whnf))
  exact Fin.news [_] (fun _ => 0) (by refine PP.start ?_; repeat (first | exact PP.nil | refine PP.take (by first | with_reducible exact Hp.Sub.refl _ | exact Hp.Sub.rd (by omega) | exact Hp.Sub.rowA (by first | rfl | simp) (fun i j hi hj => cat_ints (l := []) hi hj) | exact Hp.Sub.boxA (by (repeat (first | exact all_lt_zero | refine all_lt_succ (p := fun j => CellLe _ _) (by first | with_reducible exact CellLe.refl _ | exact CellLe.own | exact CellLe.i (by omega) | exact CellLe.nil | exact CellLe.slNil | exact CellLe.refl _) ?_))) | exact Hp.Sub.refl _) ?_ | refine PP.skip ?_)) ⟨_, _, _, (by first | rfl | simp), rfl, rfl⟩⟩
theorem vgx_snoc {M : List Vx} {v : Vx} : vgx (M ++ [v]) M.length = v := by simp [vgx]
theorem vgx_app {M : List Vx} {v : Vx} {i : Nat} (h : i < M.length) : vgx (M ++ [v]) i = vgx M i := by simp [vgx, List.getElem?_append_left h]
theorem vxO_snoc {w : World} {F : Nat → Prop} {O : Ow} {M : List Vx} {v : Vx} {a : Option Addr × Nat} {g : Nat → Nat → SV} {i j : Nat} (hg : ∀ j, j < 4 → LeW w F (g 0 j) (vxC (owS O M.length a) v M.length j)) (hi : i < M.length + 1) (hj : j < 4) :
    LeW w F (catF M.length (vxO O M) g i j) (vxO (owS O M.length a) (M ++ [v]) i j) := by
  unfold catF
  by_cases h : i < M.length
  · rw [if_pos h, vxO_ow (by omega)]
    unfold vxO
    rw [vgx_app h]
    exact fun _ h => h
  · obtain rfl : i = M.length := by omega
    rw [if_neg h, Nat.sub_self]
    unfold vxO
    rw [vgx_snoc]
    exact hg j hj
theorem psH_snoc {O : Ow} {M : List Vx} {v : Vx} {A : Option Addr} {c : Nat} : psH (owS O M.length (A, c)) (M ++ [v]) (M ++ [v]).length = psH O M M.length ++ [.row (.slice A v.ps.length c) 3 1 v.ps.length (rowF intF v.ps)] := by
  rw [List.length_append, List.length_singleton, psH_succ]
  have h1 : psH (owS O M.length (A, c)) (M ++ [v]) M.length = psH O M M.length := psH_congr fun i hi => by
    unfold prow inV
    rw [owS_ne (by omega), vgx_app hi]
  rw [h1]
  unfold prow inV
  rw [owS_eq, vgx_snoc]
/-- a vertex whose parents are owned is appended -/
theorem HLe.snoc {L L' : Hpl} {O : Ow} {M : List Vx} {v : Vx} {A : Option Addr} {c : Nat} {rv : Value} {g : Nat → Nat → SV} {X : List Hp}
    (hp : fcH (L.map Prod.snd) fun H => PPick H (.cust (bundle (psH O M M.length)) :: .row (.slice A v.ps.length c) 3 1 v.ps.length (rowF intF v.ps) :: .row rv 25 4 (M.length + 1) (catF M.length (vxO O M) g) :: X))
    (hg : ∀ w F j, j < 4 → LeW w F (g 0 j) (vxC (owS O M.length (A, c)) v M.length j))
    (hL : ∀ w F, HSat w F (.cust (bundle (psH (owS O M.length (A, c)) (M ++ [v]) (M ++ [v]).length)) :: .row rv 25 4 (M.length + 1) (vxO (owS O M.length (A, c)) (M ++ [v])) :: X) → HSat w F (L'.map Prod.snd)) : HLe L L' := fun w F hs => by
  rw [fcH_eq] at hp
  refine ⟨F, fun _ h => h, hL w F ?_⟩
  have h1 := HSat.push (A := []) (hp.sat hs)
  rw [psH_snoc]
  refine (PPick.sat (.cons 0 rfl (.refl _) (.cons 0 rfl (.rowL rfl fun w F i j hi hj => vxO_snoc (hg w F) hi hj) (PPick.refl _))) h1)
end Go.Proofs.Ytaddgbalnhpllaa
