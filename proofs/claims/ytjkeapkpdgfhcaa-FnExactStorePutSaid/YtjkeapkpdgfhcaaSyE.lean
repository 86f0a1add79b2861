/- A store that is drawn. -/
import Derived.Test.YtjkeapkpdgfhcaaSyD
set_option linter.all false
namespace Go.Proofs.Ytjkeapkpdgfhcaa
open Go.RowKit

theorem btF_free (b : Bt) : ∀ j, j < 4 → (btF b j).free := lt4 trivial trivial trivial trivial
theorem PutR.free {f : Int} {l : List Bt} {b : Bt} {r : SV} {N : List Hp} (h : PutR f l b r N) : r.free ∧ ∀ p ∈ N, p.free := by
  obtain ⟨A, n, c, _, rfl, rfl⟩ := h
  refine ⟨fun k hk => ?_, fun p hp => ?_⟩
  · rcases (by omega : k = 0 ∨ k = 1) with rfl | rfl
    · intro k hk
      rcases (by omega : k = 0 ∨ k = 1) with rfl | rfl <;> trivial
    · trivial
  · rw [List.mem_singleton.1 hp]
    exact fun i j hi hj => btF_free _ j hj
theorem specStorePut_b {f d a r s : Int} {l : List Bt} {v : Value} {L : Hpl} {nx : Nat} {K : KK} (hm : Hp.row v 27 4 l.length (rowF btF l) ∈ L.map Prod.snd) (hl : l.length ≤ 2000000)
    (k : ∀ r' N, PutR f l ⟨d, a, r, s⟩ r' N → K (r'.lift nx) (keyN nx N L) (nx + 10)) : CallN Try.prog 8 [.agg 2 (litF [.i f, .val v]), .agg 4 (litF [.i d, .i a, .i r, .i s])] L nx K := by
  refine CallN.newB [.agg 2 (stF f l), .agg 4 (btF ⟨d, a, r, s⟩)] _ (specStorePut_c f l ⟨d, a, r, s⟩ hl) (fun w F vs hs hv => ?_) (fun r N h => h.free) k
  match vs, hv with
  | [x, y], ⟨hx, hy, _⟩ =>
    refine ⟨Has.agg (fun k hk u hu => ?_) (hx.mono hs.lt), hy.mono hs.lt, trivial⟩
    rcases (by omega : k = 0 ∨ k = 1) with rfl | rfl
    · exact hu
    · have e : u = v := hu
      subst e
      exact row_all hs hm
theorem putList_le {f : Int} {l : List Bt} {b : Bt} (h : putCode f l b = 0) : (putList f l b).length ≤ 12 := by
  have hl : ∀ l b, (insB l b).length = l.length + 1 := by
    intro l b
    induction l with
    | nil => rfl
    | cons x l ih => simp only [insB]; split <;> simp [ih]
  unfold putList
  rw [h]
  show (insB l b).length ≤ 12
  rw [hl]
  unfold putCode at h
  repeat' split at h
  all_goals first | omega | skip
/-- the drawing's round: x's box, its row, the rest; the box first -/
theorem hleU {L : Hpl} {gn g0 g : Nat} {fx fx' f0 : Nat → SV} {v : Value} {n : Nat} {fr fr' : Nat → Nat → SV} {m1 m2 : Int} {R : Heaplet} (h : List.Sublist [.box gn 25 2 fx, .row v 27 4 n fr, .box g0 25 2 f0, .cust (rdH g m1), .cust R] (L.map Prod.snd)) (hf : ∀ j, j < 2 → ∀ w F x, Has w F (fx j) x → Has w F (fx' j) x)
    (hr : ∀ i j, i < n → j < 4 → fr i j = fr' i j) (hm : m1 ≤ m2) : HLe L [(112, .box gn 25 2 fx'), (111, .row v 27 4 n fr'), (100, .box g0 25 2 f0), (0, .cust (rdH g m2)), (900, .cust R)] :=
  HLe.of_sub _ h fun w F hs => HSat.ple [(112, .box gn 25 2 fx), (111, .row v 27 4 n fr), (100, .box g0 25 2 f0), (0, .cust (rdH g m1)), (900, .cust R)] _ (.cons (.boxH hf) (.cons (.row hr) (.cons (.refl _) (.cons (.rd hm) (.cons (.refl _) trivial))))) hs
/-- the row first -/
theorem hleD {L : Hpl} {gn g0 g : Nat} {fx fx' f0 : Nat → SV} {v : Value} {n : Nat} {fr fr' : Nat → Nat → SV} {m1 m2 : Int} {R : Heaplet} (h : List.Sublist [.row v 27 4 n fr, .box gn 25 2 fx, .box g0 25 2 f0, .cust (rdH g m1), .cust R] (L.map Prod.snd)) (hf : ∀ j, j < 2 → ∀ w F x, Has w F (fx j) x → Has w F (fx' j) x)
    (hr : ∀ i j, i < n → j < 4 → fr i j = fr' i j) (hm : m1 ≤ m2) : HLe L [(112, .box gn 25 2 fx'), (111, .row v 27 4 n fr'), (100, .box g0 25 2 f0), (0, .cust (rdH g m2)), (900, .cust R)] :=
  HLe.of_sub _ h fun w F hs => HSat.ple [(112, .box gn 25 2 fx), (111, .row v 27 4 n fr), (100, .box g0 25 2 f0), (0, .cust (rdH g m1)), (900, .cust R)] _ (.cons (.boxH hf) (.cons (.row hr) (.cons (.refl _) (.cons (.rd hm) (.cons (.refl _) trivial))))) (hs.perm (List.Perm.swap _ _ _))
theorem useB {P : Prop} {f : Int} {l : List Bt} {b : Bt} (_ : putCode f l b = 0) (k : ∀ b', b' = b → P) : P := k b rfl
theorem cat_snoc {l : List Bt} {b : Bt} {i j : Nat} {g : Nat → Nat → SV} (hi : i < l.length + 1) (hj : j < 4) (hg : ∀ j, j < 4 → g 0 j = btF b j) : catF l.length (rowF btF l) g i j = rowF btF (l ++ [b]) i j := by
  show _ = btF ((l ++ [b]).getD i default) j
  unfold catF
  by_cases h : i < l.length
  · rw [if_pos h]
    show btF (l.getD i default) j = _
    rw [List.getD_eq_getElem?_getD, List.getD_eq_getElem?_getD, List.getElem?_append_left h]
  · obtain rfl : i = l.length := by omega
    rw [if_neg h, Nat.sub_self, hg j hj, List.getD_eq_getElem?_getD, List.getElem?_append_right (Nat.le_refl _), Nat.sub_self]
    rfl
theorem put_rowS {l : List Bt} {p i j : Nat} {z : Int} {fv : Nat → SV} (hp : p < l.length) (hj : j < 4) (hv : fv 0 = .i z) : putR p (0 + 3) 1 fv (rowF btF l) i j = rowF btF (l.set p { l.getD p default with s := z }) i j := by
  show _ = btF ((l.set p { l.getD p default with s := z }).getD i default) j
  unfold putR
  by_cases h : i = p
  · subst h
    rw [Nat.beq_refl, cond_true, List.getD_eq_getElem?_getD, List.getElem?_set_self hp, Nat.zero_add, putF_one, hv]
    rcases (by omega : j = 0 ∨ j = 1 ∨ j = 2 ∨ j = 3) with rfl | rfl | rfl | rfl <;> rfl
  · have e : Nat.beq i p = false := by rw [Bool.eq_false_iff]; exact fun hb => h (Nat.eq_of_beq_eq_true hb)
    rw [e, cond_false, List.getD_eq_getElem?_getD, List.getElem?_set_ne (fun e => h e.symm), ← List.getD_eq_getElem?_getD]
    rfl
/-- a store was drawn, in at most d steps -/
def DrewS (d : Int) (g : Nat) (m : Int) (r : SV) (N : List Hp) (p' : Hp) : Prop :=
  ∃ f l A n c, n = l.length ∧ r = .agg 2 (litF [.i f, .own 0 (.slice A n c)]) ∧ N = [.row (.slice A n c) 27 4 l.length (rowF btF l)] ∧ l.length ≤ 13 ∧ p' = .cust (rdH g (m + d))
set_option maxHeartbeats 1000000 in
theorem l92Store_c (g : Nat) (m : Int) (hm : m ≤ 700000000000) : SMut Try.prog 20 [.val (.pointer (some ⟨g, 0, none⟩))] (.cust (rdH g m)) (DrewS 1000 g m) := ⟨fun R => by
  refine SCalls.enter tt_ok Try.func20 (by kernel_rfl) rfl [(0, .cust (rdH g m)), (900, .cust R)] rfl (argF _) (fun w F v k h => h) (by simp) ?_
  repeat' (first | (with_reducible first | refine HT.seq ?_ | refine HT.block ?_ | refine Br.not ?_) | ((with_reducible first | refine HT.region tt_ok ?_ | refine HT.drawn tt_ok (by kernel_rfl) (by decide +kernel) ?_ | refine HT.drawnL tt_ok (by kernel_rfl) (by decide +kernel) ?_ | refine HT.cond ?_ | refine HT.ret ?_ | refine HT.skip ?_ | refine HT.exit ?_ | refine Br.tt ?_ | refine Br.ff ?_); conv => whnf) | ((with_reducible first | refine Br.dec (fun hc => ?_) (fun hc => ?_) | refine Br.eq (fun hc => ?_) (fun hc => ?_) | refine Br.ne (fun hc => ?_) (fun hc => ?_)) <;> (first | (exfalso; omega) | conv => whnf)) | ((with_reducible first | refine Br.ttE (by decide) ?_ | refine Br.ffE (by decide) ?_ | refine Br.mk (fun hc => ?_) (fun hc => ?_) | refine Chk.mk (by first | omega | with_reducible rfl | (refine ⟨rfl, ?_⟩; omega) | decide | exact ⟨rfl, by omega, by omega, rfl⟩ | exact ⟨by assumption, rfl, by omega, by omega⟩) ?_ | refine Ar.fit (by omega) ?_ | refine Eqv.shr1 ?_ | refine Ar.u64 (by omega) ?_) <;> conv => whnf) | ((first | (refine CallN.turn 0 _ _ rfl (pick_c _ _ 3 (by omega) (by omega)) ?_; rintro r N p' ⟨⟨k, hk0, hk1, rfl⟩, rfl, rfl⟩)) <;> conv => whnf) | (with_reducible exact trivial) | ((with_reducible refine And.intro ?_ ?_) <;> conv => whnf) | (intro gn; conv => whnf))
  rename_i g0 gs
  refine HT.loopK [0, 2, 3] (fun x : Nat × Int × List Bt × Option Addr × Nat × Nat => [(4, .i x.1)]) (fun x => [(112, .box gn 25 2 (litF [.i x.2.1, .own 111 (.slice x.2.2.2.1 x.2.2.2.2.1 x.2.2.2.2.2)])), (111, .row (.slice x.2.2.2.1 x.2.2.2.2.1 x.2.2.2.2.2) 27 4 x.2.2.1.length (rowF btF x.2.2.1)), (100, .box g0 25 2 (zF (fetch 25 tt).zc)), (0, .cust (rdH g (m + 1 + 20 * x.1))), (900, .cust R)]) 120
    (fun x => x.1 ≤ 26 ∧ x.2.2.1.length ≤ 12 ∧ x.2.2.2.2.1 = x.2.2.1.length) (fun x => 26 - x.1) (0, k, [], some ⟨gs, 0, none⟩, 0, 0) ⟨by simp, by simp, rfl⟩ ⟨rfl, trivial⟩ ?_ ?_
  · exact hleU (List.Sublist.refl _) (has2 (fun _ _ _ h => h) (fun _ _ _ h => h)) (fun i j hi => absurd hi (by simp)) (by simp)
  rintro ⟨i, f, l, A, n, c⟩ ⟨hi, hl, hn⟩
  dsimp only at hi hl hn ⊢
  repeat' (first | (with_reducible first | refine HT.seq ?_ | refine HT.block ?_ | refine Br.not ?_) | ((with_reducible first | refine HT.region tt_ok ?_ | refine HT.drawn tt_ok (by kernel_rfl) (by decide +kernel) ?_ | refine HT.drawnL tt_ok (by kernel_rfl) (by decide +kernel) ?_ | refine HT.cond ?_ | refine HT.ret ?_ | refine HT.skip ?_ | refine HT.exit ?_ | refine Br.tt ?_ | refine Br.ff ?_); conv => whnf) | ((with_reducible first | refine Br.dec (fun hc => ?_) (fun hc => ?_) | refine Br.eq (fun hc => ?_) (fun hc => ?_) | refine Br.ne (fun hc => ?_) (fun hc => ?_)) <;> (first | (exfalso; omega) | conv => whnf)) | ((with_reducible first | refine Br.ttE (by decide) ?_ | refine Br.ffE (by decide) ?_ | refine Br.mk (fun hc => ?_) (fun hc => ?_) | refine Chk.mk (by first | omega | with_reducible rfl | (refine ⟨rfl, ?_⟩; omega) | decide | exact ⟨rfl, by omega, by omega, rfl⟩ | exact ⟨by assumption, rfl, by omega, by omega⟩) ?_ | refine Ar.fit (by omega) ?_ | refine Eqv.shr1 ?_ | refine Ar.u64 (by omega) ?_) <;> conv => whnf) | ((first | (refine CallN.turn 0 _ _ rfl (pick_c _ _ 26 (by omega) (by omega)) ?_; rintro r N p' ⟨⟨k, hk0, hk1, rfl⟩, rfl, rfl⟩) | (refine CallN.turn 0 _ _ rfl (pick_c _ _ 2 (by omega) (by omega)) ?_; rintro r N p' ⟨⟨k, hk0, hk1, rfl⟩, rfl, rfl⟩) | (refine CallN.turn 0 _ _ rfl (pick_c _ _ 7 (by omega) (by omega)) ?_; rintro r N p' ⟨⟨k, hk0, hk1, rfl⟩, rfl, rfl⟩) | (refine CallN.turn 0 _ _ rfl (pick_c _ _ 3 (by omega) (by omega)) ?_; rintro r N p' ⟨⟨k, hk0, hk1, rfl⟩, rfl, rfl⟩) | (refine CallN.turn 0 _ _ rfl (pick_c _ _ 16 (by omega) (by omega)) ?_; rintro r N p' ⟨⟨k, hk0, hk1, rfl⟩, rfl, rfl⟩) | (refine CallN.turn 0 _ _ rfl (pick_c _ _ 34 (by omega) (by omega)) ?_; rintro r N p' ⟨⟨k, hk0, hk1, rfl⟩, rfl, rfl⟩) | (refine CallN.turn 0 _ _ rfl (pick_c _ _ 15 (by omega) (by omega)) ?_; rintro r N p' ⟨⟨k, hk0, hk1, rfl⟩, rfl, rfl⟩) | (refine CallN.turn 0 _ _ rfl (l92Batch_c _ _ (by omega)) ?_; rintro r N p' ⟨⟨b0, b1, b2, b3, hb0, hb1, hb2, hb3, rfl⟩, rfl, rfl⟩) | (refine CallN.turn 0 _ _ rfl (pick_c _ _ _ (by omega) (by omega)) ?_; rintro r N p' ⟨⟨k, hk0, hk1, rfl⟩, rfl, rfl⟩) | (refine specStorePut_b (l := l) (by simp) (by omega) ?_; rintro r N ⟨A', n', c', hn', rfl, rfl⟩)) <;> conv => whnf) | (with_reducible exact trivial) | ((with_reducible refine And.intro ?_ ?_) <;> conv => whnf) | (intro gn; conv => whnf))
  · refine useB hc fun bb hbb => ?_
    refine ⟨⟨(i + 1, putFloor f l bb, putList f l bb, A', n', c'), ⟨by dsimp only; omega, by subst hbb; exact putList_le hc, by subst hbb; exact hn'⟩, by dsimp only; omega, (by repeat' (first | exact trivial | refine ⟨rfl, ?_⟩)), ⟨sv_i (by omega), trivial⟩, ?_⟩⟩
    subst hbb
    apply hleD (fr := rowF btF (putList f l _)) (hr := fun _ _ _ _ => rfl)
    · repeat (first | exact List.Sublist.refl _ | refine List.Sublist.cons_cons _ ?_ | refine List.Sublist.cons _ ?_)
    · exact has2 (fun _ _ _ h => h) (fun _ _ _ h => h)
    · dsimp only; omega
  · exact ⟨⟨(i + 1, f, l, A, n, c), ⟨by dsimp only; omega, hl, hn⟩, by dsimp only; omega, (by repeat' (first | exact trivial | refine ⟨rfl, ?_⟩)), ⟨sv_i (by omega), trivial⟩, hleU (by repeat (first | exact List.Sublist.refl _ | refine List.Sublist.cons_cons _ ?_ | refine List.Sublist.cons _ ?_)) (has2 (fun _ _ _ h => h) (fun _ _ _ h => h)) (fun _ _ _ _ => rfl) (by dsimp only; omega)⟩⟩
  · refine useB hc fun bb hbb => ?_
    refine ⟨⟨(i + 1, putFloor f l bb, putList f l bb, A', n', c'), ⟨by dsimp only; omega, by subst hbb; exact putList_le hc, by subst hbb; exact hn'⟩, by dsimp only; omega, (by repeat' (first | exact trivial | refine ⟨rfl, ?_⟩)), ⟨sv_i (by omega), trivial⟩, ?_⟩⟩
    subst hbb
    apply hleD (fr := rowF btF (putList f l _)) (hr := fun _ _ _ _ => rfl)
    · repeat (first | exact List.Sublist.refl _ | refine List.Sublist.cons_cons _ ?_ | refine List.Sublist.cons _ ?_)
    · exact has2 (fun _ _ _ h => h) (fun _ _ _ h => h)
    · dsimp only; omega
  · exact ⟨⟨(i + 1, f, l, A, n, c), ⟨by dsimp only; omega, hl, hn⟩, by dsimp only; omega, (by repeat' (first | exact trivial | refine ⟨rfl, ?_⟩)), ⟨sv_i (by omega), trivial⟩, hleU (by repeat (first | exact List.Sublist.refl _ | refine List.Sublist.cons_cons _ ?_ | refine List.Sublist.cons _ ?_)) (has2 (fun _ _ _ h => h) (fun _ _ _ h => h)) (fun _ _ _ _ => rfl) (by dsimp only; omega)⟩⟩
  · skip
    exact Fin.rowRd (by repeat (first | exact List.Sublist.refl _ | refine List.Sublist.cons_cons _ ?_ | refine List.Sublist.cons _ ?_)) (by omega) rfl (fun _ _ _ _ => rfl) ⟨_, l, _, _, _, hn, rfl, rfl, by omega, rfl⟩
  · refine Fin.rowRd (by repeat (first | exact List.Sublist.refl _ | refine List.Sublist.cons_cons _ ?_ | refine List.Sublist.cons _ ?_)) (m2 := m + 1000) (by omega) (n' := (l ++ [Bt.mk _ _ _ _]).length) (by simp) (f' := rowF btF (l ++ [Bt.mk _ _ _ _])) (fun i j hi hj => cat_snoc hi hj (lt4 rfl rfl rfl rfl)) ⟨_, l ++ [Bt.mk _ _ _ _], _, _, _, by simp [hn], rfl, rfl, by simp; omega, rfl⟩
  · refine Fin.rowRd (by repeat (first | exact List.Sublist.refl _ | refine List.Sublist.cons_cons _ ?_ | refine List.Sublist.cons _ ?_)) (m2 := m + 1000) (by omega) (n' := (l.set _ _).length) (by simp) (f' := rowF btF (l.set _ _)) (fun i j hi hj => put_rowS (by omega) hj rfl) ⟨_, l.set _ _, _, _, _, by simp [hn], rfl, rfl, by simp; omega, rfl⟩
  · exact Fin.rowRd (by repeat (first | exact List.Sublist.refl _ | refine List.Sublist.cons_cons _ ?_ | refine List.Sublist.cons _ ?_)) (by omega) rfl (fun _ _ _ _ => rfl) ⟨_, l, _, _, _, hn, rfl, rfl, by omega, rfl⟩
  · exact Fin.rowRd (by repeat (first | exact List.Sublist.refl _ | refine List.Sublist.cons_cons _ ?_ | refine List.Sublist.cons _ ?_)) (by omega) rfl (fun _ _ _ _ => rfl) ⟨_, l, _, _, _, hn, rfl, rfl, by omega, rfl⟩⟩
end Go.Proofs.Ytjkeapkpdgfhcaa
