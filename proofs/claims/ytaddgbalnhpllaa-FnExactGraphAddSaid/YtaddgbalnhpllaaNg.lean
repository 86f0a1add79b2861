/- Vertices copied with all their memory; a vertex inserted in a row of any kind. -/
import Derived.Test.YtaddgbalnhpllaaNw
import Derived.Test.YtaddgbalnhpllaaGk
set_option linter.all false
namespace Go.Proofs.Ytaddgbalnhpllaa
open Go.RowKit

/-- vertices, all of whose memory is new, in a row that has no room for more -/
def MadeVg (l : List Vx) (r : SV) (N : List Hp) : Prop := ∃ g n O, n = l.length ∧ r = .own 0 (.slice (some ⟨g, 0, none⟩) n n) ∧ N = [.row (.slice (some ⟨g, 0, none⟩) n n) 25 4 l.length (vxO O l), .cust (bundle (psH O l l.length))]
set_option maxRecDepth 100000 in
theorem cloneVsO_o (vs : List Vx) (hl : vs.length ≤ 100000000) (hv : ∀ v ∈ vs, v.ps.length ≤ 100000000) : SNew Try.prog 64 [vsl vs] (MadeVg vs) := ⟨fun R => by
  refine SCalls.enter tt_ok Try.func64 (by kernel_rfl) rfl [(900, .cust R)] rfl (argF _) (fun w F v k h => h) (by simp) ?_
  repeat' (first | (with_reducible first | refine HT.seq ?_ | refine HT.block ?_ | refine Br.not ?_) | ((with_reducible first | refine HT.region tt_ok ?_ | refine HT.drawn tt_ok (by kernel_rfl) (by decide +kernel) ?_ | refine HT.drawnL tt_ok (by kernel_rfl) (by decide +kernel) ?_ | refine HT.cond ?_ | refine HT.ret ?_ | refine HT.skip ?_ | refine HT.exit ?_ | refine Br.tt ?_ | refine Br.ff ?_); conv => whnf) | ((with_reducible first | refine Br.dec (fun hc => ?_) (fun hc => ?_) | refine Br.eq (fun hc => ?_) (fun hc => ?_) | refine Br.ne (fun hc => ?_) (fun hc => ?_)) <;> (first | (exfalso; omega) | conv => whnf)) | ((with_reducible first | refine Br.ttE (by decide) ?_ | refine Br.ffE (by decide) ?_ | refine Br.mk (fun hc => ?_) (fun hc => ?_) | refine Chk.mk (by first | omega | with_reducible rfl | (refine ⟨rfl, ?_⟩; omega) | decide | exact ⟨rfl, by omega, by omega, rfl⟩ | exact ⟨by assumption, rfl, by omega, by omega⟩) ?_ | refine Ar.fit (by omega) ?_ | refine Eqv.shr1 ?_ | refine Ar.u64 (by omega) ?_) <;> conv => whnf) | (with_reducible exact trivial) | ((with_reducible refine And.intro ?_ ?_) <;> conv => whnf) | (intro gn; conv => whnf))
  revert gn; intro gb
  refine HT.bundleN 110 [] (L' := [(100, .row (.slice (some ⟨gb, 0, none⟩) (vs.length : Int).toNat (vs.length : Int).toNat) 25 4 (vs.length : Int).toNat (fun _ => (zF [.int .i64 0, .int .i64 0, .slice none 0 0, .int .i64 0]))), (900, .cust R)]) (fun w F hs => hs) ?_
  refine HT.loopC [0, 2, 3, 9, 10] (fun x : Nat × Ow => [(11, .i x.1)]) (fun x : Nat × Ow => [(110, .cust (bundle (psH x.2 vs x.1))), (100, .cells (part (vxO x.2 vs) (zF [.int .i64 0, .int .i64 0, .slice none 0 0, .int .i64 0]) x.1))]) (fun x : Nat × Ow => x.1 ≤ vs.length) (fun x : Nat × Ow => vs.length - x.1) (0, fun _ => (none, 0)) (Nat.zero_le _) ⟨(by first | with_reducible exact CellLe.refl _ | exact CellLe.own | exact CellLe.i (by omega) | exact CellLe.nil | exact CellLe.slNil | exact CellLe.refl _), trivial⟩ ?_ ?_
  · conv => whnf
    refine PP.start ?_; repeat (first | exact PP.nil | refine PP.take (by first | with_reducible exact Hp.Sub.refl _ | exact Hp.Sub.rd (by omega) | exact Hp.Sub.rowL rfl (fun w F i j hi hj => LeW.of_eq (part_ge (Nat.zero_le _)).symm) | exact Hp.Sub.boxA (by (repeat (first | exact all_lt_zero | refine all_lt_succ (p := fun j => CellLe _ _) (by first | with_reducible exact CellLe.refl _ | exact CellLe.own | exact CellLe.i (by omega) | exact CellLe.nil | exact CellLe.slNil | exact CellLe.refl _) ?_))) | exact Hp.Sub.refl _) ?_ | refine PP.skip ?_)
  conv => whnf
  rintro ⟨k, O⟩ hk
  dsimp only at hk ⊢
  have hvk : k < vs.length → (vs.getD k default).ps.length ≤ 100000000 := fun h => hv _ (by rw [show vs.getD k default = vs[k] by simp [h]]; exact List.getElem_mem _)
  conv => whnf
  repeat' (first | (with_reducible first | refine HT.seq ?_ | refine HT.block ?_ | refine Br.not ?_) | ((with_reducible first | refine HT.region tt_ok ?_ | refine HT.drawn tt_ok (by kernel_rfl) (by decide +kernel) ?_ | refine HT.drawnL tt_ok (by kernel_rfl) (by decide +kernel) ?_ | refine HT.cond ?_ | refine HT.ret ?_ | refine HT.skip ?_ | refine HT.exit ?_ | refine Br.tt ?_ | refine Br.ff ?_); conv => whnf) | ((with_reducible first | refine Br.dec (fun hc => ?_) (fun hc => ?_) | refine Br.eq (fun hc => ?_) (fun hc => ?_) | refine Br.ne (fun hc => ?_) (fun hc => ?_)) <;> (first | (exfalso; omega) | conv => whnf)) | ((with_reducible first | refine Br.ttE (by decide) ?_ | refine Br.ffE (by decide) ?_ | refine Br.mk (fun hc => ?_) (fun hc => ?_) | refine Chk.mk (by first | omega | with_reducible rfl | (refine ⟨rfl, ?_⟩; omega) | decide | exact ⟨rfl, by omega, by omega, rfl⟩ | exact ⟨by assumption, rfl, by omega, by omega⟩) ?_ | refine Ar.fit (by omega) ?_ | refine Eqv.shr1 ?_ | refine Ar.u64 (by omega) ?_) <;> conv => whnf) | ((first | (refine CallN.new _ (oneO_c (vs.getD k default) (hvk (by omega))) ?_; rintro r N ⟨A, n, c, hn, rfl, rfl⟩; subst hn)) <;> conv => whnf) | (with_reducible exact trivial) | ((with_reducible refine And.intro ?_ ?_) <;> conv => whnf) | (intro gn; conv => whnf))
  all_goals (try simp only [Int.toNat_natCast] at *)
  · refine ⟨⟨(k + 1, owS O k (A, c)), by dsimp only; omega, by dsimp only; omega, (by repeat' (first | exact trivial | refine ⟨rfl, ?_⟩)), ⟨(by first | with_reducible exact CellLe.refl _ | exact CellLe.own | exact CellLe.i (by omega) | exact CellLe.nil | exact CellLe.slNil | exact CellLe.refl _), trivial⟩, ?_⟩⟩
    refine HLe.via [.cust (bundle (psH O vs k)), .row (.slice A (vs.getD k default).ps.length c) 3 1 (vs.getD k default).ps.length (rowF intF (vs.getD k default).ps), .row (.slice (some ⟨gb, 0, none⟩) vs.length vs.length) 25 4 vs.length (part (vxO (owS O k (A, c)) vs) (zF [.int .i64 0, .int .i64 0, .slice none 0 0, .int .i64 0]) (k + 1)), .cust R] (by
      conv => whnf
      refine PP.start ?_; repeat (first | exact PP.nil | refine PP.take (by first | with_reducible exact Hp.Sub.refl _ | exact Hp.Sub.rd (by omega) | exact Hp.Sub.rowA rfl (fun i j hi hj => rfl) | exact Hp.Sub.rowL (by omega) (fun w F i j hi hj => put_row (fun j hj => by rw [part_lt (Nat.lt_succ_self k)]; unfold vxO vxC inV; rw [owS_eq]; rcases (by omega : j = 0 ∨ j = 1 ∨ j = 2 ∨ j = 3) with rfl | rfl | rfl | rfl <;> exact fun _ h => h) (fun hne j hj => LeW.of_eq (by rw [part_next hne]; unfold part; split; exact (vxO_ow hne).symm; rfl)) hj) | exact Hp.Sub.boxA (by (repeat (first | exact all_lt_zero | refine all_lt_succ (p := fun j => CellLe _ _) (by first | with_reducible exact CellLe.refl _ | exact CellLe.own | exact CellLe.i (by omega) | exact CellLe.nil | exact CellLe.slNil | exact CellLe.refl _) ?_))) | exact Hp.Sub.refl _) ?_ | refine PP.skip ?_)) (fun w F hs => ?_)
    have h1 := HSat.push (A := []) hs
    show HSat w F [.cust (bundle (psH (owS O k (A, c)) vs (k + 1))), .row (.slice (some ⟨gb, 0, none⟩) (vs.length : Int).toNat (vs.length : Int).toNat) 25 4 (vs.length : Int).toNat (part (vxO (owS O k (A, c)) vs) (zF [.int .i64 0, .int .i64 0, .slice none 0 0, .int .i64 0]) (k + 1)), .cust R]
    rw [psH_succ, psH_ow]
    unfold prow inV
    rw [owS_eq]
    simpa using h1
  · obtain rfl : k = vs.length := by omega
    exact Fin.news [_, _] (fun _ => 0) (by refine PP.start ?_; repeat (first | exact PP.nil | refine PP.take (by first | with_reducible exact Hp.Sub.refl _ | exact Hp.Sub.rd (by omega) | exact Hp.Sub.rowA (by first | rfl | simp) (fun i j hi hj => part_lt (by omega)) | exact Hp.Sub.boxA (by (repeat (first | exact all_lt_zero | refine all_lt_succ (p := fun j => CellLe _ _) (by first | with_reducible exact CellLe.refl _ | exact CellLe.own | exact CellLe.i (by omega) | exact CellLe.nil | exact CellLe.slNil | exact CellLe.refl _) ?_))) | exact Hp.Sub.refl _) ?_ | refine PP.skip ?_)) ⟨gb, _, O, (by first | rfl | simp), rfl, rfl⟩⟩
/-- the rows with one more at place p -/
def insF (p : Nat) (fs fv : Nat → Nat → SV) : Nat → Nat → SV := fun i => if i < p then fs i else if i = p then fv 0 else fs (i - 1)
theorem insF_end {w : World} {F : Nat → Prop} {n p i j : Nat} {fs fv : Nat → Nat → SV} (hp : p = n) (hi : i < n + 1) : LeW w F (catF n (fun j => fs (0 + j)) fv i j) (insF p fs fv i j) := by
  refine LeW.of_eq ?_
  unfold catF insF
  by_cases h : i < n
  · rw [if_pos h, if_pos (by omega)]
    show fs (0 + i) j = _
    rw [Nat.zero_add]
  · rw [if_neg h, if_neg (by omega), if_pos (by omega), show i - n = 0 by omega]
theorem insF_mid {w : World} {F : Nat → Prop} {n p i j a qa b qb z p' p0 : Nat} {fs fv g0 : Nat → Nat → SV} (ha : a = p) (hqa : qa = 1) (hb : b = p + 1) (hqb : qb = n - p) (hz : z = 0) (hp' : p' = p) (hp0 : p0 = p) (hp : p < n) (hi : i < n + 1) :
    LeW w F (blkF b qb (fun j => fs (p' + j)) (blkF a qa fv (catF p0 (fun j => fs (z + j)) g0)) i j) (insF p fs fv i j) := by
  rw [ha, hqa, hb, hqb, hz, hp', hp0]
  refine LeW.of_eq ?_
  unfold blkF catF insF
  by_cases h : i < p
  · rw [if_neg (by omega), if_neg (by omega), if_pos h, if_pos h]
    show fs (0 + i) j = _
    rw [Nat.zero_add]
  · by_cases h2 : i = p
    · rw [if_neg (by omega), if_pos (by omega), if_neg h, if_pos h2, show i - p = 0 by omega]
    · rw [if_pos (by omega), if_neg h, if_neg h2]
      show fs (p + (i - (p + 1))) j = _
      rw [show p + (i - (p + 1)) = i - 1 by omega]
set_option maxRecDepth 100000 in
theorem insR_c (n p g : Nat) (fs fv : Nat → Nat → SV) (gv : Nat) (hp : p ≤ n) (hl : n ≤ 100000000) (R : Heaplet) :
    SCalls Try.prog 67 [.val (.slice (some ⟨g, 0, none⟩) n n), .i p, .val (.slice (some ⟨gv, 0, none⟩) 1 1)] [.row (.slice (some ⟨g, 0, none⟩) n n) 25 4 n fs, .row (.slice (some ⟨gv, 0, none⟩) 1 1) 25 4 1 fv, .cust R]
      fun r H' => ∃ N, H' = N ++ [.cust R] ∧ ∃ A m c, m = n + 1 ∧ r = .own 0 (.slice A m c) ∧ N = [.row (.slice A m c) 25 4 m (insF p fs fv)] := by
  refine SCalls.enter tt_ok Try.func67 (by kernel_rfl) rfl [(0, .row (.slice (some ⟨g, 0, none⟩) n n) 25 4 n fs), (1, .row (.slice (some ⟨gv, 0, none⟩) 1 1) 25 4 1 fv), (900, .cust R)] rfl (upd (upd (argF [.val (.slice (some ⟨g, 0, none⟩) n n), .i p, .val (.slice (some ⟨gv, 0, none⟩) 1 1)]) 0 (.vw 0 g 4 0 n n)) 2 (.own 1 (.slice (some ⟨gv, 0, none⟩) 1 1))) (fun w F v k h => ?_) (by simp) ?_
  · show Has w F (upd (upd _ 0 _) 2 _ k) v
    unfold upd
    cases e : Nat.beq k 2
    · exact vw_arg (by unfold maxLen; omega) h
    · have := Nat.eq_of_beq_eq_true e
      subst this
      exact h
  by_cases hpn : p = n
  · repeat' (first | (with_reducible first | refine HT.seq ?_ | refine HT.block ?_ | refine Br.not ?_) | ((with_reducible first | refine HT.region tt_ok ?_ | refine HT.drawn tt_ok (by kernel_rfl) (by decide +kernel) ?_ | refine HT.drawnL tt_ok (by kernel_rfl) (by decide +kernel) ?_ | refine HT.cond ?_ | refine HT.ret ?_ | refine HT.skip ?_ | refine HT.exit ?_ | refine Br.tt ?_ | refine Br.ff ?_); conv => whnf) | ((with_reducible first | refine Br.dec (fun hc => ?_) (fun hc => ?_) | refine Br.eq (fun hc => ?_) (fun hc => ?_) | refine Br.ne (fun hc => ?_) (fun hc => ?_)) <;> (first | (exfalso; omega) | conv => whnf)) | ((with_reducible first | refine Br.ttE (by decide) ?_ | refine Br.ffE (by decide) ?_ | refine Br.mk (fun hc => ?_) (fun hc => ?_) | refine Chk.mk (by first | omega | with_reducible rfl | (refine ⟨rfl, ?_⟩; omega) | decide | exact ⟨rfl, by omega, by omega, rfl⟩ | exact ⟨by assumption, rfl, by omega, by omega⟩) ?_ | refine Ar.fit (by omega) ?_ | refine Eqv.shr1 ?_ | refine Ar.u64 (by omega) ?_) <;> conv => whnf) | (with_reducible exact trivial) | ((with_reducible refine And.intro ?_ ?_) <;> conv => whnf) | (intro gn; conv => whnf))
    rename_i gn1
    exact Fin.news [_] (fun _ => 0) (by refine PP.start ?_; repeat (first | exact PP.nil | refine PP.take (by first | with_reducible exact Hp.Sub.refl _ | exact Hp.Sub.rd (by omega) | exact Hp.Sub.rowL rfl (fun w F i j hi hj => insF_end hpn hi) | exact Hp.Sub.boxA (by (repeat (first | exact all_lt_zero | refine all_lt_succ (p := fun j => CellLe _ _) (by first | with_reducible exact CellLe.refl _ | exact CellLe.own | exact CellLe.i (by omega) | exact CellLe.nil | exact CellLe.slNil | exact CellLe.refl _) ?_))) | exact Hp.Sub.refl _) ?_ | refine PP.skip ?_)) ⟨_, _, _, rfl, rfl, rfl⟩
  · repeat' (first | (with_reducible first | refine HT.seq ?_ | refine HT.block ?_ | refine Br.not ?_) | ((with_reducible first | refine HT.region tt_ok ?_ | refine HT.drawn tt_ok (by kernel_rfl) (by decide +kernel) ?_ | refine HT.drawnL tt_ok (by kernel_rfl) (by decide +kernel) ?_ | refine HT.cond ?_ | refine HT.ret ?_ | refine HT.skip ?_ | refine HT.exit ?_ | refine Br.tt ?_ | refine Br.ff ?_); conv => whnf) | ((with_reducible first | refine Br.dec (fun hc => ?_) (fun hc => ?_) | refine Br.eq (fun hc => ?_) (fun hc => ?_) | refine Br.ne (fun hc => ?_) (fun hc => ?_)) <;> (first | (exfalso; omega) | conv => whnf)) | ((with_reducible first | refine Br.ttE (by decide) ?_ | refine Br.ffE (by decide) ?_ | refine Br.mk (fun hc => ?_) (fun hc => ?_) | refine Chk.mk (by first | omega | with_reducible rfl | (refine ⟨rfl, ?_⟩; omega) | decide | exact ⟨rfl, by omega, by omega, rfl⟩ | exact ⟨by assumption, rfl, by omega, by omega⟩) ?_ | refine Ar.fit (by omega) ?_ | refine Eqv.shr1 ?_ | refine Ar.u64 (by omega) ?_) <;> conv => whnf) | (with_reducible exact trivial) | ((with_reducible refine And.intro ?_ ?_) <;> conv => whnf) | (intro gn; conv => whnf))
    all_goals exact Fin.news [_] (fun _ => 0) (by refine PP.start ?_; repeat (first | exact PP.nil | refine PP.take (by first | with_reducible exact Hp.Sub.refl _ | exact Hp.Sub.rd (by omega) | exact Hp.Sub.rowL rfl (fun w F i j hi hj => insF_mid (n := n) (p := p) (by omega) (Nat.min_eq_left (by omega)) (by omega) ((Nat.min_eq_left (by omega)).trans (by omega)) (by omega) (by omega) (by omega) (by omega) (by omega)) | exact Hp.Sub.boxA (by (repeat (first | exact all_lt_zero | refine all_lt_succ (p := fun j => CellLe _ _) (by first | with_reducible exact CellLe.refl _ | exact CellLe.own | exact CellLe.i (by omega) | exact CellLe.nil | exact CellLe.slNil | exact CellLe.refl _) ?_))) | exact Hp.Sub.refl _) ?_ | refine PP.skip ?_)) ⟨_, _, _, (by omega), rfl, rfl⟩
/-- where the inner lists lie, with one more at place p -/
def insO (O : Ow) (p : Nat) (a : Option Addr × Nat) : Ow := fun i => if i < p then O i else if i = p then a else O (i - 1)
theorem insF_vx {w : World} {F : Nat → Prop} {O : Ow} {vs : List Vx} {v : Vx} {p i j : Nat} {A : Option Addr} {c : Nat} {fv : Nat → Nat → SV} (hp : p ≤ vs.length) (hf : ∀ w F j, j < 4 → LeW w F (fv 0 j) (litF [.i v.r, .i v.a, .val (.slice A v.ps.length c), .i v.d] j)) (hi : i < vs.length + 1) (hj : j < 4) :
    LeW w F (insF p (vxO O vs) fv i j) (vxO (insO O p (A, c)) (insAt vs p v) i j) := by
  have hg : vgx (insAt vs p v) i = if i < p then vgx vs i else if i = p then v else vgx vs (i - 1) := insAt_get hp
  unfold insF vxO vxC inV
  rw [hg]
  unfold insO
  by_cases h : i < p
  · rw [if_pos h, if_pos h, if_pos h]; exact fun _ h => h
  · by_cases h2 : i = p
    · rw [if_neg h, if_neg h, if_neg h, if_pos h2, if_pos h2, if_pos h2]; exact hf w F j hj
    · rw [if_neg h, if_neg h, if_neg h, if_neg h2, if_neg h2, if_neg h2]; exact fun _ h => h
theorem psH_ins {O : Ow} {vs : List Vx} {v : Vx} {p : Nat} {A : Option Addr} {c : Nat} (hp : p ≤ vs.length) : (psH O vs vs.length ++ [Hp.row (.slice A v.ps.length c) 3 1 v.ps.length (rowF intF v.ps)]).Perm (psH (insO O p (A, c)) (insAt vs p v) (vs.length + 1)) := by
  have e : psH (insO O p (A, c)) (insAt vs p v) (vs.length + 1) = (psH O vs vs.length).take p ++ Hp.row (.slice A v.ps.length c) 3 1 v.ps.length (rowF intF v.ps) :: (psH O vs vs.length).drop p := by
    apply List.ext_getElem?
    intro i
    have hlen : (psH O vs vs.length).length = vs.length := by simp [psH]
    rw [List.getElem?_append, List.length_take, hlen, Nat.min_eq_left hp]
    have key : ∀ i, i < vs.length + 1 → (psH (insO O p (A, c)) (insAt vs p v) (vs.length + 1))[i]? = some (prow (insO O p (A, c)) (insAt vs p v) i) := fun i hi => psH_get hi
    have hg : vgx (insAt vs p v) i = if i < p then vgx vs i else if i = p then v else vgx vs (i - 1) := insAt_get hp
    by_cases hi : i < vs.length + 1
    · rw [key i hi]
      unfold prow inV
      rw [hg]
      unfold insO
      by_cases h : i < p
      · rw [if_pos h, if_pos h, if_pos h, List.getElem?_take, if_pos h, psH_get (by omega)]; rfl
      · by_cases h2 : i = p
        · rw [if_neg h, if_neg h, if_neg h, if_pos h2, if_pos h2, h2]; simp
        · rw [if_neg h, if_neg h, if_neg h, if_neg h2, if_neg h2, show i - p = (i - p - 1) + 1 by omega, List.getElem?_cons_succ, List.getElem?_drop, show p + (i - p - 1) = i - 1 by omega, psH_get (by omega)]; rfl
    · have h1 : (psH (insO O p (A, c)) (insAt vs p v) (vs.length + 1))[i]? = none := by simp [psH]; omega
      rw [h1, if_neg (by omega), show i - p = (i - p - 1) + 1 by omega, List.getElem?_cons_succ, List.getElem?_drop, show p + (i - p - 1) = i - 1 by omega]
      symm
      simp [psH]
      omega
  rw [e]
  refine (List.perm_append_singleton _ _).trans ?_
  refine List.Perm.trans ?_ List.perm_middle.symm
  rw [List.take_append_drop]
end Go.Proofs.Ytaddgbalnhpllaa
