/- Vertices copied; a vertex inserted. -/
import Derived.Test.YtaddgbalnhpllaaGi
set_option linter.all false
namespace Go.Proofs.Ytaddgbalnhpllaa
open Go.RowKit

theorem oneI_c (v : Vx) (hl : v.ps.length ≤ 100000000) : SRet Try.prog 68 [vxV v] (· = vxV v) := ⟨fun R => by
  refine SCalls.enter tt_ok Try.func68 (by kernel_rfl) rfl [(900, .cust R)] rfl (argF _) (fun w F v k h => h) (by simp) ?_
  repeat' (first | (with_reducible first | refine HT.seq ?_ | refine HT.block ?_ | refine Br.not ?_) | ((with_reducible first | refine HT.region tt_ok ?_ | refine HT.drawn tt_ok (by kernel_rfl) (by decide +kernel) ?_ | refine HT.drawnL tt_ok (by kernel_rfl) (by decide +kernel) ?_ | refine HT.cond ?_ | refine HT.ret ?_ | refine HT.skip ?_ | refine HT.exit ?_ | refine Br.tt ?_ | refine Br.ff ?_); conv => whnf) | ((with_reducible first | refine Br.dec (fun hc => ?_) (fun hc => ?_) | refine Br.eq (fun hc => ?_) (fun hc => ?_) | refine Br.ne (fun hc => ?_) (fun hc => ?_)) <;> (first | (exfalso; omega) | conv => whnf)) | ((with_reducible first | refine Br.ttE (by decide) ?_ | refine Br.ffE (by decide) ?_ | refine Br.mk (fun hc => ?_) (fun hc => ?_) | refine Chk.mk (by first | omega | with_reducible rfl | (refine ⟨rfl, ?_⟩; omega) | decide | exact ⟨rfl, by omega, by omega, rfl⟩ | exact ⟨by assumption, rfl, by omega, by omega⟩) ?_ | refine Ar.fit (by omega) ?_ | refine Eqv.shr1 ?_ | refine Ar.u64 (by omega) ?_) <;> conv => whnf) | (with_reducible exact trivial) | ((with_reducible refine And.intro ?_ ?_) <;> conv => whnf) | (intro gn; conv => whnf))
  refine Fin.still (r' := vxV v) (e := 3) (sz := 1) (f' := rowF intF v.ps) (n := v.ps.length) (H' := [.cust R]) (by refine PP.start ?_; repeat (first | exact PP.nil | refine PP.take (by first | with_reducible exact Hp.Sub.refl _ | exact Hp.Sub.rd (by omega) | exact Hp.Sub.rowA (by first | rfl | simp) (fun i j hi hj => cat_ints (l := []) hi hj) | exact Hp.Sub.boxA (by (repeat (first | exact all_lt_zero | refine all_lt_succ (p := fun j => CellLe _ _) (by first | with_reducible exact CellLe.refl _ | exact CellLe.own | exact CellLe.i (by omega) | exact CellLe.nil | exact CellLe.slNil | exact CellLe.refl _) ?_))) | exact Hp.Sub.refl _) ?_ | refine PP.skip ?_)) (fun w F x hsl hx => Has.agg (by (repeat (first | exact all_lt_zero | refine all_lt_succ (p := fun k => ∀ v, Has _ _ _ v → Has _ _ _ v) (by (first | exact fun _ h => h | exact (fun u hu => (show u = _ from hu) ▸ hsl))) ?_))) hx) ⟨rfl, rfl⟩⟩
theorem oneS_c (v : Vx) (hl : v.ps.length ≤ 100000000) : SRet Try.prog 79 [vxV v] (· = vxV v) := ⟨fun R => by
  refine SCalls.enter tt_ok Try.func79 (by kernel_rfl) rfl [(900, .cust R)] rfl (argF _) (fun w F v k h => h) (by simp) ?_
  repeat' (first | (with_reducible first | refine HT.seq ?_ | refine HT.block ?_ | refine Br.not ?_) | ((with_reducible first | refine HT.region tt_ok ?_ | refine HT.drawn tt_ok (by kernel_rfl) (by decide +kernel) ?_ | refine HT.drawnL tt_ok (by kernel_rfl) (by decide +kernel) ?_ | refine HT.cond ?_ | refine HT.ret ?_ | refine HT.skip ?_ | refine HT.exit ?_ | refine Br.tt ?_ | refine Br.ff ?_); conv => whnf) | ((with_reducible first | refine Br.dec (fun hc => ?_) (fun hc => ?_) | refine Br.eq (fun hc => ?_) (fun hc => ?_) | refine Br.ne (fun hc => ?_) (fun hc => ?_)) <;> (first | (exfalso; omega) | conv => whnf)) | ((with_reducible first | refine Br.ttE (by decide) ?_ | refine Br.ffE (by decide) ?_ | refine Br.mk (fun hc => ?_) (fun hc => ?_) | refine Chk.mk (by first | omega | with_reducible rfl | (refine ⟨rfl, ?_⟩; omega) | decide | exact ⟨rfl, by omega, by omega, rfl⟩ | exact ⟨by assumption, rfl, by omega, by omega⟩) ?_ | refine Ar.fit (by omega) ?_ | refine Eqv.shr1 ?_ | refine Ar.u64 (by omega) ?_) <;> conv => whnf) | (with_reducible exact trivial) | ((with_reducible refine And.intro ?_ ?_) <;> conv => whnf) | (intro gn; conv => whnf))
  refine Fin.still (r' := vxV v) (e := 3) (sz := 1) (f' := rowF intF v.ps) (n := v.ps.length) (H' := [.cust R]) (by refine PP.start ?_; repeat (first | exact PP.nil | refine PP.take (by first | with_reducible exact Hp.Sub.refl _ | exact Hp.Sub.rd (by omega) | exact Hp.Sub.rowA (by first | rfl | simp) (fun i j hi hj => cat_ints (l := []) hi hj) | exact Hp.Sub.boxA (by (repeat (first | exact all_lt_zero | refine all_lt_succ (p := fun j => CellLe _ _) (by first | with_reducible exact CellLe.refl _ | exact CellLe.own | exact CellLe.i (by omega) | exact CellLe.nil | exact CellLe.slNil | exact CellLe.refl _) ?_))) | exact Hp.Sub.refl _) ?_ | refine PP.skip ?_)) (fun w F x hsl hx => Has.agg (by (repeat (first | exact all_lt_zero | refine all_lt_succ (p := fun k => ∀ v, Has _ _ _ v → Has _ _ _ v) (by (first | exact fun _ h => h | exact (fun u hu => (show u = _ from hu) ▸ hsl))) ?_))) hx) ⟨rfl, rfl⟩⟩
/-- vertices in a row of their own, that has no room for more -/
def MadeV (vs : List Vx) (r : SV) (N : List Hp) : Prop := ∃ g n, n = vs.length ∧ r = .own 0 (.slice (some ⟨g, 0, none⟩) n n) ∧ N = [.row (.slice (some ⟨g, 0, none⟩) n n) 25 4 vs.length (rowF vxF vs)]
theorem cloneVs_o (vs : List Vx) (hl : vs.length ≤ 100000000) (hv : ∀ v ∈ vs, v.ps.length ≤ 100000000) : SNew Try.prog 64 [vsl vs] (MadeV vs) := ⟨fun R => by
  refine SCalls.enter tt_ok Try.func64 (by kernel_rfl) rfl [(900, .cust R)] rfl (argF _) (fun w F v k h => h) (by simp) ?_
  repeat' (first | (with_reducible first | refine HT.seq ?_ | refine HT.block ?_ | refine Br.not ?_) | ((with_reducible first | refine HT.region tt_ok ?_ | refine HT.drawn tt_ok (by kernel_rfl) (by decide +kernel) ?_ | refine HT.drawnL tt_ok (by kernel_rfl) (by decide +kernel) ?_ | refine HT.cond ?_ | refine HT.ret ?_ | refine HT.skip ?_ | refine HT.exit ?_ | refine Br.tt ?_ | refine Br.ff ?_); conv => whnf) | ((with_reducible first | refine Br.dec (fun hc => ?_) (fun hc => ?_) | refine Br.eq (fun hc => ?_) (fun hc => ?_) | refine Br.ne (fun hc => ?_) (fun hc => ?_)) <;> (first | (exfalso; omega) | conv => whnf)) | ((with_reducible first | refine Br.ttE (by decide) ?_ | refine Br.ffE (by decide) ?_ | refine Br.mk (fun hc => ?_) (fun hc => ?_) | refine Chk.mk (by first | omega | with_reducible rfl | (refine ⟨rfl, ?_⟩; omega) | decide | exact ⟨rfl, by omega, by omega, rfl⟩ | exact ⟨by assumption, rfl, by omega, by omega⟩) ?_ | refine Ar.fit (by omega) ?_ | refine Eqv.shr1 ?_ | refine Ar.u64 (by omega) ?_) <;> conv => whnf) | (with_reducible exact trivial) | ((with_reducible refine And.intro ?_ ?_) <;> conv => whnf) | (intro gn; conv => whnf))
  revert gn; intro gb
  refine HT.loopC [0, 2, 3, 9, 10] (fun k : Nat => [(11, .i k)]) (fun k : Nat => [(100, .cells (part (rowF vxF vs) (zF [.int .i64 0, .int .i64 0, .slice none 0 0, .int .i64 0]) k))]) (fun k : Nat => k ≤ vs.length) (fun k : Nat => vs.length - k) 0 (Nat.zero_le _) ⟨(by first | with_reducible exact CellLe.refl _ | exact CellLe.own | exact CellLe.i (by omega) | exact CellLe.nil | exact CellLe.slNil | exact CellLe.refl _), trivial⟩ ?_ ?_
  · conv => whnf
    refine PP.start ?_; repeat (first | exact PP.nil | refine PP.take (by first | with_reducible exact Hp.Sub.refl _ | exact Hp.Sub.rd (by omega) | exact Hp.Sub.rowL rfl (fun w F i j hi hj => LeW.of_eq (part_ge (Nat.zero_le _)).symm) | exact Hp.Sub.boxA (by (repeat (first | exact all_lt_zero | refine all_lt_succ (p := fun j => CellLe _ _) (by first | with_reducible exact CellLe.refl _ | exact CellLe.own | exact CellLe.i (by omega) | exact CellLe.nil | exact CellLe.slNil | exact CellLe.refl _) ?_))) | exact Hp.Sub.refl _) ?_ | refine PP.skip ?_)
  conv => whnf
  intro k hk
  have hvk : k < vs.length → (vs.getD k default).ps.length ≤ 100000000 := fun h => hv _ (by rw [show vs.getD k default = vs[k] by simp [h]]; exact List.getElem_mem _)
  conv => whnf
  repeat' (first | (with_reducible first | refine HT.seq ?_ | refine HT.block ?_ | refine Br.not ?_) | ((with_reducible first | refine HT.region tt_ok ?_ | refine HT.drawn tt_ok (by kernel_rfl) (by decide +kernel) ?_ | refine HT.drawnL tt_ok (by kernel_rfl) (by decide +kernel) ?_ | refine HT.cond ?_ | refine HT.ret ?_ | refine HT.skip ?_ | refine HT.exit ?_ | refine Br.tt ?_ | refine Br.ff ?_); conv => whnf) | ((with_reducible first | refine Br.dec (fun hc => ?_) (fun hc => ?_) | refine Br.eq (fun hc => ?_) (fun hc => ?_) | refine Br.ne (fun hc => ?_) (fun hc => ?_)) <;> (first | (exfalso; omega) | conv => whnf)) | ((with_reducible first | refine Br.ttE (by decide) ?_ | refine Br.ffE (by decide) ?_ | refine Br.mk (fun hc => ?_) (fun hc => ?_) | refine Chk.mk (by first | omega | with_reducible rfl | (refine ⟨rfl, ?_⟩; omega) | decide | exact ⟨rfl, by omega, by omega, rfl⟩ | exact ⟨by assumption, rfl, by omega, by omega⟩) ?_ | refine Ar.fit (by omega) ?_ | refine Eqv.shr1 ?_ | refine Ar.u64 (by omega) ?_) <;> conv => whnf) | ((first | (refine CallN.ret1 (oneI_c (vs.getD k default) (hvk (by omega))) ?_)) <;> conv => whnf) | (with_reducible exact trivial) | ((with_reducible refine And.intro ?_ ?_) <;> conv => whnf) | (intro gn; conv => whnf))
  all_goals (try simp only [Int.toNat_natCast] at *)
  · exact ⟨⟨k + 1, by omega, by omega, (by repeat' (first | exact trivial | refine ⟨rfl, ?_⟩)), ⟨(by first | with_reducible exact CellLe.refl _ | exact CellLe.own | exact CellLe.i (by omega) | exact CellLe.nil | exact CellLe.slNil | exact CellLe.refl _), trivial⟩, HLe.pk (by
      conv => whnf
      refine PP.start ?_; repeat (first | exact PP.nil | refine PP.take (by first | with_reducible exact Hp.Sub.refl _ | exact Hp.Sub.rd (by omega) | exact Hp.Sub.rowL rfl (fun w F i j hi hj => put_row (fun j hj => by rw [part_lt (Nat.lt_succ_self k)]; rcases (by omega : j = 0 ∨ j = 1 ∨ j = 2 ∨ j = 3) with rfl | rfl | rfl | rfl <;> exact fun _ h => h) (fun hne j hj => LeW.of_eq (part_next hne)) hj) | exact Hp.Sub.boxA (by (repeat (first | exact all_lt_zero | refine all_lt_succ (p := fun j => CellLe _ _) (by first | with_reducible exact CellLe.refl _ | exact CellLe.own | exact CellLe.i (by omega) | exact CellLe.nil | exact CellLe.slNil | exact CellLe.refl _) ?_))) | exact Hp.Sub.refl _) ?_ | refine PP.skip ?_))⟩⟩
  · obtain rfl : k = vs.length := by omega
    exact Fin.news [_] (fun _ => 0) (by refine PP.start ?_; repeat (first | exact PP.nil | refine PP.take (by first | with_reducible exact Hp.Sub.refl _ | exact Hp.Sub.rd (by omega) | exact Hp.Sub.rowA (by first | rfl | simp) (fun i j hi hj => part_lt (by omega)) | exact Hp.Sub.boxA (by (repeat (first | exact all_lt_zero | refine all_lt_succ (p := fun j => CellLe _ _) (by first | with_reducible exact CellLe.refl _ | exact CellLe.own | exact CellLe.i (by omega) | exact CellLe.nil | exact CellLe.slNil | exact CellLe.refl _) ?_))) | exact Hp.Sub.refl _) ?_ | refine PP.skip ?_)) ⟨gb, _, rfl, rfl, rfl⟩⟩
/-- the vertices with one more at place p -/
def insAt (vs : List Vx) (p : Nat) (v : Vx) : List Vx := vs.take p ++ v :: vs.drop p
theorem insAt_len {vs : List Vx} {p : Nat} {v : Vx} (h : p ≤ vs.length) : (insAt vs p v).length = vs.length + 1 := by
  unfold insAt; simp; omega
theorem insAt_get {vs : List Vx} {p i : Nat} {v : Vx} (h : p ≤ vs.length) : vg (insAt vs p v) i = if i < p then vg vs i else if i = p then v else vg vs (i - 1) := by
  unfold insAt vg
  rw [List.getD_eq_getElem?_getD, List.getElem?_append, List.length_take, Nat.min_eq_left h]
  by_cases h1 : i < p
  · rw [if_pos h1, if_pos h1, List.getElem?_take, if_pos h1, ← List.getD_eq_getElem?_getD]
  · rw [if_neg h1, if_neg h1]
    by_cases h2 : i = p
    · subst h2; simp
    · rw [if_neg h2, show i - p = (i - p - 1) + 1 by omega, List.getElem?_cons_succ, List.getElem?_drop, show p + (i - p - 1) = i - 1 by omega, ← List.getD_eq_getElem?_getD]
theorem vw_arg {g n : Nat} {l : List SV} {w : World} {F : Nat → Prop} {v : Value} {k : Nat} (hn : n ≤ maxLen) (h : Has w F ((SV.val (.slice (some ⟨g, 0, none⟩) n n) :: l).getD k (.val undef)) v) : Has w F (upd (argF (SV.val (.slice (some ⟨g, 0, none⟩) n n) :: l)) 0 (.vw 0 g 4 0 n n) k) v := by
  unfold upd
  cases e : Nat.beq k 0
  · exact h
  · have := Nat.eq_of_beq_eq_true e
    subst this
    exact ⟨Nat.le_refl _, hn, _, h, fun _ => by rw [Nat.zero_mul]⟩
theorem ins_end {w : World} {F : Nat → Prop} {vs : List Vx} {v : Vx} {p i j : Nat} {fv : Nat → Nat → SV} (hf : ∀ j, j < 4 → fv 0 j = vxF v j) (hp : p = vs.length) (hi : i < vs.length + 1) (hj : j < 4) : LeW w F (catF vs.length (fun j => rowF vxF vs (0 + j)) fv i j) (rowF vxF (insAt vs p v) i j) := by
  refine LeW.of_eq ?_
  show _ = vxF (vg (insAt vs p v) i) j
  rw [insAt_get (by omega)]
  unfold catF
  by_cases h : i < vs.length
  · rw [if_pos h, if_pos (by omega)]; show vxF (vs.getD (0 + i) default) j = _; rw [Nat.zero_add]
  · rw [if_neg h, if_neg (by omega), if_pos (by omega), show i - vs.length = 0 by omega]; exact hf j hj
theorem ins_mid {w : World} {F : Nat → Prop} {vs : List Vx} {v : Vx} {p i j a qa b qb z p' p0 : Nat} {fv g0 : Nat → Nat → SV} (ha : a = p) (hqa : qa = 1) (hb : b = p + 1) (hqb : qb = vs.length - p) (hz : z = 0) (hp' : p' = p) (hp0 : p0 = p) (hf : ∀ j, j < 4 → fv 0 j = vxF v j) (hp : p < vs.length) (hi : i < vs.length + 1) (hj : j < 4) :
    LeW w F (blkF b qb (fun j => rowF vxF vs (p' + j)) (blkF a qa fv (catF p0 (fun j => rowF vxF vs (z + j)) g0)) i j) (rowF vxF (insAt vs p v) i j) := by
  rw [ha, hqa, hb, hqb, hz, hp', hp0]
  refine LeW.of_eq ?_
  show _ = vxF (vg (insAt vs p v) i) j
  rw [insAt_get (by omega)]
  unfold blkF catF
  by_cases h : i < p
  · rw [if_neg (by omega), if_neg (by omega), if_pos h, if_pos h]
    show vxF (vs.getD (0 + i) default) j = _
    rw [Nat.zero_add]
  · by_cases h2 : i = p
    · rw [if_neg (by omega), if_pos (by omega), if_neg h, if_pos h2, show i - p = 0 by omega]
      exact hf j hj
    · rw [if_pos (by omega), if_neg h, if_neg h2]
      show vxF (vs.getD (p + (i - (p + 1))) default) j = _
      rw [show p + (i - (p + 1)) = i - 1 by omega]
set_option maxRecDepth 100000 in
theorem insV_c (vs : List Vx) (v : Vx) (p g : Nat) (fv : Nat → Nat → SV) (gv : Nat) (hp : p ≤ vs.length) (hl : vs.length ≤ 100000000) (hf : ∀ j, j < 4 → fv 0 j = vxF v j) (R : Heaplet) :
    SCalls Try.prog 67 [.val (.slice (some ⟨g, 0, none⟩) vs.length vs.length), .i p, .val (.slice (some ⟨gv, 0, none⟩) 1 1)] [.row (.slice (some ⟨g, 0, none⟩) vs.length vs.length) 25 4 vs.length (rowF vxF vs), .row (.slice (some ⟨gv, 0, none⟩) 1 1) 25 4 1 fv, .cust R]
      fun r H' => ∃ N, H' = N ++ [.cust R] ∧ ∃ A n c, n = vs.length + 1 ∧ r = .own 0 (.slice A n c) ∧ N = [.row (.slice A n c) 25 4 n (rowF vxF (insAt vs p v))] := by
  refine SCalls.enter tt_ok Try.func67 (by kernel_rfl) rfl [(0, .row (.slice (some ⟨g, 0, none⟩) vs.length vs.length) 25 4 vs.length (rowF vxF vs)), (1, .row (.slice (some ⟨gv, 0, none⟩) 1 1) 25 4 1 fv), (900, .cust R)] rfl (upd (upd (argF [.val (.slice (some ⟨g, 0, none⟩) vs.length vs.length), .i p, .val (.slice (some ⟨gv, 0, none⟩) 1 1)]) 0 (.vw 0 g 4 0 vs.length vs.length)) 2 (.own 1 (.slice (some ⟨gv, 0, none⟩) 1 1))) (fun w F v k h => ?_) (by simp) ?_
  · show Has w F (upd (upd _ 0 _) 2 _ k) v
    unfold upd
    cases e : Nat.beq k 2
    · exact vw_arg (by unfold maxLen; omega) h
    · have := Nat.eq_of_beq_eq_true e
      subst this
      exact h
  by_cases hpn : p = vs.length
  · repeat' (first | (with_reducible first | refine HT.seq ?_ | refine HT.block ?_ | refine Br.not ?_) | ((with_reducible first | refine HT.region tt_ok ?_ | refine HT.drawn tt_ok (by kernel_rfl) (by decide +kernel) ?_ | refine HT.drawnL tt_ok (by kernel_rfl) (by decide +kernel) ?_ | refine HT.cond ?_ | refine HT.ret ?_ | refine HT.skip ?_ | refine HT.exit ?_ | refine Br.tt ?_ | refine Br.ff ?_); conv => whnf) | ((with_reducible first | refine Br.dec (fun hc => ?_) (fun hc => ?_) | refine Br.eq (fun hc => ?_) (fun hc => ?_) | refine Br.ne (fun hc => ?_) (fun hc => ?_)) <;> (first | (exfalso; omega) | conv => whnf)) | ((with_reducible first | refine Br.ttE (by decide) ?_ | refine Br.ffE (by decide) ?_ | refine Br.mk (fun hc => ?_) (fun hc => ?_) | refine Chk.mk (by first | omega | with_reducible rfl | (refine ⟨rfl, ?_⟩; omega) | decide | exact ⟨rfl, by omega, by omega, rfl⟩ | exact ⟨by assumption, rfl, by omega, by omega⟩) ?_ | refine Ar.fit (by omega) ?_ | refine Eqv.shr1 ?_ | refine Ar.u64 (by omega) ?_) <;> conv => whnf) | (with_reducible exact trivial) | ((with_reducible refine And.intro ?_ ?_) <;> conv => whnf) | (intro gn; conv => whnf))
    rename_i gn1
    exact Fin.news [_] (fun _ => 0) (by refine PP.start ?_; repeat (first | exact PP.nil | refine PP.take (by first | with_reducible exact Hp.Sub.refl _ | exact Hp.Sub.rd (by omega) | exact Hp.Sub.rowL rfl (fun w F i j hi hj => ins_end hf hpn hi hj) | exact Hp.Sub.boxA (by (repeat (first | exact all_lt_zero | refine all_lt_succ (p := fun j => CellLe _ _) (by first | with_reducible exact CellLe.refl _ | exact CellLe.own | exact CellLe.i (by omega) | exact CellLe.nil | exact CellLe.slNil | exact CellLe.refl _) ?_))) | exact Hp.Sub.refl _) ?_ | refine PP.skip ?_)) ⟨_, _, _, rfl, rfl, rfl⟩
  · repeat' (first | (with_reducible first | refine HT.seq ?_ | refine HT.block ?_ | refine Br.not ?_) | ((with_reducible first | refine HT.region tt_ok ?_ | refine HT.drawn tt_ok (by kernel_rfl) (by decide +kernel) ?_ | refine HT.drawnL tt_ok (by kernel_rfl) (by decide +kernel) ?_ | refine HT.cond ?_ | refine HT.ret ?_ | refine HT.skip ?_ | refine HT.exit ?_ | refine Br.tt ?_ | refine Br.ff ?_); conv => whnf) | ((with_reducible first | refine Br.dec (fun hc => ?_) (fun hc => ?_) | refine Br.eq (fun hc => ?_) (fun hc => ?_) | refine Br.ne (fun hc => ?_) (fun hc => ?_)) <;> (first | (exfalso; omega) | conv => whnf)) | ((with_reducible first | refine Br.ttE (by decide) ?_ | refine Br.ffE (by decide) ?_ | refine Br.mk (fun hc => ?_) (fun hc => ?_) | refine Chk.mk (by first | omega | with_reducible rfl | (refine ⟨rfl, ?_⟩; omega) | decide | exact ⟨rfl, by omega, by omega, rfl⟩ | exact ⟨by assumption, rfl, by omega, by omega⟩) ?_ | refine Ar.fit (by omega) ?_ | refine Eqv.shr1 ?_ | refine Ar.u64 (by omega) ?_) <;> conv => whnf) | (with_reducible exact trivial) | ((with_reducible refine And.intro ?_ ?_) <;> conv => whnf) | (intro gn; conv => whnf))
    all_goals exact Fin.news [_] (fun _ => 0) (by refine PP.start ?_; repeat (first | exact PP.nil | refine PP.take (by first | with_reducible exact Hp.Sub.refl _ | exact Hp.Sub.rd (by omega) | exact Hp.Sub.rowL rfl (fun w F i j hi hj => ins_mid (p := p) (by omega) (Nat.min_eq_left (by omega)) (by omega) ((Nat.min_eq_left (by omega)).trans (by omega)) (by omega) (by omega) (by omega) hf (by omega) (by omega) hj) | exact Hp.Sub.boxA (by (repeat (first | exact all_lt_zero | refine all_lt_succ (p := fun j => CellLe _ _) (by first | with_reducible exact CellLe.refl _ | exact CellLe.own | exact CellLe.i (by omega) | exact CellLe.nil | exact CellLe.slNil | exact CellLe.refl _) ?_))) | exact Hp.Sub.refl _) ?_ | refine PP.skip ?_)) ⟨_, _, _, (by omega), rfl, rfl⟩
end Go.Proofs.Ytaddgbalnhpllaa
