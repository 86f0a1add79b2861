/- A graph is spoilt. -/
import Derived.Test.YtpmhikdefbcofaaDoorVg
import Derived.Test.YtpmhikdefbcofaaDoorRe
set_option linter.all false
namespace Go.Proofs.YtpmhikdefbcofaaDoor
open Go.RowKit

/-- cells of a vertex in a row are written -/
theorem put_vx {vs : List Vx} {p o m i j : Nat} {fv : Nat → SV} {v : Vx} (hp : p < vs.length) (hv : ∀ j, j < 4 → putF o m fv (vxF (vs.getD p default)) j = vxF v j) (hj : j < 4) : putR p o m fv (rowF vxF vs) i j = rowF vxF (vs.set p v) i j := by
  show _ = vxF ((vs.set p v).getD i default) j
  unfold putR
  by_cases h : i = p
  · subst h
    rw [Nat.beq_refl, cond_true, List.getD_eq_getElem?_getD, List.getElem?_set_self hp]
    exact hv j hj
  · have e : Nat.beq i p = false := by rw [Bool.eq_false_iff]; exact fun hb => h (Nat.eq_of_beq_eq_true hb)
    rw [e, cond_false, List.getD_eq_getElem?_getD, List.getElem?_set_ne (fun e => h e.symm), ← List.getD_eq_getElem?_getD]
    rfl
/-- a vertex with modest numbers -/
def BV (v : Vx) : Prop := (-10 ≤ v.r ∧ v.r ≤ 1000) ∧ (-10 ≤ v.a ∧ v.a ≤ 1000) ∧ v.ps.length ≤ 200 ∧ (-10 ≤ v.d ∧ v.d ≤ 1000)
theorem vxOk_bv {c : List Int} {v : Vx} (hc : cmOk c = true) (h : vxOk c v = true) : BV v := by
  have h1 := vxOk_iff h
  have h2 := (cmOk_iff.1 hc).1
  have h3 := ms_len h1.2.2.1
  exact ⟨by omega, by omega, by omega, by omega⟩
theorem bv_get {vs : List Vx} (h : ∀ v ∈ vs, BV v) {i : Nat} (hi : i < vs.length) : BV (vs.getD i default) := h _ (by rw [show vs.getD i default = vs[i] by simp [hi]]; exact List.getElem_mem _)
theorem bv_set {vs : List Vx} {v : Vx} (h : ∀ v ∈ vs, BV v) (hv : BV v) (i : Nat) : ∀ u ∈ vs.set i v, BV u := fun u hu => by
  rcases List.mem_or_eq_of_mem_set hu with hu | rfl
  · exact h u hu
  · exact hv
theorem bv_app {vs : List Vx} {v : Vx} (h : ∀ v ∈ vs, BV v) (hv : BV v) : ∀ u ∈ vs ++ [v], BV u := fun u hu => by
  rcases List.mem_append.1 hu with hu | hu
  · exact h u hu
  · rw [List.mem_singleton.1 hu]; exact hv
theorem bv_cut {vs : List Vx} (h : ∀ v ∈ vs, BV v) (k : Nat) : ∀ u ∈ vs.take k ++ vs.drop (k + 1), BV u := fun u hu => by
  rcases List.mem_append.1 hu with hu | hu
  · exact h u (List.mem_of_mem_take hu)
  · exact h u (List.mem_of_mem_drop hu)
theorem cut_vx {vs : List Vx} {k q : Nat} {g0 : Nat → Nat → SV} {i j : Nat} (hk : k < vs.length) (hq : q = k + 1) (hi : i < vs.length - 1) : catF (0 + k) (catF 0 g0 (rowF vxF vs)) (fun i => rowF vxF vs (q + i)) i j = rowF vxF (vs.take k ++ vs.drop (k + 1)) i j := by
  subst hq
  unfold catF
  show _ = vxF ((vs.take k ++ vs.drop (k + 1)).getD i default) j
  rw [List.getD_eq_getElem?_getD, List.getElem?_append, List.length_take, Nat.min_eq_left (by omega)]
  by_cases h : i < k
  · rw [if_pos (by omega), if_neg (by omega), if_pos h, List.getElem?_take, if_pos h, ← List.getD_eq_getElem?_getD]
    rfl
  · rw [if_neg (by omega), if_neg h, List.getElem?_drop, ← List.getD_eq_getElem?_getD]
    show vxF (vs.getD (k + 1 + (i - (0 + k))) default) j = _
    rw [show k + 1 + (i - (0 + k)) = k + 1 + (i - k) by omega]
theorem one_vx {vs : List Vx} {v : Vx} {g0 : Nat → Nat → SV} {i j : Nat} (h : g0 0 j = vxF v j) (hi : i < vs.length + 1) : catF vs.length (rowF vxF vs) g0 i j = rowF vxF (vs ++ [v]) i j := by
  unfold catF
  show _ = vxF ((vs ++ [v]).getD i default) j
  by_cases hlt : i < vs.length
  · rw [if_pos hlt, List.getD_eq_getElem?_getD, List.getElem?_append_left hlt, ← List.getD_eq_getElem?_getD]; rfl
  · obtain rfl : i = vs.length := by omega
    rw [if_neg hlt, Nat.sub_self, h]
    simp
/-- a committee and a graph were drawn -/
def DrewCG (d : Int) (g : Nat) (m : Int) (r : SV) (N : List Hp) (p' : Hp) : Prop :=
  N = [] ∧ (∃ c vs, c.length ≤ 11 ∧ vs.length ≤ 99 ∧ (∀ v ∈ vs, BV v) ∧ r = .tup 2 (litF [isl c, vsl vs])) ∧ p' = .cust (rdH g (m + d))
theorem Fin.cg {v : Value} {k n : Nat} {f : Nat → Nat → SV} {c : List Int} {vs : List Vx} {g : Nat} {m : Int} {R : Heaplet} {H : List Hp} {r : SV} (hp : PPick H [.row v 37 4 n f, .cust (rdH g (m + 30500)), .cust R]) (hn : n = vs.length) (hf : ∀ i j, i < n → j < 4 → f i j = rowF vxF vs i j)
    (hr : ∀ w F, LeW w F r (.tup 2 (litF [isl c, .own k v]))) (hc : c.length ≤ 11) (hl : vs.length ≤ 99) (hb : ∀ v ∈ vs, BV v) : Fin r H (fun r H' => ∃ N p', H' = N ++ [p', .cust R] ∧ DrewCG 30500 g m r N p') := by
  subst hn
  refine Fin.frz (r' := .tup 2 (litF [isl c, vsl vs])) [.row v 37 4 vs.length f] [.cust (rdH g (m + 30500)), .cust R] hp (fun w F hz => ?_) ⟨[], _, rfl, rfl, ⟨c, vs, hc, hl, hb, rfl⟩, rfl⟩
  refine ⟨AllW.refl _ _ _, fun x hx => LeW.tup2 (f := litF [isl c, .own k v]) (g := litF [isl c, vsl vs]) (fun _ h => h) (fun u hu => ?_) x (hr w F x hx)⟩
  have e : u = v := hu
  subst e
  exact Has.slL (fun i j hi hj x hx => by rw [hf i j hi hj] at hx; exact hx) hz.1
set_option maxRecDepth 100000 in
set_option maxHeartbeats 4000000 in
theorem l91Spoilt_c (rn : Int) (g : Nat) (m : Int) (hm : m ≤ 100000) (hrn : rn ≤ 14) : SMut Tryd.prog 61 [.val (.pointer (some ⟨g, 0, none⟩)), .i rn] (.cust (rdH g m)) (DrewCG 30500 g m) := ⟨fun R => by
  refine SCalls.enter tt_ok Tryd.func61 (by kernel_rfl) rfl [(0, .cust (rdH g m)), (900, .cust R)] rfl (argF _) (fun w F v k h => h) (by simp) ?_
  repeat' (first | (with_reducible first | refine HT.seq ?_ | refine HT.block ?_ | refine Br.not ?_) | ((with_reducible first | refine HT.region tt_ok ?_ | refine HT.drawn tt_ok (by kernel_rfl) (by decide +kernel) ?_ | refine HT.drawnL tt_ok (by kernel_rfl) (by decide +kernel) ?_ | refine HT.cond ?_ | refine HT.ret ?_ | refine HT.skip ?_ | refine HT.exit ?_ | refine Br.tt ?_ | refine Br.ff ?_); conv => whnf) | ((with_reducible first | refine Br.dec (fun hc => ?_) (fun hc => ?_) | refine Br.eq (fun hc => ?_) (fun hc => ?_) | refine Br.ne (fun hc => ?_) (fun hc => ?_)) <;> (first | (exfalso; omega) | conv => whnf)) | ((with_reducible first | refine Br.ttE (by decide) ?_ | refine Br.ffE (by decide) ?_ | refine Br.mk (fun hc => ?_) (fun hc => ?_) | refine Chk.mk (by first | omega | with_reducible rfl | (refine ⟨rfl, ?_⟩; omega) | decide | exact ⟨rfl, by omega, by omega, rfl⟩ | exact ⟨by assumption, rfl, by omega, by omega⟩) ?_ | refine Ar.fit (by omega) ?_ | refine Eqv.shr1 ?_ | refine Ar.u64 (by omega) ?_) <;> conv => whnf) | ((first | (refine CallN.turn 0 _ _ rfl ((l91Good_c _ _ (by omega)).stillL) ?_; rintro r N p' ⟨rfl, ⟨c, hcm, rfl⟩, rfl⟩; have h7 := (cmOk_iff.1 hcm).1) | (refine CallN.turn 0 _ _ rfl (l91Graph_c c _ _ _ hcm (by omega) (by omega)) ?_; rintro r N p' ⟨vs, A, _, cp, hvs, hvl, rfl, rfl, rfl, rfl⟩) | (refine CallN.turn 0 _ _ rfl (pick_c _ _ vs.length (by omega) (by omega)) ?_; rintro r N p' ⟨⟨kv, hkv0, hkv1, rfl⟩, rfl, rfl⟩)) <;> conv => whnf) | (with_reducible exact trivial) | ((with_reducible refine And.intro ?_ ?_) <;> conv => whnf) | (intro gn; conv => whnf))
  · have hbv : ∀ v ∈ vs, BV v := fun v hv => vxOk_bv hcm (hvs v hv)
    refine Fin.cg (c := c) (vs := vs) (by refine PP.start ?_; repeat (first | exact PP.nil | refine PP.take (by first | with_reducible exact Hp.Sub.refl _ | exact Hp.Sub.rd (by omega) | exact Hp.Sub.boxA (by (repeat (first | exact all_lt_zero | refine all_lt_succ (p := fun j => CellLe _ _) (by first | with_reducible exact CellLe.refl _ | exact CellLe.own | exact CellLe.i (by omega) | exact CellLe.nil | exact CellLe.slNil | exact CellLe.refl _) ?_))) | exact Hp.Sub.refl _) ?_ | refine PP.skip ?_)) rfl (fun _ _ _ _ => rfl) (fun w F => LeW.tup2 (fun _ h => h) (fun _ h => h)) (by omega) (by omega) hbv
  have hbv : ∀ v ∈ vs, BV v := fun v hv => vxOk_bv hcm (hvs v hv)
  have hbk : kv.toNat < vs.length := by omega
  have hb := bv_get hbv hbk
  refine CallN.turn 0 _ _ rfl (pick_c _ _ 20 (by omega) (by omega)) ?_
  rintro r N p' ⟨⟨kw, hkw0, hkw1, rfl⟩, rfl, rfl⟩
  conv => whnf
  by_cases h4 : kw = 4
  · subst h4
    refine HT.frz [.row (.slice A vs.length cp) 37 4 vs.length (rowF vxF vs)] [.cust (rdH g (m + 30 + 30000 + 1 + 1)), .cust R] [(7, vsl vs)] [(0, .cust (rdH g (m + 30 + 30000 + 1 + 1))), (900, .cust R)] (by
      conv => whnf
      refine PP.start ?_; repeat (first | exact PP.nil | refine PP.take (by first | with_reducible exact Hp.Sub.refl _ | exact Hp.Sub.rd (by omega) | exact Hp.Sub.boxA (by (repeat (first | exact all_lt_zero | refine all_lt_succ (p := fun j => CellLe _ _) (by first | with_reducible exact CellLe.refl _ | exact CellLe.own | exact CellLe.i (by omega) | exact CellLe.nil | exact CellLe.slNil | exact CellLe.refl _) ?_))) | exact Hp.Sub.refl _) ?_ | refine PP.skip ?_)) (fun w F hz => ⟨AllW.refl _ _ _, fun x hx => (show x = _ from hx) ▸ hz.1, trivial⟩) ?_
    conv => whnf
    repeat' (first | (with_reducible first | refine HT.seq ?_ | refine HT.block ?_ | refine Br.not ?_) | ((with_reducible first | refine HT.region tt_ok ?_ | refine HT.drawn tt_ok (by kernel_rfl) (by decide +kernel) ?_ | refine HT.drawnL tt_ok (by kernel_rfl) (by decide +kernel) ?_ | refine HT.cond ?_ | refine HT.ret ?_ | refine HT.skip ?_ | refine HT.exit ?_ | refine Br.tt ?_ | refine Br.ff ?_); conv => whnf) | ((with_reducible first | refine Br.dec (fun hc => ?_) (fun hc => ?_) | refine Br.eq (fun hc => ?_) (fun hc => ?_) | refine Br.ne (fun hc => ?_) (fun hc => ?_)) <;> (first | (exfalso; omega) | conv => whnf)) | ((with_reducible first | refine Br.ttE (by decide) ?_ | refine Br.ffE (by decide) ?_ | refine Br.mk (fun hc => ?_) (fun hc => ?_) | refine Chk.mk (by first | omega | with_reducible rfl | (refine ⟨rfl, ?_⟩; omega) | decide | exact ⟨rfl, by omega, by omega, rfl⟩ | exact ⟨by assumption, rfl, by omega, by omega⟩) ?_ | refine Ar.fit (by omega) ?_ | refine Eqv.shr1 ?_ | refine Ar.u64 (by omega) ?_) <;> conv => whnf) | (with_reducible exact trivial) | ((with_reducible refine And.intro ?_ ?_) <;> conv => whnf) | (intro gn; conv => whnf))
    all_goals refine Fin.cg (c := c) (vs := vs.take kv.toNat ++ vs.drop (kv.toNat + 1)) (by refine PP.start ?_; repeat (first | exact PP.nil | refine PP.take (by first | with_reducible exact Hp.Sub.refl _ | exact Hp.Sub.rd (by omega) | exact Hp.Sub.boxA (by (repeat (first | exact all_lt_zero | refine all_lt_succ (p := fun j => CellLe _ _) (by first | with_reducible exact CellLe.refl _ | exact CellLe.own | exact CellLe.i (by omega) | exact CellLe.nil | exact CellLe.slNil | exact CellLe.refl _) ?_))) | exact Hp.Sub.refl _) ?_ | refine PP.skip ?_)) (by simp; omega) (fun i j hi hj => cut_vx hbk (by omega) (by omega)) (fun w F => LeW.tup2 (fun _ h => h) (fun _ h => h)) (by omega) (by simp; omega) (bv_cut hbv _)
  have hl1 : ∀ v, (vs.set kv.toNat v).length ≤ 99 := fun v => by rw [List.length_set]; omega
  repeat' (first | (with_reducible first | refine HT.seq ?_ | refine HT.block ?_ | refine Br.not ?_) | ((with_reducible first | refine HT.region tt_ok ?_ | refine HT.drawn tt_ok (by kernel_rfl) (by decide +kernel) ?_ | refine HT.drawnL tt_ok (by kernel_rfl) (by decide +kernel) ?_ | refine HT.cond ?_ | refine HT.ret ?_ | refine HT.skip ?_ | refine HT.exit ?_ | refine Br.tt ?_ | refine Br.ff ?_); conv => whnf) | ((with_reducible first | refine Br.dec (fun hc => ?_) (fun hc => ?_) | refine Br.eq (fun hc => ?_) (fun hc => ?_) | refine Br.ne (fun hc => ?_) (fun hc => ?_)) <;> (first | (exfalso; omega) | conv => whnf)) | ((with_reducible first | refine Br.ttE (by decide) ?_ | refine Br.ffE (by decide) ?_ | refine Br.mk (fun hc => ?_) (fun hc => ?_) | refine Chk.mk (by first | omega | with_reducible rfl | (refine ⟨rfl, ?_⟩; omega) | decide | exact ⟨rfl, by omega, by omega, rfl⟩ | exact ⟨by assumption, rfl, by omega, by omega⟩) ?_ | refine Ar.fit (by omega) ?_ | refine Eqv.shr1 ?_ | refine Ar.u64 (by omega) ?_) <;> conv => whnf) | ((first | (refine CallN.turn 0 _ _ rfl (l91Digest_c _ _ (by omega)) ?_; rintro r N p' ⟨⟨dd, hdd0, hdd1, rfl⟩, rfl, rfl⟩) | (refine CallN.turn 0 _ _ rfl (pick_c _ _ 33 (by omega) (by omega)) ?_; rintro r N p' ⟨⟨k33, hk330, hk331, rfl⟩, rfl, rfl⟩) | (refine CallN.turn 0 _ _ rfl (pick_c _ _ 9 (by omega) (by omega)) ?_; rintro r N p' ⟨⟨k9, hk90, hk91, rfl⟩, rfl, rfl⟩) | (refine CallN.turn 0 _ _ rfl ((l91Members_c _ _ _ (by omega) (by omega)).stillL) ?_; rintro r N p' ⟨rfl, ⟨ms, hms, rfl⟩, rfl⟩) | (refine CallN.turn 0 _ _ rfl ((l91Committee_c _ _ (by omega)).stillL) ?_; rintro r N p' ⟨rfl, ⟨c2, hc2, rfl⟩, rfl⟩)) <;> conv => whnf) | (with_reducible exact trivial) | ((with_reducible refine And.intro ?_ ?_) <;> conv => whnf) | (intro gn; conv => whnf))
  all_goals first
    | refine Fin.cg (c := c) (vs := vs.set kv.toNat ⟨(vs.getD kv.toNat default).r, (vs.getD kv.toNat default).a, (vs.getD kv.toNat default).ps, dd⟩) (by refine PP.start ?_; repeat (first | exact PP.nil | refine PP.take (by first | with_reducible exact Hp.Sub.refl _ | exact Hp.Sub.rd (by omega) | exact Hp.Sub.boxA (by (repeat (first | exact all_lt_zero | refine all_lt_succ (p := fun j => CellLe _ _) (by first | with_reducible exact CellLe.refl _ | exact CellLe.own | exact CellLe.i (by omega) | exact CellLe.nil | exact CellLe.slNil | exact CellLe.refl _) ?_))) | exact Hp.Sub.refl _) ?_ | refine PP.skip ?_)) (by rw [List.length_set]) (fun i j hi hj => put_vx hbk (fun j hj => by rcases (by omega : j = 0 ∨ j = 1 ∨ j = 2 ∨ j = 3) with rfl | rfl | rfl | rfl <;> rfl) hj) (fun w F => LeW.tup2 (fun _ h => h) (fun _ h => h)) (by omega) (hl1 _) (bv_set hbv (by unfold BV at hb ⊢; dsimp only; omega) _)
    | refine Fin.cg (c := c) (vs := vs.set kv.toNat ⟨k33 - 1, (vs.getD kv.toNat default).a, (vs.getD kv.toNat default).ps, (vs.getD kv.toNat default).d⟩) (by refine PP.start ?_; repeat (first | exact PP.nil | refine PP.take (by first | with_reducible exact Hp.Sub.refl _ | exact Hp.Sub.rd (by omega) | exact Hp.Sub.boxA (by (repeat (first | exact all_lt_zero | refine all_lt_succ (p := fun j => CellLe _ _) (by first | with_reducible exact CellLe.refl _ | exact CellLe.own | exact CellLe.i (by omega) | exact CellLe.nil | exact CellLe.slNil | exact CellLe.refl _) ?_))) | exact Hp.Sub.refl _) ?_ | refine PP.skip ?_)) (by rw [List.length_set]) (fun i j hi hj => put_vx hbk (fun j hj => by rcases (by omega : j = 0 ∨ j = 1 ∨ j = 2 ∨ j = 3) with rfl | rfl | rfl | rfl <;> rfl) hj) (fun w F => LeW.tup2 (fun _ h => h) (fun _ h => h)) (by omega) (hl1 _) (bv_set hbv (by unfold BV at hb ⊢; dsimp only; omega) _)
    | refine Fin.cg (c := c) (vs := vs.set kv.toNat ⟨(vs.getD kv.toNat default).r, k9 - 1, (vs.getD kv.toNat default).ps, (vs.getD kv.toNat default).d⟩) (by refine PP.start ?_; repeat (first | exact PP.nil | refine PP.take (by first | with_reducible exact Hp.Sub.refl _ | exact Hp.Sub.rd (by omega) | exact Hp.Sub.boxA (by (repeat (first | exact all_lt_zero | refine all_lt_succ (p := fun j => CellLe _ _) (by first | with_reducible exact CellLe.refl _ | exact CellLe.own | exact CellLe.i (by omega) | exact CellLe.nil | exact CellLe.slNil | exact CellLe.refl _) ?_))) | exact Hp.Sub.refl _) ?_ | refine PP.skip ?_)) (by rw [List.length_set]) (fun i j hi hj => put_vx hbk (fun j hj => by rcases (by omega : j = 0 ∨ j = 1 ∨ j = 2 ∨ j = 3) with rfl | rfl | rfl | rfl <;> rfl) hj) (fun w F => LeW.tup2 (fun _ h => h) (fun _ h => h)) (by omega) (hl1 _) (bv_set hbv (by unfold BV at hb ⊢; dsimp only; omega) _)
    | refine Fin.cg (c := c) (vs := vs.set kv.toNat ⟨(vs.getD kv.toNat default).r, (vs.getD kv.toNat default).a, ms, (vs.getD kv.toNat default).d⟩) (by refine PP.start ?_; repeat (first | exact PP.nil | refine PP.take (by first | with_reducible exact Hp.Sub.refl _ | exact Hp.Sub.rd (by omega) | exact Hp.Sub.boxA (by (repeat (first | exact all_lt_zero | refine all_lt_succ (p := fun j => CellLe _ _) (by first | with_reducible exact CellLe.refl _ | exact CellLe.own | exact CellLe.i (by omega) | exact CellLe.nil | exact CellLe.slNil | exact CellLe.refl _) ?_))) | exact Hp.Sub.refl _) ?_ | refine PP.skip ?_)) (by rw [List.length_set]) (fun i j hi hj => put_vx hbk (fun j hj => by rcases (by omega : j = 0 ∨ j = 1 ∨ j = 2 ∨ j = 3) with rfl | rfl | rfl | rfl <;> rfl) hj) (fun w F => LeW.tup2 (fun _ h => h) (fun _ h => h)) (by omega) (hl1 _) (bv_set hbv (by unfold BV at hb ⊢; dsimp only; omega) _)
    | refine Fin.cg (c := c) (vs := vs ++ [(vs.getD kv.toNat default)]) (by refine PP.start ?_; repeat (first | exact PP.nil | refine PP.take (by first | with_reducible exact Hp.Sub.refl _ | exact Hp.Sub.rd (by omega) | exact Hp.Sub.boxA (by (repeat (first | exact all_lt_zero | refine all_lt_succ (p := fun j => CellLe _ _) (by first | with_reducible exact CellLe.refl _ | exact CellLe.own | exact CellLe.i (by omega) | exact CellLe.nil | exact CellLe.slNil | exact CellLe.refl _) ?_))) | exact Hp.Sub.refl _) ?_ | refine PP.skip ?_)) (by simp) (fun i j hi hj => one_vx (by rcases (by omega : j = 0 ∨ j = 1 ∨ j = 2 ∨ j = 3) with rfl | rfl | rfl | rfl <;> rfl) hi) (fun w F => LeW.tup2 (fun _ h => h) (fun _ h => h)) (by omega) (by simp; omega) (bv_app hbv hb)
    | refine Fin.cg (c := c2) (vs := vs) (by refine PP.start ?_; repeat (first | exact PP.nil | refine PP.take (by first | with_reducible exact Hp.Sub.refl _ | exact Hp.Sub.rd (by omega) | exact Hp.Sub.boxA (by (repeat (first | exact all_lt_zero | refine all_lt_succ (p := fun j => CellLe _ _) (by first | with_reducible exact CellLe.refl _ | exact CellLe.own | exact CellLe.i (by omega) | exact CellLe.nil | exact CellLe.slNil | exact CellLe.refl _) ?_))) | exact Hp.Sub.refl _) ?_ | refine PP.skip ?_)) rfl (fun i j hi hj => rfl) (fun w F => LeW.tup2 (fun _ h => h) (fun _ h => h)) (by omega) (by omega) hbv
    | refine Fin.cg (c := c) (vs := vs) (by refine PP.start ?_; repeat (first | exact PP.nil | refine PP.take (by first | with_reducible exact Hp.Sub.refl _ | exact Hp.Sub.rd (by omega) | exact Hp.Sub.boxA (by (repeat (first | exact all_lt_zero | refine all_lt_succ (p := fun j => CellLe _ _) (by first | with_reducible exact CellLe.refl _ | exact CellLe.own | exact CellLe.i (by omega) | exact CellLe.nil | exact CellLe.slNil | exact CellLe.refl _) ?_))) | exact Hp.Sub.refl _) ?_ | refine PP.skip ?_)) rfl (fun i j hi hj => rfl) (fun w F => LeW.tup2 (fun _ h => h) (fun _ h => h)) (by omega) (by omega) hbv
  ⟩
end Go.Proofs.YtpmhikdefbcofaaDoor
