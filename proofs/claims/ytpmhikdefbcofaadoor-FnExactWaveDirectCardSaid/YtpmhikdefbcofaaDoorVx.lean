/- Vertices: what the drawing of graphs calls. -/
import Derived.Test.YtpmhikdefbcofaaDoorRe
set_option linter.all false
namespace Go.Proofs.YtpmhikdefbcofaaDoor
open Go.RowKit

/-- a list of ints that a call makes stands still at once -/
theorem CallN.stillB {P : Program} {f : FuncId} {ss : List SV} {L : Hpl} {nx : Nat} {K : KK} {ss' : List SV} {Q : List Int → Prop} {e : TypeId} (h : SNew P f ss' (MadeL Q e)) (hl : LendsL L ss ss') (k : ∀ l, Q l → K ((isl l).lift nx) L (nx + 10)) : CallN P f ss L nx K :=
  .newF ss' _ (fun r => ∃ l, Q l ∧ r = isl l) h (fun w F vs hs hv => hl.has hs hv) (fun r N h => h.free) (fun r N ⟨l, A, n, c, hP, _, hr, hN⟩ => by
    subst hr hN
    exact ⟨_, ⟨l, hP, rfl⟩, fun H => Ent.row fun w F x hv hx => by have e : x = _ := hx; subst e; exact hv⟩) fun r ⟨l, hP, e⟩ => e ▸ k l hP

/-- a row stands still from here on; what names it is told anew -/
theorem HLe.frz {L L' : Hpl} {H1 : List Hp} {v : Value} {e : TypeId} {sz n : Nat} {f : Nat → Nat → SV} (hp : PPick (L.map Prod.snd) (.row v e sz n f :: H1)) (h : ∀ w F, Has w F (.sl sz n f) v → AllW w F H1 (L'.map Prod.snd)) : HLe L L' := fun w F hs => by
  have h0 := hp.sat hs
  refine ⟨_, fun _ => .inl, (h w _ (row_sl (h0.holds _ List.mem_cons_self) (fun b => .inl) fun b hb => .inr hb)).sat h0.freeze⟩

/-- a vertex -/
structure Vx where
  r : Int
  a : Int
  ps : List Int
  d : Int
instance : Inhabited Vx := ⟨⟨0, 0, [], 0⟩⟩
def vxF (v : Vx) : Nat → SV := litF [.i v.r, .i v.a, isl v.ps, .i v.d]
abbrev vxV (v : Vx) : SV := .agg 4 (vxF v)
abbrev vsl (g : List Vx) : SV := .sl 4 g.length (rowF vxF g)
/-- the authors in a round, among the first k -/
def auths (g : List Vx) (n : Int) : Nat → List Int
  | 0 => []
  | k + 1 => if (g.getD k default).r = n then auths g n k ++ [(g.getD k default).a] else auths g n k
theorem auths1 {g : List Vx} {n : Int} {k : Nat} (h : (g.getD k default).r = n) : auths g n (k + 1) = auths g n k ++ [(g.getD k default).a] := if_pos h
theorem auths0 {g : List Vx} {n : Int} {k : Nat} (h : ¬ (g.getD k default).r = n) : auths g n (k + 1) = auths g n k := if_neg h
theorem auths_len {g : List Vx} {n : Int} : ∀ {k : Nat}, (auths g n k).length ≤ k
  | 0 => Nat.le_refl _
  | k + 1 => by
    have := auths_len (g := g) (n := n) (k := k)
    unfold auths
    split
    · rw [List.length_append]; simp; omega
    · omega
set_option maxRecDepth 100000 in
theorem l11Authors_o (g : List Vx) (n : Int) (hg : g.length ≤ 1000000) : SNew Tryd.prog 96 [vsl g, .i n] (MadeL (fun l => l = auths g n g.length) 3) := ⟨fun R => by
  refine SCalls.enter tt_ok Tryd.func96 (by kernel_rfl) rfl [(900, .cust R)] rfl (argF _) (fun w F v k h => h) (by simp) ?_
  repeat' (first | (with_reducible first | refine HT.seq ?_ | refine HT.block ?_ | refine Br.not ?_) | ((with_reducible first | refine HT.region tt_ok ?_ | refine HT.drawn tt_ok (by kernel_rfl) (by decide +kernel) ?_ | refine HT.drawnL tt_ok (by kernel_rfl) (by decide +kernel) ?_ | refine HT.cond ?_ | refine HT.ret ?_ | refine HT.skip ?_ | refine HT.exit ?_ | refine Br.tt ?_ | refine Br.ff ?_); conv => whnf) | ((with_reducible first | refine Br.dec (fun hc => ?_) (fun hc => ?_) | refine Br.eq (fun hc => ?_) (fun hc => ?_) | refine Br.ne (fun hc => ?_) (fun hc => ?_)) <;> (first | (exfalso; omega) | conv => whnf)) | ((with_reducible first | refine Br.ttE (by decide) ?_ | refine Br.ffE (by decide) ?_ | refine Br.mk (fun hc => ?_) (fun hc => ?_) | refine Chk.mk (by first | omega | with_reducible rfl | (refine ⟨rfl, ?_⟩; omega) | decide | exact ⟨rfl, by omega, by omega, rfl⟩ | exact ⟨by assumption, rfl, by omega, by omega⟩) ?_ | refine Ar.fit (by omega) ?_ | refine Eqv.shr1 ?_ | refine Ar.u64 (by omega) ?_) <;> conv => whnf) | (with_reducible exact trivial) | ((with_reducible refine And.intro ?_ ?_) <;> conv => whnf) | (intro gn; conv => whnf))
  refine HT.loopC [0, 1, 4] (fun x : Nat × Option Addr × Nat × Nat => [(5, .own 100 (.slice x.2.1 x.2.2.1 x.2.2.2)), (6, .i x.1)]) (fun x : Nat × Option Addr × Nat × Nat => [(100, .row (.slice x.2.1 x.2.2.1 x.2.2.2) (auths g n x.1).length (rowF intF (auths g n x.1)))]) (fun x : Nat × Option Addr × Nat × Nat => x.1 ≤ g.length ∧ x.2.2.1 = (auths g n x.1).length) (fun x : Nat × Option Addr × Nat × Nat => g.length - x.1) (0, some ⟨gn, 0, none⟩, 0, 0) ⟨Nat.zero_le _, rfl⟩ ⟨(by first | with_reducible exact CellLe.refl _ | exact CellLe.own | exact CellLe.i (by omega) | exact CellLe.nil | exact CellLe.slNil | exact CellLe.refl _), (by first | with_reducible exact CellLe.refl _ | exact CellLe.own | exact CellLe.i (by omega) | exact CellLe.nil | exact CellLe.slNil | exact CellLe.refl _), trivial⟩ ?_ ?_
  · conv => whnf
    refine PP.start ?_; repeat (first | exact PP.nil | refine PP.take (by first | with_reducible exact Hp.Sub.refl _ | exact Hp.Sub.rd (by omega) | exact Hp.Sub.boxA (by (repeat (first | exact all_lt_zero | refine all_lt_succ (p := fun j => CellLe _ _) (by first | with_reducible exact CellLe.refl _ | exact CellLe.own | exact CellLe.i (by omega) | exact CellLe.nil | exact CellLe.slNil | exact CellLe.refl _) ?_))) | exact Hp.Sub.refl _) ?_ | refine PP.skip ?_)
  conv => whnf
  rintro ⟨k, A, q, cp⟩ ⟨hk, hq⟩
  dsimp only at hk hq ⊢
  have hcl := auths_len (g := g) (n := n) (k := k)
  conv => whnf
  repeat' (first | (with_reducible first | refine HT.seq ?_ | refine HT.block ?_ | refine Br.not ?_) | ((with_reducible first | refine HT.region tt_ok ?_ | refine HT.drawn tt_ok (by kernel_rfl) (by decide +kernel) ?_ | refine HT.drawnL tt_ok (by kernel_rfl) (by decide +kernel) ?_ | refine HT.cond ?_ | refine HT.ret ?_ | refine HT.skip ?_ | refine HT.exit ?_ | refine Br.tt ?_ | refine Br.ff ?_); conv => whnf) | ((with_reducible first | refine Br.dec (fun hc => ?_) (fun hc => ?_) | refine Br.eq (fun hc => ?_) (fun hc => ?_) | refine Br.ne (fun hc => ?_) (fun hc => ?_)) <;> (first | (exfalso; omega) | conv => whnf)) | ((with_reducible first | refine Br.ttE (by decide) ?_ | refine Br.ffE (by decide) ?_ | refine Br.mk (fun hc => ?_) (fun hc => ?_) | refine Chk.mk (by first | omega | with_reducible rfl | (refine ⟨rfl, ?_⟩; omega) | decide | exact ⟨rfl, by omega, by omega, rfl⟩ | exact ⟨by assumption, rfl, by omega, by omega⟩) ?_ | refine Ar.fit (by omega) ?_ | refine Eqv.shr1 ?_ | refine Ar.u64 (by omega) ?_) <;> conv => whnf) | (with_reducible exact trivial) | ((with_reducible refine And.intro ?_ ?_) <;> conv => whnf) | (intro gn; conv => whnf))
  all_goals (try simp only [Int.toNat_natCast] at *)
  · rename_i A2
    have e := auths1 hc
    exact ⟨⟨(k + 1, A2, (auths g n k).length + 1, gn), ⟨by dsimp only; omega, by dsimp only; rw [e, List.length_append]; rfl⟩, by dsimp only; omega, (by repeat' (first | exact trivial | refine ⟨rfl, ?_⟩)), ⟨(by first | with_reducible exact CellLe.refl _ | exact CellLe.own | exact CellLe.i (by omega) | exact CellLe.nil | exact CellLe.slNil | exact CellLe.refl _), (by first | with_reducible exact CellLe.refl _ | exact CellLe.own | exact CellLe.i (by omega) | exact CellLe.nil | exact CellLe.slNil | exact CellLe.refl _), trivial⟩, HLe.pk (by
      conv => whnf
      refine PP.start ?_; repeat (first | exact PP.nil | refine PP.take (by first | with_reducible exact Hp.Sub.refl _ | exact Hp.Sub.rd (by omega) | exact Hp.Sub.rowA (by rw [e, List.length_append]; rfl) (fun i j hi hj => by rw [e]; exact cat_int hi rfl hj) | exact Hp.Sub.boxA (by (repeat (first | exact all_lt_zero | refine all_lt_succ (p := fun j => CellLe _ _) (by first | with_reducible exact CellLe.refl _ | exact CellLe.own | exact CellLe.i (by omega) | exact CellLe.nil | exact CellLe.slNil | exact CellLe.refl _) ?_))) | exact Hp.Sub.refl _) ?_ | refine PP.skip ?_))⟩⟩
  · have e := auths0 hc
    exact ⟨⟨(k + 1, A, q, cp), ⟨by dsimp only; omega, by dsimp only; rw [e]; exact hq⟩, by dsimp only; omega, (by repeat' (first | exact trivial | refine ⟨rfl, ?_⟩)), ⟨(by first | with_reducible exact CellLe.refl _ | exact CellLe.own | exact CellLe.i (by omega) | exact CellLe.nil | exact CellLe.slNil | exact CellLe.refl _), (by first | with_reducible exact CellLe.refl _ | exact CellLe.own | exact CellLe.i (by omega) | exact CellLe.nil | exact CellLe.slNil | exact CellLe.refl _), trivial⟩, HLe.pk (by
      conv => whnf
      refine PP.start ?_; repeat (first | exact PP.nil | refine PP.take (by first | with_reducible exact Hp.Sub.refl _ | exact Hp.Sub.rd (by omega) | exact Hp.Sub.rowA (by rw [e]) (fun i j hi hj => by rw [e]) | exact Hp.Sub.boxA (by (repeat (first | exact all_lt_zero | refine all_lt_succ (p := fun j => CellLe _ _) (by first | with_reducible exact CellLe.refl _ | exact CellLe.own | exact CellLe.i (by omega) | exact CellLe.nil | exact CellLe.slNil | exact CellLe.refl _) ?_))) | exact Hp.Sub.refl _) ?_ | refine PP.skip ?_))⟩⟩
  · obtain rfl : k = g.length := by omega
    exact Fin.news [_] (fun _ => 0) (by refine PP.start ?_; repeat (first | exact PP.nil | refine PP.take (by first | with_reducible exact Hp.Sub.refl _ | exact Hp.Sub.rd (by omega) | exact Hp.Sub.rowA (by first | rfl | simp) (fun i j hi hj => rfl) | exact Hp.Sub.boxA (by (repeat (first | exact all_lt_zero | refine all_lt_succ (p := fun j => CellLe _ _) (by first | with_reducible exact CellLe.refl _ | exact CellLe.own | exact CellLe.i (by omega) | exact CellLe.nil | exact CellLe.slNil | exact CellLe.refl _) ?_))) | exact Hp.Sub.refl _) ?_ | refine PP.skip ?_)) ⟨auths g n g.length, _, _, _, (by rfl), (by first | rfl | omega | (simp <;> omega)), rfl, rfl⟩⟩
/-- members in any order, each of them one of c -/
def InC (c ms : List Int) : Prop := ∀ i, i < ms.length → 0 ≤ ms.getD i default ∧ ms.getD i default < c.length
theorem l1WtR_c (c ms : List Int) (hc : cmOk c = true) (hr : InC c ms) (hl : ms.length ≤ 100000) : SRet Tryd.prog 94 [isl c, isl ms] (fun r => ∃ z : Int, r = .i z) := ⟨fun R => by
  refine SCalls.enter tt_ok Tryd.func94 (by kernel_rfl) rfl [(900, .cust R)] rfl (argF _) (fun w F v k h => h) (by simp) ?_
  have h7 := (cmOk_iff.1 hc).1
  repeat' (first | (with_reducible first | refine HT.seq ?_ | refine HT.block ?_ | refine Br.not ?_) | ((with_reducible first | refine HT.region tt_ok ?_ | refine HT.drawn tt_ok (by kernel_rfl) (by decide +kernel) ?_ | refine HT.drawnL tt_ok (by kernel_rfl) (by decide +kernel) ?_ | refine HT.cond ?_ | refine HT.ret ?_ | refine HT.skip ?_ | refine HT.exit ?_ | refine Br.tt ?_ | refine Br.ff ?_); conv => whnf) | ((with_reducible first | refine Br.dec (fun hc => ?_) (fun hc => ?_) | refine Br.eq (fun hc => ?_) (fun hc => ?_) | refine Br.ne (fun hc => ?_) (fun hc => ?_)) <;> (first | (exfalso; omega) | conv => whnf)) | ((with_reducible first | refine Br.ttE (by decide) ?_ | refine Br.ffE (by decide) ?_ | refine Br.mk (fun hc => ?_) (fun hc => ?_) | refine Chk.mk (by first | omega | with_reducible rfl | (refine ⟨rfl, ?_⟩; omega) | decide | exact ⟨rfl, by omega, by omega, rfl⟩ | exact ⟨by assumption, rfl, by omega, by omega⟩) ?_ | refine Ar.fit (by omega) ?_ | refine Eqv.shr1 ?_ | refine Ar.u64 (by omega) ?_) <;> conv => whnf) | (with_reducible exact trivial) | ((with_reducible refine And.intro ?_ ?_) <;> conv => whnf) | (intro gn; conv => whnf))
  refine HT.loopS [0, 1, 4] (fun k : Nat => [(5, .i (sumTo (fun i => c.getD (ms.getD i default).toNat default) k)), (6, .i k)]) (fun k : Nat => k ≤ ms.length) (fun k : Nat => ms.length - k) 0 (Nat.zero_le _) ⟨rfl, rfl, trivial⟩ ?_
  conv => whnf
  rintro k hk
  have hp := sumTo_bd (g := fun i => c.getD (ms.getD i default).toNat default) (k := k) fun i hi => (cmOk_iff.1 hc).2 _ (by have := hr i (by omega); omega)
  by_cases hlt : k < ms.length
  · have hr := hr k hlt
    have hn := (cmOk_iff.1 hc).2 (ms.getD k default).toNat (by omega)
    have e : ms.getD (k : Int).toNat default = ms.getD k default := by rw [Int.toNat_natCast]
    repeat' (first | (with_reducible first | refine HT.seq ?_ | refine HT.block ?_ | refine Br.not ?_) | ((with_reducible first | refine HT.region tt_ok ?_ | refine HT.drawn tt_ok (by kernel_rfl) (by decide +kernel) ?_ | refine HT.drawnL tt_ok (by kernel_rfl) (by decide +kernel) ?_ | refine HT.cond ?_ | refine HT.ret ?_ | refine HT.skip ?_ | refine HT.exit ?_ | refine Br.tt ?_ | refine Br.ff ?_); conv => whnf) | ((with_reducible first | refine Br.dec (fun hc => ?_) (fun hc => ?_) | refine Br.eq (fun hc => ?_) (fun hc => ?_) | refine Br.ne (fun hc => ?_) (fun hc => ?_)) <;> (first | (exfalso; omega) | conv => whnf)) | ((with_reducible first | refine Br.ttE (by decide) ?_ | refine Br.ffE (by decide) ?_ | refine Br.mk (fun hc => ?_) (fun hc => ?_) | refine Chk.mk (by first | omega | with_reducible rfl | (refine ⟨rfl, ?_⟩; omega) | decide | exact ⟨rfl, by omega, by omega, rfl⟩ | exact ⟨by assumption, rfl, by omega, by omega⟩) ?_ | refine Ar.fit (by omega) ?_ | refine Eqv.shr1 ?_ | refine Ar.u64 (by omega) ?_) <;> conv => whnf) | (with_reducible exact trivial) | ((with_reducible refine And.intro ?_ ?_) <;> conv => whnf) | (intro gn; conv => whnf))
    refine ⟨⟨_, IntWalk.i64_in _ (by rw [e]; omega), ?_⟩⟩
    conv => whnf
    repeat' (first | (with_reducible first | refine HT.seq ?_ | refine HT.block ?_ | refine Br.not ?_) | ((with_reducible first | refine HT.region tt_ok ?_ | refine HT.drawn tt_ok (by kernel_rfl) (by decide +kernel) ?_ | refine HT.drawnL tt_ok (by kernel_rfl) (by decide +kernel) ?_ | refine HT.cond ?_ | refine HT.ret ?_ | refine HT.skip ?_ | refine HT.exit ?_ | refine Br.tt ?_ | refine Br.ff ?_); conv => whnf) | ((with_reducible first | refine Br.dec (fun hc => ?_) (fun hc => ?_) | refine Br.eq (fun hc => ?_) (fun hc => ?_) | refine Br.ne (fun hc => ?_) (fun hc => ?_)) <;> (first | (exfalso; omega) | conv => whnf)) | ((with_reducible first | refine Br.ttE (by decide) ?_ | refine Br.ffE (by decide) ?_ | refine Br.mk (fun hc => ?_) (fun hc => ?_) | refine Chk.mk (by first | omega | with_reducible rfl | (refine ⟨rfl, ?_⟩; omega) | decide | exact ⟨rfl, by omega, by omega, rfl⟩ | exact ⟨by assumption, rfl, by omega, by omega⟩) ?_ | refine Ar.fit (by omega) ?_ | refine Eqv.shr1 ?_ | refine Ar.u64 (by omega) ?_) <;> conv => whnf) | (with_reducible exact trivial) | ((with_reducible refine And.intro ?_ ?_) <;> conv => whnf) | (intro gn; conv => whnf))
    exact ⟨⟨k + 1, by omega, by omega, (by repeat' (first | exact trivial | refine ⟨rfl, ?_⟩)), ⟨sv_i (by rw [e]; rfl), sv_i (by omega), trivial⟩, (HLe.sub (by repeat (first | exact List.Sublist.refl _ | refine List.Sublist.cons_cons _ ?_ | refine List.Sublist.cons _ ?_)))⟩⟩
  · repeat' (first | (with_reducible first | refine HT.seq ?_ | refine HT.block ?_ | refine Br.not ?_) | ((with_reducible first | refine HT.region tt_ok ?_ | refine HT.drawn tt_ok (by kernel_rfl) (by decide +kernel) ?_ | refine HT.drawnL tt_ok (by kernel_rfl) (by decide +kernel) ?_ | refine HT.cond ?_ | refine HT.ret ?_ | refine HT.skip ?_ | refine HT.exit ?_ | refine Br.tt ?_ | refine Br.ff ?_); conv => whnf) | ((with_reducible first | refine Br.dec (fun hc => ?_) (fun hc => ?_) | refine Br.eq (fun hc => ?_) (fun hc => ?_) | refine Br.ne (fun hc => ?_) (fun hc => ?_)) <;> (first | (exfalso; omega) | conv => whnf)) | ((with_reducible first | refine Br.ttE (by decide) ?_ | refine Br.ffE (by decide) ?_ | refine Br.mk (fun hc => ?_) (fun hc => ?_) | refine Chk.mk (by first | omega | with_reducible rfl | (refine ⟨rfl, ?_⟩; omega) | decide | exact ⟨rfl, by omega, by omega, rfl⟩ | exact ⟨by assumption, rfl, by omega, by omega⟩) ?_ | refine Ar.fit (by omega) ?_ | refine Eqv.shr1 ?_ | refine Ar.u64 (by omega) ?_) <;> conv => whnf) | (with_reducible exact trivial) | ((with_reducible refine And.intro ?_ ?_) <;> conv => whnf) | (intro gn; conv => whnf))
    exact Fin.pureS (by repeat (first | exact List.Sublist.refl _ | refine List.Sublist.cons_cons _ ?_ | refine List.Sublist.cons _ ?_)) (⟨_, rfl⟩)⟩
def vxOk (c : List Int) (v : Vx) : Bool := inB v.r 0 30 && (inB v.a 0 (c.length - 1) && (msOk c.length v.ps && (inB v.d 0 990 && if v.r = 0 then decide (v.ps.length = 0) else decide (quo c ≤ wt c v.ps))))
theorem vxOk_iff {c : List Int} {v : Vx} (h : vxOk c v = true) : (0 ≤ v.r ∧ v.r ≤ 30) ∧ (0 ≤ v.a ∧ v.a < c.length) ∧ msOk c.length v.ps = true ∧ (0 ≤ v.d ∧ v.d ≤ 990) := by
  unfold vxOk at h
  simp only [Bool.and_eq_true, inB_true] at h
  exact ⟨h.1, by omega, h.2.2.1, h.2.2.2.1⟩
theorem l11Vertex_c (c : List Int) (v : Vx) (hcm : cmOk c = true) (hl : v.ps.length ≤ 10000000) : SRet Tryd.prog 76 [isl c, vxV v] (· = .b (vxOk c v)) := ⟨fun R => by
  have h7 := (cmOk_iff.1 hcm).1
  obtain ⟨vr, va, vp, vd⟩ := v
  dsimp only at hl
  refine SCalls.enter tt_ok Tryd.func76 (by kernel_rfl) rfl [(900, .cust R)] rfl (argF _) (fun w F v k h => h) (by simp) ?_
  repeat' (first | (with_reducible first | refine HT.seq ?_ | refine HT.block ?_ | refine Br.not ?_) | ((with_reducible first | refine HT.region tt_ok ?_ | refine HT.drawn tt_ok (by kernel_rfl) (by decide +kernel) ?_ | refine HT.drawnL tt_ok (by kernel_rfl) (by decide +kernel) ?_ | refine HT.cond ?_ | refine HT.ret ?_ | refine HT.skip ?_ | refine HT.exit ?_ | refine Br.tt ?_ | refine Br.ff ?_); conv => whnf) | ((with_reducible first | refine Br.dec (fun hc => ?_) (fun hc => ?_) | refine Br.eq (fun hc => ?_) (fun hc => ?_) | refine Br.ne (fun hc => ?_) (fun hc => ?_)) <;> (first | (exfalso; omega) | conv => whnf)) | ((with_reducible first | refine Br.ttE (by decide) ?_ | refine Br.ffE (by decide) ?_ | refine Br.mk (fun hc => ?_) (fun hc => ?_) | refine Chk.mk (by first | omega | with_reducible rfl | (refine ⟨rfl, ?_⟩; omega) | decide | exact ⟨rfl, by omega, by omega, rfl⟩ | exact ⟨by assumption, rfl, by omega, by omega⟩) ?_ | refine Ar.fit (by omega) ?_ | refine Eqv.shr1 ?_ | refine Ar.u64 (by omega) ?_) <;> conv => whnf) | ((first | refine CallN.ret1 (l6In_c _ _ _) ?_ | refine CallN.ret1 (specMs_c c vp (by omega) (by omega)) ?_ | refine CallN.ret1 (l2Digest_c _) ?_ | refine CallN.ret1 (specWt_c c vp hcm (by assumption)) ?_ | refine CallN.ret1 (specQuo_c c hcm) ?_) <;> conv => whnf) | (with_reducible exact trivial) | ((with_reducible refine And.intro ?_ ?_) <;> conv => whnf) | (intro gn; conv => whnf))
  all_goals exact Fin.pureS (by repeat (first | exact List.Sublist.refl _ | refine List.Sublist.cons_cons _ ?_ | refine List.Sublist.cons _ ?_)) (sv_b (by unfold vxOk; first | (simp_all; done) | (simp_all; rw [Bool.eq_iff_iff]; simp)))⟩
def vxOkA (c : List Int) (v : Vx) : Bool := cmOk c && vxOk c v
theorem implVx_c (c : List Int) (v : Vx) (hl : c.length ≤ 2000000) (hp : v.ps.length ≤ 10000000) : SRet Tryd.prog 64 [isl c, vxV v] (· = .b (vxOkA c v)) := ⟨fun R => by
  have hh : SRet Tryd.prog 68 [isl c, .i v.a] (· = .b (inB v.a 0 (c.length - 1))) := (implHas_c c v.a).imp fun r e => e.trans (sv_b (by rw [Bool.eq_iff_iff, inB_true, decide_eq_true_eq]; omega))
  refine SCalls.enter tt_ok Tryd.func64 (by kernel_rfl) rfl [(900, .cust R)] rfl (argF _) (fun w F v k h => h) (by simp) ?_
  repeat' (first | (with_reducible first | refine HT.seq ?_ | refine HT.block ?_ | refine Br.not ?_) | ((with_reducible first | refine HT.region tt_ok ?_ | refine HT.drawn tt_ok (by kernel_rfl) (by decide +kernel) ?_ | refine HT.drawnL tt_ok (by kernel_rfl) (by decide +kernel) ?_ | refine HT.cond ?_ | refine HT.ret ?_ | refine HT.skip ?_ | refine HT.exit ?_ | refine Br.tt ?_ | refine Br.ff ?_); conv => whnf) | ((with_reducible first | refine Br.dec (fun hc => ?_) (fun hc => ?_) | refine Br.eq (fun hc => ?_) (fun hc => ?_) | refine Br.ne (fun hc => ?_) (fun hc => ?_)) <;> (first | (exfalso; omega) | conv => whnf)) | ((with_reducible first | refine Br.ttE (by decide) ?_ | refine Br.ffE (by decide) ?_ | refine Br.mk (fun hc => ?_) (fun hc => ?_) | refine Chk.mk (by first | omega | with_reducible rfl | (refine ⟨rfl, ?_⟩; omega) | decide | exact ⟨rfl, by omega, by omega, rfl⟩ | exact ⟨by assumption, rfl, by omega, by omega⟩) ?_ | refine Ar.fit (by omega) ?_ | refine Eqv.shr1 ?_ | refine Ar.u64 (by omega) ?_) <;> conv => whnf) | ((first | refine CallN.ret1 (implMsV_c c v.ps (by omega) (by omega)) ?_ | refine CallN.ret1 (isRound_c _) ?_ | refine CallN.ret1 (hh) ?_ | refine CallN.ret1 (isDigest_c _) ?_ | refine CallN.ret1 (implMsW_c c v.ps (by simp_all) (by simp_all)) ?_ | refine CallN.ret1 (implCmQuo_c c (by simp_all)) ?_) <;> conv => whnf) | (with_reducible exact trivial) | ((with_reducible refine And.intro ?_ ?_) <;> conv => whnf) | (intro gn; conv => whnf))
  all_goals exact Fin.pureS (by repeat (first | exact List.Sublist.refl _ | refine List.Sublist.cons_cons _ ?_ | refine List.Sublist.cons _ ?_)) (sv_b (by unfold vxOkA vxOk; first | (simp_all; done) | (simp_all; rw [Bool.eq_iff_iff]; simp)))⟩
theorem vxA_iff {c : List Int} {v : Vx} (h : vxOkA c v = true) : cmOk c = true ∧ vxOk c v = true := by
  unfold vxOkA at h
  rwa [Bool.and_eq_true] at h
end Go.Proofs.YtpmhikdefbcofaaDoor
