/- The program's VoterSign: the voter of a map of digests, by the library's sort. -/
import Derived.Test.YtbcmpfhemangpaaVoD
import Derived.Test.YtbcmpfhemangpaaMt
import Derived.Test.YtbcmpfhemangpaaExM
set_option linter.all false
namespace Go.Proofs.Ytbcmpfhemangpaa
open Go.RowKit Go.Maps

theorem Fin.voM {rv : Value} {k n : Nat} {f : Int} {l ls : List Vo} {p : Heaplet} {R : Heaplet} {H : List Hp} (hp : PPick H [.row rv 25 3 n (rowF voF l), .cust p, .cust R]) (hn : n = l.length) (he : l = ls) :
    Fin (.agg 2 (litF [.i f, .own k rv])) H (fun r H' => ∃ N p', H' = N ++ [p', .cust R] ∧ N = [] ∧ r = xV f ls ∧ ∃ h, p' = .cust h) := by
  subst hn he
  refine Fin.still (r' := xV f l) (H' := [.cust p, .cust R]) hp (fun w F x hsl hx => ?_) ⟨[], .cust p, rfl, rfl, rfl, p, rfl⟩
  refine Has.agg (fun q hq u hu => ?_) hx
  rcases (by omega : q = 0 ∨ q = 1) with rfl | rfl
  · exact hu
  · have e : u = rv := hu
    rw [e]
    exact Has.slL (fun i j hi hj y hy => hy) hsl
theorem same_iff {r a r' a' : Int} (hr : I64 r) (ha : I64 a) (hr' : I64 r') (ha' : I64 a') : (kS r a).sameKey (kS r' a') = true ↔ r = r' ∧ a = a' := by
  constructor
  · intro h; exact kS_inj hr ha hr' ha' (WideAt.sameKey_eq h)
  · rintro ⟨rfl, rfl⟩; simp [kS, Lit.sameKey]
/-- what a range over the map has met -/
structure Met (us acc : List Vo) (left : Lit → Bool) (D : DM) (cnt : Nat) : Prop where
  sub : ∀ v ∈ acc, v ∈ us
  nodup : acc.Pairwise fun u v => ¬ sameS u v
  lf : ∀ u ∈ us, left (kS u.r u.a) = true ↔ ∀ v ∈ acc, ¬ sameS v u
  le : ∀ r a, I64 r → I64 a → left (kS r a) = true → ∃ u ∈ us, u.r = r ∧ u.a = a
  cnt : acc.length + cnt ≤ Maps.size D
theorem Met.start {us : List Vo} {D : DM} (hD : DIs us D) (ho : ∀ u ∈ us, okV u = true) : Met us [] (Maps.has D) D (Maps.size D) := by
  refine ⟨fun v hv => (by cases hv), List.Pairwise.nil, fun u hu => ⟨fun _ v hv => (by cases hv), fun _ => ?_⟩, fun r a hr ha h => ?_, by simp⟩
  · obtain ⟨h1, h2, _⟩ := okI (ho u hu)
    show Maps.has D (kS u.r u.a) = true
    rw [hD.has _ _ h1 h2]
    exact decide_eq_true ⟨u, hu, rfl, rfl⟩
  · rw [hD.has _ _ hr ha] at h
    exact of_decide_eq_true h
/-- the vote that is met is one of them -/
theorem Met.met {us acc : List Vo} {left : Lit → Bool} {D : DM} {cnt : Nat} {r a c : Int} (h : Met us acc left D cnt) (hD : DIs us D) (hr : I64 r) (ha : I64 a) (hl : left (kS r a) = true) (hat : ∀ zd, D.atKey (kS r a) zd = .lit (.int .i64 c)) : (⟨r, a, c⟩ : Vo) ∈ us := by
  obtain ⟨u, hu, rfl, rfl⟩ := h.le r a hr ha hl
  have := (hat (.map [])).symm.trans (hD.ats u hu _)
  injection this with this
  injection this with _ this
  rw [this]
  exact hu
theorem Met.step {us acc : List Vo} {left : Lit → Bool} {D : DM} {cnt cnt' : Nat} {r a c : Int} (h : Met us acc left D cnt) (hD : DIs us D) (ho : ∀ u ∈ us, okV u = true) (hr : I64 r) (ha : I64 a) (hl : left (kS r a) = true) (hat : ∀ zd, D.atKey (kS r a) zd = .lit (.int .i64 c)) (hlt : cnt' < cnt) :
    Met us (acc ++ [⟨r, a, c⟩]) (fun z => left z && !z.sameKey (kS r a)) D cnt' := by
  have hm := h.met hD hr ha hl hat
  refine ⟨fun v hv => ?_, List.pairwise_append.2 ⟨h.nodup, by simp, fun u hu v hv => ?_⟩, fun u hu => ?_, fun r' a' hr' ha' hl' => ?_, ?_⟩
  · rcases List.mem_append.1 hv with hv | hv
    · exact h.sub v hv
    · rw [List.mem_singleton.1 hv]; exact hm
  · rw [List.mem_singleton.1 hv]
    exact (h.lf _ hm).1 hl u hu
  · obtain ⟨h1, h2, _⟩ := okI (ho u hu)
    show (left (kS u.r u.a) && !(kS u.r u.a).sameKey (kS r a)) = true ↔ _
    rw [Bool.and_eq_true, Bool.not_eq_true', ← Bool.not_eq_true, same_iff h1 h2 hr ha]
    have h3 := h.lf u hu
    constructor
    · rintro ⟨q1, q2⟩ v hv
      rcases List.mem_append.1 hv with hv | hv
      · exact h3.1 q1 v hv
      · rw [List.mem_singleton.1 hv]
        exact fun e => q2 ⟨e.1.symm, e.2.symm⟩
    · intro q
      refine ⟨h3.2 fun v hv => q v (List.mem_append_left _ hv), fun e => ?_⟩
      exact q ⟨r, a, c⟩ (by simp) ⟨e.1.symm, e.2.symm⟩
  · exact h.le r' a' hr' ha' (Bool.and_eq_true _ _ ▸ hl').1
  · have := h.cnt
    simp only [List.length_append, List.length_cons, List.length_nil]
    omega
/-- all are met -/
theorem Met.all {us acc : List Vo} {left : Lit → Bool} {D : DM} {cnt : Nat} (h : Met us acc left D cnt) (hnd : us.Pairwise fun u v => ¬ sameS u v) (hno : ∀ kl, left kl = false) : ∀ x, x ∈ acc ↔ x ∈ us := by
  intro x
  refine ⟨h.sub x, fun hx => ?_⟩
  by_cases hv : ∃ v ∈ acc, sameS v x
  · obtain ⟨v, hv, hs⟩ := hv
    have : ∀ l : List Vo, l.Pairwise (fun u v => ¬ sameS u v) → ∀ u ∈ l, ∀ w ∈ l, sameS u w → u = w := by
      intro l
      induction l with
      | nil => intro _ u hu; cases hu
      | cons y l ih =>
        intro hp u hu w hw hs
        obtain ⟨p1, p2⟩ := List.pairwise_cons.1 hp
        rcases List.mem_cons.1 hu with e1 | h1
        · rcases List.mem_cons.1 hw with e2 | h2
          · rw [e1, e2]
          · exact absurd (e1 ▸ hs) (p1 w h2)
        · rcases List.mem_cons.1 hw with e2 | h2
          · exact absurd (show sameS y u from e2 ▸ ⟨hs.1.symm, hs.2.symm⟩) (p1 u h1)
          · exact ih p2 u h1 w h2 hs
    rw [← this us hnd v (h.sub v hv) x hx hs]
    exact hv
  · have := (h.lf x hx).2 fun v hv2 hs => hv ⟨v, hv2, hs⟩
    rw [hno] at this
    cases this
theorem voAdd {acc : List Vo} {n i j : Nat} {v : Vo} {g0 : Nat → Nat → SV} (hn : n = acc.length) (hg : ∀ j, j < 3 → g0 0 j = voF v j) (hi : i < n + 1) (hj : j < 3) : catF n (rowF voF acc) g0 i j = rowF voF (acc ++ [v]) i j := by
  subst hn
  exact cat_vo hg hi hj

set_option maxRecDepth 100000 in
set_option maxHeartbeats 2000000 in
theorem voOf_c (f : Int) (b n : Nat) (D : DM) (us ls : List Vo) (hD : DIs us D) (ho : ∀ u ∈ us, okV u = true) (hnd : us.Pairwise fun u v => ¬ sameS u v) (hs : Srt ls) (hm : ∀ x, x ∈ ls ↔ x ∈ us) (hl : us.length ≤ 1000) :
    SMut Try.prog 65 [.i f, .val (.map (some b))] (.cust (mapH b n D)) fun r N p' => N = [] ∧ r = xV f ls ∧ ∃ h, p' = .cust h := ⟨fun R => by
  have hsz := hD.size
  refine SCalls.enter tt_ok Try.func65 (by kernel_rfl) rfl [(0, .cust (mapH b n D)), (900, .cust R)] rfl (argF _) (fun w F v k h => h) (by simp) ?_
  repeat' (first | (with_reducible first | refine HT.seq ?_ | refine HT.block ?_ | refine Br.not ?_) | ((with_reducible first | refine HT.region tt_ok ?_ | refine HT.drawn tt_ok (by kernel_rfl) (by decide +kernel) ?_ | refine HT.drawnL tt_ok (by kernel_rfl) (by decide +kernel) ?_ | refine HT.cond ?_ | refine HT.ret ?_ | refine HT.skip ?_ | refine HT.exit ?_ | refine Br.tt ?_ | refine Br.ff ?_); conv => whnf) | ((with_reducible first | refine Br.dec (fun hc => ?_) (fun hc => ?_) | refine Br.eq (fun hc => ?_) (fun hc => ?_) | refine Br.ne (fun hc => ?_) (fun hc => ?_)) <;> (first | (exfalso; omega) | conv => whnf)) | ((with_reducible first | refine Br.ttE (by decide) ?_ | refine Br.ffE (by decide) ?_ | refine Br.mk (fun hc => ?_) (fun hc => ?_) | refine Chk.mk (by first | omega | with_reducible rfl | (refine ⟨rfl, ?_⟩; omega) | decide | exact ⟨rfl, by omega, by omega, rfl⟩ | exact ⟨by assumption, rfl, by omega, by omega⟩) ?_ | refine Ar.fit (by omega) ?_ | refine Eqv.shr1 ?_ | refine Ar.u64 (by omega) ?_) <;> conv => whnf) | ((first | (refine Fgn.len (i := 0) (ty := 0) rfl rfl ?_) | (refine Fgn.range (i := 0) rfl rfl (fun gi => ?_))) <;> conv => whnf) | (with_reducible exact trivial) | ((with_reducible refine And.intro ?_ ?_) <;> conv => whnf) | (intro gn; conv => whnf))
  rename_i g0 gr
  refine HT.loopC [0, 1, 4, 5, 14] (fun x : List Vo × (Lit → Bool) × Nat × Option Addr × Nat × Nat => []) (fun x : List Vo × (Lit → Bool) × Nat × Option Addr × Nat × Nat => [(102, .box (litF [.i f, .own 101 (.slice x.2.2.2.1 x.2.2.2.2.1 x.2.2.2.2.2)])), (101, .row (.slice x.2.2.2.1 x.2.2.2.2.1 x.2.2.2.2.2) x.2.2.2.2.1 (rowF voF x.1)), (0, .cust (rngH b gi n D x.2.1 x.2.2.1))]) (fun x : List Vo × (Lit → Bool) × Nat × Option Addr × Nat × Nat => x.2.2.2.2.1 = x.1.length ∧ Met us x.1 x.2.1 D x.2.2.1) (fun x : List Vo × (Lit → Bool) × Nat × Option Addr × Nat × Nat => x.2.2.1) ([], Maps.has D, Maps.size D, some ⟨gr, 0, none⟩, 0, ((Maps.size D : Nat) : Int).toNat) ⟨rfl, Met.start hD ho⟩ trivial ?_ ?_
  · conv => whnf
    refine PP.start ?_; repeat (first | exact PP.nil | refine PP.take (by first | with_reducible exact Hp.Sub.refl _ | exact Hp.Sub.rd (by omega) | exact Hp.Sub.rowA rfl (fun i j hi hj => absurd hi (by omega)) | exact Hp.Sub.rowA rfl (fun i j hi hj => absurd hi (Nat.not_lt_zero _)) | exact Hp.Sub.boxA (by (repeat (first | exact all_lt_zero | refine all_lt_succ (p := fun j => CellLe _ _) (by first | with_reducible exact CellLe.refl _ | exact CellLe.own | exact CellLe.i (by omega) | exact CellLe.nil | exact CellLe.slNil | exact CellLe.refl _) ?_))) | exact Hp.Sub.refl _) ?_ | refine PP.skip ?_)
  conv => whnf
  rintro ⟨acc, left, cnt, A, n2, cp⟩ ⟨hn2, hmet⟩
  dsimp only at hn2 hmet ⊢
  subst hn2
  have hcl := hmet.cnt
  conv => whnf
  repeat' (first | (with_reducible first | refine HT.seq ?_ | refine HT.block ?_ | refine Br.not ?_) | ((with_reducible first | refine HT.region tt_ok ?_ | refine HT.drawn tt_ok (by kernel_rfl) (by decide +kernel) ?_ | refine HT.drawnL tt_ok (by kernel_rfl) (by decide +kernel) ?_ | refine HT.cond ?_ | refine HT.ret ?_ | refine HT.skip ?_ | refine HT.exit ?_ | refine Br.tt ?_ | refine Br.ff ?_); conv => whnf) | ((with_reducible first | refine Br.dec (fun hc => ?_) (fun hc => ?_) | refine Br.eq (fun hc => ?_) (fun hc => ?_) | refine Br.ne (fun hc => ?_) (fun hc => ?_)) <;> (first | (exfalso; omega) | conv => whnf)) | ((with_reducible first | refine Br.ttE (by decide) ?_ | refine Br.ffE (by decide) ?_ | refine Br.mk (fun hc => ?_) (fun hc => ?_) | refine Chk.mk (by first | omega | with_reducible rfl | (refine ⟨rfl, ?_⟩; omega) | decide | exact ⟨rfl, by omega, by omega, rfl⟩ | exact ⟨by assumption, rfl, by omega, by omega⟩) ?_ | refine Ar.fit (by omega) ?_ | refine Eqv.shr1 ?_ | refine Ar.u64 (by omega) ?_) <;> conv => whnf) | ((first | (refine Fgn.next (i := 0) rfl rfl (fun hno => ?_) (fun r a c cnt' hr ha hcI hleft hat hlt => ?_)) | (refine Fgn.entry (i := 0) rfl rfl ?_) | (refine CallN.turn1 101 _ _ rfl rfl (fun _ _ _ _ h => by cases h) (sortV_c acc A cp (by omega) hmet.nodup) ?_; rintro r N p' ⟨rfl, rfl, l', hm', hs', hl', rfl⟩)) <;> conv => whnf) | (with_reducible exact trivial) | ((with_reducible refine And.intro ?_ ?_) <;> conv => whnf) | (intro gn; conv => whnf))
  · exact Fin.voM (by refine PP.start ?_; repeat (first | exact PP.nil | refine PP.take (by first | with_reducible exact Hp.Sub.refl _ | exact Hp.Sub.rd (by omega) | exact Hp.Sub.boxA (by (repeat (first | exact all_lt_zero | refine all_lt_succ (p := fun j => CellLe _ _) (by first | with_reducible exact CellLe.refl _ | exact CellLe.own | exact CellLe.i (by omega) | exact CellLe.nil | exact CellLe.slNil | exact CellLe.refl _) ?_))) | exact Hp.Sub.refl _) ?_ | refine PP.skip ?_)) hl'.symm (srt_ext hs' hs fun x => (hm' x).trans ((hmet.all hnd hno x).trans (hm x).symm))
  · rename_i A2
    exact ⟨⟨(acc ++ [⟨r, a, c⟩], _, cnt', A2, acc.length + 1, gn), ⟨by simp, hmet.step hD ho hr ha hleft hat hlt⟩, by dsimp only; omega, (by repeat' (first | exact trivial | refine ⟨rfl, ?_⟩)), trivial, HLe.pk (by (conv => whnf); (refine PP.start ?_; repeat (first | exact PP.nil | refine PP.take (by first | with_reducible exact Hp.Sub.refl _ | exact Hp.Sub.rd (by omega) | exact Hp.Sub.rowA rfl (fun i j hi hj => voAdd (v := ⟨r, a, c⟩) rfl (fun j hj => by rcases (by omega : j = 0 ∨ j = 1 ∨ j = 2) with rfl | rfl | rfl <;> rfl) hi hj) | exact Hp.Sub.boxA (by (repeat (first | exact all_lt_zero | refine all_lt_succ (p := fun j => CellLe _ _) (by first | with_reducible exact CellLe.refl _ | exact CellLe.own | exact CellLe.i (by omega) | exact CellLe.nil | exact CellLe.slNil | exact CellLe.refl _) ?_))) | exact Hp.Sub.refl _) ?_ | refine PP.skip ?_)))⟩⟩⟩
end Go.Proofs.Ytbcmpfhemangpaa
