/- Texts of this proof put together: Cz, CzL. -/
import Derived.Test.YtpmhikdefbcofaaDoorCards
import Derived.Test.YtpmhikdefbcofaaDoorTie
import Derived.SevenTiedAt
import Derived.Test.YtpmhikdefbcofaaDoorM01
import Derived.Test.YtpmhikdefbcofaaDoorM02
import Derived.Test.YtpmhikdefbcofaaDoorM03
import Derived.Test.YtpmhikdefbcofaaDoorM04
import Derived.Test.YtpmhikdefbcofaaDoorM05
import Derived.Test.YtpmhikdefbcofaaDoorM06
import Derived.Test.YtpmhikdefbcofaaDoorM07
import Derived.Test.YtpmhikdefbcofaaDoorM08
import Derived.Test.YtpmhikdefbcofaaDoorM09
import Derived.Test.YtpmhikdefbcofaaDoorM10
import Derived.Test.YtpmhikdefbcofaaDoorM11
import Derived.Test.YtpmhikdefbcofaaDoorM12
import Derived.Test.YtpmhikdefbcofaaDoorM13
import Derived.Test.YtpmhikdefbcofaaDoorM14
import Derived.Test.YtpmhikdefbcofaaDoorM15
import Derived.Test.YtpmhikdefbcofaaDoorM16
import Derived.Test.YtpmhikdefbcofaaDoorM17
import Derived.Test.YtpmhikdefbcofaaDoorM18
import Derived.Test.YtpmhikdefbcofaaDoorM19
import Derived.Test.YtpmhikdefbcofaaDoorM20
import Derived.Test.YtpmhikdefbcofaaDoorM21
import Derived.Test.YtpmhikdefbcofaaDoorM22
/-! YtpmhikdefbcofaaDoorCz -/
set_option linter.all false
namespace Go.Proofs.YtpmhikdefbcofaaDoor
open Go.RowKit Go.ChangeShapes Go.WideShapes

theorem off_bigC {vs : List Vx} (hl : vs.length ≤ 1048576) (h : ∀ v ∈ vs, v.ps.length ≤ 1048576) : off vs vs.length ≤ 1048576 * 1048579 :=
  Nat.le_trans (off_le (B := 1048576) h (Nat.le_refl _)) (Nat.mul_le_mul_right _ hl)
theorem lk_keyN {N : List Hp} : ∀ {m : Nat} {L' : Hpl} {k : Nat} {x : Hp}, k < m → lk k L' = x → lk k (keyN m N L') = x := by
  induction N with
  | nil => intro m L' k x _ h; exact h
  | cons y N ih =>
    intro m L' k x hkm h
    simp only [keyN, lk]
    have : Nat.beq m k = false := by rw [Bool.eq_false_iff]; intro hb; have := Nat.eq_of_beq_eq_true hb; omega
    rw [this, cond_false]
    exact ih (by omega) h
abbrev er4 (u : Ers) : List Hp := [erH 0 u.y0 u.t0 u.v0, erH 1 u.y1 u.t1 u.v1, erH 2 u.y2 u.t2 u.v2, .cust (erC u)]
/-- the three variables stand in front -/
theorem er_perm {u : Ers} {L : Hpl} (h0 : lk 800 L = erH 0 u.y0 u.t0 u.v0) (h1 : lk 801 L = erH 1 u.y1 u.t1 u.v1) (h2 : lk 802 L = erH 2 u.y2 u.t2 u.v2) (h3 : lk 803 L = .cust (erC u)) :
    ∃ rest, (.emp :: .emp :: .emp :: .emp :: L.map Prod.snd).Perm (er4 u ++ rest) := by
  have q3 := take_lk h3 (by simp)
  have e2 : lk 802 (setK 803 .emp L) = erH 2 u.y2 u.t2 u.v2 := by rw [lk_setK_self_ne (by decide)]; exact h2
  have q2 := take_lk e2 (Hp.ne_emp rfl)
  have e1 : lk 801 (setK 802 .emp (setK 803 .emp L)) = erH 1 u.y1 u.t1 u.v1 := by rw [lk_setK_self_ne (by decide), lk_setK_self_ne (by decide)]; exact h1
  have q1 := take_lk e1 (Hp.ne_emp rfl)
  have e0 : lk 800 (setK 801 .emp (setK 802 .emp (setK 803 .emp L))) = erH 0 u.y0 u.t0 u.v0 := by rw [lk_setK_self_ne (by decide), lk_setK_self_ne (by decide), lk_setK_self_ne (by decide)]; exact h0
  have q0 := take_lk e0 (Hp.ne_emp rfl)
  refine ⟨(setK 800 .emp (setK 801 .emp (setK 802 .emp (setK 803 .emp L)))).map Prod.snd, ?_⟩
  generalize (setK 800 .emp (setK 801 .emp (setK 802 .emp (setK 803 .emp L)))).map Prod.snd = rest at q0
  have a3 : ((.emp : Hp) :: .emp :: .emp :: .emp :: L.map Prod.snd).Perm (.cust (erC u) :: .emp :: .emp :: .emp :: (setK 803 .emp L).map Prod.snd) := (((q3.cons _).cons _).cons _).trans ((@List.perm_middle Hp (Hp.cust (erC u)) [Hp.emp, Hp.emp, Hp.emp] _ : _))
  have a2 : ((.emp : Hp) :: .emp :: .emp :: (setK 803 .emp L).map Prod.snd).Perm (erH 2 u.y2 u.t2 u.v2 :: .emp :: .emp :: (setK 802 .emp (setK 803 .emp L)).map Prod.snd) := ((q2.cons _).cons _).trans (@List.perm_middle Hp (erH 2 u.y2 u.t2 u.v2) [Hp.emp, Hp.emp] _)
  have a1 : ((.emp : Hp) :: .emp :: (setK 802 .emp (setK 803 .emp L)).map Prod.snd).Perm (erH 1 u.y1 u.t1 u.v1 :: .emp :: (setK 801 .emp (setK 802 .emp (setK 803 .emp L))).map Prod.snd) := (q1.cons _).trans (@List.perm_middle Hp (erH 1 u.y1 u.t1 u.v1) [Hp.emp] _)
  have a := a3.trans ((a2.trans ((a1.trans (q0.cons _)).cons _)).cons _)
  exact a.trans ((List.reverse_perm (er4 u)).append_right rest)
/-- a call of a function that makes new pieces beside the three variables -/
theorem CallN.gn {P : Program} {f : FuncId} {ss : List SV} {L : Hpl} {nx : Nat} {K : KK} {u : Ers} {Φ : SV → List Hp → Prop} (h0 : lk 800 L = erH 0 u.y0 u.t0 u.v0) (h1 : lk 801 L = erH 1 u.y1 u.t1 u.v1) (h2 : lk 802 L = erH 2 u.y2 u.t2 u.v2) (h3 : lk 803 L = .cust (erC u))
    (h : SGn P u f ss Φ) (k : ∀ r N, Φ r N → K (r.lift nx) (keyN nx N L) (nx + 10)) : CallN P f ss L nx K := by
  obtain ⟨rest, hall⟩ := er_perm h0 h1 h2 h3
  have key : SCalls P f ss (.emp :: .emp :: .emp :: .emp :: L.map Prod.snd) fun r H => ∃ N, Φ r N ∧ H = N ++ (er4 u ++ rest) := by
    refine SCalls.perm hall ?_
    refine (SCalls.frame (A := er4 u) (H := rest) (K := fun r H => ∃ N, Φ r N ∧ H = N ++ (er4 u ++ rest)) fun R => (h.h R).mono fun r H' ⟨N, e, hΦ⟩ => ⟨N ++ er4 u, by rw [e]; simp, N, hΦ, by simp⟩).mono ?_
    rintro r H' ⟨N, hΦ, rfl⟩
    exact ⟨_, List.Perm.refl _, N, hΦ, rfl⟩
  have addE : ∀ {w : World} {F : Nat → Prop} {l : List Hp}, HSat w F l → HSat w F (.emp :: l) := fun hs =>
    hs.cons (Nat.le_refl _) (fun _ _ => rfl) trivial fun _ hb => hb.elim
  refine .gen ((SCalls.le (fun w F hs => addE (addE (addE (addE hs)))) key).post ?_)
  rintro r H' ⟨N, hΦ, rfl⟩
  refine ⟨r, (keyN nx N L).map Prod.snd, fun w F v hs hv => ⟨F, fun _ h => h, ?_, hv⟩, _, rfl, fun q g t n f hlt hl => lk_keyN hlt hl, k r N hΦ⟩
  rw [keyN_snd]
  have h4 := hs.perm (List.Perm.append_left N hall.symm)
  have h5 : (N ++ (.emp :: .emp :: .emp :: .emp :: L.map Prod.snd)).Perm (.emp :: .emp :: .emp :: .emp :: (N ++ L.map Prod.snd)) := List.perm_append_comm_assoc N [.emp, .emp, .emp, .emp] (L.map Prod.snd)
  exact (h4.perm h5).tail.tail.tail.tail
/-- the three variables, all else standing still -/
theorem er_sat {W : World} {u : Ers} (g : GAt W u) (gk : ErK u W (GF W)) : HSat W (GF W) (erL u ⟨fun _ => False, fun _ _ => True, fun _ _ => trivial, fun _ _ => trivial⟩) := by
  have lt : ∀ {k : Nat} {o : Obj}, W.heap[k]? = some o → k < W.heap.size := fun h => (Array.getElem?_eq_some_iff.1 h).1
  have hbx : ∀ {k y t : Nat} {v : Value}, W.heap[k]? = some (.cells #[.iface t v] y (0, 0)) → (erH k y t v).holds W (GF W) := fun h => ⟨_, h, rfl, fun j hj => by
    obtain rfl : j = 0 := by omega
    exact ⟨rfl, rfl⟩⟩
  refine ⟨fun x hx => ?_, fun x hx b hb => ?_, ?_, fun b hb => hb.1⟩
  · simp only [List.mem_cons, List.not_mem_nil, or_false] at hx
    rcases hx with rfl | rfl | rfl | rfl | rfl
    · exact hbx g.b0
    · exact hbx g.b1
    · exact hbx g.b2
    · exact gk
    · trivial
  · simp only [List.mem_cons, List.not_mem_nil, or_false] at hx
    rcases hx with rfl | rfl | rfl | rfl | rfl
    · obtain rfl : b = 0 := hb
      exact ⟨lt g.b0, fun h => h.2.1 rfl⟩
    · obtain rfl : b = 1 := hb
      exact ⟨lt g.b1, fun h => h.2.2.1 rfl⟩
    · obtain rfl : b = 2 := hb
      exact ⟨lt g.b2, fun h => h.2.2.2 rfl⟩
    · exact hb.elim
    · exact hb.elim
  · refine List.pairwise_cons.2 ⟨fun x hx b hb hbx => ?_, List.pairwise_cons.2 ⟨fun x hx b hb hbx => ?_, List.pairwise_cons.2 ⟨fun x hx b hb hbx => ?_, List.pairwise_cons.2 ⟨fun x hx b hb hbx => hb.elim, List.pairwise_singleton _ _⟩⟩⟩⟩
    · obtain rfl : b = 0 := hb
      simp only [List.mem_cons, List.not_mem_nil, or_false] at hx
      rcases hx with rfl | rfl | rfl | rfl
      · cases (show (0 : Nat) = 1 from hbx)
      · cases (show (0 : Nat) = 2 from hbx)
      · exact hbx
      · exact hbx
    · obtain rfl : b = 1 := hb
      simp only [List.mem_cons, List.not_mem_nil, or_false] at hx
      rcases hx with rfl | rfl | rfl
      · cases (show (1 : Nat) = 2 from hbx)
      · exact hbx
      · exact hbx
    · simp only [List.mem_cons, List.not_mem_nil, or_false] at hx
      rcases hx with rfl | rfl
      · exact hbx
      · exact hbx
theorem er_back {w : World} {F : Nat → Prop} {k y t : Nat} {v : Value} (h : (erH k y t v).holds w F) : w.heap[k]? = some (.cells #[.iface t v] y (0, 0)) := by
  obtain ⟨cs, e, hn, hc⟩ := h
  have h0 : cs.getD 0 undef = _ := (hc 0 (by omega)).2
  obtain ⟨l⟩ := cs
  match l, hn with
  | [x], _ =>
    have : x = _ := h0
    rw [e, this]
/-- a call of such a function while rows are owned that it reads -/
theorem CallN.gnB {P : Program} {f : FuncId} {ss ss' : List SV} {L : Hpl} {nx : Nat} {K : KK} {u : Ers} {Φ : SV → List Hp → Prop} (h0 : lk 800 L = erH 0 u.y0 u.t0 u.v0) (h1 : lk 801 L = erH 1 u.y1 u.t1 u.v1) (h2 : lk 802 L = erH 2 u.y2 u.t2 u.v2) (h3 : lk 803 L = .cust (erC u))
    (h : SGn P u f ss' Φ) (hl : LendsL L ss ss') (ho : ∀ w vs, GAt w u → HasL w (allF w) ss' vs → HasL w (GF w) ss' vs) (hf : ∀ r N, Φ r N → r.free ∧ ∀ p ∈ N, p.free) (k : ∀ r N, Φ r N → K (r.lift nx) (keyN nx N L) (nx + 10)) : CallN P f ss L nx K := by
  refine .gen ⟨(h.h ⟨fun _ => False, fun _ _ => True, fun _ _ => trivial, fun _ _ => trivial⟩).1, fun w F vs hs hv => ?_⟩
  have b0 := hs.lk h0 (Hp.ne_emp rfl)
  have b1 := hs.lk h1 (Hp.ne_emp rfl)
  have b2 := hs.lk h2 (Hp.ne_emp rfl)
  have b3 := hs.lk h3 (by simp)
  have g : GAt w u := ⟨er_back (b0.holds _ List.mem_cons_self), er_back (b1.holds _ List.mem_cons_self), er_back (b2.holds _ List.mem_cons_self)⟩
  have hG : ∀ b, F b → GF w b := fun b hb => ⟨hs.lt b hb, fun e => (b0.fp _ List.mem_cons_self 0 rfl).2 (e ▸ hb), fun e => (b1.fp _ List.mem_cons_self 1 rfl).2 (e ▸ hb), fun e => (b2.fp _ List.mem_cons_self 2 rfl).2 (e ▸ hb)⟩
  have gk : ErK u w (GF w) := (erC u).mono hG (b3.holds _ List.mem_cons_self)
  refine ((h.h _).2 w (GF w) vs (er_sat g gk) (ho w vs g (hl.has hs hv))).mono ?_
  rintro e w' ⟨v, rfl, r, F', H', ⟨N, rfl, hΦ⟩, hk, hF, hs', hr⟩
  obtain ⟨hrf, hNf⟩ := hf r N hΦ
  have m0 : erH 0 u.y0 u.t0 u.v0 ∈ N ++ erL u ⟨fun _ => False, fun _ _ => True, fun _ _ => trivial, fun _ _ => trivial⟩ := List.mem_append_right _ (by simp)
  have m1 : erH 1 u.y1 u.t1 u.v1 ∈ N ++ erL u ⟨fun _ => False, fun _ _ => True, fun _ _ => trivial, fun _ _ => trivial⟩ := List.mem_append_right _ (by simp)
  have m2 : erH 2 u.y2 u.t2 u.v2 ∈ N ++ erL u ⟨fun _ => False, fun _ _ => True, fun _ _ => trivial, fun _ _ => trivial⟩ := List.mem_append_right _ (by simp)
  have hsame : ∀ b, b < w.heap.size → w'.heap[b]? = w.heap[b]? := fun b hb => by
    by_cases c0 : b = 0
    · subst c0; exact (er_back (hs'.holds _ m0)).trans g.b0.symm
    by_cases c1 : b = 1
    · subst c1; exact (er_back (hs'.holds _ m1)).trans g.b1.symm
    by_cases c2 : b = 2
    · subst c2; exact (er_back (hs'.holds _ m2)).trans g.b2.symm
    exact hk.blk b ⟨hb, c0, c1, c2⟩
  refine ⟨v, rfl, r, F, N ++ L.map Prod.snd, ⟨keyN nx N L, (keyN_snd N _ _).symm, fun q g t n f hlt hl => lk_keyN hlt hl, k r N hΦ⟩, ⟨hk.os, hk.tape, hk.output, hk.size, fun b hb => hsame b (hs.lt b hb), hk.drawn⟩, fun _ h => h, ?_, Has.free hrf hr⟩
  have hsH := hs.same hk.size hsame
  have hpa := List.pairwise_append.1 hs'.apart
  have hNfp : ∀ p ∈ N, ∀ b, p.fp b → b < w'.heap.size ∧ w.heap.size ≤ b := fun p hp b hb => by
    have h7 := hs'.fp p (List.mem_append_left _ hp) b hb
    refine ⟨h7.1, ?_⟩
    rcases Nat.lt_or_ge b w.heap.size with hlt | hge
    · exfalso
      refine h7.2 (hF b ⟨hlt, ?_, ?_, ?_⟩)
      · intro e; exact hpa.2.2 p hp (erH 0 u.y0 u.t0 u.v0) (by simp) b hb e
      · intro e; exact hpa.2.2 p hp (erH 1 u.y1 u.t1 u.v1) (by simp) b hb e
      · intro e; exact hpa.2.2 p hp (erH 2 u.y2 u.t2 u.v2) (by simp) b hb e
    · exact hge
  refine ⟨fun p hp => ?_, fun p hp b hb => ?_, List.pairwise_append.2 ⟨hpa.1, hsH.apart, fun p hp q hq b hb hb2 => ?_⟩, hsH.lt⟩
  · rcases List.mem_append.1 hp with hp | hp
    · exact Hp.holds_free (hNf p hp) (hs'.holds p (List.mem_append_left _ hp))
    · exact hsH.holds p hp
  · rcases List.mem_append.1 hp with hp | hp
    · have := hNfp p hp b hb
      exact ⟨this.1, fun hF' => by have := hs.lt b hF'; omega⟩
    · exact hsH.fp p hp b hb
  · have := hNfp p hp b hb
    have := (hs.fp q hq b hb2).1
    omega
theorem SGn.frozen {P : Program} {u : Ers} {f : FuncId} {ss : List SV} {P' : List Int → Prop} {e : TypeId} (h : SGn P u f ss (MadeL P' e)) : SGx P u f ss fun r => ∃ l, P' l ∧ r = isl l :=
  ⟨fun R => (h.h R).post fun r H' ⟨N, hH, l, A, n, c, hP, hn, hr, hN⟩ => by
    subst hH hr hN hn
    exact ⟨isl l, erL u R, fun w F v hs hv => by
      obtain ⟨F', q1, q2, q3⟩ := HSat.freezes (Z := [.row (.slice A l.length c) e 1 l.length (rowF intF l)]) (H := erL u R) hs
      have e : v = .slice A l.length c := hv
      subst e
      exact ⟨F', q1, q2, q3.1⟩, rfl, l, hP, rfl⟩⟩
/-- the waves committed, in any arguments -/
noncomputable def cwL (c : List Int) (vs : List Vx) (ls : List Int) : List Int := if wvOk c vs ls = true then (comS c vs ls ls.length).1 else []
theorem cw_ok {c : List Int} {vs : List Vx} {ls : List Int} (h : wvOk c vs ls = true) : cwL c vs ls = (comS c vs ls ls.length).1 := if_pos h
theorem cw_bad {c : List Int} {vs : List Vx} {ls : List Int} (h : wvOk c vs ls = false) : cwL c vs ls = [] := if_neg (by rw [h]; simp)
theorem cw_len {c : List Int} {vs : List Vx} {ls : List Int} (h : ls.length ≤ 2000000) : (cwL c vs ls).length ≤ 2000000 := by
  unfold cwL
  split
  · have := com_bd (c := c) (vs := vs) (ls := ls) (k := ls.length); omega
  · exact Nat.zero_le _
set_option maxRecDepth 100000 in
set_option maxHeartbeats 1000000 in
theorem specCW_o (c : List Int) (vs : List Vx) (ls : List Int) (hc : c.length ≤ 2000000) (hv : vs.length ≤ 10000000) (hp : ∀ v ∈ vs, v.ps.length ≤ 10000000) (hl : ls.length ≤ 2000000) : SNew Tryd.prog 27 [isl c, vsl vs, isl ls] (MadeL (· = cwL c vs ls) 3) := ⟨fun R => by
  have hO := l21Ok_c c vs ls hc hv hp hl
  by_cases hok : wvOk c vs ls = true
  rotate_left
  · have hok : wvOk c vs ls = false := by simpa using hok
    refine SCalls.enter tt_ok Tryd.func27 (by kernel_rfl) rfl [(900, .cust R)] rfl (argF _) (fun w F v k h => h) (by simp) ?_
    repeat' (first | (with_reducible first | refine HT.seq ?_ | refine HT.block ?_ | refine Br.not ?_) | ((with_reducible first | refine HT.region tt_ok ?_ | refine HT.drawn tt_ok (by kernel_rfl) (by decide +kernel) ?_ | refine HT.drawnL tt_ok (by kernel_rfl) (by decide +kernel) ?_ | refine HT.cond ?_ | refine HT.ret ?_ | refine HT.skip ?_ | refine HT.exit ?_ | refine Br.tt ?_ | refine Br.ff ?_); conv => whnf) | ((with_reducible first | refine Br.dec (fun hc => ?_) (fun hc => ?_) | refine Br.eq (fun hc => ?_) (fun hc => ?_) | refine Br.ne (fun hc => ?_) (fun hc => ?_)) <;> (first | (exfalso; omega) | conv => whnf)) | ((with_reducible first | refine Br.ttE (by decide) ?_ | refine Br.ffE (by decide) ?_ | refine Br.mk (fun hc => ?_) (fun hc => ?_) | refine Chk.mk (by first | omega | with_reducible rfl | (refine ⟨rfl, ?_⟩; omega) | decide | exact ⟨rfl, by omega, by omega, rfl⟩ | exact ⟨by assumption, rfl, by omega, by omega⟩) ?_ | refine Ar.fit (by omega) ?_ | refine Eqv.shr1 ?_ | refine Ar.u64 (by omega) ?_) <;> conv => whnf) | ((first | refine CallN.ret1 (hO.bf hok) ?_) <;> conv => whnf) | (with_reducible exact trivial) | ((with_reducible refine And.intro ?_ ?_) <;> conv => whnf) | (intro gn; conv => whnf))
    exact Fin.news [_] (fun _ => 0) (by refine PP.start ?_; repeat (first | exact PP.nil | refine PP.take (by first | with_reducible exact Hp.Sub.refl _ | exact Hp.Sub.rd (by omega) | exact Hp.Sub.rowA rfl (fun i j hi hj => absurd hi (by omega)) | exact Hp.Sub.boxA (by (repeat (first | exact all_lt_zero | refine all_lt_succ (p := fun j => CellLe _ _) (by first | with_reducible exact CellLe.refl _ | exact CellLe.own | exact CellLe.i (by omega) | exact CellLe.nil | exact CellLe.slNil | exact CellLe.refl _) ?_))) | exact Hp.Sub.refl _) ?_ | refine PP.skip ?_)) ⟨[], _, _, _, (cw_bad hok).symm, rfl, rfl, rfl⟩
  refine SCalls.enter tt_ok Tryd.func27 (by kernel_rfl) rfl [(900, .cust R)] rfl (argF _) (fun w F v k h => h) (by simp) ?_
  repeat' (first | (with_reducible first | refine HT.seq ?_ | refine HT.block ?_ | refine Br.not ?_) | ((with_reducible first | refine HT.region tt_ok ?_ | refine HT.drawn tt_ok (by kernel_rfl) (by decide +kernel) ?_ | refine HT.drawnL tt_ok (by kernel_rfl) (by decide +kernel) ?_ | refine HT.cond ?_ | refine HT.ret ?_ | refine HT.skip ?_ | refine HT.exit ?_ | refine Br.tt ?_ | refine Br.ff ?_); conv => whnf) | ((with_reducible first | refine Br.dec (fun hc => ?_) (fun hc => ?_) | refine Br.eq (fun hc => ?_) (fun hc => ?_) | refine Br.ne (fun hc => ?_) (fun hc => ?_)) <;> (first | (exfalso; omega) | conv => whnf)) | ((with_reducible first | refine Br.ttE (by decide) ?_ | refine Br.ffE (by decide) ?_ | refine Br.mk (fun hc => ?_) (fun hc => ?_) | refine Chk.mk (by first | omega | with_reducible rfl | (refine ⟨rfl, ?_⟩; omega) | decide | exact ⟨rfl, by omega, by omega, rfl⟩ | exact ⟨by assumption, rfl, by omega, by omega⟩) ?_ | refine Ar.fit (by omega) ?_ | refine Eqv.shr1 ?_ | refine Ar.u64 (by omega) ?_) <;> conv => whnf) | ((first | refine CallN.ret1 (hO.bt hok) ?_ | (refine CallN.new _ (l21Waves_c c vs ls hok hv hp) ?_; rintro r N ⟨l, A, n, cp, rfl, hn, rfl, rfl⟩)) <;> conv => whnf) | (with_reducible exact trivial) | ((with_reducible refine And.intro ?_ ?_) <;> conv => whnf) | (intro gn; conv => whnf))
  exact Fin.news [_] (fun _ => 0) (by refine PP.start ?_; repeat (first | exact PP.nil | refine PP.take (by first | with_reducible exact Hp.Sub.refl _ | exact Hp.Sub.rd (by omega) | exact Hp.Sub.boxA (by (repeat (first | exact all_lt_zero | refine all_lt_succ (p := fun j => CellLe _ _) (by first | with_reducible exact CellLe.refl _ | exact CellLe.own | exact CellLe.i (by omega) | exact CellLe.nil | exact CellLe.slNil | exact CellLe.refl _) ?_))) | exact Hp.Sub.refl _) ?_ | refine PP.skip ?_)) ⟨_, _, _, _, (cw_ok hok).symm, hn, rfl, rfl⟩⟩
set_option maxRecDepth 100000 in
set_option maxHeartbeats 1000000 in
theorem implCW_c (u : Ers) (c : List Int) (vs : List Vx) (ls : List Int) (hc : c.length ≤ 2000000) (hv : vs.length ≤ 10000000) (hp : ∀ v ∈ vs, v.ps.length ≤ 10000000) (hl : ls.length ≤ 2000000) : SGn Tryd.prog u 28 [isl c, vsl vs, isl ls] (MadeL (· = cwL c vs ls) 3) := ⟨fun R => by
  refine SCalls.enter tt_ok Tryd.func28 (by kernel_rfl) rfl [(800, erH 0 u.y0 u.t0 u.v0), (801, erH 1 u.y1 u.t1 u.v1), (802, erH 2 u.y2 u.t2 u.v2), (803, .cust (erC u)), (900, .cust R)] rfl (argF _) (fun w F v k h => h) (by simp) ?_
  repeat' (first | (with_reducible first | refine HT.seq ?_ | refine HT.block ?_ | refine Br.not ?_) | ((with_reducible first | refine HT.region tt_ok ?_ | refine HT.drawn tt_ok (by kernel_rfl) (by decide +kernel) ?_ | refine HT.drawnL tt_ok (by kernel_rfl) (by decide +kernel) ?_ | refine HT.cond ?_ | refine HT.ret ?_ | refine HT.skip ?_ | refine HT.exit ?_ | refine Br.tt ?_ | refine Br.ff ?_); conv => whnf) | ((with_reducible first | refine Br.dec (fun hc => ?_) (fun hc => ?_) | refine Br.eq (fun hc => ?_) (fun hc => ?_) | refine Br.ne (fun hc => ?_) (fun hc => ?_)) <;> (first | (exfalso; omega) | conv => whnf)) | ((with_reducible first | refine Br.ttE (by decide) ?_ | refine Br.ffE (by decide) ?_ | refine Br.mk (fun hc => ?_) (fun hc => ?_) | refine Chk.mk (by first | omega | with_reducible rfl | (refine ⟨rfl, ?_⟩; omega) | decide | exact ⟨rfl, by omega, by omega, rfl⟩ | exact ⟨by assumption, rfl, by omega, by omega⟩) ?_ | refine Ar.fit (by omega) ?_ | refine Eqv.shr1 ?_ | refine Ar.u64 (by omega) ?_) <;> conv => whnf) | ((first | (refine CallN.gl rfl rfl rfl (newWA_c u c vs ls hc hv hp hl) ?_; rintro r (⟨hok, ad, rfl⟩ | ⟨hok, rfl⟩)) | (refine CallN.gn rfl rfl rfl rfl (committed_c u ad c vs ls (wv_parts hok).1 (wv_parts hok).2.1 hv) ?_; rintro r N ⟨l, A, n, cp, rfl, hn, rfl, rfl⟩)) <;> conv => whnf) | (with_reducible exact trivial) | ((with_reducible refine And.intro ?_ ?_) <;> conv => whnf) | (intro gn; conv => whnf))
  all_goals first
    | exact Fin.gn [_] (fun _ => 0) (by refine PP.start ?_; repeat (first | exact PP.nil | refine PP.take (by first | with_reducible exact Hp.Sub.refl _ | exact Hp.Sub.rd (by omega) | exact Hp.Sub.boxA (by (repeat (first | exact all_lt_zero | refine all_lt_succ (p := fun j => CellLe _ _) (by first | with_reducible exact CellLe.refl _ | exact CellLe.own | exact CellLe.i (by omega) | exact CellLe.nil | exact CellLe.slNil | exact CellLe.refl _) ?_))) | exact Hp.Sub.refl _) ?_ | refine PP.skip ?_)) ⟨_, _, _, _, (cw_ok hok).symm, hn, rfl, rfl⟩
    | exact Fin.gn [_] (fun _ => 0) (by refine PP.start ?_; repeat (first | exact PP.nil | refine PP.take (by first | with_reducible exact Hp.Sub.refl _ | exact Hp.Sub.rd (by omega) | exact Hp.Sub.rowA rfl (fun i j hi hj => absurd hi (by omega)) | exact Hp.Sub.boxA (by (repeat (first | exact all_lt_zero | refine all_lt_succ (p := fun j => CellLe _ _) (by first | with_reducible exact CellLe.refl _ | exact CellLe.own | exact CellLe.i (by omega) | exact CellLe.nil | exact CellLe.slNil | exact CellLe.refl _) ?_))) | exact Hp.Sub.refl _) ?_ | refine PP.skip ?_)) ⟨[], _, _, _, (cw_bad hok).symm, rfl, rfl, rfl⟩
    | trace_state⟩
theorem out3 {u : Ers} {c : List Int} {vs : List Vx} {ls : List Int} : ∀ (w : World) (vl : List Value), GAt w u → HasL w (allF w) [isl c, vsl vs, isl ls] vl → HasL w (GF w) [isl c, vsl vs, isl ls] vl
  | w, [_, _, _], g, ⟨h1, h2, h3, _⟩ => ⟨isl_out g h1, vsl_out g h2, isl_out g h3, trivial⟩
set_option maxRecDepth 100000 in
set_option maxHeartbeats 2000000 in
theorem FnExactCommitWaves_c (u : Ers) (c : List Int) (vs : List Vx) (ls : List Int) (hla : vs.length ≤ 9223372036854775807) (hcl : c.length ≤ 9223372036854775807) (hll : ls.length ≤ 9223372036854775807) (hva : ∀ v ∈ vs, okVx v) : SGx Tryd.prog u 9 [isl c, vsl vs, isl ls] (· = .b true) := ⟨fun R => by
  refine SCalls.enter tt_ok Tryd.func9 (by kernel_rfl) rfl [(800, erH 0 u.y0 u.t0 u.v0), (801, erH 1 u.y1 u.t1 u.v1), (802, erH 2 u.y2 u.t2 u.v2), (803, .cust (erC u)), (900, .cust R)] rfl (argF _) (fun w F v k h => h) (by simp) ?_
  repeat' (first | (with_reducible first | refine HT.seq ?_ | refine HT.block ?_ | refine Br.not ?_) | ((with_reducible first | refine HT.region tt_ok ?_ | refine HT.drawn tt_ok (by kernel_rfl) (by decide +kernel) ?_ | refine HT.drawnL tt_ok (by kernel_rfl) (by decide +kernel) ?_ | refine HT.cond ?_ | refine HT.ret ?_ | refine HT.skip ?_ | refine HT.exit ?_ | refine Br.tt ?_ | refine Br.ff ?_); conv => whnf) | ((with_reducible first | refine Br.dec (fun hc => ?_) (fun hc => ?_) | refine Br.eq (fun hc => ?_) (fun hc => ?_) | refine Br.ne (fun hc => ?_) (fun hc => ?_)) <;> (first | (exfalso; omega) | conv => whnf)) | ((with_reducible first | refine Br.ttE (by decide) ?_ | refine Br.ffE (by decide) ?_ | refine Br.mk (fun hc => ?_) (fun hc => ?_) | refine Chk.mk (by first | omega | with_reducible rfl | (refine ⟨rfl, ?_⟩; omega) | decide | exact ⟨rfl, by omega, by omega, rfl⟩ | exact ⟨by assumption, rfl, by omega, by omega⟩) ?_ | refine Ar.fit (by omega) ?_ | refine Eqv.shr1 ?_ | refine Ar.u64 (by omega) ?_) <;> conv => whnf) | (with_reducible exact trivial) | ((with_reducible refine And.intro ?_ ?_) <;> conv => whnf) | (intro gn; conv => whnf))
  · exact Fin.gx (r' := .b true) (by refine PP.start ?_; repeat (first | exact PP.nil | refine PP.take (by first | with_reducible exact Hp.Sub.refl _ | exact Hp.Sub.rd (by omega) | exact Hp.Sub.boxA (by (repeat (first | exact all_lt_zero | refine all_lt_succ (p := fun j => CellLe _ _) (by first | with_reducible exact CellLe.refl _ | exact CellLe.own | exact CellLe.i (by omega) | exact CellLe.nil | exact CellLe.slNil | exact CellLe.refl _) ?_))) | exact Hp.Sub.refl _) ?_ | refine PP.skip ?_)) (CellLe.refl _) rfl
  · exact Fin.gx (r' := .b true) (by refine PP.start ?_; repeat (first | exact PP.nil | refine PP.take (by first | with_reducible exact Hp.Sub.refl _ | exact Hp.Sub.rd (by omega) | exact Hp.Sub.boxA (by (repeat (first | exact all_lt_zero | refine all_lt_succ (p := fun j => CellLe _ _) (by first | with_reducible exact CellLe.refl _ | exact CellLe.own | exact CellLe.i (by omega) | exact CellLe.nil | exact CellLe.slNil | exact CellLe.refl _) ?_))) | exact Hp.Sub.refl _) ?_ | refine PP.skip ?_)) (CellLe.refl _) rfl
  refine CallN.ret _ (szVertexS_c vs 1048576 hla hva (by omega)) ?_
  rintro r (rfl | ⟨hz1, hz2, y, hy0, hy1, rfl⟩)
  · conv => whnf
    repeat' (first | (with_reducible first | refine HT.seq ?_ | refine HT.block ?_ | refine Br.not ?_) | ((with_reducible first | refine HT.region tt_ok ?_ | refine HT.drawn tt_ok (by kernel_rfl) (by decide +kernel) ?_ | refine HT.drawnL tt_ok (by kernel_rfl) (by decide +kernel) ?_ | refine HT.cond ?_ | refine HT.ret ?_ | refine HT.skip ?_ | refine HT.exit ?_ | refine Br.tt ?_ | refine Br.ff ?_); conv => whnf) | ((with_reducible first | refine Br.dec (fun hc => ?_) (fun hc => ?_) | refine Br.eq (fun hc => ?_) (fun hc => ?_) | refine Br.ne (fun hc => ?_) (fun hc => ?_)) <;> (first | (exfalso; omega) | conv => whnf)) | ((with_reducible first | refine Br.ttE (by decide) ?_ | refine Br.ffE (by decide) ?_ | refine Br.mk (fun hc => ?_) (fun hc => ?_) | refine Chk.mk (by first | omega | with_reducible rfl | (refine ⟨rfl, ?_⟩; omega) | decide | exact ⟨rfl, by omega, by omega, rfl⟩ | exact ⟨by assumption, rfl, by omega, by omega⟩) ?_ | refine Ar.fit (by omega) ?_ | refine Eqv.shr1 ?_ | refine Ar.u64 (by omega) ?_) <;> conv => whnf) | (with_reducible exact trivial) | ((with_reducible refine And.intro ?_ ?_) <;> conv => whnf) | (intro gn; conv => whnf))
    exact Fin.gx (r' := .b true) (by refine PP.start ?_; repeat (first | exact PP.nil | refine PP.take (by first | with_reducible exact Hp.Sub.refl _ | exact Hp.Sub.rd (by omega) | exact Hp.Sub.boxA (by (repeat (first | exact all_lt_zero | refine all_lt_succ (p := fun j => CellLe _ _) (by first | with_reducible exact CellLe.refl _ | exact CellLe.own | exact CellLe.i (by omega) | exact CellLe.nil | exact CellLe.slNil | exact CellLe.refl _) ?_))) | exact Hp.Sub.refl _) ?_ | refine PP.skip ?_)) (CellLe.refl _) rfl
  conv => whnf
  have hp0 : ∀ v ∈ vs, v.ps.length ≤ 1048576 := fun v hv => by have := hz2 v hv; omega
  have hp : ∀ v ∈ vs, v.ps.length ≤ 10000000 := fun v hv => by have := hp0 v hv; omega
  have hp8 : ∀ v ∈ vs, v.ps.length ≤ 100000000 := fun v hv => by have := hp0 v hv; omega
  have hp2 : ∀ v ∈ vs, v.ps.length ≤ 1000000000 := fun v hv => by have := hp0 v hv; omega
  have hp3 : ∀ v ∈ vs, v.ps.length ≤ 9223372036854775800 := fun v hv => by have := hp0 v hv; omega
  have hvl2 : vs.length ≤ 1048576 := by omega
  have hcl2 : c.length ≤ 1048576 := by omega
  have hll2 : ls.length ≤ 1048576 := by omega
  have hoff := off_bigC hvl2 hp0
  have hS := (specCW_o c vs ls (by omega) (by omega) hp (by omega)).stillL
  have hwl := cw_len (c := c) (vs := vs) (ls := ls) (by omega)
  clear hz2 hla hcl hll hva
  repeat' (first | (with_reducible first | refine HT.seq ?_ | refine HT.block ?_ | refine Br.not ?_) | ((with_reducible first | refine HT.region tt_ok ?_ | refine HT.drawn tt_ok (by kernel_rfl) (by decide +kernel) ?_ | refine HT.drawnL tt_ok (by kernel_rfl) (by decide +kernel) ?_ | refine HT.cond ?_ | refine HT.ret ?_ | refine HT.skip ?_ | refine HT.exit ?_ | refine Br.tt ?_ | refine Br.ff ?_); conv => whnf) | ((with_reducible first | refine Br.dec (fun hc => ?_) (fun hc => ?_) | refine Br.eq (fun hc => ?_) (fun hc => ?_) | refine Br.ne (fun hc => ?_) (fun hc => ?_)) <;> (first | (exfalso; omega) | conv => whnf)) | ((with_reducible first | refine Br.ttE (by decide) ?_ | refine Br.ffE (by decide) ?_ | refine Br.mk (fun hc => ?_) (fun hc => ?_) | refine Chk.mk (by first | omega | with_reducible rfl | (refine ⟨rfl, ?_⟩; omega) | decide | exact ⟨rfl, by omega, by omega, rfl⟩ | exact ⟨by assumption, rfl, by omega, by omega⟩) ?_ | refine Ar.fit (by omega) ?_ | refine Eqv.shr1 ?_ | refine Ar.u64 (by omega) ?_) <;> conv => whnf) | (with_reducible exact trivial) | ((with_reducible refine And.intro ?_ ?_) <;> conv => whnf) | (intro gn; conv => whnf))
  all_goals (try (exfalso; omega))
  refine CallN.ret1 (toIntS_c c (by omega)) ?_
  conv => whnf
  repeat' (first | (with_reducible first | refine HT.seq ?_ | refine HT.block ?_ | refine Br.not ?_) | ((with_reducible first | refine HT.region tt_ok ?_ | refine HT.drawn tt_ok (by kernel_rfl) (by decide +kernel) ?_ | refine HT.drawnL tt_ok (by kernel_rfl) (by decide +kernel) ?_ | refine HT.cond ?_ | refine HT.ret ?_ | refine HT.skip ?_ | refine HT.exit ?_ | refine Br.tt ?_ | refine Br.ff ?_); conv => whnf) | ((with_reducible first | refine Br.dec (fun hc => ?_) (fun hc => ?_) | refine Br.eq (fun hc => ?_) (fun hc => ?_) | refine Br.ne (fun hc => ?_) (fun hc => ?_)) <;> (first | (exfalso; omega) | conv => whnf)) | ((with_reducible first | refine Br.ttE (by decide) ?_ | refine Br.ffE (by decide) ?_ | refine Br.mk (fun hc => ?_) (fun hc => ?_) | refine Chk.mk (by first | omega | with_reducible rfl | (refine ⟨rfl, ?_⟩; omega) | decide | exact ⟨rfl, by omega, by omega, rfl⟩ | exact ⟨by assumption, rfl, by omega, by omega⟩) ?_ | refine Ar.fit (by omega) ?_ | refine Eqv.shr1 ?_ | refine Ar.u64 (by omega) ?_) <;> conv => whnf) | (with_reducible exact trivial) | ((with_reducible refine And.intro ?_ ?_) <;> conv => whnf) | (intro gn; conv => whnf))
  all_goals (try (exfalso; omega))
  refine CallN.ret1 (toVertexS_c vs (by omega) hp2) ?_
  conv => whnf
  repeat' (first | (with_reducible first | refine HT.seq ?_ | refine HT.block ?_ | refine Br.not ?_) | ((with_reducible first | refine HT.region tt_ok ?_ | refine HT.drawn tt_ok (by kernel_rfl) (by decide +kernel) ?_ | refine HT.drawnL tt_ok (by kernel_rfl) (by decide +kernel) ?_ | refine HT.cond ?_ | refine HT.ret ?_ | refine HT.skip ?_ | refine HT.exit ?_ | refine Br.tt ?_ | refine Br.ff ?_); conv => whnf) | ((with_reducible first | refine Br.dec (fun hc => ?_) (fun hc => ?_) | refine Br.eq (fun hc => ?_) (fun hc => ?_) | refine Br.ne (fun hc => ?_) (fun hc => ?_)) <;> (first | (exfalso; omega) | conv => whnf)) | ((with_reducible first | refine Br.ttE (by decide) ?_ | refine Br.ffE (by decide) ?_ | refine Br.mk (fun hc => ?_) (fun hc => ?_) | refine Chk.mk (by first | omega | with_reducible rfl | (refine ⟨rfl, ?_⟩; omega) | decide | exact ⟨rfl, by omega, by omega, rfl⟩ | exact ⟨by assumption, rfl, by omega, by omega⟩) ?_ | refine Ar.fit (by omega) ?_ | refine Eqv.shr1 ?_ | refine Ar.u64 (by omega) ?_) <;> conv => whnf) | (with_reducible exact trivial) | ((with_reducible refine And.intro ?_ ?_) <;> conv => whnf) | (intro gn; conv => whnf))
  all_goals (try (exfalso; omega))
  refine CallN.ret1 (toIntS_c ls (by omega)) ?_
  conv => whnf
  repeat' (first | (with_reducible first | refine HT.seq ?_ | refine HT.block ?_ | refine Br.not ?_) | ((with_reducible first | refine HT.region tt_ok ?_ | refine HT.drawn tt_ok (by kernel_rfl) (by decide +kernel) ?_ | refine HT.drawnL tt_ok (by kernel_rfl) (by decide +kernel) ?_ | refine HT.cond ?_ | refine HT.ret ?_ | refine HT.skip ?_ | refine HT.exit ?_ | refine Br.tt ?_ | refine Br.ff ?_); conv => whnf) | ((with_reducible first | refine Br.dec (fun hc => ?_) (fun hc => ?_) | refine Br.eq (fun hc => ?_) (fun hc => ?_) | refine Br.ne (fun hc => ?_) (fun hc => ?_)) <;> (first | (exfalso; omega) | conv => whnf)) | ((with_reducible first | refine Br.ttE (by decide) ?_ | refine Br.ffE (by decide) ?_ | refine Br.mk (fun hc => ?_) (fun hc => ?_) | refine Chk.mk (by first | omega | with_reducible rfl | (refine ⟨rfl, ?_⟩; omega) | decide | exact ⟨rfl, by omega, by omega, rfl⟩ | exact ⟨by assumption, rfl, by omega, by omega⟩) ?_ | refine Ar.fit (by omega) ?_ | refine Eqv.shr1 ?_ | refine Ar.u64 (by omega) ?_) <;> conv => whnf) | (with_reducible exact trivial) | ((with_reducible refine And.intro ?_ ?_) <;> conv => whnf) | (intro gn; conv => whnf))
  refine CallN.ret _ hS ?_
  rintro r ⟨l, hGl, rfl⟩
  conv => whnf
  repeat' (first | (with_reducible first | refine HT.seq ?_ | refine HT.block ?_ | refine Br.not ?_) | ((with_reducible first | refine HT.region tt_ok ?_ | refine HT.drawn tt_ok (by kernel_rfl) (by decide +kernel) ?_ | refine HT.drawnL tt_ok (by kernel_rfl) (by decide +kernel) ?_ | refine HT.cond ?_ | refine HT.ret ?_ | refine HT.skip ?_ | refine HT.exit ?_ | refine Br.tt ?_ | refine Br.ff ?_); conv => whnf) | ((with_reducible first | refine Br.dec (fun hc => ?_) (fun hc => ?_) | refine Br.eq (fun hc => ?_) (fun hc => ?_) | refine Br.ne (fun hc => ?_) (fun hc => ?_)) <;> (first | (exfalso; omega) | conv => whnf)) | ((with_reducible first | refine Br.ttE (by decide) ?_ | refine Br.ffE (by decide) ?_ | refine Br.mk (fun hc => ?_) (fun hc => ?_) | refine Chk.mk (by first | omega | with_reducible rfl | (refine ⟨rfl, ?_⟩; omega) | decide | exact ⟨rfl, by omega, by omega, rfl⟩ | exact ⟨by assumption, rfl, by omega, by omega⟩) ?_ | refine Ar.fit (by omega) ?_ | refine Eqv.shr1 ?_ | refine Ar.u64 (by omega) ?_) <;> conv => whnf) | (with_reducible exact trivial) | ((with_reducible refine And.intro ?_ ?_) <;> conv => whnf) | (intro gn; conv => whnf))
  refine CallN.new _ (toIntS_o c (by omega)) ?_
  rintro r N ⟨c', A1, n1, c1, rfl, hn1, rfl, rfl⟩
  subst hn1
  conv => whnf
  repeat' (first | (with_reducible first | refine HT.seq ?_ | refine HT.block ?_ | refine Br.not ?_) | ((with_reducible first | refine HT.region tt_ok ?_ | refine HT.drawn tt_ok (by kernel_rfl) (by decide +kernel) ?_ | refine HT.drawnL tt_ok (by kernel_rfl) (by decide +kernel) ?_ | refine HT.cond ?_ | refine HT.ret ?_ | refine HT.skip ?_ | refine HT.exit ?_ | refine Br.tt ?_ | refine Br.ff ?_); conv => whnf) | ((with_reducible first | refine Br.dec (fun hc => ?_) (fun hc => ?_) | refine Br.eq (fun hc => ?_) (fun hc => ?_) | refine Br.ne (fun hc => ?_) (fun hc => ?_)) <;> (first | (exfalso; omega) | conv => whnf)) | ((with_reducible first | refine Br.ttE (by decide) ?_ | refine Br.ffE (by decide) ?_ | refine Br.mk (fun hc => ?_) (fun hc => ?_) | refine Chk.mk (by first | omega | with_reducible rfl | (refine ⟨rfl, ?_⟩; omega) | decide | exact ⟨rfl, by omega, by omega, rfl⟩ | exact ⟨by assumption, rfl, by omega, by omega⟩) ?_ | refine Ar.fit (by omega) ?_ | refine Eqv.shr1 ?_ | refine Ar.u64 (by omega) ?_) <;> conv => whnf) | (with_reducible exact trivial) | ((with_reducible refine And.intro ?_ ?_) <;> conv => whnf) | (intro gn; conv => whnf))
  refine CallN.new _ (toVertexS_o vs (by omega) hp2) ?_
  rintro r N ⟨A2, n2, c2, O2, hn2, rfl, rfl⟩
  subst hn2
  conv => whnf
  repeat' (first | (with_reducible first | refine HT.seq ?_ | refine HT.block ?_ | refine Br.not ?_) | ((with_reducible first | refine HT.region tt_ok ?_ | refine HT.drawn tt_ok (by kernel_rfl) (by decide +kernel) ?_ | refine HT.drawnL tt_ok (by kernel_rfl) (by decide +kernel) ?_ | refine HT.cond ?_ | refine HT.ret ?_ | refine HT.skip ?_ | refine HT.exit ?_ | refine Br.tt ?_ | refine Br.ff ?_); conv => whnf) | ((with_reducible first | refine Br.dec (fun hc => ?_) (fun hc => ?_) | refine Br.eq (fun hc => ?_) (fun hc => ?_) | refine Br.ne (fun hc => ?_) (fun hc => ?_)) <;> (first | (exfalso; omega) | conv => whnf)) | ((with_reducible first | refine Br.ttE (by decide) ?_ | refine Br.ffE (by decide) ?_ | refine Br.mk (fun hc => ?_) (fun hc => ?_) | refine Chk.mk (by first | omega | with_reducible rfl | (refine ⟨rfl, ?_⟩; omega) | decide | exact ⟨rfl, by omega, by omega, rfl⟩ | exact ⟨by assumption, rfl, by omega, by omega⟩) ?_ | refine Ar.fit (by omega) ?_ | refine Eqv.shr1 ?_ | refine Ar.u64 (by omega) ?_) <;> conv => whnf) | (with_reducible exact trivial) | ((with_reducible refine And.intro ?_ ?_) <;> conv => whnf) | (intro gn; conv => whnf))
  refine CallN.new _ (toIntS_o ls (by omega)) ?_
  rintro r N ⟨ls', A3, n3, c3, rfl, hn3, rfl, rfl⟩
  subst hn3
  conv => whnf
  repeat' (first | (with_reducible first | refine HT.seq ?_ | refine HT.block ?_ | refine Br.not ?_) | ((with_reducible first | refine HT.region tt_ok ?_ | refine HT.drawn tt_ok (by kernel_rfl) (by decide +kernel) ?_ | refine HT.drawnL tt_ok (by kernel_rfl) (by decide +kernel) ?_ | refine HT.cond ?_ | refine HT.ret ?_ | refine HT.skip ?_ | refine HT.exit ?_ | refine Br.tt ?_ | refine Br.ff ?_); conv => whnf) | ((with_reducible first | refine Br.dec (fun hc => ?_) (fun hc => ?_) | refine Br.eq (fun hc => ?_) (fun hc => ?_) | refine Br.ne (fun hc => ?_) (fun hc => ?_)) <;> (first | (exfalso; omega) | conv => whnf)) | ((with_reducible first | refine Br.ttE (by decide) ?_ | refine Br.ffE (by decide) ?_ | refine Br.mk (fun hc => ?_) (fun hc => ?_) | refine Chk.mk (by first | omega | with_reducible rfl | (refine ⟨rfl, ?_⟩; omega) | decide | exact ⟨rfl, by omega, by omega, rfl⟩ | exact ⟨by assumption, rfl, by omega, by omega⟩) ?_ | refine Ar.fit (by omega) ?_ | refine Eqv.shr1 ?_ | refine Ar.u64 (by omega) ?_) <;> conv => whnf) | ((first | (refine CallN.gnB (ss' := [isl c', vsl vs, isl ls']) rfl rfl rfl rfl (implCW_c u c' vs ls' (by omega) (by omega) hp (by omega)) ⟨Lends.row (by repeat (first | exact List.mem_cons_self | refine List.mem_cons_of_mem _ ?_)), Lends.vs (by repeat (first | exact List.mem_cons_self | refine List.mem_cons_of_mem _ ?_)) (by repeat (first | exact List.mem_cons_self | refine List.mem_cons_of_mem _ ?_)), Lends.row (by repeat (first | exact List.mem_cons_self | refine List.mem_cons_of_mem _ ?_)), trivial⟩ out3 (fun r N h => h.free) ?_; rintro r N ⟨l', A4, n4, c4, hGl', hn4, rfl, rfl⟩; obtain rfl := hGl'.trans hGl.symm; subst hn4)) <;> conv => whnf) | (with_reducible exact trivial) | ((with_reducible refine And.intro ?_ ?_) <;> conv => whnf) | (intro gn; conv => whnf))
  have hJ : SGx Tryd.prog u 28 [isl c', vsl vs, isl ls'] (· = isl l') := ⟨fun R => ((implCW_c u c' vs ls' (by omega) (by omega) hp (by omega)).frozen.h R).mono fun r H' ⟨e, l2, h2, e'⟩ => ⟨e, by rw [e', h2, hGl']⟩⟩
  have hll7 : l'.length ≤ 2000000 := by rw [hGl']; exact hwl
  repeat' (first | (with_reducible first | refine HT.seq ?_ | refine HT.block ?_ | refine Br.not ?_) | ((with_reducible first | refine HT.region tt_ok ?_ | refine HT.drawn tt_ok (by kernel_rfl) (by decide +kernel) ?_ | refine HT.drawnL tt_ok (by kernel_rfl) (by decide +kernel) ?_ | refine HT.cond ?_ | refine HT.ret ?_ | refine HT.skip ?_ | refine HT.exit ?_ | refine Br.tt ?_ | refine Br.ff ?_); conv => whnf) | ((with_reducible first | refine Br.dec (fun hc => ?_) (fun hc => ?_) | refine Br.eq (fun hc => ?_) (fun hc => ?_) | refine Br.ne (fun hc => ?_) (fun hc => ?_)) <;> (first | (exfalso; omega) | conv => whnf)) | ((with_reducible first | refine Br.ttE (by decide) ?_ | refine Br.ffE (by decide) ?_ | refine Br.mk (fun hc => ?_) (fun hc => ?_) | refine Chk.mk (by first | omega | with_reducible rfl | (refine ⟨rfl, ?_⟩; omega) | decide | exact ⟨rfl, by omega, by omega, rfl⟩ | exact ⟨by assumption, rfl, by omega, by omega⟩) ?_ | refine Ar.fit (by omega) ?_ | refine Eqv.shr1 ?_ | refine Ar.u64 (by omega) ?_) <;> conv => whnf) | ((first | refine CallN.ret1 (toIntS_c c' (by omega)) ?_ | refine CallN.ret1 (toIntS_c ls' (by omega)) ?_ | refine CallN.ret1 (toVertexS_c vs (by omega) hp2) ?_ | refine CallN.ret1 (eqIntS_c l' (by omega)) ?_ | (refine CallN.gx rfl rfl rfl rfl hJ ?_; rintro r rfl) | (refine CallN.retB1 (ss' := [isl l', isl l']) (eqIntS_c l' (by omega)) ⟨Lends.row (by repeat (first | exact List.mem_cons_self | refine List.mem_cons_of_mem _ ?_)), Lends.refl _, trivial⟩ (by exact trivial) ?_) | (refine CallN.retB1 (ss' := [isl c', isl c']) (eqIntS_c c' (by omega)) ⟨Lends.row (by repeat (first | exact List.mem_cons_self | refine List.mem_cons_of_mem _ ?_)), Lends.refl _, trivial⟩ (by exact trivial) ?_) | (refine CallN.retB1 (ss' := [isl ls', isl ls']) (eqIntS_c ls' (by omega)) ⟨Lends.row (by repeat (first | exact List.mem_cons_self | refine List.mem_cons_of_mem _ ?_)), Lends.refl _, trivial⟩ (by exact trivial) ?_) | (refine CallN.retB1 (ss' := [vsl vs, vsl vs]) (eqVertexS_c vs (by omega) hp3) ⟨Lends.vs (by repeat (first | exact List.mem_cons_self | refine List.mem_cons_of_mem _ ?_)) (by repeat (first | exact List.mem_cons_self | refine List.mem_cons_of_mem _ ?_)), Lends.refl _, trivial⟩ (by exact trivial) ?_) | (refine CallN.turn1 150 _ _ rfl rfl (fun _ _ _ _ h => by cases h) (markIntS_c c' A1 c1 (1) (by omega) (by omega)) ?_; rintro r N p' ⟨rfl, rfl, rfl⟩) | (refine CallN.turn1 170 _ _ rfl rfl (fun _ _ _ _ h => by cases h) (markIntS_c ls' A3 c3 (1 + c'.length + off vs vs.length) (by omega) (by omega)) ?_; rintro r N p' ⟨rfl, rfl, rfl⟩) | (refine CallN.turn1 180 _ _ rfl rfl (fun _ _ _ _ h => by cases h) (markIntS_c l' A4 c4 (1) (by omega) (by omega)) ?_; rintro r N p' ⟨rfl, rfl, rfl⟩) | (refine CallN.turn2 161 160 _ _ _ rfl rfl (by decide) rfl rfl (fun _ _ _ _ h => by cases h) (fun _ _ _ _ h => by cases h) (markVertexS_c vs A2 c2 O2 (1 + c'.length) (by omega) hp8 (by omega) (by omega)) ?_; rintro r N ⟨rfl, rfl⟩) | (refine CallN.retB1 (ss' := [isl (mkL (fun i : Nat => 1 + (i : Int)) l'.length), .i 1]) (heldIntS_c 1 l'.length (by omega) (by omega)) ⟨Lends.rowA (by repeat (first | exact List.mem_cons_self | refine List.mem_cons_of_mem _ ?_)) (by rw [mkL_len]) (fun _ _ _ _ => rfl), Lends.refl _, trivial⟩ (by exact trivial) ?_)) <;> conv => whnf) | (with_reducible exact trivial) | ((with_reducible refine And.intro ?_ ?_) <;> conv => whnf) | (intro gn; conv => whnf))
  all_goals first | exact Fin.gx (r' := .b true) (by refine PP.start ?_; repeat (first | exact PP.nil | refine PP.take (by first | with_reducible exact Hp.Sub.refl _ | exact Hp.Sub.rd (by omega) | exact Hp.Sub.boxA (by (repeat (first | exact all_lt_zero | refine all_lt_succ (p := fun j => CellLe _ _) (by first | with_reducible exact CellLe.refl _ | exact CellLe.own | exact CellLe.i (by omega) | exact CellLe.nil | exact CellLe.slNil | exact CellLe.refl _) ?_))) | exact Hp.Sub.refl _) ?_ | refine PP.skip ?_)) (CellLe.refl _) rfl | (exfalso; omega) | trace_state⟩
end Go.Proofs.YtpmhikdefbcofaaDoor
/-! YtpmhikdefbcofaaDoorCzL -/
set_option linter.all false
namespace Go.Proofs.YtpmhikdefbcofaaDoor
open Go Go.RowKit Go.ChangeShapes Go.WideShapes

set_option maxRecDepth 100000 in
theorem fnExactCommitWaves_met (os : Os) : laidMet Tryd.prog laid3 (({ World.holding Tryd.prog os ⟨#[.cells #[.string { data := #[116, 104, 101, 32, 103, 114, 97, 112, 104, 32, 111, 114, 32, 116, 104, 101, 32, 108, 101, 97, 100, 101, 114, 115, 32, 97, 114, 101, 32, 105, 110, 118, 97, 108, 105, 100] }] 155, .cells #[.string { data := #[116, 104, 101, 114, 101, 32, 105, 115, 32, 110, 111, 32, 115, 117, 99, 104, 32, 119, 97, 118, 101] }] 155, .cells #[.string { data := #[116, 104, 101, 32, 108, 101, 97, 100, 101, 114, 32, 104, 97, 115, 32, 110, 111, 32, 118, 101, 114, 116, 101, 120, 32, 105, 110, 32, 116, 104, 105, 115, 32, 119, 97, 118, 101] }] 155], #[], []⟩ with heap := (((((((World.holding Tryd.prog os ⟨#[.cells #[.string { data := #[116, 104, 101, 32, 103, 114, 97, 112, 104, 32, 111, 114, 32, 116, 104, 101, 32, 108, 101, 97, 100, 101, 114, 115, 32, 97, 114, 101, 32, 105, 110, 118, 97, 108, 105, 100] }] 155, .cells #[.string { data := #[116, 104, 101, 114, 101, 32, 105, 115, 32, 110, 111, 32, 115, 117, 99, 104, 32, 119, 97, 118, 101] }] 155, .cells #[.string { data := #[116, 104, 101, 32, 108, 101, 97, 100, 101, 114, 32, 104, 97, 115, 32, 110, 111, 32, 118, 101, 114, 116, 101, 120, 32, 105, 110, 32, 116, 104, 105, 115, 32, 119, 97, 118, 101] }] 155], #[], []⟩).heap).modify 0 fun | .cells _ t fr => .cells #[.iface 129 (.pointer (some ⟨(World.holding Tryd.prog default ⟨#[], #[], []⟩).heap.size + 0, 0, none⟩))] t fr | o => o)).modify 1 fun | .cells _ t fr => .cells #[.iface 129 (.pointer (some ⟨(World.holding Tryd.prog default ⟨#[], #[], []⟩).heap.size + 1, 0, none⟩))] t fr | o => o)).modify 2 fun | .cells _ t fr => .cells #[.iface 129 (.pointer (some ⟨(World.holding Tryd.prog default ⟨#[], #[], []⟩).heap.size + 2, 0, none⟩))] t fr | o => o) } : World).forCall (fun _ _ => 0) ⟨#[], #[.slice none 0 0, .slice none 0 0, .slice none 0 0], []⟩).memory :=
  laidMet_of_run (ps := [.cell 0 0, .cell ((World.holding Tryd.prog default ⟨#[], #[], []⟩).heap.size + 0) 0, .cell 1 0, .cell ((World.holding Tryd.prog default ⟨#[], #[], []⟩).heap.size + 1) 0, .cell 2 0, .cell ((World.holding Tryd.prog default ⟨#[], #[], []⟩).heap.size + 2) 0]) 8 (by kernel_rfl) (by kernel_rfl) (by kernel_rfl)
set_option maxRecDepth 100000 in
theorem fnExactCommitWaves_holds : Rows.FnExactCommitWavesSaid := by
  refine OpenClaim.holds_of_wide 9 Tryd.f9 rfl rfl rfl rfl rfl rfl rfl ⟨rfl, rfl, rfl, rfl, rfl⟩ rfl rfl rfl rfl rfl (by kernel_rfl) Tryd.func9 (by kernel_rfl)
    (of_decide_eq_true (by kernel_rfl)) (by unfold Func.isWrapper; rw [if_neg (of_decide_eq_false (by kernel_rfl))]; exact ⟨rfl, rfl⟩)
    (fun os started H enc _ => ?_)
  refine law_liftedX (s := Rows.fnExactCommitWavesSpec) started Tryd.func9 (by kernel_rfl) Tryd.underlying4 rfl (by kernel_rfl) rfl (fun ds g0 g1 g2 hl => ?_)
    (ChangeSpec.witness_at (enc := enc) (C := Tryd.checked) (os := os) (X := fun w _ => laidMet Tryd.prog laid3 w) false ({ World.holding Tryd.prog os ⟨#[.cells #[.string { data := #[116, 104, 101, 32, 103, 114, 97, 112, 104, 32, 111, 114, 32, 116, 104, 101, 32, 108, 101, 97, 100, 101, 114, 115, 32, 97, 114, 101, 32, 105, 110, 118, 97, 108, 105, 100] }] 155, .cells #[.string { data := #[116, 104, 101, 114, 101, 32, 105, 115, 32, 110, 111, 32, 115, 117, 99, 104, 32, 119, 97, 118, 101] }] 155, .cells #[.string { data := #[116, 104, 101, 32, 108, 101, 97, 100, 101, 114, 32, 104, 97, 115, 32, 110, 111, 32, 118, 101, 114, 116, 101, 120, 32, 105, 110, 32, 116, 104, 105, 115, 32, 119, 97, 118, 101] }] 155], #[], []⟩ with heap := (((((((World.holding Tryd.prog os ⟨#[.cells #[.string { data := #[116, 104, 101, 32, 103, 114, 97, 112, 104, 32, 111, 114, 32, 116, 104, 101, 32, 108, 101, 97, 100, 101, 114, 115, 32, 97, 114, 101, 32, 105, 110, 118, 97, 108, 105, 100] }] 155, .cells #[.string { data := #[116, 104, 101, 114, 101, 32, 105, 115, 32, 110, 111, 32, 115, 117, 99, 104, 32, 119, 97, 118, 101] }] 155, .cells #[.string { data := #[116, 104, 101, 32, 108, 101, 97, 100, 101, 114, 32, 104, 97, 115, 32, 110, 111, 32, 118, 101, 114, 116, 101, 120, 32, 105, 110, 32, 116, 104, 105, 115, 32, 119, 97, 118, 101] }] 155], #[], []⟩).heap).modify 0 fun | .cells _ t fr => .cells #[.iface 129 (.pointer (some ⟨(World.holding Tryd.prog default ⟨#[], #[], []⟩).heap.size + 0, 0, none⟩))] t fr | o => o)).modify 1 fun | .cells _ t fr => .cells #[.iface 129 (.pointer (some ⟨(World.holding Tryd.prog default ⟨#[], #[], []⟩).heap.size + 1, 0, none⟩))] t fr | o => o)).modify 2 fun | .cells _ t fr => .cells #[.iface 129 (.pointer (some ⟨(World.holding Tryd.prog default ⟨#[], #[], []⟩).heap.size + 2, 0, none⟩))] t fr | o => o) } : World) #[.slice none 0 0, .slice none 0 0, .slice none 0 0] 12 rfl (by kernel_rfl) (by kernel_rfl) (by kernel_rfl) (by kernel_rfl) (by kernel_rfl) (fnExactCommitWaves_met os)) ?_
  · match ds, hl with
    | [d0, d1, d2], _ => exact ⟨rfl, rfl, rfl⟩
  · intro W base args ds ps u g gk hval hA
    have hlen : ds.length = 3 := by
      have := trodAll_len hA
      simpa using this
    match ds, hlen with
    | [d0, d1, d2], _ =>
      obtain ⟨v0, v1, v2, p0, p1, p2, hvs, h0, h1, h2⟩ := trodAll_three hA
      obtain rfl : args = #[v0, v1, v2] := by
        obtain ⟨al⟩ := args
        exact congrArg Array.mk hvs
      obtain ⟨l0, i0, b0, a0⟩ := arg_ints Tryd.underlying22 Tryd.underlying3 (by kernel_rfl) (hval 0 _ v0 rfl rfl) h0
      obtain ⟨l1, i1, b1, a1⟩ := arg_slice vxF okVx Tryd.underlying23 (by kernel_rfl) (by decide) (fun cs h => td_vx h) (hval 1 _ v1 rfl rfl) h1
      obtain ⟨l2, i2, b2, a2⟩ := arg_ints Tryd.underlying22 Tryd.underlying3 (by kernel_rfl) (hval 2 _ v2 rfl rfl) h2
      exact law_callsX (fun u => FnExactCommitWaves_c u l0 l1 l2 b1 b0 b2 i1) g gk ⟨isl_out g a0, vsl_out g a1, isl_out g a2, trivial⟩
theorem fnExactCommitWavesCard_holds : Rows.FnExactCommitWavesCardSaid :=
  Claim7.holds_tied_plain_at .later [] [.sentinel, .sentinel, .sentinel] true (true, "1129c18850a65897b594c0531a1d11247b34bd3f40ada531a1dd26bb9c318587") true
    fnExactCommitWaves_holds (fun _ h => by cases h) (by kernel_rfl) (fun _ h => by cases h) fnExactCommitWaves_row_tie rfl ⟨rfl, rfl⟩ (by kernel_rfl) rfl
    (fun f fn hf hfn => by
      obtain rfl : f = 9 := Option.some.inj ((show Tryd.prog.funcNamed "loop.example/dagconsensus/laws.FnExactCommitWaves" = some 9 by kernel_rfl).symm.trans hf) |>.symm
      obtain rfl : fn = Tryd.f9 := (Option.some.inj (Tryd.func9.symm.trans hfn)).symm
      exact ⟨by kernel_rfl, fun j t ht => by
        rw [Tryd.params9] at ht
        have hm : t ∈ [22, 23, 22] := by simpa using Array.mem_of_getElem? ht
        have hall : ([22, 23, 22].all fun u => !Tryd.prog.wantsStandIn u) = true := by kernel_rfl
        exact (show Tryd.prog.wantsStandIn t = false by simpa using List.all_eq_true.1 hall t hm)⟩)
    (by kernel_rfl)
end Go.Proofs.YtpmhikdefbcofaaDoor
