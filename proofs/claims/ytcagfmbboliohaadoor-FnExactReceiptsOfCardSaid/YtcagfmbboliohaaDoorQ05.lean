/- Texts of this proof put together: SxF. -/
import Derived.Deep.AppendSrc
import Derived.Lib.AppendZerosOnto
import Derived.Test.YtcagfmbboliohaaDoorQ01
import Derived.Test.YtcagfmbboliohaaDoorQ02
import Derived.Test.YtcagfmbboliohaaDoorQ03
import Derived.Test.YtcagfmbboliohaaDoorQ04
/-! YtcagfmbboliohaaDoorSxF -/
set_option linter.all false


namespace Go.Proofs.YtcagfmbboliohaaDoor

section
variable {P : Program} {t : TypeId} {i : TI} {w : World} {F : Nat → Prop} {L : Hpl} {nx : Nat} {K : KK} {tt : List (Nat × TI)}

theorem s_slice {x : SV} {lo hi : Option SV} {vx : Value} {vlo vhi : Option Value} {K : SV → Prop} (h : (pSlice i x lo hi).run K) (ht : TIok P t i) (hx : Has w F x vx)
    (hlo : (lo = none ∧ vlo = none) ∨ ∃ s v, lo = some s ∧ vlo = some v ∧ Has w F s v) (hhi : (hi = none ∧ vhi = none) ∨ ∃ s v, hi = some s ∧ vhi = some v ∧ Has w F s v) :
    ∃ v r, (Instr.sliceAt t vx vlo vhi none).run P w = .ok v w ∧ K r ∧ Has w F r v := by
  have key : ∀ {e esz eby : Nat} {zs : List Value}, i = .slc e esz eby zs → ∀ {n : Nat} {f : Nat → Nat → SV}, Has w F (.sl esz n f) vx → ∀ (l m : Nat), l ≤ m → m ≤ n → ∀ (A : Option Addr) (c : Nat), vx = .slice A n c →
      Has w F (.sl esz (m - l) fun j => f (l + j)) (.slice (if c = l then A else A.map (·.add (l * esz))) (m - l) (c - l)) := by
    rintro e esz eby zs rfl n f ⟨A', c', e1, hnc, hcm, hc⟩ l m hlm hmn A c rfl
    injection e1 with e1 e2 e3
    subst e1
    subst e3
    refine ⟨_, _, rfl, by omega, by omega, fun hp => ?_⟩
    obtain ⟨b, off, rfl, hF, hc⟩ := hc (by omega)
    refine ⟨b, off + l * esz, by rw [if_neg (by omega)]; simp [addr_add'], hF, fun j k hj hk => ?_⟩
    have := hc (l + j) k (by omega) hk
    rwa [Nat.add_mul, show off + (l * esz + j * esz + k) = off + l * esz + (j * esz + k) by omega] at this
  unfold pSlice at h
  split at h
  · rename_i e esz eby zs sz n f
    have ht' := ht
    obtain ⟨ie, ti, z, g1, g2, g3, _⟩ := ht'
    obtain ⟨A, c, rfl, hnc, hcm, hc⟩ := id hx
    split at h
    · rename_i k1 l k2 m
      obtain ⟨⟨h0, h1, h2, rfl⟩, hK⟩ := h
      rcases hlo with ⟨hc, _⟩ | ⟨s, v, e1, rfl, hv⟩
      · cases hc
      rcases hhi with ⟨hc, _⟩ | ⟨s', v', e1', rfl, hv'⟩
      · cases hc
      injection e1 with e1; subst e1; injection e1' with e1'; subst e1'
      simp only [Has] at hv hv'
      subst hv
      subst hv'
      refine ⟨_, _, ?_, hK, key rfl hx l.toNat m.toNat (by omega) (by omega) A c rfl⟩
      have a1 : m ≤ (c : Int) := by omega
      have a2 : l ≤ max m 0 := by omega
      have a3 : 0 ≤ m := by omega
      simp [Instr.sliceAt, Instr.slice, run_underlying g1, Instr.sliceBounds, Instr.sliceBound, asIntOf, h0, a1, a2, a3, sizeOf, typeInfo, program, Sem.run, g2, g3]
    · rename_i k2 m
      obtain ⟨⟨h1, h2, rfl⟩, hK⟩ := h
      rcases hlo with ⟨_, rfl⟩ | ⟨s, v, e1, rfl, hv⟩
      rotate_left
      · cases e1
      rcases hhi with ⟨hc, _⟩ | ⟨s', v', e1', rfl, hv'⟩
      · cases hc
      injection e1' with e1'; subst e1'
      simp only [Has] at hv'
      subst hv'
      have := key rfl hx 0 m.toNat (by omega) (by omega) A c rfl
      simp only [Nat.zero_mul, Nat.sub_zero, Nat.zero_add] at this
      refine ⟨_, _, ?_, hK, this⟩
      have a1 : m ≤ (c : Int) := by omega
      simp [Instr.sliceAt, Instr.slice, run_underlying g1, Instr.sliceBounds, Instr.sliceBound, asIntOf, h1, a1, sizeOf, typeInfo, program, Sem.run, g2, g3]
    · rename_i k1 l
      obtain ⟨⟨h0, h1, rfl⟩, hK⟩ := h
      rcases hlo with ⟨hc, _⟩ | ⟨s, v, e1, rfl, hv⟩
      · cases hc
      rcases hhi with ⟨_, rfl⟩ | ⟨s', v', e1', rfl, hv'⟩
      rotate_left
      · cases e1'
      injection e1 with e1; subst e1
      simp only [Has] at hv
      subst hv
      refine ⟨_, _, ?_, hK, key rfl hx l.toNat n (by omega) (by omega) A c rfl⟩
      simp [Instr.sliceAt, Instr.slice, run_underlying g1, Instr.sliceBounds, Instr.sliceBound, asIntOf, h0, h1, sizeOf, typeInfo, program, Sem.run, g2, g3]
    · exact False.elim h
  · rename_i z s
    have ht' := ht
    obtain ⟨ie, g1, _⟩ := ht'
    have hx : vx = _ := hx
    subst hx
    split at h
    · rename_i k1 l k2 m
      obtain ⟨⟨h0, h1, h2⟩, hK⟩ := h
      rcases hlo with ⟨hc, _⟩ | ⟨s, v, e1, rfl, hv⟩
      · cases hc
      rcases hhi with ⟨hc, _⟩ | ⟨s', v', e1', rfl, hv'⟩
      · cases hc
      injection e1 with e1; subst e1; injection e1' with e1'; subst e1'
      simp only [Has] at hv hv'
      subst hv
      subst hv'
      refine ⟨_, _, ?_, hK, rfl⟩
      have a2 : l ≤ max m 0 := by omega
      have a3 : 0 ≤ m := by omega
      simp [Instr.sliceAt, Instr.slice, run_underlying g1, Instr.sliceBounds, Instr.sliceBound, asIntOf, h0, h2, a2, a3, program, Sem.run]
    · exact False.elim h
  · exact False.elim h

theorem not_iface (ht : TIok P t i) (hi : ∃ K0 : SV → Prop, ∃ x, (pMkI i t x).run K0) : ∃ d, P.underlying t = some d ∧ (∀ ms, d ≠ .interface ms) := by
  obtain ⟨K0, x, h⟩ := hi
  unfold pMkI at h
  cases i with
  | bad => exact False.elim h
  | sc d z => obtain ⟨ti, h1, _⟩ := ht; exact ⟨d, h1, fun ms e => by subst e; exact False.elim h⟩
  | st sz fl zs q => obtain ⟨_, fs, ti, h1, _⟩ := ht; exact ⟨_, h1, fun ms e => by cases e⟩
  | ar len esz sz zs => obtain ⟨_, e, ti, ie, h1, _⟩ := ht; exact ⟨_, h1, fun ms e => by cases e⟩
  | slc e esz eby zs => obtain ⟨ie, ti, z, h1, _⟩ := ht; exact ⟨_, h1, fun ms e => by cases e⟩
theorem s_mkI {x : SV} {vx : Value} {K : SV → Prop} (h : (pMkI i t x).run K) (ht : TIok P t i) (hx : Has w F x vx) : ∃ v r, (Instr.makeInterface t vx).run P w = .ok v w ∧ K r ∧ Has w F r v := by
  obtain ⟨d, hd, hne⟩ := not_iface ht ⟨K, x, h⟩
  have hK : K (.ifc t x) := by
    unfold pMkI at h
    split at h <;> first | exact h | exact False.elim h
  refine ⟨.iface t vx, _, ?_, hK, vx, rfl, hx⟩
  unfold Instr.makeInterface
  simp only [Sem.run_bind, run_underlying hd, Result.andThen_ok]
  cases d <;> first | rfl | exact absurd rfl (hne _)
theorem zv_has (ht : TIok P t i) (hb : i ≠ .bad) : ∃ z, (zeroValue t).run P w = .ok z w ∧ Has w F i.zv z := by
  cases i with
  | bad => exact absurd rfl hb
  | sc d z =>
    obtain ⟨ti, _, _, h3, _, h5, _⟩ := ht
    exact ⟨z, by unfold zeroValue typeInfo; simp [program, Sem.run, h3, h5], rfl⟩
  | st sz fl zs q =>
    obtain ⟨rfl, fs, ti, _, h2, _, h4, _, _, h7, _⟩ := ht
    exact ⟨.agg zs.toArray, by unfold zeroValue typeInfo; simp [program, Sem.run, h2, h4], zs.toArray, rfl, by simp, fun k hk => by have := (zF_has (w := w) (F := F) h7 k hk).2; simpa [Array.getD_eq_getD_getElem?, List.getD_eq_getElem?_getD] using this⟩
  | ar len esz sz zs =>
    obtain ⟨rfl, e, ti, ie, _, _, _, h2, h3, h4, h7, _⟩ := ht
    exact ⟨.agg zs.toArray, by unfold zeroValue typeInfo; simp [program, Sem.run, h2, h4], zs.toArray, rfl, by simp, fun k hk => by have := (zF_has (w := w) (F := F) h7 k hk).2; simpa [Array.getD_eq_getD_getElem?, List.getD_eq_getElem?_getD] using this⟩
  | slc e esz eby zs =>
    obtain ⟨ie, ti, z, _, _, _, _, _, _, _, _, _, _, h2, _, h4⟩ := ht
    exact ⟨_, by unfold zeroValue typeInfo; simp [program, Sem.run, h2, h4], rfl⟩
theorem s_assert {x : SV} {vx : Value} {xt : TypeId} {ok : Bool} {K : SV → Prop} (h : (pAssert i t x ok).run K) (ht : TIok P t i) (hx : Has w F x vx) : ∃ v r, (Instr.typeAssert vx xt t ok).run P w = .ok v w ∧ K r ∧ Has w F r v := by
  unfold pAssert at h
  split at h
  · rename_i t' s
    obtain ⟨v, rfl, hv⟩ := hx
    have key : (∃ d, P.underlying t = some d ∧ (∀ ms, d ≠ .interface ms)) ∧ i ≠ .bad ∧ (PR.run (bif Nat.beq t' t then .nc (.tup 2 (litF [s, .val (.bool true)])) else .nc (.tup 2 (litF [i.zv, .val (.bool false)]))) K) := by
      cases i with
      | bad => exact False.elim h
      | sc d z => cases d <;> first | exact False.elim h | exact ⟨not_iface ht ⟨fun _ => True, .any, trivial⟩, (fun h => by cases h), h⟩
      | st sz fl zs q => exact ⟨not_iface ht ⟨fun _ => True, .any, trivial⟩, (fun h => by cases h), h⟩
      | ar len esz sz zs => exact ⟨not_iface ht ⟨fun _ => True, .any, trivial⟩, (fun h => by cases h), h⟩
      | slc e esz eby zs => exact ⟨not_iface ht ⟨fun _ => True, .any, trivial⟩, (fun h => by cases h), h⟩
    obtain ⟨⟨d, hd, hne⟩, hb, h2⟩ := key
    clear h
    cases e : Nat.beq t' t
    · rw [e, cond_false] at h2
      have hne2 : t' ≠ t := fun e' => by subst e'; rw [Nat.beq_refl] at e; cases e
      obtain ⟨z, hz, hzv⟩ := zv_has (w := w) (F := F) ht hb
      refine ⟨.tuple #[z, .bool false], _, ?_, h2, _, rfl, rfl, fun k hk => ?_⟩
      · unfold Instr.typeAssert
        simp only [Sem.run_bind, run_underlying hd, Result.andThen_ok]
        cases d <;> first | exact absurd rfl (hne _) | simp [hne2, Sem.run_bind, hz]
      · rcases (by omega : k = 0 ∨ k = 1) with rfl | rfl
        · exact hzv
        · rfl
    · rw [e, cond_true] at h2
      have := Nat.eq_of_beq_eq_true e
      subst this
      refine ⟨.tuple #[v, .bool true], _, ?_, h2, _, rfl, rfl, fun k hk => ?_⟩
      · unfold Instr.typeAssert
        simp only [Sem.run_bind, run_underlying hd, Result.andThen_ok]
        cases d <;> first | exact absurd rfl (hne _) | simp
      · rcases (by omega : k = 0 ∨ k = 1) with rfl | rfl
        · exact hv
        · rfl
  · exact False.elim h
theorem s_conv {s d : TypeId} {j : TI} {x : SV} {vx : Value} {K : SV → Prop} (h : (pConv i j x).run K) (hi : TIok P s i) (hj : TIok P d j) (hx : Has w F x vx) : ∃ v r, (convert s d vx).run P w = .ok v w ∧ K r ∧ Has w F r v := by
  unfold pConv at h
  split at h
  · rename_i k0 _ k _ k1 n
    obtain ⟨ti, h1, _⟩ := hi
    obtain ⟨tj, h2, _⟩ := hj
    simp only [Has] at hx
    subst hx
    obtain ⟨_, z, hz, hK⟩ := h
    refine ⟨.int k (k.wrap n), _, ?_, hK, by rw [← hz]; rfl⟩
    unfold convert
    simp [Sem.run_bind, run_underlying h1, run_underlying h2, Conv.intToInt]
  · exact False.elim h
theorem s_max {l : List SV} {vs : List Value} {K : SV → Prop} {ts : Array TypeId} {ty : TypeId} (h : (pMax l).run K) (hv : HasL w F l vs) : ∃ v r, (Builtin.max_ ts ty vs.toArray).run P w = .ok v w ∧ K r ∧ Has w F r v := by
  unfold pMax at h
  split at h
  · rename_i k x k' y
    match vs, hv with
    | [a, b], ⟨ha, hb, _⟩ =>
      simp only [Has] at ha hb
      subst ha
      subst hb
      refine ⟨.int k (if y > x then y else x), _, ?_, h, rfl⟩
      simp [Builtin.max_, Builtin.max2]
  · exact False.elim h
/-- a slice that owns its row, cut -/
theorem s_cut {x : SV} {lo hi : Option SV} {vx : Value} {vlo vhi : Option Value} (h : sSlice i x lo hi L nx K) (ht : TIok P t i) (hs : HSat w F (L.map Prod.snd)) (hx : Has w F x vx)
    (hlo : (lo = none ∧ vlo = none) ∨ ∃ s v, lo = some s ∧ vlo = some v ∧ Has w F s v) (hhi : (hi = none ∧ vhi = none) ∨ ∃ s v, hi = some s ∧ vhi = some v ∧ Has w F s v) :
    ∃ v w', (Instr.sliceAt t vx vlo vhi none).run P w = .ok v w' ∧ Out w F K v w' := by
  unfold sSlice at h
  split at h
  · rename_i k v
    split at h
    · rename_i e esz eby zs kk m
      split at h
      · rename_i v' e' sz n f hk
        obtain ⟨⟨rfl, h0, h1, rfl⟩, h⟩ := h
        simp only [Has] at hx
        subst hx
        rcases hlo with ⟨_, rfl⟩ | ⟨s, v, e1, rfl, hv⟩
        rotate_left
        · cases e1
        rcases hhi with ⟨hc, _⟩ | ⟨s', v', e1', rfl, hv'⟩
        · cases hc
        injection e1' with e1'; subst e1'
        simp only [Has] at hv'
        subst hv'
        have hs1 := hs.lk hk (by simp)
        obtain ⟨xs, ho, hc⟩ := hs1.holds _ List.mem_cons_self
        obtain ⟨ie, ti, z, g1, g2, g3, _⟩ := ht
        have hsz : m.toNat * sz ≤ n * sz := Nat.mul_le_mul_right _ (by omega)
        have hcells : ∀ i k, i < m.toNat → k < sz → ((xs.take (m.toNat * sz)).getD (i * sz + k) undef).oneCell' = true ∧ Has w F (f i k) ((xs.take (m.toNat * sz)).getD (i * sz + k) undef) := fun i k hi hk => by
          have hidx : i * sz + k < m.toNat * sz := by
            have : (i + 1) * sz ≤ m.toNat * sz := Nat.mul_le_mul_right _ (by omega)
            rw [Nat.succ_mul] at this
            omega
          have := hc i k (by omega) hk
          rw [List.getD_eq_getElem?_getD, List.getElem?_take, if_pos hidx, ← List.getD_eq_getElem?_getD]
          exact this
        rcases ho.2 with ⟨rfl, rfl⟩ | ⟨g, cap, cur, rfl, hg0, hg, hnc, hcm, hcs, htk⟩
        · have hm : m = 0 := by omega
          subst hm
          refine ⟨.slice none 0 0, w, ?_, _, _, _, F, h none 0, Keep.refl _ _, fun _ h => h, ?_, rfl⟩
          · simp [Instr.sliceAt, Instr.slice, run_underlying g1, Instr.sliceBounds, Instr.sliceBound, asIntOf, sizeOf, typeInfo, program, Sem.run, g2, g3]
          · refine (HSat.setK (h' := .emp) hk (by simp) hs1.drop1).cons (Nat.le_refl _) (fun _ _ => rfl) ?_ fun b hb => by cases hb
            exact ⟨[], World.ownsRow_nil _ _ _ _, fun i k hi => absurd hi (by simp)⟩
        · refine ⟨.slice (some ⟨g, 0, none⟩) m.toNat cap, w, ?_, _, _, _, F, h (some ⟨g, 0, none⟩) cap, Keep.refl _ _, fun _ h => h, ?_, rfl⟩
          · have a1 : m ≤ (cap : Int) := by omega
            simp [Instr.sliceAt, Instr.slice, run_underlying g1, Instr.sliceBounds, Instr.sliceBound, asIntOf, h0, a1, sizeOf, typeInfo, program, Sem.run, g2, g3, Addr.add]
          · have hs2 : HSat w F (.row (.slice (some ⟨g, 0, none⟩) m.toNat cap) e' sz m.toNat f :: offK k L) := hs1.turn (Nat.le_refl _) (fun _ _ _ => rfl) ⟨xs.take (m.toNat * sz), ⟨by rw [List.length_take, ho.1]; omega, .inr ⟨g, cap, cur, rfl, hg0, hg, by omega, hcm, hcs, by rw [← htk, List.take_take, Nat.min_eq_left hsz]⟩⟩, hcells⟩ fun b hb => ⟨(hs1.fp _ List.mem_cons_self b hb).1, .inl hb⟩
            refine HSat.perm ?_ ((setK_perm (h' := .emp) (hasK_of (by rw [hk]; simp))).symm.cons _)
            have := hs2
            refine ⟨fun p hp => ?_, fun p hp b hb => ?_, ?_, hs2.lt⟩
            · rcases List.mem_cons.1 hp with rfl | hp
              · exact hs2.holds _ List.mem_cons_self
              · rcases List.mem_cons.1 hp with rfl | hp
                · trivial
                · exact hs2.holds _ (List.mem_cons_of_mem _ hp)
            · rcases List.mem_cons.1 hp with rfl | hp
              · exact hs2.fp _ List.mem_cons_self b hb
              · rcases List.mem_cons.1 hp with rfl | hp
                · exact hb.elim
                · exact hs2.fp _ (List.mem_cons_of_mem _ hp) b hb
            · have hap := List.pairwise_cons.1 hs2.apart
              refine List.pairwise_cons.2 ⟨fun q hq b hb hbq => ?_, List.pairwise_cons.2 ⟨fun _ _ _ hb => hb.elim, hap.2⟩⟩
              rcases List.mem_cons.1 hq with rfl | hq
              · exact hbq.elim
              · exact hap.1 q hq b hb hbq
      · exact h.elim
    · rename_i e esz eby zs kk l
      split at h
      · rename_i g n c
        split at h
        · rename_i v' e' sz n' f hk
          obtain ⟨⟨rfl, h0, h1, rfl⟩, h⟩ := h
          have hx : vx = _ := hx
          subst hx
          rcases hlo with ⟨hc, _⟩ | ⟨s, v, e1, rfl, hv⟩
          · cases hc
          rcases hhi with ⟨_, rfl⟩ | ⟨s', v', e1', rfl, hv'⟩
          rotate_left
          · cases e1'
          injection e1 with e1; subst e1
          have hv : v = _ := hv
          subst hv
          have hs1 := hs.lk hk (by simp)
          obtain ⟨xs, ho, hc⟩ := hs1.holds _ List.mem_cons_self
          obtain ⟨ie, ti, z, g1, g2, g3, _⟩ := ht
          rcases ho.2 with ⟨e0, _⟩ | ⟨g', cap, cur, e0, hg0, hg, hnc, hcm, hcs, htk⟩
          · cases e0
          · injection e0 with e0 e2 e3
            subst e3
            have a1 : l ≤ (n : Int) := h1
            refine ⟨.slice (if c = l.toNat then some ⟨g, 0, none⟩ else (some ⟨g, 0, none⟩ : Option Addr).map (·.add (l.toNat * sz))) (n - l.toNat) (c - l.toNat), w, ?_, Out.same h hs ⟨by omega, by omega, _, rfl, fun hp => ?_⟩⟩
            · have a2 : (n : Int) ≤ c := by omega
              simp [Instr.sliceAt, Instr.slice, run_underlying g1, Instr.sliceBounds, Instr.sliceBound, asIntOf, h0, a1, a2, sizeOf, typeInfo, program, Sem.run, g2, g3]
            · rw [if_neg (by omega)]
              simp [addr_add']
        · exact h.elim
      · exact h.elim
    · exact h.elim
  · rename_i k g sz i0 n c
    obtain ⟨hnc, hcm, A, rfl, hA⟩ := hx
    split at h
    · rename_i e esz eby zs kk l
      obtain ⟨⟨h0, h1, rfl⟩, h⟩ := h
      rcases hlo with ⟨hc, _⟩ | ⟨s, v, e1, rfl, hv⟩
      · cases hc
      rcases hhi with ⟨_, rfl⟩ | ⟨s', v', e1', rfl, hv'⟩
      rotate_left
      · cases e1'
      injection e1 with e1; subst e1
      have hv : v = _ := hv
      subst hv
      obtain ⟨ie, ti, z, g1, g2, g3, _⟩ := ht
      refine ⟨.slice (if c = l.toNat then A else A.map (·.add (l.toNat * sz))) (n - l.toNat) (c - l.toNat), w, ?_, Out.same h hs ⟨by omega, by omega, _, rfl, fun hp => ?_⟩⟩
      · simp [Instr.sliceAt, Instr.slice, run_underlying g1, Instr.sliceBounds, Instr.sliceBound, asIntOf, h0, h1, sizeOf, typeInfo, program, Sem.run, g2, g3]
      · rw [if_neg (by omega), hA (by omega), Nat.add_mul]
        simp [addr_add']
    · rename_i e esz eby zs kk m
      obtain ⟨⟨h0, h1, rfl⟩, h⟩ := h
      rcases hlo with ⟨_, rfl⟩ | ⟨s, v, e1, rfl, hv⟩
      rotate_left
      · cases e1
      rcases hhi with ⟨hc, _⟩ | ⟨s', v', e1', rfl, hv'⟩
      · cases hc
      injection e1' with e1'; subst e1'
      have hv' : v' = _ := hv'
      subst hv'
      obtain ⟨ie, ti, z, g1, g2, g3, _⟩ := ht
      refine ⟨.slice (if c = 0 then A else A.map (·.add (0 * sz))) m.toNat c, w, ?_, Out.same h hs ⟨by omega, hcm, _, rfl, fun hp => ?_⟩⟩
      · have a1 : m ≤ (c : Int) := by omega
        simp [Instr.sliceAt, Instr.slice, run_underlying g1, Instr.sliceBounds, Instr.sliceBound, asIntOf, h0, a1, sizeOf, typeInfo, program, Sem.run, g2, g3]
      · rw [if_neg (by omega), hA hp]
        simp [addr_add']
    · exact h.elim
  · obtain ⟨v, r, hr, hK, hv⟩ := s_slice h ht hx hlo hhi
    exact ⟨v, w, hr, Out.same hK hs hv⟩

/-- a source of an append reads -/
def SrcAt (w : World) (F : Nat → Prop) (v : Value) (sz m : Nat) (g : Nat → Nat → SV) : Prop :=
  ∃ D c news, v = .slice D m c ∧ Reads w w.heap.size sz D m news ∧ ∀ i k, i < m → k < sz → (news.getD (i * sz + k) undef).oneCell' = true ∧ Has w F (g i k) (news.getD (i * sz + k) undef)

theorem own_idx {i k n sz : Nat} (hi : i < n) (hk : k < sz) : i * sz + k < n * sz := by
  have : (i + 1) * sz ≤ n * sz := Nat.mul_le_mul_right _ hi
  rw [Nat.succ_mul] at this
  omega

theorem src_of_cells {b off sz m c : Nat} {g : Nat → Nat → SV} (hsz : 0 < sz) (hb : b < w.heap.size) (hc : ∀ i k, i < m → k < sz → ∃ u, w.cell? ⟨b, off + (i * sz + k), none⟩ = some u ∧ u.oneCell' = true ∧ Has w F (g i k) u) : SrcAt w F (.slice (some ⟨b, off, none⟩) m c) sz m g := by
  have hdm : ∀ j, j < m * sz → j / sz < m ∧ j % sz < sz ∧ j / sz * sz + j % sz = j := fun j hj => ⟨(Nat.div_lt_iff_lt_mul hsz).2 hj, Nat.mod_lt _ hsz, Nat.div_add_mod' j sz⟩
  refine ⟨_, c, (List.range (m * sz)).map fun j => (w.cell? ⟨b, off + j, none⟩).getD undef, rfl, ⟨by simp, fun _ => ⟨b, off, rfl, hb, fun j u hu => ?_⟩⟩, fun i k hi hk => ?_⟩
  · have hj : j < m * sz := by
      have := (List.getElem?_eq_some_iff.1 hu).1
      simpa using this
    obtain ⟨h1, h2, h3⟩ := hdm j hj
    obtain ⟨u', hu', _⟩ := hc _ _ h1 h2
    rw [h3] at hu'
    simp [hj, hu'] at hu
    rw [← hu]
    exact hu'
  · obtain ⟨u', hu', h1, h2⟩ := hc i k hi hk
    have e : ((List.range (m * sz)).map fun j => (w.cell? ⟨b, off + j, none⟩).getD undef).getD (i * sz + k) undef = u' := by
      simp [List.getD_eq_getElem?_getD, own_idx hi hk, hu']
    rw [e]
    exact ⟨h1, h2⟩
theorem sl_src {sz m : Nat} {g : Nat → Nat → SV} {v : Value} (hs : HSat w F (L.map Prod.snd)) (hsz : 0 < sz) (h : Has w F (.sl sz m g) v) : SrcAt w F v sz m g := by
  obtain ⟨A, c, rfl, hnc, _, hc⟩ := h
  rcases Nat.eq_zero_or_pos m with rfl | hm
  · exact ⟨A, c, [], rfl, Reads.nil, fun i k hi => absurd hi (by omega)⟩
  · obtain ⟨b, off, rfl, hF, hc⟩ := hc hm
    exact src_of_cells hsz (hs.lt b hF) hc
/-- a part of an owned row is looked at -/
theorem vw_src {k g sz i0 n c N : Nat} {l : List Hp} {v' : Value} {e : TypeId} {f : Nat → Nat → SV} {v : Value} (hs : HSat w F (.row v' e sz N f :: l)) (hsz : 0 < sz) (hb : v'.ownBlock = some g) (hN : i0 + n ≤ N) (h0 : 0 < n) (h : Has w F (.vw k g sz i0 n c) v) : SrcAt w F v sz n fun j => f (i0 + j) := by
  obtain ⟨hnc, _, A, rfl, hA⟩ := h
  obtain rfl := hA (by omega)
  refine src_of_cells hsz (hs.fp _ List.mem_cons_self g hb).1 fun i k hi hk => ?_
  obtain ⟨u, h1, h2, h3⟩ := row_cells (hs.holds _ List.mem_cons_self) hb (show i0 + i < N by omega) k hk
  exact ⟨u, by rw [← h1, Nat.add_mul, Nat.add_assoc], h2, h3⟩
theorem row_src {sz m : Nat} {e : TypeId} {g : Nat → Nat → SV} {v : Value} (h : (Hp.row v e sz m g).holds w F) : SrcAt w F v sz m g := by
  obtain ⟨xs, ho, hc⟩ := h
  obtain ⟨A, c, rfl, _⟩ := own_shape ho
  exact ⟨A, c, xs, rfl, Reads.of_own ho, hc⟩

theorem append_has {i k n m sz : Nat} {f g : Nat → Nat → SV} {xs news : List Value} (hx : xs.length = n * sz) (h1 : ∀ i k, i < n → k < sz → (xs.getD (i * sz + k) undef).oneCell' = true ∧ Has w F (f i k) (xs.getD (i * sz + k) undef))
    (h2 : ∀ i k, i < m → k < sz → (news.getD (i * sz + k) undef).oneCell' = true ∧ Has w F (g i k) (news.getD (i * sz + k) undef)) (hi : i < n + m) (hk : k < sz) :
    ((xs ++ news).getD (i * sz + k) undef).oneCell' = true ∧ Has w F (catF n f g i k) ((xs ++ news).getD (i * sz + k) undef) := by
  unfold catF
  by_cases hlt : i < n
  · have := own_idx (n := n) hlt hk
    rw [if_pos hlt, show (xs ++ news).getD (i * sz + k) undef = xs.getD (i * sz + k) undef by simp [List.getD_eq_getElem?_getD, List.getElem?_append_left (show i * sz + k < xs.length by omega)]]
    exact h1 i k hlt hk
  · have e1 : n * sz ≤ i * sz := Nat.mul_le_mul_right _ (by omega)
    have e2 : (i - n) * sz = i * sz - n * sz := Nat.sub_mul _ _ _
    rw [if_neg hlt, show (xs ++ news).getD (i * sz + k) undef = news.getD ((i - n) * sz + k) undef by
      rw [List.getD_eq_getElem?_getD, List.getD_eq_getElem?_getD, List.getElem?_append_right (by omega), hx, e2, show i * sz + k - n * sz = i * sz - n * sz + k by omega]]
    exact h2 _ k (by omega) hk

theorem srcAt_one {sz m : Nat} {g : Nat → Nat → SV} {news : List Value} (hl : news.length = m * sz) (hsz : 0 < sz) (h : ∀ i k, i < m → k < sz → (news.getD (i * sz + k) undef).oneCell' = true ∧ Has w F (g i k) (news.getD (i * sz + k) undef)) : ∀ u ∈ news, u.oneCell' = true := fun u hu => by
  obtain ⟨j, hj, rfl⟩ := List.getElem_of_mem hu
  have := (h (j / sz) (j % sz) ((Nat.div_lt_iff_lt_mul hsz).2 (by omega)) (Nat.mod_lt _ hsz)).1
  rw [Nat.div_add_mod' j sz] at this
  simpa [List.getD_eq_getElem?_getD, hj] using this

theorem sSrc_at {x : SV} {vx : Value} {K : Nat → Nat → (Nat → Nat → SV) → Prop} (h : sSrc x L K) (hs : HSat w F (L.map Prod.snd)) (hx : Has w F x vx) : ∃ sz m g, K sz m g ∧ (0 < sz → SrcAt w F vx sz m g) := by
  unfold sSrc at h
  split at h
  · exact ⟨_, _, _, h, fun hz => sl_src hs hz hx⟩
  · rename_i k v
    simp only [Has] at hx
    subst hx
    split at h
    · rename_i v' e sz m g hk
      obtain ⟨rfl, hK⟩ := h
      exact ⟨_, _, _, hK, fun _ => row_src ((hs.lk hk (by simp)).holds _ List.mem_cons_self)⟩
    · exact h.elim
  · rename_i k g sz i n c
    split at h
    · rename_i v' e sz' N f hk
      obtain ⟨⟨hb, rfl, hN, h0⟩, hK⟩ := h
      exact ⟨_, _, _, hK, fun hz => vw_src (hs.lk hk (by simp)) hz hb hN h0 hx⟩
    · exact h.elim
  · exact h.elim

theorem zeroCells_get {z : Value} {zs : List Value} {esz q j k : Nat} (hz : z.cells.toList = zs) (hl : zs.length = esz) (hj : j < q) (hk : k < esz) : (Builtin.zeroCells z.cells q).toList.getD (j * esz + k) undef = zs.getD k undef := by
  have hsz : z.cells.size = esz := by rw [← hl, ← hz]; simp
  have hlt : j * esz + k < q * esz := own_idx hj hk
  have hmod : (j * esz + k) % esz = k := by rw [Nat.mul_comm, Nat.mul_add_mod]; exact Nat.mod_eq_of_lt hk
  have hk2 : k < z.cells.size := by omega
  unfold Builtin.zeroCells
  simp only [List.getD_eq_getElem?_getD, Array.getElem?_toList, Array.getElem?_map, Array.getElem?_range, hlt, if_true, Option.map_some, Option.getD_some, hsz, hmod, ← hz, hk2, getElem!_pos]
  simp [hk2]
theorem zeroCells_len {z : Value} {zs : List Value} {esz q : Nat} (hz : z.cells.toList = zs) (hl : zs.length = esz) : (Builtin.zeroCells z.cells q).toList.length = q * esz := by
  have hsz : z.cells.size = esz := by rw [← hl, ← hz]; simp
  unfold Builtin.zeroCells
  simp [hsz]
/-- what a slice that looks into a row yields to an append that moves it -/
theorem vw_olds {k g sz i0 n c N : Nat} {l : List Hp} {v' : Value} {e : TypeId} {f : Nat → Nat → SV} {v : Value} (hs : HSat w F (.row v' e sz N f :: l)) (hsz : 0 < sz) (hb : v'.ownBlock = some g) (hN : i0 + n ≤ N) (h : Has w F (.vw k g sz i0 n c) v) :
    ∃ (A : Option Addr) (olds : List Value), v = .slice A n c ∧ (Builtin.firstCells sz n (.slice A n c)).run P w.drew = .ok olds.toArray w.drew ∧ olds.length = n * sz ∧ ∀ i k, i < n → k < sz → (olds.getD (i * sz + k) undef).oneCell' = true ∧ Has w F (f (i0 + i) k) (olds.getD (i * sz + k) undef) := by
  rcases Nat.eq_zero_or_pos n with rfl | h0
  · obtain ⟨_, _, A, rfl, _⟩ := h
    refine ⟨A, [], rfl, ?_, by simp, fun i k hi => absurd hi (by omega)⟩
    cases A with
    | none => exact run_firstCells_none w.drew sz 0 0 c
    | some a => exact run_firstCells_some w.drew sz 0 a 0 c [] (by simp) (fun j v hj => by simp at hj)
  · obtain ⟨D, c', news, e1, hr, hn⟩ := vw_src hs hsz hb hN h0 h
    obtain ⟨hl, hc⟩ := hr
    obtain ⟨b, off, rfl, _, hc⟩ := hc h0
    obtain ⟨_, _, A, rfl, _⟩ := h
    injection e1 with e1 _ e3
    subst e1
    exact ⟨_, news, rfl, run_firstCells_some w.drew sz n ⟨b, off, none⟩ n c news hl (fun j u hj => by rw [addr_add']; exact hc j u hj), hl, hn⟩
/-- a new row with spare cells behind it -/
theorem HSat.cons_rowZ {l : List Hp} (hs : HSat w F l) (e : TypeId) {sz n c : Nat} {cs zs : List Value} {f : Nat → Nat → SV} (hn : cs.length = n * sz) (hz : zs.length = (c - n) * sz) (hnc : n ≤ c) (hcm : c ≤ maxLen) (hc : ∀ i k, i < n → k < sz → (cs.getD (i * sz + k) undef).oneCell' = true ∧ Has w F (f i k) (cs.getD (i * sz + k) undef)) :
    HSat (w.drew.alloc (.cells (cs ++ zs).toArray e)) F (.row (.slice (some ⟨w.heap.size, 0, none⟩) n c) e sz n f :: l) :=
  hs.drew.cons_row e (by rw [List.length_append, hn, hz, ← Nat.add_mul]; congr 1; omega) hnc hcm fun i k hi hk => by
    have hlt := own_idx hi hk
    rw [show (cs ++ zs).getD (i * sz + k) undef = cs.getD (i * sz + k) undef by simp [List.getD_eq_getElem?_getD, List.getElem?_append_left (show i * sz + k < cs.length by omega)]]
    exact ⟨(hc i k hi hk).1, Has.keep (w := w) (w' := w.drew) (fun _ _ => rfl) (hc i k hi hk).2⟩

theorem s_append {s x : SV} {vs vx : Value} {ty : TypeId} (h : sAppend i s x L nx K) (ht : TIok P t i) (hs : HSat w F (L.map Prod.snd)) (hv : Has w F s vs) (hx : Has w F x vx) :
    ∃ v w', (Builtin.append_ #[t, t] ty #[vs, vx]).run P w = .ok v w' ∧ Out w F K v w' := by
  unfold sAppend at h
  split at h
  · rename_i e esz eby zs
    obtain ⟨ie, ti, z, g1, g2, g3, g4, g5, g6, g7, g8, g9, g10, _⟩ := ht
    have hi : (P.info? e).map (fun i => (i.zero, i.size, i.bytes)) = some (some z, esz, eby) := by rw [g2]; simp [g3, g4, g5]
    have hzs : z.cells.size = esz := by rw [← g7, ← g6]; simp
    split at h
    · rename_i k v
      simp only [Has] at hv
      subst hv
      split at h
      · rename_i v' e' sz n f hk
        have hs' := hs.lk hk (by simp)
        have hs2 : HSat w F ((setK k .emp L).map Prod.snd) := HSat.setK hk (by simp) hs'.drop1
        obtain ⟨sz', m, g, h, hsrc⟩ := sSrc_at h hs2 hx
        obtain ⟨⟨rfl, rfl, rfl, rfl, h63⟩, hK⟩ := h
        obtain ⟨D, c, news, rfl, hr, hn⟩ := hsrc g8
        obtain ⟨xs, ho, hc⟩ := hs'.holds _ List.mem_cons_self
        obtain ⟨A, cp, rfl, _⟩ := own_shape ho
        obtain ⟨A', c', w', hrun, hown, hgr, hblk⟩ := run_append_reads' (P := P) w t ty 0 e z sz' eby g1 hi hzs g8 A n cp xs ho _ D m c news hr (srcAt_one hr.1 g8 hn) h63 g9 (Nat.zero_le _)
        have hFk : ∀ b, F b → w'.heap[b]? = w.heap[b]? := fun b hb => hgr.block b (hs.lt b hb) fun e => (hs'.fp _ List.mem_cons_self b e.symm).2 hb
        refine ⟨_, w', hrun, .own nx _, _, _, F, hK A' c', ⟨hgr.os, hgr.tape, hgr.output, hgr.size, hFk, Sem.drawn _ hrun⟩, fun _ h => h, ?_, rfl⟩
        have hturn := hs'.turn (w' := w') (h' := .row (.slice A' (n + m) c') e sz' (n + m) (catF n f g)) hgr.size (fun b hb hne => hgr.block b hb fun e => hne e.symm) ⟨_, hown, fun j k hj hk => ?_⟩ fun b hb => ?_
        · have hp := setK_perm (k := k) (h' := Hp.emp) (L := L) (hasK_of (by rw [hk]; simp))
          have : HSat w' F (.row (.slice A' (n + m) c') e sz' (n + m) (catF n f g) :: .emp :: offK k L) := by
            have h3 : HSat w' F (.emp :: .row (.slice A' (n + m) c') e sz' (n + m) (catF n f g) :: offK k L) := hturn.cons (Nat.le_refl _) (fun _ _ => rfl) trivial fun b hb => hb.elim
            exact h3.perm (List.Perm.swap _ _ _)
          exact this.perm (List.Perm.cons _ hp.symm)
        · have := append_has ho.1 hc hn hj hk
          exact ⟨this.1, Has.keep hFk this.2⟩
        · have := hown.lt b hb
          refine ⟨this.2, ?_⟩
          have hb' : (Value.slice A' (n + m) c').ownBlock = some b := hb
          rcases hblk with e1 | e1
          · exact .inl (e1.symm.trans hb')
          · rw [hb'] at e1
            injection e1 with e1
            exact .inr (by omega)
      · exact h.elim
    · simp only [Has] at hv
      subst hv
      obtain ⟨sz', m, g, h, hsrc⟩ := sSrc_at h hs hx
      obtain ⟨⟨rfl, h63⟩, hK⟩ := h
      obtain ⟨D, c, news, rfl, hr, hn⟩ := hsrc g8
      obtain ⟨A', c', w', hrun, hown, hgr, hblk⟩ := run_append_reads' (P := P) w t ty 0 e z sz' eby g1 hi hzs g8 none 0 0 [] (World.ownsRow_nil w 0 e sz') _ D m c news hr (srcAt_one hr.1 g8 hn) (by omega) g9 (Nat.zero_le _)
      have hFk : ∀ b, b < w.heap.size → w'.heap[b]? = w.heap[b]? := fun b hb => hgr.block b hb fun e => by cases e
      simp only [Nat.zero_add, List.nil_append] at hrun hown hblk
      refine ⟨_, w', hrun, .own nx _, _, _, F, hK A' c', ⟨hgr.os, hgr.tape, hgr.output, hgr.size, fun b hb => hFk b (hs.lt b hb), Sem.drawn _ hrun⟩, fun _ h => h, ?_, rfl⟩
      refine hs.cons hgr.size hFk ⟨_, hown, fun j k hj hk => ?_⟩ fun b hb => ?_
      · have := hn j k hj hk
        exact ⟨this.1, Has.keep (fun b hb => hFk b (hs.lt b hb)) this.2⟩
      · have := hown.lt b hb
        refine ⟨this.2, ?_⟩
        have hb' : (Value.slice A' m c').ownBlock = some b := hb
        rcases hblk with e1 | e1
        · rw [hb'] at e1; cases e1
        · rw [hb'] at e1
          injection e1 with e1
          omega
    · rename_i k g sz i0 n c
      split at h
      · rename_i v' e' sz' N f hk
        obtain ⟨sz2, m, gg, h, hsrc⟩ := sSrc_at h hs hx
        obtain ⟨⟨hb, rfl, rfl, rfl, hN, hroom, h63⟩, hK⟩ := h
        have hs' := hs.lk hk (by simp)
        obtain ⟨A, olds, rfl, hold, hol, hoc⟩ := vw_olds (P := P) hs' g8 hb hN hv
        obtain ⟨D, cc, news, rfl, hr, hn⟩ := hsrc g8
        have hnc := hv.1
        obtain ⟨b, off, rfl, _, hcell⟩ := hr.2 (by omega)
        have hsr : Src P ie.size t (.slice (some ⟨b, off, none⟩) m cc) m news w := Src.ofSlice w g1 _ m cc news (by rw [g3]; exact hr.1) (fun j u hj => by rw [addr_add']; exact hcell j u hj) (srcAt_one hr.1 g8 hn)
        have hby : (n + m) * ie.bytes ≤ 1000000000 * 1000 := Nat.mul_le_mul h63 (by rw [g4]; exact g9)
        have hrun := run_append_grow_src (P := P) w t t ty e ie z g1 g2 g5 A n c olds (by rw [g3]; exact hold) _ m news hsr hroom (by omega) (growslice_fits hroom (by omega))
        have hge := grownCap_ge w (n + m) c e
        refine ⟨_, _, hrun, .own nx _, _, _, F, hK w.heap.size (grownCap w (n + m) c e), (Keep.refl F w).drew.trans (Keep.new hs.drew _) (fun _ h => h), fun _ h => h, ?_, rfl⟩
        have hrow := hs.cons_rowZ (sz := sz2) (n := n + m) (c := grownCap w (n + m) c e) (cs := olds ++ news) (zs := (Builtin.zeroCells z.cells (grownCap w (n + m) c e - (n + m))).toList) (f := catF n (fun j => f (i0 + j)) gg) e
          (by rw [List.length_append, hol, hr.1, ← Nat.add_mul]) (zeroCells_len g6 g7) hge (grownCap_le_maxLen w _ _ _ (by unfold maxLen; omega)) fun i k hi hk => append_has hol hoc hn hi hk
        have e1 : (olds ++ news ++ (Builtin.zeroCells z.cells (grownCap w (n + m) c e - (n + m))).toList).toArray = (olds ++ news).toArray ++ Builtin.zeroCells z.cells (grownCap w (n + m) c e - (n + m)) := by apply Array.ext'; simp
        rw [e1] at hrow
        exact hrow
      · exact h.elim
    · exact h.elim
  · exact h.elim
theorem s_appendZ {j : TI} {t' : TypeId} {s x : SV} {vs vx : Value} {ty : TypeId} (h : sAppendZ i j s x L nx K) (ht : TIok P t i) (htj : TIok P t' j) (hs : HSat w F (L.map Prod.snd)) (hv : Has w F s vs) (hx : Has w F x vx) :
    ∃ v w', (Builtin.append_ #[t, t'] ty #[vs, vx]).run P w = .ok v w' ∧ Out w F K v w' := by
  unfold sAppendZ at h
  split at h
  · rename_i e esz eby zs kd zz
    obtain ⟨ie, ti, z, g1, g2, g3, g4, g5, g6, g7, g8, g9, g10, _⟩ := ht
    obtain ⟨_, htn, _⟩ := htj
    split at h
    · rename_i k g sz i0 n c kq cnt
      split at h
      · rename_i v' e' sz' N f hk
        obtain ⟨⟨hb, rfl, rfl, hN, h0, hroom, h63⟩, hK⟩ := h
        have hx : vx = .int kq cnt := hx
        subst hx
        have hs' := hs.lk hk (by simp)
        obtain ⟨A, olds, rfl, hold, hol, hoc⟩ := vw_olds (P := P) hs' g8 hb hN hv
        obtain ⟨q, rfl⟩ : ∃ q : Nat, cnt = q := ⟨cnt.toNat, by omega⟩
        have hby : (n + q) * ie.bytes ≤ 1000000000 * 1000 := Nat.mul_le_mul (by omega) (by rw [g4]; exact g9)
        have hby2 : q * ie.bytes ≤ 1000000000 * 1000 := Nat.mul_le_mul (by omega) (by rw [g4]; exact g9)
        have hrun := Lib.run_append_grow_zeros (P := P) w t t' ty e ie z kq kd g1 htn g2 g5 A n c olds (by rw [g3]; exact hold) q (by omega) (by rw [g3]; exact g8) (by omega) (by omega) (by omega) (growslice_fits (by omega) (by omega))
        have hge := grownCap_ge w (n + q) c e
        rw [Int.toNat_natCast] at hK
        refine ⟨_, _, hrun, .own nx _, _, _, F, hK w.heap.size (grownCap w (n + q) c e), (Keep.refl F w).drew.trans (Keep.new hs.drew _) (fun _ h => h), fun _ h => h, ?_, rfl⟩
        have hzc : ∀ i k, i < q → k < sz' → (((Builtin.zeroCells z.cells q).toList).getD (i * sz' + k) undef).oneCell' = true ∧ Has w F (zF zs k) (((Builtin.zeroCells z.cells q).toList).getD (i * sz' + k) undef) := fun i k hi hk => by
          rw [zeroCells_get g6 g7 hi hk]
          exact zF_has g10 k (by omega)
        have hrow := hs.cons_rowZ (sz := sz') (n := n + q) (c := grownCap w (n + q) c e) (cs := olds ++ (Builtin.zeroCells z.cells q).toList) (zs := (Builtin.zeroCells z.cells (grownCap w (n + q) c e - (n + q))).toList) (f := catF n (fun j => f (i0 + j)) fun _ => zF zs) e
          (by rw [List.length_append, hol, zeroCells_len g6 g7, ← Nat.add_mul]) (zeroCells_len g6 g7) hge (grownCap_le_maxLen w _ _ _ (by unfold maxLen; omega)) fun i k hi hk => append_has hol hoc hzc hi hk
        have e1 : (olds ++ (Builtin.zeroCells z.cells q).toList ++ (Builtin.zeroCells z.cells (grownCap w (n + q) c e - (n + q))).toList).toArray = olds.toArray ++ Builtin.zeroCells z.cells q ++ Builtin.zeroCells z.cells (grownCap w (n + q) c e - (n + q)) := by apply Array.ext'; simp
        rw [e1] at hrow
        exact hrow
      · exact h.elim
    · exact h.elim
  · exact h.elim
theorem s_copy {d s : SV} {vd vs : Value} {ty : TypeId} (h : sCopy i d s L nx K) (ht : TIok P t i) (hs : HSat w F (L.map Prod.snd)) (hd : Has w F d vd) (hv : Has w F s vs) :
    ∃ v w', (Builtin.copy_ #[t, t] ty #[vd, vs]).run P w = .ok v w' ∧ Out w F K v w' := by
  unfold sCopy at h
  split at h
  · rename_i e esz eby zs
    obtain ⟨ie, ti, z, g1, g2, g3, g4, g5, g6, g7, g8, g9, g10, _⟩ := ht
    split at h
    · rename_i k g sz i0 n c
      split at h
      · rename_i v' e' sz' N f hk
        have hs' := hs.lk hk (by simp)
        have hs2 : HSat w F ((setK k .emp L).map Prod.snd) := HSat.setK hk (by simp) hs'.drop1
        obtain ⟨sz2, m, g2', h, hsrc⟩ := sSrc_at h hs2 hv
        obtain ⟨⟨hb, rfl, rfl, rfl, hN, h0, hm0⟩, hK⟩ := h
        obtain ⟨D, cc, news, rfl, hr, hn⟩ := hsrc g8
        obtain ⟨b, off, rfl, _, hcell⟩ := hr.2 hm0
        obtain ⟨hnc, _, A, rfl, hA⟩ := hd
        obtain rfl := hA (by omega)
        obtain ⟨xs, ho, hcc⟩ := hs'.holds _ List.mem_cons_self
        have ho' := ho
        rcases ho.2 with ⟨rfl, rfl⟩ | ⟨g0, cap, cur, rfl, _, hg, hNc, hcm, hcs, htake⟩
        · omega
        · have : g0 = g := by simpa [Value.ownBlock] using hb
          subst this
          obtain ⟨q, hq⟩ : ∃ q, q = Nat.min m n := ⟨_, rfl⟩
          have hqm : q ≤ m := by rw [hq]; exact Nat.min_le_left _ _
          have hqn : q ≤ n := by rw [hq]; exact Nat.min_le_right _ _
          have hl1 := hr.1
          have hqs : q * sz2 ≤ m * sz2 := Nat.mul_le_mul_right _ hqm
          have hfit1 : (i0 + q) * sz2 ≤ N * sz2 := Nat.mul_le_mul_right _ (by omega)
          have hfit2 : N * sz2 ≤ cap * sz2 := Nat.mul_le_mul_right _ hNc
          rw [Nat.add_mul] at hfit1
          have hnl : (news.take (q * sz2)).length = q * sz2 := by rw [List.length_take]; omega
          have hld : (loadCells ⟨b, off, none⟩ (q * sz2)).run P w = .ok (news.take (q * sz2)).toArray w := by
            have := run_loadCells_list (P := P) w ⟨b, off, none⟩ (news.take (q * sz2)) fun j u hj => by
              rw [addr_add']
              rw [List.getElem?_take] at hj
              split at hj
              · exact hcell j u hj
              · cases hj
            rwa [hnl] at this
          have hst := run_storeCells_at P g0 (i0 * sz2) e' (news.take (q * sz2)) 0 cur w hg (by rw [hnl]; omega) (fun u hu => srcAt_one hr.1 g8 hn u (List.mem_of_mem_take hu))
          simp only [Nat.add_zero, hnl] at hst
          have hrun : (Builtin.copy_ #[t, t] ty #[.slice (some ⟨g0, i0 * sz2, none⟩) n c, .slice (some ⟨b, off, none⟩) m cc]).run P w = .ok (.int .i64 (Nat.min m n : Nat)) (w.setRow g0 (cur.toList.take (i0 * sz2) ++ news.take (q * sz2) ++ cur.toList.drop (i0 * sz2 + q * sz2)).toArray) := by
            simp [Builtin.copy_, run_underlying g1, Builtin.lenOf, Builtin.firstCells, sizeOf, typeInfo, g2, g3, ← hq, hld, hst, goInt]
          have hFk : ∀ x, F x → (w.setRow g0 (cur.toList.take (i0 * sz2) ++ news.take (q * sz2) ++ cur.toList.drop (i0 * sz2 + q * sz2)).toArray).heap[x]? = w.heap[x]? := fun x hx => setRow_other w g0 x _ fun e => (hs'.fp _ (List.mem_cons_self) x (by rw [e]; rfl)).2 hx
          rw [← hq] at hK
          rw [← hq] at hrun
          refine ⟨_, _, hrun, _, _, _, F, hK, ⟨rfl, rfl, rfl, by simp [World.setRow], hFk, Nat.le_refl _⟩, fun _ h => h, HSat.setK hk (by simp) (hs'.turn (by simp [World.setRow]) (fun x hx hne => setRow_other w g0 x _ fun e => hne (by rw [e]; rfl)) ⟨xs.take (i0 * sz2) ++ news.take (q * sz2) ++ xs.drop (i0 * sz2 + q * sz2), ⟨?_, .inr ⟨g0, cap, _, rfl, Nat.zero_le _, setRow_heap w g0 cur _ e' _ hg, hNc, hcm, ?_, ?_⟩⟩, ?_⟩ fun x hx => ?_), rfl⟩
          · have := ho'.1
            simp only [List.length_append, List.length_take, List.length_drop]
            omega
          · simp only [List.size_toArray, List.length_append, List.length_take, List.length_drop, Array.length_toList]
            omega
          · have h1 := ho'.1
            have hcur : cur.toList.length = cap * sz2 := by simpa using hcs
            apply List.ext_getElem?
            intro y
            have e1 := put_get (cur := cur.toList) (vs := news.take (q * sz2)) (o := i0 * sz2) (m := q * sz2) hnl (by omega) y
            have e2 := put_get (cur := xs) (vs := news.take (q * sz2)) (o := i0 * sz2) (m := q * sz2) hnl (by omega) y
            by_cases hy : y < N * sz2
            · have l1 : y < (cur.toList.take (i0 * sz2) ++ news.take (q * sz2) ++ cur.toList.drop (i0 * sz2 + q * sz2)).length := by
                simp only [List.length_append, List.length_take, List.length_drop]; omega
              have l2 : y < (xs.take (i0 * sz2) ++ news.take (q * sz2) ++ xs.drop (i0 * sz2 + q * sz2)).length := by
                simp only [List.length_append, List.length_take, List.length_drop]; omega
              rw [List.getElem?_take, if_pos hy, List.getElem?_eq_getElem l1, List.getElem?_eq_getElem l2]
              rw [List.getD_eq_getElem?_getD, List.getElem?_eq_getElem l1, Option.getD_some] at e1
              rw [List.getD_eq_getElem?_getD, List.getElem?_eq_getElem l2, Option.getD_some] at e2
              rw [e1, e2]
              congr 2
              rw [← htake]
              simp [List.getElem?_take, hy]
            · rw [List.getElem?_take, if_neg hy, List.getElem?_eq_none]
              simp only [List.length_append, List.length_take, List.length_drop]
              omega
          · intro y k hy hk'
            have hh : ∀ s v, Has w F s v → Has (w.setRow g0 (cur.toList.take (i0 * sz2) ++ news.take (q * sz2) ++ cur.toList.drop (i0 * sz2 + q * sz2)).toArray) F s v := fun s v hh => Has.keep hFk hh
            have h1 := ho'.1
            rw [put_get hnl (by omega)]
            unfold blkF
            by_cases hin : i0 ≤ y ∧ y < i0 + q
            · have e1 : (y - i0) * sz2 = y * sz2 - i0 * sz2 := Nat.sub_mul _ _ _
              have e2 : i0 * sz2 ≤ y * sz2 := Nat.mul_le_mul_right _ hin.1
              have e3 := own_idx (i := y - i0) (n := q) (sz := sz2) (by omega) hk'
              rw [if_pos hin, if_pos (by omega), show y * sz2 + k - i0 * sz2 = (y - i0) * sz2 + k by omega]
              rw [List.getD_eq_getElem?_getD, List.getElem?_take, if_pos e3, ← List.getD_eq_getElem?_getD]
              have := hn (y - i0) k (by omega) hk'
              exact ⟨this.1, hh _ _ this.2⟩
            · have hnin : ¬ (i0 * sz2 ≤ y * sz2 + k ∧ y * sz2 + k < i0 * sz2 + q * sz2) := by
                intro ⟨ha, hb⟩
                rcases Nat.lt_or_ge y i0 with hlt | hge
                · have : (y + 1) * sz2 ≤ i0 * sz2 := Nat.mul_le_mul_right _ hlt
                  rw [Nat.succ_mul] at this
                  omega
                · have : (i0 + q) * sz2 ≤ y * sz2 := Nat.mul_le_mul_right _ (by omega)
                  rw [Nat.add_mul] at this
                  omega
              rw [if_neg hin, if_neg hnin]
              have := hcc y k hy hk'
              exact ⟨this.1, hh _ _ this.2⟩
          · have hb' : some g0 = some x := hx
            injection hb' with hb'
            subst hb'
            exact ⟨by simpa [World.setRow] using (hs'.fp _ (List.mem_cons_self) g0 rfl).1, .inl rfl⟩
      · exact h.elim
    · exact h.elim
  · exact h.elim

/-! ### building -/
theorem foldl_put (off : Nat) : ∀ (l : List Value) (j : Nat) (cs : Array Value), off + j + l.length ≤ cs.size →
    ((l.zipIdx j).foldl (fun (cs : Array Value) (p : Value × Nat) => cs.setIfInBounds (off + p.2) p.1) cs).size = cs.size ∧
    ∀ k, ((l.zipIdx j).foldl (fun (cs : Array Value) (p : Value × Nat) => cs.setIfInBounds (off + p.2) p.1) cs).getD k undef = if off + j ≤ k ∧ k < off + j + l.length then l.getD (k - (off + j)) undef else cs.getD k undef
  | [], j, cs, _ => ⟨rfl, fun k => by rw [if_neg (by simp only [List.length_nil]; omega)]; rfl⟩
  | v :: l, j, cs, h => by
    simp only [List.length_cons] at h
    have ih := foldl_put off l (j + 1) (cs.setIfInBounds (off + j) v) (by simp; omega)
    simp only [List.zipIdx_cons, List.foldl_cons]
    refine ⟨by rw [ih.1]; simp, fun k => ?_⟩
    rw [ih.2 k]
    by_cases hk : k = off + j
    · subst hk
      rw [if_neg (by omega), if_pos (by simp)]
      simp [Array.getD, show off + j < cs.size by omega]
    · by_cases hin : off + (j + 1) ≤ k ∧ k < off + (j + 1) + l.length
      · rw [if_pos hin, if_pos (by simp; omega), show k - (off + j) = (k - (off + (j + 1))) + 1 by omega]
        rfl
      · rw [if_neg hin, if_neg (by simp; omega)]
        simp only [Array.getD_eq_getD_getElem?]
        rw [Array.getElem?_setIfInBounds_ne (by omega)]

/-- the cells of an array are as told -/
def ArrHas (w : World) (F : Nat → Prop) (cs : Array Value) (n : Nat) (f : Nat → SV) : Prop := cs.size = n ∧ ∀ k, k < n → (cs.getD k undef).oneCell' = true ∧ Has w F (f k) (cs.getD k undef)

theorem fill_step {place : Nat → Option (Nat × Nat)} {cs : Array Value} {n off m j : Nat} {v : Value} {s : SV} {f : Nat → SV} {rest : List (Nat × Value)} (hp : place j = some (off, m)) (hm : m = s.cells.1) (h1 : allOne m s.cells.2 = true)
    (hv : Has w F s v) (hfit : off + m ≤ n) (h : ArrHas w F cs n f) : ∃ cs', Instr.fill place cs ((j, v) :: rest) = Instr.fill place cs' rest ∧ ArrHas w F cs' n (putF off m s.cells.2 f) := by
  subst hm
  obtain ⟨hn, hc⟩ := has_cells h1 hv
  have hfp := foldl_put off v.cells.toList 0 cs (by simp; have := h.1; omega)
  refine ⟨((v.cells.toList.zipIdx 0).foldl (fun (cs : Array Value) (p : Value × Nat) => cs.setIfInBounds (off + p.2) p.1) cs), ?_, ?_⟩
  · have e1 : ¬ (v.cells.size ≠ s.cells.1) := by omega
    have e2 : ¬ (off + v.cells.size > cs.size) := by have := h.1; omega
    have e3 : v.cells.zipIdx.foldl (fun cs (c, j) => cs.setIfInBounds (off + j) c) cs = (v.cells.toList.zipIdx 0).foldl (fun (cs : Array Value) (p : Value × Nat) => cs.setIfInBounds (off + p.2) p.1) cs := by
      rw [← Array.foldl_toList, Array.toList_zipIdx]
    simp only [Instr.fill, hp]
    rw [← e3]
    simp [e1, e2]
  · refine ⟨by rw [hfp.1]; exact h.1, fun k hk => ?_⟩
    rw [hfp.2 k]
    simp only [Nat.add_zero, Array.length_toList, hn]
    unfold putF
    by_cases hin : off ≤ k ∧ k < off + s.cells.1
    · have e : (Nat.ble off k && Nat.ble (k + 1) (off + s.cells.1)) = true := by simp [Nat.ble_eq]; omega
      rw [if_pos hin, e, cond_true]
      have := hc (k - off) (by omega)
      simpa using this
    · have e : (Nat.ble off k && Nat.ble (k + 1) (off + s.cells.1)) = false := by
        rw [Bool.eq_false_iff]; simp [Nat.ble_eq]; omega
      rw [if_neg hin, e, cond_false]
      exact h.2 k hk

def PartsHas (w : World) (F : Nat → Prop) : List (Nat × SV) → List (Nat × Value) → Prop
  | [], [] => True
  | p :: ps, q :: qs => p.1 = q.1 ∧ Has w F p.2 q.2 ∧ PartsHas w F ps qs
  | _, _ => False

theorem buildF_fill {fl : List (Nat × Nat)} {sz : Nat} {place : Nat → Option (Nat × Nat)} (hpl : ∀ j fo ft m ag, fl[j]? = some (fo, ft) → (fetch ft tt).w = some (ag, m) → place j = some (fo, m)) {K : SV → Prop} :
    ∀ {ps : List (Nat × SV)} {qs : List (Nat × Value)} {f : Nat → SV} {cs : Array Value}, (buildF tt fl sz ps f).run K → PartsHas w F ps qs → ArrHas w F cs sz f → ∃ cs' f', Instr.fill place cs qs = some cs' ∧ ArrHas w F cs' sz f' ∧ K (.agg sz f')
  | [], [], f, cs, h, _, ha => ⟨cs, f, rfl, ha, h⟩
  | [], _ :: _, _, _, _, hp, _ => hp.elim
  | _ :: _, [], _, _, _, hp, _ => hp.elim
  | (j, x) :: ps, (j', v) :: qs, f, cs, h, ⟨e, hv, hp⟩, ha => by
    have e : j = j' := e
    subst e
    have hv : Has w F x v := hv
    unfold buildF at h
    split at h
    · rename_i fo ft hf
      split at h
      · rename_i ag m hw
        change PR.run (bif Nat.beq m x.cells.1 && Nat.ble (fo + m) sz && allOne m x.cells.2 then buildF tt fl sz ps (putF fo m x.cells.2 f) else .no) K at h
        cases hc : (Nat.beq m x.cells.1 && Nat.ble (fo + m) sz && allOne m x.cells.2)
        · rw [hc] at h; exact False.elim h
        · rw [hc, cond_true] at h
          simp only [Bool.and_eq_true] at hc
          obtain ⟨cs', h1, h2⟩ := fill_step (rest := qs) (hpl j fo ft m ag hf hw) (Nat.eq_of_beq_eq_true hc.1.1) hc.2 hv (Nat.le_of_ble_eq_true hc.1.2) ha
          rw [h1]
          exact buildF_fill hpl h hp h2
      · exact False.elim h
    · exact False.elim h

theorem run_places {fs : Array Field} (h : ∀ f ∈ fs.toList, ∃ i, P.info? f.type = some i) : (fs.mapM fun f => do pure (f.offset, ← sizeOf f.type) : Sem (Array (Nat × Nat))).run P w = .ok (fs.map fun f => (f.offset, ((P.info? f.type).map (·.size)).getD 0)) w := by
  have key : ∀ l : List Field, (∀ f ∈ l, ∃ i, P.info? f.type = some i) → (l.mapM fun f => do pure (f.offset, ← sizeOf f.type) : Sem (List (Nat × Nat))).run P w = .ok (l.map fun f => (f.offset, ((P.info? f.type).map (·.size)).getD 0)) w := by
    intro l
    induction l with
    | nil => intro _; simp
    | cons f l ih =>
      intro h
      obtain ⟨i, hi⟩ := h f (by simp)
      have := ih fun g hg => h g (by simp [hg])
      have hz : (sizeOf f.type).run P w = .ok i.size w := by simp [sizeOf, typeInfo, program, Sem.run, hi]
      simp only [List.mapM_cons, Sem.run_bind, hz, Result.andThen_ok, Sem.run_pure, this, List.map_cons, hi, Option.map_some, Option.getD_some]
  have hk := key fs.toList h
  rw [Array.mapM_eq_mapM_toList]
  simp only [map_eq_pure_bind, Sem.run_bind, hk, Result.andThen_ok, Sem.run_pure]
  congr 1
  apply Array.ext'
  simp

theorem s_build {ps : List (Nat × SV)} {qs : Array (Nat × Value)} {K : SV → Prop} (h : (pBuild tt i ps).run K) (ht : TIok P t i) (htt : TTok P tt) (hp : PartsHas w F ps qs.toList) : ∃ v r, (Instr.build t qs).run P w = .ok v w ∧ K r ∧ Has w F r v := by
  unfold pBuild at h
  split at h
  · rename_i sz fl zs q
    obtain ⟨hl, fs, ti, h1, h2, h3, h4, h5, h6, h7, _⟩ := ht
    have hinf : ∀ f ∈ fs.toList, ∃ i, P.info? f.type = some i := fun f hf => by
      obtain ⟨i, hi, _⟩ := h6 (f.offset, f.type) (by rw [← h5]; exact List.mem_map.2 ⟨f, hf, rfl⟩)
      exact ⟨i, hi⟩
    have hz : (zeroValue t).run P w = .ok (.agg zs.toArray) w := by
      unfold zeroValue typeInfo
      simp [program, Sem.run, h2, h4]
    obtain ⟨cs, f, hfill, ha, hK⟩ := buildF_fill (w := w) (F := F) (place := fun j => (fs.map fun f => (f.offset, ((P.info? f.type).map (·.size)).getD 0))[j]?) (qs := qs.toList) (cs := zs.toArray) (fun j fo ft m ag hf hw => by
      rw [← h5, List.getElem?_map] at hf
      obtain ⟨fd, hfd, e⟩ := Option.map_eq_some_iff.1 hf
      injection e with e1 e2
      subst e1
      subst e2
      obtain ⟨_, ti2, _, _, q3, q4, _⟩ := (TTok.fetch htt).facts hw
      have hfd' : fs[j]? = some fd := by simpa using hfd
      simp [hfd', q3, q4]) h hp ⟨by simpa using hl, fun k hk => by simpa using zF_has (w := w) (F := F) h7 k (by omega)⟩
    refine ⟨.agg cs, _, ?_, hK, cs, rfl, ha.1, fun k hk => (ha.2 k hk).2⟩
    have hz' : (Value.agg zs.toArray).cells = zs.toArray := rfl
    unfold Instr.build
    simp only [Sem.run_bind, hz, Result.andThen_ok, run_underlying h1, run_places hinf, hz', hfill, Sem.run_pure]
  · exact False.elim h

theorem buildR_fill {esz len : Nat} (hpos : 0 < esz) {K : (Nat → Nat → SV) → Prop} : ∀ {ps : List (Nat × SV)} {qs : List (Nat × Value)} {f : Nat → Nat → SV} {cs : Array Value}, buildR esz len ps f K → PartsHas w F ps qs →
    (cs.size = len * esz ∧ ∀ i k, i < len → k < esz → (cs.getD (i * esz + k) undef).oneCell' = true ∧ Has w F (f i k) (cs.getD (i * esz + k) undef)) →
    ∃ cs' f', Instr.fill (fun i => some (i * esz, esz)) cs qs = some cs' ∧ (cs'.size = len * esz ∧ ∀ i k, i < len → k < esz → (cs'.getD (i * esz + k) undef).oneCell' = true ∧ Has w F (f' i k) (cs'.getD (i * esz + k) undef)) ∧ K f'
  | [], [], f, cs, h, _, ha => ⟨cs, f, rfl, ha, h⟩
  | [], _ :: _, _, _, _, hp, _ => hp.elim
  | _ :: _, [], _, _, _, hp, _ => hp.elim
  | (j, x) :: ps, (j', v) :: qs, f, cs, h, ⟨e, hv, hp⟩, ha => by
    have e : j = j' := e
    subst e
    have hv : Has w F x v := hv
    unfold buildR at h
    change (bif Nat.beq esz x.cells.1 && Nat.blt j len && allOne esz x.cells.2 then buildR esz len ps (putR j 0 esz x.cells.2 f) K else False) at h
    cases hc : (Nat.beq esz x.cells.1 && Nat.blt j len && allOne esz x.cells.2)
    · rw [hc] at h; exact h.elim
    · rw [hc, cond_true] at h
      simp only [Bool.and_eq_true] at hc
      have hj : j < len := Nat.le_of_ble_eq_true hc.1.2
      have hm := Nat.eq_of_beq_eq_true hc.1.1
      have hjm : (j + 1) * esz ≤ len * esz := Nat.mul_le_mul_right _ hj
      rw [Nat.succ_mul] at hjm
      have hflat : ArrHas w F cs (len * esz) fun q => f (q / esz) (q % esz) := ⟨ha.1, fun q hq => by
        have := ha.2 (q / esz) (q % esz) ((Nat.div_lt_iff_lt_mul hpos).2 hq) (Nat.mod_lt _ hpos)
        rwa [Nat.div_add_mod' q esz] at this⟩
      obtain ⟨cs', h1, h2⟩ := fill_step (rest := qs) (place := fun i => some (i * esz, esz)) (j := j) rfl hm hc.2 hv (by omega) hflat
      rw [h1]
      refine buildR_fill hpos h hp ⟨h2.1, fun i k hi hk => ?_⟩
      have := h2.2 (i * esz + k) (own_idx hi hk)
      refine ⟨this.1, ?_⟩
      have h3 := this.2
      have hd : (i * esz + k) / esz = i := by
        rw [Nat.mul_comm, Nat.mul_add_div hpos, Nat.div_eq_of_lt hk, Nat.add_zero]
      have hmd : (i * esz + k) % esz = k := by rw [Nat.mul_comm, Nat.mul_add_mod]; exact Nat.mod_eq_of_lt hk
      unfold putF at h3
      simp only [hd, hmd] at h3
      unfold putR putF
      by_cases hij : i = j
      · subst hij
        have e1 : Nat.beq i i = true := Nat.beq_refl i
        have e2 : (Nat.ble (i * esz) (i * esz + k) && Nat.ble (i * esz + k + 1) (i * esz + esz)) = true := by simp [Nat.ble_eq]; omega
        have e3 : (Nat.ble 0 k && Nat.ble (k + 1) (0 + esz)) = true := by simp [Nat.ble_eq]; omega
        rw [e2, cond_true, show i * esz + k - i * esz = k by omega] at h3
        rw [e1, cond_true, e3, cond_true]
        exact h3
      · have e1 : Nat.beq i j = false := by
          rw [Bool.eq_false_iff]; intro hb; exact hij (Nat.eq_of_beq_eq_true hb)
        have e2 : (Nat.ble (j * esz) (i * esz + k) && Nat.ble (i * esz + k + 1) (j * esz + esz)) = false := by
          rw [Bool.eq_false_iff]
          simp [Nat.ble_eq]
          intro ha
          rcases Nat.lt_or_gt_of_ne hij with hlt | hgt
          · have : (i + 1) * esz ≤ j * esz := Nat.mul_le_mul_right _ hlt
            rw [Nat.succ_mul] at this
            omega
          · have : (j + 1) * esz ≤ i * esz := Nat.mul_le_mul_right _ hgt
            rw [Nat.succ_mul] at this
            omega
        rw [e2, cond_false] at h3
        rw [e1, cond_false]
        exact h3

theorem buildR_mono {esz len : Nat} {K K' : (Nat → Nat → SV) → Prop} (hk : ∀ f, K f → K' f) : ∀ {ps : List (Nat × SV)} {f : Nat → Nat → SV}, buildR esz len ps f K → buildR esz len ps f K'
  | [], f, h => hk _ h
  | (i, x) :: ps, f, h => by
    unfold buildR at h ⊢
    change (bif Nat.beq esz x.cells.1 && Nat.blt i len && allOne esz x.cells.2 then buildR esz len ps (putR i 0 esz x.cells.2 f) K else False) at h
    change (bif Nat.beq esz x.cells.1 && Nat.blt i len && allOne esz x.cells.2 then buildR esz len ps (putR i 0 esz x.cells.2 f) K' else False)
    cases hc : (Nat.beq esz x.cells.1 && Nat.blt i len && allOne esz x.cells.2)
    · rw [hc] at h; exact h.elim
    · rw [hc, cond_true] at h
      rw [cond_true]
      exact buildR_mono hk h

theorem intsOf_len : ∀ {ps : List (Nat × SV)} {n len : Nat} {l : List Int}, intsOf ps n len = some l → n + l.length = len
  | [], n, len, l, h => by
    unfold intsOf at h
    cases e : Nat.beq n len
    · rw [e] at h; cases h
    · rw [e, cond_true] at h
      injection h with h
      subst h
      simpa using Nat.eq_of_beq_eq_true e
  | (i, x) :: rest, n, len, l, h => by
    unfold intsOf at h
    split at h
    · rename_i heq; cases heq
    · rename_i nn lenn lisn q1 q2 i' z rest' heq
      injection heq with e1 e2
      injection e1 with e1 e3
      subst e1 e2 e3
      cases e : Nat.beq i nn
      · rw [e] at h; cases h
      · rw [e, cond_true] at h
        split at h
        · rename_i l' hl
          injection h with h
          subst h
          have := intsOf_len hl
          simp only [List.length_cons]
          omega
        · cases h
    · cases h
theorem intsOf_buildR {len : Nat} : ∀ {ps : List (Nat × SV)} {n : Nat} {l : List Int} {f : Nat → Nat → SV}, intsOf ps n len = some l → buildR 1 len ps f fun f' => (∀ i, i < n → f' i 0 = f i 0) ∧ ∀ i, n ≤ i → i < len → f' i 0 = .i (l.getD (i - n) default)
  | [], n, l, f, h => by
    have := intsOf_len h
    unfold intsOf at h
    cases e : Nat.beq n len
    · rw [e] at h; cases h
    · have := Nat.eq_of_beq_eq_true e
      exact ⟨fun _ _ => rfl, fun i h1 h2 => absurd h2 (by omega)⟩
  | (i, x) :: rest, n, l, f, h => by
    have hlen := intsOf_len h
    unfold intsOf at h
    split at h
    · rename_i heq; cases heq
    · rename_i nn lenn lisn q1 q2 i' z rest' heq
      injection heq with e1 e2
      injection e1 with e1 e3
      subst e1 e2 e3
      cases e : Nat.beq i nn
      · rw [e] at h; cases h
      · rw [e, cond_true] at h
        have := Nat.eq_of_beq_eq_true e
        subst this
        split at h
        · rename_i l' hl
          injection h with h
          subst h
          simp only [List.length_cons] at hlen
          have hlt : Nat.blt i lenn = true := Nat.ble_eq_true_of_le (show i + 1 ≤ lenn by omega)
          unfold buildR
          show (bif Nat.beq 1 1 && Nat.blt i lenn && allOne 1 (fun _ => SV.val (.int .i64 z)) then buildR 1 lenn rest (putR i 0 1 (fun _ => SV.val (.int .i64 z)) f) _ else False)
          rw [hlt]
          refine buildR_mono (fun f' hf => ⟨fun k hk => ?_, fun k h1 h2 => ?_⟩) (intsOf_buildR hl)
          · rw [hf.1 k (by omega)]
            unfold putR
            rw [show Nat.beq k i = false by rw [Bool.eq_false_iff]; intro hb; have := Nat.eq_of_beq_eq_true hb; omega, cond_false]
          · by_cases hk : k = i
            · subst hk
              rw [hf.1 k (by omega)]
              unfold putR
              rw [Nat.beq_refl, cond_true]
              simp only [Nat.sub_self]
              rfl
            · rw [hf.2 k (by omega) h2, show k - i = (k - (i + 1)) + 1 by omega, List.getD_cons_succ]
        · cases h
    · cases h
theorem s_buildS {len : Nat} {ps : List (Nat × SV)} {qs : Array (Nat × Value)} (h : sBuildS i len ps L nx K) (ht : TIok P t i) (hs : HSat w F (L.map Prod.snd)) (hp : PartsHas w F ps qs.toList) : ∃ v w', (Instr.buildSlice t len qs).run P w = .ok v w' ∧ Out w F K v w' := by
  unfold sBuildS at h
  split at h
  · rename_i e esz eby zs
    obtain ⟨hlim, h⟩ := h
    obtain ⟨ie, ti, z, g1, g2, g3, g4, g5, g6, g7, g8, g9, g10, _⟩ := ht
    have h' : buildR esz len ps (fun _ => zF zs) fun f => ∃ f2 : Nat → Nat → SV, (∀ i k, i < len → k < esz → f i k = f2 i k) ∧ ∀ g, K (.own nx (.slice (some ⟨g, 0, none⟩) len len)) ((nx, .row (.slice (some ⟨g, 0, none⟩) len len) e esz len f2) :: L) (nx + 1) := by
      unfold sBuildI at h
      split at h
      · rename_i l hl
        cases e1 : Nat.beq esz 1
        · rw [e1, cond_false] at hl; cases hl
        · rw [e1, cond_true] at hl
          have := Nat.eq_of_beq_eq_true e1
          subst this
          refine buildR_mono (fun f hf => ⟨rowF intF l, fun i k hi hk => ?_, h⟩) (intsOf_buildR hl)
          have hk : k = 0 := by omega
          subst hk
          exact hf.2 i (Nat.zero_le _) hi
      · exact buildR_mono (fun f hf => ⟨f, fun _ _ _ _ => rfl, hf⟩) h
    have hsz : z.cells.size = esz := by rw [← g7, ← g6]; simp
    have hz : (zeroValue e).run P w = .ok z w := by
      unfold zeroValue typeInfo
      simp [program, Sem.run, g2, g5]
    have hze : (sizeOf e).run P w = .ok esz w := by simp [sizeOf, typeInfo, program, Sem.run, g2, g3]
    have hnl : ¬ (len * esz > 2 ^ 24) := by omega
    have hb : ∀ zz : Array Value, (len * esz ≠ 0 → zz = z.cells) → ∃ cs f, Instr.fill (fun i => some (i * esz, esz)) ((Array.range (len * esz)).map (zz[· % zz.size]!)) qs.toList = some cs ∧
        (cs.size = len * esz ∧ ∀ i k, i < len → k < esz → (cs.getD (i * esz + k) undef).oneCell' = true ∧ Has w F (f i k) (cs.getD (i * esz + k) undef)) ∧ ∀ g, K (.own nx (.slice (some ⟨g, 0, none⟩) len len)) ((nx, .row (.slice (some ⟨g, 0, none⟩) len len) e esz len f) :: L) (nx + 1) := fun zz hzz => by
      have hcell : ∀ i k, i < len → k < esz → (((Array.range (len * esz)).map (zz[· % zz.size]!)).getD (i * esz + k) undef).oneCell' = true ∧ Has w F (zF zs k) (((Array.range (len * esz)).map (zz[· % zz.size]!)).getD (i * esz + k) undef) := fun i k hi hk => by
        have hlt := own_idx hi hk
        have hzz := hzz (by omega)
        subst hzz
        have hmod : (i * esz + k) % esz = k := by rw [Nat.mul_comm, Nat.mul_add_mod]; exact Nat.mod_eq_of_lt hk
        have hk2 : k < z.cells.size := by omega
        have e1 : ((Array.range (len * esz)).map (z.cells[· % z.cells.size]!)).getD (i * esz + k) undef = zs.getD k undef := by
          simp only [Array.getD_eq_getD_getElem?, Array.getElem?_map, Array.getElem?_range, hlt, if_true, Option.map_some, Option.getD_some, hsz, hmod, ← g6, hk2, getElem!_pos]
          simp [hk2]
        rw [e1]
        exact zF_has g10 k (by omega)
      obtain ⟨cs, f, h1, h2, f2, he, hK⟩ := buildR_fill g8 h' hp (cs := (Array.range (len * esz)).map (zz[· % zz.size]!)) ⟨by simp, hcell⟩
      exact ⟨cs, f2, h1, ⟨h2.1, fun i k hi hk => by rw [← he i k hi hk]; exact h2.2 i k hi hk⟩, hK⟩
    have fin : ∀ zz : Array Value, (len * esz ≠ 0 → zz = z.cells) → (∀ cs, Instr.fill (fun i => some (i * esz, esz)) ((Array.range (len * esz)).map (zz[· % zz.size]!)) qs.toList = some cs →
        (Instr.buildSlice t len qs).run P w = .ok (.slice (some ⟨w.heap.size, 0, none⟩) len len) (w.alloc (.cells cs e))) → ∃ v w', (Instr.buildSlice t len qs).run P w = .ok v w' ∧ Out w F K v w' := fun zz hzz hr => by
      obtain ⟨cs, f, hfill, ⟨hn, hc⟩, hK⟩ := hb zz hzz
      refine ⟨_, _, hr cs hfill, .own nx _, _, _, F, hK w.heap.size, Keep.new hs _, fun _ h => h, ?_, rfl⟩
      have hlm : len ≤ maxLen := by
        have : len * 1 ≤ len * esz := Nat.mul_le_mul_left _ g8
        unfold maxLen; omega
      have := hs.cons_row (cs := cs.toList) (f := f) (n := len) (c := len) (sz := esz) e (by simpa using hn) (Nat.le_refl _) hlm fun i k hi hk => by simpa using hc i k hi hk
      rw [Array.toArray_toList] at this
      exact this
    by_cases h0 : len * esz = 0
    · refine fin #[] (fun hne => absurd h0 hne) fun cs hfill => ?_
      unfold Instr.buildSlice
      simp only [Sem.run_bind, run_underlying g1, Result.andThen_ok, hze, hnl, if_false, h0, if_true, Sem.run_pure, newRow]
      rw [h0] at hfill
      simp only [show ¬ ((0 : Nat) > 2 ^ 24) by omega, if_false, Sem.run_bind, Sem.run_pure, Result.andThen_ok, hfill]
      rfl
    · refine fin z.cells (fun _ => rfl) fun cs hfill => ?_
      unfold Instr.buildSlice
      simp only [Sem.run_bind, run_underlying g1, Result.andThen_ok, hze, hnl, if_false, h0, hz, Sem.run_pure, newRow, hfill]
      rfl
  · exact h.elim
end
end Go.Proofs.YtcagfmbboliohaaDoor
