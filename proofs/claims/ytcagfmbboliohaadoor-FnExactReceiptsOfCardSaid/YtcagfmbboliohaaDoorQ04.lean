/- Texts of this proof put together: SxE. -/
import Derived.LaidEql
import Derived.Test.YtcagfmbboliohaaDoorQ01
import Derived.Test.YtcagfmbboliohaaDoorQ02
import Derived.Test.YtcagfmbboliohaaDoorQ03
/-! YtcagfmbboliohaaDoorSxE -/
set_option linter.all false


namespace Go.Proofs.YtcagfmbboliohaaDoor

/-- what an operation leaves -/
def Out (w : World) (F : Nat → Prop) (K : KK) (v : Value) (w' : World) : Prop :=
  ∃ r L nx F', K r L nx ∧ Keep F w w' ∧ (∀ b, F b → F' b) ∧ HSat w' F' (L.map Prod.snd) ∧ Has w' F' r v

section
variable {P : Program} {t : TypeId} {i : TI} {w : World} {F : Nat → Prop} {L : Hpl} {nx : Nat} {K : KK} {tt : List (Nat × TI)}

theorem Out.same {r : SV} {v : Value} (hK : K r L nx) (hs : HSat w F (L.map Prod.snd)) (hv : Has w F r v) : Out w F K v w :=
  ⟨r, L, nx, F, hK, Keep.refl _ _, fun _ h => h, hs, hv⟩

theorem HSat.cons_box {l : List Hp} (hs : HSat w F l) (t : TypeId) {n : Nat} {cs : List Value} {f : Nat → SV} (hn : cs.length = n) (hc : ∀ k, k < n → (cs.getD k undef).oneCell' = true ∧ Has w F (f k) (cs.getD k undef)) :
    HSat (w.alloc (.cells cs.toArray t)) F (.box w.heap.size t n f :: l) := by
  have hk : ∀ b, b < w.heap.size → (w.alloc (.cells cs.toArray t)).heap[b]? = w.heap[b]? := fun b hb => RowKit.Below.heap_alloc w _ b hb
  refine hs.cons (by simp) hk ⟨cs.toArray, heap_alloc_new w _, by simpa using hn, fun k hk' => ?_⟩ fun b hb => ?_
  · have := hc k hk'
    refine ⟨by simpa using this.1, Has.keep (fun b hb => hk b (hs.lt b hb)) (by simpa using this.2)⟩
  · have : b = w.heap.size := hb
    subst this
    exact ⟨by simp, Nat.le_refl _⟩
theorem HSat.cons_row {l : List Hp} (hs : HSat w F l) (e : TypeId) {sz n c : Nat} {cs : List Value} {f : Nat → Nat → SV} (hn : cs.length = c * sz) (hnc : n ≤ c) (hcm : c ≤ maxLen) (hc : ∀ i k, i < n → k < sz → (cs.getD (i * sz + k) undef).oneCell' = true ∧ Has w F (f i k) (cs.getD (i * sz + k) undef)) :
    HSat (w.alloc (.cells cs.toArray e)) F (.row (.slice (some ⟨w.heap.size, 0, none⟩) n c) e sz n f :: l) := by
  have hk : ∀ b, b < w.heap.size → (w.alloc (.cells cs.toArray e)).heap[b]? = w.heap[b]? := fun b hb => RowKit.Below.heap_alloc w _ b hb
  have hmul : n * sz ≤ c * sz := Nat.mul_le_mul_right _ hnc
  refine hs.cons (by simp) hk ⟨cs.take (n * sz), ⟨by simp; omega, .inr ⟨w.heap.size, c, cs.toArray, rfl, Nat.zero_le _, heap_alloc_new w _, hnc, hcm, by simpa using hn, by simp⟩⟩, fun i k hi hk' => ?_⟩ fun b hb => ?_
  · have hlt : i * sz + k < n * sz := by
      have : (i + 1) * sz ≤ n * sz := Nat.mul_le_mul_right _ hi
      rw [Nat.succ_mul] at this
      omega
    have e : (cs.take (n * sz)).getD (i * sz + k) undef = cs.getD (i * sz + k) undef := by
      simp [List.getD_eq_getElem?_getD, List.getElem?_take, hlt]
    rw [e]
    have := hc i k hi hk'
    exact ⟨this.1, Has.keep (fun b hb => hk b (hs.lt b hb)) this.2⟩
  · have : some w.heap.size = some b := hb
    injection this with this
    subst this
    exact ⟨by simp, Nat.le_refl _⟩
theorem Keep.new (hs : HSat w F (L.map Prod.snd)) (o : Obj) : Keep F w (w.alloc o) := Keep.alloc hs.lt o

theorem zF_has {zs : List Value} (h : ∀ z ∈ zs, z.oneCell' = true) : ∀ k, k < zs.length → (zs.getD k undef).oneCell' = true ∧ Has w F (zF zs k) (zs.getD k undef) := fun k hk => by
  refine ⟨?_, rfl⟩
  have : zs.getD k undef = zs[k] := by simp [hk]
  rw [this]
  exact h _ (List.getElem_mem _)

theorem s_alloc (h : sAlloc t i L nx K) (ht : TIok P t i) (hs : HSat w F (L.map Prod.snd)) : ∃ v w', (Instr.alloc t true (.tuple #[])).run P w = .ok v w' ∧ Out w F K v w' := by
  unfold sAlloc at h
  split at h
  · rename_i ag n hw
    obtain ⟨d, ti, _, _, _, _, z, _, _, hl, h1⟩ := ht.facts hw
    refine ⟨_, _, run_alloc ht hw, .ptr nx w.heap.size 0, _, _, F, h w.heap.size, Keep.new hs _, fun _ h => h, ?_, rfl⟩
    exact hs.cons_box t hl fun k hk => zF_has h1 k (by omega)
  · exact h.elim

theorem s_box {x : SV} {vx : Value} (h : sBox t x L nx K) (hs : HSat w F (L.map Prod.snd)) (hx : Has w F x vx) : ∃ v w', (Instr.box t vx).run P w = .ok v w' ∧ Out w F K v w' := by
  rw [sBox_eq] at h
  unfold sBoxC at h
  cases hc : allOne x.cells.1 x.cells.2
  · rw [hc] at h; exact h.elim
  · rw [hc, cond_true] at h
    obtain ⟨hn, hcc⟩ := has_cells hc hx
    refine ⟨_, _, run_box vx, .ptr nx w.heap.size 0, _, _, F, h w.heap.size, Keep.new hs _, fun _ h => h, ?_, rfl⟩
    exact hs.cons_box (cs := vx.cells.toList) t (by simpa using hn) fun k hk => by simpa using hcc k hk

theorem s_nil {x : SV} {vx : Value} {K : SV → Prop} (h : (pNil x).run K) (hx : Has w F x vx) : K x ∧ ∃ p, vx = .pointer (some p) := by
  unfold pNil at h
  split at h
  · exact ⟨h, _, hx⟩
  · exact ⟨h, _, hx.1⟩
  · obtain ⟨b, o, e, _⟩ := hx
    exact ⟨h, _, e⟩
  · exact ⟨h, _, hx⟩
  · exact ⟨h, _, hx⟩
  · exact False.elim h

theorem s_field {x : SV} {vx : Value} {k : Nat} {K : SV → Prop} (h : (pField i x k).run K) (ht : TIok P t i) (hx : Has w F x vx) : ∃ v r, (Instr.fieldAt t vx k).run P w = .ok v w ∧ K r ∧ Has w F r v := by
  unfold pField at h
  split at h
  · split at h
    · rename_i fo ft hk
      split at h
      · rename_i b o n f
        obtain ⟨rfl, hF, hz, hc⟩ := hx
        obtain ⟨ha, hK⟩ := h
        exact ⟨_, _, run_fieldAt ht hk, hK, rfl, hF, hz, CellsAt.sub (n := n) (fun k hk => hc k hk) (by omega)⟩
      · rename_i n f
        obtain ⟨b, o, rfl, hF, hc⟩ := hx
        obtain ⟨ha, hK⟩ := h
        exact ⟨_, _, run_fieldAt ht hk, hK, b, _, rfl, hF, CellsAt.sub (n := n) (fun k hk => hc k hk) (by omega)⟩
      · rename_i kk g o
        simp only [Has] at hx
        subst hx
        exact ⟨_, _, run_fieldAt ht hk, h, rfl⟩
      · rename_i kk g sz j o
        simp only [Has] at hx
        subst hx
        exact ⟨_, _, run_fieldAt ht hk, h, by simp only [Has, Nat.add_assoc]⟩
      · exact False.elim h
    · exact False.elim h
  · exact False.elim h

theorem p_index {x ix : SV} {vx vi : Value} {K : SV → Prop} (h : (pIndex i x ix).run K) (ht : TIok P t i) (hx : Has w F x vx) (hi : Has w F ix vi) : ∃ v r, (Instr.indexAt t vx vi).run P w = .ok v w ∧ K r ∧ Has w F r v := by
  unfold pIndex at h
  split at h
  · rename_i kk z
    simp only [Has] at hi
    subst hi
    split at h
    · rename_i e esz eby zs
      split at h
      · rename_i sz n f
        obtain ⟨⟨h0, h1, rfl⟩, hK⟩ := h
        obtain ⟨A, c, rfl, hnc, _, hc⟩ := hx
        obtain ⟨b, off, rfl, hF, hc⟩ := hc (by omega)
        exact ⟨_, _, run_indexAt_slice ht h0 h1, hK, b, off + z.toNat * sz, rfl, hF, fun k hk => by
          have := hc z.toNat k (by omega) hk
          rwa [← Nat.add_assoc] at this⟩
      · exact False.elim h
    · rename_i len esz sz zs
      split at h
      · rename_i k g o
        simp only [Has] at hx
        subst hx
        obtain ⟨ha, hK⟩ := h
        exact ⟨_, _, run_indexAt_array ht ha.1 ha.2, hK, rfl⟩
      · rename_i b o n f
        obtain ⟨rfl, hF, hz, hc⟩ := hx
        obtain ⟨ha, hK⟩ := h
        exact ⟨_, _, run_indexAt_array ht ha.1 ha.2.1, hK, rfl, hF, hz, CellsAt.sub (n := n) (fun k hk => hc k hk) ha.2.2⟩
      · rename_i n f
        obtain ⟨b, o, rfl, hF, hc⟩ := hx
        obtain ⟨ha, hK⟩ := h
        exact ⟨_, _, run_indexAt_array ht ha.1 ha.2.1, hK, b, _, rfl, hF, CellsAt.sub (n := n) (fun k hk => hc k hk) ha.2.2⟩
      · exact False.elim h
    · exact False.elim h
  · exact False.elim h
theorem s_index {x ix : SV} {vx vi : Value} {K : SV → Prop} (h : sIndex i x ix L K) (ht : TIok P t i) (hs : HSat w F (L.map Prod.snd)) (hx : Has w F x vx) (hi : Has w F ix vi) : ∃ v r, (Instr.indexAt t vx vi).run P w = .ok v w ∧ K r ∧ Has w F r v := by
  unfold sIndex at h
  split at h
  · rename_i k v
    simp only [Has] at hx
    subst hx
    split at h
    · rename_i kk z e esz eby zs
      simp only [Has] at hi
      subst hi
      split at h
      · rename_i v' e' sz n f hk
        obtain ⟨⟨rfl, h0, h1, rfl⟩, hK⟩ := h
        obtain ⟨xs, ho, _⟩ := (hs.lk hk (by simp)).holds _ List.mem_cons_self
        rcases ho.2 with ⟨rfl, rfl⟩ | ⟨g0, cap, cur, rfl, _⟩
        · omega
        · refine ⟨_, _, run_indexAt_slice ht h0 h1, hK g0 rfl, ?_⟩
          simp [Has]
      · exact h.elim
    · exact h.elim
  · exact p_index h ht hx hi

theorem s_len {x : SV} {vx : Value} {K : SV → Prop} {ty : TypeId} (h : (pLen i x).run K) (ht : TIok P t i) (hx : Has w F x vx) : ∃ v r, (Builtin.len_ #[t] ty #[vx]).run P w = .ok v w ∧ K r ∧ Has w F r v := by
  unfold pLen at h
  split at h
  · rename_i e esz eby zs
    obtain ⟨ie, ti, z, h1, _⟩ := ht
    have hrun : ∀ A n c, (Builtin.len_ #[t] ty #[.slice A n c]).run P w = .ok (.int .i64 n) w := fun A n c => by
      simp [Builtin.len_, run_underlying h1, goInt]
    split at h
    · obtain ⟨A, c, rfl, _⟩ := hx
      exact ⟨_, _, hrun _ _ _, h, rfl⟩
    · simp only [Has] at hx; subst hx
      exact ⟨_, _, hrun _ _ _, h, rfl⟩
    · simp only [Has] at hx; subst hx
      exact ⟨_, _, hrun _ _ _, h, rfl⟩
    · obtain ⟨_, _, A, rfl, _⟩ := hx
      exact ⟨_, _, hrun _ _ _, h, rfl⟩
    · exact False.elim h
  · rename_i z
    obtain ⟨ti, h1, _⟩ := ht
    split at h
    · simp only [Has] at hx; subst hx
      refine ⟨_, _, ?_, h, rfl⟩
      simp [Builtin.len_, run_underlying h1, goInt]
    · exact False.elim h
  · exact False.elim h

theorem s_cap {x : SV} {vx : Value} {K : SV → Prop} {ty : TypeId} (h : (pCap i x).run K) (ht : TIok P t i) (hx : Has w F x vx) : ∃ v r, (Builtin.cap_ #[t] ty #[vx]).run P w = .ok v w ∧ K r ∧ Has w F r v := by
  unfold pCap at h
  split at h
  · rename_i e esz eby zs
    obtain ⟨ie, ti, z, h1, _⟩ := ht
    have hrun : ∀ A n c, (Builtin.cap_ #[t] ty #[.slice A n c]).run P w = .ok (.int .i64 c) w := fun A n c => by
      simp [Builtin.cap_, run_underlying h1, goInt]
    split at h
    · simp only [Has] at hx; subst hx
      exact ⟨_, _, hrun _ _ _, h, rfl⟩
    · simp only [Has] at hx; subst hx
      exact ⟨_, _, hrun _ _ _, h, rfl⟩
    · obtain ⟨_, _, A, rfl, _⟩ := hx
      exact ⟨_, _, hrun _ _ _, h, rfl⟩
    · exact False.elim h
  · exact False.elim h
theorem eq_nil {op : BinOp} {xo yo : Operand} {e : TypeId} (he : P.underlying t = some (.pointer e)) (p : Option Addr) :
    (op = .eql → (do eqGuard op t xo yo (.pointer p) (.pointer none); binOp op t (.pointer p) (.pointer none) : Sem Value).run P w = .ok (.bool p.isNone) w) ∧
    (op = .neq → (do eqGuard op t xo yo (.pointer p) (.pointer none); binOp op t (.pointer p) (.pointer none) : Sem Value).run P w = .ok (.bool (!p.isNone)) w) := by
  have hp : P.pointee t = e := by simp [Program.pointee, he]
  subst hp
  refine ⟨fun e1 => ?_, fun e1 => ?_⟩
  · subst e1
    simp [eqGuard, run_eql_pointer_nil w t p he]
  · subst e1
    simp [eqGuard, run_neq_pointer_nil w t p he]

theorem eqC_run (d : Nat) {xs ys : Array Value} {f g : Nat → SV} : ∀ (fs : List Field) (zs : List Value) (k : Nat) (r : Bool), fs.map (·.offset) = List.range' k zs.length → (∀ f ∈ fs, f.name ≠ "_") → fs.map (fun f => P.underlying f.type) = zs.map kindV →
    k + zs.length ≤ xs.size → k + zs.length ≤ ys.size → (∀ j, k ≤ j → j < k + zs.length → Has w F (f j) (xs.getD j undef) ∧ Has w F (g j) (ys.getD j undef)) → eqC f g zs k = some r → (Op.eqFields (d + 1) xs ys fs).run P w = .ok r w
  | [], [], k, r, _, _, _, _, _, _, h => by
    unfold eqC at h
    injection h with h
    subst h
    rfl
  | [], _ :: _, k, r, h, _, _, _, _, _, _ => by simp [List.range'] at h
  | fd :: fs, [], k, r, h, _, _, _, _, _, _ => by simp at h
  | fd :: fs, z :: zs, k, r, h, hf, ht, hx, hy, hc, he => by
    rw [List.length_cons] at h hx hy hc
    rw [List.map_cons, List.range'_succ, List.cons.injEq] at h
    rw [List.map_cons, List.map_cons, List.cons.injEq] at ht
    have hn := hf fd List.mem_cons_self
    have hu0 := ht.1
    have hcx := hc k (Nat.le_refl _) (by omega)
    have ih : ∀ r', eqC f g zs (k + 1) = some r' → (Op.eqFields (d + 1) xs ys fs).run P w = .ok r' w := fun r' hr => eqC_run d fs zs (k + 1) r' h.2 (fun q hq => hf q (List.mem_cons_of_mem _ hq)) ht.2 (by omega) (by omega) (fun j h1 h2 => hc j (by omega) (by omega)) hr
    unfold eqC at he
    split at he
    · rename_i q a b ha hb
      split at he
      · rename_i r' hr
        injection he with he
        subst he
        have hu : P.underlying fd.type = some (.int .i64) := hu0
        rw [ha, hb] at hcx
        obtain ⟨h1, h2⟩ := hcx
        simp only [Has] at h1 h2
        have px : (part fd.type xs fd.offset).run P w = .ok (.int .i64 a) w := by
          rw [h.1]
          have e : xs[k]? = some (.int .i64 a) := by
            rw [← h1]; simp [Array.getD, show k < xs.size by omega]
          unfold part
          simp [Sem.run_bind, run_isAgg hu, aggD, e]
        have py : (part fd.type ys fd.offset).run P w = .ok (.int .i64 b) w := by
          rw [h.1]
          have e : ys[k]? = some (.int .i64 b) := by
            rw [← h2]; simp [Array.getD, show k < ys.size by omega]
          unfold part
          simp [Sem.run_bind, run_isAgg hu, aggD, e]
        unfold Op.eqFields
        rw [if_pos hn]
        simp only [Sem.run_bind, px, py, Result.andThen_ok, run_equalIn_int w d fd.type .i64 .i64 a b hu]
        by_cases hab : a = b
        · subst hab
          simp [ih r' hr]
        · have : (a == b) = false := by simpa using hab
          simp [this]
      · cases he
    · rename_i q a b ha hb
      split at he
      · rename_i r' hr
        injection he with he
        subst he
        have hu : P.underlying fd.type = some .bool := hu0
        rw [ha, hb] at hcx
        obtain ⟨h1, h2⟩ := hcx
        simp only [Has] at h1 h2
        have px : (part fd.type xs fd.offset).run P w = .ok (.bool a) w := by
          rw [h.1]
          have e : xs[k]? = some (.bool a) := by
            rw [← h1]; simp [Array.getD, show k < xs.size by omega]
          unfold part
          simp [Sem.run_bind, run_isAgg hu, aggD, e]
        have py : (part fd.type ys fd.offset).run P w = .ok (.bool b) w := by
          rw [h.1]
          have e : ys[k]? = some (.bool b) := by
            rw [← h2]; simp [Array.getD, show k < ys.size by omega]
          unfold part
          simp [Sem.run_bind, run_isAgg hu, aggD, e]
        unfold Op.eqFields
        rw [if_pos hn]
        simp only [Sem.run_bind, px, py, Result.andThen_ok, run_equalIn_bool' w d fd.type a b hu]
        by_cases hab : a = b
        · subst hab
          simp [ih r' hr]
        · have : (a == b) = false := by simpa using hab
          simp [this]
      · cases he
    · cases he

theorem s_bin {op : BinOp} {x y : SV} {xo yo : Operand} {vx vy : Value} {K : SV → Prop} (h : (pBin op i x y).run K) (ht : TIok P t i) (hx : Has w F x vx) (hy : Has w F y vy) :
    ∃ v r, (do eqGuard op t xo yo vx vy; binOp op t vx vy : Sem Value).run P w = .ok v w ∧ K r ∧ Has w F r v := by
  unfold pBin at h
  split at h
  · rename_i k a k' b
    simp only [Has] at hx hy
    subst hx
    subst hy
    cases hk : decide (k = k')
    · rw [hk] at h; exact False.elim h
    · rw [hk, cond_true] at h
      have hk := of_decide_eq_true hk
      subst hk
      split at h
      · obtain ⟨_, z, hz, hK⟩ := h
        exact ⟨.int k (k.wrap (a + b)), _, by simp [eqGuard, binOp, Op.intArith], hK, by rw [← hz]; rfl⟩
      · obtain ⟨_, z, hz, hK⟩ := h
        exact ⟨.int k (k.wrap (a - b)), _, by simp [eqGuard, binOp, Op.intArith], hK, by rw [← hz]; rfl⟩
      · obtain ⟨_, z, hz, hK⟩ := h
        exact ⟨.int k (k.wrap (a * b)), _, by simp [eqGuard, binOp, Op.intArith], hK, by rw [← hz]; rfl⟩
      · obtain ⟨hb, z, hz, hK⟩ := h
        exact ⟨.int k (k.wrap (a.tdiv b)), _, by simp [eqGuard, binOp, Op.intDiv, hb], hK, by rw [← hz]; rfl⟩
      · obtain ⟨hb, hK⟩ := h
        exact ⟨.int k (a.tmod b), _, by simp [eqGuard, binOp, Op.intDiv, hb], hK, rfl⟩
      · obtain ⟨hb, z, hz, hK⟩ := h
        exact ⟨.int k (a / 2 ^ min b.toNat k.bits), _, by simp [eqGuard, binOp, shift_shr_any k k a b hb], hK, by rw [← hz]; rfl⟩
      · obtain ⟨_, z, hz, hK⟩ := h
        exact ⟨.int k (bits .xor k a b), _, by simp [eqGuard, binOp, intBits_xor], hK, by rw [← hz]; rfl⟩
      all_goals first
        | exact ⟨_, _, by simp [eqGuard, binOp, Op.intCmp], h, rfl⟩
        | exact False.elim h
  · rename_i a b
    simp only [Has] at hx hy
    subst hx
    subst hy
    split at h
    · obtain ⟨ti, h1, _⟩ := ht
      split at h
      · exact ⟨.bool (a == b), _, by simp [eqGuard, run_eql_bool w t a b h1], h, rfl⟩
      · exact ⟨.bool (!(a == b)), _, by simp [eqGuard, run_neq_bool w t a b h1], h, rfl⟩
      · exact False.elim h
    · exact False.elim h
  · rename_i n f m g
    split at h
    · rename_i sz fl zs
      cases hb : (Nat.beq n sz && Nat.beq m sz)
      · rw [hb] at h; exact False.elim h
      · rw [hb, cond_true] at h
        have hb := (Bool.and_eq_true _ _).mp hb
        have e1 := Nat.eq_of_beq_eq_true hb.1
        have e2 := Nat.eq_of_beq_eq_true hb.2
        subst e1
        subst e2
        split at h
        · rename_i r hr
          obtain ⟨xs, rfl, hxn, hx⟩ := hx
          obtain ⟨ys, rfl, hyn, hy⟩ := hy
          obtain ⟨hzl, fs, ti, h1, _, _, _, _, _, _, hq⟩ := ht
          obtain ⟨q1, q2, q3, q4, q5, _⟩ := hq rfl
          have hfo : P.fieldsOf t = fs := by unfold Program.fieldsOf; rw [h1]
          have hrun : (Op.equalIn 10000 t (.agg xs) (.agg ys)).run P w = .ok r w := by
            rw [run_equalIn_struct w 9999 t xs ys (by rw [hfo]; exact h1) q1, hfo]
            exact eqC_run 9998 fs.toList zs 0 r q3 q4 q5 (by omega) (by omega) (fun j _ hj => ⟨hx j (by omega), hy j (by omega)⟩) hr
          split at h
          · exact ⟨.bool r, _, by simp only [Sem.run_bind, run_eqGuard_agg w .eql t xo yo xs ys q2, Result.andThen_ok, run_eql_struct, hrun], h, rfl⟩
          · exact ⟨.bool (!r), _, by simp only [Sem.run_bind, run_eqGuard_agg w .neq t xo yo xs ys q2, Result.andThen_ok, run_neq_struct, hrun], h, rfl⟩
          · exact False.elim h
        · exact False.elim h
    · exact False.elim h
  · rename_i a b
    simp only [Has] at hx hy
    subst hx
    subst hy
    split at h
    · split at h
      · obtain ⟨hb, hK⟩ := h
        have hm : (a.size : Int) + (b.size : Int) ≤ 9223372036854775807 := by omega
        exact ⟨.string (a ++ b), _, by simp [eqGuard, binOp, Op.stringOp, hm], hK, rfl⟩
      · exact False.elim h
    · exact False.elim h
  · simp only [Has] at hx hy
    subst hx
    subst hy
    split at h
    · rename_i e z
      obtain ⟨ti, h1, _⟩ := ht
      split at h
      · exact ⟨.bool true, _, (eq_nil h1 none).1 rfl, h, rfl⟩
      · exact ⟨.bool false, _, (eq_nil h1 none).2 rfl, h, rfl⟩
      · exact False.elim h
    · exact False.elim h
  · simp only [Has] at hy
    subst hy
    split at h
    all_goals first
      | exact False.elim h
      | (obtain ⟨ti, h1, _⟩ := ht
         have hx' : ∃ p, vx = .pointer (some p) := by first | exact ⟨_, hx⟩ | exact ⟨_, hx.1⟩ | (obtain ⟨b, o, e, _⟩ := hx; exact ⟨_, e⟩)
         obtain ⟨p, rfl⟩ := hx'
         split at h
         · exact ⟨.bool false, _, (eq_nil h1 (some p)).1 rfl, h, rfl⟩
         · exact ⟨.bool true, _, (eq_nil h1 (some p)).2 rfl, h, rfl⟩
         · exact False.elim h)
  · exact False.elim h

theorem eqI_run {ms : Array (String × TypeId)} (d : Nat) (h1 : P.underlying t = some (.interface ms)) : (Op.equalIn (d + 1) t .nilIface .nilIface).run P w = .ok true w ∧ ∀ a v, (Op.equalIn (d + 1) t (.iface a v) .nilIface).run P w = .ok false w :=
  ⟨by simp [Op.equalIn, run_underlying h1], fun a v => by simp [Op.equalIn, run_underlying h1]⟩
theorem eq_ptr {op : BinOp} {xo yo : Operand} {e : TypeId} {j : TypeInfo} {b o b' o' : Nat} (he : P.underlying t = some (.pointer e)) (hte : P.info? e = some j) (hsz : j.size ≠ 0)
    (hb : ∃ cs t, w.heap[b]? = some (.cells cs t (0, 0))) (hb' : ∃ cs t, w.heap[b']? = some (.cells cs t (0, 0))) :
    (op = .eql → (do eqGuard op t xo yo (.pointer (some ⟨b, o, none⟩)) (.pointer (some ⟨b', o', none⟩)); binOp op t (.pointer (some ⟨b, o, none⟩)) (.pointer (some ⟨b', o', none⟩)) : Sem Value).run P w = .ok (.bool (decide (b = b' ∧ o = o'))) w) ∧
    (op = .neq → (do eqGuard op t xo yo (.pointer (some ⟨b, o, none⟩)) (.pointer (some ⟨b', o', none⟩)); binOp op t (.pointer (some ⟨b, o, none⟩)) (.pointer (some ⟨b', o', none⟩)) : Sem Value).run P w = .ok (.bool (!decide (b = b' ∧ o = o'))) w) := by
  have h : ∀ d : Nat, (Op.equalIn (d + 1) t (.pointer (some ⟨b, o, none⟩)) (.pointer (some ⟨b', o', none⟩))).run P w = .ok (decide (b = b' ∧ o = o')) w := fun d => by
    by_cases h : b = b' ∧ o = o'
    · obtain ⟨rfl, rfl⟩ := h
      simp [Op.equalIn, run_underlying he, sizeOf, typeInfo, hte, run_sameAddr_same]
    · obtain ⟨c, t1, h1⟩ := hb
      obtain ⟨c', t2, h2⟩ := hb'
      have hne : (⟨b, o, none⟩ : Addr) ≠ ⟨b', o', none⟩ := fun e => h (by injection e with e1 e2; exact ⟨e1, e2⟩)
      have := run_sameAddr_other (P := P) w hne h1 h2
      rw [decide_eq_false h]
      simp [Op.equalIn, run_underlying he, sizeOf, typeInfo, hte, hsz, this]
  refine ⟨fun e1 => ?_, fun e1 => ?_⟩
  · subst e1
    simp only [eqGuard, binOp]
    simp [Op.equal, Op.maxDepth, h 9999]
  · subst e1
    simp only [eqGuard, binOp]
    simp [Op.equal, Op.maxDepth, h 9999]
theorem eqS_run {e : TypeId} {a : Addr} {n c : Nat} (d : Nat) (h1 : P.underlying t = some (.slice e)) : (Op.equalIn (d + 1) t (.slice (some a) n c) (.slice none 0 0)).run P w = .ok false w := by
  simp [Op.equalIn, run_underlying h1]
theorem s_binO {tt : List (Nat × TI)} (htt : TTok P tt) {op : BinOp} {x y : SV} {xo yo : Operand} {vx vy : Value} {K : SV → Prop} (h : (pBinO tt op i yo x y).run K) (ht : TIok P t i) (hx : Has w F x vx) (hy : Has w F y vy) (hc : ∀ c, yo = .const c → vy = c) :
    ∃ v r, (do eqGuard op t xo yo vx vy; binOp op t vx vy : Sem Value).run P w = .ok v w ∧ K r ∧ Has w F r v := by
  unfold pBinO at h
  split at h
  · have e := hc _ rfl
    subst e
    unfold pNilI at h
    split at h
    · rename_i ms z
      obtain ⟨ti, h1, _⟩ := ht
      have e1 : (Op.equal t .nilIface .nilIface).run P w = .ok true w := (eqI_run 9999 h1).1
      have e2 : ∀ a v, (Op.equal t (.iface a v) .nilIface).run P w = .ok false w := (eqI_run 9999 h1).2
      split at h
      · have hx : vx = .nilIface := hx
        subst hx
        split at h
        · exact ⟨.bool true, _, by simp [eqGuard_nil_constR, binOp, e1], h, rfl⟩
        · exact ⟨.bool false, _, by simp [eqGuard_nil_constR, binOp, e1], h, rfl⟩
        · exact False.elim h
      all_goals first
        | exact False.elim h
        | (have hx' : ∃ a v, vx = .iface a v := by first | (obtain ⟨v, e, _⟩ := hx; exact ⟨_, v, e⟩) | exact ⟨_, _, hx⟩
           obtain ⟨a, v, rfl⟩ := hx'
           split at h
           · exact ⟨.bool false, _, by simp [eqGuard, binOp, e2], h, rfl⟩
           · exact ⟨.bool true, _, by simp [eqGuard, binOp, e2], h, rfl⟩
           · exact False.elim h)
    · exact False.elim h
  · have e := hc _ rfl
    subst e
    unfold pNilS at h
    split at h
    · obtain ⟨ie, ti, zz, h1, _⟩ := ht
      obtain ⟨A, c, rfl, _, _, hcell⟩ := hx
      split at h
      · obtain ⟨hn, hK⟩ := h
        obtain ⟨b, off, rfl, _⟩ := hcell hn
        exact ⟨.bool false, _, by simp [eqGuard, binOp, eqS_run 9999 h1, Op.equal, Op.maxDepth], hK, rfl⟩
      · obtain ⟨hn, hK⟩ := h
        obtain ⟨b, off, rfl, _⟩ := hcell hn
        exact ⟨.bool true, _, by simp [eqGuard, binOp, eqS_run 9999 h1, Op.equal, Op.maxDepth], hK, rfl⟩
      · exact False.elim h
    · exact False.elim h
  · unfold pBinR at h
    split at h
    · rename_i e z b o n f b' o' n' f'
      obtain ⟨ti, h1, _⟩ := ht
      obtain ⟨rfl, _, hz, _⟩ := hx
      obtain ⟨rfl, _, hz', _⟩ := hy
      unfold pPtr at h
      split at h
      · rename_i sz fl zs q hfe
        have he := htt.fetch (t := e)
        rw [hfe] at he
        obtain ⟨hl, fs, j, _, hj, hjs, _⟩ := he
        cases hb : Nat.blt 0 sz
        · rw [hb] at h; exact False.elim h
        · rw [hb, cond_true] at h
          have hb : 0 < sz := Nat.le_of_ble_eq_true hb
          have hne : j.size ≠ 0 := by omega
          split at h
          · exact ⟨.bool _, _, (eq_ptr h1 hj hne hz hz').1 rfl, h, rfl⟩
          · exact ⟨.bool _, _, (eq_ptr h1 hj hne hz hz').2 rfl, h, rfl⟩
          · exact False.elim h
      · exact False.elim h
    · exact s_bin h ht hx hy
theorem s_un {op : UnOp} {x : SV} {vx : Value} {K : SV → Prop} (h : (pUn op x).run K) (hx : Has w F x vx) : ∃ v r, (Op.unary op vx).run P w = .ok v w ∧ K r ∧ Has w F r v := by
  unfold pUn at h
  split at h
  · simp only [Has] at hx; subst hx
    exact ⟨_, _, by simp [Op.unary], h, rfl⟩
  · simp only [Has] at hx; subst hx
    obtain ⟨_, z, hz, hK⟩ := h
    exact ⟨_, _, rfl, hK, by rw [← hz]; rfl⟩
  · exact False.elim h

theorem s_extract {x : SV} {vx : Value} {k : Nat} {K : SV → Prop} (h : (pExtract x k).run K) (hx : Has w F x vx) : ∃ v r, (Instr.extract vx k).run P w = .ok v w ∧ K r ∧ Has w F r v := by
  unfold pExtract at h
  split at h
  · rename_i n f
    cases hk : Nat.blt k n
    · rw [hk] at h; exact False.elim h
    · rw [hk, cond_true] at h
      have hk : k < n := Nat.le_of_ble_eq_true hk
      obtain ⟨vs, rfl, hn, hc⟩ := hx
      have hk' : k < vs.size := by omega
      refine ⟨_, _, ?_, h, hc k hk⟩
      simp [Instr.extract, hk', Array.getD]
  · exact False.elim h

theorem s_make {l c : SV} {vl vc : Value} (h : sMake i l c L nx K) (ht : TIok P t i) (hs : HSat w F (L.map Prod.snd)) (hl : Has w F l vl) (hc : Has w F c vc) : ∃ v w', (Instr.makeSlice t vl vc).run P w = .ok v w' ∧ Out w F K v w' := by
  unfold sMake at h
  split at h
  · rename_i e esz eby zs l c
    simp only [Has] at hl hc
    subst hl
    subst hc
    obtain ⟨⟨h0, h1, h2⟩, hK⟩ := h
    obtain ⟨ie, ti, z, g1, g2, g3, g4, g5, g6, g7, g8, g9, g10, _⟩ := ht
    have w1 : IntKind.i64.wrap l = l := by rw [IntKind.wrap_i64]; omega
    have w2 : IntKind.i64.wrap c = c := by rw [IntKind.wrap_i64]; omega
    have hz : (zeroValue e).run P w = .ok z w := by
      unfold zeroValue typeInfo
      simp [program, Sem.run, g2, g5]
    have hm : ∀ x : Int, 0 ≤ x → x ≤ 1000000000 → ¬ (281474976710656 < (eby : Int) * x) := fun x hx0 hx => by
      have h3 : (eby : Int) * x ≤ 1000 * 1000000000 := Int.mul_le_mul (by omega) hx (by omega) (by omega)
      omega
    have hmc := hm c (by omega) h2
    have hml := hm l h0 (by omega)
    have hroom : ¬ (c.toNat * eby > roomBytes) := by
      have h3 : c.toNat * eby ≤ 1000000000 * 1000 := Nat.mul_le_mul (by omega) g9
      unfold roomBytes
      omega
    have hsz : z.cells.size = esz := by rw [← g7, ← g6]; simp
    have hrun : (Instr.makeSlice t (.int .i64 l) (.int .i64 c)).run P w = .ok (.slice (some ⟨w.heap.size, 0, none⟩) l.toNat c.toNat)
        (w.alloc (.cells ((Array.range (c.toNat * esz)).map fun j => z.cells[j % z.cells.size]!) e)) := by
      unfold Instr.makeSlice
      have c1 : ¬ (c < 0) := by omega
      have c2 : ¬ (l < 0) := by omega
      have c3 : ¬ (c < l) := by omega
      by_cases hn : c.toNat * esz = 0
      · simp [run_underlying g1, asInt, asIntOf, typeInfo, program, Sem.run, g2, g4, w1, w2, hmc, hml, c1, c2, c3, askRoom, hroom, sizeOf, g3, hn, newRow, newObj, World.alloc_eq]
        congr 2
        rw [show Array.range 0 = #[] from rfl, Array.map_empty, Array.map_empty]
      · simp [run_underlying g1, asInt, asIntOf, typeInfo, program, Sem.run, g2, g4, w1, w2, hmc, hml, c1, c2, c3, askRoom, hroom, sizeOf, g3, hn, newRow, newObj, hz, World.alloc_eq]
    have hcl : (((Array.range (c.toNat * esz)).map fun j => z.cells[j % z.cells.size]!)).toList.length = c.toNat * esz := by simp
    refine ⟨_, _, hrun, .own nx _, _, _, F, hK w.heap.size, Keep.new hs _, fun _ h => h, ?_, rfl⟩
    have := hs.cons_row (cs := ((Array.range (c.toNat * esz)).map fun j => z.cells[j % z.cells.size]!).toList) (f := fun _ => zF zs) (n := l.toNat) (c := c.toNat) (sz := esz) e hcl (by omega) (by unfold maxLen; omega) fun j k hj hk => ?_
    · rw [Array.toArray_toList] at this; exact this
    · have hlt : j * esz + k < c.toNat * esz := by
        have : (j + 1) * esz ≤ c.toNat * esz := Nat.mul_le_mul_right _ (by omega)
        rw [Nat.succ_mul] at this
        omega
      have e1 : (((Array.range (c.toNat * esz)).map fun j => z.cells[j % z.cells.size]!).toList).getD (j * esz + k) undef = zs.getD k undef := by
        have hmod : (j * esz + k) % esz = k := by rw [Nat.mul_comm, Nat.mul_add_mod]; exact Nat.mod_eq_of_lt hk
        have hk2 : k < z.cells.size := by omega
        simp only [List.getD_eq_getElem?_getD, Array.getElem?_toList, Array.getElem?_map, Array.getElem?_range, hlt, if_true, Option.map_some, Option.getD_some, hsz, hmod, ← g6, hk2, getElem!_pos]
        simp [hk2]
      rw [e1]
      exact zF_has g10 k (by omega)
  · exact h.elim

theorem s_get {x : SV} {vx : Value} {k : Nat} {K : SV → Prop} (h : (pGet tt i x k).run K) (ht : TIok P t i) (htt : TTok P tt) (hx : Has w F x vx) : ∃ v r, (Instr.field t vx k).run P w = .ok v w ∧ K r ∧ Has w F r v := by
  unfold pGet at h
  split at h
  · rename_i sz fl zs q n f
    split at h
    · rename_i fo ft hk
      split at h
      · rename_i ag m hw
        obtain ⟨hfit, hK⟩ := h
        obtain ⟨vs, rfl, hn, hc⟩ := hx
        obtain ⟨_, fs, ti, h1, _, _, _, h5, h6, _⟩ := ht
        rw [← h5, List.getElem?_map] at hk
        obtain ⟨fd, hf, e⟩ := Option.map_eq_some_iff.1 hk
        injection e with e1 e2
        subst e1
        subst e2
        have hf' : fs[k]? = some fd := by simpa using hf
        obtain ⟨d, ti2, q1, q2, q3, q4, _⟩ := (TTok.fetch htt).facts hw
        cases ag with
        | true =>
          refine ⟨_, _, ?_, hK, vs.extract fd.offset (fd.offset + m), rfl, by simp; omega, fun j hj => ?_⟩
          · unfold Instr.field
            simp [run_underlying h1, hf', asAgg, part, run_isAgg q1, q2, sizeOf, typeInfo, program, Sem.run, q3, q4]
          · have := hc (fd.offset + j) (by omega)
            have e3 : (vs.extract fd.offset (fd.offset + m)).getD j undef = vs.getD (fd.offset + j) undef := by
              simp [Array.getD, show fd.offset + j < vs.size by omega, show j < m by omega, show j < min (fd.offset + m) vs.size - fd.offset by omega]
            rw [e3]
            exact this
        | false =>
          have hm := TI.w_one hw
          subst hm
          refine ⟨_, _, ?_, hK, hc fd.offset (by omega)⟩
          unfold Instr.field
          simp [run_underlying h1, hf', asAgg, part, run_isAgg q1, q2, show fd.offset < vs.size by omega, Array.getD]
      · exact False.elim h
    · exact False.elim h
  · exact False.elim h
end
end Go.Proofs.YtcagfmbboliohaaDoor
