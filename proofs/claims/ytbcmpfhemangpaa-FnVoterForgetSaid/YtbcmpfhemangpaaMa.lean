/- Maps whose keys are pairs of ints and whose elements are ints: the laws of their operations, for the walk. -/
import Derived.Maps.OwnSet
import Derived.Maps.RangeWalk
import Derived.Maps.Ext
import Derived.DeepKeys4
import Derived.Test.YtbcmpfhemangpaaTy
set_option linter.all false
namespace Go.Proofs.Ytbcmpfhemangpaa
open Go.RowKit Go.Maps

abbrev KT : TypeId := 84
abbrev MT : TypeId := 80
theorem laidOut : laidOutB Try.prog = true := by kernel_rfl
theorem rowK : KT < Try.prog.types.size := of_decide_eq_true (by kernel_rfl)
theorem keyd : Keyed Try.prog KT := Keyed.of_law (deep_law_laid laidOut (m := 3) (by omega) rowK (by kernel_rfl) (by kernel_rfl))
theorem cellsK : Try.prog.cellsOf KT = 2 := by kernel_rfl
theorem cellsE : Try.prog.cellsOf 3 = 1 := by kernel_rfl
theorem isKey : Try.prog.keyType KT = true := by kernel_rfl
theorem zeroE (w : World) : (zeroValue 3).run Try.prog w = .ok (.int .i64 0) w := by kernel_rfl
/-- an int of 64 bits -/
def I64 (z : Int) : Prop := -9223372036854775808 ≤ z ∧ z ≤ 9223372036854775807
theorem I64.wf {z : Int} (h : I64 z) : (Lit.int .i64 z).wf = true := by
  unfold I64 at h
  simp [Lit.wf, IntKind.min, IntKind.max, IntKind.bits, IntKind.signed]
  omega
theorem I64.of {z : Int} (h : (Lit.int .i64 z).wf = true) : I64 z := by
  simp [Lit.wf, IntKind.min, IntKind.max, IntKind.bits, IntKind.signed] at h
  unfold I64
  omega
/-- what a key reads as -/
def kS (r a : Int) : Lit := .string (keyBytes [.int .i64 r, .int .i64 a])
abbrev kV (r a : Int) : Value := .agg #[.int .i64 r, .int .i64 a]
set_option maxRecDepth 100000 in
theorem lits {n : Nat} {x : Value} {l : List Lit} : Try.prog.keyLits n 3 [x] = some l → ∃ z, x = .int .i64 z ∧ I64 z ∧ l = [.int .i64 z] := fun h => by
  cases n with
  | zero => simp [Program.keyLits] at h
  | succ n =>
    unfold Program.keyLits at h
    rw [Try.underlying3] at h
    cases x <;> simp at h
    obtain ⟨⟨rfl, hw⟩, rfl⟩ := h
    exact ⟨_, rfl, I64.of hw, rfl⟩
set_option maxRecDepth 100000 in
theorem lits_mk {n : Nat} {z : Int} (h : I64 z) : Try.prog.keyLits (n + 1) 3 [.int .i64 z] = some [.int .i64 z] := by
  unfold Program.keyLits
  rw [Try.underlying3]
  simp [h.wf]
set_option maxRecDepth 100000 in
theorem key_mk {r a : Int} (hr : I64 r) (ha : I64 a) : keyOf Try.prog KT (kV r a) = some (kS r a) := by
  obtain ⟨m, hm⟩ : ∃ m, Try.prog.types.size = m + 1 := ⟨Try.prog.types.size - 1, (Nat.sub_add_cancel (Nat.succ_le_of_lt (Nat.lt_of_le_of_lt (Nat.zero_le KT) rowK))).symm⟩
  unfold keyOf
  rw [Try.underlying84]
  have hf : (kV r a).formed Try.prog KT = true := by
    unfold Value.formed
    rw [Try.underlying84]
    simp [cellsK]
  simp only [isKey, hf, Bool.and_self, if_true]
  unfold Program.keyLits
  rw [Try.underlying84]
  simp [Value.cells, cellsK, cellsE, hm, lits_mk hr, lits_mk ha, kS]
set_option maxRecDepth 100000 in
theorem key_inv {v : Value} {kl : Lit} (h : keyOf Try.prog KT v = some kl) : ∃ r a, v = kV r a ∧ I64 r ∧ I64 a ∧ kl = kS r a := by
  unfold keyOf at h
  rw [Try.underlying84] at h
  simp only [isKey, Bool.true_and] at h
  split at h
  · rename_i hf
    cases v <;> simp [Value.formed, Try.underlying84] at hf
    rename_i xs
    obtain ⟨xs⟩ := xs
    have hx : xs.length = 2 := by simpa [cellsK] using hf
    match xs, hx with
    | [x, y], _ =>
      unfold Program.keyLits at h
      rw [Try.underlying84] at h
      simp [Value.cells, cellsK, cellsE, Option.bind_eq_some_iff] at h
      obtain ⟨l1, h1, l3, ⟨l2, h2, e3⟩, e4⟩ := h
      subst e3
      obtain ⟨r, rfl, hr, rfl⟩ := lits h1
      obtain ⟨a, rfl, ha, rfl⟩ := lits h2
      exact ⟨r, a, rfl, hr, ha, e4.symm⟩
  · cases h
theorem kS_inj {r a r' a' : Int} (hr : I64 r) (ha : I64 a) (hr' : I64 r') (ha' : I64 a') (h : kS r a = kS r' a') : r = r' ∧ a = a' := by
  have := keyd.inj (key_mk hr ha) (h ▸ key_mk hr' ha')
  injection this with h1
  injection h1 with h1
  injection h1 with h1 h2
  injection h2 with h2
  injection h1 with _ h1
  injection h2 with _ h2
  exact ⟨h1, h2⟩
theorem kS_key {r a : Int} (hr : I64 r) (ha : I64 a) : WideAt.IsKeyLit (kS r a) := keyd.key (key_mk hr ha)

/-! ### pieces of memory -/
abbrev DM := DataW Unit
noncomputable abbrev elR : Value → Option (DM × List MemPlace) := plainElem Try.prog 3
theorem elR_mk {z : Int} (h : I64 z) : elR (.int .i64 z) = some (.lit (.int .i64 z), []) := plainElem_int Try.underlying3 h.wf
/-- block b is a map that reads as D -/
noncomputable def mapH (b n : Nat) (D : DM) : Heaplet where
  fp x := x = b
  holds w _ := w.ownsMap Try.prog KT elR b n D
  mono _ h := h
  stable hk h := by
    obtain ⟨es, clock, hb, rest⟩ := h
    exact ⟨es, clock, (hk b (.inl rfl)).trans hb, rest⟩
/-- block b is a map under way, block g its iterator -/
noncomputable def rngH (b g n : Nat) (D : DM) (left : Lit → Bool) (cnt : Nat) : Heaplet where
  fp x := x = b ∨ x = g
  holds w _ := w.ranges Try.prog KT elR b g n D left cnt
  mono _ h := h
  stable hk h := by
    obtain ⟨es, clock, since, seen, c0, hb, F, hs, hD, hr, rest⟩ := h
    exact ⟨es, clock, since, seen, c0, (hk b (.inl (.inl rfl))).trans hb, F, hs, hD, (hk g (.inl (.inr rfl))).trans hr, rest⟩
theorem entry_keep {w w' : World} {b g since c0 clock : Nat} {seen : Array Nat} {es : Array MapEntry} {v : Value} (hb : w.heap[b]? = some (.map es clock)) (hr : w.heap[g]? = some (.mapIter (some b) since seen c0)) (hb' : w'.heap[b]? = some (.map es clock)) (hr' : w'.heap[g]? = some (.mapIter (some b) since seen c0))
    (h : (Instr.entry (.pointer (some ⟨g, 0, none⟩))).run Try.prog w = .ok v w) : (Instr.entry (.pointer (some ⟨g, 0, none⟩))).run Try.prog w' = .ok v w' := by
  cases hs : seen.back? with
  | none => exfalso; simp [Instr.entry, getObj, Sem.run_bind, Sem.run, hr, hs, stuck, Result.andThen] at h
  | some st =>
    by_cases hc : clock = c0
    · subst hc
      cases hf : es.find? (·.born == st) with
      | none => exfalso; simp [Instr.entry, getObj, Sem.run_bind, Sem.run, hr, hb, hs, hf, unsupported, Result.andThen] at h
      | some e =>
        have h1 : (Instr.entry (.pointer (some ⟨g, 0, none⟩))).run Try.prog w = .ok (.tuple #[e.key, e.val]) w := by
          simp only [Instr.entry, getObj, Sem.run_bind, Sem.run, hr, hb, hs, Result.andThen, bne_self_eq_false, Bool.false_eq_true, if_false, hf]; rfl
        have h2 : (Instr.entry (.pointer (some ⟨g, 0, none⟩))).run Try.prog w' = .ok (.tuple #[e.key, e.val]) w' := by
          simp only [Instr.entry, getObj, Sem.run_bind, Sem.run, hr', hb', hs, Result.andThen, bne_self_eq_false, Bool.false_eq_true, if_false, hf]; rfl
        rw [h1] at h
        injection h with h
        rw [h2, h]
    · exfalso
      have hc' : (clock != c0) = true := by simp [hc]
      simp [Instr.entry, getObj, Sem.run_bind, Sem.run, hr, hb, hs, hc, unsupported, Result.andThen] at h
/-- the same, and the entry that came last is at hand -/
noncomputable def entH (b g n : Nat) (D : DM) (left : Lit → Bool) (cnt : Nat) (v : Value) : Heaplet where
  fp x := x = b ∨ x = g
  holds w _ := w.ranges Try.prog KT elR b g n D left cnt ∧ (Instr.entry (.pointer (some ⟨g, 0, none⟩))).run Try.prog w = .ok v w
  mono _ h := h
  stable {w w' _} hk h := by
    obtain ⟨⟨es, clock, since, seen, c0, hb, F, hs, hD, hr, rest⟩, he⟩ := h
    have hb' := (hk b (.inl (.inl rfl))).trans hb
    have hr' := (hk g (.inl (.inr rfl))).trans hr
    exact ⟨⟨es, clock, since, seen, c0, hb', F, hs, hD, hr', rest⟩, entry_keep hb hr hb' hr' he⟩

/-! ### the operations -/
section
variable {L : Hpl} {nx : Nat} {K : KK} {o : Oper}
theorem hasL1 {w : World} {F : Nat → Prop} {s : SV} {l : List Operand} {ev : Operand → Value} (h : HasL w F [s] (l.map ev)) : ∃ x, l = [x] ∧ Has w F s (ev x) := by
  match l, h with
  | [x], h => exact ⟨x, rfl, h.1⟩
theorem HasL.at1 {w : World} {F : Nat → Prop} {s : SV} {x : Operand} {ev : Operand → Value} (h : HasL w F [s] ([x].map ev)) : Has w F s (ev x) := h.1
theorem HasL.at2 {w : World} {F : Nat → Prop} {s t : SV} {x y : Operand} {ev : Operand → Value} (h : HasL w F [s, t] ([x, y].map ev)) : Has w F s (ev x) ∧ Has w F t (ev y) := ⟨h.1, h.2.1⟩
theorem HasL.at3 {w : World} {F : Nat → Prop} {s t u : SV} {x y z : Operand} {ev : Operand → Value} (h : HasL w F [s, t, u] ([x, y, z].map ev)) : Has w F s (ev x) ∧ Has w F t (ev y) ∧ Has w F u (ev z) := ⟨h.1, h.2.1, h.2.2.1⟩
theorem has_key {w : World} {F : Nat → Prop} {r a : Int} {f : Nat → SV} {v : Value} (e0 : f 0 = .i r) (e1 : f 1 = .i a) (h : Has w F (.agg 2 f) v) : v = kV r a := by
  obtain ⟨vs, rfl, hn, hc⟩ := h
  obtain ⟨vs⟩ := vs
  match vs, hn with
  | [x, y], _ =>
    have h0 := hc 0 (by omega)
    have h1 := hc 1 (by omega)
    rw [e0] at h0
    rw [e1] at h1
    have h0 : x = .int .i64 r := h0
    have h1 : y = .int .i64 a := h1
    rw [h0, h1]
theorem bk_nx (nx : Nat) (p : Hp) (L : Hpl) : ∀ k g t n f, k < nx → lk k L = .box g t n f → lk k ((nx, p) :: L) = .box g t n f := fun k g t n f hk hl => BoxKeep.cons (BoxKeep.refl L nx) k g t n f hk hl
theorem bk_set {i : Nat} {h : Heaplet} (nx : Nat) (p : Hp) {L : Hpl} (hi : lk i L = .cust h) : ∀ k g t n f, k < nx → lk k L = .box g t n f → lk k (setK i p L) = .box g t n f := fun k g t n f hk hl => BoxKeep.setK (fun _ _ _ _ e => by rw [hi] at e; cases e) k g t n f hk hl

set_option maxRecDepth 100000 in
theorem Fgn.mkMap {t : TypeId} {x : Operand} {z : Int} (ho : o.op = .makeMap MT (some x)) (k : ∀ b, K (.val (.map (some b))) ((nx, .cust (mapH b 0 (.map []))) :: L) (nx + 1)) : Fgn Try.prog o [.i z] L nx K := ⟨fun w F ev hs hl => by
  rw [ho] at hl
  have hx : ev x = .int .i64 z := HasL.at1 hl
  refine StepV.value (v := .map (some w.heap.size)) (w' := w.alloc (.map #[] 0)) ?_ ⟨_, _, _, F, ⟨bk_nx _ _ _, by omega, k w.heap.size⟩, Keep.alloc hs.lt _, fun _ h => h, ?_, rfl⟩
  · have hm : (Instr.makeMap MT (some (.int .i64 z))).run Try.prog w = .ok (.map (some w.heap.size)) (w.alloc (.map #[] 0)) := by
      refine Eq.trans ?_ (run_makeMap (P := Try.prog) MT w)
      simp [Instr.makeMap, run_underlying Try.underlying80, asInt, asIntOf]
    unfold execOp
    simp [ho, hx, hm]
  · exact hs.cons (by simp) (fun b hb => RowKit.Below.heap_alloc w _ b hb) (World.ownsMap_made w Try.prog KT elR) fun b hb => by
      have hb : b = w.heap.size := hb
      subst hb
      simp⟩
theorem Fgn.upd {m x y : Operand} {b n i : Nat} {D : DM} {r a d : Int} {kf : Nat → SV} (e0 : kf 0 = .i r) (e1 : kf 1 = .i a) (ho : o.op = .mapUpdate MT m x y) (hi : lk i L = .cust (mapH b n D)) (hr : I64 r) (ha : I64 a) (hd : I64 d) (hn : n < 1000000)
    (k : K (.val undef) (setK i (.cust (mapH b (n + 1) (D.put (kS r a) (.lit (.int .i64 d))))) L) nx) : Fgn Try.prog o [.val (.map (some b)), .agg 2 kf, .i d] L nx K := ⟨fun w F ev hs hl => by
  rw [ho] at hl
  obtain ⟨h0, h1, h2⟩ := HasL.at3 hl
  have h0 : ev m = .map (some b) := h0
  have h1 := has_key e0 e1 h1
  have h2 : ev y = .int .i64 d := h2
  have hs1 := hs.lk hi (by simp)
  have hown : w.ownsMap Try.prog KT elR b n D := hs1.holds _ List.mem_cons_self
  obtain ⟨w', hrun, hown', hg⟩ := hown.update keyd Try.underlying80 (by unfold maxLen; omega) (key_mk hr ha) (elR_mk hd)
  refine StepV.skip (w' := w') ?_ ⟨_, _, _, F, ⟨bk_set nx _ hi, Nat.le_refl _, k⟩, ⟨hg.os, hg.tape, hg.output, hg.size, fun c hc => hg.block c (hs.lt c hc) fun e => ?_, Sem.drawn _ hrun⟩, fun _ h => h, ?_, rfl⟩
  · unfold execOp
    simp [ho, h0, h1, h2, hrun]
  · injection e with e
    exact (hs1.fp _ List.mem_cons_self c e).2 hc
  · exact HSat.setK hi (by simp) (hs1.turn hg.size (fun c hc hne => hg.block c hc fun e => hne (by injection e)) hown' fun c hc => ⟨Nat.lt_of_lt_of_le (hs1.fp _ List.mem_cons_self c hc).1 hg.size, .inl hc⟩)⟩
theorem Fgn.look {m x : Operand} {b n i : Nat} {D : DM} {r a : Int} {kf : Nat → SV} (e0 : kf 0 = .i r) (e1 : kf 1 = .i a) (ho : o.op = .lookup MT m x true) (hi : lk i L = .cust (mapH b n D)) (hr : I64 r) (ha : I64 a)
    (k : ∀ c, K (.tup 2 (litF [.i c, .b (Maps.has D (kS r a))])) L nx) : Fgn Try.prog o [.val (.map (some b)), .agg 2 kf] L nx K := ⟨fun w F ev hs hl => by
  rw [ho] at hl
  obtain ⟨h0, h1⟩ := HasL.at2 hl
  have h0 : ev m = .map (some b) := h0
  have h1 := has_key e0 e1 h1
  have hown : w.ownsMap Try.prog KT elR b n D := (hs.lk hi (by simp)).holds _ List.mem_cons_self
  obtain ⟨v, ps, hrun, hv⟩ := hown.look_ok keyd Try.underlying80 (zeroE w) (elR_mk (z := 0) (by unfold I64; omega)) (key_mk hr ha)
  obtain ⟨c, rfl, -, -⟩ := plainElem_int_inv Try.underlying3 hv
  refine StepV.value (w' := w) (v := .tuple #[.int .i64 c, .bool (Maps.has D (kS r a))]) ?_ ⟨_, _, _, F, ⟨fun _ _ _ _ _ _ h => h, Nat.le_refl _, k c⟩, Keep.refl _ _, fun _ h => h, hs, _, rfl, rfl, fun j hj => ?_⟩
  · unfold execOp
    simp [ho, h0, h1, hrun]
  · rcases (by omega : j = 0 ∨ j = 1) with rfl | rfl <;> rfl⟩
theorem Fgn.len {x : Operand} {b n i : Nat} {D : DM} {ty : TypeId} (ho : o.op = .call { callee := .builtin .len, args := #[x], argTypes := #[MT] }) (hi : lk i L = .cust (mapH b n D))
    (k : K (.i (Maps.size D)) L nx) : Fgn Try.prog o [.val (.map (some b))] L nx K := ⟨fun w F ev hs hl => by
  rw [ho] at hl
  have h0 : ev x = .map (some b) := HasL.at1 hl
  have hown : w.ownsMap Try.prog KT elR b n D := (hs.lk hi (by simp)).holds _ List.mem_cons_self
  have hrun := hown.len Try.underlying80 o.type
  refine StepV.value (w' := w) (v := .int .i64 (Maps.size D)) ?_ ⟨_, _, _, F, ⟨fun _ _ _ _ _ _ h => h, Nat.le_refl _, k⟩, Keep.refl _ _, fun _ h => h, hs, rfl⟩
  unfold execOp
  simp [ho, resolve, invoke, builtin, h0, hrun]⟩
theorem Fgn.range {m : Operand} {b n i : Nat} {D : DM} (ho : o.op = .range MT m) (hi : lk i L = .cust (mapH b n D))
    (k : ∀ g, K (.val (.pointer (some ⟨g, 0, none⟩))) (setK i (.cust (rngH b g n D (Maps.has D) (Maps.size D))) L) nx) : Fgn Try.prog o [.val (.map (some b))] L nx K := ⟨fun w F ev hs hl => by
  rw [ho] at hl
  have h0 : ev m = .map (some b) := HasL.at1 hl
  have hs1 := hs.lk hi (by simp)
  have hown : w.ownsMap Try.prog KT elR b n D := hs1.holds _ List.mem_cons_self
  obtain ⟨w', hrun, hrg, hg, hsz⟩ := hown.range keyd Try.underlying80
  refine StepV.value (w' := w') (v := .pointer (some ⟨w.heap.size, 0, none⟩)) ?_ ⟨_, _, _, F, ⟨bk_set nx _ hi, Nat.le_refl _, k w.heap.size⟩, ⟨hg.os, hg.tape, hg.output, hg.size, fun c hc => hg.block c (hs.lt c hc) (by simp), Sem.drawn _ hrun⟩, fun _ h => h, ?_, rfl⟩
  · unfold execOp
    simp [ho, h0, hrun]
  · refine HSat.setK hi (by simp) (hs1.turn hg.size (fun c hc hne => hg.block c hc (by simp)) hrg fun c hc => ?_)
    rcases hc with rfl | rfl
    · exact ⟨Nat.lt_of_lt_of_le (hs1.fp _ List.mem_cons_self _ rfl).1 hg.size, .inl rfl⟩
    · exact ⟨by omega, .inr (Nat.le_refl _)⟩⟩
theorem Fgn.next {it : Operand} {b g n i cnt : Nat} {D : DM} {left : Lit → Bool} (ho : o.op = .next it false) (hi : lk i L = .cust (rngH b g n D left cnt))
    (k0 : (∀ kl, left kl = false) → K (.tup 1 (litF [.b false])) L nx)
    (k1 : ∀ r a c cnt', I64 r → I64 a → I64 c → left (kS r a) = true → (∀ zd, D.atKey (kS r a) zd = .lit (.int .i64 c)) → cnt' < cnt → K (.tup 3 (litF [.b true, .agg 2 (litF [.i r, .i a]), .i c])) (setK i (.cust (entH b g n D (fun z => left z && !z.sameKey (kS r a)) cnt' (.tuple #[kV r a, .int .i64 c]))) L) nx) :
    Fgn Try.prog o [.val (.pointer (some ⟨g, 0, none⟩))] L nx K := ⟨fun w F ev hs hl => by
  rw [ho] at hl
  have h0 : ev it = .pointer (some ⟨g, 0, none⟩) := HasL.at1 hl
  have hs1 := hs.lk hi (by simp)
  have hrg : w.ranges Try.prog KT elR b g n D left cnt := hs1.holds _ List.mem_cons_self
  rcases hrg.next keyd o.type with ⟨_, hall, hrun⟩ | ⟨key, v, kl, y, w', cnt', hk, hlk, hv, hat, hrun, hrg', hlt, hg, hsz, hen⟩
  · refine StepV.value (w' := w) (v := .tuple #[.bool false]) ?_ ⟨_, _, _, F, ⟨fun _ _ _ _ _ _ h => h, Nat.le_refl _, k0 hall⟩, Keep.refl _ _, fun _ h => h, hs, _, rfl, rfl, fun j hj => ?_⟩
    · unfold execOp
      simp [ho, h0, hrun]
    · obtain rfl : j = 0 := by omega
      rfl
  · obtain ⟨r, a, rfl, hr, ha, rfl⟩ := key_inv hk
    obtain ⟨c, rfl, rfl, hc⟩ := plainElem_int_inv Try.underlying3 hv
    refine StepV.value (w' := w') (v := .tuple #[.bool true, kV r a, .int .i64 c]) ?_ ⟨_, _, _, F, ⟨bk_set nx _ hi, Nat.le_refl _, k1 r a c cnt' hr ha (I64.of hc) hlk hat hlt⟩, ⟨hg.os, hg.tape, hg.output, hg.size, fun x hx => hg.block x (hs.lt x hx) fun e => ?_, Sem.drawn _ hrun⟩, fun _ h => h, ?_, _, rfl, rfl, fun j hj => ?_⟩
    · unfold execOp
      simp [ho, h0, hrun]
    · injection e with e
      exact (hs1.fp _ List.mem_cons_self x (.inr e)).2 hx
    · exact HSat.setK hi (by simp) (hs1.turn hg.size (fun x hx hne => hg.block x hx fun e => hne (.inr (by injection e))) ⟨hrg', hen⟩ fun x hx => ⟨Nat.lt_of_lt_of_le (hs1.fp _ List.mem_cons_self x hx).1 hg.size, .inl hx⟩)
    · rcases (by omega : j = 0 ∨ j = 1 ∨ j = 2) with rfl | rfl | rfl
      · rfl
      · refine ⟨_, rfl, rfl, fun q hq => ?_⟩
        rcases (by omega : q = 0 ∨ q = 1) with rfl | rfl <;> rfl
      · rfl⟩
theorem Fgn.entry {it : Operand} {b g n i cnt : Nat} {D : DM} {left : Lit → Bool} {r a c : Int} (ho : o.op = .entry it) (hi : lk i L = .cust (entH b g n D left cnt (.tuple #[kV r a, .int .i64 c])))
    (k : K (.tup 2 (litF [.agg 2 (litF [.i r, .i a]), .i c])) (setK i (.cust (rngH b g n D left cnt)) L) nx) : Fgn Try.prog o [.val (.pointer (some ⟨g, 0, none⟩))] L nx K := ⟨fun w F ev hs hl => by
  rw [ho] at hl
  have h0 : ev it = .pointer (some ⟨g, 0, none⟩) := HasL.at1 hl
  have hs1 := hs.lk hi (by simp)
  obtain ⟨hrg, hen⟩ : w.ranges Try.prog KT elR b g n D left cnt ∧ (Instr.entry (.pointer (some ⟨g, 0, none⟩))).run Try.prog w = .ok (.tuple #[kV r a, .int .i64 c]) w := hs1.holds _ List.mem_cons_self
  refine StepV.value (w' := w) (v := .tuple #[kV r a, .int .i64 c]) ?_ ⟨_, _, _, F, ⟨bk_set nx _ hi, Nat.le_refl _, k⟩, Keep.refl _ _, fun _ h => h, ?_, _, rfl, rfl, fun j hj => ?_⟩
  · unfold execOp
    simp [ho, h0, hen]
  · exact HSat.setK hi (by simp) (hs1.turn (Nat.le_refl _) (fun _ _ _ => rfl) hrg fun x hx => ⟨(hs1.fp _ List.mem_cons_self x hx).1, .inl hx⟩)
  · rcases (by omega : j = 0 ∨ j = 1) with rfl | rfl
    · refine ⟨_, rfl, rfl, fun q hq => ?_⟩
      rcases (by omega : q = 0 ∨ q = 1) with rfl | rfl <;> rfl
    · rfl⟩
end
end Go.Proofs.Ytbcmpfhemangpaa
