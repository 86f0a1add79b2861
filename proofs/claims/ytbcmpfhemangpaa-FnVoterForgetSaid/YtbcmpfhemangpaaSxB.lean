/- What single operations do to a symbolic heap: loads, stores, new blocks, addresses. -/
import Derived.Test.YtbcmpfhemangpaaSxA
import Derived.Test.YtbcmpfhemangpaaApp
import Derived.Test.YtbcmpfhemangpaaRg
set_option linter.all false

namespace Go.Proofs.Ytbcmpfhemangpaa

/-- what is told of a type: a scalar with its zero; a struct: its fields' places and types, its zero cells; an array: its length, its elements' size, its zero cells; a slice: its element's number, size, bytes, zero cells -/
inductive TI where
  | bad
  | sc (d : TypeDesc) (z : Value)
  | st (sz : Nat) (fl : List (Nat × Nat)) (zs : List Value) (q : Bool)
  | ar (len esz sz : Nat) (zs : List Value)
  | slc (e esz eby : Nat) (zs : List Value)

def aggD : TypeDesc → Bool
  | .struct _ | .array _ _ => true
  | _ => false

/-- a struct of ints alone, that can be compared -/
def EqFlat (P : Program) (t : TypeId) (sz : Nat) (fs : Array Field) : Prop := P.stoodInHeld t = false ∧ P.eqGuardType P.depth t = false ∧ fs.toList.map (·.offset) = List.range' 0 sz ∧ ∀ f ∈ fs.toList, f.name ≠ "_" ∧ P.underlying f.type = some (.int .i64)

def TIok (P : Program) (t : TypeId) : TI → Prop
  | .bad => True
  | .sc d z => ∃ i, P.underlying t = some d ∧ aggD d = false ∧ P.info? t = some i ∧ i.size = 1 ∧ i.zero = some z ∧ z.oneCell' = true
  | .st sz fl zs q => zs.length = sz ∧ ∃ fs i, P.underlying t = some (.struct fs) ∧ P.info? t = some i ∧ i.size = zs.length ∧ i.zero = some (.agg zs.toArray) ∧ fs.toList.map (fun f => (f.offset, f.type)) = fl ∧ (∀ p ∈ fl, ∃ i, P.info? p.2 = some i ∧ 0 < i.size) ∧ (∀ z ∈ zs, z.oneCell' = true) ∧ (q = true → EqFlat P t sz fs)
  | .ar len esz sz zs => zs.length = sz ∧ ∃ e i ie, P.underlying t = some (.array len e) ∧ P.info? e = some ie ∧ ie.size = esz ∧ P.info? t = some i ∧ i.size = zs.length ∧ i.zero = some (.agg zs.toArray) ∧ (∀ z ∈ zs, z.oneCell' = true) ∧ 1 < len
  | .slc e esz eby zs => ∃ ie i z, P.underlying t = some (.slice e) ∧ P.info? e = some ie ∧ ie.size = esz ∧ ie.bytes = eby ∧ ie.zero = some z ∧ z.cells.toList = zs ∧ zs.length = esz ∧ 0 < esz ∧ eby ≤ 1000 ∧ (∀ z ∈ zs, z.oneCell' = true) ∧ P.info? t = some i ∧ i.size = 1 ∧ i.zero = some (.slice none 0 0)

/-- is it an aggregate, and of how many cells -/
def TI.w : TI → Option (Bool × Nat)
  | .bad => none
  | .sc _ _ | .slc _ _ _ _ => some (false, 1)
  | .st sz _ _ _ | .ar _ _ sz _ => some (true, sz)
/-- the cells of its zero -/
def TI.zc : TI → List Value
  | .bad => []
  | .sc _ z => [z]
  | .slc _ _ _ _ => [.slice none 0 0]
  | .st _ _ zs _ | .ar _ _ _ zs => zs

def fetch (t : Nat) : List (Nat × TI) → TI
  | [] => .bad
  | (j, i) :: l => bif Nat.beq j t then i else fetch t l
def TTok (P : Program) (tt : List (Nat × TI)) : Prop := ∀ p ∈ tt, TIok P p.1 p.2
theorem TTok.fetch {P : Program} {t : Nat} : ∀ {tt : List (Nat × TI)}, TTok P tt → TIok P t (fetch t tt)
  | [], _ => trivial
  | (j, i) :: l, h => by
    unfold Proofs.Ytbcmpfhemangpaa.fetch
    cases e : Nat.beq j t
    · exact TTok.fetch fun p hp => h p (List.mem_cons_of_mem _ hp)
    · have : j = t := Nat.eq_of_beq_eq_true e
      subst this
      exact h (j, i) (by simp)

section
variable {P : Program} {t : TypeId} {i : TI} {w : World}

theorem TIok.facts (h : TIok P t i) {b : Bool} {n : Nat} (hw : i.w = some (b, n)) : ∃ d ti, P.underlying t = some d ∧ aggD d = b ∧ P.info? t = some ti ∧ ti.size = n ∧
    ∃ z, ti.zero = some z ∧ z.cells.toList = i.zc ∧ i.zc.length = n ∧ ∀ u ∈ i.zc, u.oneCell' = true := by
  cases i with
  | bad => cases hw
  | sc d z =>
    obtain ⟨ti, h1, h2, h3, h4, h5, h6⟩ := h
    cases hw
    refine ⟨d, ti, h1, h2, h3, h4, z, h5, ?_, rfl, fun u hu => ?_⟩
    · cases z <;> first | rfl | cases h6
    · rw [List.mem_singleton.1 hu]; exact h6
  | st sz fl zs q =>
    obtain ⟨rfl, fs, ti, h1, h2, h3, h4, _, _, h7, _⟩ := h
    cases hw
    exact ⟨_, ti, h1, rfl, h2, h3, _, h4, by simp [Value.cells, TI.zc], rfl, h7⟩
  | ar len esz sz zs =>
    obtain ⟨rfl, e, ti, ie, h1, _, _, h2, h3, h4, h7, _⟩ := h
    cases hw
    exact ⟨_, ti, h1, rfl, h2, h3, _, h4, by simp [Value.cells, TI.zc], rfl, h7⟩
  | slc e esz eby zs =>
    obtain ⟨ie, ti, z, h1, _, _, _, _, _, _, _, _, _, h2, h3, h4⟩ := h
    cases hw
    exact ⟨_, ti, h1, rfl, h2, h3, _, h4, rfl, rfl, fun u hu => by rw [List.mem_singleton.1 hu]; rfl⟩

theorem addr_add' (b off j : Nat) : (⟨b, off, none⟩ : Addr).add j = ⟨b, off + j, none⟩ := by unfold Addr.add; split <;> simp_all

theorem run_isAgg {d : TypeDesc} (h : P.underlying t = some d) : (isAgg t).run P w = .ok (aggD d) w := by
  unfold isAgg
  simp only [Sem.run_bind, run_underlying h, Result.andThen_ok]
  cases d <;> rfl

theorem run_load_one (h : TIok P t i) (hw : i.w = some (false, 1)) {b o : Nat} {u : Value} (hc : w.cell? ⟨b, o, none⟩ = some u) :
    (Instr.loadAt t (.pointer (some ⟨b, o, none⟩))).run P w = .ok u w := by
  obtain ⟨d, ti, h1, h2, h3, h4, _⟩ := h.facts hw
  unfold Instr.loadAt loadVar Instr.sureAddr
  simp [Sem.run_bind, run_isAgg h1, h2, run_load, hc]
theorem run_load_agg (h : TIok P t i) {n : Nat} (hw : i.w = some (true, n)) {b o : Nat} {f : Nat → Value} (hc : ∀ j, j < n → w.cell? ⟨b, o + j, none⟩ = some (f j)) :
    (Instr.loadAt t (.pointer (some ⟨b, o, none⟩))).run P w = .ok (.agg ((List.range n).map f).toArray) w := by
  obtain ⟨d, ti, h1, h2, h3, h4, _⟩ := h.facts hw
  have hl := run_loadCells (P := P) w ⟨b, o, none⟩ n f fun j hj => by rw [addr_add']; exact hc j hj
  unfold Instr.loadAt loadVar Instr.sureAddr
  simp [Sem.run_bind, run_isAgg h1, h2, sizeOf, typeInfo, h3, h4, hl]

theorem run_store_at (h : TIok P t i) {m : Bool} {n : Nat} (hw : i.w = some (m, n)) {g o : Nat} {cur : Array Value} {et : TypeId} (hg : w.heap[g]? = some (.cells cur et (0, 0))) {v : Value} (hv : v.cells.size = n) (h1 : ∀ u ∈ v.cells.toList, u.oneCell' = true) (hfit : o + n ≤ cur.size) :
    (Instr.storeAt t (.pointer (some ⟨g, o, none⟩)) v).run P w = .ok () (w.setRow g (cur.toList.take o ++ v.cells.toList ++ cur.toList.drop (o + n)).toArray) := by
  obtain ⟨d, ti, _, h2, h3, h4, _⟩ := h.facts hw
  have hst := run_storeCells_at P g o et v.cells.toList 0 cur w hg (by simp; omega) h1
  simp only [Nat.add_zero, Array.length_toList, hv] at hst
  unfold Instr.storeAt storeVar Instr.sureAddr
  simp [Sem.run_bind, sizeOf, typeInfo, h3, h4, hv, hst]

theorem run_alloc (h : TIok P t i) {m : Bool} {n : Nat} (hw : i.w = some (m, n)) :
    (Instr.alloc t true (.tuple #[])).run P w = .ok (.pointer (some ⟨w.heap.size, 0, none⟩)) (w.alloc (.cells i.zc.toArray t)) := by
  obtain ⟨d, ti, _, h2, h3, h4, z, h5, h6, _⟩ := h.facts hw
  have : z.cells = i.zc.toArray := by rw [← h6]
  have hz : (zeroValue t).run P w = .ok z w := by
    unfold zeroValue typeInfo
    simp [program, Sem.run, h3, h5]
  unfold Instr.alloc
  simp only [Sem.run_bind, hz, Result.andThen_ok, newVar, newRow, this]
  rfl

theorem run_box (v : Value) : (Instr.box t v).run P w = .ok (.pointer (some ⟨w.heap.size, 0, none⟩)) (w.alloc (.cells v.cells t)) := rfl

theorem run_fieldAt {fl : List (Nat × Nat)} {zs : List Value} {sz : Nat} {q : Bool} (h : TIok P t (.st sz fl zs q)) {k fo ft : Nat} (hk : fl[k]? = some (fo, ft)) {b o : Nat} :
    (Instr.fieldAt t (.pointer (some ⟨b, o, none⟩)) k).run P w = .ok (.pointer (some ⟨b, o + fo, none⟩)) w := by
  obtain ⟨_, fs, ti, h1, _, _, _, h5, h6, _⟩ := h
  obtain ⟨i2, hi2, hp⟩ := h6 (fo, ft) (List.mem_of_getElem? hk)
  rw [← h5, List.getElem?_map] at hk
  obtain ⟨f, hf, e⟩ := Option.map_eq_some_iff.1 hk
  injection e with e1 e2
  subst e1
  subst e2
  have hf' : fs[k]? = some f := by simpa using hf
  unfold Instr.fieldAt Instr.sureAddr
  simp only [Sem.run_bind, run_underlying h1, Result.andThen_ok, hf', Sem.run_pure]
  unfold fieldPlace
  simp only [Sem.run_bind, sizeOf, typeInfo, Sem.run_bind]
  simp [program, Sem.run, hi2, Nat.pos_iff_ne_zero.1 hp, addr_add']

theorem run_indexAt_slice {e esz eby : Nat} {zs : List Value} (h : TIok P t (.slc e esz eby zs)) {b o n c : Nat} {z : Int} {kk : IntKind} (h0 : 0 ≤ z) (h1 : z < n) :
    (Instr.indexAt t (.slice (some ⟨b, o, none⟩) n c) (.int kk z)).run P w = .ok (.pointer (some ⟨b, o + z.toNat * esz, none⟩)) w := by
  obtain ⟨ie, ti, zz, g1, g2, g3, _⟩ := h
  unfold Instr.indexAt
  simp [asIntOf, Sem.run_bind, run_underlying g1, h0, h1, sizeOf, typeInfo, g2, g3, addr_add']
theorem run_indexAt_array {len esz sz : Nat} {zs : List Value} (h : TIok P t (.ar len esz sz zs)) {b o : Nat} {z : Int} {kk : IntKind} (h0 : 0 ≤ z) (h1 : z < len) :
    (Instr.indexAt t (.pointer (some ⟨b, o, none⟩)) (.int kk z)).run P w = .ok (.pointer (some ⟨b, o + z.toNat * esz, none⟩)) w := by
  obtain ⟨_, e, ti, ie, g1, g2, g3, _⟩ := h
  unfold Instr.indexAt
  simp [asIntOf, Instr.sureAddr, Sem.run_bind, run_underlying g1, h0, h1, sizeOf, typeInfo, g2, g3, addr_add']
end
end Go.Proofs.Ytbcmpfhemangpaa
