/- The symbolic steps are sound, operation by operation. -/
import Derived.Test.YtbcmpfhemangpaaSxC2
set_option linter.all false


namespace Go.Proofs.Ytbcmpfhemangpaa

section
variable {P : Program} {t : TypeId} {i : TI} {w : World} {F : Nat → Prop} {L : Hpl}

/-- cells that read as told -/
def CellsAt (w : World) (F : Nat → Prop) (b o n : Nat) (f : Nat → SV) : Prop := ∀ k, k < n → ∃ u, w.cell? ⟨b, o + k, none⟩ = some u ∧ u.oneCell' = true ∧ Has w F (f k) u

theorem CellsAt.sub {b o n m d : Nat} {f : Nat → SV} (h : CellsAt w F b o n f) (hd : d + m ≤ n) : CellsAt w F b (o + d) m fun j => f (d + j) := fun k hk => by
  have := h (d + k) (by omega)
  rwa [← Nat.add_assoc] at this

theorem TI.w_one {m : Nat} (h : i.w = some (false, m)) : m = 1 := by
  cases i <;> simp [TI.w] at h <;> omega

theorem load_cells (ht : TIok P t i) {ag : Bool} {m b o : Nat} {f : Nat → SV} (hw : i.w = some (ag, m)) (h : CellsAt w F b o m f) :
    ∃ v, (Instr.loadAt t (.pointer (some ⟨b, o, none⟩))).run P w = .ok v w ∧ Has w F (bif ag then .agg m f else f 0) v := by
  cases ag with
  | false =>
    have hm := TI.w_one hw
    subst hm
    obtain ⟨u, hu, _, hh⟩ := h 0 (by omega)
    exact ⟨u, run_load_one ht hw hu, hh⟩
  | true =>
    have hch : ∃ g : Nat → Value, ∀ k, k < m → w.cell? ⟨b, o + k, none⟩ = some (g k) ∧ Has w F (f k) (g k) :=
      ⟨fun k => (w.cell? ⟨b, o + k, none⟩).getD undef, fun k hk => by
        obtain ⟨u, hu, _, hh⟩ := h k hk
        simp [hu, hh]⟩
    obtain ⟨g, hg⟩ := hch
    refine ⟨_, run_load_agg ht hw fun j hj => (hg j hj).1, _, rfl, by simp, fun k hk => ?_⟩
    have : (((List.range m).map g).toArray).getD k undef = g k := by simp [hk]
    rw [this]
    exact (hg k hk).2

theorem box_cells {g n : Nat} {tt : TypeId} {f : Nat → SV} (h : (Hp.box g tt n f).holds w F) : CellsAt w F g 0 n f := by
  obtain ⟨cs, hg, hn, hc⟩ := h
  intro k hk
  refine ⟨cs.getD k undef, ?_, hc k hk⟩
  simp [World.cell?, hg, Array.getD, show k < cs.size by omega]
theorem row_cells {v : Value} {e : TypeId} {sz n g j : Nat} {f : Nat → Nat → SV} (h : (Hp.row v e sz n f).holds w F) (hv : v.ownBlock = some g) (hj : j < n) : CellsAt w F g (j * sz) sz (f j) := by
  obtain ⟨xs, ho, hc⟩ := h
  intro k hk
  have hlt : j * sz + k < n * sz := by
    have : (j + 1) * sz ≤ n * sz := Nat.mul_le_mul_right _ hj
    rw [Nat.succ_mul] at this
    omega
  have hl := ho.1
  refine ⟨xs.getD (j * sz + k) undef, ?_, hc j k hj hk⟩
  have := ho.cells (g := g) hv (j * sz + k) (xs.getD (j * sz + k) undef) (by simp [List.getD, show j * sz + k < xs.length by omega])
  rwa [addr_add', Nat.zero_add] at this

theorem s_load {a : SV} {va : Value} {K : SV → Prop} (h : (pLoad i a L).run K) (ht : TIok P t i) (hs : HSat w F (L.map Prod.snd)) (ha : Has w F a va) :
    ∃ v r, (Instr.loadAt t va).run P w = .ok v w ∧ K r ∧ Has w F r v := by
  unfold pLoad at h
  split at h
  · exact False.elim h
  · rename_i ag m hw
    split at h
    · rename_i b off n f
      obtain ⟨rfl, hF, _, hc⟩ := ha
      obtain ⟨hm, hK⟩ := h
      obtain ⟨v, h1, h2⟩ := load_cells ht hw (b := b) (o := off) (f := f) fun k hk => hc k (Nat.lt_of_lt_of_le hk hm)
      exact ⟨v, _, h1, hK, h2⟩
    · rename_i n f
      obtain ⟨b, off, rfl, hF, hc⟩ := ha
      obtain ⟨hm, hK⟩ := h
      obtain ⟨v, h1, h2⟩ := load_cells ht hw (b := b) (o := off) (f := f) fun k hk => hc k (Nat.lt_of_lt_of_le hk hm)
      exact ⟨v, _, h1, hK, h2⟩
    · rename_i k g off
      subst ha
      split at h
      · rename_i g' t' n f hk
        obtain ⟨⟨rfl, hfit⟩, hK⟩ := h
        have hb := (hs.lk hk (by simp)).holds _ List.mem_cons_self
        obtain ⟨v, h1, h2⟩ := load_cells ht hw ((box_cells hb).sub hfit)
        rw [Nat.zero_add] at h1
        exact ⟨v, _, h1, hK, h2⟩
      · exact False.elim h
    · rename_i k g sz j o
      subst ha
      split at h
      · rename_i v e sz' n f hk
        obtain ⟨⟨hv, rfl, hj, hfit⟩, hK⟩ := h
        have hb := (hs.lk hk (by simp)).holds _ List.mem_cons_self
        obtain ⟨v, h1, h2⟩ := load_cells ht hw ((row_cells hb hv hj).sub hfit)
        exact ⟨v, _, h1, hK, h2⟩
      · exact False.elim h
    · exact False.elim h

theorem one_cells {s : SV} {v : Value} (h : s.one = true) (hv : Has w F s v) : v.oneCell' = true ∧ s.cells = (1, fun _ => s) := by
  cases s with
  | any => cases h
  | agg n f => cases h
  | tup n f => cases h
  | val x => simp only [Has] at hv; subst hv; exact ⟨h, rfl⟩
  | own k x => simp only [Has] at hv; subst hv; exact ⟨h, rfl⟩
  | sl sz n f => obtain ⟨A, c, rfl, _⟩ := hv; exact ⟨rfl, rfl⟩
  | ref b o n f => obtain ⟨rfl, _⟩ := hv; exact ⟨rfl, rfl⟩
  | pp n f => obtain ⟨b, o, rfl, _⟩ := hv; exact ⟨rfl, rfl⟩
  | ptr k g o => simp only [Has] at hv; subst hv; exact ⟨rfl, rfl⟩
  | rp k g sz i o => simp only [Has] at hv; subst hv; exact ⟨rfl, rfl⟩
  | vw k g sz i n c => obtain ⟨_, _, A, rfl, _⟩ := hv; exact ⟨rfl, rfl⟩
  | ifc t s => obtain ⟨v, rfl, _⟩ := hv; exact ⟨rfl, rfl⟩
  | fn f n g => obtain ⟨vs, rfl, _⟩ := hv; exact ⟨rfl, rfl⟩
theorem cells_of_one {v : Value} (h : v.oneCell' = true) : v.cells = #[v] := by cases v <;> first | rfl | cases h
theorem allOne_get : ∀ {n : Nat} {f : Nat → SV}, allOne n f = true → ∀ k, k < n → (f k).one = true
  | 0, _, _, k, hk => absurd hk (by omega)
  | n + 1, f, h, k, hk => by
    unfold allOne at h
    cases e : (f n).one
    · rw [e] at h; cases h
    · rw [e] at h
      rcases Nat.lt_or_ge k n with hlt | hge
      · exact allOne_get h k hlt
      · obtain rfl : k = n := by omega
        exact e
/-- the cells of a value -/
theorem has_cells {s : SV} {v : Value} (h1 : allOne s.cells.1 s.cells.2 = true) (hv : Has w F s v) :
    v.cells.size = s.cells.1 ∧ (∀ k, k < s.cells.1 → (v.cells.getD k undef).oneCell' = true ∧ Has w F (s.cells.2 k) (v.cells.getD k undef)) := by
  by_cases hagg : ∃ n f, s = .agg n f
  · obtain ⟨n, f, rfl⟩ := hagg
    obtain ⟨vs, rfl, hn, hc⟩ := hv
    exact ⟨hn, fun k hk => ⟨(one_cells (allOne_get h1 k hk) (hc k hk)).1, hc k hk⟩⟩
  · have hsc : s.cells = (1, fun _ => s) := by
      cases s <;> first | rfl | exact absurd ⟨_, _, rfl⟩ hagg
    rw [hsc] at h1 ⊢
    have hone : s.one = true := allOne_get h1 0 (by omega)
    have := cells_of_one (one_cells hone hv).1
    refine ⟨by rw [this]; rfl, fun k hk => ?_⟩
    obtain rfl : k = 0 := by simp at hk; omega
    rw [this]
    exact ⟨(one_cells hone hv).1, hv⟩
theorem has_cells_all {s : SV} {v : Value} (h1 : allOne s.cells.1 s.cells.2 = true) (hv : Has w F s v) : ∀ u ∈ v.cells.toList, u.oneCell' = true := fun u hu => by
  obtain ⟨hn, hc⟩ := has_cells h1 hv
  obtain ⟨k, hk, e⟩ := List.getElem_of_mem hu
  have hk' : k < v.cells.size := by simpa using hk
  have := (hc k (by omega)).1
  rw [← e]
  simpa [Array.getD, hk'] using this

theorem put_get {cur vs : List Value} {o m : Nat} (hv : vs.length = m) (hfit : o + m ≤ cur.length) (k : Nat) :
    (cur.take o ++ vs ++ cur.drop (o + m)).getD k undef = if o ≤ k ∧ k < o + m then vs.getD (k - o) undef else cur.getD k undef := by
  simp only [List.getD_eq_getElem?_getD]
  congr 1
  by_cases h1 : k < o
  · rw [if_neg (by omega), List.append_assoc, List.getElem?_append_left (by simp; omega), List.getElem?_take, if_pos h1]
  · by_cases h2 : k < o + m
    · rw [if_pos (by omega), List.append_assoc, List.getElem?_append_right (by simp; omega), List.getElem?_append_left (by simp; omega)]
      simp [show min o cur.length = o by omega]
    · rw [if_neg (by omega), List.getElem?_append_right (by simp; omega)]
      rw [List.getElem?_drop]
      have hl : (cur.take o ++ vs).length = o + m := by rw [List.length_append, List.length_take, hv]; omega
      rw [hl, show o + m + (k - (o + m)) = k by omega]

theorem putF_has {o m n : Nat} {fv f : Nat → SV} {cur vs : List Value} (hv : vs.length = m) (hfit : o + m ≤ cur.length) (h1 : ∀ k, k < m → (vs.getD k undef).oneCell' = true ∧ Has w F (fv k) (vs.getD k undef))
    (h2 : ∀ k, k < n → (cur.getD k undef).oneCell' = true ∧ Has w F (f k) (cur.getD k undef)) : ∀ k, k < n →
      ((cur.take o ++ vs ++ cur.drop (o + m)).getD k undef).oneCell' = true ∧ Has w F (putF o m fv f k) ((cur.take o ++ vs ++ cur.drop (o + m)).getD k undef) := fun k hk => by
  rw [put_get hv hfit]
  unfold putF
  by_cases h : o ≤ k ∧ k < o + m
  · have e : (Nat.ble o k && Nat.ble (k + 1) (o + m)) = true := by simp [Nat.ble_eq]; omega
    rw [if_pos h, e, cond_true]
    exact h1 _ (by omega)
  · have e : (Nat.ble o k && Nat.ble (k + 1) (o + m)) = false := by
      rw [Bool.eq_false_iff]; simp [Nat.ble_eq]; omega
    rw [if_neg h, e, cond_false]
    exact h2 k hk

theorem s_store {a x : SV} {va vx : Value} {K : Hpl → Prop} (h : sStore i a x L K) (ht : TIok P t i) (hs : HSat w F (L.map Prod.snd)) (ha : Has w F a va) (hx : Has w F x vx) :
    ∃ w' L', (Instr.storeAt t va vx).run P w = .ok () w' ∧ K L' ∧ Keep F w w' ∧ HSat w' F (L'.map Prod.snd) := by
  rw [sStore_eq] at h
  unfold sStoreC at h
  split at h
  · exact h.elim
  · rename_i ag m hw
    cases hc : (Nat.beq m x.cells.1 && allOne m x.cells.2)
    · rw [hc] at h; exact h.elim
    · rw [hc, cond_true] at h
      simp only [Bool.and_eq_true] at hc
      have hm : m = x.cells.1 := Nat.eq_of_beq_eq_true hc.1
      have hone := hc.2
      rw [hm] at hone
      obtain ⟨hvn, hvc⟩ := has_cells hone hx
      have hva := has_cells_all hone hx
      split at h
      · rename_i k g off
        subst ha
        split at h
        · rename_i g' t' n f hk
          obtain ⟨⟨rfl, hfit⟩, hK⟩ := h
          have hs' := hs.lk hk (by simp)
          obtain ⟨cs, hg, hcn, hcc⟩ := hs'.holds _ (List.mem_cons_self)
          have hrun := run_store_at ht hw hg (o := off) (v := vx) (by omega) hva (by omega)
          refine ⟨_, _, hrun, hK, ⟨rfl, rfl, rfl, by simp [World.setRow], fun b hb => ?_, Nat.le_refl _⟩, HSat.setK hk (by simp) (hs'.turn (by simp [World.setRow]) (fun b hb hne => ?_) ⟨_, setRow_heap w g cs _ t' _ hg, ?_, ?_⟩ fun b hb => ?_)⟩
          · have hne : b ≠ g := fun e => (hs'.fp _ (List.mem_cons_self) b e).2 hb
            exact setRow_other w g b _ hne
          · exact setRow_other w g b _ hne
          · have := Array.length_toList (xs := vx.cells)
            simp only [List.size_toArray, List.length_append, List.length_take, List.length_drop, Array.length_toList]
            omega
          · intro k hk
            have := putF_has (w := w) (F := F) (o := off) (m := m) (n := n) (fv := x.cells.2) (f := f) (cur := cs.toList) (vs := vx.cells.toList) (by simp; omega) (by simp; omega) (fun k hk => by simpa using hvc k (by omega)) (fun k hk => by simpa using hcc k hk) k hk
            have hh : ∀ s v, Has w F s v → Has (w.setRow g (cs.toList.take off ++ vx.cells.toList ++ cs.toList.drop (off + m)).toArray) F s v := fun s v hh => Has.keep (fun b hb => setRow_other w g b _ fun e => (hs'.fp _ (List.mem_cons_self) b e).2 hb) hh
            refine ⟨by simpa using this.1, hh _ _ (by simpa using this.2)⟩
          · have hb' : b = g := hb
            subst hb'
            exact ⟨by simpa [World.setRow] using (hs'.fp _ (List.mem_cons_self) b rfl).1, .inl rfl⟩
        · exact h.elim
      · rename_i k g sz j o
        subst ha
        split at h
        · rename_i v e sz' n f hk
          obtain ⟨⟨hv, rfl, hj, hfit⟩, hK⟩ := h
          have hs' := hs.lk hk (by simp)
          obtain ⟨xs, ho, hcc⟩ := hs'.holds _ (List.mem_cons_self)
          have ho' := ho
          rcases ho.2 with ⟨rfl, rfl⟩ | ⟨g0, cap, cur, rfl, _, hg, hnc, hcm, hcs, htake⟩
          · omega
          · have : g0 = g := by simpa [Value.ownBlock] using hv
            subst this
            have hmul : (j + 1) * sz ≤ n * sz := Nat.mul_le_mul_right _ hj
            have hmul2 : n * sz ≤ cap * sz := Nat.mul_le_mul_right _ hnc
            rw [Nat.succ_mul] at hmul
            have hrun := run_store_at ht hw hg (o := j * sz + o) (v := vx) (by omega) hva (by omega)
            have hlv : vx.cells.toList.length = m := by simp; omega
            refine ⟨_, _, hrun, hK, ⟨rfl, rfl, rfl, by simp [World.setRow], fun b hb => ?_, Nat.le_refl _⟩, HSat.setK hk (by simp) (hs'.turn (by simp [World.setRow]) (fun b hb hne => ?_) ⟨xs.take (j * sz + o) ++ vx.cells.toList ++ xs.drop (j * sz + o + m), ⟨?_, .inr ⟨g0, cap, _, rfl, Nat.zero_le _, setRow_heap w g0 cur _ e _ hg, hnc, hcm, ?_, ?_⟩⟩, ?_⟩ fun b hb => ?_)⟩
            · have hne : b ≠ g0 := fun e => (hs'.fp _ (List.mem_cons_self) b (by rw [e]; rfl)).2 hb
              exact setRow_other w g0 b _ hne
            · exact setRow_other w g0 b _ fun e => hne (by rw [e]; rfl)
            · have := ho'.1
              simp only [List.length_append, List.length_take, List.length_drop]
              omega
            · simp only [List.size_toArray, List.length_append, List.length_take, List.length_drop, Array.length_toList]
              rw [Array.length_toList] at hlv
              omega
            · have h1 := ho'.1
              have hcur : cur.toList.length = cap * sz := by simpa using hcs
              apply List.ext_getElem?
              intro q
              have e1 := put_get (cur := cur.toList) (vs := vx.cells.toList) (o := j * sz + o) (m := m) hlv (by omega) q
              have e2 := put_get (cur := xs) (vs := vx.cells.toList) (o := j * sz + o) (m := m) hlv (by omega) q
              by_cases hq : q < n * sz
              · have l1 : q < (cur.toList.take (j * sz + o) ++ vx.cells.toList ++ cur.toList.drop (j * sz + o + m)).length := by
                  simp only [List.length_append, List.length_take, List.length_drop]; omega
                have l2 : q < (xs.take (j * sz + o) ++ vx.cells.toList ++ xs.drop (j * sz + o + m)).length := by
                  simp only [List.length_append, List.length_take, List.length_drop]; omega
                rw [List.getElem?_take, if_pos hq, List.getElem?_eq_getElem l1, List.getElem?_eq_getElem l2]
                rw [List.getD_eq_getElem?_getD, List.getElem?_eq_getElem l1, Option.getD_some] at e1
                rw [List.getD_eq_getElem?_getD, List.getElem?_eq_getElem l2, Option.getD_some] at e2
                rw [e1, e2]
                congr 2
                rw [← htake]
                simp [List.getElem?_take, hq]
              · rw [List.getElem?_take, if_neg hq, List.getElem?_eq_none]
                simp only [List.length_append, List.length_take, List.length_drop]
                omega
            · intro q k hq hk'
              have hh : ∀ s v, Has w F s v → Has (w.setRow g0 (cur.toList.take (j * sz + o) ++ vx.cells.toList ++ cur.toList.drop (j * sz + o + m)).toArray) F s v := fun s v hh => Has.keep (fun b hb => setRow_other w g0 b _ fun e => (hs'.fp _ (List.mem_cons_self) b (by rw [e]; rfl)).2 hb) hh
              have hqm : (q + 1) * sz ≤ n * sz := Nat.mul_le_mul_right _ hq
              rw [Nat.succ_mul] at hqm
              have h1 := ho'.1
              rw [put_get hlv (by omega)]
              unfold putR
              by_cases hqj : q = j
              · subst hqj
                have e1 : Nat.beq q q = true := Nat.beq_refl q
                rw [e1, cond_true]
                unfold putF
                by_cases hin : o ≤ k ∧ k < o + m
                · have e2 : (Nat.ble o k && Nat.ble (k + 1) (o + m)) = true := by simp [Nat.ble_eq]; omega
                  rw [if_pos (by omega), e2, cond_true, show q * sz + k - (q * sz + o) = k - o by omega]
                  have := hvc (k - o) (by omega)
                  exact ⟨by simpa using this.1, hh _ _ (by simpa using this.2)⟩
                · have e2 : (Nat.ble o k && Nat.ble (k + 1) (o + m)) = false := by
                    rw [Bool.eq_false_iff]; simp [Nat.ble_eq]; omega
                  rw [if_neg (by omega), e2, cond_false]
                  have := hcc q k hq hk'
                  exact ⟨this.1, hh _ _ this.2⟩
              · have e1 : Nat.beq q j = false := by
                  rw [Bool.eq_false_iff]; intro hb; exact hqj (Nat.eq_of_beq_eq_true hb)
                rw [e1, cond_false]
                have hnin : ¬ (j * sz + o ≤ q * sz + k ∧ q * sz + k < j * sz + o + m) := by
                  intro ⟨ha, hb⟩
                  rcases Nat.lt_or_gt_of_ne hqj with hlt | hgt
                  · have : (q + 1) * sz ≤ j * sz := Nat.mul_le_mul_right _ hlt
                    rw [Nat.succ_mul] at this
                    omega
                  · have : (j + 1) * sz ≤ q * sz := Nat.mul_le_mul_right _ hgt
                    rw [Nat.succ_mul] at this
                    omega
                rw [if_neg hnin]
                have := hcc q k hq hk'
                exact ⟨this.1, hh _ _ this.2⟩
            · have hb' : some g0 = some b := hb
              injection hb' with hb'
              subst hb'
              exact ⟨by simpa [World.setRow] using (hs'.fp _ (List.mem_cons_self) g0 rfl).1, .inl rfl⟩
        · exact h.elim
      · exact h.elim
end
end Go.Proofs.Ytbcmpfhemangpaa
