/- impl.StorePut: what it returns. -/
import Derived.Test.YtjkeapkpdgfhcaaShelf
import Derived.Deep.RegionWith
set_option linter.all false

namespace Go.Proofs.Ytjkeapkpdgfhcaa
open Go.RowKit

/-- what StorePut answers: floor, batches, code -/
def putRes (f : Int) (l : List Bt) (b : Bt) : Int × List Bt × Int :=
  if (stOk f l && btOk b) = false then (0, [], 4)
  else if l.any (fun x => x.d == b.d) then (f, l, 1)
  else if b.r < f then (f, l, 2)
  else if l.length = 12 ∨ 30 < used l b.a + b.s then (f, l, 3)
  else (f, ins l b, 0)

/-- a store with a code was made -/
def StMade (r : Int × List Bt × Int) (w : World) (e : Ending) (w' : World) : Prop :=
  ∃ A n c, e = .returned (.tuple #[.agg #[.int .i64 r.1, .slice A n c], .int .i64 r.2.2]) ∧ w'.ownsRow w.heap.size 27 4 (.slice A n c) n (btCells r.2.1) ∧ Below w.heap.size w w'

theorem own_keep {w w' : World} {base base' : Nat} {e : TypeId} {size : Nat} {v : Value} {n : Nat} {xs : List Value} (h : w.ownsRow base e size v n xs) (hb : base' ≤ base) (hk : ∀ g, base ≤ g → w'.heap[g]? = w.heap[g]?) : w'.ownsRow base' e size v n xs := by
  refine ⟨h.1, ?_⟩
  rcases h.2 with h | ⟨g, cap, cur, hv, hg, hh, h⟩
  · exact .inl h
  · exact .inr ⟨g, cap, cur, hv, by omega, (hk g hg).trans hh, h⟩

theorem ins_mem (b x : Bt) : ∀ l : List Bt, x ∈ ins l b ↔ x = b ∨ x ∈ l
  | [] => by simp [ins]
  | y :: l => by
    unfold ins
    split
    · simp only [List.mem_cons, ins_mem b x l]; exact ⟨fun h => by rcases h with h | h | h <;> simp [h], fun h => by rcases h with h | h | h <;> simp [h]⟩
    · simp only [List.mem_cons]
theorem ins_length (b : Bt) : ∀ l : List Bt, (ins l b).length = l.length + 1
  | [] => rfl
  | y :: l => by
    unfold ins
    split
    · simp [ins_length b l]
    · simp

theorem stOk_filter {f : Int} {l : List Bt} (h : stOk f l = true) : l.filter (fun b => decide (f ≤ b.r)) = l := by
  rw [List.filter_eq_self]
  intro b hb
  have := ((stOk_iff f l).1 h).2.2.1 b hb
  simp [this.2.1]

theorem stOk_filter_ins {f : Int} {l : List Bt} {b : Bt} (h : stOk f l = true) (hb : f ≤ b.r) : (ins l b).filter (fun b => decide (f ≤ b.r)) = ins l b := by
  rw [List.filter_eq_self]
  intro x hx
  rcases (ins_mem b x l).1 hx with rfl | hx
  · simpa using hb
  · have := ((stOk_iff f l).1 h).2.2.1 x hx
    simp [this.2.1]

theorem Calls.quiet_eq {P : Program} {f : FuncId} {args : Array Value} {w : World} {n : Nat} {v : Value}
    (h : Calls P f args (w.drewN n) fun e w' => e = .returned v ∧ w.drewN n = w') : Calls P f args (w.drewN n) fun e w'' => e = .returned v ∧ ∃ m, w'' = w.drewN m :=
  h.mono fun _ _ ⟨he, hm⟩ => ⟨he, n, hm.symm⟩

theorem put_end {w w1 w2 : World} {r : Int × List Bt × Int} {B s : Nat} {A : Option Addr} {n c : Nat} {u v : Value} (hW : Below w.heap.size w w1) (hsB : s < B) (hs : w.heap.size ≤ s) (hB : w.heap.size ≤ B) (hown : w2.ownsRow B 27 4 (.slice A n c) n (btCells r.2.1)) (hb : Below B w1 w2) :
    (w2.setCell ⟨s, 0, none⟩ u |>.setCell ⟨s, 1, none⟩ v).ownsRow w.heap.size 27 4 (.slice A n c) n (btCells r.2.1) ∧ Below w.heap.size w (w2.setCell ⟨s, 0, none⟩ u |>.setCell ⟨s, 1, none⟩ v) := by
  refine ⟨own_keep hown hB fun g hg => ?_, ?_⟩
  · rw [Below.heap_setCell _ _ _ _ (by simp; omega), Below.heap_setCell _ _ _ _ (by simp; omega)]
  · exact below_put (below_put (hW.trans (hb.mono hB)) hs _) hs _

/-- what batches leaves, beside the boxes of StorePut -/
def Bp (w3 : World) (s : Nat) (f : Int) (L : List Bt) (e : Ending) (w9 : World) : Prop :=
  ∃ A n c, e = .returned (.slice A n c) ∧ w9.cell? ⟨s, 0, none⟩ = some (.int .i64 f) ∧ w9.cell? ⟨s + 1 + 1, 0, none⟩ = some (.int .i64 0) ∧ w9.cell? ⟨s + 1 + 1, 1, none⟩ = some (.slice none 0 0) ∧ (∀ o, w9.frozen? ⟨s + 1 + 1, o, none⟩ = false) ∧ s + 1 + 1 < w9.heap.size ∧
    Hid (w9.ownsRow w3.heap.size 27 4 (.slice A n c) n (btCells L) ∧ Below w3.heap.size w3 w9)

theorem batches_bp {w3 : World} {s : Nat} {f : Int} {A : Option Addr} {n c : Nat} {gs : List Nat} {l : List Bt} {p : Option Addr} (k : Nat) (h0 : Box w3 s 25 #[.int .i64 f, .slice A n c]) (h2 : Box w3 (s + 1 + 1) 25 #[.int .i64 0, .slice none 0 0]) (hs : Seg w3 gs l p none) (hl : l.length ≤ 3000000)
    (hfl : l.filter (fun b => decide (f ≤ b.r)) = l) : Calls Try.prog 27 #[.pointer p, .int .i64 f] (w3.drewN k) (Bp w3 s f l) := by
  refine (batches_any (w3.drewN k) gs l p f (hs.keep fun _ _ => rfl) hl).mono ?_
  rintro e w9 ⟨A9, n9, c9, rfl, hown, hb⟩
  rw [hfl] at hown
  have hb' : Below w3.heap.size w3 w9 := (below_drewN (Below.refl _ _) k).trans hb
  have g0 := h0.below hb' h0.lt
  have g2 := h2.below hb' h2.lt
  exact ⟨A9, n9, c9, rfl, g0.cell 0, g2.cell 0, g2.cell 1, fun o => g2.frozen o, g2.lt, hide ⟨hown, hb'⟩⟩

set_option maxHeartbeats 1600000 in
theorem implStorePut_any (w : World) (f : Int) (A : Option Addr) (n c : Nat) (l : List Bt) (b : Bt) (hr : Reads w w.heap.size 4 A n (btCells l)) (hn : n ≤ 2000000) :
    Calls Try.prog 7 #[.agg #[.int .i64 f, .slice A n c], .agg #[.int .i64 b.d, .int .i64 b.a, .int .i64 b.r, .int .i64 b.s]] w (StMade (putRes f l b) w) := by
  have HR := hide hr
  have HLN := hide hr.bt_len
  clear hr
  go_enter Try.func7, Try.ntmps7
  go_wp2_with fail
  have hB0 : Box (((w.alloc (.cells #[.int .i64 f, .slice A n c] 25)).alloc (.cells #[.int .i64 b.d, .int .i64 b.a, .int .i64 b.r, .int .i64 b.s] 27)).alloc (.cells #[.int .i64 0, .slice none 0 0] 25)) w.heap.size 25 #[.int .i64 f, .slice A n c] :=
    ((Box.new _ _ _).alloc _).alloc _
  have hB1 : Box (((w.alloc (.cells #[.int .i64 f, .slice A n c] 25)).alloc (.cells #[.int .i64 b.d, .int .i64 b.a, .int .i64 b.r, .int .i64 b.s] 27)).alloc (.cells #[.int .i64 0, .slice none 0 0] 25)) (w.heap.size + 1) 27 #[.int .i64 b.d, .int .i64 b.a, .int .i64 b.r, .int .i64 b.s] := by
    have := (Box.new (w.alloc (.cells #[.int .i64 f, .slice A n c] 25)) 27 #[.int .i64 b.d, .int .i64 b.a, .int .i64 b.r, .int .i64 b.s]).alloc (.cells #[.int .i64 0, .slice none 0 0] 25)
    simpa using this
  have hB2 : Box (((w.alloc (.cells #[.int .i64 f, .slice A n c] 25)).alloc (.cells #[.int .i64 b.d, .int .i64 b.a, .int .i64 b.r, .int .i64 b.s] 27)).alloc (.cells #[.int .i64 0, .slice none 0 0] 25)) (w.heap.size + 1 + 1) 25 #[.int .i64 0, .slice none 0 0] := by
    have := (Box.new ((w.alloc (.cells #[.int .i64 f, .slice A n c] 25)).alloc (.cells #[.int .i64 b.d, .int .i64 b.a, .int .i64 b.r, .int .i64 b.s] 27)) 25 #[.int .i64 0, .slice none 0 0])
    simpa using this
  have hW : Below w.heap.size w (((w.alloc (.cells #[.int .i64 f, .slice A n c] 25)).alloc (.cells #[.int .i64 b.d, .int .i64 b.a, .int .i64 b.r, .int .i64 b.s] 27)).alloc (.cells #[.int .i64 0, .slice none 0 0] 25)) :=
    (((Below.refl _ _).alloc (by simp) _).alloc (by simp) _).alloc (by simp; omega) _
  revert hB0 hB1 hB2 hW
  generalize ((w.alloc (.cells #[.int .i64 f, .slice A n c] 25)).alloc (.cells #[.int .i64 b.d, .int .i64 b.a, .int .i64 b.r, .int .i64 b.s] 27)).alloc (.cells #[.int .i64 0, .slice none 0 0] 25) = w0
  intro hB0 hB1 hB2 hW
  have hz2 := hB2.lt
  refine (implStoreValid_any w0 A n c l f ((HR.out.below hW).more (by omega)) hn).mono ?_
  rintro e w1 ⟨rfl, hb1⟩
  have HB01 := hide ((hB0).below hb1 (by omega))
  have c001 := HB01.out.cell 0
  simp at c001
  have c011 := HB01.out.cell 1
  simp at c011
  have HB11 := hide ((hB1).below hb1 (by omega))
  have c101 := HB11.out.cell 0
  simp at c101
  have c111 := HB11.out.cell 1
  simp at c111
  have c121 := HB11.out.cell 2
  simp at c121
  have c131 := HB11.out.cell 3
  simp at c131
  have HB21 := hide ((hB2).below hb1 (by omega))
  have c201 := HB21.out.cell 0
  simp at c201
  have c211 := HB21.out.cell 1
  simp at c211
  have fz1 := fun o => HB21.out.frozen o
  have hz1 := HB21.out.lt
  have HW1 := hide ((hW).trans (hb1.mono (by omega)))
  clear hB0 hB1 hB2 hW hb1 hz2
  by_cases hv : stOk f l = false
  · go_wp2_with fail
    refine bodyPost_ret (v := .tuple #[.agg #[.int .i64 0, .slice none 0 0], .int .i64 4]) (by simp [results, Try.results7, go_sem, c201, c211, fz1]) rfl ⟨none, 0, 0, by simp [putRes, hv], by simp [putRes, hv]; exact World.ownsRow_nil _ _ _ _, ?_⟩
    exact below_put (below_put HW1.out (by omega) _) (by omega) _
  replace hv : stOk f l = true := by simpa using hv
  go_wp2_with fail
  refine (bvalid_any b w1).mono ?_
  rintro e w2 ⟨rfl, hw2⟩
  have hb2 : Below w1.heap.size w1 w2 := hw2 ▸ (Below.refl _ _).alloc (Nat.le_refl _) _
  have HB02 := hide ((HB01.out).below hb2 (by omega))
  have c002 := HB02.out.cell 0
  simp at c002
  have c012 := HB02.out.cell 1
  simp at c012
  have HB12 := hide ((HB11.out).below hb2 (by omega))
  have c102 := HB12.out.cell 0
  simp at c102
  have c112 := HB12.out.cell 1
  simp at c112
  have c122 := HB12.out.cell 2
  simp at c122
  have c132 := HB12.out.cell 3
  simp at c132
  have HB22 := hide ((HB21.out).below hb2 (by omega))
  have c202 := HB22.out.cell 0
  simp at c202
  have c212 := HB22.out.cell 1
  simp at c212
  have fz2 := fun o => HB22.out.frozen o
  have hz2 := HB22.out.lt
  have HW2 := hide ((HW1.out).trans (hb2.mono (by omega)))
  clear c001 c011 c101 c111 c121 c131 c201 c211 fz1 hb2
  clear hw2
  by_cases hbv : btOk b = false
  · go_wp2_with fail
    refine bodyPost_ret (v := .tuple #[.agg #[.int .i64 0, .slice none 0 0], .int .i64 4]) (by simp [results, Try.results7, go_sem, c202, c212, fz2]) rfl ⟨none, 0, 0, by simp [putRes, hbv], by simp [putRes, hbv]; exact World.ownsRow_nil _ _ _ _, ?_⟩
    exact below_put (below_put HW2.out (by omega) _) (by omega) _
  replace hbv : btOk b = true := by simpa using hbv
  have HP := hide (show putRes f l b = if l.any (fun x => x.d == b.d) then (f, l, 1) else if b.r < f then (f, l, 2) else if l.length = 12 ∨ 30 < used l b.a + b.s then (f, l, 3) else (f, ins l b, 0) by simp [putRes, hv, hbv])
  go_wp2_with fail
  refine (shelfOf_any w2 A n c l ((HR.out.below HW2.out).more (by omega)) hn).mono ?_
  rintro e w3 ⟨gs, p, rfl, hseg, hge, hnd, hb3⟩
  have HSG := hide hseg
  have HGE := hide hge
  have HND := hide hnd
  have hz23 := hb3.size
  clear hseg hge hnd
  have HB03 := hide ((HB02.out).below hb3 (by omega))
  have c003 := HB03.out.cell 0
  simp at c003
  have c013 := HB03.out.cell 1
  simp at c013
  have HB13 := hide ((HB12.out).below hb3 (by omega))
  have c103 := HB13.out.cell 0
  simp at c103
  have c113 := HB13.out.cell 1
  simp at c113
  have c123 := HB13.out.cell 2
  simp at c123
  have c133 := HB13.out.cell 3
  simp at c133
  have HB23 := hide ((HB22.out).below hb3 (by omega))
  have c203 := HB23.out.cell 0
  simp at c203
  have c213 := HB23.out.cell 1
  simp at c213
  have fz3 := fun o => HB23.out.frozen o
  have hz3 := HB23.out.lt
  have HW3 := hide ((HW2.out).trans (hb3.mono (by omega)))
  clear c002 c012 c102 c112 c122 c132 c202 c212 fz2 hb3
  go_wp2_with fail
  refine (find_any w3 gs l p b.d HSG.out).mono ?_
  rintro e _ ⟨u, rfl, rfl, hfd⟩
  rcases hfd with ⟨rfl, hno⟩ | ⟨g, x, nx, rfl, hx, hxd, -⟩
  · have HNO := hide (show ¬ (l.any (fun x => x.d == b.d) = true) by simpa using hno)
    clear hno
    by_cases hf : b.r < f
    · go_wp2_with fail
      have HT := hide (fun k => batches_bp k (HB03.out) (HB23.out) (HSG.out) (by have := HLN.out; omega) (stOk_filter hv))
      go_region_with ((go_at_call 27; refine (HT.out 1).mono ?_; rintro e w9 ⟨A9, n9, c9, rfl, d0, d1, d2, d3, d4, H9⟩))
      all_goals
        go_wp2_with fail
        refine bodyPost_ret (v := .tuple #[.agg #[.int .i64 f, .slice A9 n9 c9], .int .i64 2]) (by simp [results, Try.results7, go_sem, d1, d2]) rfl ?_
        have hpr : putRes f l b = (f, l, 2) := by rw [HP.out]; rw [if_neg HNO.out, if_pos hf]
        rw [hpr]
        refine ⟨A9, n9, c9, rfl, ?_⟩
        exact put_end HW3.out hz3 (by omega) (by omega) H9.out.1 H9.out.2
    have hf' : decide (b.r < f) = false := by simpa using hf
    go_wp2_with fail
    by_cases hn12 : n = 12
    · have hn12' : ((n : Int) == 12) = true := by simp [hn12]
      have HN := hide (show l.length = 12 by have := HLN.out; omega)
      clear hn12
      go_quiet (fail)
      go_wp2_with fail
      have HT := hide (fun k => batches_bp k (HB03.out) (HB23.out) (HSG.out) (by have := HLN.out; omega) (stOk_filter hv))
      go_region_with ((go_at_call 27; refine (HT.out (nq + 1)).mono ?_; rintro e w9 ⟨A9, n9, c9, rfl, d0, d1, d2, d3, d4, H9⟩))
      all_goals
        go_wp2_with fail
        refine bodyPost_ret (v := .tuple #[.agg #[.int .i64 f, .slice A9 n9 c9], .int .i64 3]) (by simp [results, Try.results7, go_sem, d1, d2]) rfl ?_
        have hpr : putRes f l b = (f, l, 3) := by rw [HP.out]; rw [if_neg HNO.out, if_neg (by omega), if_pos (.inl HN.out)]
        rw [hpr]
        refine ⟨A9, n9, c9, rfl, ?_⟩
        exact put_end HW3.out hz3 (by omega) (by omega) H9.out.1 H9.out.2
    have hn12' : ((n : Int) == 12) = false := by simp; omega
    have hub := used_bd l b.a (fun x hx => btOk_size (((stOk_iff f l).1 hv).2.2.1 x hx).1)
    have huw := usedW_eq l b.a (fun x hx => btOk_size (((stOk_iff f l).1 hv).2.2.1 x hx).1) (by have := HLN.out; omega)
    have hbs := btOk_size hbv
    have hll := ((stOk_iff f l).1 hv).2.1
    have hadd : wrap64 (usedW l b.a + b.s) = used l b.a + b.s := by rw [huw]; unfold wrap64; omega
    have HU := hide (show wrap64 (usedW l b.a + b.s) = used l b.a + b.s from hadd)
    have HLN2 := hide (show l.length ≠ 12 by have := HLN.out; omega)
    clear hadd huw hub hbs hll
    by_cases hu : 30 < wrap64 (usedW l b.a + b.s)
    · go_quiet ((go_at_call 25; exact Calls.quiet_eq (shelfUsed_any _ gs l p b.a (HSG.out.keep fun _ _ => rfl))))
      go_wp2_with fail
      have HT := hide (fun k => batches_bp k (HB03.out) (HB23.out) (HSG.out) (by have := HLN.out; omega) (stOk_filter hv))
      go_region_with ((go_at_call 27; refine (HT.out (nq + 1)).mono ?_; rintro e w9 ⟨A9, n9, c9, rfl, d0, d1, d2, d3, d4, H9⟩))
      all_goals
        go_wp2_with fail
        refine bodyPost_ret (v := .tuple #[.agg #[.int .i64 f, .slice A9 n9 c9], .int .i64 3]) (by simp [results, Try.results7, go_sem, d1, d2]) rfl ?_
        have hpr : putRes f l b = (f, l, 3) := by rw [HP.out]; rw [HU.out] at hu; rw [if_neg HNO.out, if_neg (by omega), if_pos (.inr hu)]
        rw [hpr]
        refine ⟨A9, n9, c9, rfl, ?_⟩
        exact put_end HW3.out hz3 (by omega) (by omega) H9.out.1 H9.out.2
    have hu' : decide (30 < wrap64 (usedW l b.a + b.s)) = false := by simpa using hu
    go_quiet ((go_at_call 25; exact Calls.quiet_eq (shelfUsed_any _ gs l p b.a (HSG.out.keep fun _ _ => rfl))))
    go_wp2_with fail
    refine (insert_any (w3.drewN nq) gs l p b w2.heap.size (HSG.out.keep fun _ _ => rfl) HGE.out HND.out (show w2.heap.size ≤ w3.heap.size from hz23)).mono ?_
    rintro e w5 ⟨gs5, p5, rfl, hseg5, -, -, hb5'⟩
    have hb5 : Below w2.heap.size w3 w5 := (below_drewN (Below.refl _ _) nq).trans hb5'
    have HS5 := hide hseg5
    clear hseg5 hb5'
    have HB05 := hide ((HB03.out).below hb5 (by omega))
    have c005 := HB05.out.cell 0
    simp at c005
    have c015 := HB05.out.cell 1
    simp at c015
    have HB15 := hide ((HB13.out).below hb5 (by omega))
    have c105 := HB15.out.cell 0
    simp at c105
    have c115 := HB15.out.cell 1
    simp at c115
    have c125 := HB15.out.cell 2
    simp at c125
    have c135 := HB15.out.cell 3
    simp at c135
    have HB25 := hide ((HB23.out).below hb5 (by omega))
    have c205 := HB25.out.cell 0
    simp at c205
    have c215 := HB25.out.cell 1
    simp at c215
    have fz5 := fun o => HB25.out.frozen o
    have hz5 := HB25.out.lt
    have HW5 := hide ((HW3.out).trans (hb5.mono (by omega)))
    clear c003 c013 c103 c113 c123 c133 c203 c213 fz3 hb5
    go_wp2_with fail
    have HT := hide (fun k => batches_bp k (HB05.out) (HB25.out) (HS5.out) (by rw [ins_length]; have := HLN.out; omega) (stOk_filter_ins hv (by omega)))
    go_region_with ((go_at_call 27; refine (HT.out 1).mono ?_; rintro e w9 ⟨A9, n9, c9, rfl, d0, d1, d2, d3, d4, H9⟩))
    all_goals
      go_wp2_with fail
      refine bodyPost_ret (v := .tuple #[.agg #[.int .i64 f, .slice A9 n9 c9], .int .i64 0]) (by simp [results, Try.results7, go_sem, d1, d2]) rfl ?_
      have hpr : putRes f l b = (f, ins l b, 0) := by rw [HP.out]; rw [HU.out] at hu; rw [if_neg HNO.out, if_neg (by omega), if_neg (by have := HLN2.out; omega)]
      rw [hpr]
      refine ⟨A9, n9, c9, rfl, ?_⟩
      exact put_end HW5.out hz5 (by omega) (by omega) H9.out.1 H9.out.2
  · have HX := hide (show l.any (fun x => x.d == b.d) = true by simp; exact ⟨x, hx, hxd⟩)
    clear hx hxd
    go_wp2_with fail
    have HT := hide (fun k => batches_bp k (HB03.out) (HB23.out) (HSG.out) (by have := HLN.out; omega) (stOk_filter hv))
    go_region_with ((go_at_call 27; refine (HT.out 1).mono ?_; rintro e w9 ⟨A9, n9, c9, rfl, d0, d1, d2, d3, d4, H9⟩))
    all_goals
      go_wp2_with fail
      refine bodyPost_ret (v := .tuple #[.agg #[.int .i64 f, .slice A9 n9 c9], .int .i64 1]) (by simp [results, Try.results7, go_sem, d1, d2]) rfl ?_
      have hpr : putRes f l b = (f, l, 1) := by rw [HP.out]; rw [if_pos HX.out]
      rw [hpr]
      refine ⟨A9, n9, c9, rfl, ?_⟩
      exact put_end HW3.out hz3 (by omega) (by omega) H9.out.1 H9.out.2

end Go.Proofs.Ytjkeapkpdgfhcaa
