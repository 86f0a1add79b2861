/- StoreGet, StoreUsed: what they return. -/
import Derived.Test.YtjkeapkpdgfhcaaStoreC
import Derived.Test.YtjkeapkpdgfhcaaApp
set_option linter.all false
namespace Go.Proofs.Ytjkeapkpdgfhcaa
open Go.RowKit


/-- two slices of batches read alike -/
theorem btCells_inj {l m : List Bt} (h : btCells l = btCells m) : l = m := by
  induction l generalizing m with
  | nil =>
    cases m with
    | nil => rfl
    | cons b m => simp [btCells, Bt.cells] at h
  | cons a l ih =>
    cases m with
    | nil => simp [btCells, Bt.cells] at h
    | cons b m =>
      simp only [btCells, List.flatMap_cons, Bt.cells, List.cons_append, List.nil_append, List.cons.injEq] at h
      obtain ⟨h1, h2, h3, h4, h5⟩ := h
      have : l = m := ih h5
      subst this
      cases a; cases b
      simp_all

/-- the batch with a digest -/
def stGet (f : Int) (l : List Bt) (dg : Int) : Option Bt := if stOk f l then l.find? (fun x => x.d == dg) else none

set_option maxHeartbeats 800000 in
theorem storeUsed_any (w : World) (f : Int) (A : Option Addr) (n c : Nat) (l : List Bt) (a : Int) (hr : Reads w w.heap.size 4 A n (btCells l)) (hn : n ≤ 2000000) (hv : stOk f l = true) (ha : 0 ≤ a ∧ a ≤ 6) :
    Calls Try.prog 11 #[.agg #[.int .i64 f, .slice A n c], .int .i64 a] w fun e w' => e = .returned (.int .i64 (used l a)) ∧ Below w.heap.size w w' := by
  have hu : usedW l a = used l a := usedW_eq l a (fun x hx => btOk_size (((stOk_iff f l).1 hv).2.2.1 x hx).1) (by have := hr.bt_len; omega)
  have HU := hide hu
  have HR := hide hr
  have ha' : inB a 0 6 = true := inB_true.2 ha
  clear hr hu
  go_enter Try.func11, Try.ntmps11
  go_wp2_with fail
  refine (implStoreValid_any _ A n c l f ((HR.out.alloc (Nat.le_refl _) _).more (by simp)) hn).mono ?_
  rintro e w1 ⟨rfl, hb1⟩
  have hB : Box w1 w.heap.size 25 #[.int .i64 f, .slice A n c] := (Box.new _ _ _).below hb1 (by simp)
  have hW : Below w.heap.size w w1 := ((Below.refl _ _).alloc (Nat.le_refl _) _).trans (hb1.mono (by simp))
  have p_0 := (hB).cell 0
  have p_1 := (hB).cell 1
  simp at p_0 p_1
  have p_f := fun o => (hB).frozen o
  have p_l := (hB).lt
  go_wp2_with (first | (go_at_call 31; refine (isAuthor_any _ _).mono ?_; rintro e w' ⟨rfl, rfl⟩))
  refine (shelfOf_any w1 A n c l ((HR.out.below hW).more (by omega)) hn).mono ?_
  rintro e w3 ⟨gs, p, rfl, hseg, hge, hnd, hb3⟩
  have HSG := hide hseg
  clear hseg hge hnd
  go_wp2_with fail
  refine (shelfUsed_any w3 gs l p a HSG.out).mono ?_
  rintro e _ ⟨rfl, rfl⟩
  go_wp2_with fail
  go_ret
  exact ⟨ret_int HU.out, hW.trans (hb3.mono (by omega))⟩

/-- what StoreGet answers: the batch with the digest, if there is one -/
def GotBt (l : List Bt) (dg : Int) (w : World) (e : Ending) (w' : World) : Prop :=
  Below w.heap.size w w' ∧ ((∃ b ∈ l, b.d = dg ∧ e = .returned (.tuple #[.agg #[.int .i64 b.d, .int .i64 b.a, .int .i64 b.r, .int .i64 b.s], .bool true])) ∨
    ((∀ b ∈ l, b.d ≠ dg) ∧ e = .returned (.tuple #[.agg #[.int .i64 0, .int .i64 0, .int .i64 0, .int .i64 0], .bool false])))

set_option maxHeartbeats 800000 in
theorem storeGet_any (w : World) (f : Int) (A : Option Addr) (n c : Nat) (l : List Bt) (dg : Int) (hr : Reads w w.heap.size 4 A n (btCells l)) (hn : n ≤ 2000000) (hv : stOk f l = true) :
    Calls Try.prog 10 #[.agg #[.int .i64 f, .slice A n c], .int .i64 dg] w (GotBt l dg w) := by
  have HR := hide hr
  clear hr
  go_enter Try.func10, Try.ntmps10
  go_wp2_with fail
  refine (implStoreValid_any _ A n c l f (((HR.out.alloc (Nat.le_refl _) _).alloc (by simp) _).more (by simp; omega)) hn).mono ?_
  rintro e w1 ⟨rfl, hb1⟩
  have hB : Box w1 w.heap.size 25 #[.int .i64 f, .slice A n c] := ((Box.new _ _ _).alloc _).below hb1 (by simp; omega)
  have hC : Box w1 (w.heap.size + 1) 27 #[.int .i64 0, .int .i64 0, .int .i64 0, .int .i64 0] := (Box.new' _ _ _ _ (by simp)).below hb1 (by simp)
  have hW : Below w.heap.size w w1 := (((Below.refl _ _).alloc (Nat.le_refl _) _).alloc (by simp) _).trans (hb1.mono (by simp; omega))
  have p_0 := (hB).cell 0
  have p_1 := (hB).cell 1
  simp at p_0 p_1
  have p_f := fun o => (hB).frozen o
  have p_l := (hB).lt
  go_wp2_with fail
  refine (shelfOf_any w1 A n c l ((HR.out.below hW).more (by omega)) hn).mono ?_
  rintro e w3 ⟨gs, p, rfl, hseg, hge, hnd, hb3⟩
  have HSG := hide hseg
  clear hseg hge hnd
  go_wp2_with fail
  refine (find_any w3 gs l p dg HSG.out).mono ?_
  rintro e _ ⟨u, rfl, rfl, hfd⟩
  have hC3 := hC.below hb3 hC.lt
  have hC3l := hC.lt
  have z_0 := (hC3).cell 0
  have z_1 := (hC3).cell 1
  have z_2 := (hC3).cell 2
  have z_3 := (hC3).cell 3
  simp at z_0 z_1 z_2 z_3
  have z_f := fun o => (hC3).frozen o
  have z_l := (hC3).lt
  have hW3 : Below w.heap.size w w3 := hW.trans (hb3.mono (by omega))
  rcases hfd with ⟨rfl, hno⟩ | ⟨g, x, nx, rfl, hx, hxd, hbx⟩
  · have HNO := hide hno
    clear hno
    go_wp2_with fail
    refine bodyPost_ret (v := .tuple #[.agg #[.int .i64 0, .int .i64 0, .int .i64 0, .int .i64 0], .bool false]) (by simp [results, Try.results10, go_sem, z_0, z_1, z_2, z_3]) rfl ⟨?_, .inr ⟨HNO.out, rfl⟩⟩
    exact below_put (below_put (below_put (below_put hW3 (by omega) _) (by omega) _) (by omega) _) (by omega) _
  · have HX := hide hx
    have HXD := hide hxd
    clear hx hxd
    have y_0 := (hbx).cell 0
    have y_1 := (hbx).cell 1
    have y_2 := (hbx).cell 2
    have y_3 := (hbx).cell 3
    have y_4 := (hbx).cell 4
    simp at y_0 y_1 y_2 y_3 y_4
    have y_f := fun o => (hbx).frozen o
    have y_l := (hbx).lt
    go_wp2_with fail
    refine bodyPost_ret (v := .tuple #[.agg #[.int .i64 x.d, .int .i64 x.a, .int .i64 x.r, .int .i64 x.s], .bool true]) (by simp [results, Try.results10, go_sem, z_0, z_1, z_2, z_3]) rfl ⟨?_, .inl ⟨x, HX.out, HXD.out, rfl⟩⟩
    exact below_put (below_put (below_put (below_put hW3 (by omega) _) (by omega) _) (by omega) _) (by omega) _

end Go.Proofs.Ytjkeapkpdgfhcaa
