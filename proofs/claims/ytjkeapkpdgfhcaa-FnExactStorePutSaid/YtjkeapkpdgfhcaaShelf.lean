/- The linked list of batches: its words, and the functions that walk along it. -/
import Derived.Test.YtjkeapkpdgfhcaaStoreB
import Derived.Deep.LoopGhost
set_option linter.all false
namespace Go.Proofs.Ytjkeapkpdgfhcaa
open Go.RowKit

/-- from the pointer p the blocks gs hold the batches l, one after the other; the last one's next is q -/
def Seg (w : World) : List Nat → List Bt → Option Addr → Option Addr → Prop
  | [], [], p, q => p = q
  | g :: gs, b :: l, p, q => p = some ⟨g, 0, none⟩ ∧ ∃ nx, Box w g 60 #[.int .i64 b.d, .int .i64 b.a, .int .i64 b.r, .int .i64 b.s, .pointer nx] ∧ Seg w gs l nx q
  | _, _, _, _ => False

theorem Seg.keep {w w' : World} : ∀ {gs : List Nat} {l : List Bt} {p q : Option Addr}, Seg w gs l p q → (∀ g ∈ gs, w'.heap[g]? = w.heap[g]?) → Seg w' gs l p q
  | [], [], _, _, h, _ => h
  | g :: gs, b :: l, _, _, ⟨hp, nx, hb, hs⟩, hk => ⟨hp, nx, (hk g (by simp)).trans hb, hs.keep fun g' hg' => hk g' (by simp [hg'])⟩
  | [], _ :: _, _, _, h, _ => h
  | _ :: _, [], _, _, h, _ => h
theorem Seg.lt {w : World} : ∀ {gs : List Nat} {l : List Bt} {p q : Option Addr}, Seg w gs l p q → ∀ g ∈ gs, g < w.heap.size
  | [], [], _, _, _, g, hg => by cases hg
  | g :: gs, b :: l, _, _, ⟨_, nx, hb, hs⟩, g', hg' => by
    rcases List.mem_cons.1 hg' with rfl | h
    · exact hb.lt
    · exact hs.lt g' h
  | [], _ :: _, _, _, h, _, _ => h.elim
  | _ :: _, [], _, _, h, _, _ => h.elim
theorem Seg.below {w w' : World} {B : Nat} {gs : List Nat} {l : List Bt} {p q : Option Addr} (h : Seg w gs l p q) (hw : Below B w w') (hB : ∀ g ∈ gs, g < B) : Seg w' gs l p q :=
  h.keep fun g hg => hw.block g (hB g hg)
theorem Seg.append {w : World} : ∀ {gs : List Nat} {l : List Bt} {hs : List Nat} {m : List Bt} {p q r : Option Addr}, Seg w gs l p q → Seg w hs m q r → Seg w (gs ++ hs) (l ++ m) p r
  | [], [], _, _, _, _, _, h, k => by cases h; exact k
  | g :: gs, b :: l, _, _, _, _, _, ⟨hp, nx, hb, hs⟩, k => ⟨hp, nx, hb, hs.append k⟩
  | [], _ :: _, _, _, _, _, _, h, _ => h.elim
  | _ :: _, [], _, _, _, _, _, h, _ => h.elim

/-- a new slice of batches was made; nothing that was there has turned -/
def BtsMade (l : List Bt) (w : World) (e : Ending) (w' : World) : Prop :=
  ∃ A n c, e = .returned (.slice A n c) ∧ w'.ownsRow w.heap.size 27 4 (.slice A n c) n (btCells l) ∧ Below w.heap.size w w'

/-- what find hands back -/
def Found (w : World) (l : List Bt) (dg : Int) (u : Option Addr) : Prop :=
  (u = none ∧ ∀ b ∈ l, b.d ≠ dg) ∨ ∃ g b nx, u = some ⟨g, 0, none⟩ ∧ b ∈ l ∧ b.d = dg ∧ Box w g 60 #[.int .i64 b.d, .int .i64 b.a, .int .i64 b.r, .int .i64 b.s, .pointer nx]

def FindPost (w : World) (l : List Bt) (dg : Int) (e : Ending) (w' : World) : Prop := ∃ u, e = .returned (.pointer u) ∧ w = w' ∧ Found w l dg u

set_option maxHeartbeats 400000 in
theorem find_any (w : World) (gs : List Nat) (l : List Bt) (p : Option Addr) (dg : Int) (hs : Seg w gs l p none) :
    Calls Try.prog 24 #[.pointer p, .int .i64 dg] w (FindPost w l dg) := by
  have HS := hide hs
  clear hs
  go_enter Try.func24, Try.ntmps24
  go_wp2
  go_loopg [0] l.length (fun k s wr => wr = w ∧ ∃ (pre rest : List Bt) (gs' : List Nat) (p' : Option Addr), s = .pointer p' ∧ rest.length = k ∧ l = pre ++ rest ∧ (∀ b ∈ pre, b.d ≠ dg) ∧ Seg w gs' rest p' none)
  case atStart => exact ⟨rfl, [], l, gs, p, rfl, rfl, rfl, by simp, HS.out⟩
  case round =>
    obtain ⟨rfl, pre, rest, gs', p', rfl, rfl, hl, hpre, hseg⟩ := hrel
    have HL := hide hl
    have HP := hide hpre
    clear hl hpre
    match gs', rest, hseg with
    | [], [], hseg =>
      obtain rfl : p' = none := hseg
      go_wp2
      go_ret
      exact ⟨none, rfl, rfl, .inl ⟨rfl, by rw [HL.out, List.append_nil]; exact HP.out⟩⟩
    | g :: gs', b :: rest, ⟨hp, nx, hb, hs⟩ =>
      subst hp
      have HB := hide hb
      have HG := hide hs
      have c0 := hb.cell 0
      have c4 := hb.cell 4
      simp at c0 c4
      clear hb hs hseg
      by_cases hd : b.d = dg
      · have hd' : (b.d != dg) = false := by simp [hd]
        have HD := hide hd
        clear hd
        go_wp2
        go_ret
        exact ⟨_, rfl, rfl, .inr ⟨g, b, nx, rfl, by rw [HL.out]; simp, HD.out, HB.out⟩⟩
      · have hd' : (b.d != dg) = true := by simp [hd]
        go_wp2
        go_roundg rest.length
        case measure => simp
        case rel =>
          refine ⟨rfl, pre ++ [b], rest, gs', nx, rfl, rfl, by rw [HL.out]; simp, fun c hc => ?_, HG.out⟩
          rcases List.mem_append.1 hc with h | h
          · exact HP.out c h
          · simp at h; subst h; exact hd
    | [], _ :: _, hseg => exact hseg.elim
    | _ :: _, [], hseg => exact hseg.elim

set_option maxHeartbeats 400000 in
theorem shelfUsed_any (w : World) (gs : List Nat) (l : List Bt) (p : Option Addr) (a : Int) (hs : Seg w gs l p none) :
    Calls Try.prog 25 #[.pointer p, .int .i64 a] w fun e w' => e = .returned (.int .i64 (usedW l a)) ∧ w = w' := by
  have HS := hide hs
  clear hs
  go_enter Try.func25, Try.ntmps25
  go_wp2
  go_loopg [0, 5] l.length (fun k s n wr => wr = w ∧ ∃ (pre rest : List Bt) (gs' : List Nat) (p' : Option Addr), s = .pointer p' ∧ n = .int .i64 (usedW pre a) ∧ rest.length = k ∧ l = pre ++ rest ∧ Seg w gs' rest p' none)
  case atStart => exact ⟨rfl, [], l, gs, p, rfl, rfl, rfl, rfl, HS.out⟩
  case round =>
    obtain ⟨rfl, pre, rest, gs', p', rfl, rfl, rfl, hl, hseg⟩ := hrel
    have HL := hide hl
    clear hl
    match gs', rest, hseg with
    | [], [], hseg =>
      obtain rfl : p' = none := hseg
      go_wp2
      go_ret
      exact ⟨ret_int (by rw [HL.out, List.append_nil]), rfl⟩
    | g :: gs', b :: rest, ⟨hp, nx, hb, hs⟩ =>
      subst hp
      have HG := hide hs
      have HU := hide (usedW_snoc pre b a)
      have c1 := hb.cell 1
      have c3 := hb.cell 3
      have c4 := hb.cell 4
      simp at c1 c3 c4
      clear hb hs hseg
      go_wp2
      all_goals
        go_roundg rest.length
        case measure => simp
        case rel => exact ⟨rfl, pre ++ [b], rest, gs', nx, rfl, by rw [HU.out]; simp [*], rfl, by rw [HL.out]; simp, HG.out⟩
    | [], _ :: _, hseg => exact hseg.elim
    | _ :: _, [], hseg => exact hseg.elim

theorem btInfo : (Try.prog.info? 27).map (fun i => (i.zero, i.size, i.bytes)) = some (some (.agg #[.int .i64 0, .int .i64 0, .int .i64 0, .int .i64 0]), 4, 32) := by kernel_rfl

set_option maxHeartbeats 400000 in
theorem batches_any (w : World) (gs : List Nat) (l : List Bt) (p : Option Addr) (f : Int) (hs : Seg w gs l p none) (hl : l.length ≤ 3000000) :
    Calls Try.prog 27 #[.pointer p, .int .i64 f] w (BtsMade (l.filter fun b => decide (f ≤ b.r)) w) := by
  have HS := hide hs
  have HN := hide hl
  clear hs hl
  go_enter Try.func27, Try.ntmps27
  go_wp2
  go_loopg [0, 5] l.length (fun k s sv wr => Below w.heap.size w wr ∧ ∃ (pre rest : List Bt) (gs' : List Nat) (p' : Option Addr), s = .pointer p' ∧ rest.length = k ∧ l = pre ++ rest ∧ Seg w gs' rest p' none ∧
    ∃ A n c, sv = .slice A n c ∧ wr.ownsRow w.heap.size 27 4 (.slice A n c) n (btCells (pre.filter fun b => decide (f ≤ b.r))))
  case atStart => exact ⟨(Below.refl _ _).alloc (Nat.le_refl _) _, [], l, gs, p, rfl, rfl, rfl, HS.out, _, _, _, rfl, World.ownsRow_made w #[] 0 (Nat.le_refl _) (by simp [maxLen]) (by simp)⟩
  case round =>
    obtain ⟨hbw, pre, rest, gs', p', rfl, rfl, hl, hseg, A, n, c, rfl, hown⟩ := hrel
    have hn : n = (pre.filter fun b => decide (f ≤ b.r)).length := by have := hown.1; rw [btCells_length] at this; omega
    have hnle : n ≤ 3000000 := by have := List.length_filter_le (fun b : Bt => decide (f ≤ b.r)) pre; have := HN.out; rw [hl] at this; simp at this; omega
    have HNN := hide hn
    clear hn
    have HL := hide hl
    have HW := hide hbw
    have HO := hide hown
    clear hl hbw hown
    match gs', rest, hseg with
    | [], [], hseg =>
      obtain rfl : p' = none := hseg
      go_wp2
      go_ret
      exact ⟨A, n, c, rfl, by rw [HL.out, List.append_nil]; exact HO.out, HW.out⟩
    | g :: gs', b :: rest, hseg' =>
      have hlt := hseg'.lt g (by simp)
      obtain ⟨hp, nx, hb, hs⟩ := hseg'
      subst hp
      have HG := hide hs
      have hb' := hb.below HW.out hlt
      have c0 := hb'.cell 0
      have c1 := hb'.cell 1
      have c2 := hb'.cell 2
      have c3 := hb'.cell 3
      have c4 := hb'.cell 4
      have c4w := hb.cell 4
      simp at c0 c1 c2 c3 c4 c4w
      clear hb hb' hs hseg
      by_cases hf : f ≤ b.r
      · go_wp2_with (at_builtin; refine wpList_append_lit _ rfl _ _ _ rfl w.heap.size 27 _ 4 32 Try.underlying23 btInfo rfl (by decide) _ _ _ _ rfl HO.out _ _ _ _ rfl ?c1 ?c2 ?c3 ?c4 ?c5 ?_)
        case c1 => rfl
        case c2 => simp [Value.oneCell']
        case c3 => omega
        case c4 => omega
        case c5 => exact HW.out.size
        intro A' c' w1 hown1 hg1
        have HO1 := hide hown1
        have HG1 := hide hg1
        clear hown1 hg1
        have HW1 := hide (HW.out.grown HG1.out HW.out.size (fun k hk => (HO.out.lt k hk).1))
        have c4' := (HW1.out.cell (p := ⟨g, 4, none⟩) hlt).trans c4w
        go_wp2
        go_roundg rest.length
        case measure => simp
        case rel => exact ⟨HW1.out, pre ++ [b], rest, gs', nx, rfl, rfl, by rw [HL.out]; simp, HG.out, A', n + 1, c', rfl, by have := HO1.out; rw [List.filter_append, btCells_append]; simpa [hf, btCells, Bt.cells] using this⟩
      · have hf' : decide (f ≤ b.r) = false := by simpa using hf
        go_wp2
        go_roundg rest.length
        case measure => simp
        case rel => exact ⟨HW.out, pre ++ [b], rest, gs', nx, rfl, rfl, by rw [HL.out]; simp, HG.out, A, n, c, rfl, by simpa [hf'] using HO.out⟩
    | [], _ :: _, hseg => exact hseg.elim
    | _ :: _, [], hseg => exact hseg.elim

/-- the cell that holds the end of the chain gs that begins in the cell a -/
def place (a : Addr) : List Nat → Addr
  | [] => a
  | g :: gs => place ⟨g, 4, none⟩ gs

theorem cell_put_same {w : World} {x o : Nat} {u v : Value} (h : w.cell? ⟨x, o, none⟩ = some u) : (w.setCell ⟨x, o, none⟩ v).cell? ⟨x, o, none⟩ = some v := by
  exact World.cell?_setCell_same _ _ _ h

theorem place_snoc : ∀ (gs : List Nat) (a : Addr) (g : Nat), place a (gs ++ [g]) = ⟨g, 4, none⟩
  | [], _, _ => rfl
  | _ :: gs, _, g => place_snoc gs _ g
theorem place_mem : ∀ (gs : List Nat) (x o y k : Nat), place ⟨x, o, none⟩ gs = ⟨y, k, none⟩ → y = x ∨ y ∈ gs := by
  intro gs
  induction gs with
  | nil => intro x o y k h; simp [place] at h; exact .inl h.1.symm
  | cons a t ih => intro x o y k h; rcases ih _ _ _ _ h with h | h <;> simp [h]

theorem seg_store {w : World} : ∀ (gs : List Nat) (l : List Bt) (x o : Nat) (p q r : Option Addr), w.cell? ⟨x, o, none⟩ = some (.pointer p) → w.frozen? ⟨x, o, none⟩ = false → Seg w gs l p q → (x :: gs).Nodup →
    ∃ y k, place ⟨x, o, none⟩ gs = ⟨y, k, none⟩ ∧ y ∈ x :: gs ∧ w.cell? ⟨y, k, none⟩ = some (.pointer q) ∧ w.frozen? ⟨y, k, none⟩ = false ∧
      ∃ p', (w.setCell ⟨y, k, none⟩ (.pointer r)).cell? ⟨x, o, none⟩ = some (.pointer p') ∧ Seg (w.setCell ⟨y, k, none⟩ (.pointer r)) gs l p' r
  | [], [], x, o, p, q, r, hc, hf, hs, hn => ⟨x, o, rfl, by simp, by cases hs; exact hc, hf, r, cell_put_same hc, rfl⟩
  | g :: gs, b :: l, x, o, p, q, r, hc, hf, ⟨hp, nx, hb, hs⟩, hn => by
    have hn' : (g :: gs).Nodup := (List.nodup_cons.1 hn).2
    have hxn : x ∉ g :: gs := (List.nodup_cons.1 hn).1
    obtain ⟨y, k, hpl, hy, hcy, hfy, p', hc', hs'⟩ := seg_store gs l g 4 nx q r (by rw [hb.cell]; rfl) (hb.frozen 4) hs hn'
    have hyx : x ≠ y := fun h => hxn (h ▸ hy)
    refine ⟨y, k, hpl, List.mem_cons_of_mem _ hy, hcy, hfy, p, ?_, hp, p', ?_, hs'⟩
    · exact (World.cell?_of_block (Below.heap_setCell w ⟨y, k, none⟩ _ x hyx)).trans hc
    · by_cases hg : g = y
      · subst hg
        cases gs with
        | nil =>
          simp [place] at hpl
          subst hpl
          have h1 := hb.put 4 (.pointer r)
          rw [h1.cell] at hc'
          simp at hc'
          subst hc'
          simpa using h1
        | cons g2 gs2 =>
          exfalso
          obtain ⟨hk, _⟩ := List.nodup_cons.1 hn'
          rcases place_mem gs2 g2 4 g k hpl with h | h
          · exact hk (by simp [h])
          · exact hk (by simp [h])
      · have h1 := hb.off (o := k) hg (.pointer r)
        rw [h1.cell] at hc'
        simp at hc'
        subst hc'
        exact h1
  | [], _ :: _, _, _, _, _, _, _, _, h, _ => h.elim
  | _ :: _, [], _, _, _, _, _, _, _, h, _ => h.elim

set_option maxHeartbeats 400000 in
theorem shelfOf_any (w : World) (A : Option Addr) (n c : Nat) (l : List Bt) (hr : Reads w w.heap.size 4 A n (btCells l)) (hn : n ≤ 2000000) :
    Calls Try.prog 23 #[.slice A n c] w fun e w' => ∃ gs p, e = .returned (.pointer p) ∧ Seg w' gs l p none ∧ (∀ g ∈ gs, w.heap.size ≤ g) ∧ gs.Nodup ∧ Below w.heap.size w w' := by
  have HR := hide hr
  have HLN := hide hr.bt_len
  clear hr
  go_enter Try.func23, Try.ntmps23
  go_wp2
  go_loopg [4, 9] n (fun k s iv wr => ∃ (i : Nat) (gs : List Nat) (p : Option Addr) (y o : Nat), k + i = n ∧ iv = .int .i64 i ∧ s = .pointer (some ⟨y, o, none⟩) ∧ place ⟨w.heap.size, 0, none⟩ gs = ⟨y, o, none⟩ ∧
    Box wr w.heap.size 51 #[.pointer p] ∧ Seg wr gs (l.take i) p none ∧ (∀ g ∈ gs, w.heap.size < g) ∧ gs.Nodup ∧ Below w.heap.size w wr)
  case atStart => exact ⟨0, [], none, w.heap.size, 0, rfl, rfl, rfl, rfl, Box.new _ _ _, rfl, by simp, by simp, (Below.refl _ _).alloc (Nat.le_refl _) _⟩
  case round =>
    obtain ⟨i, gs, p, y, o, hk, rfl, rfl, hpl, hbox, hseg, hlt, hnd, hbw⟩ := hrel
    have hc0 := hbox.cell 0
    have hf0 := hbox.frozen 0
    simp at hc0
    by_cases hi : i < n
    · obtain ⟨b, off, x, rfl, hb, hx, e0, e1, e2, e3⟩ := (HR.out.below hbw).bt hi
      have hbr : b < wr.heap.size := Nat.lt_of_lt_of_le hb hbw.size
      obtain ⟨y', o', hpl', hy, hcy, hfy, -⟩ := seg_store gs _ _ _ p none none hc0 hf0 hseg (List.nodup_cons.2 ⟨fun h => by have := hlt _ h; omega, hnd⟩)
      rw [hpl] at hpl'
      injection hpl' with h1 h2
      subst h1 h2
      have hyr : y < wr.heap.size := by rcases List.mem_cons.1 hy with rfl | h; exact hbox.lt; exact hseg.lt _ h
      have HX := hide hx
      clear hx
      have hnd0 : (w.heap.size :: gs).Nodup := List.nodup_cons.2 ⟨fun h => by have := hlt _ h; omega, hnd⟩
      obtain ⟨y', o', hpl', -, -, -, p', hc', hs'⟩ := seg_store gs _ _ _ p none (some ⟨wr.heap.size + 1, 0, none⟩) hc0 hf0 hseg hnd0
      rw [hpl] at hpl'
      injection hpl' with h1 h2
      subst h1 h2
      have HS' := hide hs'
      have hbox' : Box (wr.setCell ⟨y, o, none⟩ (.pointer (some ⟨wr.heap.size + 1, 0, none⟩))) w.heap.size 51 #[.pointer p'] := by
        by_cases hyw : w.heap.size = y
        · subst hyw
          cases gs with
          | nil =>
            simp [place] at hpl
            subst hpl
            have h1 := hbox.put 0 (.pointer (some ⟨wr.heap.size + 1, 0, none⟩))
            rw [h1.cell] at hc'
            simp at hc'
            subst hc'
            simpa using h1
          | cons g2 gs2 =>
            exfalso
            rcases place_mem gs2 g2 4 _ _ hpl with h | h
            · have := hlt g2 (by simp); omega
            · have := hlt w.heap.size (by simp [h]); omega
        · have h1 := hbox.off (o := o) hyw (.pointer (some ⟨wr.heap.size + 1, 0, none⟩))
          rw [h1.cell] at hc'
          simp at hc'
          subst hc'
          exact h1
      have HB' := hide hbox'
      clear hs' hc' hbox'
      have HPL := hide hpl
      have HSG := hide hseg
      have HLT := hide hlt
      have HBW := hide hbw
      have HND := hide hnd
      clear hpl hseg hlt hbw hnd hnd0 hbox
      go_wp2
      go_roundg (n - (i + 1))
      case measure => omega
      case rel =>
        have hgr : ∀ g ∈ gs, g < wr.heap.size := HSG.out.lt
        refine ⟨i + 1, gs ++ [wr.heap.size + 1], p', wr.heap.size + 1, 4, by omega, by simp, rfl, ?_, (HB'.out.alloc _).alloc _, ?_, ?_, ?_, ?_⟩
        · rw [place_snoc]
        · rw [take_snoc _ _ _ HX.out]
          refine Seg.append ((HS'.out.keep fun g hg => ?_)) ⟨rfl, none, ?_, rfl⟩
          · rw [Below.heap_alloc _ _ _ (by have := hgr g hg; simp; omega), Below.heap_alloc _ _ _ (by have := hgr g hg; simp; omega)]
          · have := Box.new ((wr.setCell ⟨y, o, none⟩ (.pointer (some ⟨wr.heap.size + 1, 0, none⟩))).alloc (.cells #[.int .i64 x.d, .int .i64 x.a, .int .i64 x.r, .int .i64 x.s] 27)) 60 #[.int .i64 x.d, .int .i64 x.a, .int .i64 x.r, .int .i64 x.s, .pointer none]
            simpa using this
        · intro g hg
          rcases List.mem_append.1 hg with h | h
          · exact HLT.out g h
          · simp at h; have := HBW.out.size; omega
        · refine List.nodup_append.2 ⟨HND.out, by simp, fun a ha b hb => ?_⟩
          simp at hb; have := hgr a ha; omega
        · exact ((below_put HBW.out (by rcases List.mem_cons.1 hy with h | h; omega; exact Nat.le_of_lt (HLT.out _ h)) _).alloc (by have := HBW.out.size; simp; omega) _).alloc (by have := HBW.out.size; simp; omega) _
    · have hi' : decide (i < n) = false := by simpa using hi
      go_wp2
      go_ret
      refine ⟨gs, p, rfl, ?_, fun g hg => Nat.le_of_lt (hlt g hg), hnd, hbw⟩
      rwa [List.take_of_length_le (by have := HLN.out; omega)] at hseg

/-- the list with a further batch, ahead of the first that is not below it -/
def ins : List Bt → Bt → List Bt
  | [], b => [b]
  | x :: l, b => if x.d < b.d then x :: ins l b else b :: x :: l

theorem ins_split (b : Bt) : ∀ (pre rest : List Bt), (∀ x ∈ pre, x.d < b.d) → (∀ x ∈ rest.head?, ¬ x.d < b.d) → ins (pre ++ rest) b = pre ++ b :: rest
  | [], [], _, _ => rfl
  | [], y :: rest, _, h => by have := h y (by simp); simp [ins, this]
  | x :: pre, rest, h, k => by simp [ins, h x (by simp), ins_split b pre rest (fun z hz => h z (by simp [hz])) k]

theorem alloc_put_block (w : World) (ob : Obj) (y o : Nat) (u : Value) (g : Nat) (hg : g < w.heap.size) : ((w.alloc ob).setCell ⟨y, o, none⟩ u).heap[g]? = (w.setCell ⟨y, o, none⟩ u).heap[g]? := by
  show (Array.modify (w.heap.push ob) y _)[g]? = (Array.modify w.heap y _)[g]?
  rw [Array.getElem?_modify, Array.getElem?_modify, Array.getElem?_push, if_neg (Nat.ne_of_lt hg)]

theorem insert_end {w wr : World} {gs g1 g2 : List Nat} {l l1 l2 : List Bt} {p p' q : Option Addr} {b : Bt} {B y o : Nat} (k : Nat) (hBw : B ≤ w.heap.size) (hs : Seg w gs l p none) (hB : ∀ g ∈ gs, B ≤ g) (hnd : gs.Nodup)
    (hsz : wr.heap.size = w.heap.size + 2) (hX : l = l1 ++ l2 ∧ gs = g1 ++ g2 ∧ (∀ x ∈ l1, x.d < b.d)) (hbw : Below w.heap.size w wr) (hs2 : Seg wr g2 l2 q none) (h2 : ∀ x ∈ l2.head?, ¬ x.d < b.d)
    (hZ : Seg (wr.setCell ⟨y, o, none⟩ (.pointer (some ⟨wr.heap.size, 0, none⟩))) g1 l1 p' (some ⟨wr.heap.size, 0, none⟩)) (hy : y ∈ (w.heap.size + 1) :: g1) :
    ∃ gs' p'', Ending.returned (.pointer p') = .returned (.pointer p'') ∧ Seg (((wr.drewN k).alloc (.cells #[.int .i64 b.d, .int .i64 b.a, .int .i64 b.r, .int .i64 b.s, .pointer q] 60)).setCell ⟨y, o, none⟩ (.pointer (some ⟨wr.heap.size, 0, none⟩))) gs' (ins l b) p'' none ∧
      (∀ g ∈ gs', B ≤ g) ∧ gs'.Nodup ∧ Below B w (((wr.drewN k).alloc (.cells #[.int .i64 b.d, .int .i64 b.a, .int .i64 b.r, .int .i64 b.s, .pointer q] 60)).setCell ⟨y, o, none⟩ (.pointer (some ⟨wr.heap.size, 0, none⟩))) := by
  obtain ⟨rfl, rfl, hpre⟩ := hX
  have hlt := hs.lt
  have hn := List.nodup_append.1 hnd
  have hyr : y < wr.heap.size := by rcases List.mem_cons.1 hy with rfl | h; omega; have := hlt y (by simp [h]); omega
  have hyB : B ≤ y := by rcases List.mem_cons.1 hy with rfl | h; omega; exact hB y (by simp [h])
  refine ⟨g1 ++ wr.heap.size :: g2, p', rfl, ?_, ?_, ?_, ?_⟩
  · rw [ins_split b l1 l2 hpre h2]
    refine (hZ.keep fun g hg => alloc_put_block (wr.drewN k) _ y o _ g (by have := hlt g (by simp [hg]); simp; omega)).append ⟨rfl, q, ?_, ?_⟩
    · have h1 := Box.new (wr.drewN k) 60 #[.int .i64 b.d, .int .i64 b.a, .int .i64 b.r, .int .i64 b.s, .pointer q]
      exact h1.off (by simp; omega) _
    · refine hs2.keep fun g hg => ?_
      have hg2 := hlt g (by simp [hg])
      have hne : g ≠ y := by
        rcases List.mem_cons.1 hy with rfl | h
        · omega
        · exact fun e => hn.2.2 y h g hg e.symm
      rw [alloc_put_block (wr.drewN k) _ y o _ g (by simp; omega)]
      exact Below.heap_setCell (wr.drewN k) ⟨y, o, none⟩ _ g hne
  · intro g hg
    rcases List.mem_append.1 hg with h | h
    · exact hB g (by simp [h])
    · rcases List.mem_cons.1 h with h | h
      · omega
      · exact hB g (by simp [h])
  · refine List.nodup_append.2 ⟨hn.1, List.nodup_cons.2 ⟨fun h => by have := hlt _ (List.mem_append_right _ h); omega, hn.2.1⟩, fun a ha c hc => ?_⟩
    rcases List.mem_cons.1 hc with h | h
    · have := hlt a (by simp [ha]); omega
    · exact hn.2.2 a ha c h
  · exact below_put (((below_drewN (hbw.mono hBw) k)).alloc (by simp; omega) _) hyB _

set_option maxHeartbeats 400000 in
theorem insert_any (w : World) (gs : List Nat) (l : List Bt) (p : Option Addr) (b : Bt) (B : Nat) (hs : Seg w gs l p none) (hB : ∀ g ∈ gs, B ≤ g) (hnd : gs.Nodup) (hBw : B ≤ w.heap.size) :
    Calls Try.prog 26 #[.pointer p, .agg #[.int .i64 b.d, .int .i64 b.a, .int .i64 b.r, .int .i64 b.s]] w fun e w' => ∃ gs p, e = .returned (.pointer p) ∧ Seg w' gs (ins l b) p none ∧ (∀ g ∈ gs, B ≤ g) ∧ gs.Nodup ∧ Below B w w' := by
  have HS := hide hs
  have HB := hide hB
  have HND := hide hnd
  clear hs hB hnd
  go_enter Try.func26, Try.ntmps26
  go_wp2
  go_loopg [6] l.length (fun k s wr => ∃ (g1 g2 : List Nat) (l1 l2 : List Bt) (q : Option Addr) (y o : Nat), l2.length = k ∧ l = l1 ++ l2 ∧ gs = g1 ++ g2 ∧ (∀ x ∈ l1, x.d < b.d) ∧ s = .pointer (some ⟨y, o, none⟩) ∧
    place ⟨w.heap.size + 1, 0, none⟩ g1 = ⟨y, o, none⟩ ∧ Below w.heap.size w wr ∧ wr.heap.size = w.heap.size + 2 ∧ Box wr w.heap.size 27 #[.int .i64 b.d, .int .i64 b.a, .int .i64 b.r, .int .i64 b.s] ∧
    Box wr (w.heap.size + 1) 51 #[.pointer p] ∧ Seg wr g1 l1 p q ∧ Seg wr g2 l2 q none)
  case atStart =>
    refine ⟨[], gs, [], l, p, w.heap.size + 1, 0, rfl, rfl, rfl, by simp, rfl, rfl, ((Below.refl _ _).alloc (by simp) _).alloc (by simp) _, by simp, (Box.new _ _ _).alloc _, ?_, rfl, ?_⟩
    · have := Box.new (w.alloc (.cells #[.int .i64 b.d, .int .i64 b.a, .int .i64 b.r, .int .i64 b.s] 27)) 51 #[.pointer p]
      simpa using this
    · exact HS.out.below (((Below.refl w.heap.size _).alloc (by simp) _).alloc (by simp) _) HS.out.lt
  case round =>
    obtain ⟨g1, g2, l1, l2, q, y, o, rfl, hl, hgs, hpre, rfl, hpl, hbw, hsz, hbb, hbf, hs1, hs2⟩ := hrel
    have hlt := HS.out.lt
    have hndf : ((w.heap.size + 1) :: g1).Nodup := by
      refine List.nodup_cons.2 ⟨fun h => ?_, ?_⟩
      · have := hlt _ (by rw [hgs]; exact List.mem_append_left _ h); omega
      · have := HND.out; rw [hgs] at this; exact (List.nodup_append.1 this).1
    have cf := hbf.cell 0
    have ff := hbf.frozen 0
    have d0 := hbb.cell 0
    have d1 := hbb.cell 1
    have d2 := hbb.cell 2
    have d3 := hbb.cell 3
    simp at cf d0 d1 d2 d3
    obtain ⟨y', o', hpl', hy, hcy, hfy, p', hc', hs'⟩ := seg_store g1 _ _ _ p q (some ⟨wr.heap.size, 0, none⟩) cf ff hs1 hndf
    rw [hpl] at hpl'
    injection hpl' with h1 h2
    subst h1 h2
    have hyr : y < wr.heap.size := by rcases List.mem_cons.1 hy with rfl | h; omega; have := hs1.lt _ h; omega
    have hcyA : ∀ (k : Nat) (ob : Obj), ((wr.drewN k).alloc ob).cell? ⟨y, o, none⟩ = some (.pointer q) := fun k ob => (World.cell?_of_block (Below.heap_alloc (wr.drewN k) ob y hyr)).trans hcy
    have hfyA : ∀ (k : Nat) (ob : Obj), ((wr.drewN k).alloc ob).frozen? ⟨y, o, none⟩ = false := fun k ob => (World.frozen?_of_block (Below.heap_alloc (wr.drewN k) ob y hyr)).trans hfy
    have hcf : ∀ (k : Nat) (ob : Obj), (((wr.drewN k).alloc ob).setCell ⟨y, o, none⟩ (.pointer (some ⟨wr.heap.size, 0, none⟩))).cell? ⟨w.heap.size + 1, 0, none⟩ = some (.pointer p') := fun k ob =>
      (World.cell?_of_block (alloc_put_block (wr.drewN k) ob y o _ (w.heap.size + 1) (by simp; omega))).trans hc'
    have HSZ := hide hsz
    have hwr : w.heap.size < wr.heap.size := by omega
    have hwr1 : w.heap.size + 1 < wr.heap.size := by omega
    clear hsz
    have HX := hide (show l = l1 ++ l2 ∧ gs = g1 ++ g2 ∧ (∀ x ∈ l1, x.d < b.d) from ⟨hl, hgs, hpre⟩)
    have HY := hide (show place ⟨w.heap.size + 1, 0, none⟩ g1 = ⟨y, o, none⟩ ∧ Below w.heap.size w wr ∧ Box wr w.heap.size 27 #[.int .i64 b.d, .int .i64 b.a, .int .i64 b.r, .int .i64 b.s] ∧
      Box wr (w.heap.size + 1) 51 #[.pointer p] ∧ Seg wr g1 l1 p q ∧ Seg wr g2 l2 q none from ⟨hpl, hbw, hbb, hbf, hs1, hs2⟩)
    have HZ := hide (show (wr.setCell ⟨y, o, none⟩ (.pointer (some ⟨wr.heap.size, 0, none⟩))).cell? ⟨w.heap.size + 1, 0, none⟩ = some (.pointer p') ∧ Seg (wr.setCell ⟨y, o, none⟩ (.pointer (some ⟨wr.heap.size, 0, none⟩))) g1 l1 p' (some ⟨wr.heap.size, 0, none⟩) ∧ y ∈ (w.heap.size + 1) :: g1 from ⟨hc', hs', hy⟩)
    clear hl hgs hpre hpl hbw hbb hbf hs1 hc' hs' hy hndf hlt
    have hs2' := hs2
    match g2, l2, hs2' with
    | [], [], hq =>
      obtain rfl : q = none := hq
      clear hs2
      go_wp2
      go_quiet (fail)
      go_wp2
      go_region
      all_goals
        go_wp2
        go_ret
        exact insert_end _ hBw HS.out HB.out HND.out HSZ.out HX.out HY.out.2.1 HY.out.2.2.2.2.2 (by simp) HZ.out.2.1 HZ.out.2.2
    | g :: g2, x :: l2, ⟨hq, nx, hb, hs3⟩ =>
      subst hq
      have e0 := hb.cell 0
      simp at e0
      have hgr := hb.lt
      have HB2 := hide hb
      have HS3 := hide hs3
      clear hs2 hb hs3
      by_cases hd : x.d < b.d
      · go_wp2
        go_quiet (fail)
        go_wp2
        go_roundg l2.length
        case measure => simp
        case rel =>
          obtain ⟨hl, hgs, hpre⟩ := HX.out
          obtain ⟨hpl, hbw, hbb, hbf, hs1, -⟩ := HY.out
          have hb1 : Seg wr [g] [x] (some ⟨g, 0, none⟩) nx := ⟨rfl, nx, HB2.out, rfl⟩
          refine ⟨g1 ++ [g], g2, l1 ++ [x], l2, nx, g, 4, rfl, by simp [hl], by simp [hgs], ?_, rfl, place_snoc _ _ _, below_drewN hbw _, HSZ.out, hbb, hbf, (hs1.append hb1).keep fun _ _ => rfl, HS3.out.keep fun _ _ => rfl⟩
          intro z hz
          rcases List.mem_append.1 hz with h | h
          · exact hpre z h
          · simp at h; subst h; exact hd
      · have hd' : decide (x.d < b.d) = false := by simpa using hd
        go_wp2
        go_quiet (fail)
        go_wp2
        go_region
        all_goals
          go_wp2
          go_ret
          exact insert_end _ hBw HS.out HB.out HND.out HSZ.out HX.out HY.out.2.1 HY.out.2.2.2.2.2 (by simpa using hd) HZ.out.2.1 HZ.out.2.2
    | [], _ :: _, h => exact h.elim
    | _ :: _, [], h => exact h.elim

end Go.Proofs.Ytjkeapkpdgfhcaa
