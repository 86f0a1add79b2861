/- The program's own way of storing a batch: the older contract, lifted. -/
import Derived.Test.YtjkeapkpdgfhcaaSyF
import Derived.Test.YtjkeapkpdgfhcaaStoreC
set_option linter.all false
namespace Go.Proofs.Ytjkeapkpdgfhcaa
open Go.RowKit

theorem ins_eq : ∀ (l : List Bt) (b : Bt), ins l b = insB l b
  | [], _ => rfl
  | x :: l, b => by unfold ins insB; rw [ins_eq l b]
theorem putRes_eq (f : Int) (l : List Bt) (b : Bt) : putRes f l b = (putFloor f l b, putList f l b, putCode f l b) := by
  have key : ∀ c, putCode f l b = c → putRes f l b = (match c with | 4 => (0 : Int) | _ => f, match c with | 4 => [] | 0 => insB l b | _ => l, c) := by
    intro c hc
    unfold putCode at hc
    unfold putRes
    by_cases h0 : (stOk f l && btOk b) = true
    · have h12 : l.length ≤ 12 := by
        simp only [Bool.and_eq_true] at h0
        exact ((stOk_iff f l).1 h0.1).2.1
      rw [if_neg (by rw [h0]; simp)] at hc ⊢
      by_cases h1 : l.any (fun x => x.d == b.d) = true
      · rw [if_pos h1] at hc ⊢; subst hc; rfl
      · rw [if_neg h1] at hc ⊢
        by_cases h2 : b.r < f
        · rw [if_pos h2] at hc ⊢; subst hc; rfl
        · rw [if_neg h2] at hc ⊢
          by_cases h3 : 12 ≤ l.length ∨ 30 < used l b.a + b.s
          · rw [if_pos h3] at hc
            rw [if_pos (by omega)]; subst hc; rfl
          · rw [if_neg h3] at hc
            rw [if_neg (by omega), ins_eq]; subst hc; rfl
    · have h0 : (stOk f l && btOk b) = false := by simpa using h0
      rw [if_pos (by rw [h0]; rfl)] at hc
      rw [if_pos h0]; subst hc; rfl
  rw [key _ rfl]
  rfl

theorem bt_cell (l : List Bt) (i k : Nat) (hi : i < l.length) (hk : k < 4) : ∃ z, (btCells l)[i * 4 + k]? = some (.int .i64 z) ∧ rowF btF l i k = .val (.int .i64 z) := by
  have hx : l[i]? = some l[i] := List.getElem?_eq_getElem hi
  rw [btCells_get l i k _ hx hk]
  have e : rowF btF l i k = btF l[i] k := by
    show btF (l.getD i default) k = _
    rw [show l.getD i default = l[i] by simp [hi]]
  rw [e]
  rcases (by omega : k = 0 ∨ k = 1 ∨ k = 2 ∨ k = 3) with rfl | rfl | rfl | rfl <;> exact ⟨_, rfl, rfl⟩
/-- a slice of batches that reads, in the older words -/
theorem Has.reads {w : World} {F : Nat → Prop} {l : List Bt} {x : Value} (hF : ∀ b, F b → b < w.heap.size) (h : Has w F (.sl 4 l.length (rowF btF l)) x) : ∃ A c, x = .slice A l.length c ∧ l.length ≤ c ∧ Reads w w.heap.size 4 A l.length (btCells l) := by
  obtain ⟨A, c, e, hc, _, hr⟩ := h
  refine ⟨A, c, e, hc, ?_, fun hn => ?_⟩
  · rw [btCells_length]
  · obtain ⟨b, off, hA, hb, hcell⟩ := hr hn
    refine ⟨b, off, hA, hF b hb, fun j u hu => ?_⟩
    have hj : j < l.length * 4 := by
      have := (List.getElem?_eq_some_iff.1 hu).1
      rwa [btCells_length] at this
    obtain ⟨u', h1, _, h3⟩ := hcell (j / 4) (j % 4) (by omega) (by omega)
    obtain ⟨z, hz1, hz2⟩ := bt_cell l (j / 4) (j % 4) (by omega) (by omega)
    rw [show j / 4 * 4 + j % 4 = j by omega] at hz1
    rw [hz2] at h3
    rw [hu] at hz1
    injection hz1 with hz1
    have h3 : u' = .int .i64 z := h3
    rw [hz1, ← h3, ← h1]
    congr 2
    omega
theorem HSat.newRow {w w' : World} {F : Nat → Prop} {H : List Hp} {A : Option Addr} {n c : Nat} {l : List Bt} (hs : HSat w F H) (hb : Below w.heap.size w w') (ho : w'.ownsRow w.heap.size 27 4 (.slice A n c) n (btCells l)) : n = l.length ∧ HSat w' F (.row (.slice A n c) 27 4 l.length (rowF btF l) :: H) := by
  have hn : n = l.length := by
    have := ho.1
    rw [btCells_length] at this
    omega
  subst hn
  have hs' := (hs.below hb).1
  have hlt := ho.lt
  refine ⟨rfl, ⟨fun p hp => ?_, fun p hp b hbp => ?_, List.pairwise_cons.2 ⟨fun q hq b hbp hbq => ?_, hs'.apart⟩, hs'.lt⟩⟩
  · rcases List.mem_cons.1 hp with rfl | hp
    · refine ⟨btCells l, own_keep ho (Nat.zero_le _) fun _ _ => rfl, fun i k hi hk => ?_⟩
      obtain ⟨z, hz1, hz2⟩ := bt_cell l i k hi hk
      have e : (btCells l).getD (i * 4 + k) undef = .int .i64 z := by rw [List.getD_eq_getElem?_getD, hz1]; rfl
      rw [e, hz2]
      exact ⟨rfl, rfl⟩
    · exact hs'.holds p hp
  · rcases List.mem_cons.1 hp with rfl | hp
    · have := hlt b hbp
      exact ⟨this.2, fun hF => by have := hs.lt b hF; omega⟩
    · exact hs'.fp p hp b hbp
  · have := hlt b hbp
    have := (hs.fp q hq b hbq).1
    omega

theorem arr2 {vs : Array Value} (h : vs.size = 2) : vs = #[vs.getD 0 undef, vs.getD 1 undef] := by
  apply Array.ext
  · simpa using h
  · intro i hi1 hi2
    have hi : i < 2 := by simpa using hi2
    rcases (by omega : i = 0 ∨ i = 1) with rfl | rfl <;> simp [Array.getD, hi1]
theorem arr4 {vs : Array Value} (h : vs.size = 4) : vs = #[vs.getD 0 undef, vs.getD 1 undef, vs.getD 2 undef, vs.getD 3 undef] := by
  apply Array.ext
  · simpa using h
  · intro i hi1 hi2
    have hi : i < 4 := by simpa using hi2
    rcases (by omega : i = 0 ∨ i = 1 ∨ i = 2 ∨ i = 3) with rfl | rfl | rfl | rfl <;> simp [Array.getD, hi1]
theorem Has.st {w : World} {F : Nat → Prop} {f : Int} {l : List Bt} {x : Value} (hF : ∀ b, F b → b < w.heap.size) (h : Has w F (.agg 2 (stF f l)) x) : ∃ A c, x = .agg #[.int .i64 f, .slice A l.length c] ∧ l.length ≤ c ∧ Reads w w.heap.size 4 A l.length (btCells l) := by
  obtain ⟨xs, ex, hxn, hx⟩ := h
  have h0 : xs.getD 0 undef = .int .i64 f := hx 0 (by omega)
  obtain ⟨A, c, e1, hc, hr⟩ := Has.reads hF (hx 1 (by omega))
  rw [arr2 hxn, h0, e1] at ex
  exact ⟨A, c, ex, hc, hr⟩
theorem Has.bt {w : World} {F : Nat → Prop} {b : Bt} {y : Value} (h : Has w F (.agg 4 (btF b)) y) : y = .agg #[.int .i64 b.d, .int .i64 b.a, .int .i64 b.r, .int .i64 b.s] := by
  obtain ⟨ys, ey, hyn, hy⟩ := h
  have h0 : ys.getD 0 undef = .int .i64 b.d := hy 0 (by omega)
  have h1 : ys.getD 1 undef = .int .i64 b.a := hy 1 (by omega)
  have h2 : ys.getD 2 undef = .int .i64 b.r := hy 2 (by omega)
  have h3 : ys.getD 3 undef = .int .i64 b.s := hy 3 (by omega)
  rw [arr4 hyn, h0, h1, h2, h3] at ey
  exact ey
theorem implStorePut_c (f : Int) (l : List Bt) (b : Bt) (hl : l.length ≤ 2000000) : SNew Try.prog 7 [.agg 2 (stF f l), .agg 4 (btF b)] (PutR f l b) := ⟨fun R => ⟨callable_of Try.func7 rfl rfl, fun w F vs hs hv => by
  match vs, hv with
  | [x, y], ⟨hx, hy, _⟩ =>
    obtain ⟨A, c, rfl, hc, hr⟩ := Has.st hs.lt hx
    obtain rfl := Has.bt hy
    refine (implStorePut_any w f A l.length c l b hr (by omega)).mono ?_
    rintro e w' ⟨A', n', c', rfl, ho, hb⟩
    rw [putRes_eq] at ho ⊢
    obtain ⟨rfl, hs'⟩ := hs.newRow hb ho
    refine ⟨_, rfl, .tup 2 (litF [.agg 2 (litF [.i (putFloor f l b), .own 0 (.slice A' (putList f l b).length c')]), .i (putCode f l b)]), F, _, ⟨[.row (.slice A' (putList f l b).length c') 27 4 (putList f l b).length (rowF btF (putList f l b))], rfl, A', _, c', rfl, rfl, rfl⟩, (hs.below hb).2, fun _ h => h, hs', ?_⟩
    refine ⟨_, rfl, rfl, fun k hk => ?_⟩
    rcases (by omega : k = 0 ∨ k = 1) with rfl | rfl
    · refine ⟨_, rfl, rfl, fun k hk => ?_⟩
      rcases (by omega : k = 0 ∨ k = 1) with rfl | rfl <;> rfl
    · rfl⟩⟩
end Go.Proofs.Ytjkeapkpdgfhcaa
