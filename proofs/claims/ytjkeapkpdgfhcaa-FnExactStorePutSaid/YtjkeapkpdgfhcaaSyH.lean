/- What a store's reader gives; two stores that read alike; results that stand still. -/
import Derived.Test.YtjkeapkpdgfhcaaSyG
import Derived.Test.YtjkeapkpdgfhcaaStoreF
set_option linter.all false
namespace Go.Proofs.Ytjkeapkpdgfhcaa
open Go.RowKit

theorem has_st {w : World} {F : Nat → Prop} {f : Int} {A : Option Addr} {n c : Nat} {l : List Bt} {x : Value} (h : Has w F (.sl 4 l.length (rowF btF l)) (.slice A n c)) (hx : Has w F (.agg 2 (litF [.i f, .own 0 (.slice A n c)])) x) : Has w F (.agg 2 (stF f l)) x := by
  refine Has.agg (fun k hk u hu => ?_) hx
  rcases (by omega : k = 0 ∨ k = 1) with rfl | rfl
  · exact hu
  · have e : u = .slice A n c := hu
    subst e
    exact h

/-- a store and a code -/
def stC (f : Int) (l : List Bt) (c : Int) : SV := .tup 2 (litF [.agg 2 (stF f l), .i c])
theorem PutS.still {f : Int} {l : List Bt} {c : Int} {r : SV} {N : List Hp} (h : PutS f l c r N) : ∃ r', r' = stC f l c ∧ ∀ R : Heaplet, Ent r (N ++ [.cust R]) r' [.cust R] := by
  obtain ⟨A, n, cp, hn, rfl, rfl⟩ := h
  refine ⟨_, rfl, fun R => Ent.row fun w F x hsl hx => Has.tup (fun k hk u hu => ?_) hx⟩
  rcases (by omega : k = 0 ∨ k = 1) with rfl | rfl
  · exact has_st hsl hu
  · exact hu
theorem implPut_r (f : Int) (l : List Bt) (b : Bt) (hl : l.length ≤ 2000000) : SRet Try.prog 7 [.agg 2 (stF f l), .agg 4 (btF b)] (· = stC (putFloor f l b) (putList f l b) (putCode f l b)) :=
  (implStorePut_c f l b hl).frozen fun r N h => h.still
theorem specPut_r (f : Int) (l : List Bt) (b : Bt) (hl : l.length ≤ 2000000) : SRet Try.prog 8 [.agg 2 (stF f l), .agg 4 (btF b)] (· = stC (putFloor f l b) (putList f l b) (putCode f l b)) :=
  (specStorePut_c f l b hl).frozen fun r N h => h.still
/-- a store and a batch -/
def stB (f : Int) (l : List Bt) (b : Bt) : SV := .tup 2 (litF [.agg 2 (stF f l), .agg 4 (btF b)])
theorem drawPut_r (zs : List Int) (hz : ∀ z ∈ zs, 0 ≤ z ∧ z ≤ 255) (hl : zs.length ≤ 2000000) : SRet Try.prog 6 [.sl 1 zs.length (rowF u8F zs)] fun r => ∃ f l b, l.length ≤ 13 ∧ r = stB f l b :=
  (DrawStorePut_c zs hz hl).frozen fun r N ⟨f, l, A, n, c, b, hn, hl, hr, hN⟩ => by
    subst hr hN
    refine ⟨_, ⟨f, l, b, hl, rfl⟩, fun R => Ent.row fun w F x hsl hx => Has.tup (fun k hk u hu => ?_) hx⟩
    rcases (by omega : k = 0 ∨ k = 1) with rfl | rfl
    · exact has_st hsl hu
    · exact hu

theorem storeUsed_c (f : Int) (l : List Bt) (a : Int) (hl : l.length ≤ 2000000) (hv : stOk f l = true) (ha : 0 ≤ a ∧ a ≤ 6) : SRet Try.prog 11 [.agg 2 (stF f l), .i a] (· = .i (used l a)) :=
  SRet.of_val (callable_of Try.func11 rfl rfl) fun w vs h => by
    match vs, h with
    | [x, y], ⟨hx, hy, _⟩ =>
      obtain ⟨A, c, rfl, hc, hr⟩ := Has.st (fun b h => h) hx
      obtain rfl := hy
      exact storeUsed_any w f A l.length c l a hr (by omega) hv ha
/-- what StoreGet gives -/
def Got (l : List Bt) (dg : Int) (r : SV) : Prop := (∃ b ∈ l, b.d = dg ∧ r = .tup 2 (litF [.agg 4 (btF b), .b true])) ∨ ((∀ b ∈ l, b.d ≠ dg) ∧ r = .tup 2 (litF [.agg 4 (btF ⟨0, 0, 0, 0⟩), .b false]))
theorem has_bt {w : World} {F : Nat → Prop} (b : Bt) : Has w F (.agg 4 (btF b)) (.agg #[.int .i64 b.d, .int .i64 b.a, .int .i64 b.r, .int .i64 b.s]) :=
  ⟨_, rfl, rfl, fun k hk => by rcases (by omega : k = 0 ∨ k = 1 ∨ k = 2 ∨ k = 3) with rfl | rfl | rfl | rfl <;> rfl⟩
theorem storeGet_c (f : Int) (l : List Bt) (dg : Int) (hl : l.length ≤ 2000000) (hv : stOk f l = true) : SRet Try.prog 10 [.agg 2 (stF f l), .i dg] (Got l dg) :=
  ⟨fun R => ⟨callable_of Try.func10 rfl rfl, fun w F vs hs h => by
    match vs, h with
    | [x, y], ⟨hx, hy, _⟩ =>
      obtain ⟨A, c, rfl, hc, hr⟩ := Has.st hs.lt hx
      obtain rfl := hy
      refine (storeGet_any w f A l.length c l dg hr (by omega) hv).mono ?_
      rintro e w' ⟨hb, hg⟩
      have hh : ∀ (b : Bt) (o : Bool), Has w' F (.tup 2 (litF [.agg 4 (btF b), .b o])) (.tuple #[.agg #[.int .i64 b.d, .int .i64 b.a, .int .i64 b.r, .int .i64 b.s], .bool o]) := fun b o =>
        ⟨_, rfl, rfl, fun k hk => by
          rcases (by omega : k = 0 ∨ k = 1) with rfl | rfl
          · exact has_bt b
          · rfl⟩
      rcases hg with ⟨b, hm, hd, rfl⟩ | ⟨hno, rfl⟩
      · exact ⟨_, rfl, _, F, _, ⟨rfl, .inl ⟨b, hm, hd, rfl⟩⟩, (hs.below hb).2, fun _ h => h, (hs.below hb).1, hh b true⟩
      · exact ⟨_, rfl, _, F, _, ⟨rfl, .inr ⟨hno, rfl⟩⟩, (hs.below hb).2, fun _ h => h, (hs.below hb).1, hh ⟨0, 0, 0, 0⟩ false⟩⟩⟩

theorem sameStore_c (f : Int) (l : List Bt) (hl : l.length ≤ 2000000) : SRet Try.prog 9 [.agg 2 (stF f l), .agg 2 (stF f l)] (· = .b true) := ⟨fun R => by
  refine SCalls.enter tt_ok Try.func9 (by kernel_rfl) rfl [(900, .cust R)] rfl (argF _) (fun w F v k h => h) (by simp) ?_
  repeat' (first | (with_reducible first | refine HT.seq ?_ | refine HT.block ?_ | refine Br.not ?_) | ((with_reducible first | refine HT.region tt_ok ?_ | refine HT.drawn tt_ok (by kernel_rfl) (by decide +kernel) ?_ | refine HT.drawnL tt_ok (by kernel_rfl) (by decide +kernel) ?_ | refine HT.cond ?_ | refine HT.ret ?_ | refine HT.skip ?_ | refine HT.exit ?_ | refine Br.tt ?_ | refine Br.ff ?_); conv => whnf) | ((with_reducible first | refine Br.dec (fun hc => ?_) (fun hc => ?_) | refine Br.eq (fun hc => ?_) (fun hc => ?_) | refine Br.ne (fun hc => ?_) (fun hc => ?_)) <;> (first | (exfalso; omega) | conv => whnf)) | ((with_reducible first | refine Br.ttE (by decide) ?_ | refine Br.ffE (by decide) ?_ | refine Br.mk (fun hc => ?_) (fun hc => ?_) | refine Chk.mk (by first | omega | with_reducible rfl | (refine ⟨rfl, ?_⟩; omega) | decide | exact ⟨rfl, by omega, by omega, rfl⟩ | exact ⟨by assumption, rfl, by omega, by omega⟩) ?_ | refine Ar.fit (by omega) ?_ | refine Eqv.shr1 ?_ | refine Ar.u64 (by omega) ?_) <;> conv => whnf) | (with_reducible exact trivial) | ((with_reducible refine And.intro ?_ ?_) <;> conv => whnf) | (intro gn; conv => whnf))
  refine HT.loopS [2, 3] (fun k : Nat => [(5, .i k)]) (fun k => k ≤ l.length) (fun k => l.length - k) 0 (Nat.zero_le _) ⟨rfl, trivial⟩ ?_
  conv => whnf
  intro k hk
  repeat' (first | (with_reducible first | refine HT.seq ?_ | refine HT.block ?_ | refine Br.not ?_) | ((with_reducible first | refine HT.region tt_ok ?_ | refine HT.drawn tt_ok (by kernel_rfl) (by decide +kernel) ?_ | refine HT.drawnL tt_ok (by kernel_rfl) (by decide +kernel) ?_ | refine HT.cond ?_ | refine HT.ret ?_ | refine HT.skip ?_ | refine HT.exit ?_ | refine Br.tt ?_ | refine Br.ff ?_); conv => whnf) | ((with_reducible first | refine Br.dec (fun hc => ?_) (fun hc => ?_) | refine Br.eq (fun hc => ?_) (fun hc => ?_) | refine Br.ne (fun hc => ?_) (fun hc => ?_)) <;> (first | (exfalso; omega) | conv => whnf)) | ((with_reducible first | refine Br.ttE (by decide) ?_ | refine Br.ffE (by decide) ?_ | refine Br.mk (fun hc => ?_) (fun hc => ?_) | refine Chk.mk (by first | omega | with_reducible rfl | (refine ⟨rfl, ?_⟩; omega) | decide | exact ⟨rfl, by omega, by omega, rfl⟩ | exact ⟨by assumption, rfl, by omega, by omega⟩) ?_ | refine Ar.fit (by omega) ?_ | refine Eqv.shr1 ?_ | refine Ar.u64 (by omega) ?_) <;> conv => whnf) | (with_reducible exact trivial) | ((with_reducible refine And.intro ?_ ?_) <;> conv => whnf) | (intro gn; conv => whnf))
  · exact ⟨⟨k + 1, by omega, by omega, (by repeat' (first | exact trivial | refine ⟨rfl, ?_⟩)), ⟨sv_i (by omega), trivial⟩, HLe.drop [] _⟩⟩
  · simp at hc
  · exact Fin.pure (A := [_, _]) rfl⟩

/-! ### the laws -/
theorem any_ins (l : List Bt) (b : Bt) : ∃ x ∈ insB l b, x = b := by
  induction l with
  | nil => exact ⟨b, by simp [insB], rfl⟩
  | cons y l ih =>
    unfold insB
    split
    · obtain ⟨x, h1, h2⟩ := ih
      exact ⟨x, List.mem_cons_of_mem _ h1, h2⟩
    · exact ⟨b, List.mem_cons_self, rfl⟩
theorem mem_ins {l : List Bt} {b x : Bt} (h : x ∈ insB l b) : x = b ∨ x ∈ l := by
  induction l with
  | nil => simpa [insB] using h
  | cons y l ih =>
    unfold insB at h
    split at h
    · rcases List.mem_cons.1 h with rfl | h
      · exact .inr List.mem_cons_self
      · exact (ih h).imp id (List.mem_cons_of_mem _)
    · rcases List.mem_cons.1 h with rfl | h
      · exact .inl rfl
      · exact .inr h
theorem used_ins (l : List Bt) (b : Bt) (a : Int) : used (insB l b) a = used l a + if b.a == a then b.s else 0 := by
  induction l with
  | nil => simp [insB, used]
  | cons y l ih =>
    unfold insB
    split
    · rw [used_cons, ih, used_cons]; omega
    · rw [used_cons]; omega
theorem len_ins (l : List Bt) (b : Bt) : (insB l b).length = l.length + 1 := by
  induction l with
  | nil => rfl
  | cons x l ih => simp only [insB]; split <;> simp [ih]
/-- ascending, from above d on -/
def ascFrom (d : Int) : List Bt → Prop
  | [] => True
  | x :: l => d < x.d ∧ ascFrom x.d l
theorem asc_cons {x : Bt} {l : List Bt} : btAsc (x :: l) ↔ ascFrom x.d l := by
  induction l generalizing x with
  | nil => simp [ascFrom, btAsc]
  | cons y l ih =>
    constructor
    · intro h
      refine ⟨h 0 x y rfl rfl, ih.1 fun i b c h1 h2 => h (i + 1) b c (by simpa using h1) (by simpa using h2)⟩
    · rintro ⟨h1, h2⟩ i b c hb hc
      cases i with
      | zero => simp at hb hc; subst hb; subst hc; exact h1
      | succ i => exact (ih.2 h2) i b c (by simpa using hb) (by simpa using hc)
theorem asc_ins {b : Bt} : ∀ {l : List Bt} {d : Int}, ascFrom d l → d < b.d → (∀ x ∈ l, x.d ≠ b.d) → ascFrom d (insB l b)
  | [], d, _, h, _ => ⟨h, trivial⟩
  | x :: l, d, ⟨h1, h2⟩, h, hne => by
    unfold insB
    have := hne x List.mem_cons_self
    split
    · exact ⟨h1, asc_ins h2 (by omega) fun y hy => hne y (List.mem_cons_of_mem _ hy)⟩
    · exact ⟨h, by omega, h2⟩
theorem btAsc_ins {l : List Bt} {b : Bt} (h : btAsc l) (hne : ∀ x ∈ l, x.d ≠ b.d) : btAsc (insB l b) := by
  cases l with
  | nil => intro i b' c hb hc; simp [insB] at hc
  | cons x l =>
    have := hne x List.mem_cons_self
    have h' := asc_cons.1 h
    unfold insB
    split
    · exact asc_cons.2 (asc_ins h' (by omega) fun y hy => hne y (List.mem_cons_of_mem _ hy))
    · exact asc_cons.2 ⟨by omega, h'⟩
/-- what a code tells -/
theorem code_cases (f : Int) (l : List Bt) (b : Bt) :
    (putCode f l b = 4 ∧ ¬ (stOk f l = true ∧ btOk b = true)) ∨ ((stOk f l = true ∧ btOk b = true) ∧
      ((putCode f l b = 1 ∧ (∃ x ∈ l, x.d = b.d)) ∨ ((∀ x ∈ l, x.d ≠ b.d) ∧ ((putCode f l b = 2 ∧ b.r < f) ∨ (f ≤ b.r ∧ ((putCode f l b = 3 ∧ (l.length = 12 ∨ 30 < used l b.a + b.s)) ∨ (putCode f l b = 0 ∧ l.length < 12 ∧ used l b.a + b.s ≤ 30))))))) := by
  by_cases h : stOk f l = true ∧ btOk b = true
  · refine .inr ⟨h, ?_⟩
    have h12 := ((stOk_iff f l).1 h.1).2.1
    unfold putCode
    rw [h.1, h.2]
    by_cases hk : l.any (fun x => x.d == b.d) = true
    · rw [hk]
      obtain ⟨x, hx, e⟩ := List.any_eq_true.1 hk
      exact .inl ⟨rfl, x, hx, by simpa using e⟩
    · have hno : ∀ x ∈ l, x.d ≠ b.d := fun x hx e => hk (List.any_eq_true.2 ⟨x, hx, by simpa using e⟩)
      have hk : l.any (fun x => x.d == b.d) = false := by simpa using hk
      rw [hk]
      refine .inr ⟨hno, ?_⟩
      by_cases hr : b.r < f
      · exact .inl ⟨by simp [hr], hr⟩
      · refine .inr ⟨by omega, ?_⟩
        by_cases hq : 12 ≤ l.length ∨ 30 < used l b.a + b.s
        · exact .inl ⟨by simp [hr, hq], by omega⟩
        · exact .inr ⟨by simp [hr, hq], by omega, by omega⟩
  · refine .inl ⟨?_, h⟩
    unfold putCode
    rw [if_pos]
    cases h1 : stOk f l <;> cases h2 : btOk b <;> simp_all
/-- a store with a further batch is valid -/
theorem stOk_ins {f : Int} {l : List Bt} {b : Bt} (h : stOk f l = true) (hb : btOk b = true) (hno : ∀ x ∈ l, x.d ≠ b.d) (hr : f ≤ b.r) (h12 : l.length < 12) (hu : used l b.a + b.s ≤ 30) : stOk f (insB l b) = true := by
  obtain ⟨h1, h2, h3, h4⟩ := (stOk_iff f l).1 h
  refine (stOk_iff f _).2 ⟨h1, by rw [len_ins]; omega, fun x hx => ?_, btAsc_ins h4 hno⟩
  rw [used_ins]
  rcases mem_ins hx with rfl | hx
  · exact ⟨hb, hr, by simpa using hu⟩
  · obtain ⟨q1, q2, q3⟩ := h3 x hx
    refine ⟨q1, q2, ?_⟩
    by_cases e : b.a = x.a
    · rw [← e]; simpa using hu
    · rw [if_neg (by simpa using e)]; omega
end Go.Proofs.Ytjkeapkpdgfhcaa
