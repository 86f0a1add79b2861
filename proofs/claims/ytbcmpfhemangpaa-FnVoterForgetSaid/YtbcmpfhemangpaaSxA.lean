/- Symbolic values, symbolic heaps, and what they say of a world. -/
import Derived.StillTail
import Derived.WalkKit
import Derived.Laws.AppendOwn
import Derived.Test.YtbcmpfhemangpaaDw
set_option linter.all false
namespace Go.Proofs.Ytbcmpfhemangpaa

/-- what is known of a value: nothing; all; a struct; several results; a slice that reads; a pointer to cells that stand still (with its place, without); a pointer into a block of the heap's (its key); a slice that owns its row (its key); a pointer into an owned row; a slice that looks into an owned row (its key, block, elements' size, first element, length, capacity) -/
inductive SV where
  | any
  | val (v : Value)
  | agg (n : Nat) (f : Nat → SV)
  | tup (n : Nat) (f : Nat → SV)
  | sl (sz n : Nat) (f : Nat → Nat → SV)
  | ref (b off n : Nat) (f : Nat → SV)
  | pp (n : Nat) (f : Nat → SV)
  | ptr (k g off : Nat)
  | own (k : Nat) (v : Value)
  | rp (k g sz i o : Nat)
  | vw (k g sz i n c : Nat)
  | ifc (t : TypeId) (s : SV)
  | fn (f : FuncId) (n : Nat) (g : Nat → SV)

instance : Inhabited SV := ⟨.any⟩
abbrev SV.i (z : Int) : SV := .val (.int .i64 z)
abbrev SV.b (b : Bool) : SV := .val (.bool b)

/-- the value is as told, by memory that stands still (F) -/
def Has (w : World) (F : Nat → Prop) : SV → Value → Prop
  | .any, _ => True
  | .val v, x => x = v
  | .agg n f, x => ∃ vs : Array Value, x = .agg vs ∧ vs.size = n ∧ ∀ k, k < n → Has w F (f k) (vs.getD k undef)
  | .tup n f, x => ∃ vs : Array Value, x = .tuple vs ∧ vs.size = n ∧ ∀ k, k < n → Has w F (f k) (vs.getD k undef)
  | .sl sz n f, x => ∃ A c, x = .slice A n c ∧ n ≤ c ∧ c ≤ maxLen ∧ (0 < n → ∃ b off, A = some ⟨b, off, none⟩ ∧ F b ∧ ∀ i k, i < n → k < sz → ∃ u, w.cell? ⟨b, off + (i * sz + k), none⟩ = some u ∧ u.oneCell' = true ∧ Has w F (f i k) u)
  | .ref b off n f, x => x = .pointer (some ⟨b, off, none⟩) ∧ F b ∧ (∃ cs t, w.heap[b]? = some (.cells cs t (0, 0))) ∧ ∀ k, k < n → ∃ u, w.cell? ⟨b, off + k, none⟩ = some u ∧ u.oneCell' = true ∧ Has w F (f k) u
  | .pp n f, x => ∃ b off, x = .pointer (some ⟨b, off, none⟩) ∧ F b ∧ ∀ k, k < n → ∃ u, w.cell? ⟨b, off + k, none⟩ = some u ∧ u.oneCell' = true ∧ Has w F (f k) u
  | .ptr _ g off, x => x = .pointer (some ⟨g, off, none⟩)
  | .own _ v, x => x = v
  | .rp _ g sz i o, x => x = .pointer (some ⟨g, i * sz + o, none⟩)
  | .vw _ g sz i n c, x => n ≤ c ∧ c ≤ maxLen ∧ ∃ A, x = .slice A n c ∧ (0 < c → A = some ⟨g, i * sz, none⟩)
  | .ifc t s, x => ∃ v, x = .iface t v ∧ Has w F s v
  | .fn f n g, x => ∃ vs : Array Value, x = .func (.func f) #[] vs ∧ vs.size = n ∧ ∀ k, k < n → Has w F (g k) (vs.getD k undef)

section
variable {w w' w'' : World} {F F' : Nat → Prop} {s : SV} {v : Value}

theorem Has.mono (hF : ∀ b, F b → F' b) : ∀ {s : SV} {v : Value}, Has w F s v → Has w F' s v
  | .any, _, h => h
  | .val _, _, h => h
  | .agg _ _, _, ⟨vs, e, hn, h⟩ => ⟨vs, e, hn, fun k hk => Has.mono hF (h k hk)⟩
  | .tup _ _, _, ⟨vs, e, hn, h⟩ => ⟨vs, e, hn, fun k hk => Has.mono hF (h k hk)⟩
  | .sl _ _ _, _, ⟨A, c, e, h1, h2, h⟩ => ⟨A, c, e, h1, h2, fun hp => by
      obtain ⟨b, off, eA, hb, h⟩ := h hp
      exact ⟨b, off, eA, hF b hb, fun i k hi hk => by
        obtain ⟨u, hu, h1, h⟩ := h i k hi hk
        exact ⟨u, hu, h1, Has.mono hF h⟩⟩⟩
  | .ref _ _ _ _, _, ⟨e, hb, hz, h⟩ => ⟨e, hF _ hb, hz, fun k hk => by
      obtain ⟨u, hu, h1, h⟩ := h k hk
      exact ⟨u, hu, h1, Has.mono hF h⟩⟩
  | .pp _ _, _, ⟨b, off, e, hb, h⟩ => ⟨b, off, e, hF _ hb, fun k hk => by
      obtain ⟨u, hu, h1, h⟩ := h k hk
      exact ⟨u, hu, h1, Has.mono hF h⟩⟩
  | .ptr _ _ _, _, h => h
  | .own _ _, _, h => h
  | .rp _ _ _ _ _, _, h => h
  | .vw _ _ _ _ _ _, _, h => h
  | .ifc _ _, _, ⟨v, e, h⟩ => ⟨v, e, Has.mono hF h⟩
  | .fn _ _ _, _, ⟨vs, e, hn, h⟩ => ⟨vs, e, hn, fun k hk => Has.mono hF (h k hk)⟩

theorem Has.keep (hF : ∀ b, F b → w'.heap[b]? = w.heap[b]?) : ∀ {s : SV} {v : Value}, Has w F s v → Has w' F s v
  | .any, _, h => h
  | .val _, _, h => h
  | .agg _ _, _, ⟨vs, e, hn, h⟩ => ⟨vs, e, hn, fun k hk => Has.keep hF (h k hk)⟩
  | .tup _ _, _, ⟨vs, e, hn, h⟩ => ⟨vs, e, hn, fun k hk => Has.keep hF (h k hk)⟩
  | .sl _ _ _, _, ⟨A, c, e, h1, h2, h⟩ => ⟨A, c, e, h1, h2, fun hp => by
      obtain ⟨b, off, eA, hb, h⟩ := h hp
      exact ⟨b, off, eA, hb, fun i k hi hk => by
        obtain ⟨u, hu, h1, h⟩ := h i k hi hk
        exact ⟨u, (World.cell?_of_block (w := w) (hF b hb)).trans hu, h1, Has.keep hF h⟩⟩⟩
  | .ref b _ _ _, _, ⟨e, hb, hz, h⟩ => ⟨e, hb, (by rw [hF b hb]; exact hz), fun k hk => by
      obtain ⟨u, hu, h1, h⟩ := h k hk
      exact ⟨u, (World.cell?_of_block (w := w) (hF b hb)).trans hu, h1, Has.keep hF h⟩⟩
  | .pp _ _, _, ⟨b, off, e, hb, h⟩ => ⟨b, off, e, hb, fun k hk => by
      obtain ⟨u, hu, h1, h⟩ := h k hk
      exact ⟨u, (World.cell?_of_block (w := w) (hF b hb)).trans hu, h1, Has.keep hF h⟩⟩
  | .ptr _ _ _, _, h => h
  | .own _ _, _, h => h
  | .rp _ _ _ _ _, _, h => h
  | .vw _ _ _ _ _ _, _, h => h
  | .ifc _ _, _, ⟨v, e, h⟩ => ⟨v, e, Has.keep hF h⟩
  | .fn _ _ _, _, ⟨vs, e, hn, h⟩ => ⟨vs, e, hn, fun k hk => Has.keep hF (h k hk)⟩

/-- the world went on: what stands still stood still -/
structure Keep (F : Nat → Prop) (w w' : World) : Prop where
  os : w'.os = w.os
  tape : w'.tape = w.tape
  output : w'.output = w.output
  size : w.heap.size ≤ w'.heap.size
  blk : ∀ b, F b → w'.heap[b]? = w.heap[b]?
  drawn : w.drawn ≤ w'.drawn

theorem Keep.refl (F : Nat → Prop) (w : World) : Keep F w w := ⟨rfl, rfl, rfl, Nat.le_refl _, fun _ _ => rfl, Nat.le_refl _⟩
theorem Keep.trans (h : Keep F w w') (k : Keep F' w' w'') (hF : ∀ b, F b → F' b) : Keep F w w'' :=
  ⟨k.os.trans h.os, k.tape.trans h.tape, k.output.trans h.output, Nat.le_trans h.size k.size, fun b hb => (k.blk b (hF b hb)).trans (h.blk b hb), Nat.le_trans h.drawn k.drawn⟩
theorem Keep.mono (h : Keep F' w w') (hF : ∀ b, F b → F' b) : Keep F w w' := ⟨h.os, h.tape, h.output, h.size, fun b hb => h.blk b (hF b hb), h.drawn⟩
theorem Keep.has (h : Keep F w w') (hs : Has w F s v) : Has w' F s v := Has.keep h.blk hs
theorem Keep.drew (h : Keep F w w') : Keep F w w'.drew := ⟨h.os, h.tape, h.output, h.size, h.blk, Nat.le_succ_of_le h.drawn⟩
theorem Keep.alloc (hF : ∀ b, F b → b < w.heap.size) (o : Obj) : Keep F w (w.alloc o) :=
  ⟨rfl, rfl, rfl, by simp, fun b hb => RowKit.Below.heap_alloc w o b (hF b hb), Nat.le_refl _⟩
end

/-- a piece of memory of one's own kind -/
structure Heaplet where
  fp : Nat → Prop
  holds : World → (Nat → Prop) → Prop
  mono : ∀ {w : World} {F F' : Nat → Prop}, (∀ b, F b → F' b) → holds w F → holds w F'
  stable : ∀ {w w' : World} {F : Nat → Prop}, (∀ b, fp b ∨ F b → w'.heap[b]? = w.heap[b]?) → holds w F → holds w' F

/-- a piece of memory that is owned: none; a block known whole; a row that a slice owns -/
inductive Hp where
  | emp
  | box (g : Nat) (t : TypeId) (n : Nat) (f : Nat → SV)
  | row (v : Value) (e : TypeId) (sz n : Nat) (f : Nat → Nat → SV)
  | cust (h : Heaplet)

def Hp.fp : Hp → Nat → Prop
  | .emp, _ => False
  | .box g _ _ _, b => b = g
  | .row v _ _ _ _, b => v.ownBlock = some b
  | .cust h, b => h.fp b
def Hp.holds (w : World) (F : Nat → Prop) : Hp → Prop
  | .emp => True
  | .box g t n f => ∃ cs, w.heap[g]? = some (.cells cs t (0, 0)) ∧ cs.size = n ∧ ∀ k, k < n → (cs.getD k undef).oneCell' = true ∧ Has w F (f k) (cs.getD k undef)
  | .row v e sz n f => ∃ xs, w.ownsRow 0 e sz v n xs ∧ ∀ i k, i < n → k < sz → (xs.getD (i * sz + k) undef).oneCell' = true ∧ Has w F (f i k) (xs.getD (i * sz + k) undef)
  | .cust h => h.holds w F

theorem ownsRow_block {w w' : World} {base : Nat} {e : TypeId} {size : Nat} {v : Value} {n : Nat} {xs : List Value} (h : w.ownsRow base e size v n xs) (hk : ∀ b, v.ownBlock = some b → w'.heap[b]? = w.heap[b]?) : w'.ownsRow base e size v n xs := by
  refine ⟨h.1, ?_⟩
  rcases h.2 with h | ⟨g, cap, cur, hv, hg, hh, h⟩
  · exact .inl h
  · exact .inr ⟨g, cap, cur, hv, hg, (hk g (by rw [hv]; rfl)).trans hh, h⟩

theorem Hp.mono {w : World} {F F' : Nat → Prop} (hF : ∀ b, F b → F' b) : ∀ {h : Hp}, h.holds w F → h.holds w F'
  | .emp, h => h
  | .box _ _ _ _, ⟨cs, e, hn, h⟩ => ⟨cs, e, hn, fun k hk => ⟨(h k hk).1, (h k hk).2.mono hF⟩⟩
  | .row _ _ _ _ _, ⟨xs, e, h⟩ => ⟨xs, e, fun i k hi hk => ⟨(h i k hi hk).1, (h i k hi hk).2.mono hF⟩⟩
  | .cust x, h => x.mono hF h
theorem Hp.stable {w w' : World} {F : Nat → Prop} : ∀ {h : Hp}, (∀ b, h.fp b ∨ F b → w'.heap[b]? = w.heap[b]?) → h.holds w F → h.holds w' F
  | .emp, _, h => h
  | .box g _ _ _, hF, ⟨cs, e, hn, h⟩ => ⟨cs, (hF g (.inl rfl)).trans e, hn, fun k hk => ⟨(h k hk).1, (h k hk).2.keep fun b hb => hF b (.inr hb)⟩⟩
  | .row _ _ _ _ _, hF, ⟨xs, e, h⟩ => ⟨xs, ownsRow_block e fun b hb => hF b (.inl hb), fun i k hi hk => ⟨(h i k hi hk).1, (h i k hi hk).2.keep fun b hb => hF b (.inr hb)⟩⟩
  | .cust x, hF, h => x.stable hF h

/-- the heap is these pieces, apart from each other and from what stands still -/
structure HSat (w : World) (F : Nat → Prop) (l : List Hp) : Prop where
  holds : ∀ h ∈ l, h.holds w F
  fp : ∀ h ∈ l, ∀ b, h.fp b → b < w.heap.size ∧ ¬ F b
  apart : l.Pairwise fun h h' => ∀ b, h.fp b → ¬ h'.fp b
  lt : ∀ b, F b → b < w.heap.size

section
variable {w w' : World} {F F' : Nat → Prop} {l l' : List Hp} {h h' : Hp}

theorem HSat.perm (hs : HSat w F l) (hp : l.Perm l') : HSat w F l' :=
  ⟨fun h hh => hs.holds h (hp.mem_iff.2 hh), fun h hh => hs.fp h (hp.mem_iff.2 hh), (hp.pairwise_iff (fun h1 b h2 h3 => h1 b h3 h2)).1 hs.apart, hs.lt⟩

/-- nothing that was there has turned -/
theorem HSat.same (hs : HSat w F l) (hz : w.heap.size ≤ w'.heap.size) (hk : ∀ b, b < w.heap.size → w'.heap[b]? = w.heap[b]?) : HSat w' F l :=
  ⟨fun h hh => Hp.stable (fun b hb => hk b (hb.elim (fun hb => (hs.fp h hh b hb).1) (hs.lt b))) (hs.holds h hh), fun h hh b hb => ⟨Nat.lt_of_lt_of_le (hs.fp h hh b hb).1 hz, (hs.fp h hh b hb).2⟩, hs.apart, fun b hb => Nat.lt_of_lt_of_le (hs.lt b hb) hz⟩
theorem HSat.drew (hs : HSat w F l) : HSat w.drew F l := hs.same (Nat.le_refl _) fun _ _ => rfl

/-- the first piece has turned into another one, within its own blocks and new ones -/
theorem HSat.turn (hs : HSat w F (h :: l)) (hz : w.heap.size ≤ w'.heap.size) (hk : ∀ b, b < w.heap.size → ¬ h.fp b → w'.heap[b]? = w.heap[b]?)
    (hh : h'.holds w' F) (hf : ∀ b, h'.fp b → b < w'.heap.size ∧ (h.fp b ∨ w.heap.size ≤ b)) : HSat w' F (h' :: l) := by
  have hap := List.pairwise_cons.1 hs.apart
  refine ⟨fun x hx => ?_, fun x hx b hb => ?_, List.pairwise_cons.2 ⟨fun x hx b hb hbx => ?_, hap.2⟩, fun b hb => Nat.lt_of_lt_of_le (hs.lt b hb) hz⟩
  · rcases List.mem_cons.1 hx with rfl | hx
    · exact hh
    · refine Hp.stable (fun b hb => ?_) (hs.holds x (List.mem_cons_of_mem _ hx))
      rcases hb with hb | hb
      · exact hk b (hs.fp x (List.mem_cons_of_mem _ hx) b hb).1 fun h1 => hap.1 x hx b h1 hb
      · exact hk b (hs.lt b hb) fun h1 => (hs.fp h (by simp) b h1).2 hb
  · rcases List.mem_cons.1 hx with rfl | hx
    · refine ⟨(hf b hb).1, fun hF => ?_⟩
      rcases (hf b hb).2 with h1 | h1
      · exact (hs.fp h (by simp) b h1).2 hF
      · have := hs.lt b hF; omega
    · have := hs.fp x (List.mem_cons_of_mem _ hx) b hb
      exact ⟨by omega, this.2⟩
  · rcases (hf b hb).2 with h1 | h1
    · exact hap.1 x hx b h1 hbx
    · have := (hs.fp x (List.mem_cons_of_mem _ hx) b hbx).1
      omega
/-- a new piece, of new blocks -/
theorem HSat.cons (hs : HSat w F l) (hz : w.heap.size ≤ w'.heap.size) (hk : ∀ b, b < w.heap.size → w'.heap[b]? = w.heap[b]?)
    (hh : h'.holds w' F) (hf : ∀ b, h'.fp b → b < w'.heap.size ∧ w.heap.size ≤ b) : HSat w' F (h' :: l) := by
  have : HSat w F (.emp :: l) := ⟨fun x hx => by
      rcases List.mem_cons.1 hx with rfl | hx
      · trivial
      · exact hs.holds x hx, fun x hx b hb => by
      rcases List.mem_cons.1 hx with rfl | hx
      · exact hb.elim
      · exact hs.fp x hx b hb, List.pairwise_cons.2 ⟨fun _ _ _ hb => hb.elim, hs.apart⟩, hs.lt⟩
  exact this.turn hz (fun b hb _ => hk b hb) hh fun b hb => ⟨(hf b hb).1, .inr (hf b hb).2⟩
theorem HSat.tail (hs : HSat w F (h :: l)) : HSat w F l :=
  ⟨fun x hx => hs.holds x (List.mem_cons_of_mem _ hx), fun x hx => hs.fp x (List.mem_cons_of_mem _ hx), (List.pairwise_cons.1 hs.apart).2, hs.lt⟩
theorem HSat.drop1 (hs : HSat w F (h :: l)) : HSat w F (.emp :: l) := hs.turn (Nat.le_refl _) (fun _ _ _ => rfl) trivial fun _ hb => hb.elim
end

/-- the heap, its pieces under their keys -/
abbrev Hpl := List (Nat × Hp)
def lk (k : Nat) : Hpl → Hp
  | [] => .emp
  | (j, h) :: l => bif Nat.beq j k then h else lk k l
def setK (k : Nat) (h' : Hp) : Hpl → Hpl
  | [] => []
  | (j, h) :: l => bif Nat.beq j k then (j, h') :: l else (j, h) :: setK k h' l
/-- all pieces but the one under this key -/
def offK (k : Nat) : Hpl → List Hp
  | [] => []
  | (j, h) :: l => bif Nat.beq j k then l.map Prod.snd else h :: offK k l
def hasK (k : Nat) : Hpl → Bool
  | [] => false
  | (j, _) :: l => bif Nat.beq j k then true else hasK k l

theorem lk_perm {k : Nat} : ∀ {L : Hpl}, hasK k L = true → (L.map Prod.snd).Perm (lk k L :: offK k L)
  | [], h => by cases h
  | (j, x) :: l, h => by
    simp only [hasK] at h
    simp only [lk, offK, List.map_cons]
    cases e : Nat.beq j k <;> simp only [e, cond_true, cond_false] at h ⊢
    · exact ((lk_perm h).cons x).trans (List.Perm.swap _ _ _)
    · exact List.Perm.refl _
theorem setK_perm {k : Nat} {h' : Hp} : ∀ {L : Hpl}, hasK k L = true → ((setK k h' L).map Prod.snd).Perm (h' :: offK k L)
  | [], h => by cases h
  | (j, x) :: l, h => by
    simp only [hasK] at h
    simp only [setK, offK]
    cases e : Nat.beq j k <;> simp only [e, cond_true, cond_false, List.map_cons] at h ⊢
    · exact ((setK_perm h).cons x).trans (List.Perm.swap _ _ _)
    · exact List.Perm.refl _
theorem lk_emp {k : Nat} : ∀ {L : Hpl}, hasK k L = false → lk k L = .emp
  | [], _ => rfl
  | (j, x) :: l, h => by
    simp only [hasK] at h
    simp only [lk]
    cases e : Nat.beq j k <;> simp only [e, cond_true, cond_false] at h ⊢
    · exact lk_emp h
    · cases h
theorem hasK_of {k : Nat} {L : Hpl} (h : lk k L ≠ .emp) : hasK k L = true := by
  cases e : hasK k L
  · exact absurd (lk_emp e) h
  · rfl

theorem HSat.lk {w : World} {F : Nat → Prop} {L : Hpl} (hs : HSat w F (L.map Prod.snd)) {k : Nat} {h : Hp} (hk : lk k L = h) (hne : h ≠ .emp) : HSat w F (h :: offK k L) := by
  subst hk
  exact hs.perm (lk_perm (hasK_of hne))
theorem HSat.setK {w' : World} {F' : Nat → Prop} {L : Hpl} {k : Nat} {h h' : Hp} (hk : Proofs.Ytbcmpfhemangpaa.lk k L = h) (hne : h ≠ .emp) (hs : HSat w' F' (h' :: offK k L)) : HSat w' F' ((Proofs.Ytbcmpfhemangpaa.setK k h' L).map Prod.snd) := by
  subst hk
  exact hs.perm (setK_perm (hasK_of hne)).symm
end Go.Proofs.Ytbcmpfhemangpaa
