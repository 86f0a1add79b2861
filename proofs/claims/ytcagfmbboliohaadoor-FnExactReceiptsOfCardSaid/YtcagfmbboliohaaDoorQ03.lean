/- Texts of this proof put together: SxC, SxC2, SxD. -/
import Derived.Test.YtcagfmbboliohaaDoorQ01
import Derived.Test.YtcagfmbboliohaaDoorQ02
/-! YtcagfmbboliohaaDoorSxC -/
set_option linter.all false


namespace Go.Proofs.YtcagfmbboliohaaDoor

abbrev Fr := Nat → SV
abbrev KK := SV → Hpl → Nat → Prop

/-- a side condition, then what follows -/
structure Chk (A B : Prop) : Prop where
  a : A
  b : B
/-- a sum, wrapped; the tactic says what it is -/
structure Ar (k : IntKind) (z : Int) (K : Int → Prop) : Prop where
  h : ∃ z', k.wrap z = z' ∧ K z'

/-- a test -/
structure Br (β : Bool) (X Y : Prop) : Prop where
  t : β = true → X
  f : β = false → Y

def sv (σ : Fr) : Operand → SV
  | .tmp k => σ k
  | .const v => .val v
  | .global g => .ptr (800 + g) g 0
  | .func f => .val (.func (.func f) #[] #[])

/-- a value of one cell -/
def SV.one : SV → Bool
  | .val v => v.oneCell'
  | .own _ v => v.oneCell'
  | .sl _ _ _ | .ref _ _ _ _ | .pp _ _ | .ptr _ _ _ | .rp _ _ _ _ _ | .vw _ _ _ _ _ _ | .ifc _ _ | .fn _ _ _ => true
  | _ => false
def allOne : Nat → (Nat → SV) → Bool
  | 0, _ => true
  | n + 1, f => bif (f n).one then allOne n f else false
/-- its cells -/
def SV.cells : SV → Nat × (Nat → SV)
  | .agg n f => (n, f)
  | s => (1, fun _ => s)

/-- cells o .. o+m-1 become fv's -/
def putF (o m : Nat) (fv f : Nat → SV) : Nat → SV := fun k => bif Nat.ble o k && Nat.ble (k + 1) (o + m) then fv (k - o) else f k
def putR (i o m : Nat) (fv : Nat → SV) (f : Nat → Nat → SV) : Nat → Nat → SV := fun j k => bif Nat.beq j i then putF o m fv (f j) k else f j k
def zF (zs : List Value) : Nat → SV := fun k => .val (zs.getD k undef)
def catF (n : Nat) (f g : Nat → Nat → SV) : Nat → Nat → SV := fun i k => if i < n then f i k else g (i - n) k

/-- the cells of a list of elements -/
def rowF {α : Type} [Inhabited α] (enc : α → Nat → SV) (l : List α) : Nat → Nat → SV := fun i => enc (l.getD i default)
def intF (z : Int) : Nat → SV := fun _ => .val (.int .i64 z)
/-- cells one by one -/
def litF (l : List SV) : Nat → SV := fun k => l.getD k .any
def tabF (f : Nat → SV) : Nat → Nat → List SV
  | 0, _ => []
  | n + 1, i => f i :: tabF f n (i + 1)
theorem tabF_get {f : Nat → SV} : ∀ (n i k : Nat), k < n → (tabF f n i).getD k .any = f (i + k)
  | 0, _, _, h => absurd h (by omega)
  | n + 1, i, 0, _ => rfl
  | n + 1, i, k + 1, h => by
    have := tabF_get (f := f) n (i + 1) k (by omega)
    rw [show i + (k + 1) = i + 1 + k by omega, ← this]
    rfl
/-- a value without keys, its cells one by one -/
def SV.bare : SV → SV
  | .ptr _ g o => .val (.pointer (some ⟨g, o, none⟩))
  | .own _ v => .val v
  | .rp _ g sz i o => .val (.pointer (some ⟨g, i * sz + o, none⟩))
  | .agg n f => .agg n (litF (tabF (fun k => (f k).bare) n 0))
  | .ifc t s => .ifc t s.bare
  | .fn f n g => .fn f n (litF (tabF (fun k => (g k).bare) n 0))
  | s => s
/-- its cells one by one -/
def SV.norm : SV → SV
  | .agg n f => .agg n (litF (tabF (fun k => (f k).norm) n 0))
  | .tup n f => .tup n (litF (tabF (fun k => (f k).norm) n 0))
  | .ifc t s => .ifc t s.norm
  | .fn f n g => .fn f n (litF (tabF (fun k => (g k).norm) n 0))
  | s => s
/-- the keys raised by nx -/
def SV.lift (nx : Nat) : SV → SV
  | .ptr k g o => .ptr (nx + k) g o
  | .own k v => .own (nx + k) v
  | .rp k g sz i o => .rp (nx + k) g sz i o
  | .vw k g sz i n c => .vw (nx + k) g sz i n c
  | .agg n f => .agg n fun k => (f k).lift nx
  | .tup n f => .tup n fun k => (f k).lift nx
  | .ifc t s => .ifc t (s.lift nx)
  | .fn f n g => .fn f n fun k => (g k).lift nx
  | s => s
theorem Has.bare {w : World} {F : Nat → Prop} : ∀ {s : SV} {v : Value}, Has w F s v → Has w F s.bare v
  | .any, _, h => h
  | .val _, _, h => h
  | .agg n f, _, ⟨vs, e, hn, h⟩ => ⟨vs, e, hn, fun k hk => by
      have := tabF_get (f := fun k => (f k).bare) n 0 k hk
      rw [Nat.zero_add] at this
      show Has w F ((tabF (fun k => (f k).bare) n 0).getD k .any) _
      rw [this]
      exact Has.bare (h k hk)⟩
  | .tup _ _, _, h => h
  | .sl _ _ _, _, h => h
  | .ref _ _ _ _, _, h => h
  | .pp _ _, _, h => h
  | .ptr _ _ _, _, h => h
  | .own _ _, _, h => h
  | .rp _ _ _ _ _, _, h => h
  | .vw _ _ _ _ _ _, _, h => h
  | .ifc _ _, _, ⟨v, e, h⟩ => ⟨v, e, Has.bare h⟩
  | .fn f n g, _, ⟨vs, e, hn, h⟩ => ⟨vs, e, hn, fun k hk => by
      have := tabF_get (f := fun k => (g k).bare) n 0 k hk
      rw [Nat.zero_add] at this
      show Has w F ((tabF (fun k => (g k).bare) n 0).getD k .any) _
      rw [this]
      exact Has.bare (h k hk)⟩
theorem Has.norm {w : World} {F : Nat → Prop} : ∀ {s : SV} {v : Value}, Has w F s v → Has w F s.norm v
  | .any, _, h => h
  | .val _, _, h => h
  | .agg n f, _, ⟨vs, e, hn, h⟩ => ⟨vs, e, hn, fun k hk => by
      have := tabF_get (f := fun k => (f k).norm) n 0 k hk
      rw [Nat.zero_add] at this
      show Has w F ((tabF (fun k => (f k).norm) n 0).getD k .any) _
      rw [this]
      exact Has.norm (h k hk)⟩
  | .tup n f, _, ⟨vs, e, hn, h⟩ => ⟨vs, e, hn, fun k hk => by
      have := tabF_get (f := fun k => (f k).norm) n 0 k hk
      rw [Nat.zero_add] at this
      show Has w F ((tabF (fun k => (f k).norm) n 0).getD k .any) _
      rw [this]
      exact Has.norm (h k hk)⟩
  | .sl _ _ _, _, h => h
  | .ref _ _ _ _, _, h => h
  | .pp _ _, _, h => h
  | .ptr _ _ _, _, h => h
  | .own _ _, _, h => h
  | .rp _ _ _ _ _, _, h => h
  | .vw _ _ _ _ _ _, _, h => h
  | .ifc _ _, _, ⟨v, e, h⟩ => ⟨v, e, Has.norm h⟩
  | .fn f n g, _, ⟨vs, e, hn, h⟩ => ⟨vs, e, hn, fun k hk => by
      have := tabF_get (f := fun k => (g k).norm) n 0 k hk
      rw [Nat.zero_add] at this
      show Has w F ((tabF (fun k => (g k).norm) n 0).getD k .any) _
      rw [this]
      exact Has.norm (h k hk)⟩
theorem Has.lift {w : World} {F : Nat → Prop} (nx : Nat) : ∀ {s : SV} {v : Value}, Has w F s v → Has w F (s.lift nx) v
  | .any, _, h => h
  | .val _, _, h => h
  | .agg _ _, _, ⟨vs, e, hn, h⟩ => ⟨vs, e, hn, fun k hk => Has.lift nx (h k hk)⟩
  | .tup _ _, _, ⟨vs, e, hn, h⟩ => ⟨vs, e, hn, fun k hk => Has.lift nx (h k hk)⟩
  | .sl _ _ _, _, h => h
  | .ref _ _ _ _, _, h => h
  | .pp _ _, _, h => h
  | .ptr _ _ _, _, h => h
  | .own _ _, _, h => h
  | .rp _ _ _ _ _, _, h => h
  | .vw _ _ _ _ _ _, _, h => h
  | .ifc _ _, _, ⟨v, e, h⟩ => ⟨v, e, Has.lift nx h⟩
  | .fn _ _ _, _, ⟨vs, e, hn, h⟩ => ⟨vs, e, hn, fun k hk => Has.lift nx (h k hk)⟩

/-! ### Calls -/
def HasL (w : World) (F : Nat → Prop) : List SV → List Value → Prop
  | [], [] => True
  | s :: ss, v :: vs => Has w F s v ∧ HasL w F ss vs
  | _, _ => False
def callable (P : Program) (f : FuncId) : Prop := ∃ fn, P.funcs[f]? = some fn ∧ (fn.name == "runtime.NumGoroutine") = false ∧ fn.body.isNone = false
/-- a call, by the symbolic heap -/
structure SCalls (P : Program) (f : FuncId) (ss : List SV) (H : List Hp) (K : SV → List Hp → Prop) : Prop where
  ok : callable P f
  h : ∀ w F vs, HSat w F H → HasL w F ss vs → Calls P f vs.toArray w fun e w' => ∃ v, e = .returned v ∧ ∃ r F' H', K r H' ∧ Keep F w w' ∧ (∀ b, F b → F' b) ∧ HSat w' F' H' ∧ Has w' F' r v
/-- a function that leaves the heap as it is -/
structure SRet (P : Program) (f : FuncId) (ss : List SV) (Φ : SV → Prop) : Prop where
  h : ∀ R, SCalls P f ss [.cust R] fun r H' => H' = [.cust R] ∧ Φ r
/-- a function that hands back new pieces -/
structure SNew (P : Program) (f : FuncId) (ss : List SV) (Φ : SV → List Hp → Prop) : Prop where
  h : ∀ R, SCalls P f ss [.cust R] fun r H' => ∃ N, H' = N ++ [.cust R] ∧ Φ r N
/-- a function that turns one piece -/
structure SMut (P : Program) (f : FuncId) (ss : List SV) (p : Hp) (Φ : SV → List Hp → Hp → Prop) : Prop where
  h : ∀ R, SCalls P f ss [p, .cust R] fun r H' => ∃ N p', H' = N ++ [p', .cust R] ∧ Φ r N p'
/-- nothing that must stand still -/
def SV.free : SV → Prop
  | .any | .val _ | .ptr _ _ _ | .own _ _ | .rp _ _ _ _ _ | .vw _ _ _ _ _ _ => True
  | .ifc _ s => s.free
  | .fn _ n g => ∀ k, k < n → (g k).free
  | .agg n f => ∀ k, k < n → (f k).free
  | .tup n f => ∀ k, k < n → (f k).free
  | _ => False
def Hp.free : Hp → Prop
  | .emp => True
  | .box _ _ n f => ∀ k, k < n → (f k).free
  | .row _ _ sz n f => ∀ i k, i < n → k < sz → (f i k).free
  | .cust h => ∀ (w : World) (F F' : Nat → Prop), h.holds w F → h.holds w F'
def keyN : Nat → List Hp → Hpl → Hpl
  | _, [], L => L
  | nx, h :: N, L => (nx, h) :: keyN (nx + 1) N L
/-- a call by a contract, in the heap at hand; borrowed: all that is owned stands still while it runs -/
inductive CallN (P : Program) (f : FuncId) (ss : List SV) : Hpl → Nat → KK → Prop where
  | ret {L : Hpl} {nx : Nat} {K : KK} (Φ : SV → Prop) (h : SRet P f ss Φ) (k : ∀ r, Φ r → K (r.lift nx) L (nx + 10)) : CallN P f ss L nx K
  | new {L : Hpl} {nx : Nat} {K : KK} (Φ : SV → List Hp → Prop) (h : SNew P f ss Φ) (k : ∀ r N, Φ r N → K (r.lift nx) (keyN nx N L) (nx + 10)) : CallN P f ss L nx K
  | turn {L : Hpl} {nx : Nat} {K : KK} (i : Nat) (c : Heaplet) (Φ : SV → List Hp → Hp → Prop) (hl : lk i L = .cust c) (h : SMut P f ss (.cust c) Φ) (k : ∀ r N p', Φ r N p' → K (r.lift nx) (keyN nx N (setK i p' L)) (nx + 10)) : CallN P f ss L nx K
  | newB {L : Hpl} {nx : Nat} {K : KK} (ss' : List SV) (Φ : SV → List Hp → Prop) (h : SNew P f ss' Φ) (hb : ∀ w F vs, HSat w F (L.map Prod.snd) → HasL w F ss vs → HasL w (fun b => b < w.heap.size) ss' vs)
      (hf : ∀ r N, Φ r N → r.free ∧ ∀ p ∈ N, p.free) (k : ∀ r N, Φ r N → K (r.lift nx) (keyN nx N L) (nx + 10)) : CallN P f ss L nx K
  | newF {L : Hpl} {nx : Nat} {K : KK} (ss' : List SV) (Φ : SV → List Hp → Prop) (Ψ : SV → Prop) (h : SNew P f ss' Φ) (hb : ∀ w F vs, HSat w F (L.map Prod.snd) → HasL w F ss vs → HasL w (fun b => b < w.heap.size) ss' vs)
      (hf : ∀ r N, Φ r N → r.free ∧ ∀ p ∈ N, p.free) (hz : ∀ r N, Φ r N → ∃ r', Ψ r' ∧ ∀ H w F v, HSat w F (N ++ H) → Has w F r v → ∃ F', (∀ b, F b → F' b) ∧ HSat w F' H ∧ Has w F' r' v) (k : ∀ r, Ψ r → K (r.lift nx) L (nx + 10)) : CallN P f ss L nx K
  | gen {L : Hpl} {nx : Nat} {K : KK} (h : SCalls P f ss (L.map Prod.snd) fun r H => ∃ L', H = L'.map Prod.snd ∧ (∀ k g t n f, k < nx → lk k L = .box g t n f → lk k L' = .box g t n f) ∧ K (r.lift nx) L' (nx + 10)) : CallN P f ss L nx K
  | keep {L : Hpl} {nx : Nat} {K : KK} (i : Nat) (p : Hp) (Φ : SV → Prop) (hl : lk i L = p) (hp : p ≠ .emp) (h : SMut P f ss p fun r N p' => N = [] ∧ p' = p ∧ Φ r) (k : ∀ r, Φ r → K (r.lift nx) L (nx + 10)) : CallN P f ss L nx K
  | le {L : Hpl} {nx : Nat} {K : KK} (L' : Hpl) (hl : ∀ w F, HSat w F (L.map Prod.snd) → HSat w F (L'.map Prod.snd)) (hb : ∀ k g t n f, lk k L = .box g t n f → lk k L' = .box g t n f) (h : CallN P f ss L' nx K) : CallN P f ss L nx K
/-- an operation by a law of its own -/
structure Fgn (P : Program) (o : Oper) (ss : List SV) (L : Hpl) (nx : Nat) (K : KK) : Prop where
  h : ∀ w F (ev : Operand → Value), HSat w F (L.map Prod.snd) → HasL w F ss (o.op.operands.toList.map ev) → StepV P o ev w fun v w' =>
    ∃ r L' nx' F', ((∀ k g t n f, k < nx → lk k L = .box g t n f → lk k L' = .box g t n f) ∧ nx ≤ nx' ∧ K r L' nx') ∧ Keep F w w' ∧ (∀ b, F b → F' b) ∧ HSat w' F' (L'.map Prod.snd) ∧ Has w' F' r v
/-- a map's length is told by the heap -/
def isMapV : SV → Bool
  | .val (.map _) => true
  | _ => false
def isOwnV : SV → Bool
  | .own _ _ => true
  | _ => false
/-- values and lists brought into sight -/
def fc (s : SV) (K : SV → Prop) : Prop :=
  match s with
  | .any => K .any
  | .val v => K (.val v)
  | .agg n f => K (.agg n f)
  | .tup n f => K (.tup n f)
  | .sl sz n f => K (.sl sz n f)
  | .ref b o n f => K (.ref b o n f)
  | .pp n f => K (.pp n f)
  | .ptr k g o => K (.ptr k g o)
  | .own k v => K (.own k v)
  | .rp k g sz i o => K (.rp k g sz i o)
  | .vw k g sz i n c => K (.vw k g sz i n c)
  | .ifc t s => K (.ifc t s)
  | .fn f n g => K (.fn f n g)
theorem fc_eq (s : SV) (K : SV → Prop) : fc s K = K s := by cases s <;> rfl
def fcL : List SV → (List SV → Prop) → Prop
  | [], K => K []
  | s :: l, K => fc s fun s => fcL l fun l => K (s :: l)
theorem fcL_eq : ∀ (l : List SV) (K : List SV → Prop), fcL l K = K l
  | [], _ => rfl
  | s :: l, K => by unfold fcL; rw [fc_eq, fcL_eq l]
def fcH : List Hp → (List Hp → Prop) → Prop
  | [], K => K []
  | h :: l, K => fcH l fun l =>
    match h with
    | .emp => K (.emp :: l)
    | .box g t n f => K (.box g t n f :: l)
    | .row v e sz n f => K (.row v e sz n f :: l)
    | .cust x => K (.cust x :: l)
theorem fcH_eq : ∀ (l : List Hp) (K : List Hp → Prop), fcH l K = K l
  | [], _ => rfl
  | h :: l, K => by unfold fcH; rw [fcH_eq l]; cases h <;> rfl

def fcK : Hpl → (Hpl → Prop) → Prop
  | [], K => K []
  | (k, h) :: l, K => fcK l fun l =>
    match h with
    | .emp => K ((k, .emp) :: l)
    | .box g t n f => K ((k, .box g t n f) :: l)
    | .row v e sz n f => K ((k, .row v e sz n f) :: l)
    | .cust x => K ((k, .cust x) :: l)
theorem fcK_eq : ∀ (l : Hpl) (K : Hpl → Prop), fcK l K = K l
  | [], _ => rfl
  | (k, h) :: l, K => by unfold fcK; rw [fcK_eq l]; cases h <;> rfl

/-! ### One operation -/
def sAlloc (t : TypeId) (i : TI) (L : Hpl) (nx : Nat) (K : KK) : Prop :=
  match i.w with
  | some (_, n) => ∀ g, K (.ptr nx g 0) ((nx, .box g t n (zF i.zc)) :: L) (nx + 1)
  | none => False
def sBoxC (t : TypeId) (m : Nat) (fv : Nat → SV) (L : Hpl) (nx : Nat) (K : KK) : Prop :=
  bif allOne m fv then ∀ g, K (.ptr nx g 0) ((nx, .box g t m fv) :: L) (nx + 1) else False
def sBox (t : TypeId) (x : SV) (L : Hpl) (nx : Nat) (K : KK) : Prop :=
  match x.cells with
  | (m, fv) => sBoxC t m fv L nx K
theorem sBox_eq (t : TypeId) (x : SV) (L : Hpl) (nx : Nat) (K : KK) : sBox t x L nx K = sBoxC t x.cells.1 x.cells.2 L nx K := rfl
/-- what a plain operation gives: nothing; a value; a value under a condition; a sum; one of two -/
inductive PR where
  | no
  | nc (r : SV)
  | ok (c : Prop) (r : SV)
  | ar (c : Prop) (k : IntKind) (z : Int)
  | eq (c : Prop) (k : IntKind) (z : Int)
  | br (β : Bool) (a b : SV)
/-- the remainder, as the tactic says it -/
structure Rm (a b : Int) (K : Int → Prop) : Prop where
  h : ∃ z, a.tmod b = z ∧ K z
/-- a number, as the tactic says it -/
structure Eqv (z : Int) (K : Int → Prop) : Prop where
  h : ∃ z', z = z' ∧ K z'
def PR.run : PR → (SV → Prop) → Prop
  | .no, _ => False
  | .nc r, K => K r
  | .ok c r, K => Chk c (K r)
  | .ar c k z, K => Chk c (Ar k z fun z => K (.val (.int k z)))
  | .eq c k z, K => Chk c (Eqv z fun z => K (.val (.int k z)))
  | .br β a b, K => Br β (K a) (K b)
def pLoad (i : TI) (a : SV) (L : Hpl) : PR :=
  match i.w with
  | none => .no
  | some (ag, m) =>
    match a with
    | .ref _ _ n f => .ok (m ≤ n) (bif ag then .agg m f else f 0)
    | .pp n f => .ok (m ≤ n) (bif ag then .agg m f else f 0)
    | .ptr k g off => match lk k L with
      | .box g' _ n f => .ok (g = g' ∧ off + m ≤ n) (bif ag then .agg m fun j => f (off + j) else f off)
      | _ => .no
    | .rp k g sz i o => match lk k L with
      | .row v _ sz' n f => .ok (v.ownBlock = some g ∧ sz = sz' ∧ i < n ∧ o + m ≤ sz) (bif ag then .agg m fun j => f i (o + j) else f i o)
      | _ => .no
    | _ => .no
def sStoreC (i : TI) (a : SV) (xm : Nat) (xf : Nat → SV) (L : Hpl) (K : Hpl → Prop) : Prop :=
  match i.w with
  | none => False
  | some (_, m) => bif Nat.beq m xm && allOne m xf then
    match a with
    | .ptr k g off => match lk k L with
      | .box g' t n f => Chk (g = g' ∧ off + m ≤ n) (K (setK k (.box g' t n (putF off m xf f)) L))
      | _ => False
    | .rp k g sz i o => match lk k L with
      | .row v e sz' n f => Chk (v.ownBlock = some g ∧ sz = sz' ∧ i < n ∧ o + m ≤ sz) (K (setK k (.row v e sz' n (putR i o m xf f)) L))
      | _ => False
    | _ => False
    else False
def sStore (i : TI) (a x : SV) (L : Hpl) (K : Hpl → Prop) : Prop :=
  match x.cells with
  | (xm, xf) => sStoreC i a xm xf L K
theorem sStore_eq (i : TI) (a x : SV) (L : Hpl) (K : Hpl → Prop) : sStore i a x L K = sStoreC i a x.cells.1 x.cells.2 L K := rfl
def pNil (x : SV) : PR :=
  match x with
  | .ptr _ _ _ | .ref _ _ _ _ | .pp _ _ | .rp _ _ _ _ _ | .val (.pointer (some _)) => .nc x
  | _ => .no
def pField (i : TI) (x : SV) (k : Nat) : PR :=
  match i with
  | .st _ fl _ _ => match fl[k]? with
    | some (fo, _) => match x with
      | .ref b o n f => .ok (fo ≤ n) (.ref b (o + fo) (n - fo) fun j => f (fo + j))
      | .pp n f => .ok (fo ≤ n) (.pp (n - fo) fun j => f (fo + j))
      | .ptr k g o => .nc (.ptr k g (o + fo))
      | .rp k g sz i o => .nc (.rp k g sz i (o + fo))
      | _ => .no
    | none => .no
  | _ => .no
def pIndex (i : TI) (x ix : SV) : PR :=
  match ix with
  | .val (.int _ z) => match i with
    | .slc _ esz _ _ => match x with
      | .sl sz n f => .ok (0 ≤ z ∧ z < n ∧ sz = esz) (.pp esz (f z.toNat))
      | _ => .no
    | .ar len esz _ _ => match x with
      | .ptr k g o => .ok (0 ≤ z ∧ z < len) (.ptr k g (o + z.toNat * esz))
      | .ref b o n f => .ok (0 ≤ z ∧ z < len ∧ z.toNat * esz + esz ≤ n) (.ref b (o + z.toNat * esz) esz fun j => f (z.toNat * esz + j))
      | .pp n f => .ok (0 ≤ z ∧ z < len ∧ z.toNat * esz + esz ≤ n) (.pp esz fun j => f (z.toNat * esz + j))
      | _ => .no
    | _ => .no
  | _ => .no
def sIndex (i : TI) (x ix : SV) (L : Hpl) (K : SV → Prop) : Prop :=
  match x with
  | .own k v => match ix, i with
    | .val (.int _ z), .slc _ esz _ _ => match lk k L with
        | .row v' _ sz n _ => Chk (v = v' ∧ 0 ≤ z ∧ z < n ∧ sz = esz) (∀ g, v.ownBlock = some g → K (.rp k g esz z.toNat 0))
        | _ => False
    | _, _ => False
  | x => (pIndex i x ix).run K
def pLen (i : TI) (x : SV) : PR :=
  match i with
  | .slc _ _ _ _ => match x with
    | .sl _ n _ => .nc (.val (.int .i64 n))
    | .own _ (.slice _ n _) => .nc (.val (.int .i64 n))
    | .val (.slice _ n _) => .nc (.val (.int .i64 n))
    | .vw _ _ _ _ n _ => .nc (.val (.int .i64 n))
    | _ => .no
  | .sc .string _ => match x with
    | .val (.string s) => .nc (.val (.int .i64 s.size))
    | _ => .no
  | _ => .no
def pCap (i : TI) (x : SV) : PR :=
  match i with
  | .slc _ _ _ _ => match x with
    | .own _ (.slice _ _ c) => .nc (.val (.int .i64 c))
    | .val (.slice _ _ c) => .nc (.val (.int .i64 c))
    | .vw _ _ _ _ _ c => .nc (.val (.int .i64 c))
    | _ => .no
  | _ => .no
/-- what an append takes its cells from -/
def sSrc (x : SV) (L : Hpl) (K : Nat → Nat → (Nat → Nat → SV) → Prop) : Prop :=
  match x with
  | .sl sz m g => K sz m g
  | .own k v => match lk k L with
    | .row v' _ sz m g => Chk (v = v') (K sz m g)
    | _ => False
  | .vw k g sz i n _ => match lk k L with
    | .row v' _ sz' N f => Chk (v'.ownBlock = some g ∧ sz = sz' ∧ i + n ≤ N ∧ 0 < n) (K sz n fun j => f (i + j))
    | _ => False
  | _ => False
/-- q elements from element i on are written -/
def blkF (i q : Nat) (g f : Nat → Nat → SV) : Nat → Nat → SV := fun j k => if i ≤ j ∧ j < i + q then g (j - i) k else f j k
def sAppend (i : TI) (s x : SV) (L : Hpl) (nx : Nat) (K : KK) : Prop :=
  match i with
  | .slc e esz _ _ => match s with
    | .own k v => match lk k L with
      | .row v' e' sz n f => sSrc x (setK k .emp L) fun sz' m g => Chk (v = v' ∧ e = e' ∧ sz = esz ∧ sz' = esz ∧ n + m ≤ 1000000000)
          (∀ A c, K (.own nx (.slice A (n + m) c)) ((nx, .row (.slice A (n + m) c) e esz (n + m) (catF n f g)) :: setK k .emp L) (nx + 1))
      | _ => False
    | .val (.slice none 0 0) => sSrc x L fun sz' m g => Chk (sz' = esz ∧ m ≤ 1000000000)
          (∀ A c, K (.own nx (.slice A m c)) ((nx, .row (.slice A m c) e esz m g) :: L) (nx + 1))
    | .vw k g sz i0 n c => match lk k L with
      | .row v' _ sz' N f => sSrc x L fun sz2 m g2 => Chk (v'.ownBlock = some g ∧ sz = esz ∧ sz' = esz ∧ sz2 = esz ∧ i0 + n ≤ N ∧ c < n + m ∧ n + m ≤ 1000000000)
          (∀ g c, K (.own nx (.slice (some ⟨g, 0, none⟩) (n + m) c)) ((nx, .row (.slice (some ⟨g, 0, none⟩) (n + m) c) e esz (n + m) (catF n (fun j => f (i0 + j)) g2)) :: L) (nx + 1))
      | _ => False
    | _ => False
  | _ => False
/-- zeros, so many, are appended to a slice that has no room for them -/
def sAppendZ (i j : TI) (s x : SV) (L : Hpl) (nx : Nat) (K : KK) : Prop :=
  match i, j with
  | .slc e esz _ zs, .sc (.int _) _ => match s, x with
    | .vw k g sz i0 n c, .val (.int _ cnt) => match lk k L with
      | .row v' _ sz' N f => Chk (v'.ownBlock = some g ∧ sz = esz ∧ sz' = esz ∧ i0 + n ≤ N ∧ 0 < cnt ∧ (c : Int) < n + cnt ∧ n + cnt ≤ 1000000000)
          (∀ g c, K (.own nx (.slice (some ⟨g, 0, none⟩) (n + cnt.toNat) c)) ((nx, .row (.slice (some ⟨g, 0, none⟩) (n + cnt.toNat) c) e esz (n + cnt.toNat) (catF n (fun j => f (i0 + j)) fun _ => zF zs)) :: L) (nx + 1))
      | _ => False
    | _, _ => False
  | _, _ => False
/-- a copy into an owned row -/
def sCopy (i : TI) (d s : SV) (L : Hpl) (nx : Nat) (K : KK) : Prop :=
  match i with
  | .slc _ esz _ _ => match d with
    | .vw k g sz i0 n _ => match lk k L with
      | .row v' e' sz' N f => sSrc s (setK k .emp L) fun sz2 m g2 => Chk (v'.ownBlock = some g ∧ sz = esz ∧ sz' = esz ∧ sz2 = esz ∧ i0 + n ≤ N ∧ 0 < n ∧ 0 < m)
          (K (.val (.int .i64 (Nat.min m n : Nat))) (setK k (.row v' e' sz' N (blkF i0 (Nat.min m n) g2 f)) L) nx)
      | _ => False
    | _ => False
  | _ => False
def sMake (i : TI) (l c : SV) (L : Hpl) (nx : Nat) (K : KK) : Prop :=
  match i, l, c with
  | .slc e esz _ zs, .val (.int .i64 l), .val (.int .i64 c) => Chk (0 ≤ l ∧ l ≤ c ∧ c ≤ 1000000000)
      (∀ g, K (.own nx (.slice (some ⟨g, 0, none⟩) l.toNat c.toNat)) ((nx, .row (.slice (some ⟨g, 0, none⟩) l.toNat c.toNat) e esz l.toNat fun _ => zF zs) :: L) (nx + 1))
  | _, _, _ => False
def pSlice (i : TI) (x : SV) (lo hi : Option SV) : PR :=
  match i, x with
  | .slc _ esz _ _, .sl sz n f =>
    match lo, hi with
    | some (.val (.int _ l)), some (.val (.int _ h)) => .ok (0 ≤ l ∧ l ≤ h ∧ h ≤ n ∧ sz = esz) (.sl sz (h.toNat - l.toNat) fun i => f (l.toNat + i))
    | none, some (.val (.int _ h)) => .ok (0 ≤ h ∧ h ≤ n ∧ sz = esz) (.sl sz h.toNat f)
    | some (.val (.int _ l)), none => .ok (0 ≤ l ∧ l ≤ n ∧ sz = esz) (.sl sz (n - l.toNat) fun i => f (l.toNat + i))
    | _, _ => .no
  | .sc .string _, .val (.string s) =>
    match lo, hi with
    | some (.val (.int _ l)), some (.val (.int _ h)) => .ok (0 ≤ l ∧ l ≤ h ∧ h ≤ s.size) (.val (.string (s.extract l.toNat h.toNat)))
    | _, _ => .no
  | _, _ => .no
/-- cells of int and bool, compared one by one; what they are is told by the zeros -/
def eqC (f g : Nat → SV) : List Value → Nat → Option Bool
  | [], _ => some true
  | z :: zs, k => match z, f k, g k with
    | .int .i64 _, .val (.int .i64 a), .val (.int .i64 b) => match eqC f g zs (k + 1) with
      | some r => some ((a == b) && r)
      | none => none
    | .bool _, .val (.bool a), .val (.bool b) => match eqC f g zs (k + 1) with
      | some r => some ((a == b) && r)
      | none => none
    | _, _, _ => none
def pBin (op : BinOp) (d : TI) (x y : SV) : PR :=
  match x, y with
  | .val (.int k a), .val (.int k' b) => bif decide (k = k') then
    match op with
    | .add => .ar True k (a + b)
    | .sub => .ar True k (a - b)
    | .mul => .ar True k (a * b)
    | .quo => .ar (b ≠ 0) k (a.tdiv b)
    | .rem => .ok (b ≠ 0) (.val (.int k (a.tmod b)))
    | .shr => .eq (0 ≤ b) k (a / 2 ^ min b.toNat k.bits)
    | .xor => .eq True k (bits .xor k a b)
    | .eql => .nc (.val (.bool (a == b)))
    | .neq => .nc (.val (.bool (a != b)))
    | .lss => .nc (.val (.bool (decide (a < b))))
    | .leq => .nc (.val (.bool (decide (a ≤ b))))
    | .gtr => .nc (.val (.bool (decide (a > b))))
    | .geq => .nc (.val (.bool (decide (a ≥ b))))
    | _ => .no
    else .no
  | .val (.bool a), .val (.bool b) => match d with
    | .sc .bool _ => match op with
      | .eql => .nc (.val (.bool (a == b)))
      | .neq => .nc (.val (.bool (!(a == b))))
      | _ => .no
    | _ => .no
  | .agg n f, .agg m g => match d with
    | .st sz _ zs true => bif Nat.beq n sz && Nat.beq m sz then
      match eqC f g zs 0 with
      | some r => match op with
        | .eql => .nc (.val (.bool r))
        | .neq => .nc (.val (.bool (!r)))
        | _ => .no
      | none => .no
      else .no
    | _ => .no
  | .val (.string a), .val (.string b) => match d with
    | .sc .string _ => match op with
      | .add => .ok (a.size + b.size ≤ 1000000) (.val (.string (a ++ b)))
      | _ => .no
    | _ => .no
  | .val (.pointer none), .val (.pointer none) => match d with
    | .sc (.pointer _) _ => match op with
      | .eql => .nc (.val (.bool true))
      | .neq => .nc (.val (.bool false))
      | _ => .no
    | _ => .no
  | x, .val (.pointer none) => match d, x with
    | .sc (.pointer _) _, .ptr _ _ _ | .sc (.pointer _) _, .ref _ _ _ _ | .sc (.pointer _) _, .pp _ _ | .sc (.pointer _) _, .rp _ _ _ _ _ => match op with
      | .eql => .nc (.val (.bool false))
      | .neq => .nc (.val (.bool true))
      | _ => .no
    | _, _ => .no
  | _, _ => .no
/-- a value of an interface type against the literal nil -/
def pNilI (op : BinOp) (d : TI) (x : SV) : PR :=
  match d with
  | .sc (.interface _) _ => match x with
    | .val .nilIface => match op with
      | .eql => .nc (.val (.bool true))
      | .neq => .nc (.val (.bool false))
      | _ => .no
    | .ifc _ _ | .val (.iface _ _) => match op with
      | .eql => .nc (.val (.bool false))
      | .neq => .nc (.val (.bool true))
      | _ => .no
    | _ => .no
  | _ => .no
/-- a slice against the literal nil -/
def pNilS (op : BinOp) (d : TI) (x : SV) : PR :=
  match d, x with
  | .slc _ _ _ _, .sl _ n _ => match op with
    | .eql => .ok (0 < n) (.val (.bool false))
    | .neq => .ok (0 < n) (.val (.bool true))
    | _ => .no
  | _, _ => .no
/-- two pointers to cells that stand still -/
def pPtr (op : BinOp) (d : TI) (b o b' o' : Nat) : PR :=
  match d with
  | .st sz _ _ _ => bif Nat.blt 0 sz then
    match op with
    | .eql => .nc (.val (.bool (decide (b = b' ∧ o = o'))))
    | .neq => .nc (.val (.bool (!decide (b = b' ∧ o = o'))))
    | _ => .no
    else .no
  | _ => .no
def pBinR (tt : List (Nat × TI)) (op : BinOp) (d : TI) (x y : SV) : PR :=
  match d, x, y with
  | .sc (.pointer e) _, .ref b o _ _, .ref b' o' _ _ => pPtr op (fetch e tt) b o b' o'
  | d, x, y => pBin op d x y
def pBinO (tt : List (Nat × TI)) (op : BinOp) (d : TI) (yo : Operand) (x y : SV) : PR :=
  match yo with
  | .const .nilIface => pNilI op d x
  | .const (.slice none 0 0) => pNilS op d x
  | _ => pBinR tt op d x y
/-- an interface value is made, is asked for its type -/
def pMkI (i : TI) (t : TypeId) (x : SV) : PR :=
  match i with
  | .st _ _ _ _ | .ar _ _ _ _ | .slc _ _ _ _ | .sc (.int _) _ | .sc .string _ | .sc .bool _ | .sc (.pointer _) _ => .nc (.ifc t x)
  | _ => .no
def TI.zv : TI → SV
  | .sc _ z => .val z
  | .slc _ _ _ _ => .val (.slice none 0 0)
  | .st n _ zs _ | .ar _ _ n zs => .agg n (zF zs)
  | .bad => .any
def pAssert (i : TI) (t : TypeId) (x : SV) (ok : Bool) : PR :=
  match ok, x with
  | true, .ifc t' s => match i with
    | .st _ _ _ _ | .ar _ _ _ _ | .slc _ _ _ _ | .sc (.int _) _ | .sc .string _ | .sc .bool _ | .sc (.pointer _) _ =>
      bif Nat.beq t' t then .nc (.tup 2 (litF [s, .val (.bool true)])) else .nc (.tup 2 (litF [i.zv, .val (.bool false)]))
    | _ => .no
  | _, _ => .no
def pFn (f : Fn) (first : List SV) (caps : List SV) : PR :=
  match f, first with
  | .func f, [] => .nc (.fn f caps.length (litF caps))
  | _, _ => .no
def pConv (i j : TI) (x : SV) : PR :=
  match i, j, x with
  | .sc (.int _) _, .sc (.int k) _, .val (.int _ n) => .ar True k n
  | _, _, _ => .no
def pMax (l : List SV) : PR :=
  match l with
  | [.val (.int k x), .val (.int _ y)] => .nc (.val (.int k (if y > x then y else x)))
  | _ => .no
def pUn (op : UnOp) (x : SV) : PR :=
  match op, x with
  | .not, .val (.bool b) => .nc (.val (.bool (!b)))
  | .neg, .val (.int k a) => .ar True k (0 - a)
  | _, _ => .no
def pPick (c x y : SV) : PR :=
  match c with
  | .val (.bool β) => .br β x y
  | _ => .no
def pExtract (x : SV) (k : Nat) : PR :=
  match x with
  | .tup n f => bif Nat.blt k n then .nc (f k) else .no
  | _ => .no
def pGet (tt : List (Nat × TI)) (i : TI) (x : SV) (k : Nat) : PR :=
  match i, x with
  | .st _ fl _ _, .agg n f => match fl[k]? with
    | some (fo, ft) => match (fetch ft tt).w with
      | some (ag, m) => .ok (fo + m ≤ n) (bif ag then .agg m fun j => f (fo + j) else f fo)
      | none => .no
    | none => .no
  | _, _ => .no
def buildF (tt : List (Nat × TI)) (fl : List (Nat × Nat)) (sz : Nat) : List (Nat × SV) → (Nat → SV) → PR
  | [], f => .nc (.agg sz f)
  | (i, x) :: rest, f => match fl[i]? with
    | some (fo, ft) => match (fetch ft tt).w with
      | some (_, m) => match x.cells with
        | (xm, xf) => bif Nat.beq m xm && Nat.ble (fo + m) sz && allOne m xf then buildF tt fl sz rest (putF fo m xf f) else .no
      | none => .no
    | none => .no
def pBuild (tt : List (Nat × TI)) (i : TI) (ps : List (Nat × SV)) : PR :=
  match i with
  | .st sz fl zs _ => buildF tt fl sz ps (zF zs)
  | _ => .no
def buildR (esz len : Nat) : List (Nat × SV) → (Nat → Nat → SV) → ((Nat → Nat → SV) → Prop) → Prop
  | [], f, K => K f
  | (i, x) :: rest, f, K => match x.cells with
    | (xm, xf) => bif Nat.beq esz xm && Nat.blt i len && allOne esz xf then buildR esz len rest (putR i 0 esz xf f) K else False
/-- all elements are written, and are ints -/
def intsOf : List (Nat × SV) → Nat → Nat → Option (List Int)
  | [], n, len => bif Nat.beq n len then some [] else none
  | (i, .val (.int .i64 z)) :: rest, n, len => bif Nat.beq i n then
      match intsOf rest (n + 1) len with
      | some l => some (z :: l)
      | none => none
      else none
  | _, _, _ => none
def sBuildI (e esz len : Nat) (zs : List Value) (ps : List (Nat × SV)) (o : Option (List Int)) (L : Hpl) (nx : Nat) (K : KK) : Prop :=
  match o with
  | some l => ∀ g, K (.own nx (.slice (some ⟨g, 0, none⟩) len len)) ((nx, .row (.slice (some ⟨g, 0, none⟩) len len) e esz len (rowF intF l)) :: L) (nx + 1)
  | none => buildR esz len ps (fun _ => zF zs) fun f => ∀ g, K (.own nx (.slice (some ⟨g, 0, none⟩) len len)) ((nx, .row (.slice (some ⟨g, 0, none⟩) len len) e esz len f) :: L) (nx + 1)
def sBuildS (i : TI) (len : Nat) (ps : List (Nat × SV)) (L : Hpl) (nx : Nat) (K : KK) : Prop :=
  match i with
  | .slc e esz _ zs => Chk (len * esz ≤ 1000000) (sBuildI e esz len zs ps (bif Nat.beq esz 1 then intsOf ps 0 len else none) L nx K)
  | _ => False

/-- the plain operations: they look at their operands, and at the heap -/
def pop (tt : List (Nat × TI)) (o : Oper) (σ : Fr) (L : Hpl) : PR :=
  match o.op with
  | .move x | .assign x => .nc (sv σ x)
  | .pick c a b => pPick (sv σ c) (sv σ a) (sv σ b)
  | .build t ps => pBuild tt (fetch t tt) (ps.toList.map fun p => (p.1, sv σ p.2))
  | .load t a => pLoad (fetch t tt) (sv σ a) L
  | .nilCheck x => pNil (sv σ x)
  | .binOp op t x y _ => pBinO tt op (fetch t tt) y (sv σ x) (sv σ y)
  | .unOp op _ x => pUn op (sv σ x)
  | .fieldAddr t x k => pField (fetch t tt) (sv σ x) k
  | .field t x k => pGet tt (fetch t tt) (sv σ x) k
  | .extract x k => pExtract (sv σ x) k
  | .makeInterface t x => pMkI (fetch t tt) t (sv σ x)
  | .typeAssert x _ t ok => pAssert (fetch t tt) t (sv σ x) ok
  | .makeFunc f first caps => pFn f (first.toList.map (sv σ)) (caps.toList.map (sv σ))
  | .convert s d x => pConv (fetch s tt) (fetch d tt) (sv σ x)
  | .call c => match c.callee with
    | .builtin .max => pMax (c.args.toList.map (sv σ))
    | .builtin .cap => match c.args.toList, c.argTypes.toList with
      | [x], [t] => pCap (fetch t tt) (sv σ x)
      | _, _ => .no
    | .builtin .len => match c.args.toList, c.argTypes.toList with
      | [x], [t] => pLen (fetch t tt) (sv σ x)
      | _, _ => .no
    | _ => .no
  | _ => .no

/-- a slice that owns is cut; another is looked at -/
def sSlice (i : TI) (x : SV) (lo hi : Option SV) (L : Hpl) (nx : Nat) (K : KK) : Prop :=
  match x with
  | .own k v => match i, lo, hi with
    | .slc e esz _ _, none, some (.val (.int _ h)) => match lk k L with
      | .row v' e' sz n f => Chk (v = v' ∧ 0 ≤ h ∧ h ≤ n ∧ sz = esz) (∀ A c, K (.own nx (.slice A h.toNat c)) ((nx, .row (.slice A h.toNat c) e' sz h.toNat f) :: setK k .emp L) (nx + 1))
      | _ => False
    | .slc e esz _ _, some (.val (.int _ l)), none => match v with
      | .slice (some ⟨g, 0, none⟩) n c => match lk k L with
        | .row v' e' sz n' f => Chk (v = v' ∧ 0 ≤ l ∧ l ≤ n ∧ sz = esz) (K (.vw k g esz l.toNat (n - l.toNat) (c - l.toNat)) L nx)
        | _ => False
      | _ => False
    | _, _, _ => False
  | .vw k g sz i0 n c => match i, lo, hi with
    | .slc _ esz _ _, some (.val (.int _ l)), none => Chk (0 ≤ l ∧ l ≤ n ∧ sz = esz) (K (.vw k g sz (i0 + l.toNat) (n - l.toNat) (c - l.toNat)) L nx)
    | .slc _ esz _ _, none, some (.val (.int _ h)) => Chk (0 ≤ h ∧ h ≤ n ∧ sz = esz) (K (.vw k g sz i0 h.toNat c) L nx)
    | _, _, _ => False
  | x => (pSlice i x lo hi).run fun r => K r L nx
def sFgn (P : Program) (o : Oper) (σ : Fr) (L : Hpl) (nx : Nat) (K : KK) : Prop :=
  fcK L fun L => fcL (o.op.operands.toList.map (sv σ)) fun ss => Fgn P o ss L nx K
def sop (P : Program) (tt : List (Nat × TI)) (o : Oper) (σ : Fr) (L : Hpl) (nx : Nat) (K : KK) : Prop :=
  match o.op with
  | .alloc t => sAlloc t (fetch t tt) L nx K
  | .box t x => sBox t (sv σ x) L nx K
  | .buildSlice t n ps => sBuildS (fetch t tt) n (ps.toList.map fun p => (p.1, sv σ p.2)) L nx K
  | .store t a x => sStore (fetch t tt) (sv σ a) (sv σ x) L fun L' => K (.val undef) L' nx
  | .indexAddr t x i => sIndex (fetch t tt) (sv σ x) (sv σ i) L fun r => K r L nx
  | .makeSlice t l c => sMake (fetch t tt) (sv σ l) (sv σ c) L nx K
  | .slice t x lo hi none => sSlice (fetch t tt) (sv σ x) (lo.map (sv σ)) (hi.map (sv σ)) L nx K
  | .call c => match c.callee with
    | .value (.func f) => fcK L fun L => fcL (c.args.toList.map fun x => (sv σ x).bare) fun ss => CallN P f ss L nx K
    | .value (.tmp d) => match σ d with
      | .fn f n g => fcK L fun L => fcL ((c.args.toList.map fun x => (sv σ x).bare) ++ tabF (fun k => (g k).bare) n 0) fun ss => CallN P f ss L nx K
      | .val _ => sFgn P o σ L nx K
      | _ => False
    | .builtin .append => match c.args.toList, c.argTypes.toList with
      | [s, x], [t, t'] => bif Nat.beq t t' then sAppend (fetch t tt) (sv σ s) (sv σ x) L nx K else (bif isOwnV (sv σ s) then sFgn P o σ L nx K else sAppendZ (fetch t tt) (fetch t' tt) (sv σ s) (sv σ x) L nx K)
      | _, _ => False
    | .builtin .copy => match c.args.toList, c.argTypes.toList with
      | [d, s], [t, t'] => bif Nat.beq t t' then sCopy (fetch t tt) (sv σ d) (sv σ s) L nx K else False
      | _, _ => False
    | .builtin .len => match c.args.toList with
      | [x] => bif isMapV (sv σ x) then sFgn P o σ L nx K else (pop tt o σ L).run fun r => K r L nx
      | _ => (pop tt o σ L).run fun r => K r L nx
    | .builtin .close => sFgn P o σ L nx K
    | _ => (pop tt o σ L).run fun r => K r L nx
  | .convert _ _ x => bif isOwnV (sv σ x) then sFgn P o σ L nx K else (pop tt o σ L).run fun r => K r L nx
  | .makeMap _ _ | .mapUpdate _ _ _ _ | .lookup _ _ _ _ | .range _ _ | .next _ _ | .entry _ | .makeChan _ _ | .send _ _ | .recv _ _ _ | .index _ _ _ => sFgn P o σ L nx K
  | _ => (pop tt o σ L).run fun r => K r L nx
end Go.Proofs.YtcagfmbboliohaaDoor
/-! YtcagfmbboliohaaDoorSxC2 -/
set_option linter.all false


namespace Go.Proofs.YtcagfmbboliohaaDoor

section
variable {P : Program}
theorem HasL.length {w : World} {F : Nat → Prop} : ∀ {ss : List SV} {vs : List Value}, HasL w F ss vs → ss.length = vs.length
  | [], [], _ => rfl
  | s :: ss, v :: vs, h => by simp [HasL.length h.2]
  | [], _ :: _, h => h.elim
  | _ :: _, [], h => h.elim
theorem HasL.get {w : World} {F : Nat → Prop} : ∀ {ss : List SV} {vs : List Value}, HasL w F ss vs → ∀ k, Has w F (ss.getD k (.val undef)) (vs.getD k undef)
  | [], [], _, k => by simp [Has]
  | s :: ss, v :: vs, h, 0 => h.1
  | s :: ss, v :: vs, h, k + 1 => by simpa using HasL.get h.2 k
  | [], _ :: _, h, _ => h.elim
  | _ :: _, [], h, _ => h.elim
theorem HasL.go {w w' : World} {F F' : Nat → Prop} (hk : Keep F w w') (hF : ∀ b, F b → F' b) : ∀ {ss : List SV} {vs : List Value}, HasL w F ss vs → HasL w' F' ss vs
  | [], [], _ => trivial
  | s :: ss, v :: vs, h => ⟨(hk.has h.1).mono hF, HasL.go hk hF h.2⟩
  | [], _ :: _, h => h.elim
  | _ :: _, [], h => h.elim

theorem SCalls.mono {f : FuncId} {ss : List SV} {H : List Hp} {K K' : SV → List Hp → Prop} (h : SCalls P f ss H K) (hk : ∀ r H', K r H' → K' r H') : SCalls P f ss H K' :=
  ⟨h.1, fun w F vs hs hv => (h.2 w F vs hs hv).mono fun e w' ⟨v, he, r, F', H', q, rest⟩ => ⟨v, he, r, F', H', hk _ _ q, rest⟩⟩

/-! ### frames -/
def bundle (H : List Hp) : Heaplet where
  fp b := ∃ h ∈ H, h.fp b
  holds w F := (∀ h ∈ H, h.holds w F) ∧ H.Pairwise fun (h h' : Hp) => ∀ b : Nat, h.fp b → ¬ h'.fp b
  mono hF h := ⟨fun x hx => Hp.mono hF (h.1 x hx), h.2⟩
  stable hk h := ⟨fun x hx => Hp.stable (fun b hb => hk b (hb.elim (fun hb => .inl ⟨x, hx, hb⟩) .inr)) (h.1 x hx), h.2⟩

theorem HSat.bundle {w : World} {F : Nat → Prop} {A H : List Hp} (h : HSat w F (A ++ H)) : HSat w F (A ++ [.cust (Proofs.YtcagfmbboliohaaDoor.bundle H)]) := by
  have hp := List.pairwise_append.1 h.apart
  refine ⟨fun x hx => ?_, fun x hx b hb => ?_, List.pairwise_append.2 ⟨hp.1, by simp, fun x hx y hy b hb hby => ?_⟩, h.lt⟩
  · rcases List.mem_append.1 hx with hx | hx
    · exact h.holds x (List.mem_append_left _ hx)
    · rw [List.mem_singleton.1 hx]
      exact ⟨fun y hy => h.holds y (List.mem_append_right _ hy), hp.2.1⟩
  · rcases List.mem_append.1 hx with hx | hx
    · exact h.fp x (List.mem_append_left _ hx) b hb
    · rw [List.mem_singleton.1 hx] at hb
      obtain ⟨y, hy, hb⟩ := hb
      exact h.fp y (List.mem_append_right _ hy) b hb
  · rw [List.mem_singleton.1 hy] at hby
    obtain ⟨y', hy', hb'⟩ := hby
    exact hp.2.2 x hx y' hy' b hb hb'
theorem HSat.unbundle {w : World} {F : Nat → Prop} {A H : List Hp} (h : HSat w F (A ++ [.cust (Proofs.YtcagfmbboliohaaDoor.bundle H)])) : HSat w F (A ++ H) := by
  have hp := List.pairwise_append.1 h.apart
  have hb : (Hp.cust (Proofs.YtcagfmbboliohaaDoor.bundle H)).holds w F := h.holds _ (List.mem_append_right _ (by simp))
  refine ⟨fun x hx => ?_, fun x hx b hb' => ?_, List.pairwise_append.2 ⟨hp.1, hb.2, fun x hx y hy b hbx hby => ?_⟩, h.lt⟩
  · rcases List.mem_append.1 hx with hx | hx
    · exact h.holds x (List.mem_append_left _ hx)
    · exact hb.1 x hx
  · rcases List.mem_append.1 hx with hx | hx
    · exact h.fp x (List.mem_append_left _ hx) b hb'
    · exact h.fp _ (List.mem_append_right _ (List.mem_singleton_self _)) b ⟨x, hx, hb'⟩
  · exact hp.2.2 x hx (.cust (Proofs.YtcagfmbboliohaaDoor.bundle H)) List.mem_cons_self b hbx ⟨y, hy, hby⟩

theorem SCalls.frame {f : FuncId} {ss : List SV} {A H : List Hp} {K : SV → List Hp → Prop} (h : ∀ R, SCalls P f ss (A ++ [.cust R]) fun r H' => ∃ A', H' = A' ++ [.cust R] ∧ K r (A' ++ H)) : SCalls P f ss (A ++ H) K := by
  refine ⟨(h (bundle H)).1, fun w F vs hs hv => ((h (bundle H)).2 w F vs hs.bundle hv).mono ?_⟩
  rintro e w' ⟨v, he, r, F', H', ⟨A', rfl, hK⟩, hk, hF, hs', hr⟩
  exact ⟨v, he, r, F', _, hK, hk, hF, hs'.unbundle, hr⟩
theorem SCalls.perm {f : FuncId} {ss : List SV} {H H1 : List Hp} {K : SV → List Hp → Prop} (hp : H.Perm H1) (h : SCalls P f ss H1 fun r H' => ∃ H2, H'.Perm H2 ∧ K r H2) : SCalls P f ss H K := by
  refine ⟨h.1, fun w F vs hs hv => (h.2 w F vs (hs.perm hp) hv).mono ?_⟩
  rintro e w' ⟨v, he, r, F', H', ⟨H2, hp2, hK⟩, hk, hF, hs', hr⟩
  exact ⟨v, he, r, F', H2, hK, hk, hF, hs'.perm hp2, hr⟩

theorem SRet.call {f : FuncId} {ss : List SV} {Φ : SV → Prop} {H : List Hp} {K : SV → List Hp → Prop} (h : SRet P f ss Φ) (hK : ∀ r, Φ r → K r H) : SCalls P f ss H K :=
  SCalls.frame (A := []) fun R => (h.h R).mono fun r H' ⟨e, hΦ⟩ => ⟨[], e, hK r hΦ⟩
theorem SRet.call1 {f : FuncId} {ss : List SV} {r0 : SV} {H : List Hp} {K : SV → List Hp → Prop} (h : SRet P f ss (· = r0)) (hK : K r0 H) : SCalls P f ss H K := h.call fun r e => e ▸ hK
theorem SNew.call {f : FuncId} {ss : List SV} {Φ : SV → List Hp → Prop} {H : List Hp} {K : SV → List Hp → Prop} (h : SNew P f ss Φ) (hK : ∀ r N, Φ r N → K r (N ++ H)) : SCalls P f ss H K :=
  SCalls.frame (A := []) fun R => (h.h R).mono fun r H' ⟨N, e, hΦ⟩ => ⟨N, e, hK r N hΦ⟩
theorem SMut.call {f : FuncId} {ss : List SV} {p : Hp} {Φ : SV → List Hp → Hp → Prop} {H : List Hp} {K : SV → List Hp → Prop} (h : SMut P f ss p Φ) (i : Nat) (hi : H[i]? = some p) (hK : ∀ r N p', Φ r N p' → K r (N ++ H.set i p')) : SCalls P f ss H K := by
  have hlt : i < H.length := (List.getElem?_eq_some_iff.1 hi).1
  have hget : H[i] = p := (List.getElem?_eq_some_iff.1 hi).2
  have hperm : ∀ q, (H.set i q).Perm (q :: H.eraseIdx i) := fun q => by
    rw [List.set_eq_take_append_cons_drop, if_pos hlt, List.eraseIdx_eq_take_drop_succ]
    exact List.perm_middle
  have hH : H.Perm (p :: H.eraseIdx i) := by
    have := hperm p
    subst hget
    rwa [List.set_getElem_self] at this
  refine SCalls.perm hH (SCalls.frame (A := [p]) fun R => (h.h R).mono ?_)
  rintro r H' ⟨N, p', rfl, hΦ⟩
  refine ⟨N ++ [p'], by simp, N ++ H.set i p', ?_, hK r N p' hΦ⟩
  rw [List.append_assoc]
  exact List.Perm.append_left _ (hperm p').symm
end
theorem Has.free {w : World} {F F' : Nat → Prop} : ∀ {s : SV} {v : Value}, s.free → Has w F s v → Has w F' s v
  | .any, _, _, _ => trivial
  | .val _, _, _, h => h
  | .ptr _ _ _, _, _, h => h
  | .own _ _, _, _, h => h
  | .rp _ _ _ _ _, _, _, h => h
  | .vw _ _ _ _ _ _, _, _, h => h
  | .ifc _ _, _, hf, ⟨v, e, h⟩ => ⟨v, e, Has.free hf h⟩
  | .fn _ _ _, _, hf, ⟨vs, e, hn, h⟩ => ⟨vs, e, hn, fun k hk => Has.free (hf k hk) (h k hk)⟩
  | .agg _ _, _, hf, ⟨vs, e, hn, h⟩ => ⟨vs, e, hn, fun k hk => Has.free (hf k hk) (h k hk)⟩
  | .tup _ _, _, hf, ⟨vs, e, hn, h⟩ => ⟨vs, e, hn, fun k hk => Has.free (hf k hk) (h k hk)⟩
  | .sl _ _ _, _, hf, _ => hf.elim
  | .ref _ _ _ _, _, hf, _ => hf.elim
  | .pp _ _, _, hf, _ => hf.elim
theorem Hp.holds_free {w : World} {F F' : Nat → Prop} : ∀ {h : Hp}, h.free → h.holds w F → h.holds w F'
  | .emp, _, h => h
  | .box _ _ _ _, hf, ⟨cs, e, hn, h⟩ => ⟨cs, e, hn, fun k hk => ⟨(h k hk).1, Has.free (hf k hk) (h k hk).2⟩⟩
  | .row _ _ _ _ _, hf, ⟨xs, e, h⟩ => ⟨xs, e, fun i k hi hk => ⟨(h i k hi hk).1, Has.free (hf i k hi hk) (h i k hi hk).2⟩⟩
  | .cust _, hf, h => hf _ _ _ h

theorem SNew.borrow {P : Program} {f : FuncId} {ss ss' : List SV} {Φ : SV → List Hp → Prop} {H : List Hp} {K : SV → List Hp → Prop} (h : SNew P f ss' Φ) (hb : ∀ w F vs, HSat w F H → HasL w F ss vs → HasL w (fun b => b < w.heap.size) ss' vs)
    (hfree : ∀ r N, Φ r N → r.free ∧ ∀ p ∈ N, p.free) (hK : ∀ r N, Φ r N → K r (N ++ H)) : SCalls P f ss H K := by
  have R : Heaplet := ⟨fun _ => False, fun _ _ => True, fun _ _ => trivial, fun _ _ => trivial⟩
  let R0 : Heaplet := ⟨fun _ => False, fun _ _ => True, fun _ _ => trivial, fun _ _ => trivial⟩
  refine ⟨(h.h R0).1, fun w F vs hs hv => ?_⟩
  have hs0 : HSat w (fun b => b < w.heap.size) [.cust R0] := ⟨fun x hx => by rw [List.mem_singleton.1 hx]; trivial, fun x hx b hb => by rw [List.mem_singleton.1 hx] at hb; exact hb.elim, by simp, fun b hb => hb⟩
  refine ((h.h R0).2 w _ vs hs0 (hb w F vs hs hv)).mono ?_
  rintro e w' ⟨v, rfl, r, F', H', ⟨N, rfl, hΦ⟩, hk, hF, hs', hr⟩
  obtain ⟨hrf, hNf⟩ := hfree r N hΦ
  have hsame : ∀ b, b < w.heap.size → w'.heap[b]? = w.heap[b]? := hk.blk
  refine ⟨v, rfl, r, F, N ++ H, hK r N hΦ, ⟨hk.os, hk.tape, hk.output, hk.size, fun b hb => hsame b (hs.lt b hb), hk.drawn⟩, fun _ h => h, ?_, Has.free hrf hr⟩
  have hsH := hs.same hk.size hsame
  have hNap := (List.pairwise_append.1 hs'.apart).1
  have hNfp : ∀ p ∈ N, ∀ b, p.fp b → b < w'.heap.size ∧ w.heap.size ≤ b := fun p hp b hb => by
    have := hs'.fp p (List.mem_append_left _ hp) b hb
    refine ⟨this.1, ?_⟩
    rcases Nat.lt_or_ge b w.heap.size with hlt | hge
    · exact absurd (hF b hlt) this.2
    · exact hge
  refine ⟨fun p hp => ?_, fun p hp b hb => ?_, List.pairwise_append.2 ⟨hNap, hsH.apart, fun p hp q hq b hb hb2 => ?_⟩, hsH.lt⟩
  · rcases List.mem_append.1 hp with hp | hp
    · exact Hp.holds_free (hNf p hp) (hs'.holds p (List.mem_append_left _ hp))
    · exact hsH.holds p hp
  · rcases List.mem_append.1 hp with hp | hp
    · have := hNfp p hp b hb
      exact ⟨this.1, fun hF' => by have := hs.lt b hF'; omega⟩
    · exact hsH.fp p hp b hb
  · have := hNfp p hp b hb
    have := (hs.fp q hq b hb2).1
    omega
theorem SRet.borrow {P : Program} {f : FuncId} {ss ss' : List SV} {Φ : SV → Prop} {H : List Hp} {K : SV → List Hp → Prop} (h : SRet P f ss' Φ) (hb : ∀ w F vs, HSat w F H → HasL w F ss vs → HasL w (fun b => b < w.heap.size) ss' vs)
    (hfree : ∀ r, Φ r → r.free) (hK : ∀ r, Φ r → K r H) : SCalls P f ss H K :=
  SNew.borrow (Φ := fun r N => N = [] ∧ Φ r) ⟨fun R => (h.h R).mono fun r H' ⟨e, hΦ⟩ => ⟨[], e, rfl, hΦ⟩⟩ hb (fun r N ⟨e, hΦ⟩ => ⟨hfree r hΦ, by subst e; simp⟩) fun r N ⟨e, hΦ⟩ => by subst e; exact hK r hΦ


theorem keyN_snd : ∀ (N : List Hp) (nx : Nat) (L : Hpl), (keyN nx N L).map Prod.snd = N ++ L.map Prod.snd
  | [], _, _ => rfl
  | h :: N, nx, L => by simp [keyN, keyN_snd N]
theorem setK_idx {i : Nat} {p : Hp} : ∀ {L : Hpl}, hasK i L = true → ∃ j, (L.map Prod.snd)[j]? = some (lk i L) ∧ ∀ p, (setK i p L).map Prod.snd = (L.map Prod.snd).set j p
  | [], h => by cases h
  | (k, x) :: L, h => by
    simp only [hasK] at h
    simp only [lk, setK]
    cases e : Nat.beq k i <;> simp only [e, cond_true, cond_false] at h ⊢
    · obtain ⟨j, h1, h2⟩ := setK_idx (p := p) h
      exact ⟨j + 1, by simpa using h1, fun p => by simp [h2]⟩
    · exact ⟨0, by simp, fun p => by simp⟩
theorem SCalls.le {P : Program} {f : FuncId} {ss : List SV} {H H' : List Hp} {K : SV → List Hp → Prop} (hl : ∀ w F, HSat w F H → HSat w F H') (h : SCalls P f ss H' K) : SCalls P f ss H K :=
  ⟨h.1, fun w F vs hs hv => h.2 w F vs (hl w F hs) hv⟩
theorem SCalls.post {P : Program} {f : FuncId} {ss : List SV} {H : List Hp} {K K' : SV → List Hp → Prop} (h : SCalls P f ss H K) (hk : ∀ r H', K r H' → ∃ r' H'', (∀ w F v, HSat w F H' → Has w F r v → ∃ F', (∀ b, F b → F' b) ∧ HSat w F' H'' ∧ Has w F' r' v) ∧ K' r' H'') : SCalls P f ss H K' :=
  ⟨h.1, fun w F vs hs hv => (h.2 w F vs hs hv).mono fun e w' ⟨v, he, r, F', H', hK, hkeep, hF, hs', hr⟩ => by
    obtain ⟨r', H'', hE, hK'⟩ := hk r H' hK
    obtain ⟨F2, q1, q2, q3⟩ := hE w' F' v hs' hr
    exact ⟨v, he, r', F2, H'', hK', hkeep, fun b hb => q1 b (hF b hb), q2, q3⟩⟩
theorem CallN.calls {P : Program} {f : FuncId} {ss : List SV} {L : Hpl} {nx : Nat} {K : KK} (h : CallN P f ss L nx K) : SCalls P f ss (L.map Prod.snd) fun r H => ∃ L', H = L'.map Prod.snd ∧ K (r.lift nx) L' (nx + 10) := by
  induction h with
  | ret Φ h k => exact h.call fun r hr => ⟨_, rfl, k r hr⟩
  | new Φ h k => exact h.call fun r N hr => ⟨_, (keyN_snd N _ _).symm, k r N hr⟩
  | @turn L nx K i c Φ hl h k =>
    obtain ⟨j, h1, h2⟩ := setK_idx (i := i) (p := .emp) (L := L) (hasK_of (by rw [hl]; simp))
    rw [hl] at h1
    exact h.call j h1 fun r N p' hr => ⟨_, by rw [keyN_snd, h2], k r N p' hr⟩
  | gen h => exact h.mono fun r H ⟨L', e, _, k⟩ => ⟨L', e, k⟩
  | @keep L nx K i p Φ hl hp h k =>
    obtain ⟨j, h1, h2⟩ := setK_idx (i := i) (p := .emp) (L := L) (hasK_of (by rw [hl]; exact hp))
    rw [hl] at h1
    refine h.call j h1 fun r N p' hr => ?_
    obtain ⟨rfl, rfl, hr⟩ := hr
    have hlt : j < (L.map Prod.snd).length := (List.getElem?_eq_some_iff.1 h1).1
    have hget : (L.map Prod.snd)[j] = p' := (List.getElem?_eq_some_iff.1 h1).2
    exact ⟨L, by rw [← hget, List.set_getElem_self]; rfl, k r hr⟩
  | newB ss' Φ h hb hf k => exact h.borrow hb hf fun r N hr => ⟨_, (keyN_snd N _ _).symm, k r N hr⟩
  | @newF L nx K ss' Φ Ψ h hb hf hz k =>
    refine (h.borrow (K := fun r H => ∃ N, H = N ++ L.map Prod.snd ∧ Φ r N) hb hf fun r N hr => ⟨N, rfl, hr⟩).post ?_
    rintro r H' ⟨N, rfl, hΦ⟩
    obtain ⟨r', hΨ, hE⟩ := hz r N hΦ
    exact ⟨r', _, hE _, _, rfl, k r' hΨ⟩
  | le L' hl hb h ih => exact SCalls.le hl ih
theorem CallN.mono {P : Program} {f : FuncId} {ss : List SV} {L : Hpl} {nx : Nat} {K K' : KK} (hk : ∀ r L' nx', (∀ k g t n f, k < nx → lk k L = .box g t n f → lk k L' = .box g t n f) → nx ≤ nx' → K r L' nx' → K' r L' nx') (h : CallN P f ss L nx K) : CallN P f ss L nx K' := by
  have key : ∀ (N : List Hp) (m : Nat) (L' : Hpl) (k : Nat) (x : Hp), k < m → lk k L' = x → lk k (keyN m N L') = x := by
    intro N
    induction N with
    | nil => intro m L' k x _ h; exact h
    | cons y N ih =>
      intro m L' k x hkm h
      simp only [keyN, lk]
      have : Nat.beq m k = false := by rw [Bool.eq_false_iff]; intro hb; have := Nat.eq_of_beq_eq_true hb; omega
      rw [this, cond_false]
      exact ih (m + 1) L' k x (by omega) h
  have set : ∀ (i : Nat) (p : Hp) (k : Nat) (x : Hp) (L' : Hpl), k ≠ i → lk k L' = x → lk k (setK i p L') = x := by
    intro i p k x L'
    induction L' with
    | nil => intro _ h; exact h
    | cons q L' ih =>
      intro hne h
      obtain ⟨j, y⟩ := q
      simp only [lk, setK] at h ⊢
      cases e : Nat.beq j i
      · rw [cond_false]
        simp only [lk]
        cases e2 : Nat.beq j k
        · rw [e2, cond_false] at h
          rw [cond_false]
          exact ih hne h
        · rw [e2, cond_true] at h
          rw [cond_true]
          exact h
      · rw [cond_true]
        simp only [lk]
        have := Nat.eq_of_beq_eq_true e
        have e2 : Nat.beq j k = false := by rw [Bool.eq_false_iff]; intro hb; have := Nat.eq_of_beq_eq_true hb; omega
        rw [e2, cond_false] at h ⊢
        exact h
  induction h with
  | ret Φ h k => exact .ret Φ h fun r hr => hk _ _ _ (fun _ _ _ _ _ _ h => h) (by omega) (k r hr)
  | le L' hl hb h ih => exact .le L' hl hb (ih fun r L2 nx' h1 => hk r L2 nx' fun k g t n f hk h2 => h1 k g t n f hk (hb k g t n f h2))
  | new Φ h k => exact .new Φ h fun r N hr => hk _ _ _ (fun _ _ _ _ _ h1 h2 => key N _ _ _ _ h1 h2) (by omega) (k r N hr)
  | turn i c Φ hl h k => exact .turn i c Φ hl h fun r N p' hr => hk _ _ _ (fun q _ _ _ _ h1 h2 => key N _ _ _ _ h1 (set i p' q _ _ (by rintro rfl; rw [hl] at h2; cases h2) h2)) (by omega) (k r N p' hr)
  | gen h => exact .gen (h.mono fun r H ⟨L', e, hb, k⟩ => ⟨L', e, hb, hk _ _ _ hb (by omega) k⟩)
  | keep i p Φ hl hp h k => exact .keep i p Φ hl hp h fun r hr => hk _ _ _ (fun _ _ _ _ _ _ h => h) (by omega) (k r hr)
  | newB ss' Φ h hb hf k => exact .newB ss' Φ h hb hf fun r N hr => hk _ _ _ (fun _ _ _ _ _ h1 h2 => key N _ _ _ _ h1 h2) (by omega) (k r N hr)
  | newF ss' Φ Ψ h hb hf hz k => exact .newF ss' Φ Ψ h hb hf hz fun r hr => hk _ _ _ (fun _ _ _ _ _ _ h => h) (by omega) (k r hr)
end Go.Proofs.YtcagfmbboliohaaDoor
/-! YtcagfmbboliohaaDoorSxD -/
set_option linter.all false


namespace Go.Proofs.YtcagfmbboliohaaDoor

section
variable {P : Program} {t : TypeId} {i : TI} {w : World} {F : Nat → Prop} {L : Hpl}

/-- cells that read as told -/
def CellsAt (w : World) (F : Nat → Prop) (b o n : Nat) (f : Nat → SV) : Prop := ∀ k, k < n → ∃ u, w.cell? ⟨b, o + k, none⟩ = some u ∧ u.oneCell' = true ∧ Has w F (f k) u

theorem CellsAt.sub {b o n m d : Nat} {f : Nat → SV} (h : CellsAt w F b o n f) (hd : d + m ≤ n) : CellsAt w F b (o + d) m fun j => f (d + j) := fun k hk => by
  have := h (d + k) (by omega)
  rwa [← Nat.add_assoc] at this

theorem TI.w_one {m : Nat} (h : i.w = some (false, m)) : m = 1 := by
  cases i <;> simp [TI.w] at h <;> omega

theorem load_cells (ht : TIok P t i) {ag : Bool} {m b o : Nat} {f : Nat → SV} (hw : i.w = some (ag, m)) (h : CellsAt w F b o m f) :
    ∃ v, (Instr.loadAt t (.pointer (some ⟨b, o, none⟩))).run P w = .ok v w ∧ Has w F (bif ag then .agg m f else f 0) v := by
  cases ag with
  | false =>
    have hm := TI.w_one hw
    subst hm
    obtain ⟨u, hu, _, hh⟩ := h 0 (by omega)
    exact ⟨u, run_load_one ht hw hu, hh⟩
  | true =>
    have hch : ∃ g : Nat → Value, ∀ k, k < m → w.cell? ⟨b, o + k, none⟩ = some (g k) ∧ Has w F (f k) (g k) :=
      ⟨fun k => (w.cell? ⟨b, o + k, none⟩).getD undef, fun k hk => by
        obtain ⟨u, hu, _, hh⟩ := h k hk
        simp [hu, hh]⟩
    obtain ⟨g, hg⟩ := hch
    refine ⟨_, run_load_agg ht hw fun j hj => (hg j hj).1, _, rfl, by simp, fun k hk => ?_⟩
    have : (((List.range m).map g).toArray).getD k undef = g k := by simp [hk]
    rw [this]
    exact (hg k hk).2

theorem box_cells {g n : Nat} {tt : TypeId} {f : Nat → SV} (h : (Hp.box g tt n f).holds w F) : CellsAt w F g 0 n f := by
  obtain ⟨cs, hg, hn, hc⟩ := h
  intro k hk
  refine ⟨cs.getD k undef, ?_, hc k hk⟩
  simp [World.cell?, hg, Array.getD, show k < cs.size by omega]
theorem row_cells {v : Value} {e : TypeId} {sz n g j : Nat} {f : Nat → Nat → SV} (h : (Hp.row v e sz n f).holds w F) (hv : v.ownBlock = some g) (hj : j < n) : CellsAt w F g (j * sz) sz (f j) := by
  obtain ⟨xs, ho, hc⟩ := h
  intro k hk
  have hlt : j * sz + k < n * sz := by
    have : (j + 1) * sz ≤ n * sz := Nat.mul_le_mul_right _ hj
    rw [Nat.succ_mul] at this
    omega
  have hl := ho.1
  refine ⟨xs.getD (j * sz + k) undef, ?_, hc j k hj hk⟩
  have := ho.cells (g := g) hv (j * sz + k) (xs.getD (j * sz + k) undef) (by simp [List.getD, show j * sz + k < xs.length by omega])
  rwa [addr_add', Nat.zero_add] at this

theorem s_load {a : SV} {va : Value} {K : SV → Prop} (h : (pLoad i a L).run K) (ht : TIok P t i) (hs : HSat w F (L.map Prod.snd)) (ha : Has w F a va) :
    ∃ v r, (Instr.loadAt t va).run P w = .ok v w ∧ K r ∧ Has w F r v := by
  unfold pLoad at h
  split at h
  · exact False.elim h
  · rename_i ag m hw
    split at h
    · rename_i b off n f
      obtain ⟨rfl, hF, _, hc⟩ := ha
      obtain ⟨hm, hK⟩ := h
      obtain ⟨v, h1, h2⟩ := load_cells ht hw (b := b) (o := off) (f := f) fun k hk => hc k (Nat.lt_of_lt_of_le hk hm)
      exact ⟨v, _, h1, hK, h2⟩
    · rename_i n f
      obtain ⟨b, off, rfl, hF, hc⟩ := ha
      obtain ⟨hm, hK⟩ := h
      obtain ⟨v, h1, h2⟩ := load_cells ht hw (b := b) (o := off) (f := f) fun k hk => hc k (Nat.lt_of_lt_of_le hk hm)
      exact ⟨v, _, h1, hK, h2⟩
    · rename_i k g off
      subst ha
      split at h
      · rename_i g' t' n f hk
        obtain ⟨⟨rfl, hfit⟩, hK⟩ := h
        have hb := (hs.lk hk (by simp)).holds _ List.mem_cons_self
        obtain ⟨v, h1, h2⟩ := load_cells ht hw ((box_cells hb).sub hfit)
        rw [Nat.zero_add] at h1
        exact ⟨v, _, h1, hK, h2⟩
      · exact False.elim h
    · rename_i k g sz j o
      subst ha
      split at h
      · rename_i v e sz' n f hk
        obtain ⟨⟨hv, rfl, hj, hfit⟩, hK⟩ := h
        have hb := (hs.lk hk (by simp)).holds _ List.mem_cons_self
        obtain ⟨v, h1, h2⟩ := load_cells ht hw ((row_cells hb hv hj).sub hfit)
        exact ⟨v, _, h1, hK, h2⟩
      · exact False.elim h
    · exact False.elim h

theorem one_cells {s : SV} {v : Value} (h : s.one = true) (hv : Has w F s v) : v.oneCell' = true ∧ s.cells = (1, fun _ => s) := by
  cases s with
  | any => cases h
  | agg n f => cases h
  | tup n f => cases h
  | val x => simp only [Has] at hv; subst hv; exact ⟨h, rfl⟩
  | own k x => simp only [Has] at hv; subst hv; exact ⟨h, rfl⟩
  | sl sz n f => obtain ⟨A, c, rfl, _⟩ := hv; exact ⟨rfl, rfl⟩
  | ref b o n f => obtain ⟨rfl, _⟩ := hv; exact ⟨rfl, rfl⟩
  | pp n f => obtain ⟨b, o, rfl, _⟩ := hv; exact ⟨rfl, rfl⟩
  | ptr k g o => simp only [Has] at hv; subst hv; exact ⟨rfl, rfl⟩
  | rp k g sz i o => simp only [Has] at hv; subst hv; exact ⟨rfl, rfl⟩
  | vw k g sz i n c => obtain ⟨_, _, A, rfl, _⟩ := hv; exact ⟨rfl, rfl⟩
  | ifc t s => obtain ⟨v, rfl, _⟩ := hv; exact ⟨rfl, rfl⟩
  | fn f n g => obtain ⟨vs, rfl, _⟩ := hv; exact ⟨rfl, rfl⟩
theorem cells_of_one {v : Value} (h : v.oneCell' = true) : v.cells = #[v] := by cases v <;> first | rfl | cases h
theorem allOne_get : ∀ {n : Nat} {f : Nat → SV}, allOne n f = true → ∀ k, k < n → (f k).one = true
  | 0, _, _, k, hk => absurd hk (by omega)
  | n + 1, f, h, k, hk => by
    unfold allOne at h
    cases e : (f n).one
    · rw [e] at h; cases h
    · rw [e] at h
      rcases Nat.lt_or_ge k n with hlt | hge
      · exact allOne_get h k hlt
      · obtain rfl : k = n := by omega
        exact e
/-- the cells of a value -/
theorem has_cells {s : SV} {v : Value} (h1 : allOne s.cells.1 s.cells.2 = true) (hv : Has w F s v) :
    v.cells.size = s.cells.1 ∧ (∀ k, k < s.cells.1 → (v.cells.getD k undef).oneCell' = true ∧ Has w F (s.cells.2 k) (v.cells.getD k undef)) := by
  by_cases hagg : ∃ n f, s = .agg n f
  · obtain ⟨n, f, rfl⟩ := hagg
    obtain ⟨vs, rfl, hn, hc⟩ := hv
    exact ⟨hn, fun k hk => ⟨(one_cells (allOne_get h1 k hk) (hc k hk)).1, hc k hk⟩⟩
  · have hsc : s.cells = (1, fun _ => s) := by
      cases s <;> first | rfl | exact absurd ⟨_, _, rfl⟩ hagg
    rw [hsc] at h1 ⊢
    have hone : s.one = true := allOne_get h1 0 (by omega)
    have := cells_of_one (one_cells hone hv).1
    refine ⟨by rw [this]; rfl, fun k hk => ?_⟩
    obtain rfl : k = 0 := by simp at hk; omega
    rw [this]
    exact ⟨(one_cells hone hv).1, hv⟩
theorem has_cells_all {s : SV} {v : Value} (h1 : allOne s.cells.1 s.cells.2 = true) (hv : Has w F s v) : ∀ u ∈ v.cells.toList, u.oneCell' = true := fun u hu => by
  obtain ⟨hn, hc⟩ := has_cells h1 hv
  obtain ⟨k, hk, e⟩ := List.getElem_of_mem hu
  have hk' : k < v.cells.size := by simpa using hk
  have := (hc k (by omega)).1
  rw [← e]
  simpa [Array.getD, hk'] using this

theorem put_get {cur vs : List Value} {o m : Nat} (hv : vs.length = m) (hfit : o + m ≤ cur.length) (k : Nat) :
    (cur.take o ++ vs ++ cur.drop (o + m)).getD k undef = if o ≤ k ∧ k < o + m then vs.getD (k - o) undef else cur.getD k undef := by
  simp only [List.getD_eq_getElem?_getD]
  congr 1
  by_cases h1 : k < o
  · rw [if_neg (by omega), List.append_assoc, List.getElem?_append_left (by simp; omega), List.getElem?_take, if_pos h1]
  · by_cases h2 : k < o + m
    · rw [if_pos (by omega), List.append_assoc, List.getElem?_append_right (by simp; omega), List.getElem?_append_left (by simp; omega)]
      simp [show min o cur.length = o by omega]
    · rw [if_neg (by omega), List.getElem?_append_right (by simp; omega)]
      rw [List.getElem?_drop]
      have hl : (cur.take o ++ vs).length = o + m := by rw [List.length_append, List.length_take, hv]; omega
      rw [hl, show o + m + (k - (o + m)) = k by omega]

theorem putF_has {o m n : Nat} {fv f : Nat → SV} {cur vs : List Value} (hv : vs.length = m) (hfit : o + m ≤ cur.length) (h1 : ∀ k, k < m → (vs.getD k undef).oneCell' = true ∧ Has w F (fv k) (vs.getD k undef))
    (h2 : ∀ k, k < n → (cur.getD k undef).oneCell' = true ∧ Has w F (f k) (cur.getD k undef)) : ∀ k, k < n →
      ((cur.take o ++ vs ++ cur.drop (o + m)).getD k undef).oneCell' = true ∧ Has w F (putF o m fv f k) ((cur.take o ++ vs ++ cur.drop (o + m)).getD k undef) := fun k hk => by
  rw [put_get hv hfit]
  unfold putF
  by_cases h : o ≤ k ∧ k < o + m
  · have e : (Nat.ble o k && Nat.ble (k + 1) (o + m)) = true := by simp [Nat.ble_eq]; omega
    rw [if_pos h, e, cond_true]
    exact h1 _ (by omega)
  · have e : (Nat.ble o k && Nat.ble (k + 1) (o + m)) = false := by
      rw [Bool.eq_false_iff]; simp [Nat.ble_eq]; omega
    rw [if_neg h, e, cond_false]
    exact h2 k hk

theorem s_store {a x : SV} {va vx : Value} {K : Hpl → Prop} (h : sStore i a x L K) (ht : TIok P t i) (hs : HSat w F (L.map Prod.snd)) (ha : Has w F a va) (hx : Has w F x vx) :
    ∃ w' L', (Instr.storeAt t va vx).run P w = .ok () w' ∧ K L' ∧ Keep F w w' ∧ HSat w' F (L'.map Prod.snd) := by
  rw [sStore_eq] at h
  unfold sStoreC at h
  split at h
  · exact h.elim
  · rename_i ag m hw
    cases hc : (Nat.beq m x.cells.1 && allOne m x.cells.2)
    · rw [hc] at h; exact h.elim
    · rw [hc, cond_true] at h
      simp only [Bool.and_eq_true] at hc
      have hm : m = x.cells.1 := Nat.eq_of_beq_eq_true hc.1
      have hone := hc.2
      rw [hm] at hone
      obtain ⟨hvn, hvc⟩ := has_cells hone hx
      have hva := has_cells_all hone hx
      split at h
      · rename_i k g off
        subst ha
        split at h
        · rename_i g' t' n f hk
          obtain ⟨⟨rfl, hfit⟩, hK⟩ := h
          have hs' := hs.lk hk (by simp)
          obtain ⟨cs, hg, hcn, hcc⟩ := hs'.holds _ (List.mem_cons_self)
          have hrun := run_store_at ht hw hg (o := off) (v := vx) (by omega) hva (by omega)
          refine ⟨_, _, hrun, hK, ⟨rfl, rfl, rfl, by simp [World.setRow], fun b hb => ?_, Nat.le_refl _⟩, HSat.setK hk (by simp) (hs'.turn (by simp [World.setRow]) (fun b hb hne => ?_) ⟨_, setRow_heap w g cs _ t' _ hg, ?_, ?_⟩ fun b hb => ?_)⟩
          · have hne : b ≠ g := fun e => (hs'.fp _ (List.mem_cons_self) b e).2 hb
            exact setRow_other w g b _ hne
          · exact setRow_other w g b _ hne
          · have := Array.length_toList (xs := vx.cells)
            simp only [List.size_toArray, List.length_append, List.length_take, List.length_drop, Array.length_toList]
            omega
          · intro k hk
            have := putF_has (w := w) (F := F) (o := off) (m := m) (n := n) (fv := x.cells.2) (f := f) (cur := cs.toList) (vs := vx.cells.toList) (by simp; omega) (by simp; omega) (fun k hk => by simpa using hvc k (by omega)) (fun k hk => by simpa using hcc k hk) k hk
            have hh : ∀ s v, Has w F s v → Has (w.setRow g (cs.toList.take off ++ vx.cells.toList ++ cs.toList.drop (off + m)).toArray) F s v := fun s v hh => Has.keep (fun b hb => setRow_other w g b _ fun e => (hs'.fp _ (List.mem_cons_self) b e).2 hb) hh
            refine ⟨by simpa using this.1, hh _ _ (by simpa using this.2)⟩
          · have hb' : b = g := hb
            subst hb'
            exact ⟨by simpa [World.setRow] using (hs'.fp _ (List.mem_cons_self) b rfl).1, .inl rfl⟩
        · exact h.elim
      · rename_i k g sz j o
        subst ha
        split at h
        · rename_i v e sz' n f hk
          obtain ⟨⟨hv, rfl, hj, hfit⟩, hK⟩ := h
          have hs' := hs.lk hk (by simp)
          obtain ⟨xs, ho, hcc⟩ := hs'.holds _ (List.mem_cons_self)
          have ho' := ho
          rcases ho.2 with ⟨rfl, rfl⟩ | ⟨g0, cap, cur, rfl, _, hg, hnc, hcm, hcs, htake⟩
          · omega
          · have : g0 = g := by simpa [Value.ownBlock] using hv
            subst this
            have hmul : (j + 1) * sz ≤ n * sz := Nat.mul_le_mul_right _ hj
            have hmul2 : n * sz ≤ cap * sz := Nat.mul_le_mul_right _ hnc
            rw [Nat.succ_mul] at hmul
            have hrun := run_store_at ht hw hg (o := j * sz + o) (v := vx) (by omega) hva (by omega)
            have hlv : vx.cells.toList.length = m := by simp; omega
            refine ⟨_, _, hrun, hK, ⟨rfl, rfl, rfl, by simp [World.setRow], fun b hb => ?_, Nat.le_refl _⟩, HSat.setK hk (by simp) (hs'.turn (by simp [World.setRow]) (fun b hb hne => ?_) ⟨xs.take (j * sz + o) ++ vx.cells.toList ++ xs.drop (j * sz + o + m), ⟨?_, .inr ⟨g0, cap, _, rfl, Nat.zero_le _, setRow_heap w g0 cur _ e _ hg, hnc, hcm, ?_, ?_⟩⟩, ?_⟩ fun b hb => ?_)⟩
            · have hne : b ≠ g0 := fun e => (hs'.fp _ (List.mem_cons_self) b (by rw [e]; rfl)).2 hb
              exact setRow_other w g0 b _ hne
            · exact setRow_other w g0 b _ fun e => hne (by rw [e]; rfl)
            · have := ho'.1
              simp only [List.length_append, List.length_take, List.length_drop]
              omega
            · simp only [List.size_toArray, List.length_append, List.length_take, List.length_drop, Array.length_toList]
              rw [Array.length_toList] at hlv
              omega
            · have h1 := ho'.1
              have hcur : cur.toList.length = cap * sz := by simpa using hcs
              apply List.ext_getElem?
              intro q
              have e1 := put_get (cur := cur.toList) (vs := vx.cells.toList) (o := j * sz + o) (m := m) hlv (by omega) q
              have e2 := put_get (cur := xs) (vs := vx.cells.toList) (o := j * sz + o) (m := m) hlv (by omega) q
              by_cases hq : q < n * sz
              · have l1 : q < (cur.toList.take (j * sz + o) ++ vx.cells.toList ++ cur.toList.drop (j * sz + o + m)).length := by
                  simp only [List.length_append, List.length_take, List.length_drop]; omega
                have l2 : q < (xs.take (j * sz + o) ++ vx.cells.toList ++ xs.drop (j * sz + o + m)).length := by
                  simp only [List.length_append, List.length_take, List.length_drop]; omega
                rw [List.getElem?_take, if_pos hq, List.getElem?_eq_getElem l1, List.getElem?_eq_getElem l2]
                rw [List.getD_eq_getElem?_getD, List.getElem?_eq_getElem l1, Option.getD_some] at e1
                rw [List.getD_eq_getElem?_getD, List.getElem?_eq_getElem l2, Option.getD_some] at e2
                rw [e1, e2]
                congr 2
                rw [← htake]
                simp [List.getElem?_take, hq]
              · rw [List.getElem?_take, if_neg hq, List.getElem?_eq_none]
                simp only [List.length_append, List.length_take, List.length_drop]
                omega
            · intro q k hq hk'
              have hh : ∀ s v, Has w F s v → Has (w.setRow g0 (cur.toList.take (j * sz + o) ++ vx.cells.toList ++ cur.toList.drop (j * sz + o + m)).toArray) F s v := fun s v hh => Has.keep (fun b hb => setRow_other w g0 b _ fun e => (hs'.fp _ (List.mem_cons_self) b (by rw [e]; rfl)).2 hb) hh
              have hqm : (q + 1) * sz ≤ n * sz := Nat.mul_le_mul_right _ hq
              rw [Nat.succ_mul] at hqm
              have h1 := ho'.1
              rw [put_get hlv (by omega)]
              unfold putR
              by_cases hqj : q = j
              · subst hqj
                have e1 : Nat.beq q q = true := Nat.beq_refl q
                rw [e1, cond_true]
                unfold putF
                by_cases hin : o ≤ k ∧ k < o + m
                · have e2 : (Nat.ble o k && Nat.ble (k + 1) (o + m)) = true := by simp [Nat.ble_eq]; omega
                  rw [if_pos (by omega), e2, cond_true, show q * sz + k - (q * sz + o) = k - o by omega]
                  have := hvc (k - o) (by omega)
                  exact ⟨by simpa using this.1, hh _ _ (by simpa using this.2)⟩
                · have e2 : (Nat.ble o k && Nat.ble (k + 1) (o + m)) = false := by
                    rw [Bool.eq_false_iff]; simp [Nat.ble_eq]; omega
                  rw [if_neg (by omega), e2, cond_false]
                  have := hcc q k hq hk'
                  exact ⟨this.1, hh _ _ this.2⟩
              · have e1 : Nat.beq q j = false := by
                  rw [Bool.eq_false_iff]; intro hb; exact hqj (Nat.eq_of_beq_eq_true hb)
                rw [e1, cond_false]
                have hnin : ¬ (j * sz + o ≤ q * sz + k ∧ q * sz + k < j * sz + o + m) := by
                  intro ⟨ha, hb⟩
                  rcases Nat.lt_or_gt_of_ne hqj with hlt | hgt
                  · have : (q + 1) * sz ≤ j * sz := Nat.mul_le_mul_right _ hlt
                    rw [Nat.succ_mul] at this
                    omega
                  · have : (j + 1) * sz ≤ q * sz := Nat.mul_le_mul_right _ hgt
                    rw [Nat.succ_mul] at this
                    omega
                rw [if_neg hnin]
                have := hcc q k hq hk'
                exact ⟨this.1, hh _ _ this.2⟩
            · have hb' : some g0 = some b := hb
              injection hb' with hb'
              subst hb'
              exact ⟨by simpa [World.setRow] using (hs'.fp _ (List.mem_cons_self) g0 rfl).1, .inl rfl⟩
        · exact h.elim
      · exact h.elim
end
end Go.Proofs.YtcagfmbboliohaaDoor
