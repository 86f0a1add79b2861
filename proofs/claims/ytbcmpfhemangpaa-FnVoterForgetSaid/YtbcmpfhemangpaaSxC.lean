/- The symbolic step of one operation, and that it is sound. -/
import Derived.Test.YtbcmpfhemangpaaSxB
set_option linter.all false


namespace Go.Proofs.Ytbcmpfhemangpaa

abbrev Fr := Nat → SV
abbrev KK := SV → Hpl → Nat → Prop

/-- a side condition, then what follows -/
structure Chk (A B : Prop) : Prop where
  a : A
  b : B
/-- a sum, wrapped; the tactic says what it is -/
structure Ar (k : IntKind) (z : Int) (K : Int → Prop) : Prop where
  h : ∃ z', k.wrap z = z' ∧ K z'

/-- a test -/
structure Br (β : Bool) (X Y : Prop) : Prop where
  t : β = true → X
  f : β = false → Y

def sv (σ : Fr) : Operand → SV
  | .tmp k => σ k
  | .const v => .val v
  | .global g => .ptr (800 + g) g 0
  | .func f => .val (.func (.func f) #[] #[])

/-- a value of one cell -/
def SV.one : SV → Bool
  | .val v => v.oneCell'
  | .own _ v => v.oneCell'
  | .sl _ _ _ | .ref _ _ _ _ | .pp _ _ | .ptr _ _ _ | .rp _ _ _ _ _ | .vw _ _ _ _ _ _ | .ifc _ _ | .fn _ _ _ => true
  | _ => false
def allOne : Nat → (Nat → SV) → Bool
  | 0, _ => true
  | n + 1, f => bif (f n).one then allOne n f else false
/-- its cells -/
def SV.cells : SV → Nat × (Nat → SV)
  | .agg n f => (n, f)
  | s => (1, fun _ => s)

/-- cells o .. o+m-1 become fv's -/
def putF (o m : Nat) (fv f : Nat → SV) : Nat → SV := fun k => bif Nat.ble o k && Nat.ble (k + 1) (o + m) then fv (k - o) else f k
def putR (i o m : Nat) (fv : Nat → SV) (f : Nat → Nat → SV) : Nat → Nat → SV := fun j k => bif Nat.beq j i then putF o m fv (f j) k else f j k
def zF (zs : List Value) : Nat → SV := fun k => .val (zs.getD k undef)
def catF (n : Nat) (f g : Nat → Nat → SV) : Nat → Nat → SV := fun i k => if i < n then f i k else g (i - n) k

/-- the cells of a list of elements -/
def rowF {α : Type} [Inhabited α] (enc : α → Nat → SV) (l : List α) : Nat → Nat → SV := fun i => enc (l.getD i default)
def intF (z : Int) : Nat → SV := fun _ => .val (.int .i64 z)
/-- cells one by one -/
def litF (l : List SV) : Nat → SV := fun k => l.getD k .any
def tabF (f : Nat → SV) : Nat → Nat → List SV
  | 0, _ => []
  | n + 1, i => f i :: tabF f n (i + 1)
theorem tabF_get {f : Nat → SV} : ∀ (n i k : Nat), k < n → (tabF f n i).getD k .any = f (i + k)
  | 0, _, _, h => absurd h (by omega)
  | n + 1, i, 0, _ => rfl
  | n + 1, i, k + 1, h => by
    have := tabF_get (f := f) n (i + 1) k (by omega)
    rw [show i + (k + 1) = i + 1 + k by omega, ← this]
    rfl
/-- a value without keys, its cells one by one -/
def SV.bare : SV → SV
  | .ptr _ g o => .val (.pointer (some ⟨g, o, none⟩))
  | .own _ v => .val v
  | .rp _ g sz i o => .val (.pointer (some ⟨g, i * sz + o, none⟩))
  | .agg n f => .agg n (litF (tabF (fun k => (f k).bare) n 0))
  | .ifc t s => .ifc t s.bare
  | .fn f n g => .fn f n (litF (tabF (fun k => (g k).bare) n 0))
  | s => s
/-- its cells one by one -/
def SV.norm : SV → SV
  | .agg n f => .agg n (litF (tabF (fun k => (f k).norm) n 0))
  | .tup n f => .tup n (litF (tabF (fun k => (f k).norm) n 0))
  | .ifc t s => .ifc t s.norm
  | .fn f n g => .fn f n (litF (tabF (fun k => (g k).norm) n 0))
  | s => s
/-- the keys raised by nx -/
def SV.lift (nx : Nat) : SV → SV
  | .ptr k g o => .ptr (nx + k) g o
  | .own k v => .own (nx + k) v
  | .rp k g sz i o => .rp (nx + k) g sz i o
  | .vw k g sz i n c => .vw (nx + k) g sz i n c
  | .agg n f => .agg n fun k => (f k).lift nx
  | .tup n f => .tup n fun k => (f k).lift nx
  | .ifc t s => .ifc t (s.lift nx)
  | .fn f n g => .fn f n fun k => (g k).lift nx
  | s => s
theorem Has.bare {w : World} {F : Nat → Prop} : ∀ {s : SV} {v : Value}, Has w F s v → Has w F s.bare v
  | .any, _, h => h
  | .val _, _, h => h
  | .agg n f, _, ⟨vs, e, hn, h⟩ => ⟨vs, e, hn, fun k hk => by
      have := tabF_get (f := fun k => (f k).bare) n 0 k hk
      rw [Nat.zero_add] at this
      show Has w F ((tabF (fun k => (f k).bare) n 0).getD k .any) _
      rw [this]
      exact Has.bare (h k hk)⟩
  | .tup _ _, _, h => h
  | .sl _ _ _, _, h => h
  | .ref _ _ _ _, _, h => h
  | .pp _ _, _, h => h
  | .ptr _ _ _, _, h => h
  | .own _ _, _, h => h
  | .rp _ _ _ _ _, _, h => h
  | .vw _ _ _ _ _ _, _, h => h
  | .ifc _ _, _, ⟨v, e, h⟩ => ⟨v, e, Has.bare h⟩
  | .fn f n g, _, ⟨vs, e, hn, h⟩ => ⟨vs, e, hn, fun k hk => by
      have := tabF_get (f := fun k => (g k).bare) n 0 k hk
      rw [Nat.zero_add] at this
      show Has w F ((tabF (fun k => (g k).bare) n 0).getD k .any) _
      rw [this]
      exact Has.bare (h k hk)⟩
theorem Has.norm {w : World} {F : Nat → Prop} : ∀ {s : SV} {v : Value}, Has w F s v → Has w F s.norm v
  | .any, _, h => h
  | .val _, _, h => h
  | .agg n f, _, ⟨vs, e, hn, h⟩ => ⟨vs, e, hn, fun k hk => by
      have := tabF_get (f := fun k => (f k).norm) n 0 k hk
      rw [Nat.zero_add] at this
      show Has w F ((tabF (fun k => (f k).norm) n 0).getD k .any) _
      rw [this]
      exact Has.norm (h k hk)⟩
  | .tup n f, _, ⟨vs, e, hn, h⟩ => ⟨vs, e, hn, fun k hk => by
      have := tabF_get (f := fun k => (f k).norm) n 0 k hk
      rw [Nat.zero_add] at this
      show Has w F ((tabF (fun k => (f k).norm) n 0).getD k .any) _
      rw [this]
      exact Has.norm (h k hk)⟩
  | .sl _ _ _, _, h => h
  | .ref _ _ _ _, _, h => h
  | .pp _ _, _, h => h
  | .ptr _ _ _, _, h => h
  | .own _ _, _, h => h
  | .rp _ _ _ _ _, _, h => h
  | .vw _ _ _ _ _ _, _, h => h
  | .ifc _ _, _, ⟨v, e, h⟩ => ⟨v, e, Has.norm h⟩
  | .fn f n g, _, ⟨vs, e, hn, h⟩ => ⟨vs, e, hn, fun k hk => by
      have := tabF_get (f := fun k => (g k).norm) n 0 k hk
      rw [Nat.zero_add] at this
      show Has w F ((tabF (fun k => (g k).norm) n 0).getD k .any) _
      rw [this]
      exact Has.norm (h k hk)⟩
theorem Has.lift {w : World} {F : Nat → Prop} (nx : Nat) : ∀ {s : SV} {v : Value}, Has w F s v → Has w F (s.lift nx) v
  | .any, _, h => h
  | .val _, _, h => h
  | .agg _ _, _, ⟨vs, e, hn, h⟩ => ⟨vs, e, hn, fun k hk => Has.lift nx (h k hk)⟩
  | .tup _ _, _, ⟨vs, e, hn, h⟩ => ⟨vs, e, hn, fun k hk => Has.lift nx (h k hk)⟩
  | .sl _ _ _, _, h => h
  | .ref _ _ _ _, _, h => h
  | .pp _ _, _, h => h
  | .ptr _ _ _, _, h => h
  | .own _ _, _, h => h
  | .rp _ _ _ _ _, _, h => h
  | .vw _ _ _ _ _ _, _, h => h
  | .ifc _ _, _, ⟨v, e, h⟩ => ⟨v, e, Has.lift nx h⟩
  | .fn _ _ _, _, ⟨vs, e, hn, h⟩ => ⟨vs, e, hn, fun k hk => Has.lift nx (h k hk)⟩

/-! ### Calls -/
def HasL (w : World) (F : Nat → Prop) : List SV → List Value → Prop
  | [], [] => True
  | s :: ss, v :: vs => Has w F s v ∧ HasL w F ss vs
  | _, _ => False
def callable (P : Program) (f : FuncId) : Prop := ∃ fn, P.funcs[f]? = some fn ∧ (fn.name == "runtime.NumGoroutine") = false ∧ fn.body.isNone = false
/-- a call, by the symbolic heap -/
structure SCalls (P : Program) (f : FuncId) (ss : List SV) (H : List Hp) (K : SV → List Hp → Prop) : Prop where
  ok : callable P f
  h : ∀ w F vs, HSat w F H → HasL w F ss vs → Calls P f vs.toArray w fun e w' => ∃ v, e = .returned v ∧ ∃ r F' H', K r H' ∧ Keep F w w' ∧ (∀ b, F b → F' b) ∧ HSat w' F' H' ∧ Has w' F' r v
/-- a function that leaves the heap as it is -/
structure SRet (P : Program) (f : FuncId) (ss : List SV) (Φ : SV → Prop) : Prop where
  h : ∀ R, SCalls P f ss [.cust R] fun r H' => H' = [.cust R] ∧ Φ r
/-- a function that hands back new pieces -/
structure SNew (P : Program) (f : FuncId) (ss : List SV) (Φ : SV → List Hp → Prop) : Prop where
  h : ∀ R, SCalls P f ss [.cust R] fun r H' => ∃ N, H' = N ++ [.cust R] ∧ Φ r N
/-- a function that turns one piece -/
structure SMut (P : Program) (f : FuncId) (ss : List SV) (p : Hp) (Φ : SV → List Hp → Hp → Prop) : Prop where
  h : ∀ R, SCalls P f ss [p, .cust R] fun r H' => ∃ N p', H' = N ++ [p', .cust R] ∧ Φ r N p'
/-- nothing that must stand still -/
def SV.free : SV → Prop
  | .any | .val _ | .ptr _ _ _ | .own _ _ | .rp _ _ _ _ _ | .vw _ _ _ _ _ _ => True
  | .ifc _ s => s.free
  | .fn _ n g => ∀ k, k < n → (g k).free
  | .agg n f => ∀ k, k < n → (f k).free
  | .tup n f => ∀ k, k < n → (f k).free
  | _ => False
def Hp.free : Hp → Prop
  | .emp => True
  | .box _ _ n f => ∀ k, k < n → (f k).free
  | .row _ _ sz n f => ∀ i k, i < n → k < sz → (f i k).free
  | .cust h => ∀ (w : World) (F F' : Nat → Prop), h.holds w F → h.holds w F'
def keyN : Nat → List Hp → Hpl → Hpl
  | _, [], L => L
  | nx, h :: N, L => (nx, h) :: keyN (nx + 1) N L
/-- a call by a contract, in the heap at hand; borrowed: all that is owned stands still while it runs -/
inductive CallN (P : Program) (f : FuncId) (ss : List SV) : Hpl → Nat → KK → Prop where
  | ret {L : Hpl} {nx : Nat} {K : KK} (Φ : SV → Prop) (h : SRet P f ss Φ) (k : ∀ r, Φ r → K (r.lift nx) L (nx + 10)) : CallN P f ss L nx K
  | new {L : Hpl} {nx : Nat} {K : KK} (Φ : SV → List Hp → Prop) (h : SNew P f ss Φ) (k : ∀ r N, Φ r N → K (r.lift nx) (keyN nx N L) (nx + 10)) : CallN P f ss L nx K
  | turn {L : Hpl} {nx : Nat} {K : KK} (i : Nat) (c : Heaplet) (Φ : SV → List Hp → Hp → Prop) (hl : lk i L = .cust c) (h : SMut P f ss (.cust c) Φ) (k : ∀ r N p', Φ r N p' → K (r.lift nx) (keyN nx N (setK i p' L)) (nx + 10)) : CallN P f ss L nx K
  | newB {L : Hpl} {nx : Nat} {K : KK} (ss' : List SV) (Φ : SV → List Hp → Prop) (h : SNew P f ss' Φ) (hb : ∀ w F vs, HSat w F (L.map Prod.snd) → HasL w F ss vs → HasL w (fun b => b < w.heap.size) ss' vs)
      (hf : ∀ r N, Φ r N → r.free ∧ ∀ p ∈ N, p.free) (k : ∀ r N, Φ r N → K (r.lift nx) (keyN nx N L) (nx + 10)) : CallN P f ss L nx K
  | newF {L : Hpl} {nx : Nat} {K : KK} (ss' : List SV) (Φ : SV → List Hp → Prop) (Ψ : SV → Prop) (h : SNew P f ss' Φ) (hb : ∀ w F vs, HSat w F (L.map Prod.snd) → HasL w F ss vs → HasL w (fun b => b < w.heap.size) ss' vs)
      (hf : ∀ r N, Φ r N → r.free ∧ ∀ p ∈ N, p.free) (hz : ∀ r N, Φ r N → ∃ r', Ψ r' ∧ ∀ H w F v, HSat w F (N ++ H) → Has w F r v → ∃ F', (∀ b, F b → F' b) ∧ HSat w F' H ∧ Has w F' r' v) (k : ∀ r, Ψ r → K (r.lift nx) L (nx + 10)) : CallN P f ss L nx K
  | gen {L : Hpl} {nx : Nat} {K : KK} (h : SCalls P f ss (L.map Prod.snd) fun r H => ∃ L', H = L'.map Prod.snd ∧ (∀ k g t n f, k < nx → lk k L = .box g t n f → lk k L' = .box g t n f) ∧ K (r.lift nx) L' (nx + 10)) : CallN P f ss L nx K
  | keep {L : Hpl} {nx : Nat} {K : KK} (i : Nat) (p : Hp) (Φ : SV → Prop) (hl : lk i L = p) (hp : p ≠ .emp) (h : SMut P f ss p fun r N p' => N = [] ∧ p' = p ∧ Φ r) (k : ∀ r, Φ r → K (r.lift nx) L (nx + 10)) : CallN P f ss L nx K
  | le {L : Hpl} {nx : Nat} {K : KK} (L' : Hpl) (hl : ∀ w F, HSat w F (L.map Prod.snd) → HSat w F (L'.map Prod.snd)) (hb : ∀ k g t n f, lk k L = .box g t n f → lk k L' = .box g t n f) (h : CallN P f ss L' nx K) : CallN P f ss L nx K
/-- an operation by a law of its own -/
structure Fgn (P : Program) (o : Oper) (ss : List SV) (L : Hpl) (nx : Nat) (K : KK) : Prop where
  h : ∀ w F (ev : Operand → Value), HSat w F (L.map Prod.snd) → HasL w F ss (o.op.operands.toList.map ev) → StepV P o ev w fun v w' =>
    ∃ r L' nx' F', ((∀ k g t n f, k < nx → lk k L = .box g t n f → lk k L' = .box g t n f) ∧ nx ≤ nx' ∧ K r L' nx') ∧ Keep F w w' ∧ (∀ b, F b → F' b) ∧ HSat w' F' (L'.map Prod.snd) ∧ Has w' F' r v
/-- a map's length is told by the heap -/
def isMapV : SV → Bool
  | .val (.map _) => true
  | _ => false
/-- values and lists brought into sight -/
def fc (s : SV) (K : SV → Prop) : Prop :=
  match s with
  | .any => K .any
  | .val v => K (.val v)
  | .agg n f => K (.agg n f)
  | .tup n f => K (.tup n f)
  | .sl sz n f => K (.sl sz n f)
  | .ref b o n f => K (.ref b o n f)
  | .pp n f => K (.pp n f)
  | .ptr k g o => K (.ptr k g o)
  | .own k v => K (.own k v)
  | .rp k g sz i o => K (.rp k g sz i o)
  | .vw k g sz i n c => K (.vw k g sz i n c)
  | .ifc t s => K (.ifc t s)
  | .fn f n g => K (.fn f n g)
theorem fc_eq (s : SV) (K : SV → Prop) : fc s K = K s := by cases s <;> rfl
def fcL : List SV → (List SV → Prop) → Prop
  | [], K => K []
  | s :: l, K => fc s fun s => fcL l fun l => K (s :: l)
theorem fcL_eq : ∀ (l : List SV) (K : List SV → Prop), fcL l K = K l
  | [], _ => rfl
  | s :: l, K => by unfold fcL; rw [fc_eq, fcL_eq l]
def fcH : List Hp → (List Hp → Prop) → Prop
  | [], K => K []
  | h :: l, K => fcH l fun l =>
    match h with
    | .emp => K (.emp :: l)
    | .box g t n f => K (.box g t n f :: l)
    | .row v e sz n f => K (.row v e sz n f :: l)
    | .cust x => K (.cust x :: l)
theorem fcH_eq : ∀ (l : List Hp) (K : List Hp → Prop), fcH l K = K l
  | [], _ => rfl
  | h :: l, K => by unfold fcH; rw [fcH_eq l]; cases h <;> rfl

def fcK : Hpl → (Hpl → Prop) → Prop
  | [], K => K []
  | (k, h) :: l, K => fcK l fun l =>
    match h with
    | .emp => K ((k, .emp) :: l)
    | .box g t n f => K ((k, .box g t n f) :: l)
    | .row v e sz n f => K ((k, .row v e sz n f) :: l)
    | .cust x => K ((k, .cust x) :: l)
theorem fcK_eq : ∀ (l : Hpl) (K : Hpl → Prop), fcK l K = K l
  | [], _ => rfl
  | (k, h) :: l, K => by unfold fcK; rw [fcK_eq l]; cases h <;> rfl

/-! ### One operation -/
def sAlloc (t : TypeId) (i : TI) (L : Hpl) (nx : Nat) (K : KK) : Prop :=
  match i.w with
  | some (_, n) => ∀ g, K (.ptr nx g 0) ((nx, .box g t n (zF i.zc)) :: L) (nx + 1)
  | none => False
def sBoxC (t : TypeId) (m : Nat) (fv : Nat → SV) (L : Hpl) (nx : Nat) (K : KK) : Prop :=
  bif allOne m fv then ∀ g, K (.ptr nx g 0) ((nx, .box g t m fv) :: L) (nx + 1) else False
def sBox (t : TypeId) (x : SV) (L : Hpl) (nx : Nat) (K : KK) : Prop :=
  match x.cells with
  | (m, fv) => sBoxC t m fv L nx K
theorem sBox_eq (t : TypeId) (x : SV) (L : Hpl) (nx : Nat) (K : KK) : sBox t x L nx K = sBoxC t x.cells.1 x.cells.2 L nx K := rfl
/-- what a plain operation gives: nothing; a value; a value under a condition; a sum; one of two -/
inductive PR where
  | no
  | nc (r : SV)
  | ok (c : Prop) (r : SV)
  | ar (c : Prop) (k : IntKind) (z : Int)
  | eq (c : Prop) (k : IntKind) (z : Int)
  | br (β : Bool) (a b : SV)
/-- the remainder, as the tactic says it -/
structure Rm (a b : Int) (K : Int → Prop) : Prop where
  h : ∃ z, a.tmod b = z ∧ K z
/-- a number, as the tactic says it -/
structure Eqv (z : Int) (K : Int → Prop) : Prop where
  h : ∃ z', z = z' ∧ K z'
def PR.run : PR → (SV → Prop) → Prop
  | .no, _ => False
  | .nc r, K => K r
  | .ok c r, K => Chk c (K r)
  | .ar c k z, K => Chk c (Ar k z fun z => K (.val (.int k z)))
  | .eq c k z, K => Chk c (Eqv z fun z => K (.val (.int k z)))
  | .br β a b, K => Br β (K a) (K b)
def pLoad (i : TI) (a : SV) (L : Hpl) : PR :=
  match i.w with
  | none => .no
  | some (ag, m) =>
    match a with
    | .ref _ _ n f => .ok (m ≤ n) (bif ag then .agg m f else f 0)
    | .pp n f => .ok (m ≤ n) (bif ag then .agg m f else f 0)
    | .ptr k g off => match lk k L with
      | .box g' _ n f => .ok (g = g' ∧ off + m ≤ n) (bif ag then .agg m fun j => f (off + j) else f off)
      | _ => .no
    | .rp k g sz i o => match lk k L with
      | .row v _ sz' n f => .ok (v.ownBlock = some g ∧ sz = sz' ∧ i < n ∧ o + m ≤ sz) (bif ag then .agg m fun j => f i (o + j) else f i o)
      | _ => .no
    | _ => .no
def sStoreC (i : TI) (a : SV) (xm : Nat) (xf : Nat → SV) (L : Hpl) (K : Hpl → Prop) : Prop :=
  match i.w with
  | none => False
  | some (_, m) => bif Nat.beq m xm && allOne m xf then
    match a with
    | .ptr k g off => match lk k L with
      | .box g' t n f => Chk (g = g' ∧ off + m ≤ n) (K (setK k (.box g' t n (putF off m xf f)) L))
      | _ => False
    | .rp k g sz i o => match lk k L with
      | .row v e sz' n f => Chk (v.ownBlock = some g ∧ sz = sz' ∧ i < n ∧ o + m ≤ sz) (K (setK k (.row v e sz' n (putR i o m xf f)) L))
      | _ => False
    | _ => False
    else False
def sStore (i : TI) (a x : SV) (L : Hpl) (K : Hpl → Prop) : Prop :=
  match x.cells with
  | (xm, xf) => sStoreC i a xm xf L K
theorem sStore_eq (i : TI) (a x : SV) (L : Hpl) (K : Hpl → Prop) : sStore i a x L K = sStoreC i a x.cells.1 x.cells.2 L K := rfl
def pNil (x : SV) : PR :=
  match x with
  | .ptr _ _ _ | .ref _ _ _ _ | .pp _ _ | .rp _ _ _ _ _ | .val (.pointer (some _)) => .nc x
  | _ => .no
def pField (i : TI) (x : SV) (k : Nat) : PR :=
  match i with
  | .st _ fl _ _ => match fl[k]? with
    | some (fo, _) => match x with
      | .ref b o n f => .ok (fo ≤ n) (.ref b (o + fo) (n - fo) fun j => f (fo + j))
      | .pp n f => .ok (fo ≤ n) (.pp (n - fo) fun j => f (fo + j))
      | .ptr k g o => .nc (.ptr k g (o + fo))
      | .rp k g sz i o => .nc (.rp k g sz i (o + fo))
      | _ => .no
    | none => .no
  | _ => .no
def pIndex (i : TI) (x ix : SV) : PR :=
  match ix with
  | .val (.int _ z) => match i with
    | .slc _ esz _ _ => match x with
      | .sl sz n f => .ok (0 ≤ z ∧ z < n ∧ sz = esz) (.pp esz (f z.toNat))
      | _ => .no
    | .ar len esz _ _ => match x with
      | .ptr k g o => .ok (0 ≤ z ∧ z < len) (.ptr k g (o + z.toNat * esz))
      | .ref b o n f => .ok (0 ≤ z ∧ z < len ∧ z.toNat * esz + esz ≤ n) (.ref b (o + z.toNat * esz) esz fun j => f (z.toNat * esz + j))
      | .pp n f => .ok (0 ≤ z ∧ z < len ∧ z.toNat * esz + esz ≤ n) (.pp esz fun j => f (z.toNat * esz + j))
      | _ => .no
    | _ => .no
  | _ => .no
def sIndex (i : TI) (x ix : SV) (L : Hpl) (K : SV → Prop) : Prop :=
  match x with
  | .own k v => match ix, i with
    | .val (.int _ z), .slc _ esz _ _ => match lk k L with
        | .row v' _ sz n _ => Chk (v = v' ∧ 0 ≤ z ∧ z < n ∧ sz = esz) (∀ g, v.ownBlock = some g → K (.rp k g esz z.toNat 0))
        | _ => False
    | _, _ => False
  | x => (pIndex i x ix).run K
def pLen (i : TI) (x : SV) : PR :=
  match i with
  | .slc _ _ _ _ => match x with
    | .sl _ n _ => .nc (.val (.int .i64 n))
    | .own _ (.slice _ n _) => .nc (.val (.int .i64 n))
    | .val (.slice _ n _) => .nc (.val (.int .i64 n))
    | .vw _ _ _ _ n _ => .nc (.val (.int .i64 n))
    | _ => .no
  | .sc .string _ => match x with
    | .val (.string s) => .nc (.val (.int .i64 s.size))
    | _ => .no
  | _ => .no
def pCap (i : TI) (x : SV) : PR :=
  match i with
  | .slc _ _ _ _ => match x with
    | .own _ (.slice _ _ c) => .nc (.val (.int .i64 c))
    | .val (.slice _ _ c) => .nc (.val (.int .i64 c))
    | .vw _ _ _ _ _ c => .nc (.val (.int .i64 c))
    | _ => .no
  | _ => .no
/-- what an append takes its cells from -/
def sSrc (x : SV) (L : Hpl) (K : Nat → Nat → (Nat → Nat → SV) → Prop) : Prop :=
  match x with
  | .sl sz m g => K sz m g
  | .own k v => match lk k L with
    | .row v' _ sz m g => Chk (v = v') (K sz m g)
    | _ => False
  | .vw k g sz i n _ => match lk k L with
    | .row v' _ sz' N f => Chk (v'.ownBlock = some g ∧ sz = sz' ∧ i + n ≤ N ∧ 0 < n) (K sz n fun j => f (i + j))
    | _ => False
  | _ => False
/-- q elements from element i on are written -/
def blkF (i q : Nat) (g f : Nat → Nat → SV) : Nat → Nat → SV := fun j k => if i ≤ j ∧ j < i + q then g (j - i) k else f j k
def sAppend (i : TI) (s x : SV) (L : Hpl) (nx : Nat) (K : KK) : Prop :=
  match i with
  | .slc e esz _ _ => match s with
    | .own k v => match lk k L with
      | .row v' e' sz n f => sSrc x (setK k .emp L) fun sz' m g => Chk (v = v' ∧ e = e' ∧ sz = esz ∧ sz' = esz ∧ n + m ≤ 1000000000)
          (∀ A c, K (.own nx (.slice A (n + m) c)) ((nx, .row (.slice A (n + m) c) e esz (n + m) (catF n f g)) :: setK k .emp L) (nx + 1))
      | _ => False
    | .val (.slice none 0 0) => sSrc x L fun sz' m g => Chk (sz' = esz ∧ m ≤ 1000000000)
          (∀ A c, K (.own nx (.slice A m c)) ((nx, .row (.slice A m c) e esz m g) :: L) (nx + 1))
    | .vw k g sz i0 n c => match lk k L with
      | .row v' _ sz' N f => sSrc x L fun sz2 m g2 => Chk (v'.ownBlock = some g ∧ sz = esz ∧ sz' = esz ∧ sz2 = esz ∧ i0 + n ≤ N ∧ c < n + m ∧ n + m ≤ 1000000000)
          (∀ g c, K (.own nx (.slice (some ⟨g, 0, none⟩) (n + m) c)) ((nx, .row (.slice (some ⟨g, 0, none⟩) (n + m) c) e esz (n + m) (catF n (fun j => f (i0 + j)) g2)) :: L) (nx + 1))
      | _ => False
    | _ => False
  | _ => False
/-- zeros, so many, are appended to a slice that has no room for them -/
def sAppendZ (i j : TI) (s x : SV) (L : Hpl) (nx : Nat) (K : KK) : Prop :=
  match i, j with
  | .slc e esz _ zs, .sc (.int _) _ => match s, x with
    | .vw k g sz i0 n c, .val (.int _ cnt) => match lk k L with
      | .row v' _ sz' N f => Chk (v'.ownBlock = some g ∧ sz = esz ∧ sz' = esz ∧ i0 + n ≤ N ∧ 0 < cnt ∧ (c : Int) < n + cnt ∧ n + cnt ≤ 1000000000)
          (∀ g c, K (.own nx (.slice (some ⟨g, 0, none⟩) (n + cnt.toNat) c)) ((nx, .row (.slice (some ⟨g, 0, none⟩) (n + cnt.toNat) c) e esz (n + cnt.toNat) (catF n (fun j => f (i0 + j)) fun _ => zF zs)) :: L) (nx + 1))
      | _ => False
    | _, _ => False
  | _, _ => False
/-- a copy into an owned row -/
def sCopy (i : TI) (d s : SV) (L : Hpl) (nx : Nat) (K : KK) : Prop :=
  match i with
  | .slc _ esz _ _ => match d with
    | .vw k g sz i0 n _ => match lk k L with
      | .row v' e' sz' N f => sSrc s (setK k .emp L) fun sz2 m g2 => Chk (v'.ownBlock = some g ∧ sz = esz ∧ sz' = esz ∧ sz2 = esz ∧ i0 + n ≤ N ∧ 0 < n ∧ 0 < m)
          (K (.val (.int .i64 (Nat.min m n : Nat))) (setK k (.row v' e' sz' N (blkF i0 (Nat.min m n) g2 f)) L) nx)
      | _ => False
    | _ => False
  | _ => False
def sMake (i : TI) (l c : SV) (L : Hpl) (nx : Nat) (K : KK) : Prop :=
  match i, l, c with
  | .slc e esz _ zs, .val (.int .i64 l), .val (.int .i64 c) => Chk (0 ≤ l ∧ l ≤ c ∧ c ≤ 1000000000)
      (∀ g, K (.own nx (.slice (some ⟨g, 0, none⟩) l.toNat c.toNat)) ((nx, .row (.slice (some ⟨g, 0, none⟩) l.toNat c.toNat) e esz l.toNat fun _ => zF zs) :: L) (nx + 1))
  | _, _, _ => False
def pSlice (i : TI) (x : SV) (lo hi : Option SV) : PR :=
  match i, x with
  | .slc _ esz _ _, .sl sz n f =>
    match lo, hi with
    | some (.val (.int _ l)), some (.val (.int _ h)) => .ok (0 ≤ l ∧ l ≤ h ∧ h ≤ n ∧ sz = esz) (.sl sz (h.toNat - l.toNat) fun i => f (l.toNat + i))
    | none, some (.val (.int _ h)) => .ok (0 ≤ h ∧ h ≤ n ∧ sz = esz) (.sl sz h.toNat f)
    | some (.val (.int _ l)), none => .ok (0 ≤ l ∧ l ≤ n ∧ sz = esz) (.sl sz (n - l.toNat) fun i => f (l.toNat + i))
    | _, _ => .no
  | _, _ => .no
/-- cells of int, compared one by one -/
def eqC (f g : Nat → SV) : Nat → Nat → Option Bool
  | 0, _ => some true
  | m + 1, k => match f k, g k with
    | .val (.int .i64 a), .val (.int .i64 b) => match eqC f g m (k + 1) with
      | some r => some ((a == b) && r)
      | none => none
    | _, _ => none
def pBin (op : BinOp) (d : TI) (x y : SV) : PR :=
  match x, y with
  | .val (.int k a), .val (.int k' b) => bif decide (k = k') then
    match op with
    | .add => .ar True k (a + b)
    | .sub => .ar True k (a - b)
    | .mul => .ar True k (a * b)
    | .quo => .ar (b ≠ 0) k (a.tdiv b)
    | .rem => .ok (b ≠ 0) (.val (.int k (a.tmod b)))
    | .shr => .eq (0 ≤ b) k (a / 2 ^ min b.toNat k.bits)
    | .xor => .eq True k (bits .xor k a b)
    | .eql => .nc (.val (.bool (a == b)))
    | .neq => .nc (.val (.bool (a != b)))
    | .lss => .nc (.val (.bool (decide (a < b))))
    | .leq => .nc (.val (.bool (decide (a ≤ b))))
    | .gtr => .nc (.val (.bool (decide (a > b))))
    | .geq => .nc (.val (.bool (decide (a ≥ b))))
    | _ => .no
    else .no
  | .val (.bool a), .val (.bool b) => match d with
    | .sc .bool _ => match op with
      | .eql => .nc (.val (.bool (a == b)))
      | .neq => .nc (.val (.bool (!(a == b))))
      | _ => .no
    | _ => .no
  | .agg n f, .agg m g => match d with
    | .st sz _ _ true => bif Nat.beq n sz && Nat.beq m sz then
      match eqC f g sz 0 with
      | some r => match op with
        | .eql => .nc (.val (.bool r))
        | .neq => .nc (.val (.bool (!r)))
        | _ => .no
      | none => .no
      else .no
    | _ => .no
  | .val (.pointer none), .val (.pointer none) => match d with
    | .sc (.pointer _) _ => match op with
      | .eql => .nc (.val (.bool true))
      | .neq => .nc (.val (.bool false))
      | _ => .no
    | _ => .no
  | x, .val (.pointer none) => match d, x with
    | .sc (.pointer _) _, .ptr _ _ _ | .sc (.pointer _) _, .ref _ _ _ _ | .sc (.pointer _) _, .pp _ _ | .sc (.pointer _) _, .rp _ _ _ _ _ => match op with
      | .eql => .nc (.val (.bool false))
      | .neq => .nc (.val (.bool true))
      | _ => .no
    | _, _ => .no
  | _, _ => .no
/-- a value of an interface type against the literal nil -/
def pNilI (op : BinOp) (d : TI) (x : SV) : PR :=
  match d with
  | .sc (.interface _) _ => match x with
    | .val .nilIface => match op with
      | .eql => .nc (.val (.bool true))
      | .neq => .nc (.val (.bool false))
      | _ => .no
    | .ifc _ _ | .val (.iface _ _) => match op with
      | .eql => .nc (.val (.bool false))
      | .neq => .nc (.val (.bool true))
      | _ => .no
    | _ => .no
  | _ => .no
/-- two pointers to cells that stand still -/
def pPtr (op : BinOp) (d : TI) (b o b' o' : Nat) : PR :=
  match d with
  | .st sz _ _ _ => bif Nat.blt 0 sz then
    match op with
    | .eql => .nc (.val (.bool (decide (b = b' ∧ o = o'))))
    | .neq => .nc (.val (.bool (!decide (b = b' ∧ o = o'))))
    | _ => .no
    else .no
  | _ => .no
def pBinR (tt : List (Nat × TI)) (op : BinOp) (d : TI) (x y : SV) : PR :=
  match d, x, y with
  | .sc (.pointer e) _, .ref b o _ _, .ref b' o' _ _ => pPtr op (fetch e tt) b o b' o'
  | d, x, y => pBin op d x y
def pBinO (tt : List (Nat × TI)) (op : BinOp) (d : TI) (yo : Operand) (x y : SV) : PR :=
  match yo with
  | .const .nilIface => pNilI op d x
  | _ => pBinR tt op d x y
/-- an interface value is made, is asked for its type -/
def pMkI (i : TI) (t : TypeId) (x : SV) : PR :=
  match i with
  | .st _ _ _ _ | .ar _ _ _ _ | .slc _ _ _ _ | .sc (.int _) _ | .sc .string _ | .sc .bool _ | .sc (.pointer _) _ => .nc (.ifc t x)
  | _ => .no
def TI.zv : TI → SV
  | .sc _ z => .val z
  | .slc _ _ _ _ => .val (.slice none 0 0)
  | .st n _ zs _ | .ar _ _ n zs => .agg n (zF zs)
  | .bad => .any
def pAssert (i : TI) (t : TypeId) (x : SV) (ok : Bool) : PR :=
  match ok, x with
  | true, .ifc t' s => match i with
    | .st _ _ _ _ | .ar _ _ _ _ | .slc _ _ _ _ | .sc (.int _) _ | .sc .string _ | .sc .bool _ | .sc (.pointer _) _ =>
      bif Nat.beq t' t then .nc (.tup 2 (litF [s, .val (.bool true)])) else .nc (.tup 2 (litF [i.zv, .val (.bool false)]))
    | _ => .no
  | _, _ => .no
def pFn (f : Fn) (first : List SV) (caps : List SV) : PR :=
  match f, first with
  | .func f, [] => .nc (.fn f caps.length (litF caps))
  | _, _ => .no
def pConv (i j : TI) (x : SV) : PR :=
  match i, j, x with
  | .sc (.int _) _, .sc (.int k) _, .val (.int _ n) => .ar True k n
  | _, _, _ => .no
def pMax (l : List SV) : PR :=
  match l with
  | [.val (.int k x), .val (.int _ y)] => .nc (.val (.int k (if y > x then y else x)))
  | _ => .no
def pUn (op : UnOp) (x : SV) : PR :=
  match op, x with
  | .not, .val (.bool b) => .nc (.val (.bool (!b)))
  | .neg, .val (.int k a) => .ar True k (0 - a)
  | _, _ => .no
def pPick (c x y : SV) : PR :=
  match c with
  | .val (.bool β) => .br β x y
  | _ => .no
def pExtract (x : SV) (k : Nat) : PR :=
  match x with
  | .tup n f => bif Nat.blt k n then .nc (f k) else .no
  | _ => .no
def pGet (tt : List (Nat × TI)) (i : TI) (x : SV) (k : Nat) : PR :=
  match i, x with
  | .st _ fl _ _, .agg n f => match fl[k]? with
    | some (fo, ft) => match (fetch ft tt).w with
      | some (ag, m) => .ok (fo + m ≤ n) (bif ag then .agg m fun j => f (fo + j) else f fo)
      | none => .no
    | none => .no
  | _, _ => .no
def buildF (tt : List (Nat × TI)) (fl : List (Nat × Nat)) (sz : Nat) : List (Nat × SV) → (Nat → SV) → PR
  | [], f => .nc (.agg sz f)
  | (i, x) :: rest, f => match fl[i]? with
    | some (fo, ft) => match (fetch ft tt).w with
      | some (_, m) => match x.cells with
        | (xm, xf) => bif Nat.beq m xm && Nat.ble (fo + m) sz && allOne m xf then buildF tt fl sz rest (putF fo m xf f) else .no
      | none => .no
    | none => .no
def pBuild (tt : List (Nat × TI)) (i : TI) (ps : List (Nat × SV)) : PR :=
  match i with
  | .st sz fl zs _ => buildF tt fl sz ps (zF zs)
  | _ => .no
def buildR (esz len : Nat) : List (Nat × SV) → (Nat → Nat → SV) → ((Nat → Nat → SV) → Prop) → Prop
  | [], f, K => K f
  | (i, x) :: rest, f, K => match x.cells with
    | (xm, xf) => bif Nat.beq esz xm && Nat.blt i len && allOne esz xf then buildR esz len rest (putR i 0 esz xf f) K else False
/-- all elements are written, and are ints -/
def intsOf : List (Nat × SV) → Nat → Nat → Option (List Int)
  | [], n, len => bif Nat.beq n len then some [] else none
  | (i, .val (.int .i64 z)) :: rest, n, len => bif Nat.beq i n then
      match intsOf rest (n + 1) len with
      | some l => some (z :: l)
      | none => none
      else none
  | _, _, _ => none
def sBuildI (e esz len : Nat) (zs : List Value) (ps : List (Nat × SV)) (o : Option (List Int)) (L : Hpl) (nx : Nat) (K : KK) : Prop :=
  match o with
  | some l => ∀ g, K (.own nx (.slice (some ⟨g, 0, none⟩) len len)) ((nx, .row (.slice (some ⟨g, 0, none⟩) len len) e esz len (rowF intF l)) :: L) (nx + 1)
  | none => buildR esz len ps (fun _ => zF zs) fun f => ∀ g, K (.own nx (.slice (some ⟨g, 0, none⟩) len len)) ((nx, .row (.slice (some ⟨g, 0, none⟩) len len) e esz len f) :: L) (nx + 1)
def sBuildS (i : TI) (len : Nat) (ps : List (Nat × SV)) (L : Hpl) (nx : Nat) (K : KK) : Prop :=
  match i with
  | .slc e esz _ zs => Chk (len * esz ≤ 1000000) (sBuildI e esz len zs ps (bif Nat.beq esz 1 then intsOf ps 0 len else none) L nx K)
  | _ => False

/-- the plain operations: they look at their operands, and at the heap -/
def pop (tt : List (Nat × TI)) (o : Oper) (σ : Fr) (L : Hpl) : PR :=
  match o.op with
  | .move x | .assign x => .nc (sv σ x)
  | .pick c a b => pPick (sv σ c) (sv σ a) (sv σ b)
  | .build t ps => pBuild tt (fetch t tt) (ps.toList.map fun p => (p.1, sv σ p.2))
  | .load t a => pLoad (fetch t tt) (sv σ a) L
  | .nilCheck x => pNil (sv σ x)
  | .binOp op t x y _ => pBinO tt op (fetch t tt) y (sv σ x) (sv σ y)
  | .unOp op _ x => pUn op (sv σ x)
  | .fieldAddr t x k => pField (fetch t tt) (sv σ x) k
  | .field t x k => pGet tt (fetch t tt) (sv σ x) k
  | .extract x k => pExtract (sv σ x) k
  | .makeInterface t x => pMkI (fetch t tt) t (sv σ x)
  | .typeAssert x _ t ok => pAssert (fetch t tt) t (sv σ x) ok
  | .makeFunc f first caps => pFn f (first.toList.map (sv σ)) (caps.toList.map (sv σ))
  | .convert s d x => pConv (fetch s tt) (fetch d tt) (sv σ x)
  | .call c => match c.callee with
    | .builtin .max => pMax (c.args.toList.map (sv σ))
    | .builtin .cap => match c.args.toList, c.argTypes.toList with
      | [x], [t] => pCap (fetch t tt) (sv σ x)
      | _, _ => .no
    | .builtin .len => match c.args.toList, c.argTypes.toList with
      | [x], [t] => pLen (fetch t tt) (sv σ x)
      | _, _ => .no
    | _ => .no
  | _ => .no

/-- a slice that owns is cut; another is looked at -/
def sSlice (i : TI) (x : SV) (lo hi : Option SV) (L : Hpl) (nx : Nat) (K : KK) : Prop :=
  match x with
  | .own k v => match i, lo, hi with
    | .slc e esz _ _, none, some (.val (.int _ h)) => match lk k L with
      | .row v' e' sz n f => Chk (v = v' ∧ 0 ≤ h ∧ h ≤ n ∧ sz = esz) (∀ A c, K (.own nx (.slice A h.toNat c)) ((nx, .row (.slice A h.toNat c) e' sz h.toNat f) :: setK k .emp L) (nx + 1))
      | _ => False
    | .slc e esz _ _, some (.val (.int _ l)), none => match v with
      | .slice (some ⟨g, 0, none⟩) n c => match lk k L with
        | .row v' e' sz n' f => Chk (v = v' ∧ 0 ≤ l ∧ l ≤ n ∧ sz = esz) (K (.vw k g esz l.toNat (n - l.toNat) (c - l.toNat)) L nx)
        | _ => False
      | _ => False
    | _, _, _ => False
  | .vw k g sz i0 n c => match i, lo, hi with
    | .slc _ esz _ _, some (.val (.int _ l)), none => Chk (0 ≤ l ∧ l ≤ n ∧ sz = esz) (K (.vw k g sz (i0 + l.toNat) (n - l.toNat) (c - l.toNat)) L nx)
    | .slc _ esz _ _, none, some (.val (.int _ h)) => Chk (0 ≤ h ∧ h ≤ n ∧ sz = esz) (K (.vw k g sz i0 h.toNat c) L nx)
    | _, _, _ => False
  | x => (pSlice i x lo hi).run fun r => K r L nx
def sFgn (P : Program) (o : Oper) (σ : Fr) (L : Hpl) (nx : Nat) (K : KK) : Prop :=
  fcK L fun L => fcL (o.op.operands.toList.map (sv σ)) fun ss => Fgn P o ss L nx K
def sop (P : Program) (tt : List (Nat × TI)) (o : Oper) (σ : Fr) (L : Hpl) (nx : Nat) (K : KK) : Prop :=
  match o.op with
  | .alloc t => sAlloc t (fetch t tt) L nx K
  | .box t x => sBox t (sv σ x) L nx K
  | .buildSlice t n ps => sBuildS (fetch t tt) n (ps.toList.map fun p => (p.1, sv σ p.2)) L nx K
  | .store t a x => sStore (fetch t tt) (sv σ a) (sv σ x) L fun L' => K (.val undef) L' nx
  | .indexAddr t x i => sIndex (fetch t tt) (sv σ x) (sv σ i) L fun r => K r L nx
  | .makeSlice t l c => sMake (fetch t tt) (sv σ l) (sv σ c) L nx K
  | .slice t x lo hi none => sSlice (fetch t tt) (sv σ x) (lo.map (sv σ)) (hi.map (sv σ)) L nx K
  | .call c => match c.callee with
    | .value (.func f) => fcK L fun L => fcL (c.args.toList.map fun x => (sv σ x).bare) fun ss => CallN P f ss L nx K
    | .value (.tmp d) => match σ d with
      | .fn f n g => fcK L fun L => fcL ((c.args.toList.map fun x => (sv σ x).bare) ++ tabF (fun k => (g k).bare) n 0) fun ss => CallN P f ss L nx K
      | _ => False
    | .builtin .append => match c.args.toList, c.argTypes.toList with
      | [s, x], [t, t'] => bif Nat.beq t t' then sAppend (fetch t tt) (sv σ s) (sv σ x) L nx K else sAppendZ (fetch t tt) (fetch t' tt) (sv σ s) (sv σ x) L nx K
      | _, _ => False
    | .builtin .copy => match c.args.toList, c.argTypes.toList with
      | [d, s], [t, t'] => bif Nat.beq t t' then sCopy (fetch t tt) (sv σ d) (sv σ s) L nx K else False
      | _, _ => False
    | .builtin .len => match c.args.toList with
      | [x] => bif isMapV (sv σ x) then sFgn P o σ L nx K else (pop tt o σ L).run fun r => K r L nx
      | _ => (pop tt o σ L).run fun r => K r L nx
    | .builtin .close => sFgn P o σ L nx K
    | _ => (pop tt o σ L).run fun r => K r L nx
  | .makeMap _ _ | .mapUpdate _ _ _ _ | .lookup _ _ _ _ | .range _ _ | .next _ _ | .entry _ | .makeChan _ _ | .send _ _ | .recv _ _ _ | .index _ _ _ => sFgn P o σ L nx K
  | _ => (pop tt o σ L).run fun r => K r L nx
end Go.Proofs.Ytbcmpfhemangpaa
