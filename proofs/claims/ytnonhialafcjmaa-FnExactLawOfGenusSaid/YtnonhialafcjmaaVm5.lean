/- The evaluator: what one operation does to the abstract state, as an obligation. -/
import Derived.Test.YtnonhialafcjmaaVm4
set_option linter.unusedVariables false
set_option linter.unusedSimpArgs false
set_option linter.unusedSectionVars false
namespace Go.Vm
open Go Go.RowKit

inductive Ty where
  | int (k : IntKind) | bool | string | slice (e : Nat) | struct (fs : List (Nat × Nat)) | arr (n e : Nat) | ptr (e : Nat) | other
  deriving Inhabited

structure TyI where
  ty : Ty
  size : Nat
  bytes : Nat
  zero : Value
  deriving Inhabited

abbrev Tab := List TyI

def Ty.ofDesc : TypeDesc → Ty
  | .int k => .int k
  | .bool => .bool
  | .string => .string
  | .slice e => .slice e
  | .struct fs => .struct (fs.toList.map fun f => (f.offset, f.type))
  | .array n e => .arr n e
  | .pointer e => .ptr e
  | _ => .other

def Ty.agg : Ty → Bool
  | .struct _ | .arr _ _ => true
  | _ => false

def probe (P : Program) (t : Nat) : Option TyI :=
  match P.info? t, P.underlying t with
  | some i, some d => match i.zero with
    | some z => some ⟨Ty.ofDesc d, i.size, i.bytes, z⟩
    | none => none
  | _, _ => none

/-- The table says of each type that it lists what the program says. -/
def TabOk (P : Program) (T : Tab) : Prop := ∀ t i, T[t]? = some i → i.size ≠ 0 → probe P t = some i

def TabAll (P : Program) : Nat → Tab → Prop
  | _, [] => True
  | t, i :: r => (i.size = 0 ∨ probe P t = some i) ∧ TabAll P (t + 1) r

theorem TabAll.ok {P : Program} : ∀ (T : Tab) (n : Nat), TabAll P n T → ∀ t i, T[t]? = some i → i.size ≠ 0 → probe P (n + t) = some i
  | [], _, _, t, i, h, _ => by simp at h
  | j :: r, n, ha, 0, i, h, hs => by
    simp only [List.getElem?_cons_zero, Option.some.injEq] at h
    subst h
    exact ha.1.resolve_left hs
  | j :: r, n, ha, t + 1, i, h, hs => by
    have := TabAll.ok r (n + 1) ha.2 t i (by simpa using h) hs
    rw [show n + (t + 1) = n + 1 + t by omega]
    exact this

theorem TabOk.of {P : Program} {T : Tab} (h : TabAll P 0 T) : TabOk P T := fun t i h1 h2 => by simpa using TabAll.ok T 0 h t i h1 h2

def Tab.get (T : Tab) (t : Nat) : TyI := T.getD t ⟨.other, 0, 0, .nilFunc⟩

/-- What an operation leaves: its value, the roots that it makes, those that it writes (or ends), those that it looked at. -/
structure Res where
  val : D
  new : List (Option Root) := []
  wr : List (Nat × Option Root) := []
  rd : List Nat := []

def inR (k : IntKind) (n : Int) : Prop := k.wrap n = n

def evO (env : List D) : Operand → D
  | .tmp t => env.getD t .undef
  | .const (.bool b) => .kb b
  | .const v => .lit v
  | .global g => .lit (.pointer (some ⟨g, 0, none⟩))
  | .func f => .fn (.func f) [] []

def D.one : D → Bool
  | .kb _ | .list .. | .cptr .. | .fn .. | .ref .. | .ptr .. => true
  | .lit (.agg _) | .lit (.tuple _) => false
  | .lit _ => true
  | _ => false

def D.cellOk (d : D) : Bool := d.notOwn && d.one

/-- The cells of a value. -/
def D.cells : D → Option (List D)
  | .agg ds => if ds.all D.one then some ds else none
  | .tup _ | .undef => none
  | d => if d.one then some [d] else none

def zeroCells (v : Value) : List D := v.cells.toList.map fun
  | .bool b => D.kb b
  | v => .lit v

def cnt (sz : Nat) (cs : List D) : Nat := if sz == 1 then cs.length else cs.length / sz
def sub (cs : List D) (sz off n : Nat) : List D := (cs.drop (off * sz)).take (n * sz)

/-- A cell that is read out of a row at a path. -/
def lift (r : Nat) (p : List Nat) (i : Nat) : D → D
  | .list true sz cs => .ref r (p ++ [i]) sz 0 (cnt sz cs)
  | d => d

def liftL (r : Nat) (p : List Nat) : Nat → List D → List D
  | _, [] => []
  | i, d :: ds => lift r p i d :: liftL r p (i + 1) ds

/-- The cell at a place of a row. -/
def LoadRow (cs : List D) (p : List Nat) (i : Nat) (d : D) : Prop := ∃ c, getB cs p = some c ∧ c[i]? = some d
def LoadRows (cs : List D) (p : List Nat) (i n : Nat) (ds : List D) : Prop := ∃ c, getB cs p = some c ∧ (c.drop i).take n = ds ∧ ds.length = n
/-- A store of a plain value into a row. -/
def StoreRow (cs : List D) (p : List Nat) (i : Nat) (d : D) (cs' : List D) : Prop :=
  ∃ c, getB cs p = some c ∧ i < c.length ∧ (∀ x, c[i]? = some x → x.notOwn = true) ∧ updB cs p (fun l => l.set i d) = cs'

def setMany (cs : List D) : Nat → List D → List D
  | _, [] => cs
  | i, d :: ds => setMany (cs.set i d) (i + 1) ds

def fillD (T : Tab) (fs : List (Nat × Nat)) (cells : List D) : List (Nat × D) → Option (List D)
  | [] => some cells
  | (i, d) :: rest => match fs[i]?, d.cells with
    | some (o, t), some cs => if cs.length == (T.get t).size && o + cs.length ≤ cells.length then fillD T fs (setMany cells o cs) rest else none
    | _, _ => none

def mapK {α β : Type} (f : α → (β → List Nat → Prop) → Prop) : List α → (List β → List Nat → Prop) → Prop
  | [], K => K [] []
  | a :: as, K => f a fun b r => mapK f as fun bs rs => K (b :: bs) (r ++ rs)

/-- A value made closed data, for a callee that only looks at it. -/
def resK (rt : RT) : Nat → D → (D → List Nat → Prop) → Prop
  | 0, _, _ => False
  | n + 1, d, K => match d with
    | .undef => False
    | .kb b => K (.lit (.bool b)) []
    | .lit v => K (.lit v) []
    | .list o sz cs => K (.list o sz cs) []
    | .cptr cs off => K (.cptr cs off) []
    | .agg ds => mapK (resK rt n) ds fun ds rs => K (.agg ds) rs
    | .tup _ => False
    | .fn f fs cs => mapK (resK rt n) fs fun fs rs => mapK (resK rt n) cs fun cs rs' => K (.fn f fs cs) (rs ++ rs')
    | .ref r p sz off m => match rt r with
      | some (some R) => R.box = false ∧ ∃ c, getB R.cs p = some c ∧ (off + m) * sz ≤ c.length ∧ ∃ c', sub c sz off m = c' ∧ K (.list false sz c') [r]
      | _ => False
    | .ptr r p off => match rt r with
      | some (some R) => if R.box then p = [] ∧ mapK (resK rt n) R.cs fun cs rs => K (.cptr cs off) (r :: rs)
        else ∃ c, getB R.cs p = some c ∧ K (.cptr c off) [r]
      | _ => False

/-- A result's opened form: each owned list becomes a root. -/
def openOne (n : Nat) : D → D × Option Root
  | .list true sz cs => (.ref n [] sz 0 (cnt sz cs), some ⟨false, sz, cs⟩)
  | d => (d, none)
def openL (n : Nat) : List D → List D × List (Option Root)
  | [] => ([], [])
  | d :: ds => let a := openOne n d; let b := openL (n + 1) ds; (a.1 :: b.1, a.2 :: b.2)
def openC (n : Nat) : D → D × List (Option Root)
  | .agg ds => let a := openL n ds; (.agg a.1, a.2)
  | d => let a := openOne n d; (a.1, [a.2])
def openT (n : Nat) : List D → List D × List (Option Root)
  | [] => ([], [])
  | d :: ds => let a := openC n d; let b := openT (n + a.2.length) ds; (a.1 :: b.1, a.2 ++ b.2)
def openD (n : Nat) : D → D × List (Option Root)
  | .tup ds => let a := openT n ds; (.tup a.1, a.2)
  | d => openC n d

def listRT (n : Nat) (l : List (Option Root)) : RT := fun r => if n ≤ r then l[r - n]? else none

end Go.Vm
