/- The contract of a function that only looks at its arguments; and the evaluator of one operation. -/
import Derived.Test.YtnonhialafcjmaaVm5
set_option linter.unusedVariables false
set_option linter.unusedSimpArgs false
set_option linter.unusedSectionVars false
namespace Go.Vm
open Go Go.RowKit

/-- A call of function f runs to a value and a world. -/
def RunsTo (P : Program) (f : FuncId) (args : Array Value) (w : World) (R : Value → World → Prop) : Prop :=
  (∃ fn, P.funcs[f]? = some fn ∧ (fn.name == "runtime.NumGoroutine") = false ∧ fn.body.isNone = false ∧
    Calls P f args w (fun e w' => ∃ v, e = .returned v ∧ R v w')) ∨
  (∃ v w', (callFunc f args).run P w = .ok (.value v) w' ∧ R v w')

/-- Blocks that came after w and are nobody's own. -/
def okn (w w' : World) (own : Nat → Option Lab) (b : Nat) : Prop := own b = none ∧ w.heap.size ≤ b ∧ b < w'.heap.size

/-- A fresh result: its owned lists are rows of their own in new memory. -/
def ResOk (w w' : World) (n : Nat) (rs : D) (v : Value) : Prop :=
  ∃ own : Nat → Option Lab,
    (∀ b r p, own b = some (r, p) → w.heap.size ≤ b ∧ b < w'.heap.size ∧ ∃ R, listRT n (openD n rs).2 r = some (some R)) ∧
    (∀ b b' l, own b = some l → own b' = some l → b = b') ∧
    (∀ r R, listRT n (openD n rs).2 r = some (some R) → R.box = false ∧ RootOk w' (okn w w' own) own (listRT n (openD n rs).2) r R) ∧
    Mt w' (okn w w' own) own (listRT n (openD n rs).2) (openD n rs).1 v

/-- Called with whatever reads as the arguments, f gives a fresh result that reads as told; what was there stays. -/
def PureCall (P : Program) (f : FuncId) (args : List D) (rs : D) : Prop :=
  ∀ (w : World) (vals : Array Value) (n : Nat), vals.size = args.length →
    (∀ (i : Nat) d v, args[i]? = some d → vals[i]? = some v → Sh w (fun b => b < w.heap.size) d v) →
    RunsTo P f vals w (fun v w' => Below w.heap.size w w' ∧ ResOk w w' n rs v)

/-- A condition that the machine reckons. -/
def chk (b : Bool) (p : Prop) : Prop := match b with
  | true => p
  | false => False
theorem chk_and {b : Bool} {p : Prop} (h : chk b p) : b = true ∧ p := by cases b <;> simp_all [chk]

def ikEq : IntKind → IntKind → Bool
  | .i64, .i64 | .i32, .i32 | .i16, .i16 | .i8, .i8 | .u64, .u64 | .u32, .u32 | .u16, .u16 | .u8, .u8 => true
  | _, _ => false
theorem ikEq_eq {k k' : IntKind} (h : ikEq k k' = true) : k = k' := by cases k <;> cases k' <;> simp_all [ikEq]

def intK (k : IntKind) (n : Int) (K : Res → Prop) : Prop := inR k n ∧ K { val := .lit (.int k n) }
def boolP (p : Prop) (K : Res → Prop) : Prop := (p → K { val := .kb true }) ∧ (¬ p → K { val := .kb false })

def Ty.isBool : Ty → Bool
  | .bool => true
  | _ => false
def binK (T : Tab) (t : Nat) (op : BinOp) (x y : D) (K : Res → Prop) : Prop :=
  match x, y with
  | .lit (.int k a), .lit (.int k' b) => chk (ikEq k k')
      (match op with
      | .add => intK k (a + b) K
      | .sub => intK k (a - b) K
      | .mul => intK k (a * b) K
      | .quo => b ≠ 0 ∧ intK k (a.tdiv b) K
      | .rem => b ≠ 0 ∧ K { val := .lit (.int k (a.tmod b)) }
      | .eql => boolP (a = b) K
      | .neq => boolP (a ≠ b) K
      | .lss => boolP (a < b) K
      | .leq => boolP (a ≤ b) K
      | .gtr => boolP (b < a) K
      | .geq => boolP (b ≤ a) K
      | _ => False)
  | .kb a, .kb b => chk (!Nat.beq (T.get t).size 0 && (T.get t).ty.isBool)
      (match op with
      | .eql => K { val := .kb (a == b) }
      | .neq => K { val := .kb (a != b) }
      | _ => False)
  | _, _ => False

def unK (op : UnOp) (x : D) (K : Res → Prop) : Prop :=
  match op, x with
  | .neg, .lit (.int k a) => intK k (0 - a) K
  | .not, .kb b => K { val := .kb (!b) }
  | _, _ => False

def convK (T : Tab) (src dst : Nat) (x : D) (K : Res → Prop) : Prop :=
  chk (!Nat.beq (T.get src).size 0 && !Nat.beq (T.get dst).size 0) (match (T.get dst).ty, x with
    | .int k, .lit (.int _ n) => intK k n K
    | _, _ => False)

/-- A row's slice: its elements' size, and that it is not 0. -/
def elemIs (T : Tab) (e sz : Nat) : Bool := Nat.beq (T.get e).size sz && !Nat.beq sz 0

def sliceK (T : Tab) (rt : RT) (t : Nat) (x : D) (lo hi mx : Option D) (K : Res → Prop) : Prop :=
  match (T.get t).ty, x with
  | .slice e, .ref r p sz off n => chk (elemIs T e sz && !Nat.beq (T.get t).size 0) (match rt r with
    | some (some _) => (match lo, hi, mx with
      | none, some (.lit (.int .i64 h)), none => (0 ≤ h ∧ h ≤ n) ∧ K { val := .ref r p sz off h.toNat, rd := [r] }
      | some (.lit (.int .i64 l)), none, none => (0 ≤ l ∧ l ≤ n) ∧ K { val := .ref r p sz (off + l.toNat) (n - l.toNat), rd := [r] }
      | some (.lit (.int .i64 l)), some (.lit (.int .i64 h)), none => (0 ≤ l ∧ l ≤ h ∧ h ≤ n) ∧ K { val := .ref r p sz (off + l.toNat) (h.toNat - l.toNat), rd := [r] }
      | _, _, _ => False)
    | _ => False)
  | .slice e, .list o sz cs => chk (elemIs T e sz && !Nat.beq (T.get t).size 0) (match lo, hi, mx with
      | none, some (.lit (.int .i64 h)), none => (0 ≤ h ∧ h ≤ (cnt sz cs : Nat)) ∧ ∃ cs', sub cs sz 0 h.toNat = cs' ∧ K { val := .list o sz cs' }
      | some (.lit (.int .i64 l)), none, none => (0 ≤ l ∧ l ≤ (cnt sz cs : Nat)) ∧ ∃ cs', sub cs sz l.toNat (cnt sz cs - l.toNat) = cs' ∧ K { val := .list o sz cs' }
      | some (.lit (.int .i64 l)), some (.lit (.int .i64 h)), none => (0 ≤ l ∧ l ≤ h ∧ h ≤ (cnt sz cs : Nat)) ∧ ∃ cs', sub cs sz l.toNat (h.toNat - l.toNat) = cs' ∧ K { val := .list o sz cs' }
      | _, _, _ => False)
  | _, _ => False

def fieldOf (T : Tab) (s f : Nat) : Option (Nat × TyI) :=
  match (T.get s).ty with
  | .struct fs => match fs[f]? with
    | some (o, t) => some (o, T.get t)
    | none => none
  | _ => none

def fieldAddrK (T : Tab) (rt : RT) (s : Nat) (x : D) (f : Nat) (K : Res → Prop) : Prop :=
  chk (!Nat.beq (T.get s).size 0) (match fieldOf T s f, x with
  | some (o, ti), .ptr r p off => chk (!Nat.beq ti.size 0) (match rt r with
    | some (some _) => K { val := .ptr r p (off + o), rd := [r] }
    | _ => False)
  | some (o, ti), .cptr cs off => chk (!Nat.beq ti.size 0) (K { val := .cptr cs (off + o) })
  | _, _ => False)

def fieldK (T : Tab) (s : Nat) (x : D) (f : Nat) (K : Res → Prop) : Prop :=
  chk (!Nat.beq (T.get s).size 0) (match fieldOf T s f, x with
  | some (o, ti), .agg ds => chk (!Nat.beq ti.size 0) (match ti.ty.agg with
    | true => chk (Nat.ble (o + ti.size) ds.length) (K { val := .agg ((ds.drop o).take ti.size) })
    | false => match ds[o]? with
      | some d => K { val := d }
      | none => False)
  | _, _ => False)

def place (sz off j : Nat) : Nat := match sz with
  | 1 => off + j
  | sz => (off + j) * sz
theorem place_eq (sz off j : Nat) : place sz off j = (off + j) * sz := by
  unfold place; split
  · simp
  · rfl

def indexAddrK (T : Tab) (rt : RT) (t : Nat) (x i : D) (K : Res → Prop) : Prop :=
  chk (!Nat.beq (T.get t).size 0) (match (T.get t).ty, x, i with
  | .slice e, .ref r p sz off n, .lit (.int _ j) => chk (elemIs T e sz) (match rt r with
    | some (some _) => (0 ≤ j ∧ j < n) ∧ K { val := .ptr r p (place sz off j.toNat), rd := [r] }
    | _ => False)
  | .slice e, .list _ sz cs, .lit (.int _ j) => chk (elemIs T e sz) ((0 ≤ j ∧ j < (cnt sz cs : Nat)) ∧ K { val := .cptr cs (place sz 0 j.toNat) })
  | _, _, _ => False)

def loadK (T : Tab) (rt : RT) (t : Nat) (a : D) (K : Res → Prop) : Prop :=
  chk (!Nat.beq (T.get t).size 0) (match a with
  | .ptr r p off => match rt r with
    | some (some R) => (match R.box with
      | true => (match p with
        | [] => (match (T.get t).ty.agg with
          | true => chk (Nat.ble (off + (T.get t).size) R.cs.length) (K { val := .agg ((R.cs.drop off).take (T.get t).size), rd := [r] })
          | false => match R.cs[off]? with
            | some d => K { val := d, rd := [r] }
            | none => False)
        | _ => False)
      | false => (match (T.get t).ty.agg with
        | true => ∃ ds, LoadRows R.cs p off (T.get t).size ds ∧ K { val := .agg (liftL r p off ds), rd := [r] }
        | false => ∃ d, LoadRow R.cs p off d ∧ K { val := lift r p off d, rd := [r] }))
    | _ => False
  | .cptr cs off => (match (T.get t).ty.agg with
    | true => ∃ ds, (cs.drop off).take (T.get t).size = ds ∧ ds.length = (T.get t).size ∧ K { val := .agg ds }
    | false => ∃ d, cs[off]? = some d ∧ K { val := d })
  | _ => False)

def storeK (T : Tab) (rt : RT) (t : Nat) (a x : D) (K : Res → Prop) : Prop :=
  chk (!Nat.beq (T.get t).size 0) (match a with
  | .ptr r p off => match rt r with
    | some (some R) => (match R.box with
      | true => (match p, x.cells with
        | [], some ds => chk (Nat.beq ds.length (T.get t).size && Nat.ble (off + ds.length) R.cs.length) (K { val := .undef, wr := [(r, some { R with cs := setMany R.cs off ds })], rd := [r] })
        | _, _ => False)
      | false => chk (Nat.beq (T.get t).size 1) (match x with
        | .lit v => chk (D.one (.lit v)) (∃ cs', StoreRow R.cs p off (.lit v) cs' ∧ K { val := .undef, wr := [(r, some { R with cs := cs' })], rd := [r] })
        | .kb b => ∃ cs', StoreRow R.cs p off (.lit (.bool b)) cs' ∧ K { val := .undef, wr := [(r, some { R with cs := cs' })], rd := [r] }
        | .ref r' p' sz' off' m' => chk (!Nat.beq sz' 0 && !Nat.beq r r') (match p, p', off', rt r' with
          | [], [], 0, some (some R') => chk (!R'.box) (m' * sz' = R'.cs.length ∧ off < R.cs.length ∧ (∀ d, R.cs[off]? = some d → d.notOwn = true) ∧ ∃ cs', R.cs.set off (.list true sz' R'.cs) = cs' ∧ K { val := .undef, wr := [(r', none), (r, some { R with cs := cs' })], rd := [r, r'] })
          | _, _, _, _ => False)
        | _ => False))
    | _ => False
  | _ => False)

def lenK (T : Tab) (rt : RT) (t : Nat) (x : D) (K : Res → Prop) : Prop :=
  chk (!Nat.beq (T.get t).size 0) (match (T.get t).ty, x with
  | .slice _, .ref r _ _ _ n => (match rt r with
    | some (some _) => K { val := .lit (.int .i64 n), rd := [r] }
    | _ => False)
  | .slice _, .list _ sz cs => chk (!Nat.beq sz 0) (K { val := .lit (.int .i64 (cnt sz cs)) })
  | .slice _, .lit (.slice none 0 0) => K { val := .lit (.int .i64 0) }
  | .string, .lit (.string s) => K { val := .lit (.int .i64 s.size) }
  | _, _ => False)

def plainTy : Ty → Bool
  | .int _ | .bool | .string => true
  | _ => false

/-- What is appended: the cells, and the root that is consumed. -/
def srcK (T : Tab) (rt : RT) (e : Nat) (r0 : Option Nat) (x : D) (K : Nat → List D → Option Nat → List Nat → Prop) : Prop :=
  match x with
  | .lit (.slice none 0 0) => K 0 [] none []
  | .list _ sz cs => chk (elemIs T e sz) ((∀ d ∈ cs, d.cellOk = true) ∧ K (cnt sz cs) cs none [])
  | .ref r p sz off m => chk (elemIs T e sz && !(match r0 with | some r0 => Nat.beq r0 r | none => false)) (match rt r with
    | some (some R) => chk (!R.box) (match plainTy (T.get e).ty with
      | true => ∃ c, getB R.cs p = some c ∧ (off + m) * sz ≤ c.length ∧ ∃ c', sub c sz off m = c' ∧ (∀ d ∈ c', d.cellOk = true) ∧ K m c' none [r]
      | false => (match p, off with
        | [], 0 => m * sz = R.cs.length ∧ (∀ d ∈ R.cs, d.one = true) ∧ K m R.cs (some r) [r]
        | _, _ => False))
    | _ => False)
  | _ => False

def roomOk (n bytes : Nat) : Prop := n * bytes ≤ 140737488355328 ∧ n ≤ 140737488355328

/-- Outer forms are reckoned out. -/
def forceN : Nat → (Nat → Prop) → Prop
  | 0, k => k 0
  | n + 1, k => forceN n fun m => k (m + 1)
def forceI (ik : IntKind) (k : IntKind → Prop) : Prop :=
  match ik with
  | .i64 => k .i64 | .i32 => k .i32 | .i16 => k .i16 | .i8 => k .i8 | .u64 => k .u64 | .u32 => k .u32 | .u16 => k .u16 | .u8 => k .u8
def forceV (v : Value) (k : Value → Prop) : Prop :=
  match v with
  | .int ik n => forceI ik fun ik => k (.int ik n)
  | .bool b => k (.bool b)
  | v => k v
def forceD1 (d : D) (k : D → Prop) : Prop :=
  match d with
  | .undef => k .undef
  | .kb b => k (.kb b)
  | .lit v => forceV v fun v => k (.lit v)
  | .list o sz cs => k (.list o sz cs)
  | .cptr cs off => k (.cptr cs off)
  | .agg ds => k (.agg ds)
  | .tup ds => k (.tup ds)
  | .fn f fs cs => k (.fn f fs cs)
  | .ref r p sz off n => k (.ref r p sz off n)
  | .ptr r p off => k (.ptr r p off)
def forceL1 : List D → (List D → Prop) → Prop
  | [], k => k []
  | d :: ds, k => forceD1 d fun d => forceL1 ds fun ds => k (d :: ds)
def forceD (d : D) (k : D → Prop) : Prop :=
  match d with
  | .undef => k .undef
  | .kb b => k (.kb b)
  | .lit v => forceV v fun v => k (.lit v)
  | .list o sz cs => k (.list o sz cs)
  | .cptr cs off => k (.cptr cs off)
  | .agg ds => forceL1 ds fun ds => k (.agg ds)
  | .tup ds => forceL1 ds fun ds => k (.tup ds)
  | .fn f fs cs => forceL1 fs fun fs => forceL1 cs fun cs => k (.fn f fs cs)
  | .ref r p sz off n => k (.ref r p sz off n)
  | .ptr r p off => k (.ptr r p off)
def forceL : List D → (List D → Prop) → Prop
  | [], k => k []
  | d :: ds, k => forceD d fun d => forceL ds fun ds => k (d :: ds)
theorem forceN_eq : ∀ (n : Nat) (k : Nat → Prop), forceN n k = k n
  | 0, _ => rfl
  | n + 1, k => by simp only [forceN, forceN_eq n]
theorem forceI_eq (ik : IntKind) (k : IntKind → Prop) : forceI ik k = k ik := by cases ik <;> rfl
theorem forceV_eq (v : Value) (k : Value → Prop) : forceV v k = k v := by cases v <;> simp only [forceV, forceI_eq]
theorem forceD1_eq (d : D) (k : D → Prop) : forceD1 d k = k d := by cases d <;> simp only [forceD1, forceV_eq]
theorem forceL1_eq : ∀ (ds : List D) (k : List D → Prop), forceL1 ds k = k ds
  | [], _ => rfl
  | d :: ds, k => by simp only [forceL1, forceD1_eq, forceL1_eq ds]
theorem forceD_eq (d : D) (k : D → Prop) : forceD d k = k d := by cases d <;> simp only [forceD, forceV_eq, forceL1_eq]
theorem forceL_eq : ∀ (ds : List D) (k : List D → Prop), forceL ds k = k ds
  | [], _ => rfl
  | d :: ds, k => by simp only [forceL, forceD_eq, forceL_eq ds]
/-- A size is reckoned out. -/
def forceSz (n : Nat) (k : Nat → Prop) : Prop := match n with
  | 1 => k 1
  | n => k n
theorem forceSz_eq (n : Nat) (k : Nat → Prop) : forceSz n k = k n := by
  unfold forceSz; split <;> rfl
def appendK (T : Tab) (rt : RT) (n : Nat) (t t' : Nat) (s x : D) (K : Res → Prop) : Prop :=
  chk (Nat.beq t t' && !Nat.beq (T.get t).size 0) (match (T.get t).ty with
  | .slice e => chk (!Nat.beq (T.get e).size 0 && Nat.beq (zeroCells (T.get e).zero).length (T.get e).size) (match s with
    | .lit (.slice none 0 0) => srcK T rt e none x fun m news c rd => roomOk m (T.get e).bytes ∧
        forceSz (T.get e).size fun sz => K { val := .ref (n + 1) [] sz 0 m, new := [none, some ⟨false, sz, news⟩], wr := c.toList.map (·, none), rd }
    | .ref r p sz off m0 => chk (elemIs T e sz) (match p, off, rt r with
      | [], 0, some (some R) => chk (!R.box) (m0 * sz = R.cs.length ∧ srcK T rt e (some r) x fun m news c rd => roomOk (m0 + m) (T.get e).bytes ∧
          ∃ cs', R.cs ++ news = cs' ∧ K { val := .ref n [] sz 0 (m0 + m), new := [some ⟨false, sz, cs'⟩], wr := (r, none) :: c.toList.map (·, none), rd := r :: rd })
      | _, _, _ => False)
    | _ => False)
  | _ => False)

def copyK (T : Tab) (rt : RT) (t t' : Nat) (s x : D) (K : Res → Prop) : Prop :=
  chk (Nat.beq t t' && !Nat.beq (T.get t).size 0) (match (T.get t).ty, s with
  | .slice e, .ref r p sz off m0 => chk (elemIs T e sz && Nat.beq sz 1 && plainTy (T.get e).ty) (match rt r with
    | some (some R) => chk (!R.box) (srcK T rt e (some r) x fun m news c rd => chk c.isNone (
        ∃ b, getB R.cs p = some b ∧ (off + m0) ≤ b.length ∧ (∀ d ∈ b, d.cellOk = true) ∧
        ∃ cs', updB R.cs p (fun l => l.take off ++ (news.take (min m m0) ++ l.drop (off + min m m0))) = cs' ∧
          K { val := .lit (.int .i64 (min m m0 : Nat)), wr := [(r, some { R with cs := cs' })], rd := r :: rd }))
    | _ => False)
  | _, _ => False)

def replN (n : Nat) : List D → List D
  | [d] => List.replicate n d
  | ds => (List.replicate n ds).flatten

def makeK (T : Tab) (n t : Nat) (l c : D) (K : Res → Prop) : Prop :=
  chk (!Nat.beq (T.get t).size 0) (match (T.get t).ty, l, c with
  | .slice e, .lit (.int .i64 a), .lit (.int .i64 b) => chk (!Nat.beq (T.get e).size 0 && Nat.beq (zeroCells (T.get e).zero).length (T.get e).size) ((0 ≤ a ∧ a ≤ b ∧ roomOk b.toNat (T.get e).bytes) ∧
      ∃ k, a.toNat = k ∧ forceSz (T.get e).size fun sz => ∃ cs', replN k (zeroCells (T.get e).zero) = cs' ∧ K { val := .ref n [] sz 0 k, new := [some ⟨false, sz, cs'⟩] })
  | _, _, _ => False)

def extractK (x : D) (i : Nat) (K : Res → Prop) : Prop :=
  match x with
  | .tup ds => match ds[i]? with
    | some d => K { val := d }
    | none => False
  | _ => False

def pureCallK (P : Program) (rt : RT) (n : Nat) (f : D) (args : List D) (K : Res → Prop) : Prop :=
  match f with
  | .fn (.func g) fs cs => mapK (resK rt 6) (fs ++ args ++ cs) fun ds rd => ∃ rs, PureCall P g ds rs ∧ K { val := (openD n rs).1, new := (openD n rs).2, rd := rd }
  | _ => False

/-- Called with a number and a slice, f gives the struct of both. -/
def MakesAgg (P : Program) (g : FuncId) : Prop := ∀ (m : Int) (b : Option Addr) (n c : Nat), PureCall P g [.lit (.int .i64 m), .lit (.slice b n c)] (.agg [.lit (.int .i64 m), .lit (.slice b n c)])
def aggCallK (P : Program) (rt : RT) (f : D) (args : List D) (K : Res → Prop) : Prop :=
  match f with
  | .fn (.func g) [] [] => (match args with
    | [.lit (.int .i64 m), .ref r p sz off k] => (match rt r with
      | some (some _) => MakesAgg P g ∧ K { val := .agg [.lit (.int .i64 m), .ref r p sz off k], new := [none, none], rd := [r] }
      | _ => False)
    | _ => False)
  | _ => False

def D.plainLit : D → Bool
  | .kb _ => true
  | .lit (.agg _) | .lit (.tuple _) => false
  | .lit _ => true
  | _ => false

def noEmpty (parts : List (Nat × D)) : Bool := parts.all fun x => match x.2 with
  | .agg [] => false
  | _ => true

def oneRef (len : Nat) (parts : List (Nat × D)) : Option (Nat × List Nat × Nat × Nat × Nat) :=
  match len, parts with
  | 1, [(0, .ref r p sz off m)] => some (r, p, sz, off, m)
  | _, _ => none
theorem oneRef_eq {len : Nat} {parts : List (Nat × D)} {r sz off m : Nat} {p : List Nat} (h : oneRef len parts = some (r, p, sz, off, m)) : len = 1 ∧ parts = [(0, .ref r p sz off m)] := by
  unfold oneRef at h
  split at h
  · cases h; exact ⟨rfl, rfl⟩
  · cases h

def buildSliceK (T : Tab) (rt : RT) (n t len : Nat) (parts : List (Nat × D)) (K : Res → Prop) : Prop :=
  chk (!Nat.beq (T.get t).size 0) (match (T.get t).ty with
  | .slice e => chk (!Nat.beq (T.get e).size 0 && Nat.ble (len * (T.get e).size) 16777216)
    (match oneRef len parts with
    | some (r, p, sz, off, m) => chk (Nat.beq (T.get e).size 1 && !Nat.beq sz 0) (match p, off, rt r with
      | [], 0, some (some R) => chk (!R.box) (m * sz = R.cs.length ∧ K { val := .ref n [] 1 0 1, new := [some ⟨false, 1, [.list true sz R.cs]⟩], wr := [(r, none)], rd := [r] })
      | _, _, _ => False)
    | none => match fillD T ((List.range len).map fun i => (i * (T.get e).size, e)) (replN len (zeroCells (T.get e).zero)) parts with
      | some cs => chk (cs.all D.plainLit && Nat.beq (zeroCells (T.get e).zero).length (T.get e).size && noEmpty parts) (forceSz (T.get e).size fun sz => forceL cs fun cs => K { val := .ref n [] sz 0 len, new := [some ⟨false, sz, cs⟩] })
      | none => False)
  | _ => False)

def buildK (T : Tab) (t : Nat) (parts : List (Nat × D)) (K : Res → Prop) : Prop :=
  chk (!Nat.beq (T.get t).size 0) (match (T.get t).ty with
    | .struct fs => (match fillD T fs (zeroCells (T.get t).zero) parts with
      | some cs => chk (fs.all (fun x => !Nat.beq (T.get x.2).size 0) && noEmpty parts) (K { val := .agg cs })
      | none => False)
    | _ => False)

def nilCheckK (rt : RT) (x : D) (K : Res → Prop) : Prop :=
  match x with
    | .ptr r p off => (match rt r with
      | some (some _) => K { val := .ptr r p off, rd := [r] }
      | _ => False)
    | .cptr cs off => K { val := .cptr cs off }
    | _ => False

def maxK (mx : Bool) (xs : List D) (K : Res → Prop) : Prop :=
  match xs with
  | [.lit (.int k a), .lit (.int _ b)] => K { val := .lit (.int k (match mx with | true => max a b | false => min a b)) }
  | _ => False

/-- One operation (a call: of a function that only looks at its arguments). -/
def evK (P : Program) (T : Tab) (env : List D) (rt : RT) (n : Nat) (op : Op) (K : Res → Prop) : Prop :=
  match op with
  | .move x | .assign x => K { val := evO env x }
  | .pick c a b => (match evO env c with
    | .kb true => K { val := evO env a }
    | .kb false => K { val := evO env b }
    | _ => False)
  | .alloc e => chk (!Nat.beq (T.get e).size 0) (K { val := .ptr n [] 0, new := [some ⟨true, 1, zeroCells (T.get e).zero⟩] })
  | .box _ x => (match (evO env x).cells with
    | some cs => K { val := .ptr n [] 0, new := [some ⟨true, 1, cs⟩] }
    | none => False)
  | .build t parts => buildK T t (parts.toList.map fun (i, x) => (i, evO env x)) K
  | .buildSlice t len parts => buildSliceK T rt n t len (parts.toList.map fun (i, x) => (i, evO env x)) K
  | .load t a => loadK T rt t (evO env a) K
  | .store t a x => storeK T rt t (evO env a) (evO env x) K
  | .nilCheck x => nilCheckK rt (evO env x) K
  | .binOp op t x y _ => binK T t op (evO env x) (evO env y) K
  | .unOp op _ x => unK op (evO env x) K
  | .convert src dst x => convK T src dst (evO env x) K
  | .makeFunc fn first captured => K { val := .fn fn (first.toList.map (evO env)) (captured.toList.map (evO env)) }
  | .makeSlice t l c => makeK T n t (evO env l) (evO env c) K
  | .slice t x lo hi mx => sliceK T rt t (evO env x) (lo.map (evO env)) (hi.map (evO env)) (mx.map (evO env)) K
  | .fieldAddr s x f => fieldAddrK T rt s (evO env x) f K
  | .field s x f => fieldK T s (evO env x) f K
  | .indexAddr t x i => indexAddrK T rt t (evO env x) (evO env i) K
  | .extract x i => extractK (evO env x) i K
  | .call c => (match c.callee with
    | .value f => pureCallK P rt n (evO env f) (c.args.toList.map (evO env)) K ∨ aggCallK P rt (evO env f) (c.args.toList.map (evO env)) K
    | .builtin .len => (match c.args.toList, c.argTypes.toList with
      | [x], [t] => lenK T rt t (evO env x) K
      | _, _ => False)
    | .builtin .append => (match c.args.toList, c.argTypes.toList with
      | [s, x], [t, t'] => appendK T rt n t t' (evO env s) (evO env x) K
      | _, _ => False)
    | .builtin .copy => (match c.args.toList, c.argTypes.toList with
      | [s, x], [t, t'] => copyK T rt t t' (evO env s) (evO env x) K
      | _, _ => False)
    | .builtin .max => maxK true (c.args.toList.map (evO env)) K
    | .builtin .min => maxK false (c.args.toList.map (evO env)) K
    | _ => False)
  | _ => False

end Go.Vm
