/- The abstract values of the machine, how they read in memory, and what is kept when memory grows. -/
import Derived.WalkKit

set_option linter.unusedVariables false
set_option linter.unusedSimpArgs false
set_option linter.unusedSectionVars false
namespace Go.Vm
open Go Go.RowKit

inductive D where
  | undef
  | kb (b : Bool)
  | lit (v : Value)
  | list (o : Bool) (sz : Nat) (cs : List D)
  | cptr (cs : List D) (off : Nat)
  | full (sz : Nat) (cs : List D)
  | agg (ds : List D)
  | tup (ds : List D)
  | fn (f : Fn) (first caps : List D)
  | ref (r : Nat) (p : List Nat) (sz off n : Nat)
  | ptr (r : Nat) (p : List Nat) (off : Nat)
  deriving Inhabited

structure Root where
  box : Bool
  sz : Nat
  cs : List D
  deriving Inhabited

def D.notOwn : D → Bool
  | .list true _ _ => false
  | _ => true

inductive Sh (w : World) (ok : Nat → Prop) : D → Value → Prop
  | undef (v : Value) : Sh w ok .undef v
  | kb (b : Bool) : Sh w ok (.kb b) (.bool b)
  | lit (v : Value) : Sh w ok (.lit v) v
  | nil (o : Bool) (sz : Nat) : Sh w ok (.list o sz []) (.slice none 0 0)
  | wild (o : Bool) (sz : Nat) (a : Addr) : Sh w ok (.list o sz []) (.slice (some a) 0 0)
  | list (o : Bool) (sz : Nat) (cs : List D) (b off len cap : Nat) (hl : len * sz = cs.length) (hlc : len ≤ cap) (hb : ok b)
      (hc : ∀ i, i < cs.length → (w.cell? ⟨b, off + i, none⟩).isSome = true)
      (hr : ∀ i d v, cs[i]? = some d → w.cell? ⟨b, off + i, none⟩ = some v → Sh w ok d v) :
      Sh w ok (.list o sz cs) (.slice (some ⟨b, off, none⟩) len cap)
  | cptr (cs : List D) (off : Nat) (b o : Nat) (hb : ok b)
      (hc : ∀ i, i < cs.length → (w.cell? ⟨b, o + i, none⟩).isSome = true)
      (hr : ∀ i d v, cs[i]? = some d → w.cell? ⟨b, o + i, none⟩ = some v → Sh w ok d v) :
      Sh w ok (.cptr cs off) (.pointer (some ⟨b, o + off, none⟩))
  | full (sz : Nat) (cs : List D) (base : Option Addr) (len : Nat) (h : Sh w ok (.list false sz cs) (.slice base len len)) : Sh w ok (.full sz cs) (.slice base len len)
  | agg (ds : List D) (vs : Array Value) (hl : vs.size = ds.length)
      (hr : ∀ (i : Nat) d v, ds[i]? = some d → vs[i]? = some v → Sh w ok d v) : Sh w ok (.agg ds) (.agg vs)
  | tup (ds : List D) (vs : Array Value) (hl : vs.size = ds.length)
      (hr : ∀ (i : Nat) d v, ds[i]? = some d → vs[i]? = some v → Sh w ok d v) : Sh w ok (.tup ds) (.tuple vs)
  | fn (f : Fn) (fs cs : List D) (first caps : Array Value) (h1 : first.size = fs.length) (h2 : caps.size = cs.length)
      (hf : ∀ (i : Nat) d v, fs[i]? = some d → first[i]? = some v → Sh w ok d v)
      (hr : ∀ (i : Nat) d v, cs[i]? = some d → caps[i]? = some v → Sh w ok d v) : Sh w ok (.fn f fs cs) (.func f first caps)

inductive Tr (w : World) (ok : Nat → Prop) (own : Nat → Option Lab) : Lab → D → Value → Prop
  | sh (l : Lab) (d : D) (v : Value) (ho : d.notOwn = true) (h : Sh w ok d v) : Tr w ok own l d v
  | nil (l : Lab) (sz : Nat) (hn : ∀ b, own b ≠ some l) : Tr w ok own l (.list true sz []) (.slice none 0 0)
  | own (l : Lab) (sz : Nat) (cs : List D) (b len cap : Nat) (arr : Array Value) (e : TypeId) (hz : sz ≠ 0) (hl : len * sz = cs.length) (hlc : len ≤ cap)
      (hb : own b = some l) (hw : w.heap[b]? = some (.cells arr e (0, 0))) (hc : cap * sz = arr.size) (hs : cs.length ≤ arr.size)
      (hr : ∀ (i : Nat) d v, cs[i]? = some d → arr[i]? = some v → Tr w ok own (l.1, l.2 ++ [i]) d v) :
      Tr w ok own l (.list true sz cs) (.slice (some ⟨b, 0, none⟩) len cap)

def getB : List D → List Nat → Option (List D)
  | cs, [] => some cs
  | cs, i :: q => match cs[i]? with
    | some (.list true _ cs') => getB cs' q
    | _ => none
def RefOk (w : World) (own : Nat → Option Lab) (r : Nat) (p : List Nat) (sz off n : Nat) (v : Value) : Prop :=
  (∃ b arr e cap o, own b = some (r, p) ∧ w.heap[b]? = some (.cells arr e (0, 0)) ∧ v = .slice (some ⟨b, o, none⟩) n cap ∧ n ≤ cap ∧ (off + cap) * sz = arr.size ∧
    (off = 0 ∨ n ≠ 0 → o = off * sz)) ∨
  (v = .slice none 0 0 ∧ off = 0 ∧ n = 0 ∧ ∀ b, own b ≠ some (r, p))

def PtrOk (w : World) (own : Nat → Option Lab) (r : Nat) (p : List Nat) (off : Nat) (v : Value) : Prop :=
  ∃ b arr e, own b = some (r, p) ∧ w.heap[b]? = some (.cells arr e (0, 0)) ∧ v = .pointer (some ⟨b, off, none⟩)

inductive Mt (w : World) (ok : Nat → Prop) (own : Nat → Option Lab) (rt : RT) : D → Value → Prop
  | undef (v : Value) : Mt w ok own rt .undef v
  | sh (d : D) (v : Value) (h : Sh w ok d v) : Mt w ok own rt d v
  | ref (r : Nat) (p : List Nat) (sz off n : Nat) (v : Value) (h0 : rt r ≠ none) (h1 : v.oneCell' = true) (h : ∀ R, rt r = some (some R) → Vp R p ∧ RefOk w own r p sz off n v) : Mt w ok own rt (.ref r p sz off n) v
  | ptr (r : Nat) (p : List Nat) (off : Nat) (v : Value) (h0 : rt r ≠ none) (h1 : v.oneCell' = true) (h : ∀ R, rt r = some (some R) → Vp R p ∧ PtrOk w own r p off v) : Mt w ok own rt (.ptr r p off) v
  | agg (ds : List D) (vs : Array Value) (hl : vs.size = ds.length)
      (hr : ∀ (i : Nat) d v, ds[i]? = some d → vs[i]? = some v → Mt w ok own rt d v) : Mt w ok own rt (.agg ds) (.agg vs)
  | tup (ds : List D) (vs : Array Value) (hl : vs.size = ds.length)
      (hr : ∀ (i : Nat) d v, ds[i]? = some d → vs[i]? = some v → Mt w ok own rt d v) : Mt w ok own rt (.tup ds) (.tuple vs)
  | fn (f : Fn) (fs cs : List D) (first caps : Array Value) (h1 : first.size = fs.length) (h2 : caps.size = cs.length)
      (hf : ∀ (i : Nat) d v, fs[i]? = some d → first[i]? = some v → Mt w ok own rt d v)
      (hr : ∀ (i : Nat) d v, cs[i]? = some d → caps[i]? = some v → Mt w ok own rt d v) : Mt w ok own rt (.fn f fs cs) (.func f first caps)

structure Fr (w : World) (ok : Nat → Prop) (own : Nat → Option Lab) (rt : RT) (w' : World) (ok' : Nat → Prop) (own' : Nat → Option Lab) (rt' : RT) : Prop where
  ok : ∀ b, ok b → ok' b ∧ w'.heap[b]? = w.heap[b]?
  alive : ∀ r, rt r ≠ none → rt' r ≠ none
  live : ∀ r R', rt r ≠ none → rt' r = some (some R') → ∃ R, rt r = some (some R)
  lab : ∀ r R R', rt r = some (some R) → rt' r = some (some R') → ∀ b p, Vp R p → (own b = some (r, p) ↔ own' b = some (r, p))
  path : ∀ r R R' p, rt r = some (some R) → rt' r = some (some R') → Vp R p → Vp R' p
  shape : ∀ r R' b p arr e, rt r ≠ none → rt' r = some (some R') → own b = some (r, p) → w.heap[b]? = some (.cells arr e (0, 0)) →
    ∃ arr', w'.heap[b]? = some (.cells arr' e (0, 0)) ∧ arr'.size = arr.size

def CellOk (w : World) (ok : Nat → Prop) (own : Nat → Option Lab) (rt : RT) (r : Nat) (R : Root) (i : Nat) (d : D) (v : Value) : Prop :=
  if R.box then Mt w ok own rt d v else Tr w ok own (r, [i]) d v

def RootOk (w : World) (ok : Nat → Prop) (own : Nat → Option Lab) (rt : RT) (r : Nat) (R : Root) : Prop :=
  (∃ b arr e, own b = some (r, []) ∧ w.heap[b]? = some (.cells arr e (0, 0)) ∧ R.cs.length ≤ arr.size ∧
    ∀ (i : Nat) d v, R.cs[i]? = some d → arr[i]? = some v → CellOk w ok own rt r R i d v) ∨
  (R.box = false ∧ R.cs = [] ∧ ∀ b, own b ≠ some (r, []))

inductive BelowD (n : Nat) : D → Prop
  | undef : BelowD n .undef
  | kb (b : Bool) : BelowD n (.kb b)
  | lit (v : Value) : BelowD n (.lit v)
  | list (o : Bool) (sz : Nat) (cs : List D) : BelowD n (.list o sz cs)
  | cptr (cs : List D) (off : Nat) : BelowD n (.cptr cs off)
  | full (sz : Nat) (cs : List D) : BelowD n (.full sz cs)
  | agg (ds : List D) (h : ∀ d ∈ ds, BelowD n d) : BelowD n (.agg ds)
  | tup (ds : List D) (h : ∀ d ∈ ds, BelowD n d) : BelowD n (.tup ds)
  | fn (f : Fn) (fs cs : List D) (hf : ∀ d ∈ fs, BelowD n d) (hc : ∀ d ∈ cs, BelowD n d) : BelowD n (.fn f fs cs)
  | ref (r : Nat) (p : List Nat) (sz off m : Nat) (h : r < n) : BelowD n (.ref r p sz off m)
  | ptr (r : Nat) (p : List Nat) (off : Nat) (h : r < n) : BelowD n (.ptr r p off)

structure Kept (p : Nat → Prop) (w w' : World) : Prop where
  os : w'.os = w.os
  tape : w'.tape = w.tape
  output : w'.output = w.output
  size : w.heap.size ≤ w'.heap.size
  block : ∀ k, p k → w'.heap[k]? = w.heap[k]?
theorem Kept.refl (p : Nat → Prop) (w : World) : Kept p w w := ⟨rfl, rfl, rfl, Nat.le_refl _, fun _ _ => rfl⟩
structure Base extends World where
  prot : Nat → Prop
  hp : ∀ b, prot b → b < heap.size
  hid : Nat → Prop
  hh : ∀ b, hid b → prot b
  hl : Nat → Lab
  susp : D → Value → Prop
  keep : Nat
  hk : ∀ d v, susp d v → BelowD keep d
  hlk : ∀ b, hid b → (hl b).1 < keep
instance : Coe Base World := ⟨Base.toWorld⟩

structure Sim (w0 : Base) (env : Nat → D) (rt : RT) (tm : Nat → Value) (w : World) (own : Nat → Option Lab) : Prop where
  below : Kept w0.prot w0 w
  env : ∀ i, Mt w (okb w own) own rt (env i) (tm i)
  roots : ∀ r R, rt r = some (some R) → RootOk w (okb w own) own rt r R
  lab : ∀ b r p, own b = some (r, p) → (w0.prot b → rt r = some none) ∧ b < w.heap.size ∧ rt r ≠ none
  hidl : ∀ b, w0.hid b → own b = some (w0.hl b) ∧ rt (w0.hl b).1 = some none
  inj : ∀ b b' l, own b = some l → own b' = some l → b = b'
  susp : ∀ d v, w0.susp d v → Mt w (okb w own) own rt d v

end Go.Vm

/- Steps of memory under the abstract machine: new blocks, stores, roots that die. -/
set_option linter.unusedVariables false
set_option linter.unusedSimpArgs false
set_option linter.unusedSectionVars false
namespace Go.Vm
open Go Go.RowKit

def RT.set (rt : RT) (n : Nat) (x : Option Root) : RT := fun r => if r = n then some x else rt r
@[simp] theorem RT.set_self (rt : RT) (n : Nat) (x : Option Root) : rt.set n x n = some x := by simp [RT.set]
theorem RT.set_ne (rt : RT) {n r : Nat} (x : Option Root) (h : r ≠ n) : rt.set n x r = rt r := by simp [RT.set, h]

def ownSet (own : Nat → Option Lab) (b : Nat) (l : Lab) : Nat → Option Lab := fun b' => if b' = b then some l else own b'

theorem Sim.newRef {w : World} {rt : RT} {own : Nat → Option Lab} (n : Nat) (arr : Array Value) (e : TypeId) (R : Root) (sz len cap : Nat) (hlc : len ≤ cap) (hc : cap * sz = arr.size) :
    Mt (w.alloc (.cells arr e)) (okb (w.alloc (.cells arr e)) (ownSet own w.heap.size (n, []))) (ownSet own w.heap.size (n, [])) (rt.set n (some R)) (.ref n [] sz 0 len) (.slice (some ⟨w.heap.size, 0, none⟩) len cap) :=
  .ref n [] sz 0 len _ (by simp) rfl (fun _ _ => ⟨.inl rfl, .inl ⟨w.heap.size, arr, e, cap, 0, by simp [ownSet], heap_alloc_new w _, rfl, hlc, by simpa using hc, by simp⟩⟩)

theorem Sim.newPtr {w : World} {rt : RT} {own : Nat → Option Lab} (n : Nat) (arr : Array Value) (e : TypeId) (R : Root) :
    Mt (w.alloc (.cells arr e)) (okb (w.alloc (.cells arr e)) (ownSet own w.heap.size (n, []))) (ownSet own w.heap.size (n, [])) (rt.set n (some R)) (.ptr n [] 0) (.pointer (some ⟨w.heap.size, 0, none⟩)) :=
  .ptr n [] 0 _ (by simp) rfl (fun _ _ => ⟨.inl rfl, w.heap.size, arr, e, by simp [ownSet], heap_alloc_new w _, rfl⟩)

def ownKill (own : Nat → Option Lab) (n : Nat) : Nat → Option Lab := fun b => match own b with
  | some (r, p) => if r = n then none else some (r, p)
  | none => none

end Go.Vm

/- Stores into owned blocks: into a box, and into a row at a path. -/
set_option linter.unusedVariables false
set_option linter.unusedSimpArgs false
set_option linter.unusedSectionVars false
namespace Go.Vm
open Go Go.RowKit

def updB (cs : List D) : List Nat → (List D → List D) → List D
  | [], f => f cs
  | i :: q, f => match cs[i]? with
    | some (.list true sz cs') => cs.set i (.list true sz (updB cs' q f))
    | _ => cs

theorem Blk.get {w : World} {ok : Nat → Prop} {own : Nat → Option Lab} {r : Nat} : ∀ (q p : List Nat) (b : Nat) (cs cs1 : List D), Blk w ok own r p b cs →
    getB cs q = some cs1 → (∃ b1, Blk w ok own r (p ++ q) b1 cs1) ∨ (cs1 = [] ∧ ∀ b, own b ≠ some (r, p ++ q)) := by
  intro q
  induction q with
  | nil => intro p b cs cs1 h hg; simp only [getB, Option.some.injEq] at hg; subst hg; exact .inl ⟨b, by simpa using h⟩
  | cons i q ih =>
    intro p b cs cs1 ⟨arr, e, h1, h2, h3, h4⟩ hg
    simp only [getB] at hg
    split at hg
    · rename_i sz cs' hi
      have hlt : i < cs.length := (List.getElem?_eq_some_iff.1 hi).1
      have hv : arr[i]? = some arr[i] := Array.getElem?_eq_getElem (by omega)
      have ht := h4 i _ _ hi hv
      generalize hv0 : arr[i] = v0 at ht
      cases ht with
      | sh _ _ _ ho _ => simp [D.notOwn] at ho
      | nil _ _ hn =>
        cases q with
        | nil => simp only [getB, Option.some.injEq] at hg; subst hg; exact .inr ⟨rfl, by simpa using hn⟩
        | cons j q => simp [getB] at hg
      | own _ _ _ b1 len cap arr1 e1 hz hl hlc hb hw hc hs hr =>
        have := ih (p ++ [i]) b1 cs' cs1 ⟨arr1, e1, hb, hw, hs, hr⟩ hg
        simpa using this
    · cases hg

structure Stored (w w' : World) (bt off : Nat) (v : Value) : Prop where
  other : ∀ b, b ≠ bt → w'.heap[b]? = w.heap[b]?
  here : ∀ arr e, w.heap[bt]? = some (.cells arr e (0, 0)) → w'.heap[bt]? = some (.cells (arr.setIfInBounds off v) e (0, 0))

theorem Stored.setCell (w : World) (bt off : Nat) (v : Value) : Stored w (w.setCell ⟨bt, off, none⟩ v) bt off v :=
  ⟨fun b hb => Below.heap_setCell _ _ _ _ hb, fun arr e h => by simp [World.setCell, Array.getElem?_modify, h]⟩

theorem getB_snoc {i sz : Nat} {cs' : List D} : ∀ (p : List Nat) (cs c : List D), getB cs p = some c → c[i]? = some (.list true sz cs') → getB cs (p ++ [i]) = some cs' := by
  intro p
  induction p with
  | nil =>
    intro cs c hg hi
    simp only [getB, Option.some.injEq] at hg
    subst hg
    simp [getB, hi]
  | cons j p ih =>
    intro cs c hg hi
    simp only [getB] at hg
    split at hg
    · rename_i sz1 cs1 hj
      simp only [List.cons_append, getB, hj]
      exact ih cs1 c hg hi
    · cases hg
theorem Vp_snoc {R : Root} {p : List Nat} {c : List D} {i : Nat} {d : D} (hbox : R.box = false) (hg : getB R.cs p = some c) (hi : c[i]? = some d) (hd : d.notOwn = false) : Vp R (p ++ [i]) := by
  refine .inr ⟨hbox, ?_⟩
  cases d with
  | list o sz cs' => cases o with
    | true => rw [getB_snoc p _ _ hg hi]; rfl
    | false => simp [D.notOwn] at hd
  | _ => simp [D.notOwn] at hd

theorem Sim.storeFr {w w' : World} {rt : RT} {own : Nat → Option Lab} {r bt off : Nat} {p : List Nat} {v' : Value} {R R' : Root}
    (hst : Stored w w' bt off v') (hsz : w'.heap.size = w.heap.size) (hR : rt r = some (some R)) (hbt : own bt = some (r, p)) (hpath : ∀ q, Vp R q → Vp R' q) :
    Fr w (okb w own) own rt w' (okb w' own) own (rt.set r (some R')) := by
  refine ⟨fun b hk => ⟨⟨hk.1, by rw [hsz]; exact hk.2⟩, hst.other b (fun e => by subst e; rw [hk.1] at hbt; cases hbt)⟩, fun r1 h => ?_, fun r1 R1 h0 h => ?_, fun r1 R0 R1 h0 h b p _ => Iff.rfl, fun r1 R0 R1 q h0 h1 hq => ?_, fun r1 R1 b p arr e h0 h1 h2 h3 => ?_⟩
  · unfold RT.set; split <;> simp [h]
  · unfold RT.set at h; split at h
    · rename_i e; subst e; exact ⟨R, hR⟩
    · exact ⟨R1, h⟩
  · unfold RT.set at h1; split at h1
    · rename_i e; subst e; rw [hR] at h0; cases h0; cases h1; exact hpath q hq
    · rw [h0] at h1; cases h1; exact hq
  · by_cases hb : b = bt
    · subst hb; exact ⟨_, hst.here arr e h3, by simp⟩
    · exact ⟨arr, (hst.other b hb).trans h3, rfl⟩

def nilB : List Nat → Bool
  | [] => true
  | _ :: _ => false
section
variable {w0 : Base} {w : World} {env : Nat → D} {rt : RT} {tm : Nat → Value} {own : Nat → Option Lab} {r off : Nat} {R : Root}

end

end Go.Vm

/- A row is taken up into a new one: append, with or without room; a source that is consumed. -/
set_option linter.unusedVariables false
set_option linter.unusedSimpArgs false
set_option linter.unusedSectionVars false
namespace Go.Vm
open Go Go.RowKit

section
variable {r0 r2 nr k : Nat} {cons inp : Bool}
end

structure Grew (w w' : World) (g : Option Nat) (g' : Nat) (inp : Bool) : Prop where
  other : ∀ b, b < w.heap.size → b ≠ g' → w'.heap[b]? = w.heap[b]?
  size : w.heap.size ≤ w'.heap.size
  at_ : if inp then g = some g' else g' = w.heap.size ∧ w'.heap.size = w.heap.size + 1
  os : w'.os = w.os
  tape : w'.tape = w.tape
  output : w'.output = w.output

end Go.Vm

/- The evaluator: what one operation does to the abstract state, as an obligation. -/
set_option linter.unusedVariables false
set_option linter.unusedSimpArgs false
set_option linter.unusedSectionVars false
namespace Go.Vm
open Go Go.RowKit

inductive Ty where
  | int (k : IntKind) | bool | string | slice (e : Nat) | struct (fs : List (Nat × Nat)) | arr (n e : Nat) | ptr (e : Nat) | other
  deriving Inhabited

structure TyI where
  ty : Ty
  size : Nat
  bytes : Nat
  zero : Value
  deriving Inhabited

def Ty.ofDesc : TypeDesc → Ty
  | .int k => .int k
  | .bool => .bool
  | .string => .string
  | .slice e => .slice e
  | .struct fs => .struct (fs.toList.map fun f => (f.offset, f.type))
  | .array n e => .arr n e
  | .pointer e => .ptr e
  | _ => .other

def probe (P : Program) (t : Nat) : Option TyI :=
  match P.info? t, P.underlying t with
  | some i, some d => match i.zero with
    | some z => some ⟨Ty.ofDesc d, i.size, i.bytes, z⟩
    | none => none
  | _, _ => none

def TabOk (P : Program) (T : Tab) : Prop := ∀ t i, T[t]? = some i → i.size ≠ 0 → probe P t = some i

def TabAll (P : Program) : Nat → Tab → Prop
  | _, [] => True
  | t, i :: r => (i.size = 0 ∨ probe P t = some i) ∧ TabAll P (t + 1) r

theorem TabAll.ok {P : Program} : ∀ (T : Tab) (n : Nat), TabAll P n T → ∀ t i, T[t]? = some i → i.size ≠ 0 → probe P (n + t) = some i
  | [], _, _, t, i, h, _ => by simp at h
  | j :: r, n, ha, 0, i, h, hs => by
    simp only [List.getElem?_cons_zero, Option.some.injEq] at h
    subst h
    exact ha.1.resolve_left hs
  | j :: r, n, ha, t + 1, i, h, hs => by
    have := TabAll.ok r (n + 1) ha.2 t i (by simpa using h) hs
    rw [show n + (t + 1) = n + 1 + t by omega]
    exact this

theorem TabOk.of {P : Program} {T : Tab} (h : TabAll P 0 T) : TabOk P T := fun t i h1 h2 => by simpa using TabAll.ok T 0 h t i h1 h2

structure Res where
  val : D
  new : List (Option Root) := []
  wr : List (Nat × Option Root) := []
  rd : List Nat := []

def D.one : D → Bool
  | .kb _ | .list .. | .cptr .. | .fn .. | .ref .. | .ptr .. => true
  | .lit (.agg _) | .lit (.tuple _) => false
  | .lit _ => true
  | _ => false

def D.cellOk (d : D) : Bool := d.notOwn && d.one

def D.cells : D → Option (List D)
  | .agg ds => if ds.all D.one then some ds else none
  | .tup _ | .undef => none
  | d => if d.one then some [d] else none

def zeroCells (v : Value) : List D := v.cells.toList.map fun
  | .bool b => D.kb b
  | v => .lit v

def lift (r : Nat) (p : List Nat) (i : Nat) : D → D
  | .list true sz cs => .ref r (p ++ [i]) sz 0 (cnt sz cs)
  | d => d

def liftL (r : Nat) (p : List Nat) : Nat → List D → List D
  | _, [] => []
  | i, d :: ds => lift r p i d :: liftL r p (i + 1) ds

def LoadRow (cs : List D) (p : List Nat) (i : Nat) (d : D) : Prop := ∃ c, getB cs p = some c ∧ c[i]? = some d
def LoadRows (cs : List D) (p : List Nat) (i n : Nat) (ds : List D) : Prop := ∃ c, getB cs p = some c ∧ (c.drop i).take n = ds ∧ ds.length = n
def StoreRow (cs : List D) (p : List Nat) (i : Nat) (d : D) (cs' : List D) : Prop :=
  ∃ c, getB cs p = some c ∧ i < c.length ∧ (∀ x, c[i]? = some x → x.notOwn = true) ∧ updB cs p (fun l => l.set i d) = cs'

def setMany (cs : List D) : Nat → List D → List D
  | _, [] => cs
  | i, d :: ds => setMany (cs.set i d) (i + 1) ds

def fillD (T : Tab) (fs : List (Nat × Nat)) (cells : List D) : List (Nat × D) → Option (List D)
  | [] => some cells
  | (i, d) :: rest => match fs[i]?, d.cells with
    | some (o, t), some cs => if cs.length == (T.get t).size && o + cs.length ≤ cells.length then fillD T fs (setMany cells o cs) rest else none
    | _, _ => none

def mapK {α β : Type} (f : α → (β → List Nat → Prop) → Prop) : List α → (List β → List Nat → Prop) → Prop
  | [], K => K [] []
  | a :: as, K => f a fun b r => mapK f as fun bs rs => K (b :: bs) (r ++ rs)

def resK (rt : RT) : Nat → D → (D → List Nat → Prop) → Prop
  | 0, _, _ => False
  | n + 1, d, K => match d with
    | .undef => False
    | .kb b => K (.lit (.bool b)) []
    | .lit v => K (.lit v) []
    | .list o sz cs => K (.list o sz cs) []
    | .cptr cs off => K (.cptr cs off) []
    | .full _ _ => False
    | .agg ds => mapK (resK rt n) ds fun ds rs => K (.agg ds) rs
    | .tup _ => False
    | .fn f fs cs => mapK (resK rt n) fs fun fs rs => mapK (resK rt n) cs fun cs rs' => K (.fn f fs cs) (rs ++ rs')
    | .ref r p sz off m => match rt r with
      | some (some R) => R.box = false ∧ ∃ c, getB R.cs p = some c ∧ (off + m) * sz ≤ c.length ∧ ∃ c', sub c sz off m = c' ∧ K (.list false sz c') [r]
      | _ => False
    | .ptr r p off => match rt r with
      | some (some R) => if R.box then p = [] ∧ mapK (resK rt n) R.cs fun cs rs => K (.cptr cs off) (r :: rs)
        else ∃ c, getB R.cs p = some c ∧ K (.cptr c off) [r]
      | _ => False

def openOne (n : Nat) : D → D × Option Root
  | .list true sz cs => (.ref n [] sz 0 (cnt sz cs), some ⟨false, sz, cs⟩)
  | d => (d, none)
def openL (n : Nat) : List D → List D × List (Option Root)
  | [] => ([], [])
  | d :: ds => let a := openOne n d; let b := openL (n + 1) ds; (a.1 :: b.1, a.2 :: b.2)
def openC (n : Nat) : D → D × List (Option Root)
  | .agg ds => let a := openL n ds; (.agg a.1, a.2)
  | d => let a := openOne n d; (a.1, [a.2])
def openT (n : Nat) : List D → List D × List (Option Root)
  | [] => ([], [])
  | d :: ds => let a := openC n d; let b := openT (n + a.2.length) ds; (a.1 :: b.1, a.2 ++ b.2)
def openD (n : Nat) : D → D × List (Option Root)
  | .tup ds => let a := openT n ds; (.tup a.1, a.2)
  | d => openC n d

def listRT (n : Nat) (l : List (Option Root)) : RT := fun r => if n ≤ r then l[r - n]? else none

end Go.Vm

/- The contract of a function that only looks at its arguments; and the evaluator of one operation. -/
set_option linter.unusedVariables false
set_option linter.unusedSimpArgs false
set_option linter.unusedSectionVars false
namespace Go.Vm
open Go Go.RowKit

def RunsTo (P : Program) (f : FuncId) (args : Array Value) (w : World) (R : Value → World → Prop) : Prop :=
  (∃ fn, P.funcs[f]? = some fn ∧ (fn.name == "runtime.NumGoroutine") = false ∧ fn.body.isNone = false ∧
    Calls P f args w (fun e w' => ∃ v, e = .returned v ∧ R v w')) ∨
  (∃ v w', (callFunc f args).run P w = .ok (.value v) w' ∧ R v w')

def ResOk (w w' : World) (n : Nat) (rs : D) (v : Value) : Prop :=
  ∃ own : Nat → Option Lab,
    (∀ b r p, own b = some (r, p) → w.heap.size ≤ b ∧ b < w'.heap.size ∧ ∃ R, listRT n (openD n rs).2 r = some (some R)) ∧
    (∀ b b' l, own b = some l → own b' = some l → b = b') ∧
    (∀ r R, listRT n (openD n rs).2 r = some (some R) → R.box = false ∧ RootOk w' (okn w w' own) own (listRT n (openD n rs).2) r R) ∧
    Mt w' (okn w w' own) own (listRT n (openD n rs).2) (openD n rs).1 v

def PureCall (P : Program) (f : FuncId) (args : List D) (rs : D) : Prop :=
  ∀ (w : World) (vals : Array Value) (n : Nat), vals.size = args.length →
    (∀ (i : Nat) d v, args[i]? = some d → vals[i]? = some v → Sh w (fun b => b < w.heap.size) d v) →
    RunsTo P f vals w (fun v w' => Below w.heap.size w w' ∧ ResOk w w' n rs v)

def ShareCall (P : Program) (f : FuncId) (args : List D) (rs : D) : Prop :=
  ∀ (w : World) (vals : Array Value) (ok : Nat → Prop), (∀ b, ok b → b < w.heap.size) → vals.size = args.length →
    (∀ (i : Nat) d v, args[i]? = some d → vals[i]? = some v → Sh w ok d v) →
    RunsTo P f vals w (fun v w' => Below w.heap.size w w' ∧ Sh w' (fun b => ok b ∨ (w.heap.size ≤ b ∧ b < w'.heap.size)) rs v)

theorem chk_and {b : Bool} {p : Prop} (h : chk b p) : b = true ∧ p := by cases b <;> simp_all [chk]

def ikEq : IntKind → IntKind → Bool
  | .i64, .i64 | .i32, .i32 | .i16, .i16 | .i8, .i8 | .u64, .u64 | .u32, .u32 | .u16, .u16 | .u8, .u8 => true
  | _, _ => false
theorem ikEq_eq {k k' : IntKind} (h : ikEq k k' = true) : k = k' := by cases k <;> cases k' <;> simp_all [ikEq]

def isU64 : IntKind → Bool
  | .u64 => true
  | _ => false
def intK (k : IntKind) (n : Int) (K : Res → Prop) : Prop := match isU64 k with
  | true => K { val := .lit (.int k (k.wrap n)) }
  | false => inR k n ∧ K { val := .lit (.int k n) }
theorem intK_wrap {k : IntKind} {n : Int} {K : Res → Prop} (h : intK k n K) : K { val := .lit (.int k (k.wrap n)) } := by
  unfold intK at h
  split at h
  · exact h
  · unfold inR at h
    rw [h.1]; exact h.2
def boolP (p : Prop) (K : Res → Prop) : Prop := (p → K { val := .kb true }) ∧ (¬ p → K { val := .kb false })

def Ty.isBool : Ty → Bool
  | .bool => true
  | _ => false
def binK (T : Tab) (t : Nat) (op : BinOp) (x y : D) (K : Res → Prop) : Prop :=
  match x, y with
  | .lit (.int k a), .lit (.int k' b) => chk (ikEq k k')
      (match op with
      | .add => intK k (a + b) K
      | .sub => intK k (a - b) K
      | .mul => intK k (a * b) K
      | .quo => b ≠ 0 ∧ intK k (a.tdiv b) K
      | .rem => b ≠ 0 ∧ K { val := .lit (.int k (a.tmod b)) }
      | .shr => 0 ≤ b ∧ K { val := .lit (.int k (a.fdiv (2 ^ min b.toNat k.bits))) }
      | .and => K { val := .lit (.int k (k.wrap (BitVec.ofInt k.bits a &&& BitVec.ofInt k.bits b).toNat)) }
      | .eql => boolP (a = b) K
      | .neq => boolP (a ≠ b) K
      | .lss => boolP (a < b) K
      | .leq => boolP (a ≤ b) K
      | .gtr => boolP (b < a) K
      | .geq => boolP (b ≤ a) K
      | _ => False)
  | .kb a, .kb b => chk (!Nat.beq (T.get t).size 0 && (T.get t).ty.isBool)
      (match op with
      | .eql => K { val := .kb (a == b) }
      | .neq => K { val := .kb (a != b) }
      | _ => False)
  | _, _ => False

def convK (T : Tab) (src dst : Nat) (x : D) (K : Res → Prop) : Prop :=
  chk (!Nat.beq (T.get src).size 0 && !Nat.beq (T.get dst).size 0) (match (T.get dst).ty, x with
    | .int k, .lit (.int _ n) => intK k n K
    | _, _ => False)

def elemIs (T : Tab) (e sz : Nat) : Bool := Nat.beq (T.get e).size sz && !Nat.beq sz 0

def sliceK (T : Tab) (rt : RT) (t : Nat) (x : D) (lo hi mx : Option D) (K : Res → Prop) : Prop :=
  match (T.get t).ty, x with
  | .slice e, .ref r p sz off n => chk (elemIs T e sz && !Nat.beq (T.get t).size 0) (match rt r with
    | some (some _) => (match lo, hi, mx with
      | none, some (.lit (.int .i64 h)), none => (0 ≤ h ∧ h ≤ n) ∧ K { val := .ref r p sz off h.toNat, rd := [r] }
      | some (.lit (.int .i64 l)), none, none => (0 ≤ l ∧ l ≤ n) ∧ K { val := .ref r p sz (off + l.toNat) (n - l.toNat), rd := [r] }
      | some (.lit (.int .i64 l)), some (.lit (.int .i64 h)), none => (0 ≤ l ∧ l ≤ h ∧ h ≤ n) ∧ K { val := .ref r p sz (off + l.toNat) (h.toNat - l.toNat), rd := [r] }
      | _, _, _ => False)
    | _ => False)
  | .slice e, .list o sz cs => chk (elemIs T e sz && !Nat.beq (T.get t).size 0) (match lo, hi, mx with
      | none, some (.lit (.int .i64 h)), none => (0 ≤ h ∧ h ≤ (cnt sz cs : Nat)) ∧ ∃ cs', sub cs sz 0 h.toNat = cs' ∧ K { val := .list o sz cs' }
      | some (.lit (.int .i64 l)), none, none => (0 ≤ l ∧ l ≤ (cnt sz cs : Nat)) ∧ ∃ cs', sub cs sz l.toNat (cnt sz cs - l.toNat) = cs' ∧ K { val := .list o sz cs' }
      | some (.lit (.int .i64 l)), some (.lit (.int .i64 h)), none => (0 ≤ l ∧ l ≤ h ∧ h ≤ (cnt sz cs : Nat)) ∧ ∃ cs', sub cs sz l.toNat (h.toNat - l.toNat) = cs' ∧ K { val := .list o sz cs' }
      | none, some (.lit (.int .i64 h)), some (.lit (.int .i64 m)) => (0 ≤ h ∧ m = h ∧ h ≤ (cnt sz cs : Nat)) ∧ ∃ cs', sub cs sz 0 h.toNat = cs' ∧ K { val := .full sz cs' }
      | _, _, _ => False)
  | _, _ => False

def fieldOf (T : Tab) (s f : Nat) : Option (Nat × TyI) :=
  match (T.get s).ty with
  | .struct fs => match fs[f]? with
    | some (o, t) => some (o, T.get t)
    | none => none
  | _ => none

def fieldAddrK (T : Tab) (rt : RT) (s : Nat) (x : D) (f : Nat) (K : Res → Prop) : Prop :=
  chk (!Nat.beq (T.get s).size 0) (match fieldOf T s f, x with
  | some (o, ti), .ptr r p off => chk (!Nat.beq ti.size 0) (match rt r with
    | some (some _) => K { val := .ptr r p (off + o), rd := [r] }
    | _ => False)
  | some (o, ti), .cptr cs off => chk (!Nat.beq ti.size 0) (K { val := .cptr cs (off + o) })
  | _, _ => False)

def fieldK (T : Tab) (s : Nat) (x : D) (f : Nat) (K : Res → Prop) : Prop :=
  chk (!Nat.beq (T.get s).size 0) (match fieldOf T s f, x with
  | some (o, ti), .agg ds => chk (!Nat.beq ti.size 0) (match ti.ty.agg with
    | true => chk (Nat.ble (o + ti.size) ds.length) (K { val := .agg ((ds.drop o).take ti.size) })
    | false => match ds[o]? with
      | some d => K { val := d }
      | none => False)
  | _, _ => False)

def place (sz off j : Nat) : Nat := match sz with
  | 1 => off + j
  | sz => (off + j) * sz
theorem place_eq (sz off j : Nat) : place sz off j = (off + j) * sz := by
  unfold place; split
  · simp
  · rfl

def indexAddrK (T : Tab) (rt : RT) (t : Nat) (x i : D) (K : Res → Prop) : Prop :=
  chk (!Nat.beq (T.get t).size 0) (match (T.get t).ty, x, i with
  | .slice e, .ref r p sz off n, .lit (.int _ j) => chk (elemIs T e sz) (match rt r with
    | some (some _) => (0 ≤ j ∧ j < n) ∧ K { val := .ptr r p (place sz off j.toNat), rd := [r] }
    | _ => False)
  | .slice e, .list _ sz cs, .lit (.int _ j) => chk (elemIs T e sz) ((0 ≤ j ∧ j < (cnt sz cs : Nat)) ∧ K { val := .cptr cs (place sz 0 j.toNat) })
  | _, _, _ => False)

def loadK (T : Tab) (rt : RT) (t : Nat) (a : D) (K : Res → Prop) : Prop :=
  chk (!Nat.beq (T.get t).size 0) (match a with
  | .ptr r p off => match rt r with
    | some (some R) => (match R.box with
      | true => (match p with
        | [] => (match (T.get t).ty.agg with
          | true => chk (Nat.ble (off + (T.get t).size) R.cs.length) (K { val := .agg ((R.cs.drop off).take (T.get t).size), rd := [r] })
          | false => match R.cs[off]? with
            | some d => K { val := d, rd := [r] }
            | none => False)
        | _ => False)
      | false => (match (T.get t).ty.agg with
        | true => ∃ ds, LoadRows R.cs p off (T.get t).size ds ∧ K { val := .agg (liftL r p off ds), rd := [r] }
        | false => ∃ d, LoadRow R.cs p off d ∧ K { val := lift r p off d, rd := [r] }))
    | _ => False
  | .cptr cs off => (match (T.get t).ty.agg with
    | true => ∃ ds, (cs.drop off).take (T.get t).size = ds ∧ ds.length = (T.get t).size ∧ K { val := .agg ds }
    | false => ∃ d, cs[off]? = some d ∧ K { val := d })
  | _ => False)

def storeK (T : Tab) (rt : RT) (t : Nat) (a x : D) (K : Res → Prop) : Prop :=
  chk (!Nat.beq (T.get t).size 0) (match a with
  | .ptr r p off => match rt r with
    | some (some R) => (match R.box with
      | true => (match p, x.cells with
        | [], some ds => chk (Nat.beq ds.length (T.get t).size && Nat.ble (off + ds.length) R.cs.length) (K { val := .undef, wr := [(r, some { R with cs := setMany R.cs off ds })], rd := [r] })
        | _, _ => False)
      | false => chk (Nat.beq (T.get t).size 1) (match x with
        | .lit v => chk (D.one (.lit v)) (∃ cs', StoreRow R.cs p off (.lit v) cs' ∧ K { val := .undef, wr := [(r, some { R with cs := cs' })], rd := [r] })
        | .kb b => ∃ cs', StoreRow R.cs p off (.lit (.bool b)) cs' ∧ K { val := .undef, wr := [(r, some { R with cs := cs' })], rd := [r] }
        | .list false sz' c' => ∃ cs', StoreRow R.cs p off (.list false sz' c') cs' ∧ K { val := .undef, wr := [(r, some { R with cs := cs' })], rd := [r] }
        | .ref r' p' sz' off' m' => chk (!Nat.beq sz' 0 && !Nat.beq r r') (match p, p', off', rt r' with
          | [], [], 0, some (some R') => chk (!R'.box) (m' * sz' = R'.cs.length ∧ off < R.cs.length ∧ (∀ d, R.cs[off]? = some d → d.notOwn = true) ∧ ∃ cs', R.cs.set off (.list true sz' R'.cs) = cs' ∧ K { val := .undef, wr := [(r', none), (r, some { R with cs := cs' })], rd := [r, r'] })
          | _, _, _, _ => False)
        | _ => False))
    | _ => False
  | _ => False)

def lenK (T : Tab) (rt : RT) (t : Nat) (x : D) (K : Res → Prop) : Prop :=
  chk (!Nat.beq (T.get t).size 0) (match (T.get t).ty, x with
  | .slice _, .ref r _ _ _ n => (match rt r with
    | some (some _) => K { val := .lit (.int .i64 n), rd := [r] }
    | _ => False)
  | .slice _, .list _ sz cs => chk (!Nat.beq sz 0) (K { val := .lit (.int .i64 (cnt sz cs)) })
  | .slice _, .lit (.slice none 0 0) => K { val := .lit (.int .i64 0) }
  | .string, .lit (.string s) => K { val := .lit (.int .i64 s.size) }
  | _, _ => False)

def plainTy : Ty → Bool
  | .int _ | .bool | .string => true
  | _ => false

def srcK (T : Tab) (rt : RT) (e : Nat) (r0 : Option Nat) (x : D) (K : Nat → List D → Option Nat → List Nat → Prop) : Prop :=
  match x with
  | .lit (.slice none 0 0) => K 0 [] none []
  | .list _ sz cs => chk (elemIs T e sz) ((∀ d ∈ cs, d.cellOk = true) ∧ K (cnt sz cs) cs none [])
  | .ref r p sz off m => chk (elemIs T e sz && !(match r0 with | some r0 => Nat.beq r0 r | none => false)) (match rt r with
    | some (some R) => chk (!R.box) (match plainTy (T.get e).ty with
      | true => ∃ c, getB R.cs p = some c ∧ (off + m) * sz ≤ c.length ∧ ∃ c', sub c sz off m = c' ∧ (∀ d ∈ c', d.cellOk = true) ∧ K m c' none [r]
      | false => (match p, off with
        | [], 0 => m * sz = R.cs.length ∧ (∀ d ∈ R.cs, d.one = true) ∧ K m R.cs (some r) [r]
        | _, _ => False))
    | _ => False)
  | _ => False

def roomOk (n bytes : Nat) : Prop := n * bytes ≤ 140737488355328 ∧ n ≤ 140737488355328

def forceN : Nat → (Nat → Prop) → Prop
  | 0, k => k 0
  | n + 1, k => forceN n fun m => k (m + 1)
def forceI (ik : IntKind) (k : IntKind → Prop) : Prop :=
  match ik with
  | .i64 => k .i64 | .i32 => k .i32 | .i16 => k .i16 | .i8 => k .i8 | .u64 => k .u64 | .u32 => k .u32 | .u16 => k .u16 | .u8 => k .u8
def forceV (v : Value) (k : Value → Prop) : Prop :=
  match v with
  | .int ik n => forceI ik fun ik => k (.int ik n)
  | .bool b => k (.bool b)
  | v => k v
def forceD1 (d : D) (k : D → Prop) : Prop :=
  match d with
  | .undef => k .undef
  | .kb b => k (.kb b)
  | .lit v => forceV v fun v => k (.lit v)
  | .list o sz cs => k (.list o sz cs)
  | .cptr cs off => k (.cptr cs off)
  | .full sz cs => k (.full sz cs)
  | .agg ds => k (.agg ds)
  | .tup ds => k (.tup ds)
  | .fn f fs cs => k (.fn f fs cs)
  | .ref r p sz off n => k (.ref r p sz off n)
  | .ptr r p off => k (.ptr r p off)
def forceL1 : List D → (List D → Prop) → Prop
  | [], k => k []
  | d :: ds, k => forceD1 d fun d => forceL1 ds fun ds => k (d :: ds)
def forceD (d : D) (k : D → Prop) : Prop :=
  match d with
  | .undef => k .undef
  | .kb b => k (.kb b)
  | .lit v => forceV v fun v => k (.lit v)
  | .list o sz cs => k (.list o sz cs)
  | .cptr cs off => k (.cptr cs off)
  | .full sz cs => k (.full sz cs)
  | .agg ds => forceL1 ds fun ds => k (.agg ds)
  | .tup ds => forceL1 ds fun ds => k (.tup ds)
  | .fn f fs cs => forceL1 fs fun fs => forceL1 cs fun cs => k (.fn f fs cs)
  | .ref r p sz off n => k (.ref r p sz off n)
  | .ptr r p off => k (.ptr r p off)
def forceL : List D → (List D → Prop) → Prop
  | [], k => k []
  | d :: ds, k => forceD d fun d => forceL ds fun ds => k (d :: ds)
theorem forceN_eq : ∀ (n : Nat) (k : Nat → Prop), forceN n k = k n
  | 0, _ => rfl
  | n + 1, k => by simp only [forceN, forceN_eq n]
theorem forceI_eq (ik : IntKind) (k : IntKind → Prop) : forceI ik k = k ik := by cases ik <;> rfl
theorem forceV_eq (v : Value) (k : Value → Prop) : forceV v k = k v := by cases v <;> simp only [forceV, forceI_eq]
theorem forceD1_eq (d : D) (k : D → Prop) : forceD1 d k = k d := by cases d <;> simp only [forceD1, forceV_eq]
theorem forceL1_eq : ∀ (ds : List D) (k : List D → Prop), forceL1 ds k = k ds
  | [], _ => rfl
  | d :: ds, k => by simp only [forceL1, forceD1_eq, forceL1_eq ds]
theorem forceD_eq (d : D) (k : D → Prop) : forceD d k = k d := by cases d <;> simp only [forceD, forceV_eq, forceL1_eq]
theorem forceL_eq : ∀ (ds : List D) (k : List D → Prop), forceL ds k = k ds
  | [], _ => rfl
  | d :: ds, k => by simp only [forceL, forceD_eq, forceL_eq ds]
def forceSz (n : Nat) (k : Nat → Prop) : Prop := match n with
  | 1 => k 1
  | n => k n
theorem forceSz_eq (n : Nat) (k : Nat → Prop) : forceSz n k = k n := by
  unfold forceSz; split <;> rfl
def appendK (T : Tab) (rt : RT) (n : Nat) (t t' : Nat) (s x : D) (K : Res → Prop) : Prop :=
  chk (Nat.beq t t' && !Nat.beq (T.get t).size 0) (match (T.get t).ty with
  | .slice e => chk (!Nat.beq (T.get e).size 0 && Nat.beq (zeroCells (T.get e).zero).length (T.get e).size) (match s with
    | .lit (.slice none 0 0) => srcK T rt e none x fun m news c rd => roomOk m (T.get e).bytes ∧
        forceSz (T.get e).size fun sz => K { val := .ref (n + 1) [] sz 0 m, new := [none, some ⟨false, sz, news⟩], wr := c.toList.map (·, none), rd }
    | .full sz cs => chk (elemIs T e sz) ((∀ d ∈ cs, d.cellOk = true) ∧ srcK T rt e none x fun m news c rd => chk c.isNone ((0 < m ∧ roomOk (cnt sz cs + m) (T.get e).bytes) ∧
        ∃ cs', cs ++ news = cs' ∧ K { val := .ref (n + 1) [] sz 0 (cnt sz cs + m), new := [none, some ⟨false, sz, cs'⟩], rd }))
    | .ref r p sz off m0 => chk (elemIs T e sz) (match p, off, rt r with
      | [], 0, some (some R) => chk (!R.box) (m0 * sz = R.cs.length ∧ srcK T rt e (some r) x fun m news c rd => roomOk (m0 + m) (T.get e).bytes ∧
          ∃ cs', R.cs ++ news = cs' ∧ K { val := .ref n [] sz 0 (m0 + m), new := [some ⟨false, sz, cs'⟩], wr := (r, none) :: c.toList.map (·, none), rd := r :: rd })
      | _, _, _ => False)
    | _ => False)
  | _ => False)

def copyK (T : Tab) (rt : RT) (t t' : Nat) (s x : D) (K : Res → Prop) : Prop :=
  chk (Nat.beq t t' && !Nat.beq (T.get t).size 0) (match (T.get t).ty, s with
  | .slice e, .ref r p sz off m0 => chk (elemIs T e sz && Nat.beq sz 1 && plainTy (T.get e).ty) (match rt r with
    | some (some R) => chk (!R.box) (srcK T rt e (some r) x fun m news c rd => chk c.isNone (
        ∃ b, getB R.cs p = some b ∧ (off + m0) ≤ b.length ∧ (∀ d ∈ b, d.cellOk = true) ∧
        ∃ cs', updB R.cs p (fun l => l.take off ++ (news.take (min m m0) ++ l.drop (off + min m m0))) = cs' ∧
          K { val := .lit (.int .i64 (min m m0 : Nat)), wr := [(r, some { R with cs := cs' })], rd := r :: rd }))
    | _ => False)
  | _, _ => False)

def replN (n : Nat) : List D → List D
  | [d] => List.replicate n d
  | ds => (List.replicate n ds).flatten

def makeK (T : Tab) (n t : Nat) (l c : D) (K : Res → Prop) : Prop :=
  chk (!Nat.beq (T.get t).size 0) (match (T.get t).ty, l, c with
  | .slice e, .lit (.int .i64 a), .lit (.int .i64 b) => chk (!Nat.beq (T.get e).size 0 && Nat.beq (zeroCells (T.get e).zero).length (T.get e).size) ((0 ≤ a ∧ a ≤ b ∧ roomOk b.toNat (T.get e).bytes) ∧
      ∃ k, a.toNat = k ∧ forceSz (T.get e).size fun sz => ∃ cs', replN k (zeroCells (T.get e).zero) = cs' ∧ K { val := .ref n [] sz 0 k, new := [some ⟨false, sz, cs'⟩] })
  | _, _, _ => False)

def extractK (x : D) (i : Nat) (K : Res → Prop) : Prop :=
  match x with
  | .tup ds => match ds[i]? with
    | some d => K { val := d }
    | none => False
  | _ => False

def pureCallK (P : Program) (rt : RT) (n : Nat) (f : D) (args : List D) (K : Res → Prop) : Prop :=
  match f with
  | .fn (.func g) fs cs => mapK (resK rt 6) (fs ++ args ++ cs) fun ds rd => ∃ rs, PureCall P g ds rs ∧ K { val := (openD n rs).1, new := (openD n rs).2, rd := rd }
  | _ => False

def MakesAgg (P : Program) (g : FuncId) : Prop := ∀ (m : Int) (b : Option Addr) (n c : Nat), PureCall P g [.lit (.int .i64 m), .lit (.slice b n c)] (.agg [.lit (.int .i64 m), .lit (.slice b n c)])
def aggCallK (P : Program) (rt : RT) (f : D) (args : List D) (K : Res → Prop) : Prop :=
  match f with
  | .fn (.func g) [] [] => (match args with
    | [.lit (.int .i64 m), .ref r p sz off k] => (match rt r with
      | some (some _) => MakesAgg P g ∧ K { val := .agg [.lit (.int .i64 m), .ref r p sz off k], new := [none, none], rd := [r] }
      | _ => False)
    | [.agg [.lit (.int .i64 m), .list o sz cs]] => ∃ rs, ShareCall P g [.agg [.lit (.int .i64 m), .list o sz cs]] rs ∧ K { val := rs }
    | _ => False)
  | _ => False

def D.plainLit : D → Bool
  | .kb _ => true
  | .lit (.agg _) | .lit (.tuple _) => false
  | .lit _ => true
  | _ => false

def D.plainOr : D → Bool
  | .list _ _ _ => true
  | d => d.plainLit
def D.unown : D → D
  | .list _ sz cs => .list false sz cs
  | d => d

def noEmpty (parts : List (Nat × D)) : Bool := parts.all fun x => match x.2 with
  | .agg [] => false
  | _ => true

def oneRef (len : Nat) (parts : List (Nat × D)) : Option (Nat × List Nat × Nat × Nat × Nat) :=
  match len, parts with
  | 1, [(0, .ref r p sz off m)] => some (r, p, sz, off, m)
  | _, _ => none
theorem oneRef_eq {len : Nat} {parts : List (Nat × D)} {r sz off m : Nat} {p : List Nat} (h : oneRef len parts = some (r, p, sz, off, m)) : len = 1 ∧ parts = [(0, .ref r p sz off m)] := by
  unfold oneRef at h
  split at h
  · cases h; exact ⟨rfl, rfl⟩
  · cases h

def onePair (len : Nat) (parts : List (Nat × D)) : Option (Value × Nat × List Nat × Nat × Nat × Nat) :=
  match len, parts with
  | 1, [(0, .agg [.lit v, .ref r p sz off m])] => some (v, r, p, sz, off, m)
  | _, _ => none
theorem onePair_eq {len : Nat} {parts : List (Nat × D)} {v : Value} {r sz off m : Nat} {p : List Nat} (h : onePair len parts = some (v, r, p, sz, off, m)) : len = 1 ∧ parts = [(0, .agg [.lit v, .ref r p sz off m])] := by
  unfold onePair at h
  split at h
  · cases h; exact ⟨rfl, rfl⟩
  · cases h

def twoRef (len : Nat) (parts : List (Nat × D)) : Option (Nat × Nat × Nat × Nat × Nat × Nat) :=
  match len, parts with
  | 2, [(0, .ref r1 [] sz1 0 m1), (1, .ref r2 [] sz2 0 m2)] => some (r1, sz1, m1, r2, sz2, m2)
  | _, _ => none
theorem twoRef_eq {len : Nat} {parts : List (Nat × D)} {r1 sz1 m1 r2 sz2 m2 : Nat} (h : twoRef len parts = some (r1, sz1, m1, r2, sz2, m2)) : len = 2 ∧ parts = [(0, .ref r1 [] sz1 0 m1), (1, .ref r2 [] sz2 0 m2)] := by
  unfold twoRef at h
  split at h
  · cases h; exact ⟨rfl, rfl⟩
  · cases h

def buildSliceK (T : Tab) (rt : RT) (n t len : Nat) (parts : List (Nat × D)) (K : Res → Prop) : Prop :=
  chk (!Nat.beq (T.get t).size 0) (match (T.get t).ty with
  | .slice e => chk (!Nat.beq (T.get e).size 0 && Nat.ble (len * (T.get e).size) 16777216)
    (match oneRef len parts with
    | some (r, p, sz, off, m) => chk (Nat.beq (T.get e).size 1 && !Nat.beq sz 0) (match p, off, rt r with
      | [], 0, some (some R) => chk (!R.box) (m * sz = R.cs.length ∧ K { val := .ref n [] 1 0 1, new := [some ⟨false, 1, [.list true sz R.cs]⟩], wr := [(r, none)], rd := [r] })
      | _, _, _ => False)
    | none => match onePair len parts with
    | some (v, r, p, sz, off, m) => chk (Nat.beq (T.get e).size 2 && !Nat.beq sz 0 && D.one (.lit v) && Nat.beq (zeroCells (T.get e).zero).length 2) (match p, off, rt r with
      | [], 0, some (some R) => chk (!R.box) (m * sz = R.cs.length ∧ K { val := .ref n [] 2 0 1, new := [some ⟨false, 2, [.lit v, .list true sz R.cs]⟩], wr := [(r, none)], rd := [r] })
      | _, _, _ => False)
    | none => match twoRef len parts with
    | some (r1, sz1, m1, r2, sz2, m2) => chk (Nat.beq (T.get e).size 1 && !Nat.beq r1 r2) (match rt r1, rt r2 with
      | some (some R1), some (some R2) => chk (!R1.box && !R2.box) (m1 * sz1 = R1.cs.length ∧ m2 * sz2 = R2.cs.length ∧ K { val := .ref n [] 1 0 2, new := [some ⟨false, 1, [.list false sz1 R1.cs, .list false sz2 R2.cs]⟩], wr := [(r1, none), (r2, none)], rd := [r1, r2] })
      | _, _ => False)
    | none => match fillD T ((List.range len).map fun i => (i * (T.get e).size, e)) (replN len (zeroCells (T.get e).zero)) parts with
      | some cs => chk (cs.all D.plainOr && Nat.beq (zeroCells (T.get e).zero).length (T.get e).size && noEmpty parts) (forceSz (T.get e).size fun sz => forceL (cs.map D.unown) fun cs => K { val := .ref n [] sz 0 len, new := [some ⟨false, sz, cs⟩] })
      | none => False)
  | _ => False)

def buildK (T : Tab) (t : Nat) (parts : List (Nat × D)) (K : Res → Prop) : Prop :=
  chk (!Nat.beq (T.get t).size 0) (match (T.get t).ty with
    | .struct fs => (match fillD T fs (zeroCells (T.get t).zero) parts with
      | some cs => chk (fs.all (fun x => !Nat.beq (T.get x.2).size 0) && noEmpty parts) (K { val := .agg cs })
      | none => False)
    | _ => False)

def nilCheckK (rt : RT) (x : D) (K : Res → Prop) : Prop :=
  match x with
    | .ptr r p off => (match rt r with
      | some (some _) => K { val := .ptr r p off, rd := [r] }
      | _ => False)
    | .cptr cs off => K { val := .cptr cs off }
    | _ => False

def maxK (mx : Bool) (xs : List D) (K : Res → Prop) : Prop :=
  match xs with
  | [.lit (.int k a), .lit (.int _ b)] => K { val := .lit (.int k (match mx with | true => max a b | false => min a b)) }
  | _ => False

def nilEqK (T : Tab) (rt : RT) (t : Nat) (op : BinOp) (x : D) (K : Res → Prop) : Prop :=
  chk (!Nat.beq (T.get t).size 0) (match (T.get t).ty with
  | .slice _ => (match x with
    | .lit (.slice none 0 0) => (match op with
      | .eql => K { val := .kb true }
      | .neq => K { val := .kb false }
      | _ => False)
    | .ref r _ _ _ n => (match rt r with
      | some (some _) => n ≠ 0 ∧ (match op with
        | .eql => K { val := .kb false, rd := [r] }
        | .neq => K { val := .kb true, rd := [r] }
        | _ => False)
      | _ => False)
    | _ => False)
  | _ => False)

def forcePts : List (Nat × D) → (List (Nat × D) → Prop) → Prop
  | [], k => k []
  | (i, d) :: l, k => forceD d fun d => forcePts l fun l => k ((i, d) :: l)
theorem forcePts_eq : ∀ (l : List (Nat × D)) (k : List (Nat × D) → Prop), forcePts l k = k l
  | [], _ => rfl
  | (i, d) :: l, k => by simp only [forcePts, forceD_eq, forcePts_eq l]

end Go.Vm

/- The evaluator is sound: operations that only compute. -/
set_option linter.unusedVariables false
set_option linter.unusedSimpArgs false
set_option linter.unusedSectionVars false
namespace Go.Vm
open Go Go.RowKit

section inv
variable {w : World} {ok : Nat → Prop} {own : Nat → Option Lab} {rt : RT} {v : Value}
end inv

theorem Mt.belowD {w : World} {ok : Nat → Prop} {own : Nat → Option Lab} {rt : RT} {d : D} {v : Value} (h : Mt w ok own rt d v) {n : Nat} (hn : ∀ r, rt r ≠ none → r < n) : BelowD n d := by
  induction h with
  | undef v => exact .undef
  | sh d v h => exact h.belowD n
  | ref r p sz off m v h0 => exact .ref r p sz off m (hn r h0)
  | ptr r p off v h0 => exact .ptr r p off (hn r h0)
  | agg ds vs hl hr ih => exact .agg ds (fun d hd => by
      obtain ⟨i, hi, rfl⟩ := List.getElem_of_mem hd
      exact ih i _ _ (List.getElem?_eq_getElem hi) (Array.getElem?_eq_getElem (by omega)))
  | tup ds vs hl hr ih => exact .tup ds (fun d hd => by
      obtain ⟨i, hi, rfl⟩ := List.getElem_of_mem hd
      exact ih i _ _ (List.getElem?_eq_getElem hi) (Array.getElem?_eq_getElem (by omega)))
  | fn f fs cs first caps h1 h2 hf hr ihf ih => exact .fn f fs cs (fun d hd => by
      obtain ⟨i, hi, rfl⟩ := List.getElem_of_mem hd
      exact ihf i _ _ (List.getElem?_eq_getElem hi) (Array.getElem?_eq_getElem (by omega))) (fun d hd => by
      obtain ⟨i, hi, rfl⟩ := List.getElem_of_mem hd
      exact ih i _ _ (List.getElem?_eq_getElem hi) (Array.getElem?_eq_getElem (by omega)))

def newRT (rt : RT) (n : Nat) (l : List (Option Root)) : RT := fun r => if n ≤ r ∧ r < n + l.length then l[r - n]? else rt r
def wrRT : RT → List (Nat × Option Root) → RT
  | rt, [] => rt
  | rt, (r, x) :: l => wrRT (rt.set r x) l
def applyRes (rt : RT) (n : Nat) (res : Res) : RT := newRT (wrRT rt res.wr) n res.new

theorem applyRes_pure (rt : RT) (n : Nat) (d : D) (rd : List Nat) : applyRes rt n { val := d, rd := rd } = rt := by simp [applyRes, wrRT]

theorem newRT_one (rt : RT) (n : Nat) (x : Option Root) : newRT rt n [x] = rt.set n x := by
  funext r; unfold newRT RT.set
  by_cases h : r = n
  · subst h; rw [if_pos (by simp)]; simp
  · rw [if_neg (by simp; omega), if_neg h]

section
variable {P : Program} {o : Oper} {a : Act} {w w' : World} {Kc : Act → World → Prop} {Q : Exit → Act → World → Prop}
theorem wp_value {v : Value} (hr : (execOp a.eval o).run P w = .ok (.value v) w') (h : Kc (a.put o.dst v) w') : o.wp P a w Kc Q := by
  unfold Oper.wp; rw [hr]; exact h
theorem wp_skipped (hr : (execOp a.eval o).run P w = .ok .skip w') (h : Kc (a.put o.dst Go.undef) w') : o.wp P a w Kc Q := by
  unfold Oper.wp; rw [hr]; exact h
end

def Goal (w0 : Base) (env : List D) (rt : RT) (n : Nat) (a : Act) (dst : Option Tmp) (K : Res → Prop) (Kc : Act → World → Prop) : Prop :=
  ∀ res v w' own', K res → Sim w0 (fun i => env.getD i .undef) (applyRes rt n res) (fun i => a.tmps.getD i Go.undef) w' own' →
    Mt w' (okb w' own') own' (applyRes rt n res) res.val v → Kc (a.put dst v) w'

section
variable {P : Program} {T : Tab} {w0 : Base} {w : World} {env : List D} {rt : RT} {own : Nat → Option Lab} {a : Act} {n : Nat} {o : Oper} {K : Res → Prop} {Kc : Act → World → Prop} {Q : Exit → Act → World → Prop}

theorem evO_mt (hs : Sim w0 (fun i => env.getD i .undef) rt (fun i => a.tmps.getD i Go.undef) w own) (x : Operand) : Mt w (okb w own) own rt (evO env x) (a.eval x) := by
  cases x with
  | tmp t => exact hs.env t
  | const v =>
    cases v <;> first | exact .sh _ _ (.kb _) | exact .sh _ _ (.lit _)
  | global g => exact .sh _ _ (.lit _)
  | func f => exact .sh _ _ (.fn _ [] [] #[] #[] rfl rfl (fun i d v h => by simp at h) (fun i d v h => by simp at h))

theorem quiet_sound (hs : Sim w0 (fun i => env.getD i .undef) rt (fun i => a.tmps.getD i Go.undef) w own) (hg : Goal w0 env rt n a o.dst K Kc)
    {d : D} {v : Value} {rd : List Nat} (hk : K { val := d, rd := rd }) (hm : Mt w (okb w own) own rt d v) (hr : (execOp a.eval o).run P w = .ok (.value v) w) : o.wp P a w Kc Q :=
  wp_value hr (hg _ v w own hk (by rw [applyRes_pure]; exact hs) (by rw [applyRes_pure]; exact hm))

theorem move_sound (hs : Sim w0 (fun i => env.getD i .undef) rt (fun i => a.tmps.getD i Go.undef) w own) (hg : Goal w0 env rt n a o.dst K Kc) (x : Operand)
    (ho : o.op = .move x ∨ o.op = .assign x) (h : K { val := evO env x }) : o.wp P a w Kc Q := by
  refine quiet_sound hs hg h (evO_mt hs x) ?_
  rcases ho with ho | ho <;> simp [execOp, ho]

theorem pick_sound (hs : Sim w0 (fun i => env.getD i .undef) rt (fun i => a.tmps.getD i Go.undef) w own) (hg : Goal w0 env rt n a o.dst K Kc) (c x y : Operand)
    (ho : o.op = .pick c x y) (h : evK P T env rt n (.pick c x y) K) : o.wp P a w Kc Q := by
  simp only [evK] at h
  have hc := evO_mt hs c
  split at h
  · rename_i e; rw [e] at hc
    refine quiet_sound hs hg h (evO_mt hs x) ?_
    simp [execOp, ho, hc.kb_inv, asBool]
  · rename_i e; rw [e] at hc
    refine quiet_sound hs hg h (evO_mt hs y) ?_
    simp [execOp, ho, hc.kb_inv, asBool]
  · exact h.elim


end
end Go.Vm

/- The evaluator is sound: arithmetic, fields, places, slices. -/
set_option linter.unusedVariables false
set_option linter.unusedSimpArgs false
set_option linter.unusedSectionVars false
namespace Go.Vm
open Go Go.RowKit

theorem Ty.ofDesc_slice {d : TypeDesc} {e : Nat} (h : Ty.ofDesc d = .slice e) : d = .slice e := by
  cases d <;> simp [Ty.ofDesc] at h; subst h; rfl
theorem Ty.ofDesc_int {d : TypeDesc} {k : IntKind} (h : Ty.ofDesc d = .int k) : d = .int k := by
  cases d <;> simp [Ty.ofDesc] at h; subst h; rfl
theorem Ty.ofDesc_struct {d : TypeDesc} {fs : List (Nat × Nat)} (h : Ty.ofDesc d = .struct fs) : ∃ f : Array Field, d = .struct f ∧ fs = f.toList.map fun x => (x.offset, x.type) := by
  cases d <;> simp [Ty.ofDesc] at h; exact ⟨_, rfl, h.symm⟩
section
variable {P : Program} {T : Tab} {w0 : Base} {w : World} {env : List D} {rt : RT} {own : Nat → Option Lab} {a : Act} {n : Nat} {o : Oper} {K : Res → Prop} {Kc : Act → World → Prop} {Q : Exit → Act → World → Prop}

theorem boolP_sound (hs : Sim w0 (fun i => env.getD i .undef) rt (fun i => a.tmps.getD i Go.undef) w own) (hg : Goal w0 env rt n a o.dst K Kc)
    {p : Prop} (h : boolP p K) {b : Bool} (hb : b = true ↔ p) (hr : (execOp a.eval o).run P w = .ok (.value (.bool b)) w) : o.wp P a w Kc Q := by
  cases b with
  | true => exact quiet_sound hs hg (h.1 (hb.1 rfl)) (.sh _ _ (.kb true)) hr
  | false => exact quiet_sound hs hg (h.2 (fun hp => by have := hb.2 hp; cases this)) (.sh _ _ (.kb false)) hr

theorem bin_sound (hT : TabOk P T) (hs : Sim w0 (fun i => env.getD i .undef) rt (fun i => a.tmps.getD i Go.undef) w own) (hg : Goal w0 env rt n a o.dst K Kc) (op : BinOp) (t t' : TypeId) (x y : Operand)
    (ho : o.op = .binOp op t x y t') (h : binK T t op (evO env x) (evO env y) K) : o.wp P a w Kc Q := by
  have hx := evO_mt hs x
  have hy := evO_mt hs y
  unfold binK at h
  split at h
  · rename_i k c k' d e1 e2
    rw [e1] at hx; rw [e2] at hy
    have vx := hx.lit_inv
    have vy := hy.lit_inv
    have h1 := chk_and h; clear h; obtain ⟨hk, h⟩ := h1
    · have hk := ikEq_eq hk
      subst hk
      have run : ∀ v, (Go.binOp op t (.int k c) (.int k d)).run P w = .ok v w → (execOp a.eval o).run P w = .ok (.value v) w := fun v hv => by
        cases op <;> simp [execOp, ho, vx, vy, eqGuard, hv]
      have bl : ∀ (b : Bool), (Go.binOp op t (.int k c) (.int k d)).run P w = .ok (.bool b) w → (execOp a.eval o).run P w = .ok (.value (.bool b)) w := fun b hv => run _ hv
      have ik : ∀ m, intK k m K → (Go.binOp op t (.int k c) (.int k d)).run P w = .ok (.int k (k.wrap m)) w → o.wp P a w Kc Q := fun m hm hv => by
        exact quiet_sound hs hg (intK_wrap hm) (.sh _ _ (.lit _)) (run _ hv)
      cases op <;> simp only at h
      case add => exact ik _ h (by simp [Go.binOp, Op.intArith])
      case sub => exact ik _ h (by simp [Go.binOp, Op.intArith])
      case mul => exact ik _ h (by simp [Go.binOp, Op.intArith])
      case quo => exact ik _ h.2 (by simp [Go.binOp, Op.intDiv, h.1])
      case rem => exact quiet_sound hs hg h.2 (.sh _ _ (.lit _)) (run _ (by simp [Go.binOp, Op.intDiv, h.1]))
      case shr => exact quiet_sound hs hg h.2 (.sh _ _ (.lit _)) (run _ (by simp [Go.binOp, Op.shift, Int.not_lt.2 h.1]))
      case and => exact quiet_sound hs hg h (.sh _ _ (.lit _)) (run _ (by simp [Go.binOp, Op.intBits]))
      case eql => exact boolP_sound hs hg h (b := c == d) (by simp) (bl _ (by simp [Go.binOp, Op.intCmp]))
      case neq => exact boolP_sound hs hg h (b := c != d) (by simp) (bl _ (by simp [Go.binOp, Op.intCmp]))
      case lss => exact boolP_sound hs hg h (b := decide (c < d)) (by simp) (bl _ (by simp [Go.binOp, Op.intCmp]))
      case leq => exact boolP_sound hs hg h (b := decide (c ≤ d)) (by simp) (bl _ (by simp [Go.binOp, Op.intCmp]))
      case gtr => exact boolP_sound hs hg h (b := decide (c > d)) (by simp) (bl _ (by simp [Go.binOp, Op.intCmp]))
      case geq => exact boolP_sound hs hg h (b := decide (c ≥ d)) (by simp) (bl _ (by simp [Go.binOp, Op.intCmp]))
  · rename_i c d e1 e2
    rw [e1] at hx; rw [e2] at hy
    have vx := hx.kb_inv
    have vy := hy.kb_inv
    have h1 := chk_and h; clear h; obtain ⟨hk, h⟩ := h1
    simp only [Bool.and_eq_true, Bool.not_eq_true', ← Bool.not_eq_true, Nat.beq_eq] at hk
    obtain ⟨_, ds, _, hds, _, _, _, hty⟩ := hT.info hk.1
    have hb : ds = .bool := by
      have := hk.2
      rw [hty] at this
      cases ds <;> simp [Ty.ofDesc, Ty.isBool] at this; rfl
    subst hb
    have he0 : ∀ m, (Op.equalIn (m + 1) t (.bool c) (.bool d)).run P w = .ok (c == d) w := fun m => by
      simp [Op.equalIn, underlying, program, Sem.run, hds]
    have he : (Op.equal t (.bool c) (.bool d)).run P w = .ok (c == d) w := he0 9999
    cases op <;> simp only at h
    case eql => exact quiet_sound hs hg h (.sh _ _ (.kb _)) (by simp [execOp, ho, vx, vy, eqGuard, Go.binOp, Sem.run_bind, he])
    case neq => exact quiet_sound hs hg h (.sh _ _ (.kb _)) (by simp [execOp, ho, vx, vy, eqGuard, Go.binOp, Sem.run_bind, he]; cases c <;> cases d <;> rfl)
  · exact h.elim

theorem un_sound (hs : Sim w0 (fun i => env.getD i .undef) rt (fun i => a.tmps.getD i Go.undef) w own) (hg : Goal w0 env rt n a o.dst K Kc) (op : UnOp) (t : TypeId) (x : Operand)
    (ho : o.op = .unOp op t x) (h : unK op (evO env x) K) : o.wp P a w Kc Q := by
  have hx := evO_mt hs x
  unfold unK at h
  split at h
  · rename_i k c e1
    rw [e1] at hx
    have vx := hx.lit_inv
    exact quiet_sound hs hg (intK_wrap h) (.sh _ _ (.lit _)) (by simp [execOp, ho, vx, Op.unary, Op.intArith])
  · rename_i b e1
    rw [e1] at hx
    have vx := hx.kb_inv
    exact quiet_sound hs hg h (.sh _ _ (.kb _)) (by simp [execOp, ho, vx, Op.unary])
  · exact h.elim

theorem convert_sound (hT : TabOk P T) (hs : Sim w0 (fun i => env.getD i .undef) rt (fun i => a.tmps.getD i Go.undef) w own) (hg : Goal w0 env rt n a o.dst K Kc) (src dst : TypeId) (x : Operand)
    (ho : o.op = .convert src dst x) (h : convK T src dst (evO env x) K) : o.wp P a w Kc Q := by
  have hx := evO_mt hs x
  unfold convK at h
  have h1 := chk_and h; clear h; obtain ⟨hc, h⟩ := h1
  simp only [Bool.and_eq_true, Bool.not_eq_true', ← Bool.not_eq_true, Nat.beq_eq] at hc
  obtain ⟨hsz, hdst⟩ := hc
  obtain ⟨_, ds, _, hds, _⟩ := hT.info hsz
  split at h
  · rename_i k k' c e1 e2
    rw [e2] at hx
    have vx := hx.lit_inv
    obtain ⟨i, d, _, hu, _, _, _, hty⟩ := hT.info hdst
    rw [e1] at hty
    have := Ty.ofDesc_int hty.symm
    subst this
    refine quiet_sound hs hg (intK_wrap h) (.sh _ _ (.lit _)) ?_
    simp [execOp, ho, vx, convert, run_underlying hu, run_underlying hds, Conv.intToInt]
  · exact h.elim

theorem makeFunc_sound (hs : Sim w0 (fun i => env.getD i .undef) rt (fun i => a.tmps.getD i Go.undef) w own) (hg : Goal w0 env rt n a o.dst K Kc) (fn : Fn) (first captured : Array Operand)
    (ho : o.op = .makeFunc fn first captured) (h : K { val := .fn fn (first.toList.map (evO env)) (captured.toList.map (evO env)) }) : o.wp P a w Kc Q := by
  refine quiet_sound hs hg h (v := .func fn (first.map a.eval) (captured.map a.eval)) (.fn _ _ _ _ _ (by simp) (by simp) (fun i d v h1 h2 => ?_) (fun i d v h1 h2 => ?_)) ?_
  · simp only [List.getElem?_map, Option.map_eq_some_iff, Array.getElem?_toList] at h1
    obtain ⟨x, hx, rfl⟩ := h1
    simp only [Array.getElem?_map, hx, Option.map_some, Option.some.injEq] at h2
    subst h2; exact evO_mt hs x
  · simp only [List.getElem?_map, Option.map_eq_some_iff, Array.getElem?_toList] at h1
    obtain ⟨x, hx, rfl⟩ := h1
    simp only [Array.getElem?_map, hx, Option.map_some, Option.some.injEq] at h2
    subst h2; exact evO_mt hs x
  · simp [execOp, ho, Instr.makeFunc]

theorem extract_sound (hs : Sim w0 (fun i => env.getD i .undef) rt (fun i => a.tmps.getD i Go.undef) w own) (hg : Goal w0 env rt n a o.dst K Kc) (x : Operand) (i : Nat)
    (ho : o.op = .extract x i) (h : extractK (evO env x) i K) : o.wp P a w Kc Q := by
  have hx := evO_mt hs x
  unfold extractK at h
  split at h
  · rename_i ds e1
    rw [e1] at hx
    obtain ⟨vs, hv, hl, hr⟩ := hx.tup_inv
    split at h
    · rename_i d hd
      have hlt : i < vs.size := by rw [hl]; exact (List.getElem?_eq_some_iff.1 hd).1
      refine quiet_sound hs hg h (hr i d vs[i] hd (Array.getElem?_eq_getElem hlt)) ?_
      simp [execOp, ho, hv, Instr.extract, Array.getElem?_eq_getElem hlt]
    · exact h.elim
  · exact h.elim

theorem Addr.add_off (b off k : Nat) : (⟨b, off, none⟩ : Addr).add k = ⟨b, off + k, none⟩ := by
  cases k <;> simp [Addr.add]

theorem fieldAddr_sound (hT : TabOk P T) (hs : Sim w0 (fun i => env.getD i .undef) rt (fun i => a.tmps.getD i Go.undef) w own) (hg : Goal w0 env rt n a o.dst K Kc) (s : TypeId) (x : Operand) (f : Nat)
    (ho : o.op = .fieldAddr s x f) (h : fieldAddrK T rt s (evO env x) f K) : o.wp P a w Kc Q := by
  have hx := evO_mt hs x
  unfold fieldAddrK at h
  have h1 := chk_and h; clear h; obtain ⟨hsz, h⟩ := h1
  simp only [Bool.not_eq_true', ← Bool.not_eq_true, Nat.beq_eq] at hsz
  obtain ⟨i, d, _, hu, _, _, _, hty⟩ := hT.info hsz
  have key : ∀ off ti, fieldOf T s f = some (off, ti) → ti.size ≠ 0 → ∀ b q, a.eval x = .pointer (some ⟨b, q, none⟩) → (execOp a.eval o).run P w = .ok (.value (.pointer (some ⟨b, q + off, none⟩))) w := by
    intro off ti hf hti b q hv
    unfold fieldOf at hf
    split at hf
    · rename_i fs hfs
      split at hf
      · rename_i o' t' hft
        simp only [Option.some.injEq, Prod.mk.injEq] at hf
        obtain ⟨rfl, rfl⟩ := hf
        rw [hfs] at hty
        obtain ⟨fa, rfl, rfl⟩ := Ty.ofDesc_struct hty.symm
        simp only [List.getElem?_map, Option.map_eq_some_iff, Array.getElem?_toList] at hft
        obtain ⟨fd, hfd, he⟩ := hft
        cases he
        obtain ⟨it, dt, hi, _, hsz', _⟩ := hT.info hti
        have : it.size ≠ 0 := by rw [hsz']; exact hti
        simp [execOp, ho, hv, Instr.fieldAt, run_underlying hu, hfd, Instr.sureAddr, fieldPlace, sizeOf, typeInfo, hi, this, Addr.add_off]
      · cases hf
    · cases hf
  split at h
  · rename_i o' ti r p off e1 e2
    have h1 := chk_and h; clear h; obtain ⟨hz, h⟩ := h1
    simp only [Bool.not_eq_true', ← Bool.not_eq_true, Nat.beq_eq] at hz
    rw [e2] at hx
    split at h
    · rename_i R hR
      obtain ⟨h0, hp⟩ := hx.ptr_inv
      obtain ⟨b, arr, e, hb, hw, hv⟩ := hp R hR
      exact quiet_sound hs hg h (.ptr _ _ _ _ h0 rfl (fun R' hR' => ⟨hx.ptr_path R' hR', b, arr, e, hb, hw, rfl⟩)) (key _ _ e1 hz b off hv)
    · exact h.elim
  · rename_i o' ti cs off e1 e2
    have h1 := chk_and h; clear h; obtain ⟨hz, h⟩ := h1
    simp only [Bool.not_eq_true', ← Bool.not_eq_true, Nat.beq_eq] at hz
    rw [e2] at hx
    generalize hv : a.eval x = v at hx
    have := hx.cptr_inv
    cases this with
    | cptr _ _ b q hb hc hr =>
      refine quiet_sound hs hg h (v := .pointer (some ⟨b, q + off + o', none⟩)) ?_ (key _ _ e1 hz b (q + off) hv)
      rw [show q + off + o' = q + (off + o') by omega]
      exact .sh _ _ (.cptr cs (off + o') b q hb hc hr)
  · exact h.elim

end
end Go.Vm

/- The evaluator is sound: slices, indexes, fields, loads. -/
set_option linter.unusedVariables false
set_option linter.unusedSimpArgs false
set_option linter.unusedSectionVars false
namespace Go.Vm
open Go Go.RowKit

theorem elemIs_eq {T : Tab} {e sz : Nat} (h : elemIs T e sz = true) : (T.get e).size = sz ∧ sz ≠ 0 := by
  simp only [elemIs, Bool.and_eq_true, Bool.not_eq_true', ← Bool.not_eq_true, Nat.beq_eq] at h
  exact h
theorem cnt_eq {sz : Nat} (cs : List D) : cnt sz cs = cs.length / sz := by
  unfold cnt; split
  · rename_i h; simp at h; subst h; simp
  · rfl
theorem cnt_mul {sz len : Nat} {cs : List D} (hz : sz ≠ 0) (h : len * sz = cs.length) : cnt sz cs = len := by
  rw [cnt_eq, ← h, Nat.mul_div_cancel _ (by omega)]

section
variable {P : Program} {T : Tab} {w0 : Base} {w : World} {env : List D} {rt : RT} {own : Nat → Option Lab} {a : Act} {n : Nat} {o : Oper} {K : Res → Prop} {Kc : Act → World → Prop} {Q : Exit → Act → World → Prop}

theorem run_bound (k : IntKind) (i : Int) (y : Nat) (c : BoundsCode) (h0 : 0 ≤ i) (h1 : i ≤ y) : (Instr.sliceBound (.int k i) y c).run P w = .ok i.toNat w := by
  simp [Instr.sliceBound, asIntOf, h0, h1]

theorem run_slice_hi {t e : TypeId} {i : TypeInfo} (hu : P.underlying t = some (.slice e)) (hi : P.info? e = some i) (ad : Option Addr) (m cap : Nat) (k : IntKind) (h : Int) (h0 : 0 ≤ h) (h1 : h ≤ cap) :
    (Instr.sliceAt t (.slice ad m cap) none (some (.int k h)) none).run P w = .ok (.slice (if cap = 0 then ad else ad.map (·.add (0 * i.size))) (h.toNat - 0) (cap - 0)) w := by
  simp [Instr.sliceAt, Instr.slice, Instr.sliceBounds, run_underlying hu, run_bound k h cap _ h0 h1, sizeOf, typeInfo, hi]

theorem run_slice_lo {t e : TypeId} {i : TypeInfo} (hu : P.underlying t = some (.slice e)) (hi : P.info? e = some i) (ad : Option Addr) (m cap : Nat) (k : IntKind) (l : Int) (h0 : 0 ≤ l) (h1 : l ≤ m) :
    (Instr.sliceAt t (.slice ad m cap) (some (.int k l)) none none).run P w = .ok (.slice (if cap = l.toNat then ad else ad.map (·.add (l.toNat * i.size))) (m - l.toNat) (cap - l.toNat)) w := by
  simp [Instr.sliceAt, Instr.slice, Instr.sliceBounds, run_underlying hu, run_bound k l m _ h0 h1, sizeOf, typeInfo, hi]

theorem run_slice_both {t e : TypeId} {i : TypeInfo} (hu : P.underlying t = some (.slice e)) (hi : P.info? e = some i) (ad : Option Addr) (m cap : Nat) (k k' : IntKind) (l h : Int) (h0 : 0 ≤ l) (h1 : l ≤ h) (h2 : h ≤ cap) :
    (Instr.sliceAt t (.slice ad m cap) (some (.int k l)) (some (.int k' h)) none).run P w = .ok (.slice (if cap = l.toNat then ad else ad.map (·.add (l.toNat * i.size))) (h.toNat - l.toNat) (cap - l.toNat)) w := by
  have h3 : l ≤ (h.toNat : Int) := by omega
  simp [Instr.sliceAt, Instr.slice, Instr.sliceBounds, run_underlying hu, run_bound k' h cap _ (by omega) h2, run_bound k l h.toNat _ h0 h3, sizeOf, typeInfo, hi]

theorem run_slice_full {t e : TypeId} {i : TypeInfo} (hu : P.underlying t = some (.slice e)) (hi : P.info? e = some i) (ad : Option Addr) (m cap : Nat) (k k' : IntKind) (h : Int) (h0 : 0 ≤ h) (h2 : h ≤ cap) :
    (Instr.sliceAt t (.slice ad m cap) none (some (.int k h)) (some (.int k' h))).run P w = .ok (.slice (if h.toNat = 0 then ad else ad.map (·.add (0 * i.size))) (h.toNat - 0) (h.toNat - 0)) w := by
  have h3 : h ≤ (h.toNat : Int) := by omega
  simp [Instr.sliceAt, Instr.slice, Instr.sliceBounds, run_underlying hu, run_bound k' h cap _ h0 h2, run_bound k h h.toNat _ h0 h3, sizeOf, typeInfo, hi]

theorem slice_sound (hT : TabOk P T) (hs : Sim w0 (fun i => env.getD i .undef) rt (fun i => a.tmps.getD i Go.undef) w own) (hg : Goal w0 env rt n a o.dst K Kc) (t : TypeId) (x : Operand) (lo hi mx : Option Operand)
    (ho : o.op = .slice t x lo hi mx) (h : sliceK T rt t (evO env x) (lo.map (evO env)) (hi.map (evO env)) (mx.map (evO env)) K) : o.wp P a w Kc Q := by
  have hx := evO_mt hs x
  unfold sliceK at h
  have hint : ∀ (y : Operand) (k : IntKind) (c : Int), evO env y = .lit (.int k c) → a.eval y = .int k c := fun y k c e => by
    have := evO_mt hs y; rw [e] at this; exact this.lit_inv
  split at h
  · rename_i e r p sz off m hty hxe
    have h1 := chk_and h; clear h; obtain ⟨hc, h⟩ := h1
    simp only [Bool.and_eq_true] at hc
    obtain ⟨hes, hz⟩ := elemIs_eq hc.1
    obtain ⟨i, d, _, hu, _, _, _, htd⟩ := hT.info (nz hc.2)
    rw [hty] at htd
    have := Ty.ofDesc_slice htd.symm; subst this
    obtain ⟨ie, _, hie, _, hsz, _⟩ := hT.info (t := e) (by rw [hes]; exact hz)
    rw [hes] at hsz
    rw [hxe] at hx
    obtain ⟨h0, href⟩ := hx.ref_inv
    split at h
    · rename_i R hR
      have hro := href R hR
      split at h
      · rename_i hh hlo hhi hmx
        cases lo <;> cases hi <;> cases mx <;> simp at hlo hhi hmx
        rename_i yh
        obtain ⟨hb, h⟩ := h
        obtain ⟨ad, m0, cap, hv, hm0, hcap, hro'⟩ := hro.part 0 hh.toNat (by omega) (by omega)
        refine quiet_sound hs hg h (.ref _ _ _ _ _ _ h0 rfl (fun R' hR' => ⟨hx.ref_path R' hR', hro'⟩)) ?_
        have hr := run_slice_hi (P := P) (w := w) hu hie ad m0 cap .i64 hh hb.1 (by omega)
        simp only [execOp, ho, Option.map_none, Option.map_some, hint _ _ _ hhi, hv]
        simp [hr, hsz]
      · rename_i l hlo hhi hmx
        cases lo <;> cases hi <;> cases mx <;> simp at hlo hhi hmx
        rename_i yl
        obtain ⟨hb, h⟩ := h
        obtain ⟨ad, m0, cap, hv, hm0, hcap, hro'⟩ := hro.part l.toNat (m - l.toNat) (by omega) (by omega)
        refine quiet_sound hs hg h (.ref _ _ _ _ _ _ h0 rfl (fun R' hR' => ⟨hx.ref_path R' hR', hro'⟩)) ?_
        have hr := run_slice_lo (P := P) (w := w) hu hie ad m0 cap .i64 l hb.1 (by omega)
        simp only [execOp, ho, Option.map_none, Option.map_some, hint _ _ _ hlo, hv]
        rw [hm0] at hr ⊢
        simp [hr, hsz]
      · rename_i l hh hlo hhi hmx
        cases lo <;> cases hi <;> cases mx <;> simp at hlo hhi hmx
        rename_i yl yh
        obtain ⟨hb, h⟩ := h
        obtain ⟨ad, m0, cap, hv, hm0, hcap, hro'⟩ := hro.part l.toNat (hh.toNat - l.toNat) (by omega) (by omega)
        refine quiet_sound hs hg h (.ref _ _ _ _ _ _ h0 rfl (fun R' hR' => ⟨hx.ref_path R' hR', hro'⟩)) ?_
        have hr := run_slice_both (P := P) (w := w) hu hie ad m0 cap .i64 .i64 l hh hb.1 hb.2.1 (by omega)
        simp only [execOp, ho, Option.map_none, Option.map_some, hint _ _ _ hlo, hint _ _ _ hhi, hv]
        simp [hr, hsz]
      · exact h.elim
    · exact h.elim
  · rename_i e ob sz cs hty hxe
    have h1 := chk_and h; clear h; obtain ⟨hc, h⟩ := h1
    simp only [Bool.and_eq_true] at hc
    obtain ⟨hes, hz⟩ := elemIs_eq hc.1
    obtain ⟨i, d, _, hu, _, _, _, htd⟩ := hT.info (nz hc.2)
    rw [hty] at htd
    have := Ty.ofDesc_slice htd.symm; subst this
    obtain ⟨ie, _, hie, _, hsz, _⟩ := hT.info (t := e) (by rw [hes]; exact hz)
    rw [hes] at hsz
    rw [hxe] at hx
    have hsh := hx.list_inv
    split at h
    · rename_i hh hlo hhi hmx
      cases lo <;> cases hi <;> cases mx <;> simp at hlo hhi hmx
      obtain ⟨hb, cs', rfl, h⟩ := h
      obtain ⟨ad, m0, cap, hv, hm0, hcap, hro'⟩ := hsh.part hz 0 hh.toNat (by omega) (by omega)
      refine quiet_sound hs hg h (.sh _ _ hro') ?_
      have hr := run_slice_hi (P := P) (w := w) hu hie ad m0 cap .i64 hh hb.1 (by omega)
      simp only [execOp, ho, Option.map_none, Option.map_some, hint _ _ _ hhi, hv]
      simp [hr, hsz]
    · rename_i l hlo hhi hmx
      cases lo <;> cases hi <;> cases mx <;> simp at hlo hhi hmx
      obtain ⟨hb, cs', rfl, h⟩ := h
      obtain ⟨ad, m0, cap, hv, hm0, hcap, hro'⟩ := hsh.part hz l.toNat (cnt sz cs - l.toNat) (by omega) (by omega)
      refine quiet_sound hs hg h (.sh _ _ hro') ?_
      have hr := run_slice_lo (P := P) (w := w) hu hie ad m0 cap .i64 l hb.1 (by omega)
      simp only [execOp, ho, Option.map_none, Option.map_some, hint _ _ _ hlo, hv]
      rw [hm0] at hr ⊢
      simp [hr, hsz]
    · rename_i l hh hlo hhi hmx
      cases lo <;> cases hi <;> cases mx <;> simp at hlo hhi hmx
      obtain ⟨hb, cs', rfl, h⟩ := h
      obtain ⟨ad, m0, cap, hv, hm0, hcap, hro'⟩ := hsh.part hz l.toNat (hh.toNat - l.toNat) (by omega) (by omega)
      refine quiet_sound hs hg h (.sh _ _ hro') ?_
      have hr := run_slice_both (P := P) (w := w) hu hie ad m0 cap .i64 .i64 l hh hb.1 hb.2.1 (by omega)
      simp only [execOp, ho, Option.map_none, Option.map_some, hint _ _ _ hlo, hint _ _ _ hhi, hv]
      simp [hr, hsz]
    · rename_i hh mm hlo hhi hmx
      cases lo <;> cases hi <;> cases mx <;> simp at hlo hhi hmx
      obtain ⟨⟨hb0, he, hb1⟩, cs', rfl, h⟩ := h
      have hmx' := hint _ _ _ hmx
      rw [he] at hmx'
      obtain ⟨ad, m0, cap, hv, hcap, hro'⟩ := hsh.fullPart hz hh.toNat (by omega)
      refine quiet_sound hs hg h (.sh _ _ hro') ?_
      have hr := run_slice_full (P := P) (w := w) hu hie ad m0 cap .i64 .i64 hh hb0 (by omega)
      simp only [execOp, ho, Option.map_none, Option.map_some, hint _ _ _ hhi, hmx', hv]
      simp [hr, hsz]
    · exact h.elim
  · exact h.elim

end
end Go.Vm
