/- The abstract values of the machine, how they read in memory, and what is kept when memory grows. -/
import Derived.WalkKit
set_option linter.unusedVariables false
set_option linter.unusedSimpArgs false
set_option linter.unusedSectionVars false
namespace Go.Vm
open Go Go.RowKit

/-- Abstract values. -/
inductive D where
  | undef
  | kb (b : Bool)
  | lit (v : Value)
  | list (o : Bool) (sz : Nat) (cs : List D)
  | cptr (cs : List D) (off : Nat)
  | agg (ds : List D)
  | tup (ds : List D)
  | fn (f : Fn) (first caps : List D)
  | ref (r : Nat) (p : List Nat) (sz off n : Nat)
  | ptr (r : Nat) (p : List Nat) (off : Nat)
  deriving Inhabited

structure Root where
  box : Bool
  sz : Nat
  cs : List D
  deriving Inhabited

abbrev RT := Nat → Option (Option Root)
abbrev Lab := Nat × List Nat

def D.notOwn : D → Bool
  | .list true _ _ => false
  | _ => true

/-- Closed data, read through blocks that 'ok' lets. -/
inductive Sh (w : World) (ok : Nat → Prop) : D → Value → Prop
  | undef (v : Value) : Sh w ok .undef v
  | kb (b : Bool) : Sh w ok (.kb b) (.bool b)
  | lit (v : Value) : Sh w ok (.lit v) v
  | nil (o : Bool) (sz : Nat) : Sh w ok (.list o sz []) (.slice none 0 0)
  | wild (o : Bool) (sz : Nat) (a : Addr) : Sh w ok (.list o sz []) (.slice (some a) 0 0)
  | list (o : Bool) (sz : Nat) (cs : List D) (b off len cap : Nat) (hl : len * sz = cs.length) (hlc : len ≤ cap) (hb : ok b)
      (hc : ∀ i, i < cs.length → (w.cell? ⟨b, off + i, none⟩).isSome = true)
      (hr : ∀ i d v, cs[i]? = some d → w.cell? ⟨b, off + i, none⟩ = some v → Sh w ok d v) :
      Sh w ok (.list o sz cs) (.slice (some ⟨b, off, none⟩) len cap)
  | cptr (cs : List D) (off : Nat) (b o : Nat) (hb : ok b)
      (hc : ∀ i, i < cs.length → (w.cell? ⟨b, o + i, none⟩).isSome = true)
      (hr : ∀ i d v, cs[i]? = some d → w.cell? ⟨b, o + i, none⟩ = some v → Sh w ok d v) :
      Sh w ok (.cptr cs off) (.pointer (some ⟨b, o + off, none⟩))
  | agg (ds : List D) (vs : Array Value) (hl : vs.size = ds.length)
      (hr : ∀ (i : Nat) d v, ds[i]? = some d → vs[i]? = some v → Sh w ok d v) : Sh w ok (.agg ds) (.agg vs)
  | tup (ds : List D) (vs : Array Value) (hl : vs.size = ds.length)
      (hr : ∀ (i : Nat) d v, ds[i]? = some d → vs[i]? = some v → Sh w ok d v) : Sh w ok (.tup ds) (.tuple vs)
  | fn (f : Fn) (fs cs : List D) (first caps : Array Value) (h1 : first.size = fs.length) (h2 : caps.size = cs.length)
      (hf : ∀ (i : Nat) d v, fs[i]? = some d → first[i]? = some v → Sh w ok d v)
      (hr : ∀ (i : Nat) d v, cs[i]? = some d → caps[i]? = some v → Sh w ok d v) : Sh w ok (.fn f fs cs) (.func f first caps)

theorem Sh.frame {w w' : World} {ok ok' : Nat → Prop} {d : D} {v : Value} (h : Sh w ok d v)
    (hok : ∀ b, ok b → ok' b ∧ w'.heap[b]? = w.heap[b]?) : Sh w' ok' d v := by
  have cell : ∀ b, ok b → ∀ o, w'.cell? ⟨b, o, none⟩ = w.cell? ⟨b, o, none⟩ := fun b hb o => World.cell?_of_block (hok b hb).2
  induction h with
  | undef v => exact .undef v
  | kb b => exact .kb b
  | lit v => exact .lit v
  | nil o sz => exact .nil o sz
  | wild o sz a => exact .wild o sz a
  | list o sz cs b off len cap hl hlc hb hc hr ih =>
    refine .list o sz cs b off len cap hl hlc (hok b hb).1 (fun i hi => ?_) (fun i d v hd hv => ?_)
    · rw [cell b hb]; exact hc i hi
    · rw [cell b hb] at hv; exact ih i d v hd hv
  | cptr cs off b o hb hc hr ih =>
    refine .cptr cs off b o (hok b hb).1 (fun i hi => ?_) (fun i d v hd hv => ?_)
    · rw [cell b hb]; exact hc i hi
    · rw [cell b hb] at hv; exact ih i d v hd hv
  | agg ds vs hl hr ih => exact .agg ds vs hl ih
  | tup ds vs hl hr ih => exact .tup ds vs hl ih
  | fn f fs cs first caps h1 h2 hf hr ihf ih => exact .fn f fs cs first caps h1 h2 ihf ih

/-- A tree of memory that is owned: each owned block bears the label of its place. -/
inductive Tr (w : World) (ok : Nat → Prop) (own : Nat → Option Lab) : Lab → D → Value → Prop
  | sh (l : Lab) (d : D) (v : Value) (ho : d.notOwn = true) (h : Sh w ok d v) : Tr w ok own l d v
  | nil (l : Lab) (sz : Nat) (hn : ∀ b, own b ≠ some l) : Tr w ok own l (.list true sz []) (.slice none 0 0)
  | own (l : Lab) (sz : Nat) (cs : List D) (b len cap : Nat) (arr : Array Value) (e : TypeId) (hz : sz ≠ 0) (hl : len * sz = cs.length) (hlc : len ≤ cap)
      (hb : own b = some l) (hw : w.heap[b]? = some (.cells arr e (0, 0))) (hc : cap * sz = arr.size) (hs : cs.length ≤ arr.size)
      (hr : ∀ (i : Nat) d v, cs[i]? = some d → arr[i]? = some v → Tr w ok own (l.1, l.2 ++ [i]) d v) :
      Tr w ok own l (.list true sz cs) (.slice (some ⟨b, 0, none⟩) len cap)

/-- The tree stays where the blocks of its labels and the shared blocks stay. -/
theorem Tr.frame {w w' : World} {ok ok' : Nat → Prop} {own own' : Nat → Option Lab} {l : Lab} {d : D} {v : Value} (h : Tr w ok own l d v)
    (hok : ∀ b, ok b → ok' b ∧ w'.heap[b]? = w.heap[b]?)
    (hown : ∀ b q, own b = some (l.1, l.2 ++ q) → own' b = some (l.1, l.2 ++ q) ∧ w'.heap[b]? = w.heap[b]?)
    (hback : ∀ b q, own' b = some (l.1, l.2 ++ q) → own b = some (l.1, l.2 ++ q)) : Tr w' ok' own' l d v := by
  induction h with
  | sh l d v ho h => exact .sh l d v ho (h.frame hok)
  | nil l sz hn => exact .nil l sz (fun b hb => hn b (by have := hback b [] (by simpa using hb); simpa using this))
  | own l sz cs b len cap arr e hz hl hlc hb hw hc hs hr ih =>
    have h0 := hown b [] (by simpa using hb)
    refine .own l sz cs b len cap arr e hz hl hlc (by simpa using h0.1) (h0.2.trans hw) hc hs (fun i d v hd hv => ih i d v hd hv ?_ ?_)
    · intro b q hq; have := hown b (i :: q) (by simpa using hq); simpa using this
    · intro b q hq; have := hback b (i :: q) (by simpa using hq); simpa using this

/-- A tree under another label. -/
theorem Tr.relab {w w' : World} {ok ok' : Nat → Prop} {own own' : Nat → Option Lab} {l : Lab} {d : D} {v : Value} (h : Tr w ok own l d v) (l' : Lab)
    (hok : ∀ b, ok b → ok' b ∧ w'.heap[b]? = w.heap[b]?)
    (hown : ∀ b q, own b = some (l.1, l.2 ++ q) → own' b = some (l'.1, l'.2 ++ q) ∧ w'.heap[b]? = w.heap[b]?)
    (hback : ∀ b q, own' b = some (l'.1, l'.2 ++ q) → own b = some (l.1, l.2 ++ q)) : Tr w' ok' own' l' d v := by
  induction h generalizing l' with
  | sh l d v ho h => exact .sh l' d v ho (h.frame hok)
  | nil l sz hn => exact .nil l' sz (fun b hb => hn b (by have := hback b [] (by simpa using hb); simpa using this))
  | own l sz cs b len cap arr e hz hl hlc hb hw hc hs hr ih =>
    have h0 := hown b [] (by simpa using hb)
    refine .own l' sz cs b len cap arr e hz hl hlc (by simpa using h0.1) (h0.2.trans hw) hc hs (fun i d v hd hv => ih i d v hd hv (l'.1, l'.2 ++ [i]) ?_ ?_)
    · intro b q hq; have := hown b (i :: q) (by simpa using hq); simpa using this
    · intro b q hq; have := hback b (i :: q) (by simpa using hq); simpa using this

/-- The content of the owned block at a path. -/
def getB : List D → List Nat → Option (List D)
  | cs, [] => some cs
  | cs, i :: q => match cs[i]? with
    | some (.list true _ cs') => getB cs' q
    | _ => none
/-- A path that leads somewhere. -/
def Vp (R : Root) (p : List Nat) : Prop := p = [] ∨ (R.box = false ∧ (getB R.cs p).isSome = true)

def RefOk (w : World) (own : Nat → Option Lab) (r : Nat) (p : List Nat) (sz off n : Nat) (v : Value) : Prop :=
  (∃ b arr e cap o, own b = some (r, p) ∧ w.heap[b]? = some (.cells arr e (0, 0)) ∧ v = .slice (some ⟨b, o, none⟩) n cap ∧ n ≤ cap ∧ (off + cap) * sz = arr.size ∧
    (off = 0 ∨ n ≠ 0 → o = off * sz)) ∨
  (v = .slice none 0 0 ∧ off = 0 ∧ n = 0 ∧ ∀ b, own b ≠ some (r, p))

def PtrOk (w : World) (own : Nat → Option Lab) (r : Nat) (p : List Nat) (off : Nat) (v : Value) : Prop :=
  ∃ b arr e, own b = some (r, p) ∧ w.heap[b]? = some (.cells arr e (0, 0)) ∧ v = .pointer (some ⟨b, off, none⟩)

/-- What a slot may hold. -/
inductive Mt (w : World) (ok : Nat → Prop) (own : Nat → Option Lab) (rt : RT) : D → Value → Prop
  | undef (v : Value) : Mt w ok own rt .undef v
  | sh (d : D) (v : Value) (h : Sh w ok d v) : Mt w ok own rt d v
  | ref (r : Nat) (p : List Nat) (sz off n : Nat) (v : Value) (h0 : rt r ≠ none) (h1 : v.oneCell' = true) (h : ∀ R, rt r = some (some R) → Vp R p ∧ RefOk w own r p sz off n v) : Mt w ok own rt (.ref r p sz off n) v
  | ptr (r : Nat) (p : List Nat) (off : Nat) (v : Value) (h0 : rt r ≠ none) (h1 : v.oneCell' = true) (h : ∀ R, rt r = some (some R) → Vp R p ∧ PtrOk w own r p off v) : Mt w ok own rt (.ptr r p off) v
  | agg (ds : List D) (vs : Array Value) (hl : vs.size = ds.length)
      (hr : ∀ (i : Nat) d v, ds[i]? = some d → vs[i]? = some v → Mt w ok own rt d v) : Mt w ok own rt (.agg ds) (.agg vs)
  | tup (ds : List D) (vs : Array Value) (hl : vs.size = ds.length)
      (hr : ∀ (i : Nat) d v, ds[i]? = some d → vs[i]? = some v → Mt w ok own rt d v) : Mt w ok own rt (.tup ds) (.tuple vs)
  | fn (f : Fn) (fs cs : List D) (first caps : Array Value) (h1 : first.size = fs.length) (h2 : caps.size = cs.length)
      (hf : ∀ (i : Nat) d v, fs[i]? = some d → first[i]? = some v → Mt w ok own rt d v)
      (hr : ∀ (i : Nat) d v, cs[i]? = some d → caps[i]? = some v → Mt w ok own rt d v) : Mt w ok own rt (.fn f fs cs) (.func f first caps)

/-- From one state of memory to another: what Mt wants kept. -/
structure Fr (w : World) (ok : Nat → Prop) (own : Nat → Option Lab) (rt : RT) (w' : World) (ok' : Nat → Prop) (own' : Nat → Option Lab) (rt' : RT) : Prop where
  ok : ∀ b, ok b → ok' b ∧ w'.heap[b]? = w.heap[b]?
  alive : ∀ r, rt r ≠ none → rt' r ≠ none
  live : ∀ r R', rt r ≠ none → rt' r = some (some R') → ∃ R, rt r = some (some R)
  lab : ∀ r R R', rt r = some (some R) → rt' r = some (some R') → ∀ b p, Vp R p → (own b = some (r, p) ↔ own' b = some (r, p))
  path : ∀ r R R' p, rt r = some (some R) → rt' r = some (some R') → Vp R p → Vp R' p
  shape : ∀ r R' b p arr e, rt r ≠ none → rt' r = some (some R') → own b = some (r, p) → w.heap[b]? = some (.cells arr e (0, 0)) →
    ∃ arr', w'.heap[b]? = some (.cells arr' e (0, 0)) ∧ arr'.size = arr.size

theorem Mt.frame {w w' : World} {ok ok' : Nat → Prop} {own own' : Nat → Option Lab} {rt rt' : RT} {d : D} {v : Value} (h : Mt w ok own rt d v)
    (hf : Fr w ok own rt w' ok' own' rt') : Mt w' ok' own' rt' d v := by
  induction h with
  | undef v => exact .undef v
  | sh d v h => exact .sh d v (h.frame hf.ok)
  | ref r p sz off n v h0 h1 h =>
    refine .ref r p sz off n v (hf.alive r h0) h1 (fun R' hR' => ?_)
    obtain ⟨R, hR⟩ := hf.live r R' h0 hR'
    obtain ⟨hp, h⟩ := h R hR
    refine ⟨hf.path r R R' p hR hR' hp, ?_⟩
    rcases h with ⟨b, arr, e, cap, o, hb, hw, hv, hnc, hc, ho⟩ | ⟨hv, ho, hn, hb⟩
    · obtain ⟨arr', hw', hs'⟩ := hf.shape r R' b p arr e h0 hR' hb hw
      exact .inl ⟨b, arr', e, cap, o, (hf.lab r R R' hR hR' b p hp).1 hb, hw', hv, hnc, by rw [hs']; exact hc, ho⟩
    · exact .inr ⟨hv, ho, hn, fun b hb' => hb b ((hf.lab r R R' hR hR' b p hp).2 hb')⟩
  | ptr r p off v h0 h1 h =>
    refine .ptr r p off v (hf.alive r h0) h1 (fun R' hR' => ?_)
    obtain ⟨R, hR⟩ := hf.live r R' h0 hR'
    obtain ⟨hp, b, arr, e, hb, hw, hv⟩ := h R hR
    obtain ⟨arr', hw', hs'⟩ := hf.shape r R' b p arr e h0 hR' hb hw
    exact ⟨hf.path r R R' p hR hR' hp, b, arr', e, (hf.lab r R R' hR hR' b p hp).1 hb, hw', hv⟩
  | agg ds vs hl hr ih => exact .agg ds vs hl ih
  | tup ds vs hl hr ih => exact .tup ds vs hl ih
  | fn f fs cs first caps h1 h2 hf' hr ihf ih => exact .fn f fs cs first caps h1 h2 ihf ih

/-- A cell of a root: in a box whatever a slot may hold; else a tree. -/
def CellOk (w : World) (ok : Nat → Prop) (own : Nat → Option Lab) (rt : RT) (r : Nat) (R : Root) (i : Nat) (d : D) (v : Value) : Prop :=
  if R.box then Mt w ok own rt d v else Tr w ok own (r, [i]) d v

def RootOk (w : World) (ok : Nat → Prop) (own : Nat → Option Lab) (rt : RT) (r : Nat) (R : Root) : Prop :=
  (∃ b arr e, own b = some (r, []) ∧ w.heap[b]? = some (.cells arr e (0, 0)) ∧ R.cs.length ≤ arr.size ∧
    ∀ (i : Nat) d v, R.cs[i]? = some d → arr[i]? = some v → CellOk w ok own rt r R i d v) ∨
  (R.box = false ∧ R.cs = [] ∧ ∀ b, own b ≠ some (r, []))

def okb (w : World) (own : Nat → Option Lab) (b : Nat) : Prop := own b = none ∧ b < w.heap.size

/-- Only roots below n are spoken of. -/
inductive BelowD (n : Nat) : D → Prop
  | undef : BelowD n .undef
  | kb (b : Bool) : BelowD n (.kb b)
  | lit (v : Value) : BelowD n (.lit v)
  | list (o : Bool) (sz : Nat) (cs : List D) : BelowD n (.list o sz cs)
  | cptr (cs : List D) (off : Nat) : BelowD n (.cptr cs off)
  | agg (ds : List D) (h : ∀ d ∈ ds, BelowD n d) : BelowD n (.agg ds)
  | tup (ds : List D) (h : ∀ d ∈ ds, BelowD n d) : BelowD n (.tup ds)
  | fn (f : Fn) (fs cs : List D) (hf : ∀ d ∈ fs, BelowD n d) (hc : ∀ d ∈ cs, BelowD n d) : BelowD n (.fn f fs cs)
  | ref (r : Nat) (p : List Nat) (sz off m : Nat) (h : r < n) : BelowD n (.ref r p sz off m)
  | ptr (r : Nat) (p : List Nat) (off : Nat) (h : r < n) : BelowD n (.ptr r p off)

/-- What a call began with: the world, and values that wait in callers' frames (they speak of roots below 'keep'). -/
structure Base extends World where
  susp : List (D × Value)
  keep : Nat
  hk : ∀ p ∈ susp, BelowD keep p.1
instance : Coe Base World := ⟨Base.toWorld⟩

/-- The state of the abstract machine fits the frame's slots and the world. -/
structure Sim (w0 : Base) (env : Nat → D) (rt : RT) (tm : Nat → Value) (w : World) (own : Nat → Option Lab) : Prop where
  below : Below w0.heap.size w0 w
  env : ∀ i, Mt w (okb w own) own rt (env i) (tm i)
  roots : ∀ r R, rt r = some (some R) → RootOk w (okb w own) own rt r R
  lab : ∀ b r p, own b = some (r, p) → w0.heap.size ≤ b ∧ b < w.heap.size ∧ ∃ R, rt r = some (some R)
  inj : ∀ b b' l, own b = some l → own b' = some l → b = b'
  susp : ∀ p ∈ w0.susp, Mt w (okb w own) own rt p.1 p.2

end Go.Vm
