import Derived.WalkKit
set_option linter.unusedVariables false
set_option linter.unusedSimpArgs false
set_option linter.unusedSectionVars false
namespace Go.Vm
open Go Go.RowKit
inductive D where
 | undef
 | kb (b : Bool)
 | lit (v : Value)
 | list (o : Bool) (sz : Nat) (cs : List D)
 | cptr (cs : List D) (off : Nat)
 | full (sz : Nat) (cs : List D)
 | agg (ds : List D)
 | tup (ds : List D)
 | fn (f : Fn) (first caps : List D)
 | ref (r : Nat) (p : List Nat) (sz off n : Nat)
 | ptr (r : Nat) (p : List Nat) (off : Nat)
 deriving Inhabited
structure Root where
 box : Bool
 sz : Nat
 cs : List D
 deriving Inhabited
abbrev RT := Nat → Option (Option Root)
abbrev Lab := Nat × List Nat
def D.notOwn : D → Bool
 | .list true _ _ => false
 | _ => true
inductive Sh (w : World) (ok : Nat → Prop) : D → Value → Prop
 | undef (v : Value) : Sh w ok .undef v
 | kb (b : Bool) : Sh w ok (.kb b) (.bool b)
 | lit (v : Value) : Sh w ok (.lit v) v
 | nil (o : Bool) (sz : Nat) : Sh w ok (.list o sz []) (.slice none 0 0)
 | wild (o : Bool) (sz : Nat) (a : Addr) : Sh w ok (.list o sz []) (.slice (some a) 0 0)
 | list (o : Bool) (sz : Nat) (cs : List D) (b off len cap : Nat) (hl : len * sz = cs.length) (hlc : len ≤ cap) (hb : ok b)
   (hc : ∀ i, i < cs.length → (w.cell? ⟨b, off + i, none⟩).isSome = true)
   (hr : ∀ i d v, cs[i]? = some d → w.cell? ⟨b, off + i, none⟩ = some v → Sh w ok d v) :
   Sh w ok (.list o sz cs) (.slice (some ⟨b, off, none⟩) len cap)
 | cptr (cs : List D) (off : Nat) (b o : Nat) (hb : ok b)
   (hc : ∀ i, i < cs.length → (w.cell? ⟨b, o + i, none⟩).isSome = true)
   (hr : ∀ i d v, cs[i]? = some d → w.cell? ⟨b, o + i, none⟩ = some v → Sh w ok d v) :
   Sh w ok (.cptr cs off) (.pointer (some ⟨b, o + off, none⟩))
 | full (sz : Nat) (cs : List D) (base : Option Addr) (len : Nat) (h : Sh w ok (.list false sz cs) (.slice base len len)) : Sh w ok (.full sz cs) (.slice base len len)
 | agg (ds : List D) (vs : Array Value) (hl : vs.size = ds.length)
   (hr : ∀ (i : Nat) d v, ds[i]? = some d → vs[i]? = some v → Sh w ok d v) : Sh w ok (.agg ds) (.agg vs)
 | tup (ds : List D) (vs : Array Value) (hl : vs.size = ds.length)
   (hr : ∀ (i : Nat) d v, ds[i]? = some d → vs[i]? = some v → Sh w ok d v) : Sh w ok (.tup ds) (.tuple vs)
 | fn (f : Fn) (fs cs : List D) (first caps : Array Value) (h1 : first.size = fs.length) (h2 : caps.size = cs.length)
   (hf : ∀ (i : Nat) d v, fs[i]? = some d → first[i]? = some v → Sh w ok d v)
   (hr : ∀ (i : Nat) d v, cs[i]? = some d → caps[i]? = some v → Sh w ok d v) : Sh w ok (.fn f fs cs) (.func f first caps)
theorem Sh.frame {w w' : World} {ok ok' : Nat → Prop} {d : D} {v : Value} (h : Sh w ok d v)
  (hok : ∀ b, ok b → ok' b ∧ w'.heap[b]? = w.heap[b]?) : Sh w' ok' d v := by
 have cell : ∀ b, ok b → ∀ o, w'.cell? ⟨b, o, none⟩ = w.cell? ⟨b, o, none⟩ := fun b hb o => World.cell?_of_block (hok b hb).2
 induction h with
 | undef v => exact .undef v
 | kb b => exact .kb b
 | lit v => exact .lit v
 | nil o sz => exact .nil o sz
 | wild o sz a => exact .wild o sz a
 | list o sz cs b off len cap hl hlc hb hc hr ih =>
  refine .list o sz cs b off len cap hl hlc (hok b hb).1 (fun i hi => ?_) (fun i d v hd hv => ?_)
  ·rw [cell b hb]; exact hc i hi
  ·rw [cell b hb] at hv; exact ih i d v hd hv
 | cptr cs off b o hb hc hr ih =>
  refine .cptr cs off b o (hok b hb).1 (fun i hi => ?_) (fun i d v hd hv => ?_)
  ·rw [cell b hb]; exact hc i hi
  ·rw [cell b hb] at hv; exact ih i d v hd hv
 | full sz cs base len h ih => exact .full sz cs base len ih
 | agg ds vs hl hr ih => exact .agg ds vs hl ih
 | tup ds vs hl hr ih => exact .tup ds vs hl ih
 | fn f fs cs first caps h1 h2 hf hr ihf ih => exact .fn f fs cs first caps h1 h2 ihf ih
inductive Tr (w : World) (ok : Nat → Prop) (own : Nat → Option Lab) : Lab → D → Value → Prop
 | sh (l : Lab) (d : D) (v : Value) (ho : d.notOwn = true) (h : Sh w ok d v) : Tr w ok own l d v
 | nil (l : Lab) (sz : Nat) (hn : ∀ b, own b ≠ some l) : Tr w ok own l (.list true sz []) (.slice none 0 0)
 | own (l : Lab) (sz : Nat) (cs : List D) (b len cap : Nat) (arr : Array Value) (e : TypeId) (hz : sz ≠ 0) (hl : len * sz = cs.length) (hlc : len ≤ cap)
   (hb : own b = some l) (hw : w.heap[b]? = some (.cells arr e (0, 0))) (hc : cap * sz = arr.size) (hs : cs.length ≤ arr.size)
   (hr : ∀ (i : Nat) d v, cs[i]? = some d → arr[i]? = some v → Tr w ok own (l.1, l.2 ++ [i]) d v) :
   Tr w ok own l (.list true sz cs) (.slice (some ⟨b, 0, none⟩) len cap)
theorem Tr.frame {w w' : World} {ok ok' : Nat → Prop} {own own' : Nat → Option Lab} {l : Lab} {d : D} {v : Value} (h : Tr w ok own l d v)
  (hok : ∀ b, ok b → ok' b ∧ w'.heap[b]? = w.heap[b]?)
  (hown : ∀ b q, own b = some (l.1, l.2 ++ q) → own' b = some (l.1, l.2 ++ q) ∧ w'.heap[b]? = w.heap[b]?)
  (hback : ∀ b q, own' b = some (l.1, l.2 ++ q) → own b = some (l.1, l.2 ++ q)) : Tr w' ok' own' l d v := by
 induction h with
 | sh l d v ho h => exact .sh l d v ho (h.frame hok)
 | nil l sz hn => exact .nil l sz (fun b hb => hn b (by have := hback b [] (by simpa using hb); simpa using this))
 | own l sz cs b len cap arr e hz hl hlc hb hw hc hs hr ih =>
  have h0 := hown b [] (by simpa using hb)
  refine .own l sz cs b len cap arr e hz hl hlc (by simpa using h0.1) (h0.2.trans hw) hc hs (fun i d v hd hv => ih i d v hd hv ?_ ?_)
  ·intro b q hq; have := hown b (i :: q) (by simpa using hq); simpa using this
  ·intro b q hq; have := hback b (i :: q) (by simpa using hq); simpa using this
theorem Tr.relab {w w' : World} {ok ok' : Nat → Prop} {own own' : Nat → Option Lab} {l : Lab} {d : D} {v : Value} (h : Tr w ok own l d v) (l' : Lab)
  (hok : ∀ b, ok b → ok' b ∧ w'.heap[b]? = w.heap[b]?)
  (hown : ∀ b q, own b = some (l.1, l.2 ++ q) → own' b = some (l'.1, l'.2 ++ q) ∧ w'.heap[b]? = w.heap[b]?)
  (hback : ∀ b q, own' b = some (l'.1, l'.2 ++ q) → own b = some (l.1, l.2 ++ q)) : Tr w' ok' own' l' d v := by
 induction h generalizing l' with
 | sh l d v ho h => exact .sh l' d v ho (h.frame hok)
 | nil l sz hn => exact .nil l' sz (fun b hb => hn b (by have := hback b [] (by simpa using hb); simpa using this))
 | own l sz cs b len cap arr e hz hl hlc hb hw hc hs hr ih =>
  have h0 := hown b [] (by simpa using hb)
  refine .own l' sz cs b len cap arr e hz hl hlc (by simpa using h0.1) (h0.2.trans hw) hc hs (fun i d v hd hv => ih i d v hd hv (l'.1, l'.2 ++ [i]) ?_ ?_)
  ·intro b q hq; have := hown b (i :: q) (by simpa using hq); simpa using this
  ·intro b q hq; have := hback b (i :: q) (by simpa using hq); simpa using this
def bE : List D → List Nat → Option (List D)
 | cs, [] => some cs
 | cs, i :: q => match cs[i]? with
  | some (.list true _ cs') => bE cs' q
  | _ => none
def Vp (R : Root) (p : List Nat) : Prop := p = [] ∨ (R.box = false ∧ (bE R.cs p).isSome = true)
def mF (w : World) (own : Nat → Option Lab) (r : Nat) (p : List Nat) (sz off n : Nat) (v : Value) : Prop :=
 (∃ b arr e cap o, own b = some (r, p) ∧ w.heap[b]? = some (.cells arr e (0, 0)) ∧ v = .slice (some ⟨b, o, none⟩) n cap ∧ n ≤ cap ∧ (off + cap) * sz = arr.size ∧
  (off = 0 ∨ n ≠ 0 → o = off * sz)) ∨
 (v = .slice none 0 0 ∧ off = 0 ∧ n = 0 ∧ ∀ b, own b ≠ some (r, p))
def Ab3 (w : World) (own : Nat → Option Lab) (r : Nat) (p : List Nat) (off : Nat) (v : Value) : Prop :=
 ∃ b arr e, own b = some (r, p) ∧ w.heap[b]? = some (.cells arr e (0, 0)) ∧ v = .pointer (some ⟨b, off, none⟩)
inductive Mt (w : World) (ok : Nat → Prop) (own : Nat → Option Lab) (rt : RT) : D → Value → Prop
 | undef (v : Value) : Mt w ok own rt .undef v
 | sh (d : D) (v : Value) (h : Sh w ok d v) : Mt w ok own rt d v
 | ref (r : Nat) (p : List Nat) (sz off n : Nat) (v : Value) (h0 : rt r ≠ none) (h1 : v.oneCell' = true) (h : ∀ R, rt r = some (some R) → Vp R p ∧ mF w own r p sz off n v) : Mt w ok own rt (.ref r p sz off n) v
 | ptr (r : Nat) (p : List Nat) (off : Nat) (v : Value) (h0 : rt r ≠ none) (h1 : v.oneCell' = true) (h : ∀ R, rt r = some (some R) → Vp R p ∧ Ab3 w own r p off v) : Mt w ok own rt (.ptr r p off) v
 | agg (ds : List D) (vs : Array Value) (hl : vs.size = ds.length)
   (hr : ∀ (i : Nat) d v, ds[i]? = some d → vs[i]? = some v → Mt w ok own rt d v) : Mt w ok own rt (.agg ds) (.agg vs)
 | tup (ds : List D) (vs : Array Value) (hl : vs.size = ds.length)
   (hr : ∀ (i : Nat) d v, ds[i]? = some d → vs[i]? = some v → Mt w ok own rt d v) : Mt w ok own rt (.tup ds) (.tuple vs)
 | fn (f : Fn) (fs cs : List D) (first caps : Array Value) (h1 : first.size = fs.length) (h2 : caps.size = cs.length)
   (hf : ∀ (i : Nat) d v, fs[i]? = some d → first[i]? = some v → Mt w ok own rt d v)
   (hr : ∀ (i : Nat) d v, cs[i]? = some d → caps[i]? = some v → Mt w ok own rt d v) : Mt w ok own rt (.fn f fs cs) (.func f first caps)
structure Fr (w : World) (ok : Nat → Prop) (own : Nat → Option Lab) (rt : RT) (w' : World) (ok' : Nat → Prop) (own' : Nat → Option Lab) (rt' : RT) : Prop where
 ok : ∀ b, ok b → ok' b ∧ w'.heap[b]? = w.heap[b]?
 alive : ∀ r, rt r ≠ none → rt' r ≠ none
 live : ∀ r R', rt r ≠ none → rt' r = some (some R') → ∃ R, rt r = some (some R)
 lab : ∀ r R R', rt r = some (some R) → rt' r = some (some R') → ∀ b p, Vp R p → (own b = some (r, p) ↔ own' b = some (r, p))
 path : ∀ r R R' p, rt r = some (some R) → rt' r = some (some R') → Vp R p → Vp R' p
 shape : ∀ r R' b p arr e, rt r ≠ none → rt' r = some (some R') → own b = some (r, p) → w.heap[b]? = some (.cells arr e (0, 0)) →
  ∃ arr', w'.heap[b]? = some (.cells arr' e (0, 0)) ∧ arr'.size = arr.size
theorem Mt.frame {w w' : World} {ok ok' : Nat → Prop} {own own' : Nat → Option Lab} {rt rt' : RT} {d : D} {v : Value} (h : Mt w ok own rt d v)
  (hf : Fr w ok own rt w' ok' own' rt') : Mt w' ok' own' rt' d v := by
 induction h with
 | undef v => exact .undef v
 | sh d v h => exact .sh d v (h.frame hf.ok)
 | ref r p sz off n v h0 h1 h =>
  refine .ref r p sz off n v (hf.alive r h0) h1 (fun R' hR' => ?_)
  obtain ⟨R, hR⟩ := hf.live r R' h0 hR'
  obtain ⟨hp, h⟩ := h R hR
  refine ⟨hf.path r R R' p hR hR' hp, ?_⟩
  rcases h with ⟨b, arr, e, cap, o, hb, hw, hv, hnc, hc, ho⟩ | ⟨hv, ho, hn, hb⟩
  ·obtain ⟨arr', hw', hs'⟩ := hf.shape r R' b p arr e h0 hR' hb hw
   exact .inl ⟨b, arr', e, cap, o, (hf.lab r R R' hR hR' b p hp).1 hb, hw', hv, hnc, by rw [hs']; exact hc, ho⟩
  ·exact .inr ⟨hv, ho, hn, fun b hb' => hb b ((hf.lab r R R' hR hR' b p hp).2 hb')⟩
 | ptr r p off v h0 h1 h =>
  refine .ptr r p off v (hf.alive r h0) h1 (fun R' hR' => ?_)
  obtain ⟨R, hR⟩ := hf.live r R' h0 hR'
  obtain ⟨hp, b, arr, e, hb, hw, hv⟩ := h R hR
  obtain ⟨arr', hw', hs'⟩ := hf.shape r R' b p arr e h0 hR' hb hw
  exact ⟨hf.path r R R' p hR hR' hp, b, arr', e, (hf.lab r R R' hR hR' b p hp).1 hb, hw', hv⟩
 | agg ds vs hl hr ih => exact .agg ds vs hl ih
 | tup ds vs hl hr ih => exact .tup ds vs hl ih
 | fn f fs cs first caps h1 h2 hf' hr ihf ih => exact .fn f fs cs first caps h1 h2 ihf ih
def bX (w : World) (ok : Nat → Prop) (own : Nat → Option Lab) (rt : RT) (r : Nat) (R : Root) (i : Nat) (d : D) (v : Value) : Prop :=
 if R.box then Mt w ok own rt d v else Tr w ok own (r, [i]) d v
def kE (w : World) (ok : Nat → Prop) (own : Nat → Option Lab) (rt : RT) (r : Nat) (R : Root) : Prop :=
 (∃ b arr e, own b = some (r, []) ∧ w.heap[b]? = some (.cells arr e (0, 0)) ∧ R.cs.length ≤ arr.size ∧
  ∀ (i : Nat) d v, R.cs[i]? = some d → arr[i]? = some v → bX w ok own rt r R i d v) ∨
 (R.box = false ∧ R.cs = [] ∧ ∀ b, own b ≠ some (r, []))
def okb (w : World) (own : Nat → Option Lab) (b : Nat) : Prop := own b = none ∧ b < w.heap.size
inductive BelowD (n : Nat) : D → Prop
 | undef : BelowD n .undef
 | kb (b : Bool) : BelowD n (.kb b)
 | lit (v : Value) : BelowD n (.lit v)
 | list (o : Bool) (sz : Nat) (cs : List D) : BelowD n (.list o sz cs)
 | cptr (cs : List D) (off : Nat) : BelowD n (.cptr cs off)
 | full (sz : Nat) (cs : List D) : BelowD n (.full sz cs)
 | agg (ds : List D) (h : ∀ d ∈ ds, BelowD n d) : BelowD n (.agg ds)
 | tup (ds : List D) (h : ∀ d ∈ ds, BelowD n d) : BelowD n (.tup ds)
 | fn (f : Fn) (fs cs : List D) (hf : ∀ d ∈ fs, BelowD n d) (hc : ∀ d ∈ cs, BelowD n d) : BelowD n (.fn f fs cs)
 | ref (r : Nat) (p : List Nat) (sz off m : Nat) (h : r < n) : BelowD n (.ref r p sz off m)
 | ptr (r : Nat) (p : List Nat) (off : Nat) (h : r < n) : BelowD n (.ptr r p off)
structure Kept (p : Nat → Prop) (w w' : World) : Prop where
 os : w'.os = w.os
 tape : w'.tape = w.tape
 output : w'.output = w.output
 size : w.heap.size ≤ w'.heap.size
 block : ∀ k, p k → w'.heap[k]? = w.heap[k]?
theorem Kept.refl (p : Nat → Prop) (w : World) : Kept p w w := ⟨rfl, rfl, rfl, Nat.le_refl _, fun _ _ => rfl⟩
theorem Kept.trans {p : Nat → Prop} {a b c : World} (h : Kept p a b) (k : Kept p b c) : Kept p a c :=
 ⟨k.os.trans h.os, k.tape.trans h.tape, k.output.trans h.output, Nat.le_trans h.size k.size, fun i hi => (k.block i hi).trans (h.block i hi)⟩
theorem Kept.of {p : Nat → Prop} {B : Nat} {w w' : World} (h : Below B w w') (hp : ∀ k, p k → k < B) : Kept p w w' := ⟨h.os, h.tape, h.output, h.size, fun k hk => h.block k (hp k hk)⟩
theorem Kept.below {p : Nat → Prop} {B : Nat} {w w' : World} (h : Kept p w w') (hp : ∀ k, k < B → p k) : Below B w w' := ⟨h.os, h.tape, h.output, h.size, fun k hk => h.block k (hp k hk)⟩
theorem Kept.setCell {p : Nat → Prop} {w w' : World} {b off : Nat} (h : Kept p w w') (hb : ¬ p b) (v : Value) : Kept p w (w'.setCell ⟨b, off, none⟩ v) :=
 ⟨h.os, h.tape, h.output, by simpa [World.setCell] using h.size, fun k hk => (Below.heap_setCell _ _ _ _ (fun e => hb (by have e : k = b := e; rw [← e]; exact hk))).trans (h.block k hk)⟩
structure Base extends World where
 prot : Nat → Prop
 hp : ∀ b, prot b → b < heap.size
 hid : Nat → Prop
 hh : ∀ b, hid b → prot b
 hl : Nat → Lab
 susp : D → Value → Prop
 keep : Nat
 hk : ∀ d v, susp d v → BelowD keep d
 hlk : ∀ b, hid b → (hl b).1 < keep
instance : Coe Base World := ⟨Base.toWorld⟩
structure Sim (w0 : Base) (env : Nat → D) (rt : RT) (tm : Nat → Value) (w : World) (own : Nat → Option Lab) : Prop where
 below : Kept w0.prot w0 w
 env : ∀ i, Mt w (okb w own) own rt (env i) (tm i)
 roots : ∀ r R, rt r = some (some R) → kE w (okb w own) own rt r R
 lab : ∀ b r p, own b = some (r, p) → (w0.prot b → rt r = some none) ∧ b < w.heap.size ∧ rt r ≠ none
 hidl : ∀ b, w0.hid b → own b = some (w0.hl b) ∧ rt (w0.hl b).1 = some none
 inj : ∀ b b' l, own b = some l → own b' = some l → b = b'
 susp : ∀ d v, w0.susp d v → Mt w (okb w own) own rt d v
end Go.Vm
namespace Go.Vm
open Go Go.RowKit
theorem bX.frame {w w' : World} {ok ok' : Nat → Prop} {own own' : Nat → Option Lab} {rt rt' : RT} {r : Nat} {R : Root} {i : Nat} {d : D} {v : Value}
  (h : bX w ok own rt r R i d v) (hf : Fr w ok own rt w' ok' own' rt')
  (hb : ∀ b q, own b = some (r, i :: q) → own' b = some (r, i :: q) ∧ w'.heap[b]? = w.heap[b]?)
  (hback : ∀ b q, own' b = some (r, i :: q) → own b = some (r, i :: q)) : bX w' ok' own' rt' r R i d v := by
 unfold bX at *
 split
 ·rename_i hx; rw [if_pos hx] at h; exact h.frame hf
 ·rename_i hx; rw [if_neg hx] at h
  exact h.frame hf.ok (fun b q hq => by simpa using hb b q (by simpa using hq)) (fun b q hq => by simpa using hback b q (by simpa using hq))
theorem kE.frame {w w' : World} {ok ok' : Nat → Prop} {own own' : Nat → Option Lab} {rt rt' : RT} {r : Nat} {R : Root}
  (h : kE w ok own rt r R) (hf : Fr w ok own rt w' ok' own' rt')
  (hb : ∀ b p, own b = some (r, p) → own' b = some (r, p) ∧ w'.heap[b]? = w.heap[b]?)
  (hback : ∀ b p, own' b = some (r, p) → own b = some (r, p)) : kE w' ok' own' rt' r R := by
 rcases h with ⟨b, arr, e, h1, h2, h3, h4⟩ | ⟨h1, h2, h3⟩
 ·refine .inl ⟨b, arr, e, (hb b [] h1).1, (hb b [] h1).2.trans h2, h3, fun i d v hd hv => ?_⟩
  exact (h4 i d v hd hv).frame hf (fun b q hq => hb b (i :: q) hq) (fun b q hq => hback b (i :: q) hq)
 ·exact .inr ⟨h1, h2, fun b hb' => h3 b (hback b [] hb')⟩
theorem Fr.dead {w : World} {ok : Nat → Prop} {own : Nat → Option Lab} {rt : RT} {w' : World} {ok' : Nat → Prop} {own' : Nat → Option Lab} {rt' : RT} (hf : Fr w ok own rt w' ok' own' rt') {r : Nat} (h : rt r = some none) : rt' r = some none := by
 have h1 := hf.alive r (by rw [h]; simp)
 cases h2 : rt' r with
 | none => exact absurd h2 h1
 | some x => cases x with
  | none => rfl
  | some R => obtain ⟨R0, h3⟩ := hf.live r R (by rw [h]; simp) h2; rw [h] at h3; cases h3
theorem Sim.change {w0 : Base} {w w' : World} {env : Nat → D} {rt rt' : RT} {tm : Nat → Value} {own own' : Nat → Option Lab} (hs : Sim w0 env rt tm w own)
  (hf : Fr w (okb w own) own rt w' (okb w' own') own' rt') (hb : Kept w0.prot w0 w')
  (hr : ∀ r R, rt' r = some (some R) → kE w' (okb w' own') own' rt' r R)
  (hl : ∀ b r p, own' b = some (r, p) → (w0.prot b → rt' r = some none) ∧ b < w'.heap.size ∧ rt' r ≠ none)
  (hi : ∀ b b' l, own' b = some l → own' b' = some l → b = b')
  (hh : ∀ b r p, own b = some (r, p) → rt r = some none → own' b = some (r, p)) : Sim w0 env rt' tm w' own' :=
 ⟨hb, fun i => (hs.env i).frame hf, hr, hl, fun b hb => by
  obtain ⟨h1, h2⟩ := hs.hidl b hb
  exact ⟨hh b _ _ h1 h2, hf.dead h2⟩, hi, fun d v hp => (hs.susp d v hp).frame hf⟩
theorem Sim.put {w0 : Base} {w : World} {env : Nat → D} {rt : RT} {tm : Nat → Value} {own : Nat → Option Lab} (hs : Sim w0 env rt tm w own) {env' : Nat → D} {tm' : Nat → Value}
  (h : ∀ i, (env' i = env i ∧ tm' i = tm i) ∨ Mt w (okb w own) own rt (env' i) (tm' i)) : Sim w0 env' rt tm' w own :=
 ⟨hs.below, fun i => by rcases h i with ⟨h1, h2⟩ | h; · rw [h1, h2]; exact hs.env i
                        · exact h, hs.roots, hs.lab, hs.hidl, hs.inj, hs.susp⟩
theorem Sim.own_none {w0 : Base} {w : World} {env : Nat → D} {rt : RT} {tm : Nat → Value} {own : Nat → Option Lab} (hs : Sim w0 env rt tm w own) {b : Nat} (hb : w.heap.size ≤ b) : own b = none := by
 cases h : own b with
 | none => rfl
 | some l => obtain ⟨r, p⟩ := l; have := (hs.lab b r p h).2.1; omega
theorem Sim.growFr {w0 : Base} {w w' : World} {env : Nat → D} {rt rt' : RT} {tm : Nat → Value} {own own' : Nat → Option Lab} (hs : Sim w0 env rt tm w own)
  (hb : Below w.heap.size w w') (hold : ∀ b, b < w.heap.size → own' b = own b) (hnew : ∀ b r p, w.heap.size ≤ b → own' b = some (r, p) → rt r = none)
  (hrt : ∀ r, rt r ≠ none → rt' r = rt r) : Fr w (okb w own) own rt w' (okb w' own') own' rt' := by
 have hlab : ∀ r, rt r ≠ none → ∀ b p, own b = some (r, p) ↔ own' b = some (r, p) := fun r h0 b p => by
  by_cases hlt : b < w.heap.size
  ·rw [hold b hlt]
  ·constructor
   ·intro h; rw [hs.own_none (by omega)] at h; cases h
   ·intro h; exact absurd (hnew b r p (by omega) h) h0
 refine ⟨fun b hk => ⟨⟨by rw [hold b hk.2]; exact hk.1, Nat.lt_of_lt_of_le hk.2 hb.size⟩, hb.block b hk.2⟩, fun r h => by rw [hrt r h]; exact h, fun r R' h0 h => ⟨R', by rw [← hrt r h0]; exact h⟩, fun r R R' h0 _ b p _ => hlab r (by rw [h0]; simp) b p, fun r R R' p h0 h1 hp => by
  rw [hrt r (by rw [h0]; simp), h0] at h1; cases h1; exact hp, ?_⟩
 intro r R' b p arr e h0 h1 h2 h3
 exact ⟨arr, by rw [hb.block b (hs.lab b r p h2).2.1]; exact h3, rfl⟩
theorem Sim.grow {w0 : Base} {w w' : World} {env : Nat → D} {rt rt' : RT} {tm : Nat → Value} {own own' : Nat → Option Lab} (hs : Sim w0 env rt tm w own)
  (hb : Below w.heap.size w w') (hold : ∀ b, b < w.heap.size → own' b = own b)
  (hnew : ∀ b r p, w.heap.size ≤ b → own' b = some (r, p) → rt r = none ∧ b < w'.heap.size ∧ ∃ R, rt' r = some (some R))
  (hrt : ∀ r, rt r ≠ none → rt' r = rt r)
  (hroots : ∀ r R, rt r = none → rt' r = some (some R) → kE w' (okb w' own') own' rt' r R)
  (hinj : ∀ b b' l, w.heap.size ≤ b → w.heap.size ≤ b' → own' b = some l → own' b' = some l → b = b') : Sim w0 env rt' tm w' own' := by
 have hf := hs.growFr hb hold (fun b r p h1 h2 => (hnew b r p h1 h2).1) hrt
 have hlo : w0.heap.size ≤ w.heap.size := hs.below.size
 have hpl : ∀ b, w0.prot b → b < w.heap.size := fun b h => Nat.lt_of_lt_of_le (w0.hp b h) hlo
 refine hs.change hf (hs.below.trans (Kept.of hb hpl)) (fun r R hR => ?_) (fun b r p h => ?_) (fun b b' l h h' => ?_) (fun b r p h _ => by rw [hold b (hs.lab b r p h).2.1]; exact h)
 ·by_cases h0 : rt r = none
  ·exact hroots r R h0 hR
  ·have hR0 : rt r = some (some R) := by rw [← hrt r h0]; exact hR
   refine (hs.roots r R hR0).frame hf (fun b p hp => ?_) (fun b p hp => by
    by_cases hlt : b < w.heap.size
    ·rw [hold b hlt] at hp; exact hp
    ·exact absurd (hnew b r p (by omega) hp).1 h0)
   exact ⟨by rw [hold b (hs.lab b r p hp).2.1]; exact hp, hb.block b (hs.lab b r p hp).2.1⟩
 ·by_cases hlt : b < w.heap.size
  ·rw [hold b hlt] at h
   obtain ⟨h1, h2, h3⟩ := hs.lab b r p h
   exact ⟨fun hp => by rw [hrt r h3]; exact h1 hp, Nat.lt_of_lt_of_le h2 hb.size, by rw [hrt r h3]; exact h3⟩
  ·obtain ⟨_, h2, R, h3⟩ := hnew b r p (by omega) h
   exact ⟨fun hp => absurd (hpl b hp) hlt, h2, by rw [h3]; simp⟩
 ·by_cases h1 : b < w.heap.size <;> by_cases h2 : b' < w.heap.size
  ·rw [hold b h1] at h; rw [hold b' h2] at h'; exact hs.inj b b' l h h'
  ·rw [hold b h1] at h
   obtain ⟨r, p⟩ := l
   exact absurd (hnew b' r p (by omega) h').1 (hs.lab b r p h).2.2
  ·rw [hold b' h2] at h'
   obtain ⟨r, p⟩ := l
   exact absurd (hnew b r p (by omega) h).1 (hs.lab b' r p h').2.2
  ·exact hinj b b' l (by omega) (by omega) h h'
theorem Sim.more {w0 : Base} {w w' : World} {env : Nat → D} {rt : RT} {tm : Nat → Value} {own : Nat → Option Lab} (hs : Sim w0 env rt tm w own)
  (hb : Below w.heap.size w w') : Sim w0 env rt tm w' own :=
 hs.grow hb (fun _ _ => rfl) (fun b r p h1 h2 => by rw [hs.own_none h1] at h2; cases h2) (fun _ _ => rfl) (fun r R h0 h1 => by rw [h0] at h1; cases h1)
  (fun b b' l h1 _ h2 _ => by rw [hs.own_none h1] at h2; cases h2)
def RT.set (rt : RT) (n : Nat) (x : Option Root) : RT := fun r => if r = n then some x else rt r
@[simp] theorem RT.set_self (rt : RT) (n : Nat) (x : Option Root) : rt.set n x n = some x := by simp [RT.set]
theorem RT.set_ne (rt : RT) {n r : Nat} (x : Option Root) (h : r ≠ n) : rt.set n x r = rt r := by simp [RT.set, h]
def fH (own : Nat → Option Lab) (b : Nat) (l : Lab) : Nat → Option Lab := fun b' => if b' = b then some l else own b'
theorem Sim.newRoot {w0 : Base} {w : World} {env : Nat → D} {rt : RT} {tm : Nat → Value} {own : Nat → Option Lab} (hs : Sim w0 env rt tm w own) (n : Nat) (hn : rt n = none)
  (arr : Array Value) (e : TypeId) (R : Root) (hl : R.cs.length ≤ arr.size)
  (hc : ∀ (i : Nat) d v, R.cs[i]? = some d → arr[i]? = some v → (R.box = true → Mt w (okb w own) own rt d v) ∧ (R.box = false → d.notOwn = true ∧ Sh w (okb w own) d v)) :
  Sim w0 env (rt.set n (some R)) tm (w.alloc (.cells arr e)) (fH own w.heap.size (n, [])) := by
 have hb : Below w.heap.size w (w.alloc (.cells arr e)) := (Below.refl _ _).alloc (Nat.le_refl _) _
 have hfr : Fr w (okb w own) own rt (w.alloc (.cells arr e)) (okb (w.alloc (.cells arr e)) (fH own w.heap.size (n, []))) (fH own w.heap.size (n, [])) (rt.set n (some R)) :=
  hs.growFr hb (fun b hlt => by simp [fH, Nat.ne_of_lt hlt])
   (fun b r p h1 h2 => by
    unfold fH at h2; split at h2
    ·cases h2; exact hn
    ·rw [hs.own_none h1] at h2; cases h2)
   (fun r h0 => RT.set_ne rt _ (fun h => h0 (h ▸ hn)))
 refine hs.grow hb (fun b hlt => by simp [fH, Nat.ne_of_lt hlt]) (fun b r p h1 h2 => ?_) (fun r h0 => RT.set_ne rt _ (fun h => h0 (h ▸ hn))) (fun r R' h0 h1 => ?_) (fun b b' l h1 h2 h3 h4 => ?_)
 ·unfold fH at h2; split at h2
  ·rename_i hbe; cases h2; exact ⟨hn, by simp [hbe], R, by simp⟩
  ·rw [hs.own_none h1] at h2; cases h2
 ·by_cases hrn : r = n
  ·subst hrn
   rw [RT.set_self] at h1; cases h1
   refine .inl ⟨w.heap.size, arr, e, by simp [fH], heap_alloc_new w _, hl, fun i d v hd hv => ?_⟩
   unfold bX
   have := hc i d v hd hv
   cases hbx : R.box
   ·simp only [Bool.false_eq_true, if_false]
    exact .sh _ d v (this.2 hbx).1 ((this.2 hbx).2.frame hfr.ok)
   ·simp only [if_true]
    exact (this.1 hbx).frame hfr
  ·rw [RT.set_ne rt _ hrn, h0] at h1; cases h1
 ·unfold fH at h3 h4
  split at h3
  ·rename_i e1; split at h4
   ·rename_i e2; rw [e1, e2]
   ·rw [hs.own_none h2] at h4; cases h4
  ·rw [hs.own_none h1] at h3; cases h3
theorem Sim.newRef {w : World} {rt : RT} {own : Nat → Option Lab} (n : Nat) (arr : Array Value) (e : TypeId) (R : Root) (sz len cap : Nat) (hlc : len ≤ cap) (hc : cap * sz = arr.size) :
  Mt (w.alloc (.cells arr e)) (okb (w.alloc (.cells arr e)) (fH own w.heap.size (n, []))) (fH own w.heap.size (n, [])) (rt.set n (some R)) (.ref n [] sz 0 len) (.slice (some ⟨w.heap.size, 0, none⟩) len cap) :=
 .ref n [] sz 0 len _ (by simp) rfl (fun _ _ => ⟨.inl rfl, .inl ⟨w.heap.size, arr, e, cap, 0, by simp [fH], heap_alloc_new w _, rfl, hlc, by simpa using hc, by simp⟩⟩)
theorem Sim.newPtr {w : World} {rt : RT} {own : Nat → Option Lab} (n : Nat) (arr : Array Value) (e : TypeId) (R : Root) :
  Mt (w.alloc (.cells arr e)) (okb (w.alloc (.cells arr e)) (fH own w.heap.size (n, []))) (fH own w.heap.size (n, [])) (rt.set n (some R)) (.ptr n [] 0) (.pointer (some ⟨w.heap.size, 0, none⟩)) :=
 .ptr n [] 0 _ (by simp) rfl (fun _ _ => ⟨.inl rfl, w.heap.size, arr, e, by simp [fH], heap_alloc_new w _, rfl⟩)
def dC (own : Nat → Option Lab) (n : Nat) : Nat → Option Lab := fun b => match own b with
 | some (r, p) => if r = n then none else some (r, p)
 | none => none
theorem tG {own : Nat → Option Lab} {n b r : Nat} {p : List Nat} : dC own n b = some (r, p) ↔ own b = some (r, p) ∧ r ≠ n := by
 unfold dC
 cases h : own b with
 | none => simp
 | some l =>
  obtain ⟨r', p'⟩ := l
  simp only
  split
  ·rename_i h2; simp; intro h3 h4; exact h3 ▸ h2
  ·rename_i h2; simp; intro h3 h4; exact h3 ▸ h2
theorem Sim.killE {w0 : Base} {w : World} {env : Nat → D} {rt : RT} {tm : Nat → Value} {own : Nat → Option Lab} (hs : Sim w0 env rt tm w own) (n : Nat) (hn : rt n ≠ some none) :
  Sim w0 env (rt.set n none) tm w (dC own n) := by
 have hfr : Fr w (okb w own) own rt w (okb w (dC own n)) (dC own n) (rt.set n none) := by
  refine ⟨fun b hk => ⟨⟨?_, hk.2⟩, rfl⟩, fun r h => ?_, fun r R' h0 h => ?_, fun r R R' h0 h b p _ => ?_, fun r R R' p h0 h1 hp => ?_, fun r R' b p arr e h0 h1 h2 h3 => ⟨arr, h3, rfl⟩⟩
  ·unfold dC; rw [hk.1]
  ·unfold RT.set; split <;> simp [h]
  ·unfold RT.set at h; split at h
   ·cases h
   ·exact ⟨R', h⟩
  ·unfold RT.set at h; split at h
   ·cases h
   ·rename_i hne; rw [tG]; exact ⟨fun h => ⟨h, hne⟩, fun h => h.1⟩
  ·unfold RT.set at h1; split at h1
   ·cases h1
   ·rw [h0] at h1; cases h1; exact hp
 refine hs.change hfr hs.below (fun r R hR => ?_) (fun b r p h => ?_) (fun b b' l h h' => ?_) (fun b r p h hd => tG.2 ⟨h, fun e => hn (by rw [← e]; exact hd)⟩)
 ·unfold RT.set at hR; split at hR
  ·cases hR
  ·rename_i hne
   refine (hs.roots r R hR).frame hfr (fun b p hp => ⟨tG.2 ⟨hp, hne⟩, rfl⟩) (fun b p hp => (tG.1 hp).1)
 ·rw [tG] at h
  obtain ⟨h1, h2, h3⟩ := hs.lab b r p h.1
  exact ⟨fun hp => by rw [RT.set_ne rt _ h.2]; exact h1 hp, h2, by rw [RT.set_ne rt _ h.2]; exact h3⟩
 ·obtain ⟨r, p⟩ := l
  rw [tG] at h h'
  exact hs.inj b b' _ h.1 h'.1
theorem Sim.kill {w0 : Base} {w : World} {env : Nat → D} {rt : RT} {tm : Nat → Value} {own : Nat → Option Lab} (hs : Sim w0 env rt tm w own) (n : Nat) :
  ∃ own', Sim w0 env (rt.set n none) tm w own' := by
 by_cases hn : rt n = some none
 ·refine ⟨own, ?_⟩
  have e : rt.set n none = rt := by
   funext r
   unfold RT.set
   split
   ·rename_i h; rw [h, hn]
   ·rfl
  rw [e]; exact hs
 exact ⟨dC own n, hs.killE n hn⟩
end Go.Vm
namespace Go.Vm
open Go Go.RowKit
def updB (cs : List D) : List Nat → (List D → List D) → List D
 | [], f => f cs
 | i :: q, f => match cs[i]? with
  | some (.list true sz cs') => cs.set i (.list true sz (updB cs' q f))
  | _ => cs
def gD (w : World) (ok : Nat → Prop) (own : Nat → Option Lab) (r : Nat) (p : List Nat) (b : Nat) (cs : List D) : Prop :=
 ∃ arr e, own b = some (r, p) ∧ w.heap[b]? = some (.cells arr e (0, 0)) ∧ cs.length ≤ arr.size ∧
  ∀ (i : Nat) d v, cs[i]? = some d → arr[i]? = some v → Tr w ok own (r, p ++ [i]) d v
theorem gD.get {w : World} {ok : Nat → Prop} {own : Nat → Option Lab} {r : Nat} : ∀ (q p : List Nat) (b : Nat) (cs cs1 : List D), gD w ok own r p b cs →
  bE cs q = some cs1 → (∃ b1, gD w ok own r (p ++ q) b1 cs1) ∨ (cs1 = [] ∧ ∀ b, own b ≠ some (r, p ++ q)) := by
 intro q
 induction q with
 | nil => intro p b cs cs1 h hg; simp only [bE, Option.some.injEq] at hg; subst hg; exact .inl ⟨b, by simpa using h⟩
 | cons i q ih =>
  intro p b cs cs1 ⟨arr, e, h1, h2, h3, h4⟩ hg
  simp only [bE] at hg
  split at hg
  ·rename_i sz cs' hi
   have hlt : i < cs.length := (List.getElem?_eq_some_iff.1 hi).1
   have hv : arr[i]? = some arr[i] := Array.getElem?_eq_getElem (by omega)
   have ht := h4 i _ _ hi hv
   generalize hv0 : arr[i] = v0 at ht
   cases ht with
   | sh _ _ _ ho _ => simp [D.notOwn] at ho
   | nil _ _ hn =>
    cases q with
    | nil => simp only [bE, Option.some.injEq] at hg; subst hg; exact .inr ⟨rfl, by simpa using hn⟩
    | cons j q => simp [bE] at hg
   | own _ _ _ b1 len cap arr1 e1 hz hl hlc hb hw hc hs hr =>
    have := ih (p ++ [i]) b1 cs' cs1 ⟨arr1, e1, hb, hw, hs, hr⟩ hg
    simpa using this
  ·cases hg
structure Stored (w w' : World) (bt off : Nat) (v : Value) : Prop where
 other : ∀ b, b ≠ bt → w'.heap[b]? = w.heap[b]?
 here : ∀ arr e, w.heap[bt]? = some (.cells arr e (0, 0)) → w'.heap[bt]? = some (.cells (arr.setIfInBounds off v) e (0, 0))
theorem Stored.setCell (w : World) (bt off : Nat) (v : Value) : Stored w (w.setCell ⟨bt, off, none⟩ v) bt off v :=
 ⟨fun b hb => Below.heap_setCell _ _ _ _ hb, fun arr e h => by simp [World.setCell, Array.getElem?_modify, h]⟩
theorem gD.set {w w' : World} {ok : Nat → Prop} {own : Nat → Option Lab} {r bt off : Nat} {v' : Value} {d' : D} (hst : Stored w w' bt off v')
  (hinj : ∀ b b' l, own b = some l → own b' = some l → b = b') (hok' : ∀ b, ok b → w'.heap[b]? = w.heap[b]?)
  (hd : d'.notOwn = true) (hsh : Sh w' ok d' v') : ∀ (q p : List Nat) (b : Nat) (cs cs1 : List D), gD w ok own r p b cs → own bt = some (r, p ++ q) →
  bE cs q = some cs1 → (∀ d, cs1[off]? = some d → d.notOwn = true) → gD w' ok own r p b (updB cs q (fun l => l.set off d')) := by
 intro q
 induction q with
 | nil =>
  intro p b cs cs1 ⟨arr, e, h1, h2, h3, h4⟩ hbt hg hno
  have hb : b = bt := hinj b bt _ h1 (by simpa using hbt)
  subst hb
  refine ⟨arr.setIfInBounds off v', e, h1, hst.here arr e h2, by simpa [updB] using h3, fun i d v hi hv => ?_⟩
  simp only [updB] at hi
  have keep : ∀ d v, cs[i]? = some d → arr[i]? = some v → Tr w' ok own (r, p ++ [i]) d v := fun d v hi hv =>
   (h4 i d v hi hv).frame (fun b hb => ⟨hb, hok' b hb⟩) (fun b1 q1 hq => ⟨hq, hst.other b1 (fun e => by
    subst e; rw [h1] at hq; simp at hq)⟩) (fun _ _ h => h)
  by_cases hio : i = off
  ·subst hio
   have hlt : i < cs.length := by
    rcases Nat.lt_or_ge i cs.length with h | h
    ·exact h
    ·rw [List.getElem?_eq_none (by simpa using h)] at hi; cases hi
   rw [List.getElem?_set_self hlt] at hi
   rw [Array.getElem?_setIfInBounds_self_of_lt (by omega)] at hv
   cases hi; cases hv
   exact .sh _ _ _ hd hsh
  ·rw [List.getElem?_set_ne (Ne.symm hio)] at hi
   rw [Array.getElem?_setIfInBounds_ne (Ne.symm hio)] at hv
   exact keep d v hi hv
 | cons j q ih =>
  intro p b cs cs1 ⟨arr, e, h1, h2, h3, h4⟩ hbt hg hno
  have hbne : b ≠ bt := fun e => by subst e; rw [h1] at hbt; simp at hbt
  simp only [bE] at hg
  split at hg
  ·rename_i sz cs' hj
   have hlt : j < cs.length := (List.getElem?_eq_some_iff.1 hj).1
   simp only [updB, hj]
   refine ⟨arr, e, h1, (hst.other b hbne).trans h2, by simpa using h3, fun i d v hi hv => ?_⟩
   by_cases hij : i = j
   ·subst hij
    rw [List.getElem?_set_self hlt] at hi
    cases hi
    have ht := h4 i _ _ hj hv
    cases ht with
    | sh _ _ _ ho _ => simp [D.notOwn] at ho
    | nil _ _ hn =>
     cases q with
     | nil => exact absurd (by simpa using hbt) (hn bt)
     | cons k q => simp [bE] at hg
    | own _ _ _ b1 len cap arr1 e1 hz hl hlc hb hw hc hs hr =>
     have := ih (p ++ [i]) b1 cs' cs1 ⟨arr1, e1, hb, hw, hs, hr⟩ (by simpa using hbt) hg hno
     obtain ⟨arr2, e2, k1, k2, k3, k4⟩ := this
     have hsz : arr2.size = arr1.size := by
      by_cases hb1 : b1 = bt
      ·subst hb1
       rw [hst.here arr1 e1 hw] at k2
       cases k2; simp
      ·rw [hst.other b1 hb1, hw] at k2
       cases k2; rfl
     have hlen : (updB cs' q fun l => l.set off d').length = cs'.length := by
      cases q with
      | nil => simp [updB]
      | cons k q => simp only [updB]; split <;> simp
     exact .own _ sz _ b1 len cap arr2 e2 hz (by rw [hlen]; exact hl) hlc hb k2 (by rw [hsz]; exact hc) k3 k4
   ·rw [List.getElem?_set_ne (Ne.symm hij)] at hi
    refine (h4 i d v hi hv).frame (fun b hb => ⟨hb, hok' b hb⟩) (fun b1 q1 hq => ⟨hq, hst.other b1 (fun e => ?_)⟩) (fun _ _ h => h)
    subst e
    rw [hbt] at hq
    simp at hq
    exact hij hq.1.symm
  ·cases hg
theorem Apk {i sz : Nat} {cs' : List D} : ∀ (p : List Nat) (cs c : List D), bE cs p = some c → c[i]? = some (.list true sz cs') → bE cs (p ++ [i]) = some cs' := by
 intro p
 induction p with
 | nil =>
  intro cs c hg hi
  simp only [bE, Option.some.injEq] at hg
  subst hg
  simp [bE, hi]
 | cons j p ih =>
  intro cs c hg hi
  simp only [bE] at hg
  split at hg
  ·rename_i sz1 cs1 hj
   simp only [List.cons_append, bE, hj]
   exact ih cs1 c hg hi
  ·cases hg
theorem Aah {R : Root} {p : List Nat} {c : List D} {i : Nat} {d : D} (hbox : R.box = false) (hg : bE R.cs p = some c) (hi : c[i]? = some d) (hd : d.notOwn = false) : Vp R (p ++ [i]) := by
 refine .inr ⟨hbox, ?_⟩
 cases d with
 | list o sz cs' => cases o with
  | true => rw [Apk p _ _ hg hi]; rfl
  | false => simp [D.notOwn] at hd
 | _ => simp [D.notOwn] at hd
theorem Sim.storeFr {w w' : World} {rt : RT} {own : Nat → Option Lab} {r bt off : Nat} {p : List Nat} {v' : Value} {R R' : Root}
  (hst : Stored w w' bt off v') (hsz : w'.heap.size = w.heap.size) (hR : rt r = some (some R)) (hbt : own bt = some (r, p)) (hpath : ∀ q, Vp R q → Vp R' q) :
  Fr w (okb w own) own rt w' (okb w' own) own (rt.set r (some R')) := by
 refine ⟨fun b hk => ⟨⟨hk.1, by rw [hsz]; exact hk.2⟩, hst.other b (fun e => by subst e; rw [hk.1] at hbt; cases hbt)⟩, fun r1 h => ?_, fun r1 R1 h0 h => ?_, fun r1 R0 R1 h0 h b p _ => Iff.rfl, fun r1 R0 R1 q h0 h1 hq => ?_, fun r1 R1 b p arr e h0 h1 h2 h3 => ?_⟩
 ·unfold RT.set; split <;> simp [h]
 ·unfold RT.set at h; split at h
  ·rename_i e; subst e; exact ⟨R, hR⟩
  ·exact ⟨R1, h⟩
 ·unfold RT.set at h1; split at h1
  ·rename_i e; subst e; rw [hR] at h0; cases h0; cases h1; exact hpath q hq
  ·rw [h0] at h1; cases h1; exact hq
 ·by_cases hb : b = bt
  ·subst hb; exact ⟨_, hst.here arr e h3, by simp⟩
  ·exact ⟨arr, (hst.other b hb).trans h3, rfl⟩
theorem An2 {off : Nat} {d' : D} (hd : d'.notOwn = true) : ∀ (q : List Nat) (cs cs1 : List D), bE cs q = some cs1 → (∀ d, cs1[off]? = some d → d.notOwn = true) → ∀ q', (bE cs q').isSome = true → (bE (updB cs q (fun l => l.set off d')) q').isSome = true := by
 intro q
 induction q with
 | nil =>
  intro cs cs1 hg hno q' hq'
  simp only [bE, Option.some.injEq] at hg
  subst hg
  cases q' with
  | nil => rfl
  | cons i q' =>
   simp only [bE, updB] at hq' ⊢
   by_cases e : off = i
   ·subst e
    cases h : cs[off]? with
    | none => simp [h] at hq'
    | some d =>
     have hn := hno d h
     rw [h] at hq'
     split at hq'
     ·rename_i he
      cases he
      simp [D.notOwn] at hn
     ·simp at hq'
   ·rw [List.getElem?_set_ne e]; exact hq'
 | cons j q ih =>
  intro cs cs1 hg hno q' hq'
  simp only [bE] at hg
  split at hg
  ·rename_i sz cs' hj
   simp only [updB, hj]
   have hlt : j < cs.length := (List.getElem?_eq_some_iff.1 hj).1
   cases q' with
   | nil => rfl
   | cons i q' =>
    simp only [bE] at hq' ⊢
    by_cases e : j = i
    ·subst e
     rw [List.getElem?_set_self hlt]
     rw [hj] at hq'
     exact ih cs' cs1 hg hno q' hq'
    ·rw [List.getElem?_set_ne e]; exact hq'
  ·cases hg
theorem Sim.storeRow {w0 : Base} {w : World} {env : Nat → D} {rt : RT} {tm : Nat → Value} {own : Nat → Option Lab} (hs : Sim w0 env rt tm w own) {r bt off : Nat} {p : List Nat} {v : Value} {d : D} {R : Root} {cs1 : List D}
  (hR : rt r = some (some R)) (hbox : R.box = false) (hbt : own bt = some (r, p)) (hg : bE R.cs p = some cs1) (hno : ∀ d, cs1[off]? = some d → d.notOwn = true)
  (hd : d.notOwn = true) (hsh : Sh w (okb w own) d v) :
  Sim w0 env (rt.set r (some { R with cs := updB R.cs p (fun l => l.set off d) })) tm (w.setCell ⟨bt, off, none⟩ v) own := by
 have hst := Stored.setCell w bt off v
 have hsz : (w.setCell ⟨bt, off, none⟩ v).heap.size = w.heap.size := by simp [World.setCell]
 have hfr := Sim.storeFr (R' := { R with cs := updB R.cs p (fun l => l.set off d) }) hst hsz hR hbt (fun q hq => by
  rcases hq with e | ⟨h1, h2⟩
  ·exact .inl e
  ·exact .inr ⟨h1, An2 hd p R.cs cs1 hg hno q h2⟩)
 have hlo : ¬ w0.prot bt := fun hp => by have := (hs.lab bt r p hbt).1 hp; rw [hR] at this; cases this
 refine hs.change hfr (hs.below.setCell hlo v) (fun r1 R1 h1 => ?_) (fun b r1 p1 h => ?_) hs.inj (fun _ _ _ h _ => h)
 ·by_cases hr : r1 = r
  ·subst hr
   rw [RT.set_self] at h1; cases h1
   rcases hs.roots r1 R hR with ⟨b, arr, e, k1, k2, k3, k4⟩ | ⟨_, k2, k3⟩
   ·have hblk : gD w (okb w own) own r1 [] b R.cs := ⟨arr, e, k1, k2, k3, fun i d v hi hv => by
     have := k4 i d v hi hv; unfold bX at this; rw [hbox] at this; simpa using this⟩
    obtain ⟨arr2, e2, m1, m2, m3, m4⟩ := gD.set hst hs.inj (fun b h => (hfr.ok b h).2) hd
     (hsh.frame (ok' := okb w own) (fun b h => ⟨h, (hfr.ok b h).2⟩)) p [] b R.cs cs1 hblk (by simpa using hbt) hg hno
    refine .inl ⟨b, arr2, e2, m1, m2, m3, fun i d u hi hv => ?_⟩
    unfold bX
    simp only [hbox, Bool.false_eq_true, if_false]
    exact (by simpa using m4 i d u hi hv : Tr (w.setCell ⟨bt, off, none⟩ v) (okb w own) own (r1, [i]) d u).frame (fun b h => ⟨⟨h.1, by rw [hsz]; exact h.2⟩, rfl⟩) (fun _ _ h => ⟨h, rfl⟩) (fun _ _ h => h)
   ·rw [k2] at hg
    cases p with
    | nil => exact absurd hbt (k3 bt)
    | cons i q => simp [bE] at hg
  ·rw [RT.set_ne rt _ hr] at h1
   refine (hs.roots r1 R1 h1).frame hfr (fun b p1 hp => ⟨hp, hst.other b (fun e => ?_)⟩) (fun _ _ h => h)
   subst e; rw [hbt] at hp; cases hp; exact hr rfl
 ·obtain ⟨h1, h2, h3⟩ := hs.lab b r1 p1 h
  refine ⟨fun hp => hfr.dead (h1 hp), by rw [hsz]; exact h2, hfr.alive r1 h3⟩
theorem Sim.storeBox {w0 : Base} {w : World} {env : Nat → D} {rt : RT} {tm : Nat → Value} {own : Nat → Option Lab} (hs : Sim w0 env rt tm w own) {r bt off : Nat} {v : Value} {d : D} {R : Root}
  (hR : rt r = some (some R)) (hbox : R.box = true) (hbt : own bt = some (r, [])) (hm : Mt w (okb w own) own rt d v) :
  Sim w0 env (rt.set r (some { R with cs := R.cs.set off d })) tm (w.setCell ⟨bt, off, none⟩ v) own := by
 have hst := Stored.setCell w bt off v
 have hsz : (w.setCell ⟨bt, off, none⟩ v).heap.size = w.heap.size := by simp [World.setCell]
 have hfr := Sim.storeFr (R' := { R with cs := R.cs.set off d }) hst hsz hR hbt (fun q hq => by
  rcases hq with e | ⟨h1, _⟩
  ·exact .inl e
  ·rw [hbox] at h1; cases h1)
 have hlo : ¬ w0.prot bt := fun hp => by have := (hs.lab bt r [] hbt).1 hp; rw [hR] at this; cases this
 refine hs.change hfr (hs.below.setCell hlo v) (fun r1 R1 h1 => ?_) (fun b r1 p1 h => ?_) hs.inj (fun _ _ _ h _ => h)
 ·by_cases hr : r1 = r
  ·subst hr
   rw [RT.set_self] at h1; cases h1
   rcases hs.roots r1 R hR with ⟨b, arr, e, k1, k2, k3, k4⟩ | ⟨k1, _, _⟩
   ·have hb : b = bt := hs.inj b bt _ k1 hbt
    subst hb
    refine .inl ⟨b, arr.setIfInBounds off v, e, k1, hst.here arr e k2, by simpa using k3, fun i d1 v1 hi hv => ?_⟩
    refine Eq.mpr (if_pos hbox) ?_
    simp only at hi
    by_cases hio : i = off
    ·subst hio
     have hlt : i < R.cs.length := by
      rcases Nat.lt_or_ge i R.cs.length with h | h
      ·exact h
      ·rw [List.getElem?_eq_none (by simpa using h)] at hi; cases hi
     rw [List.getElem?_set_self hlt] at hi
     rw [Array.getElem?_setIfInBounds_self_of_lt (by omega)] at hv
     cases hi; cases hv
     exact hm.frame hfr
    ·rw [List.getElem?_set_ne (Ne.symm hio)] at hi
     rw [Array.getElem?_setIfInBounds_ne (Ne.symm hio)] at hv
     have := k4 i d1 v1 hi hv
     unfold bX at this; rw [if_pos hbox] at this
     exact this.frame hfr
   ·rw [hbox] at k1; cases k1
  ·rw [RT.set_ne rt _ hr] at h1
   refine (hs.roots r1 R1 h1).frame hfr (fun b p1 hp => ⟨hp, hst.other b (fun e => ?_)⟩) (fun _ _ h => h)
   subst e; rw [hbt] at hp; cases hp; exact hr rfl
 ·obtain ⟨h1, h2, h3⟩ := hs.lab b r1 p1 h
  refine ⟨fun hp => hfr.dead (h1 hp), by rw [hsz]; exact h2, hfr.alive r1 h3⟩
def eM (off : Nat) : List Nat → Bool
 | i :: _ => Nat.beq i off
 | [] => false
def tV (own : Nat → Option Lab) (r2 r off : Nat) : Nat → Option Lab := fun b => match own b with
 | some (q, p) => if q = r2 then some (r, off :: p) else if q = r ∧ eM off p = true then none else some (q, p)
 | none => none
theorem iZ {own : Nat → Option Lab} {r2 r off b q : Nat} {p : List Nat} : tV own r2 r off b = some (q, p) ↔
  (∃ p', own b = some (r2, p') ∧ q = r ∧ p = off :: p') ∨ (own b = some (q, p) ∧ q ≠ r2 ∧ ¬ (q = r ∧ eM off p = true)) := by
 unfold tV
 cases h : own b with
 | none => simp
 | some l =>
  obtain ⟨q1, p1⟩ := l
  simp only [Option.some.injEq, Prod.mk.injEq]
  by_cases h1 : q1 = r2
  ·rw [if_pos h1]
   constructor
   ·intro h2
    simp only [Option.some.injEq, Prod.mk.injEq] at h2
    exact .inl ⟨p1, ⟨h1, rfl⟩, h2.1.symm, h2.2.symm⟩
   ·rintro (⟨p', ⟨_, e⟩, e1, e2⟩ | ⟨⟨e, _⟩, hne, _⟩)
    ·simp [e1, e2, e]
    ·exact absurd (e.symm.trans h1) hne
  ·rw [if_neg h1]
   by_cases h2 : q1 = r ∧ eM off p1 = true
   ·rw [if_pos h2]
    constructor
    ·intro h3; cases h3
    ·rintro (⟨p', ⟨e, _⟩, _, _⟩ | ⟨⟨e, e2⟩, _, hno⟩)
     ·exact absurd e h1
     ·exact absurd (by rw [← e, ← e2]; exact h2) hno
   ·rw [if_neg h2]
    constructor
    ·intro h3
     simp only [Option.some.injEq, Prod.mk.injEq] at h3
     exact .inr ⟨h3, fun e => h1 (h3.1.trans e), fun e => h2 (by rw [h3.1, h3.2]; exact e)⟩
    ·rintro (⟨p', ⟨e, _⟩, _, _⟩ | ⟨e, _, _⟩)
     ·exact absurd e h1
     ·simp [e]
theorem Aew {R : Root} {off : Nat} {p : List Nat} (hno : ∀ d, R.cs[off]? = some d → d.notOwn = true) (hp : Vp R p) : eM off p = false := by
 rcases hp with e | ⟨_, h⟩
 ·subst e; rfl
 ·cases p with
  | nil => rfl
  | cons i q =>
   cases e : eM off (i :: q) with
   | false => rfl
   | true =>
    have e' : i = off := by simpa [eM, Nat.beq_eq] using e
    subst e'
    simp only [bE] at h
    split at h
    ·rename_i he
     have := hno _ he
     simp [D.notOwn] at this
    ·cases h
theorem Sim.graft {w0 : Base} {w : World} {env : Nat → D} {rt : RT} {tm : Nat → Value} {own : Nat → Option Lab} (hs : Sim w0 env rt tm w own) {r r2 bt off sz m : Nat} {v : Value} {R R2 : Root}
  (hR : rt r = some (some R)) (hbox : R.box = false) (hbt : own bt = some (r, [])) (hR2 : rt r2 = some (some R2)) (hbox2 : R2.box = false) (hne : r ≠ r2) (hlt : off < R.cs.length)
  (hno : ∀ d, R.cs[off]? = some d → d.notOwn = true) (hz : sz ≠ 0) (hm : m * sz = R2.cs.length) (hv : mF w own r2 [] sz 0 m v) :
  Sim w0 env ((rt.set r2 none).set r (some { R with cs := R.cs.set off (.list true sz R2.cs) })) tm (w.setCell ⟨bt, off, none⟩ v) (tV own r2 r off) := by
 have hst := Stored.setCell w bt off v
 have hsz : (w.setCell ⟨bt, off, none⟩ v).heap.size = w.heap.size := by simp [World.setCell]
 have hlo : ¬ w0.prot bt := fun hp => by have := (hs.lab bt r [] hbt).1 hp; rw [hR] at this; cases this
 have hRT : ∀ r1 R', ((rt.set r2 none).set r (some { R with cs := R.cs.set off (.list true sz R2.cs) })) r1 = some (some R') → (r1 = r ∧ R' = { R with cs := R.cs.set off (.list true sz R2.cs) }) ∨ (r1 ≠ r ∧ r1 ≠ r2 ∧ rt r1 = some (some R')) := by
  intro r1 R' h
  unfold RT.set at h
  split at h
  ·rename_i e; cases h; exact .inl ⟨e, rfl⟩
  ·rename_i e
   split at h
   ·cases h
   ·rename_i e2; exact .inr ⟨e, e2, h⟩
 have hpath : ∀ p, Vp R p → Vp { R with cs := R.cs.set off (.list true sz R2.cs) } p := by
  intro p hp
  have hof := Aew hno hp
  rcases hp with e | ⟨h1, h2⟩
  ·exact .inl e
  ·refine .inr ⟨h1, ?_⟩
   cases p with
   | nil => rfl
   | cons i q =>
    have hi : off ≠ i := fun e => by subst e; simp [eM, Nat.beq_eq] at hof
    simp only [bE] at h2 ⊢
    rw [List.getElem?_set_ne hi]; exact h2
 have hfr : Fr w (okb w own) own rt (w.setCell ⟨bt, off, none⟩ v) (okb (w.setCell ⟨bt, off, none⟩ v) (tV own r2 r off)) (tV own r2 r off) ((rt.set r2 none).set r (some { R with cs := R.cs.set off (.list true sz R2.cs) })) := by
  refine ⟨fun b hk => ⟨⟨?_, by rw [hsz]; exact hk.2⟩, hst.other b (fun e => by subst e; rw [hk.1] at hbt; cases hbt)⟩, fun r1 h => ?_, fun r1 R1 h0 h => ?_, fun r1 R0 R1 h0 h b p hp => ?_, fun r1 R0 R1 q h0 h1 hq => ?_, fun r1 R1 b p arr e h0 h1 h2 h3 => ?_⟩
  ·unfold tV; rw [hk.1]
  ·unfold RT.set; split
   ·simp
   ·split
    ·simp
    ·exact h
  ·rcases hRT r1 R1 h with ⟨e, _⟩ | ⟨_, _, h1⟩
   ·rw [e]; exact ⟨R, hR⟩
   ·exact ⟨R1, h1⟩
  ·rw [iZ]
   rcases hRT r1 R1 h with ⟨e, _⟩ | ⟨e1, e2, h1⟩
   ·subst e
    rw [hR] at h0; cases h0
    have hof := Aew hno hp
    constructor
    ·intro hb; exact .inr ⟨hb, hne, fun x => by rw [hof] at x; cases x.2⟩
    ·rintro (⟨p', _, _, e2⟩ | ⟨hb, _, _⟩)
     ·subst e2; simp [eM, Nat.beq_eq] at hof
     ·exact hb
   ·constructor
    ·intro hb; exact .inr ⟨hb, e2, fun x => e1 x.1⟩
    ·rintro (⟨p', _, e3, _⟩ | ⟨hb, _, _⟩)
     ·exact absurd e3 e1
     ·exact hb
  ·rcases hRT r1 R1 h1 with ⟨e, e'⟩ | ⟨_, _, h2⟩
   ·subst e; subst e'
    rw [hR] at h0; cases h0
    exact hpath q hq
   ·rw [h0] at h2; cases h2; exact hq
  ·by_cases hb : b = bt
   ·subst hb; exact ⟨_, hst.here arr e h3, by simp⟩
   ·exact ⟨arr, (hst.other b hb).trans h3, rfl⟩
 refine hs.change hfr (hs.below.setCell hlo v) (fun r1 R1 h1 => ?_) (fun b r1 p1 h => ?_) (fun b b' l h h' => ?_) (fun b r1 p1 h hd => iZ.2 (.inr ⟨h, fun e => (by rw [e, hR2] at hd; cases hd), fun e => (by rw [e.1, hR] at hd; cases hd)⟩))
 ·rcases hRT r1 R1 h1 with ⟨e, e'⟩ | ⟨e1, e2, h2⟩
  ·subst e; subst e'
   rcases hs.roots r1 R hR with ⟨b, arr, e, k1, k2, k3, k4⟩ | ⟨_, k2, _⟩
   ·have hbb : b = bt := hs.inj b bt _ k1 hbt
    subst hbb
    refine .inl ⟨b, arr.setIfInBounds off v, e, iZ.2 (.inr ⟨k1, hne, fun x => by simp [eM] at x⟩), hst.here arr e k2, by simpa using k3, fun i d u hi hu => ?_⟩
    unfold bX
    rw [if_neg (by simp [hbox])]
    by_cases hio : i = off
    ·subst hio
     rw [List.getElem?_set_self hlt] at hi
     rw [Array.getElem?_setIfInBounds_self_of_lt (by omega)] at hu
     cases hi; cases hu
     rcases hv with ⟨b2, arr2, e2, cap, o, hb2, hw2, hve, hnc, hcs, ho⟩ | ⟨hve, _, hm0, hnb⟩
     ·have ho0 := ho (.inl rfl)
      simp only [Nat.zero_mul] at ho0; subst ho0; subst hve
      have hb2ne : b2 ≠ b := fun x => by subst x; rw [k1] at hb2; cases hb2; exact hne rfl
      rcases hs.roots r2 R2 hR2 with ⟨b3, arr3, e3, j1, j2, j3, j4⟩ | ⟨_, _, j3⟩
      ·have hb3 := hs.inj b3 b2 _ j1 hb2
       subst hb3
       rw [hw2] at j2; cases j2
       refine .own _ sz R2.cs b3 m cap arr2 e2 hz hm hnc (iZ.2 (.inl ⟨[], hb2, rfl, rfl⟩)) ((hst.other b3 hb2ne).trans hw2) (by simpa using hcs) j3 (fun i' d' u' hd' hu' => ?_)
       have hcell := j4 i' d' u' hd' hu'
       unfold bX at hcell
       rw [if_neg (by simp [hbox2])] at hcell
       refine hcell.relab (r1, [i] ++ [i']) hfr.ok (fun b1 q hq => ⟨?_, hst.other b1 (fun x => by subst x; rw [k1] at hq; cases hq)⟩) (fun b1 q hq => ?_)
       ·exact iZ.2 (.inl ⟨_, hq, rfl, by simp⟩)
       ·rcases iZ.1 hq with ⟨p', hp', _, e5⟩ | ⟨_, _, hnn⟩
        ·simp at e5; rw [hp', ← e5]; simp
        ·exact absurd ⟨rfl, by simp [eM, Nat.beq_eq]⟩ hnn
      ·exact absurd hb2 (j3 b2)
     ·have hnil : R2.cs = [] := List.eq_nil_of_length_eq_zero (by rw [← hm, hm0]; simp)
      rw [hnil, hve]
      refine .nil _ sz (fun b1 hb1 => ?_)
      rcases iZ.1 hb1 with ⟨p', hp', _, e5⟩ | ⟨_, _, hnn⟩
      ·simp at e5; subst e5; exact hnb b1 hp'
      ·exact hnn ⟨rfl, by simp [eM, Nat.beq_eq]⟩
    ·rw [List.getElem?_set_ne (Ne.symm hio)] at hi
     rw [Array.getElem?_setIfInBounds_ne (Ne.symm hio)] at hu
     have hcell := k4 i d u hi hu
     unfold bX at hcell
     rw [if_neg (by simp [hbox])] at hcell
     have hio' : ∀ q, eM off (i :: q) = false := fun q => by
      cases e9 : eM off (i :: q) with
      | false => rfl
      | true => simp [eM, Nat.beq_eq] at e9; exact absurd e9 hio
     refine hcell.frame hfr.ok (fun b1 q hq => ⟨?_, hst.other b1 (fun x => by subst x; rw [k1] at hq; simp at hq)⟩) (fun b1 q hq => ?_)
     ·exact iZ.2 (.inr ⟨hq, hne, fun x => by have := hio' q; simp only [List.cons_append, List.nil_append] at x; rw [this] at x; cases x.2⟩)
     ·rcases iZ.1 hq with ⟨p', _, _, e5⟩ | ⟨hb1, _, _⟩
      ·simp at e5; exact absurd e5.1 hio
      ·exact hb1
   ·rw [k2] at hlt; simp at hlt
  ·refine (hs.roots r1 R1 h2).frame hfr (fun b p hp => ⟨iZ.2 (.inr ⟨hp, e2, fun x => e1 x.1⟩), hst.other b (fun x => by subst x; rw [hbt] at hp; cases hp; exact e1 rfl)⟩) (fun b p hp => ?_)
   rcases iZ.1 hp with ⟨_, _, e3, _⟩ | ⟨hb, _, _⟩
   ·exact absurd e3 e1
   ·exact hb
 ·rcases iZ.1 h with ⟨p', hp', e, _⟩ | ⟨hb, e2, _⟩
  ·obtain ⟨g1, g2, g3⟩ := hs.lab b r2 p' hp'
   refine ⟨fun hp => (by have := g1 hp; rw [hR2] at this; cases this), by rw [hsz]; exact g2, ?_⟩
   rw [e, RT.set_self]; simp
  ·obtain ⟨g1, g2, g3⟩ := hs.lab b r1 p1 hb
   exact ⟨fun hp => hfr.dead (g1 hp), by rw [hsz]; exact g2, hfr.alive r1 g3⟩
 ·obtain ⟨q, p⟩ := l
  rcases iZ.1 h with ⟨p', hp', e1, e2⟩ | ⟨hb, e1, e2⟩ <;> rcases iZ.1 h' with ⟨p'', hp'', e3, e4⟩ | ⟨hb', e3, e4⟩
  ·rw [e2] at e4; simp at e4; subst e4; exact hs.inj b b' _ hp' hp''
  ·exact absurd ⟨e1, by rw [e2]; simp [eM, Nat.beq_eq]⟩ e4
  ·exact absurd ⟨e3, by rw [e4]; simp [eM, Nat.beq_eq]⟩ e2
  ·exact hs.inj b b' _ hb hb'
def hU : List Nat → Bool
 | [] => true
 | _ :: _ => false
def shA (r : Nat) : D → Bool
 | .ref r' p _ _ _ => !Nat.beq r r' || hU p
 | .ptr r' p _ => !Nat.beq r r' || hU p
 | .agg _ | .tup _ | .fn _ _ _ => false
 | _ => true
def shB (r : Nat) : D → Bool
 | .agg ds => ds.all (shA r)
 | .tup ds => ds.all (shA r)
 | .fn _ fs cs => fs.all (shA r) && cs.all (shA r)
 | d => shA r d
def kX (own : Nat → Option Lab) (r off : Nat) : Nat → Option Lab := fun b => match own b with
 | some (q, p) => if q = r ∧ eM off p = true then none else some (q, p)
 | none => none
theorem jV {own : Nat → Option Lab} {r off b q : Nat} {p : List Nat} : kX own r off b = some (q, p) ↔ own b = some (q, p) ∧ ¬ (q = r ∧ eM off p = true) := by
 unfold kX
 cases h : own b with
 | none => simp
 | some l =>
  obtain ⟨q1, p1⟩ := l
  simp only [Option.some.injEq, Prod.mk.injEq]
  by_cases h2 : q1 = r ∧ eM off p1 = true
  ·rw [if_pos h2]
   constructor
   ·intro h3; cases h3
   ·rintro ⟨⟨e, e2⟩, hno⟩
    exact absurd (by rw [← e, ← e2]; exact h2) hno
  ·rw [if_neg h2]
   constructor
   ·intro h3
    simp only [Option.some.injEq, Prod.mk.injEq] at h3
    exact ⟨h3, fun e => h2 (by rw [h3.1, h3.2]; exact e)⟩
   ·rintro ⟨⟨e1, e2⟩, _⟩
    simp [e1, e2]
section
variable {w0 : Base} {w : World} {env : Nat → D} {rt : RT} {tm : Nat → Value} {own : Nat → Option Lab} {r off : Nat} {R : Root}
theorem uW {b : Nat} (h : okb w own b) : okb w (kX own r off) b := by
 refine ⟨?_, h.2⟩
 unfold kX; rw [h.1]
theorem Mt.dropA (hR : rt r = some (some R)) {d : D} {v : Value} (h : Mt w (okb w own) own rt d v) (hd : shA r d = true) :
  Mt w (okb w (kX own r off)) (kX own r off) (rt.set r (some { R with cs := R.cs.set off .undef })) d v := by
 have key : ∀ r' p, (!Nat.beq r r' || hU p) = true → (r' = r ∧ p = []) ∨ r' ≠ r := by
  intro r' p hx
  by_cases e : r' = r
  ·subst e
   left
   cases p with
   | nil => exact ⟨rfl, rfl⟩
   | cons i q => simp [hU, Nat.beq_eq] at hx
  ·exact .inr e
 have lab : ∀ r' p b, (r' = r ∧ p = []) ∨ r' ≠ r → (kX own r off b = some (r', p) ↔ own b = some (r', p)) := by
  intro r' p b hx
  rw [jV]
  constructor
  ·exact fun h => h.1
  ·refine fun h => ⟨h, fun e => ?_⟩
   rcases hx with ⟨_, e2⟩ | e2
   ·rw [e2] at e; simp [eM] at e
   ·exact e2 e.1
 cases h with
 | undef v => exact .undef v
 | sh d v h => exact .sh d v (h.frame (fun b hb => ⟨uW hb, rfl⟩))
 | ref r' p sz off' n v h0 h1 h =>
  have hc := key r' p hd
  refine .ref r' p sz off' n v ?_ h1 (fun R' hR' => ?_)
  ·by_cases e : r' = r
   ·subst e; rw [RT.set_self]; simp
   ·rw [RT.set_ne _ _ e]; exact h0
  ·have hold : ∃ R0, rt r' = some (some R0) ∧ (Vp R0 p → Vp R' p) := by
    rcases hc with ⟨e, e2⟩ | e
    ·subst e; exact ⟨R, hR, fun _ => .inl e2⟩
    ·rw [RT.set_ne _ _ e] at hR'; exact ⟨R', hR', id⟩
   obtain ⟨R0, hR0, hvp⟩ := hold
   obtain ⟨hp, h⟩ := h R0 hR0
   refine ⟨hvp hp, ?_⟩
   rcases h with ⟨b, arr, e, cap, o, hb, hw, hv, hnc, hcs, ho⟩ | ⟨hv, ho, hn, hb⟩
   ·exact .inl ⟨b, arr, e, cap, o, (lab r' p b hc).2 hb, hw, hv, hnc, hcs, ho⟩
   ·exact .inr ⟨hv, ho, hn, fun b hb' => hb b ((lab r' p b hc).1 hb')⟩
 | ptr r' p off' v h0 h1 h =>
  have hc := key r' p hd
  refine .ptr r' p off' v ?_ h1 (fun R' hR' => ?_)
  ·by_cases e : r' = r
   ·subst e; rw [RT.set_self]; simp
   ·rw [RT.set_ne _ _ e]; exact h0
  ·have hold : ∃ R0, rt r' = some (some R0) ∧ (Vp R0 p → Vp R' p) := by
    rcases hc with ⟨e, e2⟩ | e
    ·subst e; exact ⟨R, hR, fun _ => .inl e2⟩
    ·rw [RT.set_ne _ _ e] at hR'; exact ⟨R', hR', id⟩
   obtain ⟨R0, hR0, hvp⟩ := hold
   obtain ⟨hp, b, arr, e, hb, hw, hv⟩ := h R0 hR0
   exact ⟨hvp hp, b, arr, e, (lab r' p b hc).2 hb, hw, hv⟩
 | agg ds vs hl hr => simp [shA] at hd
 | tup ds vs hl hr => simp [shA] at hd
 | fn f fs cs first caps h1 h2 hf hr => simp [shA] at hd
theorem Mt.drop (hR : rt r = some (some R)) {d : D} {v : Value} (h : Mt w (okb w own) own rt d v) (hd : shB r d = true) :
  Mt w (okb w (kX own r off)) (kX own r off) (rt.set r (some { R with cs := R.cs.set off .undef })) d v := by
 cases h with
 | agg ds vs hl hr => exact .agg ds vs hl (fun i d v h1 h2 => (hr i d v h1 h2).dropA hR (List.all_eq_true.1 hd d (List.mem_of_getElem? h1)))
 | tup ds vs hl hr => exact .tup ds vs hl (fun i d v h1 h2 => (hr i d v h1 h2).dropA hR (List.all_eq_true.1 hd d (List.mem_of_getElem? h1)))
 | fn f fs cs first caps h1 h2 hf hr =>
  simp only [shB, Bool.and_eq_true] at hd
  exact .fn f fs cs first caps h1 h2 (fun i d v h1 h2 => (hf i d v h1 h2).dropA hR (List.all_eq_true.1 hd.1 d (List.mem_of_getElem? h1)))
   (fun i d v h1 h2 => (hr i d v h1 h2).dropA hR (List.all_eq_true.1 hd.2 d (List.mem_of_getElem? h1)))
 | undef v => exact .undef v
 | sh d v h => exact .sh d v (h.frame (fun b hb => ⟨uW hb, rfl⟩))
 | ref r' p sz off' n v h0 h1 h => exact Mt.dropA hR (.ref r' p sz off' n v h0 h1 h) hd
 | ptr r' p off' v h0 h1 h => exact Mt.dropA hR (.ptr r' p off' v h0 h1 h) hd
theorem Akx {n : Nat} {d : D} (h : BelowD n d) (hn : n ≤ r) {v : Value} (hm : Mt w (okb w own) own rt d v) (hR : rt r = some (some R)) :
  Mt w (okb w (kX own r off)) (kX own r off) (rt.set r (some { R with cs := R.cs.set off .undef })) d v := by
 have hne : ∀ r', r' < n → Nat.beq r r' = false := fun r' hlt => by
  cases hb : Nat.beq r r' with
  | false => rfl
  | true => have := Nat.eq_of_beq_eq_true hb; omega
 induction hm with
 | undef v => exact .undef v
 | sh d v h3 => exact .sh d v (h3.frame (fun b hb => ⟨uW hb, rfl⟩))
 | ref r' p sz off' m v h0 h1 h2 =>
  cases h with
  | ref _ _ _ _ _ hlt => exact Mt.dropA hR (.ref r' p sz off' m v h0 h1 h2) (by show (!Nat.beq r r' || hU p) = true; rw [hne r' hlt]; rfl)
 | ptr r' p off' v h0 h1 h2 =>
  cases h with
  | ptr _ _ _ hlt => exact Mt.dropA hR (.ptr r' p off' v h0 h1 h2) (by show (!Nat.beq r r' || hU p) = true; rw [hne r' hlt]; rfl)
 | agg ds vs hl hr ih =>
  cases h with
  | agg _ h => exact .agg ds vs hl (fun i d v h1 h2 => ih i d v h1 h2 (h d (List.mem_of_getElem? h1)))
 | tup ds vs hl hr ih =>
  cases h with
  | tup _ h => exact .tup ds vs hl (fun i d v h1 h2 => ih i d v h1 h2 (h d (List.mem_of_getElem? h1)))
 | fn f fs cs first caps h1 h2 hf hr ihf ih =>
  cases h with
  | fn _ _ _ hf' hc' => exact .fn f fs cs first caps h1 h2 (fun i d v h1 h2 => ihf i d v h1 h2 (hf' d (List.mem_of_getElem? h1))) (fun i d v h1 h2 => ih i d v h1 h2 (hc' d (List.mem_of_getElem? h1)))
theorem Sim.dropCell (hs : Sim w0 env rt tm w own) (hR : rt r = some (some R)) (hbox : R.box = false) (henv : ∀ i, shB r (env i) = true) (hkeep : w0.keep ≤ r)
  (hboxes : ∀ r1 R1, rt r1 = some (some R1) → R1.box = true → ∀ d ∈ R1.cs, shB r d = true) :
  Sim w0 env (rt.set r (some { R with cs := R.cs.set off .undef })) tm w (kX own r off) := by
 refine ⟨hs.below, fun i => (hs.env i).drop hR (henv i), fun r1 R1 h1 => ?_, fun b r1 p h => ?_, fun b hb => ?_, fun b b' l h h' => ?_, fun d v hp => Akx (w0.hk d v hp) hkeep (hs.susp d v hp) hR⟩
 ·by_cases e : r1 = r
  ·subst e
   rw [RT.set_self] at h1
   cases h1
   rcases hs.roots r1 R hR with ⟨b, arr, e, k1, k2, k3, k4⟩ | ⟨k1, k2, k3⟩
   ·refine .inl ⟨b, arr, e, jV.2 ⟨k1, fun x => by simp [eM] at x⟩, k2, by simpa using k3, fun i d v hi hv => ?_⟩
    unfold bX
    rw [if_neg (by simp [hbox])]
    by_cases hio : i = off
    ·subst hio
     by_cases hlt : i < R.cs.length
     ·rw [List.getElem?_set_self hlt] at hi
      cases hi
      exact .sh _ _ _ rfl (.undef _)
     ·rw [List.getElem?_eq_none (by simpa using hlt)] at hi; cases hi
    ·rw [List.getElem?_set_ne (Ne.symm hio)] at hi
     have hcell := k4 i d v hi hv
     unfold bX at hcell
     rw [if_neg (by simp [hbox])] at hcell
     refine hcell.frame (fun b hb => ⟨uW hb, rfl⟩) (fun b q hq => ⟨jV.2 ⟨hq, fun x => ?_⟩, rfl⟩) (fun b q hq => (jV.1 hq).1)
     have := x.2
     simp [eM, Nat.beq_eq] at this
     exact hio this
   ·exact .inr ⟨k1, by simp [k2], fun b hb => k3 b (jV.1 hb).1⟩
  ·rw [RT.set_ne _ _ e] at h1
   rcases hs.roots r1 R1 h1 with ⟨b, arr, e1, k1, k2, k3, k4⟩ | ⟨k1, k2, k3⟩
   ·refine .inl ⟨b, arr, e1, jV.2 ⟨k1, fun x => e x.1⟩, k2, k3, fun i d v hi hv => ?_⟩
    have hcell := k4 i d v hi hv
    unfold bX at hcell ⊢
    by_cases hb : R1.box = true
    ·rw [if_pos hb] at hcell ⊢
     exact hcell.drop hR (hboxes r1 R1 h1 hb d (List.mem_of_getElem? hi))
    ·rw [if_neg hb] at hcell ⊢
     exact hcell.frame (fun b hb => ⟨uW hb, rfl⟩) (fun b q hq => ⟨jV.2 ⟨hq, fun x => e x.1⟩, rfl⟩) (fun b q hq => (jV.1 hq).1)
   ·exact .inr ⟨k1, k2, fun b hb => k3 b (jV.1 hb).1⟩
 ·obtain ⟨h1, h2, h3⟩ := hs.lab b r1 p (jV.1 h).1
  have hset : rt r1 ≠ some (some R) → (rt.set r (some { R with cs := R.cs.set off .undef })) r1 = rt r1 := fun hx => RT.set_ne _ _ (fun e => hx (by rw [e]; exact hR))
  refine ⟨fun hp => ?_, h2, ?_⟩
  ·have := h1 hp
   rw [hset (by rw [this]; simp)]; exact this
  ·by_cases e : r1 = r
   ·subst e; rw [RT.set_self]; simp
   ·rw [RT.set_ne _ _ e]; exact h3
 ·obtain ⟨k1, k2⟩ := hs.hidl b hb
  have hne : (w0.hl b).1 ≠ r := fun e => by rw [e, hR] at k2; cases k2
  exact ⟨jV.2 ⟨k1, fun e => hne e.1⟩, by rw [RT.set_ne _ _ hne]; exact k2⟩
 ·obtain ⟨q, p⟩ := l
  exact hs.inj b b' _ (jV.1 h).1 (jV.1 h').1
end
end Go.Vm
namespace Go.Vm
open Go Go.RowKit
def iL (r0 r2 nr k : Nat) (cons inp : Bool) (l : Lab) : Option Lab :=
 if l.1 = r0 then (match l.2 with
  | [] => if inp then some (nr, []) else none
  | i :: q => if i < k then some (nr, i :: q) else none)
 else if cons = true ∧ l.1 = r2 then (match l.2 with
  | [] => none
  | i :: q => some (nr, (k + i) :: q))
 else some l
section
variable {r0 r2 nr k : Nat} {cons inp : Bool}
theorem Akp {l : Lab} (h0 : l.1 ≠ r0) (h2 : ¬ (cons = true ∧ l.1 = r2)) : iL r0 r2 nr k cons inp l = some l := by
 unfold iL; rw [if_neg h0, if_neg h2]
theorem xS {l : Lab} {r : Nat} {p : List Nat} (h : iL r0 r2 nr k cons inp l = some (r, p)) (hr : r ≠ nr) : l = (r, p) ∧ r ≠ r0 ∧ ¬ (cons = true ∧ r = r2) := by
 obtain ⟨a, q⟩ := l
 unfold iL at h
 split at h
 ·split at h
  ·split at h
   ·cases h; exact absurd rfl hr
   ·cases h
  ·split at h
   ·cases h; exact absurd rfl hr
   ·cases h
 ·rename_i h0
  split at h
  ·split at h
   ·cases h
   ·cases h; exact absurd rfl hr
  ·rename_i h2; cases h; exact ⟨rfl, h0, h2⟩
theorem wY {l : Lab} (hl : l.1 ≠ nr) (h : iL r0 r2 nr k cons inp l = some (nr, [])) : l = (r0, []) ∧ inp = true := by
 obtain ⟨a, q⟩ := l
 unfold iL at h
 split at h
 ·rename_i h0
  simp only at h0; subst h0
  split at h
  ·rename_i hq; simp only at hq; subst hq
   split at h
   ·rename_i hi; exact ⟨rfl, hi⟩
   ·cases h
  ·split at h <;> cases h
 ·split at h
  ·split at h <;> cases h
  ·cases h; exact absurd rfl hl
theorem wE {l : Lab} {i : Nat} {q : List Nat} (hl : l.1 ≠ nr) (h : iL r0 r2 nr k cons inp l = some (nr, i :: q)) :
  (l = (r0, i :: q) ∧ i < k) ∨ (cons = true ∧ ∃ j, i = k + j ∧ l = (r2, j :: q)) := by
 obtain ⟨a, q'⟩ := l
 unfold iL at h
 split at h
 ·rename_i h0
  simp only at h0; subst h0
  split at h
  ·split at h <;> cases h
  ·rename_i hq; simp only at hq; subst hq
   split at h
   ·rename_i hlt; cases h; exact .inl ⟨rfl, hlt⟩
   ·cases h
 ·split at h
  ·rename_i h2
   split at h
   ·cases h
   ·rename_i hq; simp only at hq h2; obtain ⟨hc, rfl⟩ := h2; subst hq
    cases h
    exact .inr ⟨hc, _, rfl, rfl⟩
  ·cases h; exact absurd rfl hl
theorem Aov {l l' m : Lab} (hl : l.1 ≠ nr) (hl' : l'.1 ≠ nr) (h : iL r0 r2 nr k cons inp l = some m) (h' : iL r0 r2 nr k cons inp l' = some m) : l = l' := by
 obtain ⟨r, p⟩ := m
 by_cases hr : r = nr
 ·subst hr
  cases p with
  | nil => rw [(wY hl h).1, (wY hl' h').1]
  | cons i q =>
   rcases wE hl h with ⟨e1, h1⟩ | ⟨_, j, e1, e2⟩ <;> rcases wE hl' h' with ⟨e3, h3⟩ | ⟨_, j', e3, e4⟩
   ·rw [e1, e3]
   ·omega
   ·omega
   ·have : j = j' := by omega
    rw [e2, e4, this]
 ·rw [(xS h hr).1, (xS h' hr).1]
end
structure Grew (w w' : World) (g : Option Nat) (g' : Nat) (inp : Bool) : Prop where
 other : ∀ b, b < w.heap.size → b ≠ g' → w'.heap[b]? = w.heap[b]?
 size : w.heap.size ≤ w'.heap.size
 at_ : if inp then g = some g' else g' = w.heap.size ∧ w'.heap.size = w.heap.size + 1
 os : w'.os = w.os
 tape : w'.tape = w.tape
 output : w'.output = w.output
theorem Sim.append {w0 : Base} {w w' : World} {env : Nat → D} {rt : RT} {tm : Nat → Value} {own : Nat → Option Lab} (hs : Sim w0 env rt tm w own)
  {r0 r2 nr g' : Nat} {cons inp : Bool} {R0 : Root} {g : Option Nat} {sz : Nat} {newsD : List D} {arr' : Array Value} {e' : TypeId} {xs news : List Value}
  (hnr : rt nr = none) (hr2 : cons = true → r2 ≠ r0) (hd0 : rt r0 ≠ some none) (hd2 : cons = true → rt r2 ≠ some none)
  (hg : ∀ b, g = some b → own b = some (r0, []))
  (hgr : Grew w w' g g' inp) (hheap : w'.heap[g']? = some (.cells arr' e' (0, 0)))
  (hlen : R0.cs.length + newsD.length ≤ arr'.size) (hxl : xs.length = R0.cs.length)
  (hx : ∀ i, i < xs.length → arr'[i]? = xs[i]?) (hn : ∀ j, j < news.length → arr'[xs.length + j]? = news[j]?) (hnl : news.length = newsD.length)
  (hxs : ∀ (i : Nat) d v, R0.cs[i]? = some d → xs[i]? = some v → Tr w (okb w own) own (r0, [i]) d v)
  (hnews : ∀ (j : Nat) d v, newsD[j]? = some d → news[j]? = some v → if cons then Tr w (okb w own) own (r2, [j]) d v else d.notOwn = true ∧ Sh w (okb w own) d v) :
  ∃ own', Sim w0 env (fun r => if r = nr then some (some ⟨false, sz, R0.cs ++ newsD⟩) else if r = r0 ∨ (cons = true ∧ r = r2 ∧ rt r ≠ none) then some none else rt r) tm w' own' ∧ own' g' = some (nr, []) := by
 have hlab : ∀ b l, own b = some l → l.1 ≠ nr := fun b l h e => by
  obtain ⟨r, p⟩ := l; obtain ⟨_, _, hR⟩ := hs.lab b r p h; simp only at e; rw [e] at hR; exact hR hnr
 have hlt : ∀ b l, own b = some l → b < w.heap.size := fun b l h => by obtain ⟨r, p⟩ := l; exact (hs.lab b r p h).2.1
 have hg'lab : ∀ l, own g' = some l → l = (r0, []) ∧ inp = true := fun l h => by
  cases hinp : inp with
  | true =>
   have := hgr.at_; rw [hinp] at this; simp only [if_true] at this
   have h2 := hg g' this
   rw [h2] at h; cases h; exact ⟨rfl, rfl⟩
  | false =>
   have := hgr.at_; rw [hinp] at this; simp only [Bool.false_eq_true, if_false] at this
   have := hlt g' l h; omega
 let own' : Nat → Option Lab := fun b => if b = g' then some (nr, []) else (own b).bind (iL r0 r2 nr R0.cs.length cons inp)
 let rt' : RT := fun r => if r = nr then some (some ⟨false, sz, R0.cs ++ newsD⟩) else if r = r0 ∨ (cons = true ∧ r = r2 ∧ rt r ≠ none) then some none else rt r
 have ho : ∀ b r p, own' b = some (r, p) → (b = g' ∧ r = nr ∧ p = []) ∨ (b ≠ g' ∧ ∃ l, own b = some l ∧ iL r0 r2 nr R0.cs.length cons inp l = some (r, p)) := by
  intro b r p h
  simp only [own'] at h
  split at h
  ·rename_i e; cases h; exact .inl ⟨e, rfl, rfl⟩
  ·rename_i e
   cases hb : own b with
   | none => rw [hb] at h; cases h
   | some l => rw [hb] at h; exact .inr ⟨e, l, rfl, h⟩
 have hlive : ∀ r R', rt r ≠ none → rt' r = some (some R') → rt r = some (some R') ∧ r ≠ nr ∧ r ≠ r0 ∧ ¬ (cons = true ∧ r = r2) := by
  intro r R' h0 h
  simp only [rt'] at h
  split at h
  ·rename_i e; rw [e, hnr] at h0; exact absurd rfl h0
  ·rename_i e
   split at h
   ·cases h
   ·rename_i e2; exact ⟨h, e, fun e3 => e2 (.inl e3), fun e3 => e2 (.inr ⟨e3.1, e3.2, h0⟩)⟩
 have hkeep : ∀ r, r ≠ nr → r ≠ r0 → ¬ (cons = true ∧ r = r2) → ∀ b p, own b = some (r, p) ↔ own' b = some (r, p) := by
  intro r h1 h2 h3 b p
  constructor
  ·intro h
   have hb : b ≠ g' := fun e => by subst e; have := (hg'lab _ h).1; cases this; exact h2 rfl
   simp only [own', if_neg hb, h, Option.bind_some]
   exact Akp h2 h3
  ·intro h
   rcases ho b r p h with ⟨_, e, _⟩ | ⟨_, l, hl, hr⟩
   ·exact absurd e h1
   ·rw [(xS hr h1).1] at hl; exact hl
 have hsame : ∀ b r p, own b = some (r, p) → (r, p) ≠ (r0, []) → w'.heap[b]? = w.heap[b]? := fun b r p h hne =>
  hgr.other b (hlt b _ h) (fun e => by subst e; exact hne (hg'lab _ h).1)
 have hlow : ¬ w0.prot g' := by
  cases hinp : inp with
  | true =>
   have := hgr.at_; rw [hinp] at this; simp only [if_true] at this
   exact fun hp => hd0 ((hs.lab g' _ _ (hg g' this)).1 hp)
  | false =>
   have := hgr.at_; rw [hinp] at this; simp only [Bool.false_eq_true, if_false] at this
   have h1 := hs.below.size
   exact fun hp => by have := w0.hp g' hp; omega
 have hfr : Fr w (okb w own) own rt w' (okb w' own') own' rt' := by
  refine ⟨fun b hk => ?_, fun r h => ?_, fun r R' h0 h => ⟨R', (hlive r R' h0 h).1⟩, fun r R R' h0 h b p _ => ?_, fun r R R' p h0 h1 hp => by
   have := (hlive r R' (by rw [h0]; simp) h1).1; rw [h0] at this; cases this; exact hp, fun r R' b p arr e h0 h1 h2 h3 => ?_⟩
  ·have hb : b ≠ g' := fun e => by
    cases hinp : inp with
    | true =>
     have := hgr.at_; rw [hinp] at this; simp only [if_true] at this
     have := hg g' this; rw [← e, hk.1] at this; cases this
    | false =>
     have := hgr.at_; rw [hinp] at this; simp only [Bool.false_eq_true, if_false] at this
     have := hk.2; omega
   refine ⟨⟨?_, Nat.lt_of_lt_of_le hk.2 hgr.size⟩, hgr.other b hk.2 hb⟩
   simp only [own', if_neg hb, hk.1, Option.bind_none]
  ·simp only [rt']; split
   ·simp
   ·split
    ·simp
    ·exact h
  ·obtain ⟨_, h1, h2, h3⟩ := hlive r R' (by rw [h0]; simp) h
   exact hkeep r h1 h2 h3 b p
  ·obtain ⟨_, k1, k2, k3⟩ := hlive r R' h0 h1
   exact ⟨arr, by rw [hsame b r p h2 (fun e => k2 (by cases e; rfl))]; exact h3, rfl⟩
 have hbel : Kept w0.prot w0 w' := by
  refine ⟨hgr.os.trans hs.below.os, hgr.tape.trans hs.below.tape, hgr.output.trans hs.below.output, Nat.le_trans hs.below.size hgr.size, fun b hb => ?_⟩
  rw [hgr.other b (Nat.lt_of_lt_of_le (w0.hp b hb) hs.below.size) (fun e => hlow (e ▸ hb))]
  exact hs.below.block b hb
 have hdd : ∀ b r p, own b = some (r, p) → rt r = some none → own' b = some (r, p) := fun b r p h hd => by
  have h1 : r ≠ nr := fun e => by rw [e, hnr] at hd; cases hd
  exact (hkeep r h1 (fun e => hd0 (e ▸ hd)) (fun e => hd2 e.1 (e.2 ▸ hd)) b p).1 h
 refine ⟨own', hs.change hfr hbel (fun r R hR => ?_) (fun b r p h => ?_) (fun b b' l h h' => ?_) hdd, by simp [own']⟩
 ·by_cases hrn : r = nr
  ·have hRe : R = ⟨false, sz, R0.cs ++ newsD⟩ := by
    simp only [hrn, if_true] at hR; cases hR; rfl
   subst hRe
   rw [hrn]
   refine .inl ⟨g', arr', e', by simp [own'], hheap, by simpa using hlen, fun i d v hi hv => ?_⟩
   unfold bX
   simp only [Bool.false_eq_true, if_false]
   simp only at hi
   by_cases hik : i < R0.cs.length
   ·rw [List.getElem?_append_left hik] at hi
    rw [hx i (by omega)] at hv
    refine (hxs i d v hi hv).relab (nr, [i]) hfr.ok (fun b q hq => ?_) (fun b q hq => ?_)
    ·simp only [List.singleton_append] at hq ⊢
     have hb : b ≠ g' := fun e => by subst e; have := (hg'lab _ hq).1; cases this
     refine ⟨?_, hsame b _ _ hq (by simp)⟩
     simp only [own', if_neg hb, hq, Option.bind_some, iL, if_true, if_pos hik]
    ·simp only [List.singleton_append] at hq ⊢
     rcases ho b _ _ hq with ⟨_, _, e⟩ | ⟨_, l, hl, hr⟩
     ·cases e
     ·rcases wE (hlab b l hl) hr with ⟨e, _⟩ | ⟨_, j, e, _⟩
      ·rw [e] at hl; exact hl
      ·omega
   ·rw [List.getElem?_append_right (by omega)] at hi
    have hjl : i - R0.cs.length < newsD.length := (List.getElem?_eq_some_iff.1 hi).1
    have hv' : news[i - R0.cs.length]? = some v := by
     rw [← hn (i - R0.cs.length) (by omega), ← hv]; congr 1; omega
    have hcase := hnews _ d v hi hv'
    cases hc : cons with
    | false =>
     rw [hc] at hcase
     simp only [Bool.false_eq_true, if_false] at hcase
     exact .sh _ d v hcase.1 (hcase.2.frame hfr.ok)
    | true =>
     rw [hc] at hcase
     simp only [if_true] at hcase
     refine hcase.relab (nr, [i]) hfr.ok (fun b q hq => ?_) (fun b q hq => ?_)
     ·simp only [List.singleton_append] at hq ⊢
      have hb : b ≠ g' := fun e => by subst e; have := (hg'lab _ hq).1; cases this
      refine ⟨?_, hsame b _ _ hq (by simp)⟩
      simp only [own', if_neg hb, hq, Option.bind_some, iL, if_neg (hr2 hc), hc, true_and, if_true]
      congr 3
      omega
     ·simp only [List.singleton_append] at hq ⊢
      rcases ho b _ _ hq with ⟨_, _, e⟩ | ⟨_, l, hl, hr⟩
      ·cases e
      ·rcases wE (hlab b l hl) hr with ⟨_, e⟩ | ⟨_, j, e, e2⟩
       ·omega
       ·rw [e2] at hl
        have : j = i - R0.cs.length := by omega
        rw [this] at hl; exact hl
  ·have h0 : rt r ≠ none := by
    intro e
    simp only [if_neg hrn] at hR
    split at hR
    ·cases hR
    ·rw [e] at hR; cases hR
   obtain ⟨k0, k1, k2, k3⟩ := hlive r R h0 hR
   refine (hs.roots r R k0).frame hfr (fun b p hp => ⟨(hkeep r k1 k2 k3 b p).1 hp, hsame b r p hp (fun e => k2 (by cases e; rfl))⟩) (fun b p hp => (hkeep r k1 k2 k3 b p).2 hp)
 ·rcases ho b r p h with ⟨e, e1, e2⟩ | ⟨hb, l, hl, hr⟩
  ·refine ⟨fun hp => absurd hp (by rw [e]; exact hlow), ?_, by simp only [rt', e1, if_true]; simp⟩
   rw [e]
   exact (Array.getElem?_eq_some_iff.1 hheap).1
  ·obtain ⟨ra, pa⟩ := l
   obtain ⟨h1, h2, h3⟩ := hs.lab b ra pa hl
   by_cases hrn : r = nr
   ·refine ⟨fun hp => ?_, Nat.lt_of_lt_of_le h2 hgr.size, by simp only [rt', hrn, if_true]; simp⟩
    have hx := h1 hp
    subst hrn
    cases p with
    | nil =>
     have := (wY (hlab b _ hl) hr).1
     cases this
     exact absurd hx hd0
    | cons i q =>
     rcases wE (hlab b _ hl) hr with ⟨e1, _⟩ | ⟨hc, j, _, e1⟩
     ·have e2 : ra = r0 := congrArg Prod.fst e1
      rw [e2] at hx; exact absurd hx hd0
     ·have e2 : ra = r2 := congrArg Prod.fst e1
      rw [e2] at hx; exact absurd hx (hd2 hc)
   ·obtain ⟨e1, e2, e3⟩ := xS hr hrn
    cases e1
    exact ⟨fun hp => hfr.dead (h1 hp), Nat.lt_of_lt_of_le h2 hgr.size, hfr.alive _ h3⟩
 ·obtain ⟨r, p⟩ := l
  rcases ho b r p h with ⟨e, e1, e2⟩ | ⟨hb, l, hl, hr⟩ <;> rcases ho b' r p h' with ⟨e', e1', e2'⟩ | ⟨hb', l', hl', hr'⟩
  ·rw [e, e']
  ·subst e1; subst e2
   have := wY (hlab b' l' hl') hr'
   have hi := hgr.at_
   rw [this.2] at hi; simp only [if_true] at hi
   rw [this.1] at hl'
   exact absurd (hs.inj b' g' _ hl' (hg g' hi)) hb'
  ·subst e1'; subst e2'
   have := wY (hlab b l hl) hr
   have hi := hgr.at_
   rw [this.2] at hi; simp only [if_true] at hi
   rw [this.1] at hl
   exact absurd (hs.inj b g' _ hl (hg g' hi)) hb
  ·have := Aov (hlab b l hl) (hlab b' l' hl') hr hr'
   subst this
   exact hs.inj b b' l hl hl'
end Go.Vm
namespace Go.Vm
open Go Go.RowKit
inductive Ty where
 | int (k : IntKind) | bool | string | slice (e : Nat) | struct (fs : List (Nat × Nat)) | arr (n e : Nat) | ptr (e : Nat) | other
 deriving Inhabited
structure TyI where
 ty : Ty
 size : Nat
 bytes : Nat
 zero : Value
 deriving Inhabited
abbrev Tab := List TyI
def Ty.ofDesc : TypeDesc → Ty
 | .int k => .int k
 | .bool => .bool
 | .string => .string
 | .slice e => .slice e
 | .struct fs => .struct (fs.toList.map fun f => (f.offset, f.type))
 | .array n e => .arr n e
 | .pointer e => .ptr e
 | _ => .other
def Ty.agg : Ty → Bool
 | .struct _ | .arr _ _ => true
 | _ => false
def yV (P : Program) (t : Nat) : Option TyI :=
 match P.info? t, P.underlying t with
 | some i, some d => match i.zero with
  | some z => some ⟨Ty.ofDesc d, i.size, i.bytes, z⟩
  | none => none
 | _, _ => none
def TabOk (P : Program) (T : Tab) : Prop := ∀ t i, T[t]? = some i → i.size ≠ 0 → yV P t = some i
def uD (P : Program) : Nat → Tab → Prop
 | _, [] => True
 | t, i :: r => (i.size = 0 ∨ yV P t = some i) ∧ uD P (t + 1) r
theorem uD.ok {P : Program} : ∀ (T : Tab) (n : Nat), uD P n T → ∀ t i, T[t]? = some i → i.size ≠ 0 → yV P (n + t) = some i
 | [], _, _, t, i, h, _ => by simp at h
 | j :: r, n, ha, 0, i, h, hs => by
  simp only [List.getElem?_cons_zero, Option.some.injEq] at h
  subst h
  exact ha.1.resolve_left hs
 | j :: r, n, ha, t + 1, i, h, hs => by
  have := uD.ok r (n + 1) ha.2 t i (by simpa using h) hs
  rw [show n + (t + 1) = n + 1 + t by omega]
  exact this
theorem TabOk.of {P : Program} {T : Tab} (h : uD P 0 T) : TabOk P T := fun t i h1 h2 => by simpa using uD.ok T 0 h t i h1 h2
def Tab.get (T : Tab) (t : Nat) : TyI := T.getD t ⟨.other, 0, 0, .nilFunc⟩
structure Res where
 val : D
 new : List (Option Root) := []
 wr : List (Nat × Option Root) := []
 rd : List Nat := []
def eO (k : IntKind) (n : Int) : Prop := k.wrap n = n
def aM (env : List D) : Operand → D
 | .tmp t => env.getD t .undef
 | .const (.bool b) => .kb b
 | .const v => .lit v
 | .global g => .lit (.pointer (some ⟨g, 0, none⟩))
 | .func f => .fn (.func f) [] []
def D.one : D → Bool
 | .kb _ | .list .. | .cptr .. | .fn .. | .ref .. | .ptr .. => true
 | .lit (.agg _) | .lit (.tuple _) => false
 | .lit _ => true
 | _ => false
def D.cellOk (d : D) : Bool := d.notOwn && d.one
def D.cells : D → Option (List D)
 | .agg ds => if ds.all D.one then some ds else none
 | .tup _ | .undef => none
 | d => if d.one then some [d] else none
def zeroCells (v : Value) : List D := v.cells.toList.map fun
 | .bool b => D.kb b
 | v => .lit v
def cnt (sz : Nat) (cs : List D) : Nat := if sz == 1 then cs.length else cs.length / sz
def sub (cs : List D) (sz off n : Nat) : List D := (cs.drop (off * sz)).take (n * sz)
def lift (r : Nat) (p : List Nat) (i : Nat) : D → D
 | .list true sz cs => .ref r (p ++ [i]) sz 0 (cnt sz cs)
 | d => d
def qV (r : Nat) (p : List Nat) : Nat → List D → List D
 | _, [] => []
 | i, d :: ds => lift r p i d :: qV r p (i + 1) ds
def eK (cs : List D) (p : List Nat) (i : Nat) (d : D) : Prop := ∃ c, bE cs p = some c ∧ c[i]? = some d
def C7 (cs : List D) (p : List Nat) (i n : Nat) (ds : List D) : Prop := ∃ c, bE cs p = some c ∧ (c.drop i).take n = ds ∧ ds.length = n
def jG (cs : List D) (p : List Nat) (i : Nat) (d : D) (cs' : List D) : Prop :=
 ∃ c, bE cs p = some c ∧ i < c.length ∧ (∀ x, c[i]? = some x → x.notOwn = true) ∧ updB cs p (fun l => l.set i d) = cs'
def setMany (cs : List D) : Nat → List D → List D
 | _, [] => cs
 | i, d :: ds => setMany (cs.set i d) (i + 1) ds
def sA (T : Tab) (fs : List (Nat × Nat)) (cells : List D) : List (Nat × D) → Option (List D)
 | [] => some cells
 | (i, d) :: rest => match fs[i]?, d.cells with
  | some (o, t), some cs => if cs.length == (T.get t).size && o + cs.length ≤ cells.length then sA T fs (setMany cells o cs) rest else none
  | _, _ => none
def jL {α β : Type} (f : α → (β → List Nat → Prop) → Prop) : List α → (List β → List Nat → Prop) → Prop
 | [], K => K [] []
 | a :: as, K => f a fun b r => jL f as fun bs rs => K (b :: bs) (r ++ rs)
def eL (rt : RT) : Nat → D → (D → List Nat → Prop) → Prop
 | 0, _, _ => False
 | n + 1, d, K => match d with
  | .undef => False
  | .kb b => K (.lit (.bool b)) []
  | .lit v => K (.lit v) []
  | .list o sz cs => K (.list o sz cs) []
  | .cptr cs off => K (.cptr cs off) []
  | .full _ _ => False
  | .agg ds => jL (eL rt n) ds fun ds rs => K (.agg ds) rs
  | .tup _ => False
  | .fn f fs cs => jL (eL rt n) fs fun fs rs => jL (eL rt n) cs fun cs rs' => K (.fn f fs cs) (rs ++ rs')
  | .ref r p sz off m => match rt r with
   | some (some R) => R.box = false ∧ ∃ c, bE R.cs p = some c ∧ (off + m) * sz ≤ c.length ∧ ∃ c', sub c sz off m = c' ∧ K (.list false sz c') [r]
   | _ => False
  | .ptr r p off => match rt r with
   | some (some R) => if R.box then p = [] ∧ jL (eL rt n) R.cs fun cs rs => K (.cptr cs off) (r :: rs)
    else ∃ c, bE R.cs p = some c ∧ K (.cptr c off) [r]
   | _ => False
def sE (n : Nat) : D → D × Option Root
 | .list true sz cs => (.ref n [] sz 0 (cnt sz cs), some ⟨false, sz, cs⟩)
 | d => (d, none)
def nO (n : Nat) : List D → List D × List (Option Root)
 | [] => ([], [])
 | d :: ds => let a := sE n d; let b := nO (n + 1) ds; (a.1 :: b.1, a.2 :: b.2)
def openC (n : Nat) : D → D × List (Option Root)
 | .agg ds => let a := nO n ds; (.agg a.1, a.2)
 | d => let a := sE n d; (a.1, [a.2])
def oF (n : Nat) : List D → List D × List (Option Root)
 | [] => ([], [])
 | d :: ds => let a := openC n d; let b := oF (n + a.2.length) ds; (a.1 :: b.1, a.2 ++ b.2)
def dL (n : Nat) : D → D × List (Option Root)
 | .tup ds => let a := oF n ds; (.tup a.1, a.2)
 | d => openC n d
def gL (n : Nat) (l : List (Option Root)) : RT := fun r => if n ≤ r then l[r - n]? else none
end Go.Vm
namespace Go.Vm
open Go Go.RowKit
def xV (P : Program) (f : FuncId) (args : Array Value) (w : World) (R : Value → World → Prop) : Prop :=
 (∃ fn, P.funcs[f]? = some fn ∧ (fn.name == "runtime.NumGoroutine") = false ∧ fn.body.isNone = false ∧
  Calls P f args w (fun e w' => ∃ v, e = .returned v ∧ R v w')) ∨
 (∃ v w', (callFunc f args).run P w = .ok (.value v) w' ∧ R v w')
def xA (w w' : World) (own : Nat → Option Lab) (b : Nat) : Prop := own b = none ∧ w.heap.size ≤ b ∧ b < w'.heap.size
def mC (w w' : World) (n : Nat) (rs : D) (v : Value) : Prop :=
 ∃ own : Nat → Option Lab,
  (∀ b r p, own b = some (r, p) → w.heap.size ≤ b ∧ b < w'.heap.size ∧ ∃ R, gL n (dL n rs).2 r = some (some R)) ∧
  (∀ b b' l, own b = some l → own b' = some l → b = b') ∧
  (∀ r R, gL n (dL n rs).2 r = some (some R) → R.box = false ∧ kE w' (xA w w' own) own (gL n (dL n rs).2) r R) ∧
  Mt w' (xA w w' own) own (gL n (dL n rs).2) (dL n rs).1 v
def aL (P : Program) (f : FuncId) (args : List D) (rs : D) : Prop :=
 ∀ (w : World) (vals : Array Value) (n : Nat), vals.size = args.length →
  (∀ (i : Nat) d v, args[i]? = some d → vals[i]? = some v → Sh w (fun b => b < w.heap.size) d v) →
  xV P f vals w (fun v w' => Below w.heap.size w w' ∧ mC w w' n rs v)
def Akg (P : Program) (f : FuncId) (args : List D) (rs : D) : Prop :=
 ∀ (w : World) (vals : Array Value) (ok : Nat → Prop), (∀ b, ok b → b < w.heap.size) → vals.size = args.length →
  (∀ (i : Nat) d v, args[i]? = some d → vals[i]? = some v → Sh w ok d v) →
  xV P f vals w (fun v w' => Below w.heap.size w w' ∧ Sh w' (fun b => ok b ∨ (w.heap.size ≤ b ∧ b < w'.heap.size)) rs v)
def chk (b : Bool) (p : Prop) : Prop := match b with
 | true => p
 | false => False
theorem aO {b : Bool} {p : Prop} (h : chk b p) : b = true ∧ p := by cases b <;> simp_all [chk]
def vQ : IntKind → IntKind → Bool
 | .i64, .i64 | .i32, .i32 | .i16, .i16 | .i8, .i8 | .u64, .u64 | .u32, .u32 | .u16, .u16 | .u8, .u8 => true
 | _, _ => false
theorem U2 {k k' : IntKind} (h : vQ k k' = true) : k = k' := by cases k <;> cases k' <;> simp_all [vQ]
def Ad4 : IntKind → Bool
 | .u64 => true
 | _ => false
def gH (k : IntKind) (n : Int) (K : Res → Prop) : Prop := match Ad4 k with
 | true => K { val := .lit (.int k (k.wrap n)) }
 | false => eO k n ∧ K { val := .lit (.int k n) }
theorem K7 {k : IntKind} {n : Int} {K : Res → Prop} (h : gH k n K) : K { val := .lit (.int k (k.wrap n)) } := by
 unfold gH at h
 split at h
 ·exact h
 ·unfold eO at h
  rw [h.1]; exact h.2
def nY (p : Prop) (K : Res → Prop) : Prop := (p → K { val := .kb true }) ∧ (¬ p → K { val := .kb false })
def Ty.isBool : Ty → Bool
 | .bool => true
 | _ => false
def qF (T : Tab) (t : Nat) (op : BinOp) (x y : D) (K : Res → Prop) : Prop :=
 match x, y with
 | .lit (.int k a), .lit (.int k' b) => chk (vQ k k')
   (match op with
   | .add => gH k (a + b) K
   | .sub => gH k (a - b) K
   | .mul => gH k (a * b) K
   | .quo => b ≠ 0 ∧ gH k (a.tdiv b) K
   | .rem => b ≠ 0 ∧ K { val := .lit (.int k (a.tmod b)) }
   | .shr => 0 ≤ b ∧ K { val := .lit (.int k (a.fdiv (2 ^ min b.toNat k.bits))) }
   | .and => K { val := .lit (.int k (k.wrap (BitVec.ofInt k.bits a &&& BitVec.ofInt k.bits b).toNat)) }
   | .eql => nY (a = b) K
   | .neq => nY (a ≠ b) K
   | .lss => nY (a < b) K
   | .leq => nY (a ≤ b) K
   | .gtr => nY (b < a) K
   | .geq => nY (b ≤ a) K
   | _ => False)
 | .kb a, .kb b => chk (!Nat.beq (T.get t).size 0 && (T.get t).ty.isBool)
   (match op with
   | .eql => K { val := .kb (a == b) }
   | .neq => K { val := .kb (a != b) }
   | _ => False)
 | _, _ => False
def tH (op : UnOp) (x : D) (K : Res → Prop) : Prop :=
 match op, x with
 | .neg, .lit (.int k a) => gH k (0 - a) K
 | .not, .kb b => K { val := .kb (!b) }
 | _, _ => False
def sL (T : Tab) (src dst : Nat) (x : D) (K : Res → Prop) : Prop :=
 chk (!Nat.beq (T.get src).size 0 && !Nat.beq (T.get dst).size 0) (match (T.get dst).ty, x with
  | .int k, .lit (.int _ n) => gH k n K
  | _, _ => False)
def kR (T : Tab) (e sz : Nat) : Bool := Nat.beq (T.get e).size sz && !Nat.beq sz 0
def pU (T : Tab) (rt : RT) (t : Nat) (x : D) (lo hi mx : Option D) (K : Res → Prop) : Prop :=
 match (T.get t).ty, x with
 | .slice e, .ref r p sz off n => chk (kR T e sz && !Nat.beq (T.get t).size 0) (match rt r with
  | some (some _) => (match lo, hi, mx with
   | none, some (.lit (.int .i64 h)), none => (0 ≤ h ∧ h ≤ n) ∧ K { val := .ref r p sz off h.toNat, rd := [r] }
   | some (.lit (.int .i64 l)), none, none => (0 ≤ l ∧ l ≤ n) ∧ K { val := .ref r p sz (off + l.toNat) (n - l.toNat), rd := [r] }
   | some (.lit (.int .i64 l)), some (.lit (.int .i64 h)), none => (0 ≤ l ∧ l ≤ h ∧ h ≤ n) ∧ K { val := .ref r p sz (off + l.toNat) (h.toNat - l.toNat), rd := [r] }
   | _, _, _ => False)
  | _ => False)
 | .slice e, .list o sz cs => chk (kR T e sz && !Nat.beq (T.get t).size 0) (match lo, hi, mx with
   | none, some (.lit (.int .i64 h)), none => (0 ≤ h ∧ h ≤ (cnt sz cs : Nat)) ∧ ∃ cs', sub cs sz 0 h.toNat = cs' ∧ K { val := .list o sz cs' }
   | some (.lit (.int .i64 l)), none, none => (0 ≤ l ∧ l ≤ (cnt sz cs : Nat)) ∧ ∃ cs', sub cs sz l.toNat (cnt sz cs - l.toNat) = cs' ∧ K { val := .list o sz cs' }
   | some (.lit (.int .i64 l)), some (.lit (.int .i64 h)), none => (0 ≤ l ∧ l ≤ h ∧ h ≤ (cnt sz cs : Nat)) ∧ ∃ cs', sub cs sz l.toNat (h.toNat - l.toNat) = cs' ∧ K { val := .list o sz cs' }
   | none, some (.lit (.int .i64 h)), some (.lit (.int .i64 m)) => (0 ≤ h ∧ m = h ∧ h ≤ (cnt sz cs : Nat)) ∧ ∃ cs', sub cs sz 0 h.toNat = cs' ∧ K { val := .full sz cs' }
   | _, _, _ => False)
 | _, _ => False
def uQ (T : Tab) (s f : Nat) : Option (Nat × TyI) :=
 match (T.get s).ty with
 | .struct fs => match fs[f]? with
  | some (o, t) => some (o, T.get t)
  | none => none
 | _ => none
def pE (T : Tab) (rt : RT) (s : Nat) (x : D) (f : Nat) (K : Res → Prop) : Prop :=
 chk (!Nat.beq (T.get s).size 0) (match uQ T s f, x with
 | some (o, ti), .ptr r p off => chk (!Nat.beq ti.size 0) (match rt r with
  | some (some _) => K { val := .ptr r p (off + o), rd := [r] }
  | _ => False)
 | some (o, ti), .cptr cs off => chk (!Nat.beq ti.size 0) (K { val := .cptr cs (off + o) })
 | _, _ => False)
def uH (T : Tab) (s : Nat) (x : D) (f : Nat) (K : Res → Prop) : Prop :=
 chk (!Nat.beq (T.get s).size 0) (match uQ T s f, x with
 | some (o, ti), .agg ds => chk (!Nat.beq ti.size 0) (match ti.ty.agg with
  | true => chk (Nat.ble (o + ti.size) ds.length) (K { val := .agg ((ds.drop o).take ti.size) })
  | false => match ds[o]? with
   | some d => K { val := d }
   | none => False)
 | _, _ => False)
def place (sz off j : Nat) : Nat := match sz with
 | 1 => off + j
 | sz => (off + j) * sz
theorem Aeq (sz off j : Nat) : place sz off j = (off + j) * sz := by
 unfold place; split
 ·simp
 ·rfl
def jO (T : Tab) (rt : RT) (t : Nat) (x i : D) (K : Res → Prop) : Prop :=
 chk (!Nat.beq (T.get t).size 0) (match (T.get t).ty, x, i with
 | .slice e, .ref r p sz off n, .lit (.int _ j) => chk (kR T e sz) (match rt r with
  | some (some _) => (0 ≤ j ∧ j < n) ∧ K { val := .ptr r p (place sz off j.toNat), rd := [r] }
  | _ => False)
 | .slice e, .list _ sz cs, .lit (.int _ j) => chk (kR T e sz) ((0 ≤ j ∧ j < (cnt sz cs : Nat)) ∧ K { val := .cptr cs (place sz 0 j.toNat) })
 | _, _, _ => False)
def eJ (T : Tab) (rt : RT) (t : Nat) (a : D) (K : Res → Prop) : Prop :=
 chk (!Nat.beq (T.get t).size 0) (match a with
 | .ptr r p off => match rt r with
  | some (some R) => (match R.box with
   | true => (match p with
    | [] => (match (T.get t).ty.agg with
     | true => chk (Nat.ble (off + (T.get t).size) R.cs.length) (K { val := .agg ((R.cs.drop off).take (T.get t).size), rd := [r] })
     | false => match R.cs[off]? with
      | some d => K { val := d, rd := [r] }
      | none => False)
    | _ => False)
   | false => (match (T.get t).ty.agg with
    | true => ∃ ds, C7 R.cs p off (T.get t).size ds ∧ K { val := .agg (qV r p off ds), rd := [r] }
    | false => ∃ d, eK R.cs p off d ∧ K { val := lift r p off d, rd := [r] }))
  | _ => False
 | .cptr cs off => (match (T.get t).ty.agg with
  | true => ∃ ds, (cs.drop off).take (T.get t).size = ds ∧ ds.length = (T.get t).size ∧ K { val := .agg ds }
  | false => ∃ d, cs[off]? = some d ∧ K { val := d })
 | _ => False)
def fB (T : Tab) (rt : RT) (t : Nat) (a x : D) (K : Res → Prop) : Prop :=
 chk (!Nat.beq (T.get t).size 0) (match a with
 | .ptr r p off => match rt r with
  | some (some R) => (match R.box with
   | true => (match p, x.cells with
    | [], some ds => chk (Nat.beq ds.length (T.get t).size && Nat.ble (off + ds.length) R.cs.length) (K { val := .undef, wr := [(r, some { R with cs := setMany R.cs off ds })], rd := [r] })
    | _, _ => False)
   | false => chk (Nat.beq (T.get t).size 1) (match x with
    | .lit v => chk (D.one (.lit v)) (∃ cs', jG R.cs p off (.lit v) cs' ∧ K { val := .undef, wr := [(r, some { R with cs := cs' })], rd := [r] })
    | .kb b => ∃ cs', jG R.cs p off (.lit (.bool b)) cs' ∧ K { val := .undef, wr := [(r, some { R with cs := cs' })], rd := [r] }
    | .list false sz' c' => ∃ cs', jG R.cs p off (.list false sz' c') cs' ∧ K { val := .undef, wr := [(r, some { R with cs := cs' })], rd := [r] }
    | .ref r' p' sz' off' m' => chk (!Nat.beq sz' 0 && !Nat.beq r r') (match p, p', off', rt r' with
     | [], [], 0, some (some R') => chk (!R'.box) (m' * sz' = R'.cs.length ∧ off < R.cs.length ∧ (∀ d, R.cs[off]? = some d → d.notOwn = true) ∧ ∃ cs', R.cs.set off (.list true sz' R'.cs) = cs' ∧ K { val := .undef, wr := [(r', none), (r, some { R with cs := cs' })], rd := [r, r'] })
     | _, _, _, _ => False)
    | _ => False))
  | _ => False
 | _ => False)
def mK (T : Tab) (rt : RT) (t : Nat) (x : D) (K : Res → Prop) : Prop :=
 chk (!Nat.beq (T.get t).size 0) (match (T.get t).ty, x with
 | .slice _, .ref r _ _ _ n => (match rt r with
  | some (some _) => K { val := .lit (.int .i64 n), rd := [r] }
  | _ => False)
 | .slice _, .list _ sz cs => chk (!Nat.beq sz 0) (K { val := .lit (.int .i64 (cnt sz cs)) })
 | .slice _, .lit (.slice none 0 0) => K { val := .lit (.int .i64 0) }
 | .string, .lit (.string s) => K { val := .lit (.int .i64 s.size) }
 | _, _ => False)
def V0 : Ty → Bool
 | .int _ | .bool | .string => true
 | _ => false
def jQ (T : Tab) (rt : RT) (e : Nat) (r0 : Option Nat) (x : D) (K : Nat → List D → Option Nat → List Nat → Prop) : Prop :=
 match x with
 | .lit (.slice none 0 0) => K 0 [] none []
 | .list _ sz cs => chk (kR T e sz) ((∀ d ∈ cs, d.cellOk = true) ∧ K (cnt sz cs) cs none [])
 | .ref r p sz off m => chk (kR T e sz && !(match r0 with | some r0 => Nat.beq r0 r | none => false)) (match rt r with
  | some (some R) => chk (!R.box) (match V0 (T.get e).ty with
   | true => ∃ c, bE R.cs p = some c ∧ (off + m) * sz ≤ c.length ∧ ∃ c', sub c sz off m = c' ∧ (∀ d ∈ c', d.cellOk = true) ∧ K m c' none [r]
   | false => (match p, off with
    | [], 0 => m * sz = R.cs.length ∧ (∀ d ∈ R.cs, d.one = true) ∧ K m R.cs (some r) [r]
    | _, _ => False))
  | _ => False)
 | _ => False
def gA (n bytes : Nat) : Prop := n * bytes ≤ 140737488355328 ∧ n ≤ 140737488355328
def uF : Nat → (Nat → Prop) → Prop
 | 0, k => k 0
 | n + 1, k => uF n fun m => k (m + 1)
def Acy (ik : IntKind) (k : IntKind → Prop) : Prop :=
 match ik with
 | .i64 => k .i64 | .i32 => k .i32 | .i16 => k .i16 | .i8 => k .i8 | .u64 => k .u64 | .u32 => k .u32 | .u16 => k .u16 | .u8 => k .u8
def wL (v : Value) (k : Value → Prop) : Prop :=
 match v with
 | .int ik n => Acy ik fun ik => k (.int ik n)
 | .bool b => k (.bool b)
 | v => k v
def H2 (d : D) (k : D → Prop) : Prop :=
 match d with
 | .undef => k .undef
 | .kb b => k (.kb b)
 | .lit v => wL v fun v => k (.lit v)
 | .list o sz cs => k (.list o sz cs)
 | .cptr cs off => k (.cptr cs off)
 | .full sz cs => k (.full sz cs)
 | .agg ds => k (.agg ds)
 | .tup ds => k (.tup ds)
 | .fn f fs cs => k (.fn f fs cs)
 | .ref r p sz off n => k (.ref r p sz off n)
 | .ptr r p off => k (.ptr r p off)
def rC : List D → (List D → Prop) → Prop
 | [], k => k []
 | d :: ds, k => H2 d fun d => rC ds fun ds => k (d :: ds)
def zD (d : D) (k : D → Prop) : Prop :=
 match d with
 | .undef => k .undef
 | .kb b => k (.kb b)
 | .lit v => wL v fun v => k (.lit v)
 | .list o sz cs => k (.list o sz cs)
 | .cptr cs off => k (.cptr cs off)
 | .full sz cs => k (.full sz cs)
 | .agg ds => rC ds fun ds => k (.agg ds)
 | .tup ds => rC ds fun ds => k (.tup ds)
 | .fn f fs cs => rC fs fun fs => rC cs fun cs => k (.fn f fs cs)
 | .ref r p sz off n => k (.ref r p sz off n)
 | .ptr r p off => k (.ptr r p off)
def tU : List D → (List D → Prop) → Prop
 | [], k => k []
 | d :: ds, k => zD d fun d => tU ds fun ds => k (d :: ds)
theorem lA : ∀ (n : Nat) (k : Nat → Prop), uF n k = k n
 | 0, _ => rfl
 | n + 1, k => by simp only [uF, lA n]
theorem Ah9 (ik : IntKind) (k : IntKind → Prop) : Acy ik k = k ik := by cases ik <;> rfl
theorem H8 (v : Value) (k : Value → Prop) : wL v k = k v := by cases v <;> simp only [wL, Ah9]
theorem Aln (d : D) (k : D → Prop) : H2 d k = k d := by cases d <;> simp only [H2, H8]
theorem W6 : ∀ (ds : List D) (k : List D → Prop), rC ds k = k ds
 | [], _ => rfl
 | d :: ds, k => by simp only [rC, Aln, W6 ds]
theorem Aco (d : D) (k : D → Prop) : zD d k = k d := by cases d <;> simp only [zD, H8, W6]
theorem qS : ∀ (ds : List D) (k : List D → Prop), tU ds k = k ds
 | [], _ => rfl
 | d :: ds, k => by simp only [tU, Aco, qS ds]
def xD (n : Nat) (k : Nat → Prop) : Prop := match n with
 | 1 => k 1
 | n => k n
theorem lQ (n : Nat) (k : Nat → Prop) : xD n k = k n := by
 unfold xD; split <;> rfl
def gO (n : Nat) : List D → List D
 | [d] => List.replicate n d
 | ds => (List.replicate n ds).flatten
def nP (T : Tab) (rt : RT) (n : Nat) (t t' : Nat) (s x : D) (K : Res → Prop) : Prop :=
 chk (Nat.beq t t' && !Nat.beq (T.get t).size 0) (match (T.get t).ty with
 | .slice e => chk (!Nat.beq (T.get e).size 0 && Nat.beq (zeroCells (T.get e).zero).length (T.get e).size) (match s with
  | .lit (.slice none 0 0) => jQ T rt e none x fun m news c rd => gA m (T.get e).bytes ∧
    xD (T.get e).size fun sz => K { val := .ref (n + 1) [] sz 0 m, new := [none, some ⟨false, sz, news⟩], wr := c.toList.map (·, none), rd }
  | .full sz cs => chk (kR T e sz) ((∀ d ∈ cs, d.cellOk = true) ∧ jQ T rt e none x fun m news c rd => chk c.isNone ((0 < m ∧ gA (cnt sz cs + m) (T.get e).bytes) ∧
    ∃ cs', cs ++ news = cs' ∧ K { val := .ref (n + 1) [] sz 0 (cnt sz cs + m), new := [none, some ⟨false, sz, cs'⟩], rd }))
  | .ref r p sz off m0 => chk (kR T e sz) (match p, off, rt r with
   | [], 0, some (some R) => chk (!R.box) (m0 * sz = R.cs.length ∧ jQ T rt e (some r) x fun m news c rd => gA (m0 + m) (T.get e).bytes ∧
     ∃ cs', R.cs ++ news = cs' ∧ K { val := .ref n [] sz 0 (m0 + m), new := [some ⟨false, sz, cs'⟩], wr := (r, none) :: c.toList.map (·, none), rd := r :: rd })
   | _, _, _ => False)
  | _ => False)
 | _ => False)
def qI (T : Tab) (rt : RT) (n : Nat) (t t' : Nat) (s : D) (k : Int) (K : Res → Prop) : Prop :=
 chk (!Nat.beq (T.get t).size 0 && !Nat.beq (T.get t').size 0) (match (T.get t).ty, (T.get t').ty with
 | .slice e, .int _ => chk (!Nat.beq (T.get e).size 0 && Nat.beq (zeroCells (T.get e).zero).length (T.get e).size && (T.get e).zero.cells.toList.all Value.oneCell') (match s with
  | .ref r p sz off m0 => chk (kR T e sz) (match p, off, rt r with
   | [], 0, some (some R) => chk (!R.box) ((m0 * sz = R.cs.length ∧ 0 < k ∧ gA (m0 + k.toNat) (T.get e).bytes) ∧
     ∃ cs', R.cs ++ gO k.toNat (zeroCells (T.get e).zero) = cs' ∧ K { val := .ref n [] sz 0 (m0 + k.toNat), new := [some ⟨false, sz, cs'⟩], wr := [(r, none)], rd := [r] })
   | _, _, _ => False)
  | _ => False)
 | _, _ => False)
def rD (T : Tab) (rt : RT) (t t' : Nat) (s x : D) (K : Res → Prop) : Prop :=
 chk (Nat.beq t t' && !Nat.beq (T.get t).size 0) (match (T.get t).ty, s with
 | .slice e, .ref r p sz off m0 => chk (kR T e sz && Nat.beq sz 1 && V0 (T.get e).ty) (match rt r with
  | some (some R) => chk (!R.box) (jQ T rt e (some r) x fun m news c rd => chk c.isNone (
    ∃ b, bE R.cs p = some b ∧ (off + m0) ≤ b.length ∧ (∀ d ∈ b, d.cellOk = true) ∧
    ∃ cs', updB R.cs p (fun l => l.take off ++ (news.take (min m m0) ++ l.drop (off + min m m0))) = cs' ∧
     K { val := .lit (.int .i64 (min m m0 : Nat)), wr := [(r, some { R with cs := cs' })], rd := r :: rd }))
  | _ => False)
 | _, _ => False)
def sY (T : Tab) (n t : Nat) (l c : D) (K : Res → Prop) : Prop :=
 chk (!Nat.beq (T.get t).size 0) (match (T.get t).ty, l, c with
 | .slice e, .lit (.int .i64 a), .lit (.int .i64 b) => chk (!Nat.beq (T.get e).size 0 && Nat.beq (zeroCells (T.get e).zero).length (T.get e).size) ((0 ≤ a ∧ a ≤ b ∧ gA b.toNat (T.get e).bytes) ∧
   ∃ k, a.toNat = k ∧ xD (T.get e).size fun sz => ∃ cs', gO k (zeroCells (T.get e).zero) = cs' ∧ K { val := .ref n [] sz 0 k, new := [some ⟨false, sz, cs'⟩] })
 | _, _, _ => False)
def vA (x : D) (i : Nat) (K : Res → Prop) : Prop :=
 match x with
 | .tup ds => match ds[i]? with
  | some d => K { val := d }
  | none => False
 | _ => False
def mV (P : Program) (rt : RT) (n : Nat) (f : D) (args : List D) (K : Res → Prop) : Prop :=
 match f with
 | .fn (.func g) fs cs => jL (eL rt 6) (fs ++ args ++ cs) fun ds rd => ∃ rs, aL P g ds rs ∧ K { val := (dL n rs).1, new := (dL n rs).2, rd := rd }
 | _ => False
def Af4 (P : Program) (g : FuncId) : Prop := ∀ (m : Int) (b : Option Addr) (n c : Nat), aL P g [.lit (.int .i64 m), .lit (.slice b n c)] (.agg [.lit (.int .i64 m), .lit (.slice b n c)])
def lI (P : Program) (rt : RT) (f : D) (args : List D) (K : Res → Prop) : Prop :=
 match f with
 | .fn (.func g) [] [] => (match args with
  | [.lit (.int .i64 m), .ref r p sz off k] => (match rt r with
   | some (some _) => Af4 P g ∧ K { val := .agg [.lit (.int .i64 m), .ref r p sz off k], new := [none, none], rd := [r] }
   | _ => False)
  | [.agg [.lit (.int .i64 m), .list o sz cs]] => ∃ rs, Akg P g [.agg [.lit (.int .i64 m), .list o sz cs]] rs ∧ K { val := rs }
  | _ => False)
 | _ => False
def D.plainLit : D → Bool
 | .kb _ => true
 | .lit (.agg _) | .lit (.tuple _) => false
 | .lit _ => true
 | _ => false
def D.plainOr : D → Bool
 | .list _ _ _ => true
 | d => d.plainLit
def D.unown : D → D
 | .list _ sz cs => .list false sz cs
 | d => d
def F2 (parts : List (Nat × D)) : Bool := parts.all fun x => match x.2 with
 | .agg [] => false
 | _ => true
def K0 (len : Nat) (parts : List (Nat × D)) : Option (Nat × List Nat × Nat × Nat × Nat) :=
 match len, parts with
 | 1, [(0, .ref r p sz off m)] => some (r, p, sz, off, m)
 | _, _ => none
theorem Aqm {len : Nat} {parts : List (Nat × D)} {r sz off m : Nat} {p : List Nat} (h : K0 len parts = some (r, p, sz, off, m)) : len = 1 ∧ parts = [(0, .ref r p sz off m)] := by
 unfold K0 at h
 split at h
 ·cases h; exact ⟨rfl, rfl⟩
 ·cases h
def Q7 (len : Nat) (parts : List (Nat × D)) : Option (Value × Nat × List Nat × Nat × Nat × Nat) :=
 match len, parts with
 | 1, [(0, .agg [.lit v, .ref r p sz off m])] => some (v, r, p, sz, off, m)
 | _, _ => none
theorem Ara {len : Nat} {parts : List (Nat × D)} {v : Value} {r sz off m : Nat} {p : List Nat} (h : Q7 len parts = some (v, r, p, sz, off, m)) : len = 1 ∧ parts = [(0, .agg [.lit v, .ref r p sz off m])] := by
 unfold Q7 at h
 split at h
 ·cases h; exact ⟨rfl, rfl⟩
 ·cases h
def K3 (len : Nat) (parts : List (Nat × D)) : Option (Nat × Nat × Nat × Nat × Nat × Nat) :=
 match len, parts with
 | 2, [(0, .ref r1 [] sz1 0 m1), (1, .ref r2 [] sz2 0 m2)] => some (r1, sz1, m1, r2, sz2, m2)
 | _, _ => none
theorem Apg {len : Nat} {parts : List (Nat × D)} {r1 sz1 m1 r2 sz2 m2 : Nat} (h : K3 len parts = some (r1, sz1, m1, r2, sz2, m2)) : len = 2 ∧ parts = [(0, .ref r1 [] sz1 0 m1), (1, .ref r2 [] sz2 0 m2)] := by
 unfold K3 at h
 split at h
 ·cases h; exact ⟨rfl, rfl⟩
 ·cases h
def lK (T : Tab) (rt : RT) (n t len : Nat) (parts : List (Nat × D)) (K : Res → Prop) : Prop :=
 chk (!Nat.beq (T.get t).size 0) (match (T.get t).ty with
 | .slice e => chk (!Nat.beq (T.get e).size 0 && Nat.ble (len * (T.get e).size) 16777216)
  (match K0 len parts with
  | some (r, p, sz, off, m) => chk (Nat.beq (T.get e).size 1 && !Nat.beq sz 0) (match p, off, rt r with
   | [], 0, some (some R) => chk (!R.box) (m * sz = R.cs.length ∧ K { val := .ref n [] 1 0 1, new := [some ⟨false, 1, [.list true sz R.cs]⟩], wr := [(r, none)], rd := [r] })
   | _, _, _ => False)
  | none => match Q7 len parts with
  | some (v, r, p, sz, off, m) => chk (Nat.beq (T.get e).size 2 && !Nat.beq sz 0 && D.one (.lit v) && Nat.beq (zeroCells (T.get e).zero).length 2) (match p, off, rt r with
   | [], 0, some (some R) => chk (!R.box) (m * sz = R.cs.length ∧ K { val := .ref n [] 2 0 1, new := [some ⟨false, 2, [.lit v, .list true sz R.cs]⟩], wr := [(r, none)], rd := [r] })
   | _, _, _ => False)
  | none => match K3 len parts with
  | some (r1, sz1, m1, r2, sz2, m2) => chk (Nat.beq (T.get e).size 1 && !Nat.beq r1 r2) (match rt r1, rt r2 with
   | some (some R1), some (some R2) => chk (!R1.box && !R2.box) (m1 * sz1 = R1.cs.length ∧ m2 * sz2 = R2.cs.length ∧ K { val := .ref n [] 1 0 2, new := [some ⟨false, 1, [.list false sz1 R1.cs, .list false sz2 R2.cs]⟩], wr := [(r1, none), (r2, none)], rd := [r1, r2] })
   | _, _ => False)
  | none => match sA T ((List.range len).map fun i => (i * (T.get e).size, e)) (gO len (zeroCells (T.get e).zero)) parts with
   | some cs => chk (cs.all D.plainOr && Nat.beq (zeroCells (T.get e).zero).length (T.get e).size && F2 parts) (xD (T.get e).size fun sz => tU (cs.map D.unown) fun cs => K { val := .ref n [] sz 0 len, new := [some ⟨false, sz, cs⟩] })
   | none => False)
 | _ => False)
def uR (T : Tab) (t : Nat) (parts : List (Nat × D)) (K : Res → Prop) : Prop :=
 chk (!Nat.beq (T.get t).size 0) (match (T.get t).ty with
  | .struct fs => (match sA T fs (zeroCells (T.get t).zero) parts with
   | some cs => chk (fs.all (fun x => !Nat.beq (T.get x.2).size 0) && F2 parts) (K { val := .agg cs })
   | none => False)
  | _ => False)
def pM (rt : RT) (x : D) (K : Res → Prop) : Prop :=
 match x with
  | .ptr r p off => (match rt r with
   | some (some _) => K { val := .ptr r p off, rd := [r] }
   | _ => False)
  | .cptr cs off => K { val := .cptr cs off }
  | _ => False
def rN (mx : Bool) (xs : List D) (K : Res → Prop) : Prop :=
 match xs with
 | [.lit (.int k a), .lit (.int _ b)] => K { val := .lit (.int k (match mx with | true => max a b | false => min a b)) }
 | _ => False
def nZ (T : Tab) (rt : RT) (t : Nat) (op : BinOp) (x : D) (K : Res → Prop) : Prop :=
 chk (!Nat.beq (T.get t).size 0) (match (T.get t).ty with
 | .slice _ => (match x with
  | .lit (.slice none 0 0) => (match op with
   | .eql => K { val := .kb true }
   | .neq => K { val := .kb false }
   | _ => False)
  | .ref r _ _ _ n => (match rt r with
   | some (some _) => n ≠ 0 ∧ (match op with
    | .eql => K { val := .kb false, rd := [r] }
    | .neq => K { val := .kb true, rd := [r] }
    | _ => False)
   | _ => False)
  | _ => False)
 | _ => False)
def B6 : List (Nat × D) → (List (Nat × D) → Prop) → Prop
 | [], k => k []
 | (i, d) :: l, k => zD d fun d => B6 l fun l => k ((i, d) :: l)
theorem xO : ∀ (l : List (Nat × D)) (k : List (Nat × D) → Prop), B6 l k = k l
 | [], _ => rfl
 | (i, d) :: l, k => by simp only [B6, Aco, xO l]
def bN (P : Program) (T : Tab) (env : List D) (rt : RT) (n : Nat) (op : Op) (K : Res → Prop) : Prop :=
 match op with
 | .move x | .assign x => K { val := aM env x }
 | .pick c a b => (match aM env c with
  | .kb true => K { val := aM env a }
  | .kb false => K { val := aM env b }
  | _ => False)
 | .alloc e => chk (!Nat.beq (T.get e).size 0) (K { val := .ptr n [] 0, new := [some ⟨true, 1, zeroCells (T.get e).zero⟩] })
 | .box _ x => (match (aM env x).cells with
  | some cs => K { val := .ptr n [] 0, new := [some ⟨true, 1, cs⟩] }
  | none => False)
 | .build t parts => uR T t (parts.toList.map fun (i, x) => (i, aM env x)) K
 | .buildSlice t len parts => B6 (parts.toList.map fun (i, x) => (i, aM env x)) fun ps => lK T rt n t len ps K
 | .load t a => eJ T rt t (aM env a) K
 | .store t a x => fB T rt t (aM env a) (aM env x) K
 | .nilCheck x => pM rt (aM env x) K
 | .binOp op t x y _ => (match aM env y with
  | .lit (.slice none 0 0) => nZ T rt t op (aM env x) K
  | y' => qF T t op (aM env x) y' K)
 | .unOp op _ x => tH op (aM env x) K
 | .convert src dst x => sL T src dst (aM env x) K
 | .makeFunc fn first captured => K { val := .fn fn (first.toList.map (aM env)) (captured.toList.map (aM env)) }
 | .makeSlice t l c => sY T n t (aM env l) (aM env c) K
 | .slice t x lo hi mx => pU T rt t (aM env x) (lo.map (aM env)) (hi.map (aM env)) (mx.map (aM env)) K
 | .fieldAddr s x f => pE T rt s (aM env x) f K
 | .field s x f => uH T s (aM env x) f K
 | .indexAddr t x i => jO T rt t (aM env x) (aM env i) K
 | .extract x i => vA (aM env x) i K
 | .call c => (match c.callee with
  | .value f => mV P rt n (aM env f) (c.args.toList.map (aM env)) K ∨ lI P rt (aM env f) (c.args.toList.map (aM env)) K
  | .builtin .len => (match c.args.toList, c.argTypes.toList with
   | [x], [t] => mK T rt t (aM env x) K
   | _, _ => False)
  | .builtin .append => (match c.args.toList, c.argTypes.toList with
   | [s, x], [t, t'] => (match aM env x with
    | .lit (.int .i64 k) => qI T rt n t t' (aM env s) k K
    | d => nP T rt n t t' (aM env s) d K)
   | _, _ => False)
  | .builtin .copy => (match c.args.toList, c.argTypes.toList with
   | [s, x], [t, t'] => rD T rt t t' (aM env s) (aM env x) K
   | _, _ => False)
  | .builtin .max => rN true (c.args.toList.map (aM env)) K
  | .builtin .min => rN false (c.args.toList.map (aM env)) K
  | _ => False)
 | _ => False
end Go.Vm
namespace Go.Vm
open Go Go.RowKit
section inv
variable {w : World} {ok : Nat → Prop} {own : Nat → Option Lab} {rt : RT} {v : Value}
theorem Mt.lit_inv {v0 : Value} (h : Mt w ok own rt (.lit v0) v) : v = v0 := by
 cases h with
 | sh _ _ h => cases h; rfl
theorem Mt.kb_inv {b : Bool} (h : Mt w ok own rt (.kb b) v) : v = .bool b := by
 cases h with
 | sh _ _ h => cases h; rfl
theorem Mt.ref_inv {r sz off n : Nat} {p : List Nat} (h : Mt w ok own rt (.ref r p sz off n) v) : rt r ≠ none ∧ ∀ R, rt r = some (some R) → mF w own r p sz off n v := by
 cases h with
 | sh _ _ h => cases h
 | ref _ _ _ _ _ _ h0 _ h => exact ⟨h0, fun R hR => (h R hR).2⟩
theorem Mt.ref_path {r sz off n : Nat} {p : List Nat} (h : Mt w ok own rt (.ref r p sz off n) v) : ∀ R, rt r = some (some R) → Vp R p := by
 cases h with
 | sh _ _ h => cases h
 | ref _ _ _ _ _ _ h0 _ h => exact fun R hR => (h R hR).1
theorem Mt.ptr_path {r off : Nat} {p : List Nat} (h : Mt w ok own rt (.ptr r p off) v) : ∀ R, rt r = some (some R) → Vp R p := by
 cases h with
 | sh _ _ h => cases h
 | ptr _ _ _ _ h0 _ h => exact fun R hR => (h R hR).1
theorem Mt.ptr_inv {r off : Nat} {p : List Nat} (h : Mt w ok own rt (.ptr r p off) v) : rt r ≠ none ∧ ∀ R, rt r = some (some R) → Ab3 w own r p off v := by
 cases h with
 | sh _ _ h => cases h
 | ptr _ _ _ _ h0 _ h => exact ⟨h0, fun R hR => (h R hR).2⟩
theorem Mt.list_inv {o : Bool} {sz : Nat} {cs : List D} (h : Mt w ok own rt (.list o sz cs) v) : Sh w ok (.list o sz cs) v := by
 cases h with
 | sh _ _ h => exact h
theorem Mt.cptr_inv {cs : List D} {off : Nat} (h : Mt w ok own rt (.cptr cs off) v) : Sh w ok (.cptr cs off) v := by
 cases h with
 | sh _ _ h => exact h
theorem Mt.full_inv {sz : Nat} {cs : List D} (h : Mt w ok own rt (.full sz cs) v) : Sh w ok (.full sz cs) v := by
 cases h with
 | sh _ _ h => exact h
theorem Mt.agg_inv {ds : List D} (h : Mt w ok own rt (.agg ds) v) : ∃ vs, v = .agg vs ∧ vs.size = ds.length ∧ ∀ (i : Nat) d u, ds[i]? = some d → vs[i]? = some u → Mt w ok own rt d u := by
 cases h with
 | sh _ _ h => cases h with
  | agg _ vs hl hr => exact ⟨vs, rfl, hl, fun i d u h1 h2 => .sh d u (hr i d u h1 h2)⟩
 | agg _ vs hl hr => exact ⟨vs, rfl, hl, hr⟩
theorem Mt.tup_inv {ds : List D} (h : Mt w ok own rt (.tup ds) v) : ∃ vs, v = .tuple vs ∧ vs.size = ds.length ∧ ∀ (i : Nat) d u, ds[i]? = some d → vs[i]? = some u → Mt w ok own rt d u := by
 cases h with
 | sh _ _ h => cases h with
  | tup _ vs hl hr => exact ⟨vs, rfl, hl, fun i d u h1 h2 => .sh d u (hr i d u h1 h2)⟩
 | tup _ vs hl hr => exact ⟨vs, rfl, hl, hr⟩
theorem Mt.fn_inv {f : Fn} {fs cs : List D} (h : Mt w ok own rt (.fn f fs cs) v) : ∃ first caps, v = .func f first caps ∧ first.size = fs.length ∧ caps.size = cs.length ∧
  (∀ (i : Nat) d u, fs[i]? = some d → first[i]? = some u → Mt w ok own rt d u) ∧ (∀ (i : Nat) d u, cs[i]? = some d → caps[i]? = some u → Mt w ok own rt d u) := by
 cases h with
 | sh _ _ h => cases h with
  | fn _ _ _ first caps h1 h2 hf hr => exact ⟨first, caps, rfl, h1, h2, fun i d u k1 k2 => .sh d u (hf i d u k1 k2), fun i d u k1 k2 => .sh d u (hr i d u k1 k2)⟩
 | fn _ _ _ first caps h1 h2 hf hr => exact ⟨first, caps, rfl, h1, h2, hf, hr⟩
end inv
theorem Sh.belowD {w : World} {ok : Nat → Prop} {d : D} {v : Value} (h : Sh w ok d v) (n : Nat) : BelowD n d := by
 induction h with
 | undef v => exact .undef
 | kb b => exact .kb b
 | lit v => exact .lit v
 | nil o sz => exact .list _ _ _
 | wild o sz a => exact .list _ _ _
 | list => exact .list _ _ _
 | cptr => exact .cptr _ _
 | full => exact .full _ _
 | agg ds vs hl hr ih => exact .agg ds (fun d hd => by
   obtain ⟨i, hi, rfl⟩ := List.getElem_of_mem hd
   exact ih i _ _ (List.getElem?_eq_getElem hi) (Array.getElem?_eq_getElem (by omega)))
 | tup ds vs hl hr ih => exact .tup ds (fun d hd => by
   obtain ⟨i, hi, rfl⟩ := List.getElem_of_mem hd
   exact ih i _ _ (List.getElem?_eq_getElem hi) (Array.getElem?_eq_getElem (by omega)))
 | fn f fs cs first caps h1 h2 hf hr ihf ih => exact .fn f fs cs (fun d hd => by
   obtain ⟨i, hi, rfl⟩ := List.getElem_of_mem hd
   exact ihf i _ _ (List.getElem?_eq_getElem hi) (Array.getElem?_eq_getElem (by omega))) (fun d hd => by
   obtain ⟨i, hi, rfl⟩ := List.getElem_of_mem hd
   exact ih i _ _ (List.getElem?_eq_getElem hi) (Array.getElem?_eq_getElem (by omega)))
theorem Mt.belowD {w : World} {ok : Nat → Prop} {own : Nat → Option Lab} {rt : RT} {d : D} {v : Value} (h : Mt w ok own rt d v) {n : Nat} (hn : ∀ r, rt r ≠ none → r < n) : BelowD n d := by
 induction h with
 | undef v => exact .undef
 | sh d v h => exact h.belowD n
 | ref r p sz off m v h0 => exact .ref r p sz off m (hn r h0)
 | ptr r p off v h0 => exact .ptr r p off (hn r h0)
 | agg ds vs hl hr ih => exact .agg ds (fun d hd => by
   obtain ⟨i, hi, rfl⟩ := List.getElem_of_mem hd
   exact ih i _ _ (List.getElem?_eq_getElem hi) (Array.getElem?_eq_getElem (by omega)))
 | tup ds vs hl hr ih => exact .tup ds (fun d hd => by
   obtain ⟨i, hi, rfl⟩ := List.getElem_of_mem hd
   exact ih i _ _ (List.getElem?_eq_getElem hi) (Array.getElem?_eq_getElem (by omega)))
 | fn f fs cs first caps h1 h2 hf hr ihf ih => exact .fn f fs cs (fun d hd => by
   obtain ⟨i, hi, rfl⟩ := List.getElem_of_mem hd
   exact ihf i _ _ (List.getElem?_eq_getElem hi) (Array.getElem?_eq_getElem (by omega))) (fun d hd => by
   obtain ⟨i, hi, rfl⟩ := List.getElem_of_mem hd
   exact ih i _ _ (List.getElem?_eq_getElem hi) (Array.getElem?_eq_getElem (by omega)))
def fG (rt : RT) (n : Nat) (l : List (Option Root)) : RT := fun r => if n ≤ r ∧ r < n + l.length then l[r - n]? else rt r
def cW : RT → List (Nat × Option Root) → RT
 | rt, [] => rt
 | rt, (r, x) :: l => cW (rt.set r x) l
def cS (rt : RT) (n : Nat) (res : Res) : RT := fG (cW rt res.wr) n res.new
@[simp] theorem Asp (rt : RT) (n : Nat) : fG rt n [] = rt := by
 funext r; unfold fG; rw [if_neg (by simp)]
theorem zK (rt : RT) (n : Nat) (d : D) (rd : List Nat) : cS rt n { val := d, rd := rd } = rt := by simp [cS, cW]
theorem oI (rt : RT) (n : Nat) (x : Option Root) : fG rt n [x] = rt.set n x := by
 funext r; unfold fG RT.set
 by_cases h : r = n
 ·subst h; rw [if_pos (by simp)]; simp
 ·rw [if_neg (by simp; omega), if_neg h]
section
variable {P : Program} {o : Oper} {a : Act} {w w' : World} {Kc : Act → World → Prop} {Q : Exit → Act → World → Prop}
theorem gZ {v : Value} (hr : (execOp a.eval o).run P w = .ok (.value v) w') (h : Kc (a.put o.dst v) w') : o.wp P a w Kc Q := by
 unfold Oper.wp; rw [hr]; exact h
theorem M8 (hr : (execOp a.eval o).run P w = .ok .skip w') (h : Kc (a.put o.dst Go.undef) w') : o.wp P a w Kc Q := by
 unfold Oper.wp; rw [hr]; exact h
end
def cZ (w0 : Base) (env : List D) (rt : RT) (n : Nat) (a : Act) (dst : Option Tmp) (K : Res → Prop) (Kc : Act → World → Prop) : Prop :=
 ∀ res v w' own', K res → Sim w0 (fun i => env.getD i .undef) (cS rt n res) (fun i => a.tmps.getD i Go.undef) w' own' →
  Mt w' (okb w' own') own' (cS rt n res) res.val v → Kc (a.put dst v) w'
section
variable {P : Program} {T : Tab} {w0 : Base} {w : World} {env : List D} {rt : RT} {own : Nat → Option Lab} {a : Act} {n : Nat} {o : Oper} {K : Res → Prop} {Kc : Act → World → Prop} {Q : Exit → Act → World → Prop}
theorem bZ (hs : Sim w0 (fun i => env.getD i .undef) rt (fun i => a.tmps.getD i Go.undef) w own) (x : Operand) : Mt w (okb w own) own rt (aM env x) (a.eval x) := by
 cases x with
 | tmp t => exact hs.env t
 | const v =>
  cases v <;> first | exact .sh _ _ (.kb _) | exact .sh _ _ (.lit _)
 | global g => exact .sh _ _ (.lit _)
 | func f => exact .sh _ _ (.fn _ [] [] #[] #[] rfl rfl (fun i d v h => by simp at h) (fun i d v h => by simp at h))
theorem cG (hs : Sim w0 (fun i => env.getD i .undef) rt (fun i => a.tmps.getD i Go.undef) w own) (hg : cZ w0 env rt n a o.dst K Kc)
  {d : D} {v : Value} {rd : List Nat} (hk : K { val := d, rd := rd }) (hm : Mt w (okb w own) own rt d v) (hr : (execOp a.eval o).run P w = .ok (.value v) w) : o.wp P a w Kc Q :=
 gZ hr (hg _ v w own hk (by rw [zK]; exact hs) (by rw [zK]; exact hm))
theorem Aes (hs : Sim w0 (fun i => env.getD i .undef) rt (fun i => a.tmps.getD i Go.undef) w own) (hg : cZ w0 env rt n a o.dst K Kc) (x : Operand)
  (ho : o.op = .move x ∨ o.op = .assign x) (h : K { val := aM env x }) : o.wp P a w Kc Q := by
 refine cG hs hg h (bZ hs x) ?_
 rcases ho with ho | ho <;> simp [execOp, ho]
theorem Aml (hs : Sim w0 (fun i => env.getD i .undef) rt (fun i => a.tmps.getD i Go.undef) w own) (hg : cZ w0 env rt n a o.dst K Kc) (c x y : Operand)
  (ho : o.op = .pick c x y) (h : bN P T env rt n (.pick c x y) K) : o.wp P a w Kc Q := by
 simp only [bN] at h
 have hc := bZ hs c
 split at h
 ·rename_i e; rw [e] at hc
  refine cG hs hg h (bZ hs x) ?_
  simp [execOp, ho, hc.kb_inv, asBool]
 ·rename_i e; rw [e] at hc
  refine cG hs hg h (bZ hs y) ?_
  simp [execOp, ho, hc.kb_inv, asBool]
 ·exact h.elim
end
end Go.Vm
namespace Go.Vm
open Go Go.RowKit
theorem TabOk.info {P : Program} {T : Tab} (hT : TabOk P T) {t : Nat} (h : (T.get t).size ≠ 0) :
  ∃ i d, P.info? t = some i ∧ P.underlying t = some d ∧ i.size = (T.get t).size ∧ i.bytes = (T.get t).bytes ∧ i.zero = some (T.get t).zero ∧ (T.get t).ty = Ty.ofDesc d := by
 have hg : T[t]? = some (T.get t) := by
  unfold Tab.get at *
  cases ht : T[t]? with
  | none => simp [ht] at h
  | some i => simp [ht]
 have := hT t _ hg h
 unfold yV at this
 split at this
 ·rename_i i d h1 h2
  split at this
  ·rename_i z hz
   simp only [Option.some.injEq] at this
   refine ⟨i, d, h1, h2, ?_⟩
   rw [← this]
   exact ⟨rfl, rfl, hz, rfl⟩
  ·cases this
 ·cases this
theorem Ty.ofDesc_slice {d : TypeDesc} {e : Nat} (h : Ty.ofDesc d = .slice e) : d = .slice e := by
 cases d <;> simp [Ty.ofDesc] at h; subst h; rfl
theorem Ty.ofDesc_int {d : TypeDesc} {k : IntKind} (h : Ty.ofDesc d = .int k) : d = .int k := by
 cases d <;> simp [Ty.ofDesc] at h; subst h; rfl
theorem Ty.ofDesc_struct {d : TypeDesc} {fs : List (Nat × Nat)} (h : Ty.ofDesc d = .struct fs) : ∃ f : Array Field, d = .struct f ∧ fs = f.toList.map fun x => (x.offset, x.type) := by
 cases d <;> simp [Ty.ofDesc] at h; exact ⟨_, rfl, h.symm⟩
section
variable {P : Program} {T : Tab} {w0 : Base} {w : World} {env : List D} {rt : RT} {own : Nat → Option Lab} {a : Act} {n : Nat} {o : Oper} {K : Res → Prop} {Kc : Act → World → Prop} {Q : Exit → Act → World → Prop}
theorem uN (hs : Sim w0 (fun i => env.getD i .undef) rt (fun i => a.tmps.getD i Go.undef) w own) (hg : cZ w0 env rt n a o.dst K Kc)
  {p : Prop} (h : nY p K) {b : Bool} (hb : b = true ↔ p) (hr : (execOp a.eval o).run P w = .ok (.value (.bool b)) w) : o.wp P a w Kc Q := by
 cases b with
 | true => exact cG hs hg (h.1 (hb.1 rfl)) (.sh _ _ (.kb true)) hr
 | false => exact cG hs hg (h.2 (fun hp => by have := hb.2 hp; cases this)) (.sh _ _ (.kb false)) hr
theorem Air (hT : TabOk P T) (hs : Sim w0 (fun i => env.getD i .undef) rt (fun i => a.tmps.getD i Go.undef) w own) (hg : cZ w0 env rt n a o.dst K Kc) (op : BinOp) (t t' : TypeId) (x y : Operand)
  (ho : o.op = .binOp op t x y t') (h : qF T t op (aM env x) (aM env y) K) : o.wp P a w Kc Q := by
 have hx := bZ hs x
 have hy := bZ hs y
 unfold qF at h
 split at h
 ·rename_i k c k' d e1 e2
  rw [e1] at hx; rw [e2] at hy
  have vx := hx.lit_inv
  have vy := hy.lit_inv
  have h1 := aO h; clear h; obtain ⟨hk, h⟩ := h1
  ·have hk := U2 hk
   subst hk
   have run : ∀ v, (Go.binOp op t (.int k c) (.int k d)).run P w = .ok v w → (execOp a.eval o).run P w = .ok (.value v) w := fun v hv => by
    cases op <;> simp [execOp, ho, vx, vy, eqGuard, hv]
   have bl : ∀ (b : Bool), (Go.binOp op t (.int k c) (.int k d)).run P w = .ok (.bool b) w → (execOp a.eval o).run P w = .ok (.value (.bool b)) w := fun b hv => run _ hv
   have ik : ∀ m, gH k m K → (Go.binOp op t (.int k c) (.int k d)).run P w = .ok (.int k (k.wrap m)) w → o.wp P a w Kc Q := fun m hm hv => by
    exact cG hs hg (K7 hm) (.sh _ _ (.lit _)) (run _ hv)
   cases op <;> simp only at h
   case add => exact ik _ h (by simp [Go.binOp, Op.intArith])
   case sub => exact ik _ h (by simp [Go.binOp, Op.intArith])
   case mul => exact ik _ h (by simp [Go.binOp, Op.intArith])
   case quo => exact ik _ h.2 (by simp [Go.binOp, Op.intDiv, h.1])
   case rem => exact cG hs hg h.2 (.sh _ _ (.lit _)) (run _ (by simp [Go.binOp, Op.intDiv, h.1]))
   case shr => exact cG hs hg h.2 (.sh _ _ (.lit _)) (run _ (by simp [Go.binOp, Op.shift, Int.not_lt.2 h.1]))
   case and => exact cG hs hg h (.sh _ _ (.lit _)) (run _ (by simp [Go.binOp, Op.intBits]))
   case eql => exact uN hs hg h (b := c == d) (by simp) (bl _ (by simp [Go.binOp, Op.intCmp]))
   case neq => exact uN hs hg h (b := c != d) (by simp) (bl _ (by simp [Go.binOp, Op.intCmp]))
   case lss => exact uN hs hg h (b := decide (c < d)) (by simp) (bl _ (by simp [Go.binOp, Op.intCmp]))
   case leq => exact uN hs hg h (b := decide (c ≤ d)) (by simp) (bl _ (by simp [Go.binOp, Op.intCmp]))
   case gtr => exact uN hs hg h (b := decide (c > d)) (by simp) (bl _ (by simp [Go.binOp, Op.intCmp]))
   case geq => exact uN hs hg h (b := decide (c ≥ d)) (by simp) (bl _ (by simp [Go.binOp, Op.intCmp]))
 ·rename_i c d e1 e2
  rw [e1] at hx; rw [e2] at hy
  have vx := hx.kb_inv
  have vy := hy.kb_inv
  have h1 := aO h; clear h; obtain ⟨hk, h⟩ := h1
  simp only [Bool.and_eq_true, Bool.not_eq_true', ← Bool.not_eq_true, Nat.beq_eq] at hk
  obtain ⟨_, ds, _, hds, _, _, _, hty⟩ := hT.info hk.1
  have hb : ds = .bool := by
   have := hk.2
   rw [hty] at this
   cases ds <;> simp [Ty.ofDesc, Ty.isBool] at this; rfl
  subst hb
  have he0 : ∀ m, (Op.equalIn (m + 1) t (.bool c) (.bool d)).run P w = .ok (c == d) w := fun m => by
   simp [Op.equalIn, underlying, program, Sem.run, hds]
  have he : (Op.equal t (.bool c) (.bool d)).run P w = .ok (c == d) w := he0 9999
  cases op <;> simp only at h
  case eql => exact cG hs hg h (.sh _ _ (.kb _)) (by simp [execOp, ho, vx, vy, eqGuard, Go.binOp, Sem.run_bind, he])
  case neq => exact cG hs hg h (.sh _ _ (.kb _)) (by simp [execOp, ho, vx, vy, eqGuard, Go.binOp, Sem.run_bind, he]; cases c <;> cases d <;> rfl)
 ·exact h.elim
theorem Ah8 (hs : Sim w0 (fun i => env.getD i .undef) rt (fun i => a.tmps.getD i Go.undef) w own) (hg : cZ w0 env rt n a o.dst K Kc) (op : UnOp) (t : TypeId) (x : Operand)
  (ho : o.op = .unOp op t x) (h : tH op (aM env x) K) : o.wp P a w Kc Q := by
 have hx := bZ hs x
 unfold tH at h
 split at h
 ·rename_i k c e1
  rw [e1] at hx
  have vx := hx.lit_inv
  exact cG hs hg (K7 h) (.sh _ _ (.lit _)) (by simp [execOp, ho, vx, Op.unary, Op.intArith])
 ·rename_i b e1
  rw [e1] at hx
  have vx := hx.kb_inv
  exact cG hs hg h (.sh _ _ (.kb _)) (by simp [execOp, ho, vx, Op.unary])
 ·exact h.elim
theorem Amm (hT : TabOk P T) (hs : Sim w0 (fun i => env.getD i .undef) rt (fun i => a.tmps.getD i Go.undef) w own) (hg : cZ w0 env rt n a o.dst K Kc) (src dst : TypeId) (x : Operand)
  (ho : o.op = .convert src dst x) (h : sL T src dst (aM env x) K) : o.wp P a w Kc Q := by
 have hx := bZ hs x
 unfold sL at h
 have h1 := aO h; clear h; obtain ⟨hc, h⟩ := h1
 simp only [Bool.and_eq_true, Bool.not_eq_true', ← Bool.not_eq_true, Nat.beq_eq] at hc
 obtain ⟨hsz, hdst⟩ := hc
 obtain ⟨_, ds, _, hds, _⟩ := hT.info hsz
 split at h
 ·rename_i k k' c e1 e2
  rw [e2] at hx
  have vx := hx.lit_inv
  obtain ⟨i, d, _, hu, _, _, _, hty⟩ := hT.info hdst
  rw [e1] at hty
  have := Ty.ofDesc_int hty.symm
  subst this
  refine cG hs hg (K7 h) (.sh _ _ (.lit _)) ?_
  simp [execOp, ho, vx, convert, run_underlying hu, run_underlying hds, Conv.intToInt]
 ·exact h.elim
theorem Agu (hs : Sim w0 (fun i => env.getD i .undef) rt (fun i => a.tmps.getD i Go.undef) w own) (hg : cZ w0 env rt n a o.dst K Kc) (fn : Fn) (first captured : Array Operand)
  (ho : o.op = .makeFunc fn first captured) (h : K { val := .fn fn (first.toList.map (aM env)) (captured.toList.map (aM env)) }) : o.wp P a w Kc Q := by
 refine cG hs hg h (v := .func fn (first.map a.eval) (captured.map a.eval)) (.fn _ _ _ _ _ (by simp) (by simp) (fun i d v h1 h2 => ?_) (fun i d v h1 h2 => ?_)) ?_
 ·simp only [List.getElem?_map, Option.map_eq_some_iff, Array.getElem?_toList] at h1
  obtain ⟨x, hx, rfl⟩ := h1
  simp only [Array.getElem?_map, hx, Option.map_some, Option.some.injEq] at h2
  subst h2; exact bZ hs x
 ·simp only [List.getElem?_map, Option.map_eq_some_iff, Array.getElem?_toList] at h1
  obtain ⟨x, hx, rfl⟩ := h1
  simp only [Array.getElem?_map, hx, Option.map_some, Option.some.injEq] at h2
  subst h2; exact bZ hs x
 ·simp [execOp, ho, Instr.makeFunc]
theorem Agp (hs : Sim w0 (fun i => env.getD i .undef) rt (fun i => a.tmps.getD i Go.undef) w own) (hg : cZ w0 env rt n a o.dst K Kc) (x : Operand) (i : Nat)
  (ho : o.op = .extract x i) (h : vA (aM env x) i K) : o.wp P a w Kc Q := by
 have hx := bZ hs x
 unfold vA at h
 split at h
 ·rename_i ds e1
  rw [e1] at hx
  obtain ⟨vs, hv, hl, hr⟩ := hx.tup_inv
  split at h
  ·rename_i d hd
   have hlt : i < vs.size := by rw [hl]; exact (List.getElem?_eq_some_iff.1 hd).1
   refine cG hs hg h (hr i d vs[i] hd (Array.getElem?_eq_getElem hlt)) ?_
   simp [execOp, ho, hv, Instr.extract, Array.getElem?_eq_getElem hlt]
  ·exact h.elim
 ·exact h.elim
theorem Addr.add_off (b off k : Nat) : (⟨b, off, none⟩ : Addr).add k = ⟨b, off + k, none⟩ := by
 cases k <;> simp [Addr.add]
theorem Aie (hT : TabOk P T) (hs : Sim w0 (fun i => env.getD i .undef) rt (fun i => a.tmps.getD i Go.undef) w own) (hg : cZ w0 env rt n a o.dst K Kc) (s : TypeId) (x : Operand) (f : Nat)
  (ho : o.op = .fieldAddr s x f) (h : pE T rt s (aM env x) f K) : o.wp P a w Kc Q := by
 have hx := bZ hs x
 unfold pE at h
 have h1 := aO h; clear h; obtain ⟨hsz, h⟩ := h1
 simp only [Bool.not_eq_true', ← Bool.not_eq_true, Nat.beq_eq] at hsz
 obtain ⟨i, d, _, hu, _, _, _, hty⟩ := hT.info hsz
 have key : ∀ off ti, uQ T s f = some (off, ti) → ti.size ≠ 0 → ∀ b q, a.eval x = .pointer (some ⟨b, q, none⟩) → (execOp a.eval o).run P w = .ok (.value (.pointer (some ⟨b, q + off, none⟩))) w := by
  intro off ti hf hti b q hv
  unfold uQ at hf
  split at hf
  ·rename_i fs hfs
   split at hf
   ·rename_i o' t' hft
    simp only [Option.some.injEq, Prod.mk.injEq] at hf
    obtain ⟨rfl, rfl⟩ := hf
    rw [hfs] at hty
    obtain ⟨fa, rfl, rfl⟩ := Ty.ofDesc_struct hty.symm
    simp only [List.getElem?_map, Option.map_eq_some_iff, Array.getElem?_toList] at hft
    obtain ⟨fd, hfd, he⟩ := hft
    cases he
    obtain ⟨it, dt, hi, _, hsz', _⟩ := hT.info hti
    have : it.size ≠ 0 := by rw [hsz']; exact hti
    simp [execOp, ho, hv, Instr.fieldAt, run_underlying hu, hfd, Instr.sureAddr, fieldPlace, sizeOf, typeInfo, hi, this, Addr.add_off]
   ·cases hf
  ·cases hf
 split at h
 ·rename_i o' ti r p off e1 e2
  have h1 := aO h; clear h; obtain ⟨hz, h⟩ := h1
  simp only [Bool.not_eq_true', ← Bool.not_eq_true, Nat.beq_eq] at hz
  rw [e2] at hx
  split at h
  ·rename_i R hR
   obtain ⟨h0, hp⟩ := hx.ptr_inv
   obtain ⟨b, arr, e, hb, hw, hv⟩ := hp R hR
   exact cG hs hg h (.ptr _ _ _ _ h0 rfl (fun R' hR' => ⟨hx.ptr_path R' hR', b, arr, e, hb, hw, rfl⟩)) (key _ _ e1 hz b off hv)
  ·exact h.elim
 ·rename_i o' ti cs off e1 e2
  have h1 := aO h; clear h; obtain ⟨hz, h⟩ := h1
  simp only [Bool.not_eq_true', ← Bool.not_eq_true, Nat.beq_eq] at hz
  rw [e2] at hx
  generalize hv : a.eval x = v at hx
  have := hx.cptr_inv
  cases this with
  | cptr _ _ b q hb hc hr =>
   refine cG hs hg h (v := .pointer (some ⟨b, q + off + o', none⟩)) ?_ (key _ _ e1 hz b (q + off) hv)
   rw [show q + off + o' = q + (off + o') by omega]
   exact .sh _ _ (.cptr cs (off + o') b q hb hc hr)
 ·exact h.elim
end
end Go.Vm
namespace Go.Vm
open Go Go.RowKit
theorem mG {T : Tab} {e sz : Nat} (h : kR T e sz = true) : (T.get e).size = sz ∧ sz ≠ 0 := by
 simp only [kR, Bool.and_eq_true, Bool.not_eq_true', ← Bool.not_eq_true, Nat.beq_eq] at h
 exact h
theorem nz {b : Nat} (h : (!Nat.beq b 0) = true) : b ≠ 0 := by simpa only [Bool.not_eq_true', ← Bool.not_eq_true, Nat.beq_eq] using h
theorem gQ {sz : Nat} (cs : List D) : cnt sz cs = cs.length / sz := by
 unfold cnt; split
 ·rename_i h; simp at h; subst h; simp
 ·rfl
theorem mS {sz len : Nat} {cs : List D} (hz : sz ≠ 0) (h : len * sz = cs.length) : cnt sz cs = len := by
 rw [gQ, ← h, Nat.mul_div_cancel _ (by omega)]
section
variable {P : Program} {T : Tab} {w0 : Base} {w : World} {env : List D} {rt : RT} {own : Nat → Option Lab} {a : Act} {n : Nat} {o : Oper} {K : Res → Prop} {Kc : Act → World → Prop} {Q : Exit → Act → World → Prop}
theorem uC (k : IntKind) (i : Int) (y : Nat) (c : BoundsCode) (h0 : 0 ≤ i) (h1 : i ≤ y) : (Instr.sliceBound (.int k i) y c).run P w = .ok i.toNat w := by
 simp [Instr.sliceBound, asIntOf, h0, h1]
theorem Aae {t e : TypeId} {i : TypeInfo} (hu : P.underlying t = some (.slice e)) (hi : P.info? e = some i) (ad : Option Addr) (m cap : Nat) (k : IntKind) (h : Int) (h0 : 0 ≤ h) (h1 : h ≤ cap) :
  (Instr.sliceAt t (.slice ad m cap) none (some (.int k h)) none).run P w = .ok (.slice (if cap = 0 then ad else ad.map (·.add (0 * i.size))) (h.toNat - 0) (cap - 0)) w := by
 simp [Instr.sliceAt, Instr.slice, Instr.sliceBounds, run_underlying hu, uC k h cap _ h0 h1, sizeOf, typeInfo, hi]
theorem Acx {t e : TypeId} {i : TypeInfo} (hu : P.underlying t = some (.slice e)) (hi : P.info? e = some i) (ad : Option Addr) (m cap : Nat) (k : IntKind) (l : Int) (h0 : 0 ≤ l) (h1 : l ≤ m) :
  (Instr.sliceAt t (.slice ad m cap) (some (.int k l)) none none).run P w = .ok (.slice (if cap = l.toNat then ad else ad.map (·.add (l.toNat * i.size))) (m - l.toNat) (cap - l.toNat)) w := by
 simp [Instr.sliceAt, Instr.slice, Instr.sliceBounds, run_underlying hu, uC k l m _ h0 h1, sizeOf, typeInfo, hi]
theorem U0 {t e : TypeId} {i : TypeInfo} (hu : P.underlying t = some (.slice e)) (hi : P.info? e = some i) (ad : Option Addr) (m cap : Nat) (k k' : IntKind) (l h : Int) (h0 : 0 ≤ l) (h1 : l ≤ h) (h2 : h ≤ cap) :
  (Instr.sliceAt t (.slice ad m cap) (some (.int k l)) (some (.int k' h)) none).run P w = .ok (.slice (if cap = l.toNat then ad else ad.map (·.add (l.toNat * i.size))) (h.toNat - l.toNat) (cap - l.toNat)) w := by
 have h3 : l ≤ (h.toNat : Int) := by omega
 simp [Instr.sliceAt, Instr.slice, Instr.sliceBounds, run_underlying hu, uC k' h cap _ (by omega) h2, uC k l h.toNat _ h0 h3, sizeOf, typeInfo, hi]
theorem Apy {t e : TypeId} {i : TypeInfo} (hu : P.underlying t = some (.slice e)) (hi : P.info? e = some i) (ad : Option Addr) (m cap : Nat) (k k' : IntKind) (h : Int) (h0 : 0 ≤ h) (h2 : h ≤ cap) :
  (Instr.sliceAt t (.slice ad m cap) none (some (.int k h)) (some (.int k' h))).run P w = .ok (.slice (if h.toNat = 0 then ad else ad.map (·.add (0 * i.size))) (h.toNat - 0) (h.toNat - 0)) w := by
 have h3 : h ≤ (h.toNat : Int) := by omega
 simp [Instr.sliceAt, Instr.slice, Instr.sliceBounds, run_underlying hu, uC k' h cap _ h0 h2, uC k h h.toNat _ h0 h3, sizeOf, typeInfo, hi]
theorem Sh.fullPart {ok : Nat → Prop} {ob : Bool} {sz : Nat} {cs : List D} {v : Value} (hz : sz ≠ 0) (h : Sh w ok (.list ob sz cs) v) (m' : Nat) (hm : m' ≤ cnt sz cs) :
  ∃ ad m0 cap, v = .slice ad m0 cap ∧ m' ≤ cap ∧ Sh w ok (.full sz (sub cs sz 0 m')) (.slice (if m' = 0 then ad else ad.map (·.add (0 * sz))) m' m') := by
 cases h with
 | nil =>
  have hc : cnt sz ([] : List D) = 0 := by simp [gQ]
  obtain rfl : m' = 0 := by omega
  exact ⟨none, 0, 0, rfl, Nat.le_refl _, by simp [sub]; exact .full _ _ _ _ (.nil _ sz)⟩
 | wild _ _ ad =>
  have hc : cnt sz ([] : List D) = 0 := by simp [gQ]
  obtain rfl : m' = 0 := by omega
  exact ⟨some ad, 0, 0, rfl, Nat.le_refl _, by simp [sub]; exact .full _ _ _ _ (.wild _ sz ad)⟩
 | list _ _ _ b off len cap hlen hlc hb hc hr =>
  have hcn := mS hz hlen
  rw [hcn] at hm
  refine ⟨_, _, cap, rfl, by omega, ?_⟩
  have hle : m' * sz ≤ cs.length := by rw [← hlen]; exact Nat.mul_le_mul_right _ hm
  have hsl : (sub cs sz 0 m').length = m' * sz := by
   simp only [sub, List.length_take, List.length_drop]; omega
  by_cases h0 : m' = 0
  ·subst h0
   have hnil : sub cs sz 0 0 = [] := List.eq_nil_of_length_eq_zero (by rw [hsl]; simp)
   rw [if_pos rfl, hnil]
   exact .full _ _ _ _ (.wild _ sz _)
  ·rw [if_neg h0]
   simp only [Option.map_some, Addr.add_off]
   have hidx : ∀ i, i < m' * sz → (sub cs sz 0 m')[i]? = cs[i]? := fun i hi => by
    simp only [sub, List.getElem?_take, if_pos hi, List.getElem?_drop]; simp
   refine .full _ _ _ _ (.list false sz _ b (off + 0 * sz) m' m' hsl.symm (Nat.le_refl _) hb (fun i hi => ?_) (fun i d v hd hv => ?_))
   ·rw [hsl] at hi
    have := hc i (by omega)
    simpa using this
   ·have hi : i < m' * sz := by rw [← hsl]; exact (List.getElem?_eq_some_iff.1 hd).1
    rw [hidx i hi] at hd
    exact hr i d v hd (by simpa using hv)
theorem mF.part {r sz off m : Nat} {p : List Nat} {v : Value} (h : mF w own r p sz off m v) (l m' : Nat) (hl : l ≤ m) (hm : l + m' ≤ m) :
  ∃ ad m0 cap, v = .slice ad m0 cap ∧ m0 = m ∧ m ≤ cap ∧ mF w own r p sz (off + l) m' (.slice (if cap = l then ad else ad.map (·.add (l * sz))) m' (cap - l)) := by
 rcases h with ⟨b, arr, e, cap, q, hb, hw, hv, hc, hs, ho⟩ | ⟨hv, h1, h2, h3⟩
 ·refine ⟨_, _, cap, hv, rfl, hc, .inl ⟨b, arr, e, cap - l, if cap = l then q else q + l * sz, hb, hw, ?_, by omega, ?_, fun h => ?_⟩⟩
  ·split <;> simp [Addr.add_off]
  ·rw [← hs]; congr 1; omega
  ·rcases h with h | h
   ·obtain ⟨rfl, rfl⟩ : off = 0 ∧ l = 0 := by omega
    have := ho (.inl rfl)
    subst this; simp
   ·have := ho (.inr (by omega))
    rw [if_neg (by omega), this, Nat.add_mul]
 ·refine ⟨none, 0, 0, hv, h2.symm, by omega, .inr ⟨?_, by omega, by omega, h3⟩⟩
  obtain ⟨rfl, rfl⟩ : l = 0 ∧ m' = 0 := by omega
  simp
theorem Sh.part {ok : Nat → Prop} {ob : Bool} {sz : Nat} {cs : List D} {v : Value} (hz : sz ≠ 0) (h : Sh w ok (.list ob sz cs) v) (l m' : Nat) (hl : l ≤ cnt sz cs) (hm : l + m' ≤ cnt sz cs) :
  ∃ ad m0 cap, v = .slice ad m0 cap ∧ m0 = cnt sz cs ∧ m0 ≤ cap ∧ Sh w ok (.list ob sz (sub cs sz l m')) (.slice (if cap = l then ad else ad.map (·.add (l * sz))) m' (cap - l)) := by
 cases h with
 | nil =>
  have hc : cnt sz ([] : List D) = 0 := by simp [gQ]
  rw [hc] at hl hm
  obtain ⟨rfl, rfl⟩ : l = 0 ∧ m' = 0 := by omega
  exact ⟨none, 0, 0, rfl, hc.symm, Nat.le_refl _, by simp [sub]; exact .nil ob sz⟩
 | wild _ _ ad =>
  have hc : cnt sz ([] : List D) = 0 := by simp [gQ]
  rw [hc] at hl hm
  obtain ⟨rfl, rfl⟩ : l = 0 ∧ m' = 0 := by omega
  exact ⟨some ad, 0, 0, rfl, hc.symm, Nat.le_refl _, by simp [sub]; exact .wild ob sz ad⟩
 | list _ _ _ b off len cap hlen hlc hb hc hr =>
  have hcn := mS hz hlen
  rw [hcn] at hl hm ⊢
  refine ⟨_, _, cap, rfl, rfl, hlc, ?_⟩
  have hsl : (sub cs sz l m').length = m' * sz := by
   have h1 : (l + m') * sz ≤ cs.length := by rw [← hlen]; exact Nat.mul_le_mul_right _ hm
   rw [Nat.add_mul] at h1
   simp only [sub, List.length_take, List.length_drop]; omega
  by_cases hcl : cap = l
  ·have hm0 : m' = 0 := by omega
   subst hm0
   have hnil : sub cs sz l 0 = [] := List.eq_nil_of_length_eq_zero (by rw [hsl]; simp)
   rw [if_pos hcl, hnil]
   exact .list ob sz [] b off 0 (cap - l) (by simp) (by omega) hb (fun i h => by simp at h) (fun i d v h => by simp at h)
  ·rw [if_neg hcl]
   simp only [Option.map_some, Addr.add_off]
   have hidx : ∀ i, i < m' * sz → (sub cs sz l m')[i]? = cs[l * sz + i]? := fun i hi => by
    simp only [sub, List.getElem?_take, if_pos hi, List.getElem?_drop]
   have hle : l * sz + m' * sz ≤ cs.length := by
    have h1 : (l + m') * sz ≤ cs.length := by rw [← hlen]; exact Nat.mul_le_mul_right _ hm
    rwa [Nat.add_mul] at h1
   refine .list ob sz _ b (off + l * sz) m' (cap - l) hsl.symm (by omega) hb (fun i hi => ?_) (fun i d v hd hv => ?_)
   ·rw [hsl] at hi
    have := hc (l * sz + i) (by omega)
    rwa [← Nat.add_assoc] at this
   ·have hi : i < m' * sz := by rw [← hsl]; exact (List.getElem?_eq_some_iff.1 hd).1
    rw [hidx i hi] at hd
    exact hr (l * sz + i) d v hd (by rw [← Nat.add_assoc]; exact hv)
theorem Ama (hT : TabOk P T) (hs : Sim w0 (fun i => env.getD i .undef) rt (fun i => a.tmps.getD i Go.undef) w own) (hg : cZ w0 env rt n a o.dst K Kc) (t : TypeId) (x : Operand) (lo hi mx : Option Operand)
  (ho : o.op = .slice t x lo hi mx) (h : pU T rt t (aM env x) (lo.map (aM env)) (hi.map (aM env)) (mx.map (aM env)) K) : o.wp P a w Kc Q := by
 have hx := bZ hs x
 unfold pU at h
 have hint : ∀ (y : Operand) (k : IntKind) (c : Int), aM env y = .lit (.int k c) → a.eval y = .int k c := fun y k c e => by
  have := bZ hs y; rw [e] at this; exact this.lit_inv
 split at h
 ·rename_i e r p sz off m hty hxe
  have h1 := aO h; clear h; obtain ⟨hc, h⟩ := h1
  simp only [Bool.and_eq_true] at hc
  obtain ⟨hes, hz⟩ := mG hc.1
  obtain ⟨i, d, _, hu, _, _, _, htd⟩ := hT.info (nz hc.2)
  rw [hty] at htd
  have := Ty.ofDesc_slice htd.symm; subst this
  obtain ⟨ie, _, hie, _, hsz, _⟩ := hT.info (t := e) (by rw [hes]; exact hz)
  rw [hes] at hsz
  rw [hxe] at hx
  obtain ⟨h0, href⟩ := hx.ref_inv
  split at h
  ·rename_i R hR
   have hro := href R hR
   split at h
   ·rename_i hh hlo hhi hmx
    cases lo <;> cases hi <;> cases mx <;> simp at hlo hhi hmx
    rename_i yh
    obtain ⟨hb, h⟩ := h
    obtain ⟨ad, m0, cap, hv, hm0, hcap, hro'⟩ := hro.part 0 hh.toNat (by omega) (by omega)
    refine cG hs hg h (.ref _ _ _ _ _ _ h0 rfl (fun R' hR' => ⟨hx.ref_path R' hR', hro'⟩)) ?_
    have hr := Aae (P := P) (w := w) hu hie ad m0 cap .i64 hh hb.1 (by omega)
    simp only [execOp, ho, Option.map_none, Option.map_some, hint _ _ _ hhi, hv]
    simp [hr, hsz]
   ·rename_i l hlo hhi hmx
    cases lo <;> cases hi <;> cases mx <;> simp at hlo hhi hmx
    rename_i yl
    obtain ⟨hb, h⟩ := h
    obtain ⟨ad, m0, cap, hv, hm0, hcap, hro'⟩ := hro.part l.toNat (m - l.toNat) (by omega) (by omega)
    refine cG hs hg h (.ref _ _ _ _ _ _ h0 rfl (fun R' hR' => ⟨hx.ref_path R' hR', hro'⟩)) ?_
    have hr := Acx (P := P) (w := w) hu hie ad m0 cap .i64 l hb.1 (by omega)
    simp only [execOp, ho, Option.map_none, Option.map_some, hint _ _ _ hlo, hv]
    rw [hm0] at hr ⊢
    simp [hr, hsz]
   ·rename_i l hh hlo hhi hmx
    cases lo <;> cases hi <;> cases mx <;> simp at hlo hhi hmx
    rename_i yl yh
    obtain ⟨hb, h⟩ := h
    obtain ⟨ad, m0, cap, hv, hm0, hcap, hro'⟩ := hro.part l.toNat (hh.toNat - l.toNat) (by omega) (by omega)
    refine cG hs hg h (.ref _ _ _ _ _ _ h0 rfl (fun R' hR' => ⟨hx.ref_path R' hR', hro'⟩)) ?_
    have hr := U0 (P := P) (w := w) hu hie ad m0 cap .i64 .i64 l hh hb.1 hb.2.1 (by omega)
    simp only [execOp, ho, Option.map_none, Option.map_some, hint _ _ _ hlo, hint _ _ _ hhi, hv]
    simp [hr, hsz]
   ·exact h.elim
  ·exact h.elim
 ·rename_i e ob sz cs hty hxe
  have h1 := aO h; clear h; obtain ⟨hc, h⟩ := h1
  simp only [Bool.and_eq_true] at hc
  obtain ⟨hes, hz⟩ := mG hc.1
  obtain ⟨i, d, _, hu, _, _, _, htd⟩ := hT.info (nz hc.2)
  rw [hty] at htd
  have := Ty.ofDesc_slice htd.symm; subst this
  obtain ⟨ie, _, hie, _, hsz, _⟩ := hT.info (t := e) (by rw [hes]; exact hz)
  rw [hes] at hsz
  rw [hxe] at hx
  have hsh := hx.list_inv
  split at h
  ·rename_i hh hlo hhi hmx
   cases lo <;> cases hi <;> cases mx <;> simp at hlo hhi hmx
   obtain ⟨hb, cs', rfl, h⟩ := h
   obtain ⟨ad, m0, cap, hv, hm0, hcap, hro'⟩ := hsh.part hz 0 hh.toNat (by omega) (by omega)
   refine cG hs hg h (.sh _ _ hro') ?_
   have hr := Aae (P := P) (w := w) hu hie ad m0 cap .i64 hh hb.1 (by omega)
   simp only [execOp, ho, Option.map_none, Option.map_some, hint _ _ _ hhi, hv]
   simp [hr, hsz]
  ·rename_i l hlo hhi hmx
   cases lo <;> cases hi <;> cases mx <;> simp at hlo hhi hmx
   obtain ⟨hb, cs', rfl, h⟩ := h
   obtain ⟨ad, m0, cap, hv, hm0, hcap, hro'⟩ := hsh.part hz l.toNat (cnt sz cs - l.toNat) (by omega) (by omega)
   refine cG hs hg h (.sh _ _ hro') ?_
   have hr := Acx (P := P) (w := w) hu hie ad m0 cap .i64 l hb.1 (by omega)
   simp only [execOp, ho, Option.map_none, Option.map_some, hint _ _ _ hlo, hv]
   rw [hm0] at hr ⊢
   simp [hr, hsz]
  ·rename_i l hh hlo hhi hmx
   cases lo <;> cases hi <;> cases mx <;> simp at hlo hhi hmx
   obtain ⟨hb, cs', rfl, h⟩ := h
   obtain ⟨ad, m0, cap, hv, hm0, hcap, hro'⟩ := hsh.part hz l.toNat (hh.toNat - l.toNat) (by omega) (by omega)
   refine cG hs hg h (.sh _ _ hro') ?_
   have hr := U0 (P := P) (w := w) hu hie ad m0 cap .i64 .i64 l hh hb.1 hb.2.1 (by omega)
   simp only [execOp, ho, Option.map_none, Option.map_some, hint _ _ _ hlo, hint _ _ _ hhi, hv]
   simp [hr, hsz]
  ·rename_i hh mm hlo hhi hmx
   cases lo <;> cases hi <;> cases mx <;> simp at hlo hhi hmx
   obtain ⟨⟨hb0, he, hb1⟩, cs', rfl, h⟩ := h
   have hmx' := hint _ _ _ hmx
   rw [he] at hmx'
   obtain ⟨ad, m0, cap, hv, hcap, hro'⟩ := hsh.fullPart hz hh.toNat (by omega)
   refine cG hs hg h (.sh _ _ hro') ?_
   have hr := Apy (P := P) (w := w) hu hie ad m0 cap .i64 .i64 hh hb0 (by omega)
   simp only [execOp, ho, Option.map_none, Option.map_some, hint _ _ _ hhi, hmx', hv]
   simp [hr, hsz]
  ·exact h.elim
 ·exact h.elim
end
end Go.Vm
