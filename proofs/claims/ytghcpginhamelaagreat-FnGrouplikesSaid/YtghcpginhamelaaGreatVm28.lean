import Derived.Test.YtghcpginhamelaaGreatVm22
import Derived.IntWalk
import Derived.ProofKit
import Derived.Test.YtghcpginhamelaaGreatAlg7
set_option linter.unusedVariables false
set_option linter.unusedSimpArgs false
set_option linter.unusedSectionVars false
namespace Go.Vm
open Go Go.RowKit
inductive PlainD : D → Prop
 | undef : PlainD .undef
 | kb (b : Bool) : PlainD (.kb b)
 | lit (v : Value) : PlainD (.lit v)
 | list (sz : Nat) (cs : List D) (h : ∀ x ∈ cs, PlainD x) : PlainD (.list true sz cs)
theorem PlainD.cells {sz : Nat} {cs : List D} (h : PlainD (.list true sz cs)) : ∀ x ∈ cs, PlainD x := by cases h; assumption
theorem Tr.plain {w : World} {ok ok' : Nat → Prop} {own own' : Nat → Option Lab} {l : Lab} {d : D} {v : Value} (h : Tr w ok own l d v) (hp : PlainD d) (l' : Lab)
  (hown : ∀ b q, own b = some (l.1, l.2 ++ q) ↔ own' b = some (l'.1, l'.2 ++ q)) : Tr w ok' own' l' d v := by
 induction h generalizing l' with
 | sh l d v ho h =>
  refine .sh l' d v ho ?_
  cases hp with
  | undef => exact .undef v
  | kb b => cases h; exact .kb b
  | lit x => cases h; exact .lit _
  | list sz cs _ => simp [D.notOwn] at ho
 | nil l sz hn => exact .nil l' sz (fun b hb => hn b (by simpa using (hown b []).2 (by simpa using hb)))
 | own l sz cs b len cap arr e hz hl hlc hb hw hc hs hr ih =>
  refine .own l' sz cs b len cap arr e hz hl hlc (by simpa using (hown b []).1 (by simpa using hb)) hw hc hs (fun i d v hd hv => ih i d v hd hv (hp.cells d (List.mem_of_getElem? hd)) (l'.1, l'.2 ++ [i]) ?_)
  intro b q
  simpa using hown b (i :: q)
def A0 (rt : RT) (d : D) (K : D → Option Lab → Prop) : Prop :=
 match d with
 | .kb b => K (.lit (.bool b)) none
 | .lit v => K (.lit v) none
 | .fn f [] [] => K (.fn f [] []) none
 | .ref r [] sz 0 m => match rt r with
  | some (some ⟨false, s, cs⟩) => chk (Nat.beq s sz && !(Nat.beq sz 0)) (m * sz = cs.length ∧ (∀ x ∈ cs, PlainD x) ∧ K (.list true sz cs) (some (r, [])))
  | _ => False
 | .ref r (i :: p) sz 0 m => match rt r with
  | some (some ⟨false, _, cs⟩) => chk (!(Nat.beq sz 0)) (∃ c, bE cs (i :: p) = some c ∧ m * sz = c.length ∧ (∀ x ∈ c, PlainD x) ∧ K (.list true sz c) (some (r, i :: p)))
  | _ => False
 | _ => False
def L7 (rt : RT) : List D → (List D → List (Option Lab) → Prop) → Prop
 | [], K => K [] []
 | d :: ds, K => A0 rt d fun d s => L7 rt ds fun ds ss => K (d :: ds) (s :: ss)
def zC (rt : RT) (d : D) (K : D → List (Option Lab) → Prop) : Prop :=
 match d with
 | .agg ds => L7 rt ds fun ds ss => K (.agg ds) ss
 | d => A0 rt d fun d s => K d [s]
def I0 (rt : RT) : List D → (List D → List (Option Lab) → Prop) → Prop
 | [], K => K [] []
 | d :: ds, K => zC rt d fun d s => I0 rt ds fun ds ss => K (d :: ds) (s ++ ss)
def pR : List (Option Lab) → Bool
 | [] => true
 | none :: l => pR l
 | some r :: l => !(l.any fun x => match x with | some s => Nat.beq r.1 s.1 | none => false) && pR l
def qY (rt : RT) (d : D) (K : D → Prop) : Prop :=
 match d with
 | .tup ds => I0 rt ds fun ds ss => chk (pR ss) (K (.tup ds))
 | d => zC rt d fun d ss => chk (pR ss) (K d)
inductive One (rt : RT) : D → D → Option Lab → Prop
 | kb (b : Bool) : One rt (.kb b) (.lit (.bool b)) none
 | lit (v : Value) : One rt (.lit v) (.lit v) none
 | fn (f : Fn) : One rt (.fn f [] []) (.fn f [] []) none
 | ref (r : Nat) (p : List Nat) (sz m : Nat) (R : Root) (cs : List D) (hr : rt r = some (some R)) (hbox : R.box = false) (hg : bE R.cs p = some cs) (hz : sz ≠ 0) (hm : m * sz = cs.length) (hp : ∀ x ∈ cs, PlainD x) : One rt (.ref r p sz 0 m) (.list true sz cs) (some (r, p))
theorem Z8 {rt : RT} {d : D} {K : D → Option Lab → Prop} (h : A0 rt d K) : ∃ d' s, K d' s ∧ One rt d d' s := by
 unfold A0 at h
 split at h
 ·exact ⟨_, _, h, .kb _⟩
 ·exact ⟨_, _, h, .lit _⟩
 ·exact ⟨_, _, h, .fn _⟩
 ·split at h
  ·rename_i r sz m s cs hr
   have h1 := aO h
   simp only [Bool.and_eq_true, Nat.beq_eq, Bool.not_eq_true'] at h1
   obtain ⟨⟨e, hz⟩, hm, hp, hk⟩ := h1
   subst e
   have hz : s ≠ 0 := fun e => by rw [e] at hz; cases hz
   exact ⟨_, _, hk, .ref _ _ _ _ _ _ hr rfl rfl hz hm hp⟩
  ·exact h.elim
 ·split at h
  ·rename_i r i p sz m x s cs hr
   have h1 := aO h
   simp only [Bool.not_eq_true'] at h1
   obtain ⟨hz, c, hg, hm, hp, hk⟩ := h1
   have hz : sz ≠ 0 := fun e => by rw [e] at hz; cases hz
   exact ⟨_, _, hk, .ref _ _ _ _ _ _ hr rfl hg hz hm hp⟩
  ·exact h.elim
 ·exact h.elim
inductive OneL (rt : RT) : List D → List D → List (Option Lab) → Prop
 | nil : OneL rt [] [] []
 | cons {d d' s ds ds' ss} (h : One rt d d' s) (t : OneL rt ds ds' ss) : OneL rt (d :: ds) (d' :: ds') (s :: ss)
theorem Ab0 {rt : RT} : ∀ (ds : List D) (K : List D → List (Option Lab) → Prop), L7 rt ds K → ∃ ds' ss, K ds' ss ∧ OneL rt ds ds' ss
 | [], _, h => ⟨_, _, h, .nil⟩
 | d :: ds, K, h => by
  obtain ⟨d', s, h1, h2⟩ := Z8 h
  obtain ⟨ds', ss, h3, h4⟩ := Ab0 ds _ h1
  exact ⟨_, _, h3, .cons h2 h4⟩
inductive OneC (rt : RT) : D → D → List (Option Lab) → Prop
 | one {d d' s} (h : One rt d d' s) : OneC rt d d' [s]
 | agg {ds ds' ss} (h : OneL rt ds ds' ss) : OneC rt (.agg ds) (.agg ds') ss
theorem Aga {rt : RT} {d : D} {K : D → List (Option Lab) → Prop} (h : zC rt d K) : ∃ d' s, K d' s ∧ OneC rt d d' s := by
 unfold zC at h
 split at h
 ·obtain ⟨ds', ss, h1, h2⟩ := Ab0 _ _ h
  exact ⟨_, _, h1, .agg h2⟩
 ·obtain ⟨d', s, h1, h2⟩ := Z8 h
  exact ⟨_, _, h1, .one h2⟩
inductive OneT (rt : RT) : List D → List D → List (Option Lab) → Prop
 | nil : OneT rt [] [] []
 | cons {d d' s ds ds' ss} (h : OneC rt d d' s) (t : OneT rt ds ds' ss) : OneT rt (d :: ds) (d' :: ds') (s ++ ss)
theorem R7 {rt : RT} : ∀ (ds : List D) (K : List D → List (Option Lab) → Prop), I0 rt ds K → ∃ ds' ss, K ds' ss ∧ OneT rt ds ds' ss
 | [], _, h => ⟨_, _, h, .nil⟩
 | d :: ds, K, h => by
  obtain ⟨d', s, h1, h2⟩ := Aga h
  obtain ⟨ds', ss, h3, h4⟩ := R7 ds _ h1
  exact ⟨_, _, h3, .cons h2 h4⟩
def Src (rt : RT) (ss : List (Option Lab)) (L : List (Option Root)) : Prop :=
 L.length = ss.length ∧ (∀ k : Nat, ss[k]? = some none → L[k]? = some none) ∧
  ∀ (k : Nat) (l : Lab), ss[k]? = some (some l) → ∃ R R0, L[k]? = some (some R) ∧ rt l.1 = some (some R0) ∧ R0.box = false ∧ bE R0.cs l.2 = some R.cs ∧ R.box = false ∧ ∀ x ∈ R.cs, PlainD x
theorem Src.nil (rt : RT) : Src rt [] [] := ⟨rfl, fun k h => by simp at h, fun k r h => by simp at h⟩
theorem Src.append {rt : RT} {s1 s2 : List (Option Lab)} {L1 L2 : List (Option Root)} (h1 : Src rt s1 L1) (h2 : Src rt s2 L2) : Src rt (s1 ++ s2) (L1 ++ L2) := by
 refine ⟨by simp [h1.1, h2.1], fun k h => ?_, fun k r h => ?_⟩ <;> by_cases hk : k < s1.length
 ·rw [List.getElem?_append_left hk] at h
  rw [List.getElem?_append_left (by rw [h1.1]; exact hk)]; exact h1.2.1 k h
 ·rw [List.getElem?_append_right (by omega)] at h
  rw [List.getElem?_append_right (by rw [h1.1]; omega), h1.1]; exact h2.2.1 _ h
 ·rw [List.getElem?_append_left hk] at h
  rw [List.getElem?_append_left (by rw [h1.1]; exact hk)]; exact h1.2.2 k r h
 ·rw [List.getElem?_append_right (by omega)] at h
  rw [List.getElem?_append_right (by rw [h1.1]; omega), h1.1]; exact h2.2.2 _ r h
theorem One.src {rt : RT} {d d' : D} {s : Option Lab} (h : One rt d d' s) (q : Nat) : Src rt [s] [(sE q d').2] := by
 cases h with
 | ref r p sz m R cs hr hbox hg hz hm hp =>
  refine ⟨rfl, fun k h => ?_, fun k r' h => ?_⟩
  ·cases k <;> simp at h
  ·cases k with
   | zero => simp at h; subst h; exact ⟨⟨false, sz, cs⟩, R, rfl, hr, hbox, hg, rfl, hp⟩
   | succ k => simp at h
 | _ =>
  refine ⟨rfl, fun k h => ?_, fun k r' h => ?_⟩
  ·cases k with
   | zero => rfl
   | succ k => simp at h
  ·cases k <;> simp at h
theorem OneL.src {rt : RT} {ds ds' : List D} {ss : List (Option Lab)} (h : OneL rt ds ds' ss) : ∀ q, Src rt ss (nO q ds').2 := by
 induction h with
 | nil => intro q; exact .nil rt
 | cons h t ih => intro q; exact (h.src q).append (ih (q + 1))
theorem One.openC {rt : RT} {d d' : D} {s : Option Lab} (h : One rt d d' s) (q : Nat) : Go.Vm.openC q d' = ((sE q d').1, [(sE q d').2]) := by
 cases h <;> rfl
theorem OneC.src {rt : RT} {d d' : D} {ss : List (Option Lab)} (h : OneC rt d d' ss) (q : Nat) : Src rt ss (openC q d').2 := by
 cases h with
 | one h => rw [h.openC]; exact h.src q
 | agg h => exact h.src q
theorem OneT.src {rt : RT} {ds ds' : List D} {ss : List (Option Lab)} (h : OneT rt ds ds' ss) : ∀ q, Src rt ss (oF q ds').2 := by
 induction h with
 | nil => intro q; exact .nil rt
 | cons h t ih => intro q; exact (h.src q).append (ih _)
def lB (own own' : Nat → Option Lab) (RT' : RT) (ss : List (Option Lab)) (q : Nat) : Prop :=
 ∀ (k : Nat) (l : Lab), ss[k]? = some (some l) → RT' (q + k) ≠ none ∧ ∀ b p, own' b = some (q + k, p) ↔ own b = some (l.1, l.2 ++ p)
theorem lB.left {own own' : Nat → Option Lab} {RT' : RT} {s1 s2 : List (Option Lab)} {q : Nat} (h : lB own own' RT' (s1 ++ s2) q) : lB own own' RT' s1 q := fun k r hk => by
 have : k < s1.length := by
  rcases Nat.lt_or_ge k s1.length with h | h
  ·exact h
  ·rw [List.getElem?_eq_none h] at hk; cases hk
 exact h k r (by rw [List.getElem?_append_left this]; exact hk)
theorem lB.right {own own' : Nat → Option Lab} {RT' : RT} {s1 s2 : List (Option Lab)} {q : Nat} (h : lB own own' RT' (s1 ++ s2) q) : lB own own' RT' s2 (q + s1.length) := fun k r hk => by
 have := h (s1.length + k) r (by rw [List.getElem?_append_right (by omega)]; simpa using hk)
 rw [show q + s1.length + k = q + (s1.length + k) by omega]; exact this
section
variable {w : World} {ok ok' : Nat → Prop} {own own' : Nat → Option Lab} {rt RT' : RT}
theorem One.mt {d d' : D} {s : Option Lab} (h : One rt d d' s) {v : Value} (hm : Mt w ok own rt d v) {q : Nat} (hl : lB own own' RT' [s] q) : Mt w ok' own' RT' (sE q d').1 v := by
 cases h with
 | kb b => have := hm.kb_inv; subst this; exact .sh _ _ (.lit _)
 | lit v => have := hm.lit_inv; subst this; exact .sh _ _ (.lit _)
 | fn f =>
  obtain ⟨first, caps, hv, hl1, hl2, hr1, hr2⟩ := hm.fn_inv
  subst hv
  refine .sh _ _ (.fn f [] [] first caps hl1 hl2 (fun i d v h => by simp at h) (fun i d v h => by simp at h))
 | ref r p sz m R cs hr hbox hg hz hmm hp =>
  have hl0 := hl 0 (r, p) rfl
  obtain ⟨h0, hx⟩ := hm.ref_inv
  have e : cnt sz cs = m := by
   unfold cnt
   split
   ·rename_i e; have : sz = 1 := by simpa using e
    subst this; omega
   ·rw [← hmm, Nat.mul_div_cancel _ (by omega)]
  have hone : v.oneCell' = true := by
   cases hm with
   | ref _ _ _ _ _ _ _ h1 _ => exact h1
   | sh _ _ h => cases h
  show Mt w ok' own' RT' (.ref q [] sz 0 (cnt sz cs)) v
  rw [e]
  refine .ref _ _ _ _ _ _ hl0.1 hone (fun R' _ => ⟨.inl rfl, ?_⟩)
  rcases hx _ hr with ⟨b, arr, e, cap, o, hb, hw, hv, hnc, hc, ho⟩ | ⟨hv, ho, hn, hb⟩
  ·exact .inl ⟨b, arr, e, cap, o, (hl0.2 b []).2 (by simpa using hb), hw, hv, hnc, hc, ho⟩
  ·exact .inr ⟨hv, ho, hn, fun b hb' => hb b (by simpa using (hl0.2 b []).1 hb')⟩
theorem OneL.mt {ds ds' : List D} {ss : List (Option Lab)} (h : OneL rt ds ds' ss) : ∀ {q : Nat}, lB own own' RT' ss q →
  (nO q ds').1.length = ds.length ∧ ∀ (i : Nat) d v, (nO q ds').1[i]? = some d → (∀ d0, ds[i]? = some d0 → Mt w ok own rt d0 v) → Mt w ok' own' RT' d v := by
 induction h with
 | nil => intro q _; exact ⟨rfl, fun i d v h => by simp [nO] at h⟩
 | @cons d d' s ds ds' ss h t ih =>
  intro q hl
  obtain ⟨h1, h2⟩ := ih (hl.right (s1 := [s]))
  refine ⟨by simp [nO]; exact h1, fun i d v hd hm => ?_⟩
  cases i with
  | zero => simp [nO] at hd; subst hd; exact h.mt (hm _ rfl) (hl.left (s1 := [s]) (s2 := ss))
  | succ i => exact h2 i d v (by simpa [nO] using hd) (fun d0 h0 => hm d0 (by simpa using h0))
theorem OneC.mt {d d' : D} {ss : List (Option Lab)} (h : OneC rt d d' ss) {v : Value} (hm : Mt w ok own rt d v) {q : Nat} (hl : lB own own' RT' ss q) : Mt w ok' own' RT' (openC q d').1 v := by
 cases h with
 | one h => rw [h.openC]; exact h.mt hm hl
 | @agg ds ds' ss h =>
  obtain ⟨vs, hv, hlen, hr⟩ := hm.agg_inv
  subst hv
  obtain ⟨h1, h2⟩ := h.mt (w := w) (ok := ok) (ok' := ok') (own := own) hl
  exact .agg _ vs (by rw [hlen]; exact h1.symm) (fun i d v hd hv => h2 i d v hd (fun d0 h0 => hr i d0 v h0 hv))
theorem OneT.mt {ds ds' : List D} {ss : List (Option Lab)} (h : OneT rt ds ds' ss) : ∀ {q : Nat}, lB own own' RT' ss q →
  (oF q ds').1.length = ds.length ∧ ∀ (i : Nat) d v, (oF q ds').1[i]? = some d → (∀ d0, ds[i]? = some d0 → Mt w ok own rt d0 v) → Mt w ok' own' RT' d v := by
 induction h with
 | nil => intro q _; exact ⟨rfl, fun i d v h => by simp [oF] at h⟩
 | @cons d d' s ds ds' ss h t ih =>
  intro q hl
  have hlen := (h.src q).1
  obtain ⟨h1, h2⟩ := ih (q := q + (openC q d').2.length) (by rw [hlen]; exact hl.right)
  refine ⟨by simp [oF]; exact h1, fun i d v hd hm => ?_⟩
  cases i with
  | zero => simp [oF] at hd; subst hd; exact h.mt (hm _ rfl) hl.left
  | succ i => exact h2 i d v (by simpa [oF] using hd) (fun d0 h0 => hm d0 (by simpa using h0))
end
def distinct : List (Option Nat) → Bool
 | [] => true
 | none :: l => distinct l
 | some r :: l => !(l.any fun x => match x with | some s => Nat.beq r s | none => false) && distinct l
def gV : List (Option Nat) → Nat → Option Nat
 | [], _ => none
 | none :: l, r => (gV l r).map (· + 1)
 | some s :: l, r => if r = s then some 0 else (gV l r).map (· + 1)
theorem tK : ∀ (l : List (Option Nat)) (r k : Nat), gV l r = some k → l[k]? = some (some r)
 | [], _, _, h => by simp [gV] at h
 | none :: l, r, k, h => by
  simp only [gV, Option.map_eq_some_iff] at h
  obtain ⟨j, h1, rfl⟩ := h
  simpa using tK l r j h1
 | some s :: l, r, k, h => by
  simp only [gV] at h
  split at h
  ·rename_i e; subst e; cases h; rfl
  ·simp only [Option.map_eq_some_iff] at h
   obtain ⟨j, h1, rfl⟩ := h
   simpa using tK l r j h1
theorem rG : ∀ (l : List (Option Nat)) (r k : Nat), distinct l = true → l[k]? = some (some r) → gV l r = some k
 | [], _, _, _, h => by simp at h
 | none :: l, r, 0, _, h => by simp at h
 | none :: l, r, k + 1, hd, h => by
  simp only [gV]
  rw [rG l r k hd (by simpa using h)]; rfl
 | some s :: l, r, 0, _, h => by
  have : s = r := by simpa using h
  subst this; simp [gV]
 | some s :: l, r, k + 1, hd, h => by
  simp only [distinct, Bool.and_eq_true, Bool.not_eq_true', List.any_eq_false] at hd
  have hm : l[k]? = some (some r) := by simpa using h
  have hne : r ≠ s := fun e => by
   have := hd.1 _ (List.mem_of_getElem? hm)
   simp [e] at this
  simp only [gV]
  rw [if_neg hne, rG l r k hd.2 hm]; rfl
def uB (own : Nat → Option Lab) (ss : List (Option Nat)) (n : Nat) : Nat → Option Lab := fun b =>
 match own b with
 | some (r, p) => match gV ss r with
  | some k => some (n + k, p)
  | none => none
 | none => none
theorem Ap4 {own : Nat → Option Lab} {ss : List (Option Nat)} {n : Nat} (hd : distinct ss = true) {k r : Nat} (h : ss[k]? = some (some r)) (b : Nat) (p : List Nat) : uB own ss n b = some (n + k, p) ↔ own b = some (r, p) := by
 unfold uB
 constructor
 ·intro h1
  split at h1
  ·rename_i r' p' he
   split at h1
   ·rename_i j hj
    simp only [Option.some.injEq, Prod.mk.injEq] at h1
    obtain ⟨e1, e2⟩ := h1
    have : j = k := by omega
    subst this; subst e2
    have := tK _ _ _ hj
    rw [h] at this
    simp only [Option.some.injEq] at this
    rw [he, this]
   ·cases h1
  ·cases h1
 ·intro h1
  rw [h1]
  simp only [rG ss r k hd h]
theorem Amq {own : Nat → Option Lab} {ss : List (Option Nat)} {n : Nat} {b q : Nat} {p : List Nat} (h : uB own ss n b = some (q, p)) : ∃ k r, q = n + k ∧ ss[k]? = some (some r) ∧ own b = some (r, p) := by
 unfold uB at h
 split at h
 ·rename_i r' p' he
  split at h
  ·rename_i j hj
   simp only [Option.some.injEq, Prod.mk.injEq] at h
   obtain ⟨e1, e2⟩ := h
   subst e2
   exact ⟨j, r', e1.symm, tK _ _ _ hj, he⟩
  ·cases h
 ·cases h
def lR : List (Option Lab) → Nat → Option (Nat × List Nat)
 | [], _ => none
 | none :: l, r => (lR l r).map fun x => (x.1 + 1, x.2)
 | some s :: l, r => if r = s.1 then some (0, s.2) else (lR l r).map fun x => (x.1 + 1, x.2)
theorem J2 : ∀ (l : List (Option Lab)) (r k : Nat) (p : List Nat), lR l r = some (k, p) → l[k]? = some (some (r, p))
 | [], _, _, _, h => by simp [lR] at h
 | none :: l, r, k, p, h => by
  simp only [lR, Option.map_eq_some_iff] at h
  obtain ⟨⟨j, p'⟩, h1, h2⟩ := h
  cases h2
  simpa using J2 l r j p' h1
 | some s :: l, r, k, p, h => by
  simp only [lR] at h
  split at h
  ·rename_i e; subst e; cases h; rfl
  ·simp only [Option.map_eq_some_iff] at h
   obtain ⟨⟨j, p'⟩, h1, h2⟩ := h
   cases h2
   simpa using J2 l r j p' h1
theorem G6 : ∀ (l : List (Option Lab)) (r k : Nat) (p : List Nat), pR l = true → l[k]? = some (some (r, p)) → lR l r = some (k, p)
 | [], _, _, _, _, h => by simp at h
 | none :: l, r, 0, _, _, h => by simp at h
 | none :: l, r, k + 1, p, hd, h => by
  simp only [lR]
  rw [G6 l r k p hd (by simpa using h)]; rfl
 | some s :: l, r, 0, p, _, h => by
  have : s = (r, p) := by simpa using h
  subst this; simp [lR]
 | some s :: l, r, k + 1, p, hd, h => by
  simp only [pR, Bool.and_eq_true, Bool.not_eq_true', List.any_eq_false] at hd
  have hm : l[k]? = some (some (r, p)) := by simpa using h
  have hne : r ≠ s.1 := fun e => by
   have := hd.1 _ (List.mem_of_getElem? hm)
   simp [e] at this
  simp only [lR]
  rw [if_neg hne, G6 l r k p hd.2 hm]; rfl
def strip : List Nat → List Nat → Option (List Nat)
 | [], p => some p
 | _ :: _, [] => none
 | i :: q, j :: p => if i = j then strip q p else none
theorem M5 : ∀ (q p r : List Nat), strip q p = some r ↔ p = q ++ r
 | [], p, r => by simp [strip]
 | i :: q, [], r => by simp [strip]
 | i :: q, j :: p, r => by
  simp only [strip]
  split
  ·rename_i e; subst e; rw [M5 q p r]; simp
  ·rename_i e
   constructor
   ·intro h; cases h
   ·intro h; simp only [List.cons_append, List.cons.injEq] at h; exact absurd h.1.symm e
def oE (own : Nat → Option Lab) (ss : List (Option Lab)) (n : Nat) : Nat → Option Lab := fun b =>
 match own b with
 | some (r, p) => match lR ss r with
  | some (k, p0) => match strip p0 p with
   | some q => some (n + k, q)
   | none => none
  | none => none
 | none => none
theorem yQ {own : Nat → Option Lab} {ss : List (Option Lab)} {n : Nat} {b q : Nat} {p : List Nat} (h : oE own ss n b = some (q, p)) : ∃ k l, q = n + k ∧ ss[k]? = some (some l) ∧ own b = some (l.1, l.2 ++ p) := by
 unfold oE at h
 split at h
 ·rename_i r' p' he
  split at h
  ·rename_i j p0 hj
   split at h
   ·rename_i q' hq
    simp only [Option.some.injEq, Prod.mk.injEq] at h
    obtain ⟨e1, e2⟩ := h
    subst e2
    exact ⟨j, (r', p0), e1.symm, J2 _ _ _ _ hj, by rw [he, (M5 _ _ _).1 hq]⟩
   ·cases h
  ·cases h
 ·cases h
theorem R6 {own : Nat → Option Lab} {ss : List (Option Lab)} {n : Nat} (hd : pR ss = true) {k : Nat} {l : Lab} (h : ss[k]? = some (some l)) (b : Nat) (p : List Nat) : oE own ss n b = some (n + k, p) ↔ own b = some (l.1, l.2 ++ p) := by
 constructor
 ·intro h1
  obtain ⟨j, l', e, hj, ho⟩ := yQ h1
  have : j = k := by omega
  subst this
  rw [h] at hj
  simp only [Option.some.injEq] at hj
  rw [ho, hj]
 ·intro h1
  unfold oE
  rw [h1]
  simp only [G6 ss l.1 k l.2 hd h, (M5 l.2 (l.2 ++ p) p).2 rfl]
theorem O0 {n k : Nat} {L : List (Option Root)} : gL n L (n + k) = L[k]? := by
 unfold gL; rw [if_pos (by omega)]; congr 1; omega
theorem Afd {w0 : Base} {env : Nat → D} {tm : Nat → Value} {w : World} {own : Nat → Option Lab} {rt : RT} (hs : Sim w0 env rt tm w own) (htop : ∀ b, b < w0.heap.size → w0.prot b) {ss : List (Option Lab)} {n : Nat} {rs : D} {v : Value}
  (hd : pR ss = true) (hsrc : Src rt ss (dL n rs).2)
  (hmt : lB own (oE own ss n) (gL n (dL n rs).2) ss n → Mt w (xA w0.toWorld w (oE own ss n)) (oE own ss n) (gL n (dL n rs).2) (dL n rs).1 v) : mC w0.toWorld w n rs v := by
 refine ⟨oE own ss n, ?_, ?_, ?_, ?_⟩
 ·intro b q p h
  obtain ⟨k, r, rfl, hk, ho⟩ := yQ h
  obtain ⟨h1, h2, _⟩ := hs.lab b r.1 (r.2 ++ p) ho
  obtain ⟨R, R0, hR, hR0, _⟩ := hsrc.2.2 k r hk
  refine ⟨?_, h2, R, by rw [O0]; exact hR⟩
  rcases Nat.lt_or_ge b w0.heap.size with hlt | hge
  ·have := h1 (htop b hlt); rw [hR0] at this; cases this
  ·exact hge
 ·intro b b' l h h'
  obtain ⟨q, p⟩ := l
  obtain ⟨k, r, rfl, hk, ho⟩ := yQ h
  obtain ⟨k', r', e, hk', ho'⟩ := yQ h'
  have : k = k' := by omega
  subst this
  rw [hk] at hk'
  simp only [Option.some.injEq] at hk'
  subst hk'
  exact hs.inj b b' _ ho ho'
 ·intro q R h
  have hq : n ≤ q := by
   unfold gL at h; split at h
   ·assumption
   ·cases h
  obtain ⟨k, rfl⟩ : ∃ k, q = n + k := ⟨q - n, by omega⟩
  rw [O0] at h
  have hlt : k < ss.length := by
   rw [← hsrc.1]
   rcases Nat.lt_or_ge k (dL n rs).2.length with h' | h'
   ·exact h'
   ·rw [List.getElem?_eq_none h'] at h; cases h
  cases hk : ss[k] with
  | none =>
   have := hsrc.2.1 k (by rw [List.getElem?_eq_getElem hlt, hk])
   rw [h] at this; cases this
  | some r =>
   have hk' : ss[k]? = some (some r) := by rw [List.getElem?_eq_getElem hlt, hk]
   obtain ⟨R', R0, hR', hrt, hbox0, hg, hbox, hpl⟩ := hsrc.2.2 k r hk'
   rw [h] at hR'
   simp only [Option.some.injEq] at hR'
   subst hR'
   refine ⟨hbox, ?_⟩
   have hiff := fun b p => R6 (own := own) (n := n) hd hk' b p
   have hblk : (∃ b, gD w (okb w own) own r.1 r.2 b R.cs) ∨ (R.cs = [] ∧ ∀ b, own b ≠ some (r.1, r.2)) := by
    rcases hs.roots r.1 R0 hrt with ⟨b, arr, e, k1, k2, k3, k4⟩ | ⟨_, k2, k3⟩
    ·have hb : gD w (okb w own) own r.1 [] b R0.cs := ⟨arr, e, k1, k2, k3, fun i d v hi hv => by
      have := k4 i d v hi hv; unfold bX at this; rw [hbox0] at this; simpa using this⟩
     simpa using gD.get r.2 [] b R0.cs R.cs hb hg
    ·rw [k2] at hg
     cases hp : r.2 with
     | nil => rw [hp] at hg; simp only [bE, Option.some.injEq] at hg; exact .inr ⟨hg.symm, k3⟩
     | cons i q => rw [hp] at hg; simp [bE] at hg
   rcases hblk with ⟨b, arr, e, h1, h2, h3, h4⟩ | ⟨h2, h3⟩
   ·refine .inl ⟨b, arr, e, (hiff b []).2 (by simpa using h1), h2, h3, fun i d v hdi hv => ?_⟩
    have := h4 i d v hdi hv
    unfold bX
    rw [hbox]
    simp only [Bool.false_eq_true, if_false]
    exact this.plain (hpl d (List.mem_of_getElem? hdi)) _ (fun b q => by simpa using (hiff b (i :: q)).symm)
   ·exact .inr ⟨hbox, h2, fun b hb => h3 b (by simpa using (hiff b []).1 hb)⟩
 ·refine hmt fun k r hk => ?_
  obtain ⟨R, _, hR, _⟩ := hsrc.2.2 k r hk
  refine ⟨by rw [O0, hR]; simp, fun b p => R6 hd hk b p⟩
theorem Aa4 {w0 : Base} {env : Nat → D} {tm : Nat → Value} {w : World} {own : Nat → Option Lab} {rt : RT} (hs : Sim w0 env rt tm w own) (htop : ∀ b, b < w0.heap.size → w0.prot b) {d : D} {v : Value} {K : D → Prop} (hm : Mt w (okb w own) own rt d v) (h : qY rt d K) :
  ∃ rs, K rs ∧ ∀ n, mC w0.toWorld w n rs v := by
 unfold qY at h
 split at h
 ·rename_i ds
  obtain ⟨ds', ss, h1, h2⟩ := R7 _ _ h
  have h1 := aO h1
  refine ⟨_, h1.2, fun n => Afd hs htop h1.1 (h2.src n) fun hl => ?_⟩
  obtain ⟨vs, hv, hlen, hr⟩ := hm.tup_inv
  subst hv
  obtain ⟨k1, k2⟩ := h2.mt (w := w) (ok := okb w own) (ok' := xA w0.toWorld w (oE own ss n)) (own := own) hl
  exact .tup _ vs (by rw [hlen]; exact k1.symm) (fun i d v hd hv => k2 i d v hd (fun d0 h0 => hr i d0 v h0 hv))
 ·rename_i hnt
  obtain ⟨d', ss, h1, h2⟩ := Aga h
  have h1 := aO h1
  have e : ∀ n, dL n d' = openC n d' := fun n => by
   cases h2 with
   | one h => cases h <;> rfl
   | agg h => rfl
  refine ⟨_, h1.2, fun n => Afd hs htop h1.1 (by rw [e]; exact h2.src n) fun hl => ?_⟩
  rw [e] at hl ⊢
  exact h2.mt hm hl
theorem cF {P : Program} {T : Tab} (hT : TabOk P T) (hmo : P.follows .mixedOrders = true) {f : FuncId} {fn : Func} {c : Code} {args : List D} {rs : D} (hfn : P.funcs[f]? = some fn) (hb : fn.body = some c)
  (hname : (fn.name == "runtime.NumGoroutine") = false)
  (h : vc P T 0 c (fun e st' => (e = .ret ∨ e = .normal) ∧ kV T st'.env (aQ st'.rt) fn.results.toList fun ds => qY (aQ st'.rt) (iK ds) fun rs' => rs' = rs)
   ⟨args ++ List.replicate (fn.ntmps - args.length) .undef, []⟩) : aL P f args rs := by
 intro w vals n hsz hargs
 refine .inl ⟨fn, hfn, hname, by rw [hb]; rfl, calls_of_wp hfn hb ?_⟩
 let w0 : Base := { toWorld := w, prot := fun b => b < w.heap.size, hp := fun _ h => h, hid := fun _ => False, hh := fun _ h => h.elim, hl := fun _ => (0, []), susp := fun _ _ => False, keep := 0, hk := fun _ _ h => h.elim, hlk := fun _ h => h.elim }
 let a1 : Act := { tmps := vals ++ Array.replicate (fn.ntmps - vals.size) Go.undef, defers := [] }
 have hfit : Fits w0 ⟨args ++ List.replicate (fn.ntmps - args.length) .undef, []⟩ a1 w := by
  refine ⟨fun _ => none, rfl, by simp [a1, hsz], ⟨Kept.refl _ _, fun i => ?_, fun r R h => by simp [aQ] at h, fun b r p h => by simp at h, fun b hb => hb.elim, fun b b' l h => by simp at h, fun d v hp => hp.elim⟩⟩
  show Mt w _ _ _ ((args ++ List.replicate (fn.ntmps - args.length) D.undef).getD i D.undef) (a1.tmps.getD i Go.undef)
  rw [List.getD_eq_getElem?_getD]
  by_cases hi : i < args.length
  ·rw [List.getElem?_append_left hi, List.getElem?_eq_getElem hi, Option.getD_some]
   have hi2 : i < vals.size := by rw [hsz]; exact hi
   have e1 : a1.tmps.getD i Go.undef = vals[i] := by
    simp only [a1, Array.getD_eq_getD_getElem?]
    rw [Array.getElem?_append_left hi2, Array.getElem?_eq_getElem hi2]; rfl
   rw [e1]
   exact .sh _ _ ((hargs i _ _ (List.getElem?_eq_getElem hi) (Array.getElem?_eq_getElem hi2)).frame (fun b hb => ⟨⟨rfl, hb⟩, rfl⟩))
  ·rw [List.getElem?_append_right (by omega), List.getElem?_replicate]
   split <;> exact .undef _
 refine wp_mono (uI hT hmo c _ _ h w0 a1 w rfl hfit) (fun e a' w' hpost => ?_)
 obtain ⟨st', ⟨own', hd', hl', hs'⟩, he, hres⟩ := hpost
 have hres' : ∃ d v, qY (aQ st'.rt) d (fun rs' => rs' = rs) ∧ Mt w' (okb w' own') own' (aQ st'.rt) d v ∧ (results fn a'.tmps).run P w' = .ok v w' := by
  obtain ⟨ds, vs, h1, h2, h3, h4, h5⟩ := M1 (P := P) hT hs' _ _ hres
  refine ⟨iK ds, if h : vs.toArray.size = 1 then vs.toArray[0] else .tuple vs.toArray, h1, ?_, ?_⟩
  ·by_cases hl : vs.length = 1
   ·obtain ⟨v, rfl⟩ := List.length_eq_one_iff.1 hl
    obtain ⟨d, rfl⟩ := List.length_eq_one_iff.1 (show ds.length = 1 by rw [h3, ← h2]; rfl)
    exact h4 0 d v rfl rfl
   ·have e1 : iK ds = .tup ds := by
     match ds, h3 with
     | [], _ => rfl
     | [d], h3 => exact absurd (by rw [h2, ← h3]; rfl) hl
     | _ :: _ :: _, _ => rfl
    rw [e1, dif_neg (by simpa using hl)]
    exact .tup _ _ (by simp [h2, h3]) (fun i d v k1 k2 => h4 i d v k1 (by simpa using k2))
  ·rw [K6, Array.mapM_eq_mapM_toList]
   simp [Sem.run_bind, h5]
 obtain ⟨d, v, hk, hm, hr⟩ := hres'
 obtain ⟨rs', e, hrn⟩ := Aa4 hs' (fun _ h => h) hm hk
 subst e
 have hfin : (∃ v', Ending.returned v = .returned v' ∧ Below w.heap.size w w' ∧ mC w w' n rs' v') := ⟨v, rfl, hs'.below.below (fun _ h => h), hrn n⟩
 rcases he with rfl | rfl
 ·exact ⟨hd', v, hr, hfin⟩
 ·exact ⟨hd', v, hr, hfin⟩
end Go.Vm
namespace Go.Vm
open Go Go.RowKit
def sW (u v : Value) : Prop :=
 match u, v with
 | .int k a, .int k' b => chk (vQ k k') (a = b)
 | .bool a, .bool b => a = b
 | u, v => u = v
def pX (σ : List (Option Nat)) (d2 d : D) (K : Prop) : Prop :=
 match d2 with
 | .undef => K
 | .kb b => match d with
  | .kb b' => b' = b ∧ K
  | _ => False
 | .lit v => match d with
  | .lit u => sW u v ∧ K
  | .kb b => sW (.bool b) v ∧ K
  | _ => False
 | .list o sz cs => match d with
  | .list o' sz' cs' => o' = o ∧ sz' = sz ∧ cs' = cs ∧ K
  | _ => False
 | .cptr cs off => match d with
  | .cptr cs' off' => cs' = cs ∧ off' = off ∧ K
  | _ => False
 | .ref k p sz off n => match d with
  | .ref r p' sz' off' n' => match σ[k]? with
   | some (some r') => chk (Nat.beq r r') (p' = p ∧ sz' = sz ∧ off' = off ∧ n' = n ∧ K)
   | _ => False
  | .lit (.slice none 0 0) => match σ[k]? with
   | some none => p = [] ∧ off = 0 ∧ n = 0 ∧ K
   | _ => False
  | _ => False
 | .ptr k p off => match d with
  | .ptr r p' off' => match σ[k]? with
   | some (some r') => chk (Nat.beq r r') (p' = p ∧ off' = off ∧ K)
   | _ => False
  | _ => False
 | _ => False
def nN (f : D → D → Prop → Prop) : List D → List D → Prop → Prop
 | [], [], K => K
 | d2 :: ds2, d :: ds, K => f d2 d (nN f ds2 ds K)
 | _, _, _ => False
def mP (f : D → D → Prop → Prop) (σ : List (Option Nat)) (d2 d : D) (K : Prop) : Prop :=
 match d2 with
 | .agg ds2 => match d with
  | .agg ds => nN f ds2 ds K
  | _ => False
 | .tup ds2 => match d with
  | .tup ds => nN f ds2 ds K
  | _ => False
 | .fn f2 fs2 cs2 => match d with
  | .fn f1 fs cs => f1 = f2 ∧ nN f fs2 fs (nN f cs2 cs K)
  | _ => False
 | d2 => pX σ d2 d K
def rJ (σ : List (Option Nat)) (d2 d : D) (K : Prop) : Prop := mP (mP (mP (pX σ) σ) σ) σ d2 d K
def mA (σ : List (Option Nat)) : List D → List D → Prop → Prop
 | [], [], K => K
 | d2 :: ds2, d :: ds, K => rJ σ d2 d (mA σ ds2 ds K)
 | _, _, _ => False
def fM (σ : List (Option Nat)) (rt : List (Option Root)) : List (Option Nat) → List (Option Root) → Prop → Prop
 | [], [], K => K
 | s :: ss, x2 :: xs, K => match s, x2 with
  | some r, some ⟨true, sz, cs⟩ => match rt[r]? with
   | some (some ⟨true, sz', cs'⟩) => chk (Nat.beq sz' sz) (mA σ cs cs' (fM σ rt ss xs K))
   | _ => False
  | some r, some ⟨false, sz, cs⟩ => match rt[r]? with
   | some (some ⟨false, sz', cs'⟩) => chk (Nat.beq sz' sz) (cs' = cs ∧ fM σ rt ss xs K)
   | _ => False
  | none, some ⟨false, _, []⟩ => fM σ rt ss xs K
  | none, none => fM σ rt ss xs K
  | _, _ => False
 | _, _, _ => False
def vI (σ : List (Option Nat)) (rt2 : List (Option Root)) : Nat → Bool
 | 0 => true
 | r + 1 => (match σ[r]? with
  | some (some r') => Nat.beq r r'
  | some none => match rt2[r]? with
   | some none => true
   | _ => false
  | none => false) && vI σ rt2 r
def B0 (kp : Nat) (σ : List (Option Nat)) (st st2 : St) : Prop :=
 chk (distinct σ && vI σ st2.rt kp) (mA σ st2.env st.env (fM σ st.rt σ st2.rt True))
theorem X3 {u v : Value} (h : sW u v) : u = v := by
 unfold sW at h
 split at h
 ·have h1 := aO h; rw [U2 h1.1, h1.2]
 ·rw [h]
 ·exact h
def fA (own : Nat → Option Lab) (σ : List (Option Nat)) : Nat → Option Lab := uB own σ 0
section
variable {σ : List (Option Nat)} {w : World} {own : Nat → Option Lab} {rt rt2 : RT}
structure SigOk (σ : List (Option Nat)) (own ow2 : Nat → Option Lab) (rt rt2 : RT) : Prop where
 free : ∀ b, own b = none → ow2 b = none
 live : ∀ (k r : Nat), σ[k]? = some (some r) → rt2 k ≠ none ∧ (∃ R, rt r = some (some R)) ∧ ∀ b p, ow2 b = some (k, p) ↔ own b = some (r, p)
 path : ∀ (k r : Nat) R R2 p, σ[k]? = some (some r) → rt r = some (some R) → rt2 k = some (some R2) → Vp R p → Vp R2 p
 fresh : ∀ k : Nat, σ[k]? = some none → rt2 k ≠ none ∧ ∀ R, rt2 k = some (some R) → ∀ b p, ow2 b ≠ some (k, p)
theorem SigOk.okb {ow2 : Nat → Option Lab} {w : World} (hs : SigOk σ own ow2 rt rt2) {b : Nat} (h : okb w own b) : Go.Vm.okb w ow2 b := ⟨hs.free b h.1, h.2⟩
def pK (σ : List (Option Nat)) (d2 d : D) : Prop := ∀ (w : World) (own ow2 : Nat → Option Lab) (rt rt2 : RT), SigOk σ own ow2 rt rt2 → ∀ v, Mt w (okb w own) own rt d v → Mt w (okb w ow2) ow2 rt2 d2 v
theorem Sh.two {ow2 : Nat → Option Lab} {d : D} {v : Value} (h : Sh w (okb w own) d v) (hs : SigOk σ own ow2 rt rt2) : Mt w (okb w ow2) ow2 rt2 d v := .sh d v (h.frame (fun _ hb => ⟨hs.okb hb, rfl⟩))
theorem Acq {d2 d : D} {K : Prop} (h : pX σ d2 d K) : K ∧ pK σ d2 d := by
 unfold pX at h
 split at h
 ·exact ⟨h, fun w own ow2 rt rt2 hs v _ => .undef v⟩
 ·split at h
  ·obtain ⟨e, hk⟩ := h; subst e
   exact ⟨hk, fun w own ow2 rt rt2 hs v hm => by rw [hm.kb_inv]; exact .sh _ _ (.kb _)⟩
  ·exact h.elim
 ·split at h
  ·obtain ⟨e, hk⟩ := h; have e := X3 e; subst e
   exact ⟨hk, fun w own ow2 rt rt2 hs v hm => by rw [hm.lit_inv]; exact .sh _ _ (.lit _)⟩
  ·obtain ⟨e, hk⟩ := h; have e := X3 e; subst e
   exact ⟨hk, fun w own ow2 rt rt2 hs v hm => by rw [hm.kb_inv]; exact .sh _ _ (.lit _)⟩
  ·exact h.elim
 ·split at h
  ·obtain ⟨e1, e2, e3, hk⟩ := h; subst e1; subst e2; subst e3
   exact ⟨hk, fun w own ow2 rt rt2 hs v hm => hm.list_inv.two hs⟩
  ·exact h.elim
 ·split at h
  ·obtain ⟨e1, e2, hk⟩ := h; subst e1; subst e2
   exact ⟨hk, fun w own ow2 rt rt2 hs v hm => hm.cptr_inv.two hs⟩
  ·exact h.elim
 ·rename_i k p sz off n
  split at h
  ·rename_i r p' sz' off' n'
   split at h
   ·rename_i r' hσ
    have h1 := aO h
    obtain ⟨e0, e1, e2, e3, e4, hk⟩ := h1
    rw [Nat.beq_eq] at e0; subst e0; subst e1; subst e2; subst e3; subst e4
    refine ⟨hk, fun w own ow2 rt rt2 hs v hm => ?_⟩
    obtain ⟨h0, ⟨R, hR⟩, hown⟩ := hs.live _ _ hσ
    have hone : v.oneCell' = true := by
     cases hm with
     | ref _ _ _ _ _ _ _ h1 _ => exact h1
     | sh _ _ h => cases h
    refine .ref _ _ _ _ _ _ h0 hone (fun R' hR' => ⟨hs.path _ _ R R' _ hσ hR hR' (hm.ref_path R hR), ?_⟩)
    rcases hm.ref_inv.2 R hR with ⟨b, arr, e, cap, o, hb, hw, hv, hnc, hc, ho⟩ | ⟨hv, ho, hn, hb⟩
    ·exact .inl ⟨b, arr, e, cap, o, (hown b _).2 hb, hw, hv, hnc, hc, ho⟩
    ·exact .inr ⟨hv, ho, hn, fun b hb' => hb b ((hown b _).1 hb')⟩
   ·exact h.elim
  ·split at h
   ·rename_i hσ
    obtain ⟨e1, e2, e3, hk⟩ := h; subst e1; subst e2; subst e3
    refine ⟨hk, fun w own ow2 rt rt2 hs v hm => ?_⟩
    have := hm.lit_inv
    subst this
    obtain ⟨h0, hno⟩ := hs.fresh _ hσ
    exact .ref _ _ _ _ _ _ h0 rfl (fun R' hR' => ⟨.inl rfl, .inr ⟨rfl, rfl, rfl, fun b => hno R' hR' b _⟩⟩)
   ·exact h.elim
  ·exact h.elim
 ·split at h
  ·split at h
   ·rename_i r' hσ
    have h1 := aO h
    obtain ⟨e0, e1, e2, hk⟩ := h1
    rw [Nat.beq_eq] at e0; subst e0; subst e1; subst e2
    refine ⟨hk, fun w own ow2 rt rt2 hs v hm => ?_⟩
    obtain ⟨h0, ⟨R, hR⟩, hown⟩ := hs.live _ _ hσ
    have hone : v.oneCell' = true := by
     cases hm with
     | ptr _ _ _ _ _ h1 _ => exact h1
     | sh _ _ h => cases h
    refine .ptr _ _ _ _ h0 hone (fun R' hR' => ?_)
    obtain ⟨b, arr, e, hb, hw, hv⟩ := hm.ptr_inv.2 R hR
    exact ⟨hs.path _ _ R R' _ hσ hR hR' (hm.ptr_path R hR), b, arr, e, (hown b _).2 hb, hw, hv⟩
   ·exact h.elim
  ·exact h.elim
 ·exact h.elim
theorem vU {f : D → D → Prop → Prop} (hf : ∀ d2 d K, f d2 d K → K ∧ pK σ d2 d) : ∀ (ds2 ds : List D) (K : Prop), nN f ds2 ds K → K ∧ ds2.length = ds.length ∧ ∀ (i : Nat) d2 d, ds2[i]? = some d2 → ds[i]? = some d → pK σ d2 d
 | [], [], _, h => ⟨h, rfl, fun i d2 d h => by simp at h⟩
 | d2 :: ds2, d :: ds, K, h => by
  obtain ⟨h1, h2⟩ := hf _ _ _ h
  obtain ⟨h3, h4, h5⟩ := vU hf ds2 ds K h1
  refine ⟨h3, by simp [h4], fun i x y hx hy => ?_⟩
  cases i with
  | zero => simp at hx hy; subst hx; subst hy; exact h2
  | succ i => exact h5 i x y (by simpa using hx) (by simpa using hy)
 | [], _ :: _, _, h => h.elim
 | _ :: _, [], _, h => h.elim
theorem gB {α β : Type} {l : List α} {m : List β} (h : l.length = m.length) {i : Nat} {x : α} (hx : l[i]? = some x) : ∃ y, m[i]? = some y := by
 have : i < l.length := by
  rcases Nat.lt_or_ge i l.length with h' | h'
  ·exact h'
  ·rw [List.getElem?_eq_none h'] at hx; cases hx
 exact ⟨m[i], List.getElem?_eq_getElem (by omega)⟩
theorem C9 {f : D → D → Prop → Prop} (hf : ∀ d2 d K, f d2 d K → K ∧ pK σ d2 d) (d2 d : D) (K : Prop) (h : mP f σ d2 d K) : K ∧ pK σ d2 d := by
 unfold mP at h
 split at h
 ·split at h
  ·obtain ⟨h1, h2, h3⟩ := vU hf _ _ _ h
   refine ⟨h1, fun w own ow2 rt rt2 hs v hm => ?_⟩
   obtain ⟨vs, hv, hl, hr⟩ := hm.agg_inv
   subst hv
   refine .agg _ _ (by rw [hl, h2]) (fun i d v hd hv => ?_)
   obtain ⟨y, hy⟩ := gB h2 hd
   exact h3 i d y hd hy w own ow2 rt rt2 hs v (hr i y v hy hv)
  ·exact h.elim
 ·split at h
  ·obtain ⟨h1, h2, h3⟩ := vU hf _ _ _ h
   refine ⟨h1, fun w own ow2 rt rt2 hs v hm => ?_⟩
   obtain ⟨vs, hv, hl, hr⟩ := hm.tup_inv
   subst hv
   refine .tup _ _ (by rw [hl, h2]) (fun i d v hd hv => ?_)
   obtain ⟨y, hy⟩ := gB h2 hd
   exact h3 i d y hd hy w own ow2 rt rt2 hs v (hr i y v hy hv)
  ·exact h.elim
 ·split at h
  ·obtain ⟨e, h⟩ := h
   subst e
   obtain ⟨h0, k2, k3⟩ := vU hf _ _ _ h
   obtain ⟨h1, h2, h3⟩ := vU hf _ _ _ h0
   refine ⟨h1, fun w own ow2 rt rt2 hs v hm => ?_⟩
   obtain ⟨first, caps, hv, hl1, hl2, hr1, hr2⟩ := hm.fn_inv
   subst hv
   refine .fn _ _ _ _ _ (by rw [hl1, k2]) (by rw [hl2, h2]) (fun i d v hd hv => ?_) (fun i d v hd hv => ?_)
   ·obtain ⟨y, hy⟩ := gB k2 hd
    exact k3 i d y hd hy w own ow2 rt rt2 hs v (hr1 i y v hy hv)
   ·obtain ⟨y, hy⟩ := gB h2 hd
    exact h3 i d y hd hy w own ow2 rt rt2 hs v (hr2 i y v hy hv)
  ·exact h.elim
 ·exact Acq h
theorem Ar2 {d2 d : D} {K : Prop} (h : rJ σ d2 d K) : K ∧ pK σ d2 d :=
 C9 (C9 (C9 (fun _ _ _ => Acq))) _ _ _ h
theorem B7 : ∀ (ds2 ds : List D) (K : Prop), mA σ ds2 ds K → K ∧ ds2.length = ds.length ∧ ∀ (i : Nat) d2 d, ds2[i]? = some d2 → ds[i]? = some d → pK σ d2 d
 | [], [], _, h => ⟨h, rfl, fun i d2 d h => by simp at h⟩
 | d2 :: ds2, d :: ds, K, h => by
  obtain ⟨h1, h2⟩ := Ar2 h
  obtain ⟨h3, h4, h5⟩ := B7 ds2 ds K h1
  refine ⟨h3, by simp [h4], fun i x y hx hy => ?_⟩
  cases i with
  | zero => simp at hx hy; subst hx; subst hy; exact h2
  | succ i => exact h5 i x y (by simpa using hx) (by simpa using hy)
 | [], _ :: _, _, h => h.elim
 | _ :: _, [], _, h => h.elim
def Adi (σ : List (Option Nat)) (rt : List (Option Root)) (s : Option Nat) (x : Option Root) : Prop :=
 match s, x with
 | some r, some R2 => ∃ R, rt[r]? = some (some R) ∧ R.box = R2.box ∧ if R2.box = true then R2.cs.length = R.cs.length ∧ ∀ (i : Nat) d2 d, R2.cs[i]? = some d2 → R.cs[i]? = some d → pK σ d2 d else R.cs = R2.cs
 | none, some R2 => R2.box = false ∧ R2.cs = []
 | none, none => True
 | some _, none => False
theorem L9 {σ : List (Option Nat)} {rt : List (Option Root)} : ∀ (ss : List (Option Nat)) (xs : List (Option Root)) (K : Prop), fM σ rt ss xs K →
  ss.length = xs.length ∧ ∀ (k : Nat) s x, ss[k]? = some s → xs[k]? = some x → Adi σ rt s x
 | [], [], _, _ => ⟨rfl, fun k s x h => by simp at h⟩
 | s :: ss, x2 :: xs, K, h => by
  have both : Adi σ rt s x2 ∧ ∃ K', fM σ rt ss xs K' := by
   simp only [fM] at h
   split at h
   ·split at h
    ·rename_i hr
     have h1 := aO h
     obtain ⟨h2, h3, h4⟩ := B7 _ _ _ h1.2
     exact ⟨⟨_, hr, rfl, by rw [if_pos rfl]; exact ⟨h3, h4⟩⟩, _, h2⟩
    ·exact h.elim
   ·split at h
    ·rename_i hr
     have h1 := aO h
     exact ⟨⟨_, hr, rfl, by rw [if_neg (by simp)]; exact h1.2.1⟩, _, h1.2.2⟩
    ·exact h.elim
   ·exact ⟨⟨rfl, rfl⟩, _, h⟩
   ·exact ⟨trivial, _, h⟩
   ·exact h.elim
  obtain ⟨h1, K', h2⟩ := both
  obtain ⟨h3, h4⟩ := L9 ss xs K' h2
  refine ⟨by simp [h3], fun k y z hy hz => ?_⟩
  cases k with
  | zero => simp at hy hz; subst hy; subst hz; exact h1
  | succ k => exact h4 k y z (by simpa using hy) (by simpa using hz)
 | [], _ :: _, _, h => h.elim
 | _ :: _, [], _, h => h.elim
theorem N2 {σ : List (Option Nat)} {rt2 : List (Option Root)} : ∀ (kp : Nat), vI σ rt2 kp = true → ∀ r, r < kp → σ[r]? = some (some r) ∨ (σ[r]? = some none ∧ rt2[r]? = some none)
 | 0, _, r, hr => by omega
 | kp + 1, h, r, hr => by
  simp only [vI, Bool.and_eq_true] at h
  by_cases e : r = kp
  ·subst e
   have h := h.1
   split at h
   ·rename_i r' hσ; rw [Nat.beq_eq] at h; rw [hσ, ← h]; exact .inl rfl
   ·rename_i hσ
    split at h
    ·rename_i hx; exact .inr ⟨hσ, hx⟩
    ·cases h
   ·cases h
  ·exact N2 kp h.2 r (by omega)
theorem BelowD.to {σ : List (Option Nat)} {kp : Nat} {w : World} {own ow2 : Nat → Option Lab} {rt rt2 : RT} (hs : SigOk σ own ow2 rt rt2)
  (hk : ∀ r, r < kp → σ[r]? = some (some r) ∨ (σ[r]? = some none ∧ rt2 r = some none)) {d : D} (h : BelowD kp d) :
  ∀ v, Mt w (okb w own) own rt d v → Mt w (okb w ow2) ow2 rt2 d v := by
 induction h with
 | undef => intro v _; exact .undef v
 | kb b => intro v hm; rw [hm.kb_inv]; exact .sh _ _ (.kb _)
 | lit u => intro v hm; rw [hm.lit_inv]; exact .sh _ _ (.lit _)
 | list => intro v hm; exact hm.list_inv.two hs
 | cptr => intro v hm; exact hm.cptr_inv.two hs
 | full => intro v hm; exact hm.full_inv.two hs
 | agg ds _ ih =>
  intro v hm
  obtain ⟨vs, hv, hl, hr⟩ := hm.agg_inv
  subst hv
  exact .agg _ _ hl (fun i d v hd hv => ih d (List.mem_of_getElem? hd) v (hr i d v hd hv))
 | tup ds _ ih =>
  intro v hm
  obtain ⟨vs, hv, hl, hr⟩ := hm.tup_inv
  subst hv
  exact .tup _ _ hl (fun i d v hd hv => ih d (List.mem_of_getElem? hd) v (hr i d v hd hv))
 | fn f fs cs _ _ ihf ih =>
  intro v hm
  obtain ⟨first, caps, hv, hl1, hl2, hr1, hr2⟩ := hm.fn_inv
  subst hv
  exact .fn _ _ _ _ _ hl1 hl2 (fun i d v hd hv => ihf d (List.mem_of_getElem? hd) v (hr1 i d v hd hv)) (fun i d v hd hv => ih d (List.mem_of_getElem? hd) v (hr2 i d v hd hv))
 | ref r p sz off m hr =>
  intro v hm
  have hone : v.oneCell' = true := by
   cases hm with
   | ref _ _ _ _ _ _ _ h1 _ => exact h1
   | sh _ _ h => cases h
  rcases hk r hr with hσ | ⟨hσ, hd⟩
  ·obtain ⟨h0, ⟨R, hR⟩, hown⟩ := hs.live _ _ hσ
   refine .ref _ _ _ _ _ _ h0 hone (fun R' hR' => ⟨hs.path _ _ R R' _ hσ hR hR' (hm.ref_path R hR), ?_⟩)
   rcases hm.ref_inv.2 R hR with ⟨b, arr, e, cap, o, hb, hw, hv, hnc, hc, ho⟩ | ⟨hv, ho, hn, hb⟩
   ·exact .inl ⟨b, arr, e, cap, o, (hown b _).2 hb, hw, hv, hnc, hc, ho⟩
   ·exact .inr ⟨hv, ho, hn, fun b hb' => hb b ((hown b _).1 hb')⟩
  ·refine .ref _ _ _ _ _ _ (by rw [hd]; simp) hone (fun R' h => by rw [hd] at h; cases h)
 | ptr r p off hr =>
  intro v hm
  have hone : v.oneCell' = true := by
   cases hm with
   | ptr _ _ _ _ _ h1 _ => exact h1
   | sh _ _ h => cases h
  rcases hk r hr with hσ | ⟨hσ, hd⟩
  ·obtain ⟨h0, ⟨R, hR⟩, hown⟩ := hs.live _ _ hσ
   refine .ptr _ _ _ _ h0 hone (fun R' hR' => ?_)
   obtain ⟨b, arr, e, hb, hw, hv⟩ := hm.ptr_inv.2 R hR
   exact ⟨hs.path _ _ R R' _ hσ hR hR' (hm.ptr_path R hR), b, arr, e, (hown b _).2 hb, hw, hv⟩
  ·refine .ptr _ _ _ _ (by rw [hd]; simp) hone (fun R' h => by rw [hd] at h; cases h)
theorem tX {α : Type} {l : List α} {i : Nat} {x : α} (hx : l[i]? = some x) : i < l.length := by
 rcases Nat.lt_or_ge i l.length with h' | h'
 ·exact h'
 ·rw [List.getElem?_eq_none h'] at hx; cases hx
open Classical in
noncomputable def mI (w0 : Base) (own : Nat → Option Lab) (σ : List (Option Nat)) : Nat → Option Lab := fun b => if w0.hid b then own b else fA own σ b
theorem vG {w0 : Base} {env : Nat → D} {tm : Nat → Value} (hs : Sim w0 env rt tm w own) {b q : Nat} {p : List Nat} (h : mI w0 own σ b = some (q, p)) : (w0.hid b ∧ own b = some (q, p) ∧ rt q = some none ∧ q < w0.keep) ∨ (∃ r, σ[q]? = some (some r) ∧ own b = some (r, p)) := by
 unfold mI at h
 split at h
 ·rename_i hb
  obtain ⟨h1, h2⟩ := hs.hidl b hb
  have h3 := w0.hlk b hb
  rw [h1] at h
  simp only [Option.some.injEq] at h
  rw [h] at h2 h3
  exact .inl ⟨hb, by rw [h1, h], h2, h3⟩
 ·obtain ⟨k, r, e, hk, ho⟩ := Amq h
  have e : q = k := by omega
  subst e
  exact .inr ⟨r, hk, ho⟩
theorem aC.of {kp : Nat} (σ : List (Option Nat)) {st st2 : St} (h : B0 kp σ st st2) : aC kp st st2 := by
 intro w0 a w hkp hf
 obtain ⟨own, hd, hl, hs⟩ := hf
 have h := aO h
 simp only [Bool.and_eq_true] at h
 obtain ⟨⟨hdis, hkeep⟩, h⟩ := h
 obtain ⟨hroots, hlen, hslots⟩ := B7 _ _ _ h
 obtain ⟨hrl, hrt⟩ := L9 _ _ _ hroots
 have hlive : ∀ (k r : Nat), σ[k]? = some (some r) → ∃ R, aQ st.rt r = some (some R) := fun k r hk => by
  obtain ⟨x, hx⟩ := gB hrl hk
  have := hrt k _ _ hk hx
  cases x with
  | none => exact this.elim
  | some R2 => obtain ⟨R, hR, _⟩ := this; exact ⟨R, hR⟩
 have hdeadk : ∀ q, aQ st.rt q = some none → q < w0.keep → σ[q]? = some none ∧ st2.rt[q]? = some none := fun q h1 h2 => by
  rw [hkp] at h2
  rcases N2 kp hkeep q h2 with h3 | h3
  ·obtain ⟨R, hR⟩ := hlive q q h3; rw [hR] at h1; cases h1
  ·exact h3
 have hown0 : ∀ (k r : Nat), σ[k]? = some (some r) → ∀ b p, mI w0 own σ b = some (k, p) ↔ own b = some (r, p) := fun k r hk b p => by
  constructor
  ·intro h
   rcases vG hs h with ⟨_, _, h3, h4⟩ | ⟨r', h3, h4⟩
   ·have := (hdeadk k h3 h4).1; rw [hk] at this; cases this
   ·rw [hk] at h3
    simp only [Option.some.injEq] at h3
    rw [h3]; exact h4
  ·intro h
   unfold mI
   split
   ·rename_i hb
    obtain ⟨h1, h2⟩ := hs.hidl b hb
    obtain ⟨R, hR⟩ := hlive k r hk
    rw [h] at h1
    simp only [Option.some.injEq] at h1
    rw [← h1, hR] at h2; cases h2
   ·have := Ap4 (own := own) (n := 0) hdis hk b p
    exact (by simpa [fA] using this : fA own σ b = some (k, p) ↔ own b = some (r, p)).2 h
 have sig : SigOk σ own (mI w0 own σ) (aQ st.rt) (aQ st2.rt) := by
  refine ⟨fun b hb => ?_, fun k r hk => ?_, fun k r R R2 p hk h1 h2 hp => ?_, fun k hk => ?_⟩
  ·unfold mI
   split
   ·exact hb
   ·unfold fA uB; rw [hb]
  rotate_left
  ·rcases hp with e | ⟨hb, hg⟩
   ·exact .inl e
   ·obtain ⟨x, hx⟩ := gB hrl hk
    have hto := hrt k _ _ hk hx
    unfold aQ at h1 h2
    rw [hx] at h2
    simp only [Option.some.injEq] at h2
    subst h2
    obtain ⟨R0, hR0, hbox, hcs⟩ := hto
    rw [hR0] at h1
    simp only [Option.some.injEq] at h1
    subst h1
    split at hcs
    ·rename_i h9; rw [hbox, h9] at hb; cases hb
    ·exact .inr ⟨by rw [← hbox]; exact hb, by rw [← hcs]; exact hg⟩
  rotate_right
  ·have hlt := tX hk
   obtain ⟨x, hx⟩ := gB hrl hk
   have := hrt k _ _ hk hx
   cases x with
   | none => exact this.elim
   | some R2 =>
    obtain ⟨R, hR, _⟩ := this
    exact ⟨by unfold aQ; rw [hx]; simp, ⟨R, hR⟩, hown0 k r hk⟩
  ·obtain ⟨x, hx⟩ := gB hrl hk
   refine ⟨by unfold aQ; rw [hx]; simp, fun R hR b p hb => ?_⟩
   rcases vG hs hb with ⟨_, _, h3, h4⟩ | ⟨r', h3, h4⟩
   ·have := (hdeadk k h3 h4).2
    have hR' : st2.rt[k]? = some (some R) := hR
    rw [this] at hR'; cases hR'
   ·rw [hk] at h3; cases h3
 refine ⟨mI w0 own σ, hd, by rw [hlen]; exact hl, ⟨hs.below, fun i => ?_, ?_, ?_, fun b hb => ?_, ?_, fun d v hp => ?_⟩⟩
 ·show Mt w _ _ _ (st2.env.getD i .undef) (a.tmps.getD i Go.undef)
  rw [List.getD_eq_getElem?_getD]
  cases hi : st2.env[i]? with
  | none => exact .undef _
  | some d2 =>
   obtain ⟨d, hd'⟩ := gB hlen hi
   have := hs.env i
   rw [List.getD_eq_getElem?_getD, hd'] at this
   exact hslots i d2 d hi hd' w own _ _ _ sig _ this
 ·intro k R2 hk
  have hx : st2.rt[k]? = some (some R2) := hk
  obtain ⟨s, hσ⟩ := gB hrl.symm hx
  have hto := hrt k s _ hσ hx
  cases s with
  | none =>
   refine .inr ⟨hto.1, hto.2, fun b => (sig.fresh k hσ).2 R2 hk b []⟩
  | some r =>
   obtain ⟨R, hR, hbox, hcs⟩ := hto
   obtain ⟨_, _, hown⟩ := sig.live k r hσ
   rcases hs.roots r R hR with ⟨b, arr, e, h1, h2, h3, h4⟩ | ⟨h1, h2, h3⟩
   ·refine .inl ⟨b, arr, e, (hown b []).2 h1, h2, ?_, fun i d2 v hd2 hv => ?_⟩
    ·split at hcs
     ·rw [hcs.1]; exact h3
     ·rw [← hcs]; exact h3
    ·unfold bX
     split at hcs
     ·rename_i hb
      rw [if_pos hb]
      obtain ⟨d, hd'⟩ := gB hcs.1 hd2
      have := h4 i d v hd' hv
      unfold bX at this
      rw [hbox, if_pos hb] at this
      exact hcs.2 i d2 d hd2 hd' w own _ _ _ sig v this
     ·rename_i hb
      rw [if_neg hb]
      rw [← hcs] at hd2
      have := h4 i d2 v hd2 hv
      unfold bX at this
      rw [hbox, if_neg hb] at this
      exact this.relab (k, [i]) (fun b hb => ⟨sig.okb hb, rfl⟩) (fun b q hq => ⟨(hown b _).2 hq, rfl⟩) (fun b q hq => (hown b _).1 hq)
   ·split at hcs
    ·rename_i hb; rw [hbox, hb] at h1; cases h1
    ·exact .inr ⟨by rw [← hbox]; exact h1, by rw [← hcs]; exact h2, fun b hb => h3 b ((hown b []).1 hb)⟩
 ·intro b q p hb
  rcases vG hs hb with ⟨hx, h2, h3, h4⟩ | ⟨r, hk, ho⟩
  ·obtain ⟨_, k2, _⟩ := hs.lab b q p h2
   have := (hdeadk q h3 h4).2
   exact ⟨fun _ => this, k2, by unfold aQ; rw [this]; simp⟩
  ·obtain ⟨h1, h2, _⟩ := hs.lab b r p ho
   obtain ⟨R, hR⟩ := hlive q r hk
   refine ⟨fun hp => ?_, h2, (sig.live q r hk).1⟩
   have := h1 hp
   rw [hR] at this; cases this
 ·obtain ⟨h1, h2⟩ := hs.hidl b hb
  refine ⟨by unfold mI; rw [if_pos hb]; exact h1, (hdeadk _ h2 (w0.hlk b hb)).2⟩
 ·intro b b' l h h'
  obtain ⟨q, p⟩ := l
  rcases vG hs h with ⟨hx, h2, h3, h4⟩ | ⟨r, hk, ho⟩ <;> rcases vG hs h' with ⟨hx', h2', h3', h4'⟩ | ⟨r', hk', ho'⟩
  ·exact hs.inj b b' _ h2 h2'
  ·have := (hdeadk q h3 h4).1; rw [hk'] at this; cases this
  ·have := (hdeadk q h3' h4').1; rw [hk] at this; cases this
  ·rw [hk] at hk'
   simp only [Option.some.injEq] at hk'
   subst hk'
   exact hs.inj b b' _ ho ho'
 ·exact BelowD.to sig (fun r hr => N2 kp hkeep r hr) (by have := w0.hk d v hp; rw [hkp] at this; exact this) _ (hs.susp d v hp)
end
end Go.Vm
namespace Go.Vm
open Go Go.RowKit
theorem iT {n : Int} (h1 : -9223372036854775808 ≤ n) (h2 : n ≤ 9223372036854775807) : eO .i64 n := IntWalk.i64_in n ⟨h1, h2⟩
abbrev aA (n : Int) : D := .lit (.int .i64 n)
def ints (l : List Int) : List D := l.map aA
@[simp] theorem aD (l : List Int) : (ints l).length = l.length := by simp [ints]
@[simp] theorem At1 : ints [] = [] := rfl
theorem Al4 (l m : List Int) : ints l ++ ints m = ints (l ++ m) := by simp [ints]
theorem ints_at {l : List Int} {i : Nat} {x : Int} (h : l[i]? = some x) : (ints l)[i]? = some (aA x) := by simp [ints, h]
theorem ints_set (l : List Int) (i : Nat) (x : Int) : (ints l).set i (aA x) = ints (l.set i x) := by simp [ints, List.map_set]
theorem Aik (n : Nat) (x : Int) : List.replicate n (aA x) = ints (List.replicate n x) := by simp [ints]
theorem Ap3 (l : List Int) (n : Nat) : (ints l).take n = ints (l.take n) := by simp [ints, List.map_take]
theorem Asm (l : List Int) (n : Nat) : (ints l).drop n = ints (l.drop n) := by simp [ints, List.map_drop]
theorem xI (l : List Int) : ∀ x ∈ ints l, PlainD x := by
 intro x hx
 simp only [ints, List.mem_map] at hx
 obtain ⟨a, _, rfl⟩ := hx
 exact .lit _
theorem jG.ints {l : List Int} {i : Nat} (x : Int) (h : i < l.length) : jG (ints l) [] i (aA x) (ints (l.set i x)) := by
 refine ⟨_, rfl, by simpa using h, fun y hy => ?_, ?_⟩
 ·simp only [Go.Vm.ints, List.getElem?_map, Option.map_eq_some_iff] at hy
  obtain ⟨a, _, rfl⟩ := hy
  rfl
 ·show (Go.Vm.ints l).set i (aA x) = _
  exact ints_set l i x
abbrev bD (b : Bool) : D := .lit (.bool b)
theorem bO {a b : Bool} (h : a = b) : bD a = bD b := by rw [h]
theorem aB (cs : List D) : cnt 1 cs = cs.length := rfl
theorem eY (off j : Nat) : place 1 off j = off + j := rfl
theorem A2 {l : List Int} {k : Nat} (h : k < l.length) : (ints l)[k]? = some (aA (l.getD k 0)) := by
 rw [ints_at (List.getElem?_eq_getElem h)]; simp [h]
theorem Aez {l : List Int} {k : Nat} (h : k < l.length) : eK (ints l) [] k (aA (l.getD k 0)) := ⟨_, rfl, A2 h⟩
theorem room {n b : Nat} (h1 : n * b ≤ 140737488355328) (h2 : n ≤ 140737488355328) : gA n b := ⟨h1, h2⟩
theorem J3 (n : Nat) (x : Int) : gO n [aA x] = ints (List.replicate n x) := Aik n x
theorem lV {k : IntKind} {a b : Int} (h : a = b) : sW (.int k a) (.int k b) := by
 subst h
 show chk (vQ k k) (a = a)
 cases k <;> exact rfl
theorem Ak1 {l : List Int} {n : Nat} (h : n = l.length) : sub (ints l) 1 0 n = ints l := by
 subst h
 simp [sub, ints, List.take_of_length_le]
theorem V6 (l : List Int) (off n : Nat) : sub (ints l) 1 off n = ints ((l.drop off).take n) := by
 simp [sub, ints, List.map_take, List.map_drop]
end Go.Vm
namespace Go.Vm
open Go Go.RowKit Go.ChangeShapes Go.WideShapes Go.ChangeAt
theorem aL.calls {P : Program} {f : FuncId} {args : List D} {rs : D} (h : aL P f args rs) {fn : Func} (hfn : P.funcs[f]? = some fn) (hb : fn.body.isNone = false) (hname : (fn.name == "runtime.NumGoroutine") = false)
  {w : World} {vals : Array Value} (hsz : vals.size = args.length) (hv : ∀ (i : Nat) d v, args[i]? = some d → vals[i]? = some v → Sh w (fun b => b < w.heap.size) d v) (n : Nat) :
  Calls P f vals w (fun e w' => ∃ v, e = .returned v ∧ Below w.heap.size w w' ∧ mC w w' n rs v) := by
 rcases h w vals n hsz hv with ⟨fn', _, _, _, hc⟩ | ⟨v, w', hr, _⟩
 ·exact hc
 ·have h2' : fn.name ≠ "runtime.NumGoroutine" := by simpa using hname
  have h3' : fn.body ≠ none := fun e => by rw [e] at hb; simp at hb
  simp [callFunc, program, Sem.run_bind, Sem.run, hfn, h2', h3'] at hr
theorem mC.bool {w w' : World} {n : Nat} {b : Bool} {v : Value} (h : mC w w' n (bD b) v) : v = .bool b := by
 obtain ⟨own, _, _, _, hm⟩ := h
 exact hm.lit_inv
end Go.Vm
namespace Go.Vm
open Go Go.RowKit
def iJ : Code → List Nat
 | .region _ ops _ => ops.toList.filterMap (·.dst)
 | .seq x y => iJ x ++ iJ y
 | .cond _ x y => iJ x ++ iJ y
 | .block _ c => iJ c
 | .loop c => iJ c
 | _ => []
def K8 (x : Nat) : List Nat → Bool
 | [] => false
 | y :: l => match Nat.beq x y with
  | true => true
  | false => K8 x l
def clr (ds : List Nat) : Nat → List D → List D
 | _, [] => []
 | i, d :: r => (match K8 i ds with
  | true => .undef
  | false => d) :: clr ds (i + 1) r
def nD : List Nat → (List Nat → Prop) → Prop
 | [], k => k []
 | n :: l, k => nD l fun l => k (n :: l)
theorem sM : ∀ (l : List Nat) (k : List Nat → Prop), nD l k = k l
 | [], _ => rfl
 | n :: l, k => by simp only [nD, sM l]
def J9 : List (Nat × D) → List D → List D
 | [], env => env
 | (s, d) :: ss, env => J9 ss (env.set s d)
def wrP : List (Option Root) → List (Nat × Option Root) → List (Option Root)
 | l, [] => l
 | l, (r, x) :: ws => wrP (match Nat.blt r l.length with
  | true => l.set r x
  | false => l ++ [x]) ws
def lH (st : St) (ds : List Nat) (cs : List (Nat × D)) (rs : List (Nat × Option Root)) : St := ⟨J9 cs (clr ds 0 st.env), wrP st.rt rs⟩
def Aec (d2 d : D) : List (Nat × Nat) :=
 match d2 with
 | .ref k .. => match d with
  | .ref r .. => [(k, r)]
  | _ => []
 | .ptr k .. => match d with
  | .ptr r .. => [(k, r)]
  | _ => []
 | _ => []
def vZ (f : D → D → List (Nat × Nat)) : List D → List D → List (Nat × Nat)
 | d2 :: ds2, d :: ds => f d2 d ++ vZ f ds2 ds
 | _, _ => []
def G1 (f : D → D → List (Nat × Nat)) (d2 d : D) : List (Nat × Nat) :=
 match d2 with
 | .agg ds2 => match d with
  | .agg ds => vZ f ds2 ds
  | _ => []
 | .tup ds2 => match d with
  | .tup ds => vZ f ds2 ds
  | _ => []
 | .fn _ fs2 cs2 => match d with
  | .fn _ fs cs => vZ f fs2 fs ++ vZ f cs2 cs
  | _ => []
 | d2 => Aec d2 d
def Ah0 (d2 d : D) : List (Nat × Nat) := G1 (G1 (G1 Aec)) d2 d
def C5 : List D → List D → List (Nat × Nat)
 | d2 :: ds2, d :: ds => Ah0 d2 d ++ C5 ds2 ds
 | _, _ => []
def O8 (rt2 rt : List (Option Root)) : List (Nat × Nat) → List (Nat × Nat)
 | [] => []
 | (k, r) :: ps => (match rt2[k]? with
  | some (some ⟨true, _, cs2⟩) => (match rt[r]? with
   | some (some ⟨true, _, cs⟩) => C5 cs2 cs
   | _ => [])
  | _ => []) ++ O8 rt2 rt ps
def Aa9 (k : Nat) : List (Nat × Nat) → Option Nat
 | [] => none
 | (a, b) :: ps => match Nat.beq a k with
  | true => some b
  | false => Aa9 k ps
def Agb (kp : Nat) (rt2 : List (Option Root)) (ps : List (Nat × Nat)) : Nat → List (Option Root) → List (Option Nat)
 | _, [] => []
 | k, x :: xs => (match Nat.blt k kp with
  | true => (match x with
   | none => none
   | some _ => some k)
  | false => Aa9 k ps) :: Agb kp rt2 ps (k + 1) xs
def R9 (kp : Nat) (st st2 : St) : List (Option Nat) :=
 let ps := C5 st2.env st.env
 let qs := ps ++ O8 st2.rt st.rt ps
 Agb kp st2.rt (qs ++ O8 st2.rt st.rt qs) 0 st2.rt
def qR : List (Option Nat) → (List (Option Nat) → Prop) → Prop
 | [], k => k []
 | none :: l, k => qR l fun l => k (none :: l)
 | some n :: l, k => qR l fun l => k (some n :: l)
theorem E9 : ∀ (l : List (Option Nat)) (k : List (Option Nat) → Prop), qR l k = k l
 | [], _ => rfl
 | none :: l, k => by simp only [qR, E9 l]
 | some n :: l, k => by simp only [qR, E9 l]
def U5 : D → List Nat
 | .ref k .. => [k]
 | .ptr k .. => [k]
 | _ => []
def rB (f : D → List Nat) : List D → List Nat
 | [] => []
 | d :: ds => f d ++ rB f ds
def D4 (f : D → List Nat) (d : D) : List Nat :=
 match d with
 | .agg ds => rB f ds
 | .tup ds => rB f ds
 | .fn _ fs cs => rB f fs ++ rB f cs
 | d => U5 d
def R3 (d : D) : List Nat := D4 (D4 (D4 U5)) d
def Q1 (rt : List (Option Root)) : List Nat → List Nat
 | [] => []
 | k :: ks => (match rt[k]? with
  | some (some ⟨true, _, cs⟩) => rB R3 cs
  | _ => []) ++ Q1 rt ks
def T6 (st : St) : List Nat :=
 let l := rB R3 st.env
 let l2 := l ++ Q1 st.rt l
 l2 ++ Q1 st.rt l2
def F9 (kp : Nat) (l : List Nat) : Nat → List (Option Root) → List (Option Root)
 | _, [] => []
 | k, x :: xs => (match Nat.blt k kp || K8 k l with
  | true => x
  | false => none) :: F9 kp l (k + 1) xs
def iB (kp : Nat) (st : St) : St := ⟨st.env, F9 kp (T6 st) 0 st.rt⟩
def rY (kp : Nat) (st : St) (k : St → Prop) : Prop := cJ st fun st => nD (T6 st) fun l => cJ ⟨st.env, F9 kp l 0 st.rt⟩ k
theorem D1 (kp : Nat) (st : St) (k : St → Prop) : rY kp st k = k (iB kp st) := by
 unfold rY iB
 rw [gT, sM, gT]
def vD (kp : Nat) (st st2 : St) : Prop := rY kp st2 fun st2 => qR (R9 kp st st2) fun σ => B0 kp σ st st2
@[irreducible] def aG (kp : Nat) (st st2 : St) : Prop := aC kp st st2
theorem aG.to {kp : Nat} {st st2 : St} (h : aG kp st st2) : aC kp st st2 := by unfold aG at h; exact h
theorem aC.auto {kp : Nat} {st st2 : St} (h : vD kp st st2) : aC kp st (iB kp st2) := by
 unfold vD at h
 rw [D1, E9] at h
 exact aC.of _ h
theorem aG.auto {kp : Nat} {st st2 : St} (h : vD kp st st2) : aG kp st (iB kp st2) := by
 unfold aG
 exact aC.auto h
section
variable {P : Program} {T : Tab} {kp : Nat}
theorem dZ (hT : TabOk P T) (hm : P.follows .mixedOrders = true) {body : Code} {Q : Exit → St → Prop} {st : St} {α : Type} (cs : α → List (Nat × D)) (rs : α → List (Nat × Option Root)) (J : α → Prop) (μ : α → Nat) (x0 : α) (h0 : J x0)
  (hw : nD (iJ body) fun ds => aG kp st (iB kp (lH st ds (cs x0) (rs x0))))
  (round : ∀ x, J x → nD (iJ body) fun ds => rY kp (lH st ds (cs x) (rs x)) (vc P T kp body (fun e st' => match e with
   | .normal => ∃ y, J y ∧ μ y < μ x ∧ aC kp st' (iB kp (lH st ds (cs y) (rs y)))
   | e => Q e st'))) : iR P kp body Q st :=
 X4 hT hm (fun x => iB kp (lH st (iJ body) (cs x) (rs x))) J μ x0 h0 (by rw [sM] at hw; exact hw.to) (fun x hx => by
  have h := round x hx
  rw [sM, D1] at h
  exact h)
theorem Aqn (hT : TabOk P T) (hm : P.follows .mixedOrders = true) {g : Nat} {fs cs args : List D} {st : St} {K : D → List (Option Root) → Prop} (fn : Func) {c : Code} (h1 : P.funcs[g]? = some fn) (h2 : fn.body = some c) (h3 : (fn.name == "runtime.NumGoroutine") = false)
  (h : vc P T st.rt.length c (fun e st' => (e = .ret ∨ e = .normal) ∧ kV T st'.env (aQ st'.rt) fn.results.toList fun ds => iS (iK ds) fun d => K d st'.rt)
    ⟨(fs ++ args ++ cs) ++ List.replicate (fn.ntmps - (fs ++ args ++ cs).length) .undef, st.rt⟩) : vN P T (.fn (.func g) fs cs) args st K :=
 ⟨fn, c, h1, h2, h3, uI hT hm _ _ _ h⟩
end
end Go.Vm
namespace Go.Vm
open Go Go.RowKit Go.Fg
def rows (o : Bool) (t : List (List Int)) : List D := t.map fun l => .list o 1 (ints l)
@[simp] theorem aP (o : Bool) (t : List (List Int)) : (rows o t).length = t.length := by simp [rows]
theorem Aib {o : Bool} {t : List (List Int)} {i : Nat} {l : List Int} (h : t[i]? = some l) : (rows o t)[i]? = some (.list o 1 (ints l)) := by simp [rows, h]
theorem mJ {o : Bool} {t : List (List Int)} {i : Nat} (h : i < t.length) : (rows o t)[i]? = some (.list o 1 (ints (t.getD i []))) := by
 rw [Aib (List.getElem?_eq_getElem h)]; simp [h]
theorem Akk (o : Bool) (t : List (List Int)) (l : List Int) : rows o t ++ [.list o 1 (ints l)] = rows o (t ++ [l]) := by simp [rows]
theorem Abg (o : Bool) (t : List (List Int)) (i : Nat) (l : List Int) : (rows o t).set i (.list o 1 (ints l)) = rows o (t.set i l) := by simp [rows, List.map_set]
theorem zM (t : List (List Int)) : ∀ x ∈ rows true t, PlainD x := by
 intro x hx
 simp only [rows, List.mem_map] at hx
 obtain ⟨l, _, rfl⟩ := hx
 exact .list 1 _ (xI l)
theorem rL {t : List (List Int)} {i : Nat} (h : i < t.length) : bE (rows true t) [i] = some (ints (t.getD i [])) := by
 show (match (rows true t)[i]? with | some (.list true _ cs) => bE cs [] | _ => none) = _
 rw [mJ h]; rfl
theorem Agc {t : List (List Int)} {i j : Nat} (h : i < t.length) (h2 : j < (t.getD i []).length) : eK (rows true t) [i] j (aA ((t.getD i []).getD j 0)) := ⟨_, rL h, A2 h2⟩
theorem Q8 {t : List (List Int)} {i : Nat} (h : i < t.length) : eK (rows true t) [] i (.list true 1 (ints (t.getD i []))) := ⟨_, rfl, mJ h⟩
def marks (k : Int) (n : Nat) : List Int := (List.range n).map fun (i : Nat) => k + (i : Int)
@[simp] theorem vB (k : Int) (n : Nat) : (marks k n).length = n := by simp [marks]
theorem Am2 (a b : Nat) : ((a : Int) + (b : Int)).toNat = a + b := by omega
theorem Anw (a : Nat) : ((a : Int) + 1).toNat = a + 1 := by omega
theorem Arx (a : Nat) : ((a : Int) + 2).toNat = a + 2 := by omega
theorem Aqz (a b : Nat) : ((a : Int) - (b : Int)).toNat = a - b := by omega
theorem An9 (a b : Nat) : ((a : Int) + 1 - ((b : Int) + 1)).toNat = a - b := by omega
theorem As0 (a : Nat) : ((a : Int) - 1).toNat = a - 1 := by omega
theorem tR (a : Nat) : ((a : Int)).tdiv 2 = ((a / 2 : Nat) : Int) := by rw [Int.tdiv_eq_ediv_of_nonneg (by omega)]; omega
theorem fS (a : Nat) : ((a : Int)).tmod 2 = ((a % 2 : Nat) : Int) := by rw [Int.tmod_eq_emod_of_nonneg (by omega)]; omega
theorem Aly : (0 : Int).toNat = 0 := rfl
theorem Aj9 : (1 : Int).toNat = 1 := rfl
theorem aF {p : Prop} (h : p := by first | omega | (simp only [aB, aD, aP, aV, aT, vB, eY, List.length_set, List.length_append, List.length_cons, List.length_nil, List.length_replicate, Int.toNat_natCast, tR, fS]; first | done | omega) | (simp only [aB, aD, aP, aV, aT, vB, eY, List.length_set, List.length_append, List.length_cons, List.length_nil, List.length_replicate, Int.toNat_natCast, tR, fS] at *; first | done | omega)) : p := h
class ArP (p : Prop) : Prop where
 ok : True
instance (a b : Int) : ArP (a ≤ b) := ⟨trivial⟩
instance (a b : Int) : ArP (a < b) := ⟨trivial⟩
instance (a b : Int) : ArP (a = b) := ⟨trivial⟩
instance (a b : Int) : ArP (a ≠ b) := ⟨trivial⟩
instance (a b : Int) : ArP (a ∣ b) := ⟨trivial⟩
instance (a b : Nat) : ArP (a ≤ b) := ⟨trivial⟩
instance (a b : Nat) : ArP (a < b) := ⟨trivial⟩
instance (a b : Nat) : ArP (a = b) := ⟨trivial⟩
instance (a b : Nat) : ArP (a ≠ b) := ⟨trivial⟩
instance (a b : Nat) : ArP (a ∣ b) := ⟨trivial⟩
instance (p q : Prop) [ArP p] : ArP (p ∧ q) := ⟨trivial⟩
instance (p q : Prop) [ArP p] : ArP (p ∨ q) := ⟨trivial⟩
instance (p : Prop) [ArP p] : ArP (¬ p) := ⟨trivial⟩
theorem Adm {p : Prop} [ArP p] (h : p := by exact aF) : p := h
theorem aN {k i : Nat} (h : k = i := by first | (simp only [eY, aB, aD, aP, aV, aT, vB, List.length_set, List.length_replicate, Int.toNat_natCast, Nat.zero_add, Nat.add_zero, Am2, Anw, Arx, Aqz, An9, As0, Aly, Aj9]; first | done | rfl) | rfl) : k = i := h
theorem Aks {n b : Nat} {l c : Int} (h1 : 0 ≤ l := by exact aF) (h2 : l ≤ c := by exact aF) (hb : b = 8 ∨ b = 24 := by first | exact .inl rfl | exact .inr rfl) (h3 : n ≤ 1000000000000 := by exact aF) : 0 ≤ l ∧ l ≤ c ∧ gA n b := ⟨h1, h2, ⟨by rcases hb with rfl | rfl <;> omega, by omega⟩⟩
theorem Ace {n b : Nat} (hb : b = 8 ∨ b = 24 := by first | exact .inl rfl | exact .inr rfl) (h3 : n ≤ 1000000000000 := by exact aF) : gA n b := ⟨by rcases hb with rfl | rfl <;> omega, by omega⟩
def Md (m : Int) : Prop := 2 ≤ m ∧ m ≤ 10000
theorem Md.pos {m : Int} (h : Md m) : 0 < m := by have := h.1; omega
theorem Md.mul {m : Int} (h : Md m) (a b : Zm m) : 0 ≤ a.val * b.val ∧ a.val * b.val ≤ 100000000 := by
 have h1 := Zm.val_range h.pos a
 have h2 := Zm.val_range h.pos b
 refine ⟨Int.mul_nonneg h1.1 h2.1, ?_⟩
 have := h.2
 calc a.val * b.val ≤ 10000 * b.val := Int.mul_le_mul_of_nonneg_right (by omega) h2.1
  _ ≤ 10000 * 10000 := Int.mul_le_mul_of_nonneg_left (by omega) (by omega)
  _ = 100000000 := by rfl
theorem Ab8 {m : Int} (h : Md m) (a : Zm m) : eO .i64 (0 - a.val) := by
 have := Zm.val_range h.pos a; have := h.2; exact iT (by omega) (by omega)
theorem T3 {m : Int} (h : Md m) (a b : Zm m) : eO .i64 (a.val + b.val) := by
 have := Zm.val_range h.pos a; have := Zm.val_range h.pos b; have := h.2; exact iT (by omega) (by omega)
theorem Ac5 {m : Int} (h : Md m) (a b : Zm m) : eO .i64 (a.val - b.val) := by
 have := Zm.val_range h.pos a; have := Zm.val_range h.pos b; have := h.2; exact iT (by omega) (by omega)
theorem Aa5 {m : Int} (h : Md m) (a b : Zm m) : eO .i64 (a.val * b.val) := by
 have := h.mul a b; exact iT (by omega) (by omega)
theorem U1 {m : Int} (h : Md m) (a b c : Zm m) : eO .i64 (c.val + a.val * b.val) := by
 have := h.mul a b; have := Zm.val_range h.pos c; have := h.2; exact iT (by omega) (by omega)
theorem Afw {m : Int} (h : Md m) (a : Zm m) : eO .i64 (m - a.val) := by
 have := Zm.val_range h.pos a; have := h.2; exact iT (by omega) (by omega)
theorem tm {m : Int} (h : Md m) {e : Int} {z : Zm m} (h0 : 0 ≤ e) (hz : Zm.mk m e = z) : e.tmod m = z.val := Zm.tmod_val h0 hz
theorem rM {m : Int} (h : Md m) (a b : Zm m) : (a.val + b.val).tmod m = (a + b).val := by
 have := Zm.val_range h.pos a; have := Zm.val_range h.pos b
 exact Zm.tmod_val (by omega) (by rw [Zm.mk_add, Zm.mk_val, Zm.mk_val])
theorem fF {m : Int} (h : Md m) (a b : Zm m) : (a.val * b.val).tmod m = (a * b).val :=
 Zm.tmod_val (h.mul a b).1 (by rw [Zm.mk_mul, Zm.mk_val, Zm.mk_val])
theorem kO {m : Int} (h : Md m) (a b c : Zm m) : (c.val + a.val * b.val).tmod m = (c + a * b).val := by
 have := h.mul a b; have := Zm.val_range h.pos c
 exact Zm.tmod_val (by omega) (by rw [Zm.mk_add, Zm.mk_mul, Zm.mk_val, Zm.mk_val, Zm.mk_val])
theorem tZ {m : Int} (h : Md m) (x u : Zm m) : 0 ≤ (m - x.val) * u.val ∧ (m - x.val) * u.val ≤ 100000000 := by
 have h1 := Zm.val_range h.pos x
 have h2 := Zm.val_range h.pos u
 refine ⟨Int.mul_nonneg (by omega) h2.1, ?_⟩
 have := h.2
 calc (m - x.val) * u.val ≤ 10000 * u.val := Int.mul_le_mul_of_nonneg_right (by omega) h2.1
  _ ≤ 10000 * 10000 := Int.mul_le_mul_of_nonneg_left (by omega) (by omega)
  _ = 100000000 := by rfl
theorem Ad7 {m : Int} (h : Md m) (x u : Zm m) : eO .i64 ((m - x.val) * u.val) := by
 have := tZ h x u; exact iT (by omega) (by omega)
theorem F4 {m : Int} (h : Md m) (x u : Zm m) : ((m - x.val) * u.val).tmod m = (-(x * u)).val :=
 Zm.tmod_val (tZ h x u).1 (by rw [Zm.mk_mul, Zm.mk_sub, Zm.mk_val, Zm.mk_val, Zm.mk_self, Go.Fg.sub_def, CR.zero_add, Go.Fg.neg_mul])
theorem Aa6 (x : Int) : ∀ d ∈ sub [aA x] 1 0 1, d.cellOk = true := by
 intro d hd
 simp [sub] at hd
 subst hd; rfl
theorem S3 (l : List Int) : ∀ d ∈ ints l, d.cellOk = true := by
 intro d hd
 simp only [ints, List.mem_map] at hd
 obtain ⟨x, _, rfl⟩ := hd; rfl
theorem Aff (o : Bool) (t : List (List Int)) : ∀ d ∈ rows o t, d.one = true := by
 intro d hd
 simp only [rows, List.mem_map] at hd
 obtain ⟨x, _, rfl⟩ := hd; rfl
theorem Ac6 (l : List Int) : ∀ d ∈ [D.list true 1 (ints l)], d.one = true := by
 intro d hd
 simp at hd
 subst hd; rfl
class KInR (p : Prop) : Prop where
 ok : True
instance (k : IntKind) (n : Int) : KInR (eO k n) := ⟨trivial⟩
class KRoom (p : Prop) : Prop where
 ok : True
instance (n b : Nat) : KRoom (gA n b) := ⟨trivial⟩
instance (p q : Prop) (n b : Nat) : KRoom (p ∧ q ∧ gA n b) := ⟨trivial⟩
class KLoad (p : Prop) : Prop where
 ok : True
instance (cs : List D) (p : List Nat) (i : Nat) (d : D) : KLoad (eK cs p i d) := ⟨trivial⟩
class KStore (p : Prop) : Prop where
 ok : True
instance (cs : List D) (p : List Nat) (i : Nat) (d : D) (cs' : List D) : KStore (jG cs p i d cs') := ⟨trivial⟩
class KEqO (p : Prop) : Prop where
 ok : True
instance {α : Type} (a b : Option α) : KEqO (a = b) := ⟨trivial⟩
class KEqL (p : Prop) : Prop where
 ok : True
instance {α : Type} (a b : List α) : KEqL (a = b) := ⟨trivial⟩
class KEqN (p : Prop) : Prop where
 ok : True
instance (a b : Nat) : KEqN (a = b) := ⟨trivial⟩
theorem Aai {p : Prop} [KInR p] (h : p := by exact iT aF aF) : p := h
theorem Aas {p : Prop} [KRoom p] (h : p := by first | exact Aks | exact Ace) : p := h
theorem bP {p : Prop} (h : p := by first | exact rfl | assumption | exact .inl rfl | exact .inr rfl | exact xI _ | exact zM _ | exact Aa6 _ | exact S3 _ | exact Aff _ _ | exact Ac6 _ | exact Aai | exact Ab8 (by assumption) _ | exact T3 (by assumption) _ _ | exact Ac5 (by assumption) _ _ | exact Aa5 (by assumption) _ _ | exact U1 (by assumption) _ _ _ | exact Afw (by assumption) _ | exact Ad7 (by assumption) _ _ | exact Adm | exact Aas) : p := h
theorem Aq1 {l : List Int} {k i : Nat} (e : k = i := by exact aN) (h : i < l.length := by exact aF) : eK (ints l) [] k (aA (l.getD i 0)) := by subst e; exact Aez h
theorem Ap2 {l : List Int} {k i : Nat} (e : k = i := by exact aN) (h : i < l.length := by exact aF) : (ints l)[k]? = some (aA (l.getD i 0)) := by subst e; exact A2 h
theorem Ahe {l : List Int} {k i : Nat} (x : Int) (e : k = i := by exact aN) (h : i < l.length := by exact aF) : jG (ints l) [] k (aA x) (ints (l.set i x)) := by subst e; exact jG.ints x h
theorem Aiz {l : List Int} {n : Nat} (h : n = l.length := by exact aF) : sub (ints l) 1 0 n = ints l := Ak1 h
theorem Agg {t : List (List Int)} {q i k j : Nat} (e : q = i := by exact aN) (e2 : k = j := by exact aN) (h : i < t.length := by exact aF) (h2 : j < (t.getD i []).length := by exact aF) : eK (rows true t) [q] k (aA ((t.getD i []).getD j 0)) := by subst e; subst e2; exact Agc h h2
theorem Ah1 {t : List (List Int)} {k i : Nat} (e : k = i := by exact aN) (h : i < t.length := by exact aF) : eK (rows true t) [] k (.list true 1 (ints (t.getD i []))) := by subst e; exact Q8 h
theorem Ai3 {o : Bool} {t : List (List Int)} {k i : Nat} (e : k = i := by exact aN) (h : i < t.length := by exact aF) : (rows o t)[k]? = some (.list o 1 (ints (t.getD i []))) := by subst e; exact mJ h
theorem Ane {m : Int} {n k k' : Nat} {a : PS (Zm m)} (e : k = k' := by exact aN) (h : k' ≤ n := by exact aF) : sub (ints (L n a)) 1 0 k = ints (L k' a) := by
 subst e; rw [V6, List.drop_zero, Adb a h]
theorem Aoz (l : List Int) (x : Int) : ints l ++ [aA x] = ints (l ++ [x]) := by simp [ints]
theorem Ai5 (t : List (List Int)) (l : List Int) : rows true t ++ [.list true 1 (ints l)] = rows true (t ++ [l]) := Akk true t l
theorem An3 (n : Nat) : gO n [aA 0] = ints (List.replicate n 0) := J3 n 0
theorem bQ {n k : Nat} (h : n = k := by exact aF) : gO n [aA 0] = ints (List.replicate k 0) := by subst h; exact J3 n 0
theorem bR {m : Int} {n k : Nat} (h : n = k := by exact aF) : gO n [aA 0] = ints (L k (0 : PS (Zm m))) := by subst h; rw [fT]; exact J3 n 0
theorem Aht {m : Int} {n k i : Nat} {a : PS (Zm m)} (e : k = i := by exact aN) (h : i < n := by exact aF) : eK (ints (L n a)) [] k (aA (a.c i).val) := by
 subst e; rw [← nE a h]; exact Aez (by simpa using h)
theorem Ao9 {m : Int} {n k i : Nat} {a : PS (Zm m)} (e : k = i := by exact aN) (h : i < n := by exact aF) : (ints (L n a))[k]? = some (aA (a.c i).val) := by
 subst e; rw [← nE a h]; exact A2 (by simpa using h)
theorem Aqa {m : Int} {n q i k j : Nat} {f : PS (PS (Zm m))} (e : q = i := by exact aN) (e2 : k = j := by exact aN) (h : i + j < n := by exact aF) : eK (rows true (Tb n f)) [q] k (aA ((f.c i).c j).val) := by
 subst e; subst e2
 have h1 := Agc (t := Tb n f) (i := q) (j := k) (by simp; omega) (by rw [lO f (by omega)]; simp; omega)
 rw [lO f (by omega), nE _ (by omega)] at h1
 exact h1
theorem Aho {m : Int} {n k i : Nat} {f : PS (PS (Zm m))} (e : k = i := by exact aN) (h : i < n := by exact aF) : eK (rows true (Tb n f)) [] k (.list true 1 (ints (L (n - i) (f.c i)))) := by
 subst e; rw [← lO f h]; exact Q8 (by simpa using h)
theorem Aix {m : Int} {o : Bool} {n k i : Nat} {f : PS (PS (Zm m))} (e : k = i := by exact aN) (h : i < n := by exact aF) : (rows o (Tb n f))[k]? = some (.list o 1 (ints (L (n - i) (f.c i)))) := by
 subst e; rw [← lO f h]; exact mJ (by simpa using h)
theorem Ajk {p : Prop} [KLoad p] (h : p := by first | exact Aht | exact Aqa | exact Aho | exact Aq1 | exact Agg | exact Ah1) : p := h
theorem App {p : Prop} [KStore p] (h : p := by exact Ahe _) : p := h
theorem Akc {p : Prop} [KEqO p] (h : p := by first | exact Ao9 | exact Aix | exact Ap2 | exact Ai3 | exact rfl) : p := h
theorem As7 {p : Prop} [KEqL p] (h : p := by first | exact An3 _ | exact Aoz _ _ | exact Ai5 _ _ | exact Aiz | exact Ane | exact V6 _ _ _ | exact rfl) : p := h
theorem Am5 {p : Prop} [KEqN p] (h : p := by first | exact aN | exact rfl) : p := h
theorem aH {p : Prop} (h : p := by first | exact Ajk | exact Akc | exact As7 | exact App | exact Am5) : p := h
theorem z0 {α : Sort _} {x : α} {b q : Prop} (h : q) : (x = x ∨ b) ∧ q := ⟨.inl rfl, h⟩
theorem z1 {α : Sort _} {x : α} {q : Prop} (h : q) : x = x ∧ q := ⟨rfl, h⟩
theorem z2 {k : IntKind} {a b : Int} {q : Prop} (h : q) (h0 : a = b := by first | omega | (simp only [aB, aD, aP, aV, aT, vB, eY, List.length_set, List.length_append, List.length_cons, List.length_nil, List.length_replicate, Int.toNat_natCast, tR, fS]; first | done | omega) | (simp only [aB, aD, aP, aV, aT, vB, eY, List.length_set, List.length_append, List.length_cons, List.length_nil, List.length_replicate, Int.toNat_natCast, tR, fS] at *; first | done | omega)) : sW (.int k a) (.int k b) ∧ q := ⟨lV h0, h⟩
theorem zS {ops : Array Oper} {q : Prop} (h : q) (h0 : oM ops = true := by decide +kernel) : oM ops = true ∧ q := ⟨h0, h⟩
theorem zV {p q : Prop} (h : q) (h0 : p := by first | exact rfl | assumption | exact .inl rfl | exact .inr rfl | exact xI _ | exact zM _ | exact Aa6 _ | exact S3 _ | exact Aff _ _ | exact Ac6 _ | exact Aai | exact Ab8 (by assumption) _ | exact T3 (by assumption) _ _ | exact Ac5 (by assumption) _ _ | exact Aa5 (by assumption) _ _ | exact U1 (by assumption) _ _ _ | exact Afw (by assumption) _ | exact Ad7 (by assumption) _ _ | exact Adm | exact Aas) : p ∧ q := ⟨h0, h⟩
theorem zI {α : Sort _} {p : α → Prop} (w : α) (h : p w) : ∃ x, p x := ⟨w, h⟩
theorem zP {a b : Prop} (h : a) (k : b) : a ∧ b := ⟨h, k⟩
end Go.Vm
