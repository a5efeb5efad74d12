/- What a function returns; from obligations to a contract. -/
import Derived.Test.YtnonhialafcjmaaVm22
set_option linter.unusedVariables false
set_option linter.unusedSimpArgs false
set_option linter.unusedSectionVars false
namespace Go.Vm
open Go Go.RowKit

/-- Data that shares nothing. -/
inductive PlainD : D → Prop
  | undef : PlainD .undef
  | kb (b : Bool) : PlainD (.kb b)
  | lit (v : Value) : PlainD (.lit v)
  | list (sz : Nat) (cs : List D) (h : ∀ x ∈ cs, PlainD x) : PlainD (.list true sz cs)

theorem PlainD.cells {sz : Nat} {cs : List D} (h : PlainD (.list true sz cs)) : ∀ x ∈ cs, PlainD x := by cases h; assumption

theorem Tr.plain {w : World} {ok ok' : Nat → Prop} {own own' : Nat → Option Lab} {l : Lab} {d : D} {v : Value} (h : Tr w ok own l d v) (hp : PlainD d) (l' : Lab)
    (hown : ∀ b q, own b = some (l.1, l.2 ++ q) ↔ own' b = some (l'.1, l'.2 ++ q)) : Tr w ok' own' l' d v := by
  induction h generalizing l' with
  | sh l d v ho h =>
    refine .sh l' d v ho ?_
    cases hp with
    | undef => exact .undef v
    | kb b => cases h; exact .kb b
    | lit x => cases h; exact .lit _
    | list sz cs _ => simp [D.notOwn] at ho
  | nil l sz hn => exact .nil l' sz (fun b hb => hn b (by simpa using (hown b []).2 (by simpa using hb)))
  | own l sz cs b len cap arr e hz hl hlc hb hw hc hs hr ih =>
    refine .own l' sz cs b len cap arr e hz hl hlc (by simpa using (hown b []).1 (by simpa using hb)) hw hc hs (fun i d v hd hv => ih i d v hd hv (hp.cells d (List.mem_of_getElem? hd)) (l'.1, l'.2 ++ [i]) ?_)
    intro b q
    simpa using hown b (i :: q)

def retOne (rt : RT) (d : D) (K : D → Option Nat → Prop) : Prop :=
  match d with
  | .kb b => K (.lit (.bool b)) none
  | .lit v => K (.lit v) none
  | .fn f [] [] => K (.fn f [] []) none
  | .ref r [] sz 0 m => match rt r with
    | some (some ⟨false, s, cs⟩) => chk (Nat.beq s sz && !(Nat.beq sz 0)) (m * sz = cs.length ∧ (∀ x ∈ cs, PlainD x) ∧ K (.list true sz cs) (some r))
    | _ => False
  | _ => False
def retL (rt : RT) : List D → (List D → List (Option Nat) → Prop) → Prop
  | [], K => K [] []
  | d :: ds, K => retOne rt d fun d s => retL rt ds fun ds ss => K (d :: ds) (s :: ss)
def retC (rt : RT) (d : D) (K : D → List (Option Nat) → Prop) : Prop :=
  match d with
  | .agg ds => retL rt ds fun ds ss => K (.agg ds) ss
  | d => retOne rt d fun d s => K d [s]
def retT (rt : RT) : List D → (List D → List (Option Nat) → Prop) → Prop
  | [], K => K [] []
  | d :: ds, K => retC rt d fun d s => retT rt ds fun ds ss => K (d :: ds) (s ++ ss)
def distinct : List (Option Nat) → Bool
  | [] => true
  | none :: l => distinct l
  | some r :: l => !(l.any fun x => match x with | some s => Nat.beq r s | none => false) && distinct l
def retK (rt : RT) (d : D) (K : D → Prop) : Prop :=
  match d with
  | .tup ds => retT rt ds fun ds ss => chk (distinct ss) (K (.tup ds))
  | d => retC rt d fun d ss => chk (distinct ss) (K d)

/-- One result and its closed form. -/
inductive One (rt : RT) : D → D → Option Nat → Prop
  | kb (b : Bool) : One rt (.kb b) (.lit (.bool b)) none
  | lit (v : Value) : One rt (.lit v) (.lit v) none
  | fn (f : Fn) : One rt (.fn f [] []) (.fn f [] []) none
  | ref (r sz m : Nat) (cs : List D) (hr : rt r = some (some ⟨false, sz, cs⟩)) (hz : sz ≠ 0) (hm : m * sz = cs.length) (hp : ∀ x ∈ cs, PlainD x) : One rt (.ref r [] sz 0 m) (.list true sz cs) (some r)

theorem retOne_rel {rt : RT} {d : D} {K : D → Option Nat → Prop} (h : retOne rt d K) : ∃ d' s, K d' s ∧ One rt d d' s := by
  unfold retOne at h
  split at h
  · exact ⟨_, _, h, .kb _⟩
  · exact ⟨_, _, h, .lit _⟩
  · exact ⟨_, _, h, .fn _⟩
  · split at h
    · rename_i r sz m s cs hr
      have h1 := chk_and h
      simp only [Bool.and_eq_true, Nat.beq_eq, Bool.not_eq_true'] at h1
      obtain ⟨⟨e, hz⟩, hm, hp, hk⟩ := h1
      subst e
      have hz : s ≠ 0 := fun e => by rw [e] at hz; cases hz
      exact ⟨_, _, hk, .ref _ _ _ _ hr hz hm hp⟩
    · exact h.elim
  · exact h.elim

inductive OneL (rt : RT) : List D → List D → List (Option Nat) → Prop
  | nil : OneL rt [] [] []
  | cons {d d' s ds ds' ss} (h : One rt d d' s) (t : OneL rt ds ds' ss) : OneL rt (d :: ds) (d' :: ds') (s :: ss)

theorem retL_rel {rt : RT} : ∀ (ds : List D) (K : List D → List (Option Nat) → Prop), retL rt ds K → ∃ ds' ss, K ds' ss ∧ OneL rt ds ds' ss
  | [], _, h => ⟨_, _, h, .nil⟩
  | d :: ds, K, h => by
    obtain ⟨d', s, h1, h2⟩ := retOne_rel h
    obtain ⟨ds', ss, h3, h4⟩ := retL_rel ds _ h1
    exact ⟨_, _, h3, .cons h2 h4⟩

inductive OneC (rt : RT) : D → D → List (Option Nat) → Prop
  | one {d d' s} (h : One rt d d' s) : OneC rt d d' [s]
  | agg {ds ds' ss} (h : OneL rt ds ds' ss) : OneC rt (.agg ds) (.agg ds') ss

theorem retC_rel {rt : RT} {d : D} {K : D → List (Option Nat) → Prop} (h : retC rt d K) : ∃ d' s, K d' s ∧ OneC rt d d' s := by
  unfold retC at h
  split at h
  · obtain ⟨ds', ss, h1, h2⟩ := retL_rel _ _ h
    exact ⟨_, _, h1, .agg h2⟩
  · obtain ⟨d', s, h1, h2⟩ := retOne_rel h
    exact ⟨_, _, h1, .one h2⟩

inductive OneT (rt : RT) : List D → List D → List (Option Nat) → Prop
  | nil : OneT rt [] [] []
  | cons {d d' s ds ds' ss} (h : OneC rt d d' s) (t : OneT rt ds ds' ss) : OneT rt (d :: ds) (d' :: ds') (s ++ ss)

theorem retT_rel {rt : RT} : ∀ (ds : List D) (K : List D → List (Option Nat) → Prop), retT rt ds K → ∃ ds' ss, K ds' ss ∧ OneT rt ds ds' ss
  | [], _, h => ⟨_, _, h, .nil⟩
  | d :: ds, K, h => by
    obtain ⟨d', s, h1, h2⟩ := retC_rel h
    obtain ⟨ds', ss, h3, h4⟩ := retT_rel ds _ h1
    exact ⟨_, _, h3, .cons h2 h4⟩

/-- The roots at labels from q on come from the roots ss. -/
def Src (rt : RT) (ss : List (Option Nat)) (L : List (Option Root)) : Prop :=
  L.length = ss.length ∧ (∀ k : Nat, ss[k]? = some none → L[k]? = some none) ∧
    ∀ (k : Nat) (r : Nat), ss[k]? = some (some r) → ∃ R, L[k]? = some (some R) ∧ rt r = some (some R) ∧ R.box = false ∧ ∀ x ∈ R.cs, PlainD x

theorem Src.nil (rt : RT) : Src rt [] [] := ⟨rfl, fun k h => by simp at h, fun k r h => by simp at h⟩
theorem Src.append {rt : RT} {s1 s2 : List (Option Nat)} {L1 L2 : List (Option Root)} (h1 : Src rt s1 L1) (h2 : Src rt s2 L2) : Src rt (s1 ++ s2) (L1 ++ L2) := by
  refine ⟨by simp [h1.1, h2.1], fun k h => ?_, fun k r h => ?_⟩ <;> by_cases hk : k < s1.length
  · rw [List.getElem?_append_left hk] at h
    rw [List.getElem?_append_left (by rw [h1.1]; exact hk)]; exact h1.2.1 k h
  · rw [List.getElem?_append_right (by omega)] at h
    rw [List.getElem?_append_right (by rw [h1.1]; omega), h1.1]; exact h2.2.1 _ h
  · rw [List.getElem?_append_left hk] at h
    rw [List.getElem?_append_left (by rw [h1.1]; exact hk)]; exact h1.2.2 k r h
  · rw [List.getElem?_append_right (by omega)] at h
    rw [List.getElem?_append_right (by rw [h1.1]; omega), h1.1]; exact h2.2.2 _ r h

theorem One.src {rt : RT} {d d' : D} {s : Option Nat} (h : One rt d d' s) (q : Nat) : Src rt [s] [(openOne q d').2] := by
  cases h with
  | ref r sz m cs hr hz hm hp =>
    refine ⟨rfl, fun k h => ?_, fun k r' h => ?_⟩
    · cases k <;> simp at h
    · cases k with
      | zero => simp at h; subst h; exact ⟨_, rfl, hr, rfl, hp⟩
      | succ k => simp at h
  | _ =>
    refine ⟨rfl, fun k h => ?_, fun k r' h => ?_⟩
    · cases k with
      | zero => rfl
      | succ k => simp at h
    · cases k <;> simp at h

theorem OneL.src {rt : RT} {ds ds' : List D} {ss : List (Option Nat)} (h : OneL rt ds ds' ss) : ∀ q, Src rt ss (openL q ds').2 := by
  induction h with
  | nil => intro q; exact .nil rt
  | cons h t ih => intro q; exact (h.src q).append (ih (q + 1))

theorem One.openC {rt : RT} {d d' : D} {s : Option Nat} (h : One rt d d' s) (q : Nat) : Go.Vm.openC q d' = ((openOne q d').1, [(openOne q d').2]) := by
  cases h <;> rfl

theorem OneC.src {rt : RT} {d d' : D} {ss : List (Option Nat)} (h : OneC rt d d' ss) (q : Nat) : Src rt ss (openC q d').2 := by
  cases h with
  | one h => rw [h.openC]; exact h.src q
  | agg h => exact h.src q

theorem OneT.src {rt : RT} {ds ds' : List D} {ss : List (Option Nat)} (h : OneT rt ds ds' ss) : ∀ q, Src rt ss (openT q ds').2 := by
  induction h with
  | nil => intro q; exact .nil rt
  | cons h t ih => intro q; exact (h.src q).append (ih _)

/-- Labels from q on stand for the roots ss. -/
def Lbl (own own' : Nat → Option Lab) (RT' : RT) (ss : List (Option Nat)) (q : Nat) : Prop :=
  ∀ (k : Nat) (r : Nat), ss[k]? = some (some r) → RT' (q + k) ≠ none ∧ ∀ b p, own' b = some (q + k, p) ↔ own b = some (r, p)

theorem Lbl.left {own own' : Nat → Option Lab} {RT' : RT} {s1 s2 : List (Option Nat)} {q : Nat} (h : Lbl own own' RT' (s1 ++ s2) q) : Lbl own own' RT' s1 q := fun k r hk => by
  have : k < s1.length := by
    rcases Nat.lt_or_ge k s1.length with h | h
    · exact h
    · rw [List.getElem?_eq_none h] at hk; cases hk
  exact h k r (by rw [List.getElem?_append_left this]; exact hk)
theorem Lbl.right {own own' : Nat → Option Lab} {RT' : RT} {s1 s2 : List (Option Nat)} {q : Nat} (h : Lbl own own' RT' (s1 ++ s2) q) : Lbl own own' RT' s2 (q + s1.length) := fun k r hk => by
  have := h (s1.length + k) r (by rw [List.getElem?_append_right (by omega)]; simpa using hk)
  rw [show q + s1.length + k = q + (s1.length + k) by omega]; exact this

section
variable {w : World} {ok ok' : Nat → Prop} {own own' : Nat → Option Lab} {rt RT' : RT}

theorem One.mt {d d' : D} {s : Option Nat} (h : One rt d d' s) {v : Value} (hm : Mt w ok own rt d v) {q : Nat} (hl : Lbl own own' RT' [s] q) : Mt w ok' own' RT' (openOne q d').1 v := by
  cases h with
  | kb b => have := hm.kb_inv; subst this; exact .sh _ _ (.lit _)
  | lit v => have := hm.lit_inv; subst this; exact .sh _ _ (.lit _)
  | fn f =>
    obtain ⟨first, caps, hv, hl1, hl2, hr1, hr2⟩ := hm.fn_inv
    subst hv
    refine .sh _ _ (.fn f [] [] first caps hl1 hl2 (fun i d v h => by simp at h) (fun i d v h => by simp at h))
  | ref r sz m cs hr hz hmm hp =>
    have hl0 := hl 0 r rfl
    obtain ⟨h0, hx⟩ := hm.ref_inv
    have e : cnt sz cs = m := by
      unfold cnt
      split
      · rename_i e; have : sz = 1 := by simpa using e
        subst this; omega
      · rw [← hmm, Nat.mul_div_cancel _ (by omega)]
    have hone : v.oneCell' = true := by
      cases hm with
      | ref _ _ _ _ _ _ _ h1 _ => exact h1
      | sh _ _ h => cases h
    show Mt w ok' own' RT' (.ref q [] sz 0 (cnt sz cs)) v
    rw [e]
    refine .ref _ _ _ _ _ _ hl0.1 hone (fun R' _ => ⟨.inl rfl, ?_⟩)
    rcases hx _ hr with ⟨b, arr, e, cap, o, hb, hw, hv, hnc, hc, ho⟩ | ⟨hv, ho, hn, hb⟩
    · exact .inl ⟨b, arr, e, cap, o, (hl0.2 b []).2 hb, hw, hv, hnc, hc, ho⟩
    · exact .inr ⟨hv, ho, hn, fun b hb' => hb b ((hl0.2 b []).1 hb')⟩

theorem OneL.mt {ds ds' : List D} {ss : List (Option Nat)} (h : OneL rt ds ds' ss) : ∀ {q : Nat}, Lbl own own' RT' ss q →
    (openL q ds').1.length = ds.length ∧ ∀ (i : Nat) d v, (openL q ds').1[i]? = some d → (∀ d0, ds[i]? = some d0 → Mt w ok own rt d0 v) → Mt w ok' own' RT' d v := by
  induction h with
  | nil => intro q _; exact ⟨rfl, fun i d v h => by simp [openL] at h⟩
  | @cons d d' s ds ds' ss h t ih =>
    intro q hl
    obtain ⟨h1, h2⟩ := ih (hl.right (s1 := [s]))
    refine ⟨by simp [openL]; exact h1, fun i d v hd hm => ?_⟩
    cases i with
    | zero => simp [openL] at hd; subst hd; exact h.mt (hm _ rfl) (hl.left (s1 := [s]) (s2 := ss))
    | succ i => exact h2 i d v (by simpa [openL] using hd) (fun d0 h0 => hm d0 (by simpa using h0))

theorem OneC.mt {d d' : D} {ss : List (Option Nat)} (h : OneC rt d d' ss) {v : Value} (hm : Mt w ok own rt d v) {q : Nat} (hl : Lbl own own' RT' ss q) : Mt w ok' own' RT' (openC q d').1 v := by
  cases h with
  | one h => rw [h.openC]; exact h.mt hm hl
  | @agg ds ds' ss h =>
    obtain ⟨vs, hv, hlen, hr⟩ := hm.agg_inv
    subst hv
    obtain ⟨h1, h2⟩ := h.mt (w := w) (ok := ok) (ok' := ok') (own := own) hl
    exact .agg _ vs (by rw [hlen]; exact h1.symm) (fun i d v hd hv => h2 i d v hd (fun d0 h0 => hr i d0 v h0 hv))

theorem OneT.mt {ds ds' : List D} {ss : List (Option Nat)} (h : OneT rt ds ds' ss) : ∀ {q : Nat}, Lbl own own' RT' ss q →
    (openT q ds').1.length = ds.length ∧ ∀ (i : Nat) d v, (openT q ds').1[i]? = some d → (∀ d0, ds[i]? = some d0 → Mt w ok own rt d0 v) → Mt w ok' own' RT' d v := by
  induction h with
  | nil => intro q _; exact ⟨rfl, fun i d v h => by simp [openT] at h⟩
  | @cons d d' s ds ds' ss h t ih =>
    intro q hl
    have hlen := (h.src q).1
    obtain ⟨h1, h2⟩ := ih (q := q + (openC q d').2.length) (by rw [hlen]; exact hl.right)
    refine ⟨by simp [openT]; exact h1, fun i d v hd hm => ?_⟩
    cases i with
    | zero => simp [openT] at hd; subst hd; exact h.mt (hm _ rfl) hl.left
    | succ i => exact h2 i d v (by simpa [openT] using hd) (fun d0 h0 => hm d0 (by simpa using h0))
end

def posIn : List (Option Nat) → Nat → Option Nat
  | [], _ => none
  | none :: l, r => (posIn l r).map (· + 1)
  | some s :: l, r => if r = s then some 0 else (posIn l r).map (· + 1)

theorem posIn_some : ∀ (l : List (Option Nat)) (r k : Nat), posIn l r = some k → l[k]? = some (some r)
  | [], _, _, h => by simp [posIn] at h
  | none :: l, r, k, h => by
    simp only [posIn, Option.map_eq_some_iff] at h
    obtain ⟨j, h1, rfl⟩ := h
    simpa using posIn_some l r j h1
  | some s :: l, r, k, h => by
    simp only [posIn] at h
    split at h
    · rename_i e; subst e; cases h; rfl
    · simp only [Option.map_eq_some_iff] at h
      obtain ⟨j, h1, rfl⟩ := h
      simpa using posIn_some l r j h1

theorem posIn_of : ∀ (l : List (Option Nat)) (r k : Nat), distinct l = true → l[k]? = some (some r) → posIn l r = some k
  | [], _, _, _, h => by simp at h
  | none :: l, r, 0, _, h => by simp at h
  | none :: l, r, k + 1, hd, h => by
    simp only [posIn]
    rw [posIn_of l r k hd (by simpa using h)]; rfl
  | some s :: l, r, 0, _, h => by
    have : s = r := by simpa using h
    subst this; simp [posIn]
  | some s :: l, r, k + 1, hd, h => by
    simp only [distinct, Bool.and_eq_true, Bool.not_eq_true', List.any_eq_false] at hd
    have hm : l[k]? = some (some r) := by simpa using h
    have hne : r ≠ s := fun e => by
      have := hd.1 _ (List.mem_of_getElem? hm)
      simp [e] at this
    simp only [posIn]
    rw [if_neg hne, posIn_of l r k hd.2 hm]; rfl

def ownRet (own : Nat → Option Lab) (ss : List (Option Nat)) (n : Nat) : Nat → Option Lab := fun b =>
  match own b with
  | some (r, p) => match posIn ss r with
    | some k => some (n + k, p)
    | none => none
  | none => none

theorem ownRet_iff {own : Nat → Option Lab} {ss : List (Option Nat)} {n : Nat} (hd : distinct ss = true) {k r : Nat} (h : ss[k]? = some (some r)) (b : Nat) (p : List Nat) : ownRet own ss n b = some (n + k, p) ↔ own b = some (r, p) := by
  unfold ownRet
  constructor
  · intro h1
    split at h1
    · rename_i r' p' he
      split at h1
      · rename_i j hj
        simp only [Option.some.injEq, Prod.mk.injEq] at h1
        obtain ⟨e1, e2⟩ := h1
        have : j = k := by omega
        subst this; subst e2
        have := posIn_some _ _ _ hj
        rw [h] at this
        simp only [Option.some.injEq] at this
        rw [he, this]
      · cases h1
    · cases h1
  · intro h1
    rw [h1]
    simp only [posIn_of ss r k hd h]

theorem ownRet_inv {own : Nat → Option Lab} {ss : List (Option Nat)} {n : Nat} {b q : Nat} {p : List Nat} (h : ownRet own ss n b = some (q, p)) : ∃ k r, q = n + k ∧ ss[k]? = some (some r) ∧ own b = some (r, p) := by
  unfold ownRet at h
  split at h
  · rename_i r' p' he
    split at h
    · rename_i j hj
      simp only [Option.some.injEq, Prod.mk.injEq] at h
      obtain ⟨e1, e2⟩ := h
      subst e2
      exact ⟨j, r', e1.symm, posIn_some _ _ _ hj, he⟩
    · cases h
  · cases h

theorem listRT_at {n k : Nat} {L : List (Option Root)} : listRT n L (n + k) = L[k]? := by
  unfold listRT; rw [if_pos (by omega)]; congr 1; omega

theorem resOk_of {w0 : Base} {env : Nat → D} {tm : Nat → Value} {w : World} {own : Nat → Option Lab} {rt : RT} (hs : Sim w0 env rt tm w own) {ss : List (Option Nat)} {n : Nat} {rs : D} {v : Value}
    (hd : distinct ss = true) (hsrc : Src rt ss (openD n rs).2)
    (hmt : Lbl own (ownRet own ss n) (listRT n (openD n rs).2) ss n → Mt w (okn w0.toWorld w (ownRet own ss n)) (ownRet own ss n) (listRT n (openD n rs).2) (openD n rs).1 v) : ResOk w0.toWorld w n rs v := by
  refine ⟨ownRet own ss n, ?_, ?_, ?_, ?_⟩
  · intro b q p h
    obtain ⟨k, r, rfl, hk, ho⟩ := ownRet_inv h
    obtain ⟨h1, h2, _⟩ := hs.lab b r p ho
    obtain ⟨R, hR, _⟩ := hsrc.2.2 k r hk
    exact ⟨h1, h2, R, by rw [listRT_at]; exact hR⟩
  · intro b b' l h h'
    obtain ⟨q, p⟩ := l
    obtain ⟨k, r, rfl, hk, ho⟩ := ownRet_inv h
    obtain ⟨k', r', e, hk', ho'⟩ := ownRet_inv h'
    have : k = k' := by omega
    subst this
    rw [hk] at hk'
    simp only [Option.some.injEq] at hk'
    subst hk'
    exact hs.inj b b' _ ho ho'
  · intro q R h
    have hq : n ≤ q := by
      unfold listRT at h; split at h
      · assumption
      · cases h
    obtain ⟨k, rfl⟩ : ∃ k, q = n + k := ⟨q - n, by omega⟩
    rw [listRT_at] at h
    have hlt : k < ss.length := by
      rw [← hsrc.1]
      rcases Nat.lt_or_ge k (openD n rs).2.length with h' | h'
      · exact h'
      · rw [List.getElem?_eq_none h'] at h; cases h
    cases hk : ss[k] with
    | none =>
      have := hsrc.2.1 k (by rw [List.getElem?_eq_getElem hlt, hk])
      rw [h] at this; cases this
    | some r =>
      have hk' : ss[k]? = some (some r) := by rw [List.getElem?_eq_getElem hlt, hk]
      obtain ⟨R', hR', hrt, hbox, hpl⟩ := hsrc.2.2 k r hk'
      rw [h] at hR'
      simp only [Option.some.injEq] at hR'
      subst hR'
      refine ⟨hbox, ?_⟩
      have hiff := fun b p => ownRet_iff (own := own) (n := n) hd hk' b p
      rcases hs.roots r R hrt with ⟨b, arr, e, h1, h2, h3, h4⟩ | ⟨h1, h2, h3⟩
      · refine .inl ⟨b, arr, e, (hiff b []).2 h1, h2, h3, fun i d v hdi hv => ?_⟩
        have := h4 i d v hdi hv
        unfold CellOk at this ⊢
        rw [hbox] at this ⊢
        simp only [Bool.false_eq_true, if_false] at this ⊢
        exact this.plain (hpl d (List.mem_of_getElem? hdi)) _ (fun b q => by simpa using (hiff b (i :: q)).symm)
      · exact .inr ⟨h1, h2, fun b hb => h3 b ((hiff b []).1 hb)⟩
  · refine hmt fun k r hk => ?_
    obtain ⟨R, hR, _⟩ := hsrc.2.2 k r hk
    refine ⟨by rw [listRT_at, hR]; simp, fun b p => ownRet_iff hd hk b p⟩

theorem retK_sound {w0 : Base} {env : Nat → D} {tm : Nat → Value} {w : World} {own : Nat → Option Lab} {rt : RT} (hs : Sim w0 env rt tm w own) {d : D} {v : Value} {K : D → Prop} (hm : Mt w (okb w own) own rt d v) (h : retK rt d K) :
    ∃ rs, K rs ∧ ∀ n, ResOk w0.toWorld w n rs v := by
  unfold retK at h
  split at h
  · rename_i ds
    obtain ⟨ds', ss, h1, h2⟩ := retT_rel _ _ h
    have h1 := chk_and h1
    refine ⟨_, h1.2, fun n => resOk_of hs h1.1 (h2.src n) fun hl => ?_⟩
    obtain ⟨vs, hv, hlen, hr⟩ := hm.tup_inv
    subst hv
    obtain ⟨k1, k2⟩ := h2.mt (w := w) (ok := okb w own) (ok' := okn w0.toWorld w (ownRet own ss n)) (own := own) hl
    exact .tup _ vs (by rw [hlen]; exact k1.symm) (fun i d v hd hv => k2 i d v hd (fun d0 h0 => hr i d0 v h0 hv))
  · rename_i hnt
    obtain ⟨d', ss, h1, h2⟩ := retC_rel h
    have h1 := chk_and h1
    have e : ∀ n, openD n d' = openC n d' := fun n => by
      cases h2 with
      | one h => cases h <;> rfl
      | agg h => rfl
    refine ⟨_, h1.2, fun n => resOk_of hs h1.1 (by rw [e]; exact h2.src n) fun hl => ?_⟩
    rw [e] at hl ⊢
    exact h2.mt hm hl

/-- From the obligations of a function's code to its contract. -/
theorem pure_of_vc {P : Program} {T : Tab} (hT : TabOk P T) (hmo : P.follows .mixedOrders = true) {f : FuncId} {fn : Func} {c : Code} {args : List D} {rs : D} (hfn : P.funcs[f]? = some fn) (hb : fn.body = some c)
    (hname : (fn.name == "runtime.NumGoroutine") = false)
    (h : vc P T 0 c (fun e st' => (e = .ret ∨ e = .normal) ∧ resuK T st'.env (rtOf st'.rt) fn.results.toList fun ds => retK (rtOf st'.rt) (oneD ds) fun rs' => rs' = rs)
      ⟨args ++ List.replicate (fn.ntmps - args.length) .undef, []⟩) : PureCall P f args rs := by
  intro w vals n hsz hargs
  refine .inl ⟨fn, hfn, hname, by rw [hb]; rfl, calls_of_wp hfn hb ?_⟩
  let w0 : Base := { toWorld := w, susp := [], keep := 0, hk := fun p hp => by cases hp }
  let a1 : Act := { tmps := vals ++ Array.replicate (fn.ntmps - vals.size) Go.undef, defers := [] }
  have hfit : Fits w0 ⟨args ++ List.replicate (fn.ntmps - args.length) .undef, []⟩ a1 w := by
    refine ⟨fun _ => none, rfl, by simp [a1, hsz], ⟨Below.refl _ _, fun i => ?_, fun r R h => by simp [rtOf] at h, fun b r p h => by simp at h, fun b b' l h => by simp at h, fun p hp => by simp [w0] at hp⟩⟩
    show Mt w _ _ _ ((args ++ List.replicate (fn.ntmps - args.length) D.undef).getD i D.undef) (a1.tmps.getD i Go.undef)
    rw [List.getD_eq_getElem?_getD]
    by_cases hi : i < args.length
    · rw [List.getElem?_append_left hi, List.getElem?_eq_getElem hi, Option.getD_some]
      have hi2 : i < vals.size := by rw [hsz]; exact hi
      have e1 : a1.tmps.getD i Go.undef = vals[i] := by
        simp only [a1, Array.getD_eq_getD_getElem?]
        rw [Array.getElem?_append_left hi2, Array.getElem?_eq_getElem hi2]; rfl
      rw [e1]
      exact .sh _ _ ((hargs i _ _ (List.getElem?_eq_getElem hi) (Array.getElem?_eq_getElem hi2)).frame (fun b hb => ⟨⟨rfl, hb⟩, rfl⟩))
    · rw [List.getElem?_append_right (by omega), List.getElem?_replicate]
      split <;> exact .undef _
  refine wp_mono (vc_sound hT hmo c _ _ h w0 a1 w rfl hfit) (fun e a' w' hpost => ?_)
  obtain ⟨st', ⟨own', hd', hl', hs'⟩, he, hres⟩ := hpost
  have hres' : ∃ d v, retK (rtOf st'.rt) d (fun rs' => rs' = rs) ∧ Mt w' (okb w' own') own' (rtOf st'.rt) d v ∧ (results fn a'.tmps).run P w' = .ok v w' := by
    obtain ⟨ds, vs, h1, h2, h3, h4, h5⟩ := resu_sound (P := P) hT hs' _ _ hres
    refine ⟨oneD ds, if h : vs.toArray.size = 1 then vs.toArray[0] else .tuple vs.toArray, h1, ?_, ?_⟩
    · by_cases hl : vs.length = 1
      · obtain ⟨v, rfl⟩ := List.length_eq_one_iff.1 hl
        obtain ⟨d, rfl⟩ := List.length_eq_one_iff.1 (show ds.length = 1 by rw [h3, ← h2]; rfl)
        exact h4 0 d v rfl rfl
      · have e1 : oneD ds = .tup ds := by
          match ds, h3 with
          | [], _ => rfl
          | [d], h3 => exact absurd (by rw [h2, ← h3]; rfl) hl
          | _ :: _ :: _, _ => rfl
        rw [e1, dif_neg (by simpa using hl)]
        exact .tup _ _ (by simp [h2, h3]) (fun i d v k1 k2 => h4 i d v k1 (by simpa using k2))
    · rw [results_eq, Array.mapM_eq_mapM_toList]
      simp [Sem.run_bind, h5]
  obtain ⟨d, v, hk, hm, hr⟩ := hres'
  obtain ⟨rs', e, hrn⟩ := retK_sound hs' hm hk
  subst e
  have hfin : (∃ v', Ending.returned v = .returned v' ∧ Below w.heap.size w w' ∧ ResOk w w' n rs' v') := ⟨v, rfl, hs'.below, hrn n⟩
  rcases he with rfl | rfl
  · exact ⟨hd', v, hr, hfin⟩
  · exact ⟨hd', v, hr, hfin⟩

end Go.Vm
