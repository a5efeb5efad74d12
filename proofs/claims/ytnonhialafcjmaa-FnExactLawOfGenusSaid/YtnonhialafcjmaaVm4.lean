/- A row is taken up into a new one: append, with or without room; a source that is consumed. -/
import Derived.Test.YtnonhialafcjmaaVm3
set_option linter.unusedVariables false
set_option linter.unusedSimpArgs false
set_option linter.unusedSectionVars false
namespace Go.Vm
open Go Go.RowKit

def reLab (r0 r2 nr k : Nat) (cons inp : Bool) (l : Lab) : Option Lab :=
  if l.1 = r0 then (match l.2 with
    | [] => if inp then some (nr, []) else none
    | i :: q => if i < k then some (nr, i :: q) else none)
  else if cons = true ∧ l.1 = r2 then (match l.2 with
    | [] => none
    | i :: q => some (nr, (k + i) :: q))
  else some l

section
variable {r0 r2 nr k : Nat} {cons inp : Bool}
theorem reLab_id {l : Lab} (h0 : l.1 ≠ r0) (h2 : ¬ (cons = true ∧ l.1 = r2)) : reLab r0 r2 nr k cons inp l = some l := by
  unfold reLab; rw [if_neg h0, if_neg h2]
theorem reLab_other {l : Lab} {r : Nat} {p : List Nat} (h : reLab r0 r2 nr k cons inp l = some (r, p)) (hr : r ≠ nr) : l = (r, p) ∧ r ≠ r0 ∧ ¬ (cons = true ∧ r = r2) := by
  obtain ⟨a, q⟩ := l
  unfold reLab at h
  split at h
  · split at h
    · split at h
      · cases h; exact absurd rfl hr
      · cases h
    · split at h
      · cases h; exact absurd rfl hr
      · cases h
  · rename_i h0
    split at h
    · split at h
      · cases h
      · cases h; exact absurd rfl hr
    · rename_i h2; cases h; exact ⟨rfl, h0, h2⟩
theorem reLab_nil {l : Lab} (hl : l.1 ≠ nr) (h : reLab r0 r2 nr k cons inp l = some (nr, [])) : l = (r0, []) ∧ inp = true := by
  obtain ⟨a, q⟩ := l
  unfold reLab at h
  split at h
  · rename_i h0
    simp only at h0; subst h0
    split at h
    · rename_i hq; simp only at hq; subst hq
      split at h
      · rename_i hi; exact ⟨rfl, hi⟩
      · cases h
    · split at h <;> cases h
  · split at h
    · split at h <;> cases h
    · cases h; exact absurd rfl hl
theorem reLab_cons {l : Lab} {i : Nat} {q : List Nat} (hl : l.1 ≠ nr) (h : reLab r0 r2 nr k cons inp l = some (nr, i :: q)) :
    (l = (r0, i :: q) ∧ i < k) ∨ (cons = true ∧ ∃ j, i = k + j ∧ l = (r2, j :: q)) := by
  obtain ⟨a, q'⟩ := l
  unfold reLab at h
  split at h
  · rename_i h0
    simp only at h0; subst h0
    split at h
    · split at h <;> cases h
    · rename_i hq; simp only at hq; subst hq
      split at h
      · rename_i hlt; cases h; exact .inl ⟨rfl, hlt⟩
      · cases h
  · split at h
    · rename_i h2
      split at h
      · cases h
      · rename_i hq; simp only at hq h2; obtain ⟨hc, rfl⟩ := h2; subst hq
        cases h
        exact .inr ⟨hc, _, rfl, rfl⟩
    · cases h; exact absurd rfl hl
theorem reLab_inj {l l' m : Lab} (hl : l.1 ≠ nr) (hl' : l'.1 ≠ nr) (h : reLab r0 r2 nr k cons inp l = some m) (h' : reLab r0 r2 nr k cons inp l' = some m) : l = l' := by
  obtain ⟨r, p⟩ := m
  by_cases hr : r = nr
  · subst hr
    cases p with
    | nil => rw [(reLab_nil hl h).1, (reLab_nil hl' h').1]
    | cons i q =>
      rcases reLab_cons hl h with ⟨e1, h1⟩ | ⟨_, j, e1, e2⟩ <;> rcases reLab_cons hl' h' with ⟨e3, h3⟩ | ⟨_, j', e3, e4⟩
      · rw [e1, e3]
      · omega
      · omega
      · have : j = j' := by omega
        rw [e2, e4, this]
  · rw [(reLab_other h hr).1, (reLab_other h' hr).1]
end

/-- What an append has done: the block 'g'' bears the new row. -/
structure Grew (w w' : World) (g : Option Nat) (g' : Nat) (inp : Bool) : Prop where
  other : ∀ b, b < w.heap.size → b ≠ g' → w'.heap[b]? = w.heap[b]?
  size : w.heap.size ≤ w'.heap.size
  at_ : if inp then g = some g' else g' = w.heap.size ∧ w'.heap.size = w.heap.size + 1
  os : w'.os = w.os
  tape : w'.tape = w.tape
  output : w'.output = w.output

theorem Sim.append {w0 : Base} {w w' : World} {env : Nat → D} {rt : RT} {tm : Nat → Value} {own : Nat → Option Lab} (hs : Sim w0 env rt tm w own)
    {r0 r2 nr g' : Nat} {cons inp : Bool} {R0 : Root} {g : Option Nat} {sz : Nat} {newsD : List D} {arr' : Array Value} {e' : TypeId} {xs news : List Value}
    (hnr : rt nr = none) (hr2 : cons = true → r2 ≠ r0)
    (hg : ∀ b, g = some b → own b = some (r0, []))
    (hgr : Grew w w' g g' inp) (hheap : w'.heap[g']? = some (.cells arr' e' (0, 0)))
    (hlen : R0.cs.length + newsD.length ≤ arr'.size) (hxl : xs.length = R0.cs.length)
    (hx : ∀ i, i < xs.length → arr'[i]? = xs[i]?) (hn : ∀ j, j < news.length → arr'[xs.length + j]? = news[j]?) (hnl : news.length = newsD.length)
    (hxs : ∀ (i : Nat) d v, R0.cs[i]? = some d → xs[i]? = some v → Tr w (okb w own) own (r0, [i]) d v)
    (hnews : ∀ (j : Nat) d v, newsD[j]? = some d → news[j]? = some v → if cons then Tr w (okb w own) own (r2, [j]) d v else d.notOwn = true ∧ Sh w (okb w own) d v) :
    ∃ own', Sim w0 env (fun r => if r = nr then some (some ⟨false, sz, R0.cs ++ newsD⟩) else if r = r0 ∨ (cons = true ∧ r = r2 ∧ rt r ≠ none) then some none else rt r) tm w' own' ∧ own' g' = some (nr, []) := by
  have hlab : ∀ b l, own b = some l → l.1 ≠ nr := fun b l h e => by
    obtain ⟨r, p⟩ := l; obtain ⟨_, _, R, hR⟩ := hs.lab b r p h; simp only at e; rw [e, hnr] at hR; cases hR
  have hlt : ∀ b l, own b = some l → b < w.heap.size := fun b l h => by obtain ⟨r, p⟩ := l; exact (hs.lab b r p h).2.1
  have hg'lab : ∀ l, own g' = some l → l = (r0, []) ∧ inp = true := fun l h => by
    cases hinp : inp with
    | true =>
      have := hgr.at_; rw [hinp] at this; simp only [if_true] at this
      have h2 := hg g' this
      rw [h2] at h; cases h; exact ⟨rfl, rfl⟩
    | false =>
      have := hgr.at_; rw [hinp] at this; simp only [Bool.false_eq_true, if_false] at this
      have := hlt g' l h; omega
  let own' : Nat → Option Lab := fun b => if b = g' then some (nr, []) else (own b).bind (reLab r0 r2 nr R0.cs.length cons inp)
  let rt' : RT := fun r => if r = nr then some (some ⟨false, sz, R0.cs ++ newsD⟩) else if r = r0 ∨ (cons = true ∧ r = r2 ∧ rt r ≠ none) then some none else rt r
  have ho : ∀ b r p, own' b = some (r, p) → (b = g' ∧ r = nr ∧ p = []) ∨ (b ≠ g' ∧ ∃ l, own b = some l ∧ reLab r0 r2 nr R0.cs.length cons inp l = some (r, p)) := by
    intro b r p h
    simp only [own'] at h
    split at h
    · rename_i e; cases h; exact .inl ⟨e, rfl, rfl⟩
    · rename_i e
      cases hb : own b with
      | none => rw [hb] at h; cases h
      | some l => rw [hb] at h; exact .inr ⟨e, l, rfl, h⟩
  have hlive : ∀ r R', rt r ≠ none → rt' r = some (some R') → rt r = some (some R') ∧ r ≠ nr ∧ r ≠ r0 ∧ ¬ (cons = true ∧ r = r2) := by
    intro r R' h0 h
    simp only [rt'] at h
    split at h
    · rename_i e; rw [e, hnr] at h0; exact absurd rfl h0
    · rename_i e
      split at h
      · cases h
      · rename_i e2; exact ⟨h, e, fun e3 => e2 (.inl e3), fun e3 => e2 (.inr ⟨e3.1, e3.2, h0⟩)⟩
  have hkeep : ∀ r, r ≠ nr → r ≠ r0 → ¬ (cons = true ∧ r = r2) → ∀ b p, own b = some (r, p) ↔ own' b = some (r, p) := by
    intro r h1 h2 h3 b p
    constructor
    · intro h
      have hb : b ≠ g' := fun e => by subst e; have := (hg'lab _ h).1; cases this; exact h2 rfl
      simp only [own', if_neg hb, h, Option.bind_some]
      exact reLab_id h2 h3
    · intro h
      rcases ho b r p h with ⟨_, e, _⟩ | ⟨_, l, hl, hr⟩
      · exact absurd e h1
      · rw [(reLab_other hr h1).1] at hl; exact hl
  have hsame : ∀ b r p, own b = some (r, p) → (r, p) ≠ (r0, []) → w'.heap[b]? = w.heap[b]? := fun b r p h hne =>
    hgr.other b (hlt b _ h) (fun e => by subst e; exact hne (hg'lab _ h).1)
  have hlow : w0.heap.size ≤ g' := by
    cases hinp : inp with
    | true =>
      have := hgr.at_; rw [hinp] at this; simp only [if_true] at this
      exact (hs.lab g' _ _ (hg g' this)).1
    | false =>
      have := hgr.at_; rw [hinp] at this; simp only [Bool.false_eq_true, if_false] at this
      have := hs.below.size; omega
  have hfr : Fr w (okb w own) own rt w' (okb w' own') own' rt' := by
    refine ⟨fun b hk => ?_, fun r h => ?_, fun r R' h0 h => ⟨R', (hlive r R' h0 h).1⟩, fun r R R' h0 h b p _ => ?_, fun r R R' p h0 h1 hp => by
      have := (hlive r R' (by rw [h0]; simp) h1).1; rw [h0] at this; cases this; exact hp, fun r R' b p arr e h0 h1 h2 h3 => ?_⟩
    · have hb : b ≠ g' := fun e => by
        cases hinp : inp with
        | true =>
          have := hgr.at_; rw [hinp] at this; simp only [if_true] at this
          have := hg g' this; rw [← e, hk.1] at this; cases this
        | false =>
          have := hgr.at_; rw [hinp] at this; simp only [Bool.false_eq_true, if_false] at this
          have := hk.2; omega
      refine ⟨⟨?_, Nat.lt_of_lt_of_le hk.2 hgr.size⟩, hgr.other b hk.2 hb⟩
      simp only [own', if_neg hb, hk.1, Option.bind_none]
    · simp only [rt']; split
      · simp
      · split
        · simp
        · exact h
    · obtain ⟨_, h1, h2, h3⟩ := hlive r R' (by rw [h0]; simp) h
      exact hkeep r h1 h2 h3 b p
    · obtain ⟨_, k1, k2, k3⟩ := hlive r R' h0 h1
      exact ⟨arr, by rw [hsame b r p h2 (fun e => k2 (by cases e; rfl))]; exact h3, rfl⟩
  have hbel : Below w0.heap.size w0 w' := by
    refine ⟨hgr.os.trans hs.below.os, hgr.tape.trans hs.below.tape, hgr.output.trans hs.below.output, Nat.le_trans hs.below.size hgr.size, fun b hb => ?_⟩
    rw [hgr.other b (Nat.lt_of_lt_of_le hb hs.below.size) (by omega)]
    exact hs.below.block b hb
  refine ⟨own', hs.change hfr hbel (fun r R hR => ?_) (fun b r p h => ?_) (fun b b' l h h' => ?_), by simp [own']⟩
  · by_cases hrn : r = nr
    · have hRe : R = ⟨false, sz, R0.cs ++ newsD⟩ := by
        simp only [hrn, if_true] at hR; cases hR; rfl
      subst hRe
      rw [hrn]
      refine .inl ⟨g', arr', e', by simp [own'], hheap, by simpa using hlen, fun i d v hi hv => ?_⟩
      unfold CellOk
      simp only [Bool.false_eq_true, if_false]
      simp only at hi
      by_cases hik : i < R0.cs.length
      · rw [List.getElem?_append_left hik] at hi
        rw [hx i (by omega)] at hv
        refine (hxs i d v hi hv).relab (nr, [i]) hfr.ok (fun b q hq => ?_) (fun b q hq => ?_)
        · simp only [List.singleton_append] at hq ⊢
          have hb : b ≠ g' := fun e => by subst e; have := (hg'lab _ hq).1; cases this
          refine ⟨?_, hsame b _ _ hq (by simp)⟩
          simp only [own', if_neg hb, hq, Option.bind_some, reLab, if_true, if_pos hik]
        · simp only [List.singleton_append] at hq ⊢
          rcases ho b _ _ hq with ⟨_, _, e⟩ | ⟨_, l, hl, hr⟩
          · cases e
          · rcases reLab_cons (hlab b l hl) hr with ⟨e, _⟩ | ⟨_, j, e, _⟩
            · rw [e] at hl; exact hl
            · omega
      · rw [List.getElem?_append_right (by omega)] at hi
        have hjl : i - R0.cs.length < newsD.length := (List.getElem?_eq_some_iff.1 hi).1
        have hv' : news[i - R0.cs.length]? = some v := by
          rw [← hn (i - R0.cs.length) (by omega), ← hv]; congr 1; omega
        have hcase := hnews _ d v hi hv'
        cases hc : cons with
        | false =>
          rw [hc] at hcase
          simp only [Bool.false_eq_true, if_false] at hcase
          exact .sh _ d v hcase.1 (hcase.2.frame hfr.ok)
        | true =>
          rw [hc] at hcase
          simp only [if_true] at hcase
          refine hcase.relab (nr, [i]) hfr.ok (fun b q hq => ?_) (fun b q hq => ?_)
          · simp only [List.singleton_append] at hq ⊢
            have hb : b ≠ g' := fun e => by subst e; have := (hg'lab _ hq).1; cases this
            refine ⟨?_, hsame b _ _ hq (by simp)⟩
            simp only [own', if_neg hb, hq, Option.bind_some, reLab, if_neg (hr2 hc), hc, true_and, if_true]
            congr 3
            omega
          · simp only [List.singleton_append] at hq ⊢
            rcases ho b _ _ hq with ⟨_, _, e⟩ | ⟨_, l, hl, hr⟩
            · cases e
            · rcases reLab_cons (hlab b l hl) hr with ⟨_, e⟩ | ⟨_, j, e, e2⟩
              · omega
              · rw [e2] at hl
                have : j = i - R0.cs.length := by omega
                rw [this] at hl; exact hl
    · have h0 : rt r ≠ none := by
        intro e
        simp only [if_neg hrn] at hR
        split at hR
        · cases hR
        · rw [e] at hR; cases hR
      obtain ⟨k0, k1, k2, k3⟩ := hlive r R h0 hR
      refine (hs.roots r R k0).frame hfr (fun b p hp => ⟨(hkeep r k1 k2 k3 b p).1 hp, hsame b r p hp (fun e => k2 (by cases e; rfl))⟩) (fun b p hp => (hkeep r k1 k2 k3 b p).2 hp)
  · rcases ho b r p h with ⟨e, e1, e2⟩ | ⟨hb, l, hl, hr⟩
    · refine ⟨by rw [e]; exact hlow, ?_, ⟨_, by simp only [e1, if_true]; rfl⟩⟩
      rw [e]
      exact (Array.getElem?_eq_some_iff.1 hheap).1
    · obtain ⟨ra, pa⟩ := l
      obtain ⟨h1, h2, R, hR⟩ := hs.lab b ra pa hl
      refine ⟨h1, Nat.lt_of_lt_of_le h2 hgr.size, ?_⟩
      by_cases hrn : r = nr
      · exact ⟨_, by simp only [hrn, if_true]; rfl⟩
      · obtain ⟨e1, e2, e3⟩ := reLab_other hr hrn
        cases e1
        refine ⟨R, ?_⟩
        simp only [if_neg hrn]
        rw [if_neg]
        · exact hR
        · rintro (e | e)
          · exact e2 e
          · exact e3 ⟨e.1, e.2.1⟩
  · obtain ⟨r, p⟩ := l
    rcases ho b r p h with ⟨e, e1, e2⟩ | ⟨hb, l, hl, hr⟩ <;> rcases ho b' r p h' with ⟨e', e1', e2'⟩ | ⟨hb', l', hl', hr'⟩
    · rw [e, e']
    · subst e1; subst e2
      have := reLab_nil (hlab b' l' hl') hr'
      have hi := hgr.at_
      rw [this.2] at hi; simp only [if_true] at hi
      rw [this.1] at hl'
      exact absurd (hs.inj b' g' _ hl' (hg g' hi)) hb'
    · subst e1'; subst e2'
      have := reLab_nil (hlab b l hl) hr
      have hi := hgr.at_
      rw [this.2] at hi; simp only [if_true] at hi
      rw [this.1] at hl
      exact absurd (hs.inj b g' _ hl (hg g' hi)) hb
    · have := reLab_inj (hlab b l hl) (hlab b' l' hl') hr hr'
      subst this
      exact hs.inj b b' l hl hl'

end Go.Vm
