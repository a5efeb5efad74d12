/- Stores into owned blocks: into a box, and into a row at a path. -/
import Derived.Test.YtnonhialafcjmaaVm2
set_option linter.unusedVariables false
set_option linter.unusedSimpArgs false
set_option linter.unusedSectionVars false
namespace Go.Vm
open Go Go.RowKit

def updB (cs : List D) : List Nat → (List D → List D) → List D
  | [], f => f cs
  | i :: q, f => match cs[i]? with
    | some (.list true sz cs') => cs.set i (.list true sz (updB cs' q f))
    | _ => cs

def Blk (w : World) (ok : Nat → Prop) (own : Nat → Option Lab) (r : Nat) (p : List Nat) (b : Nat) (cs : List D) : Prop :=
  ∃ arr e, own b = some (r, p) ∧ w.heap[b]? = some (.cells arr e (0, 0)) ∧ cs.length ≤ arr.size ∧
    ∀ (i : Nat) d v, cs[i]? = some d → arr[i]? = some v → Tr w ok own (r, p ++ [i]) d v

theorem Blk.get {w : World} {ok : Nat → Prop} {own : Nat → Option Lab} {r : Nat} : ∀ (q p : List Nat) (b : Nat) (cs cs1 : List D), Blk w ok own r p b cs →
    getB cs q = some cs1 → (∃ b1, Blk w ok own r (p ++ q) b1 cs1) ∨ (cs1 = [] ∧ ∀ b, own b ≠ some (r, p ++ q)) := by
  intro q
  induction q with
  | nil => intro p b cs cs1 h hg; simp only [getB, Option.some.injEq] at hg; subst hg; exact .inl ⟨b, by simpa using h⟩
  | cons i q ih =>
    intro p b cs cs1 ⟨arr, e, h1, h2, h3, h4⟩ hg
    simp only [getB] at hg
    split at hg
    · rename_i sz cs' hi
      have hlt : i < cs.length := (List.getElem?_eq_some_iff.1 hi).1
      have hv : arr[i]? = some arr[i] := Array.getElem?_eq_getElem (by omega)
      have ht := h4 i _ _ hi hv
      generalize hv0 : arr[i] = v0 at ht
      cases ht with
      | sh _ _ _ ho _ => simp [D.notOwn] at ho
      | nil _ _ hn =>
        cases q with
        | nil => simp only [getB, Option.some.injEq] at hg; subst hg; exact .inr ⟨rfl, by simpa using hn⟩
        | cons j q => simp [getB] at hg
      | own _ _ _ b1 len cap arr1 e1 hz hl hlc hb hw hc hs hr =>
        have := ih (p ++ [i]) b1 cs' cs1 ⟨arr1, e1, hb, hw, hs, hr⟩ hg
        simpa using this
    · cases hg

/-- What a store into block 'bt' does to memory. -/
structure Stored (w w' : World) (bt off : Nat) (v : Value) : Prop where
  other : ∀ b, b ≠ bt → w'.heap[b]? = w.heap[b]?
  here : ∀ arr e, w.heap[bt]? = some (.cells arr e (0, 0)) → w'.heap[bt]? = some (.cells (arr.setIfInBounds off v) e (0, 0))

theorem Stored.setCell (w : World) (bt off : Nat) (v : Value) : Stored w (w.setCell ⟨bt, off, none⟩ v) bt off v :=
  ⟨fun b hb => Below.heap_setCell _ _ _ _ hb, fun arr e h => by simp [World.setCell, Array.getElem?_modify, h]⟩

theorem Blk.set {w w' : World} {ok : Nat → Prop} {own : Nat → Option Lab} {r bt off : Nat} {v' : Value} {d' : D} (hst : Stored w w' bt off v')
    (hinj : ∀ b b' l, own b = some l → own b' = some l → b = b') (hok' : ∀ b, ok b → w'.heap[b]? = w.heap[b]?)
    (hd : d'.notOwn = true) (hsh : Sh w' ok d' v') : ∀ (q p : List Nat) (b : Nat) (cs cs1 : List D), Blk w ok own r p b cs → own bt = some (r, p ++ q) →
    getB cs q = some cs1 → (∀ d, cs1[off]? = some d → d.notOwn = true) → Blk w' ok own r p b (updB cs q (fun l => l.set off d')) := by
  intro q
  induction q with
  | nil =>
    intro p b cs cs1 ⟨arr, e, h1, h2, h3, h4⟩ hbt hg hno
    have hb : b = bt := hinj b bt _ h1 (by simpa using hbt)
    subst hb
    refine ⟨arr.setIfInBounds off v', e, h1, hst.here arr e h2, by simpa [updB] using h3, fun i d v hi hv => ?_⟩
    simp only [updB] at hi
    have keep : ∀ d v, cs[i]? = some d → arr[i]? = some v → Tr w' ok own (r, p ++ [i]) d v := fun d v hi hv =>
      (h4 i d v hi hv).frame (fun b hb => ⟨hb, hok' b hb⟩) (fun b1 q1 hq => ⟨hq, hst.other b1 (fun e => by
        subst e; rw [h1] at hq; simp at hq)⟩) (fun _ _ h => h)
    by_cases hio : i = off
    · subst hio
      have hlt : i < cs.length := by
        rcases Nat.lt_or_ge i cs.length with h | h
        · exact h
        · rw [List.getElem?_eq_none (by simpa using h)] at hi; cases hi
      rw [List.getElem?_set_self hlt] at hi
      rw [Array.getElem?_setIfInBounds_self_of_lt (by omega)] at hv
      cases hi; cases hv
      exact .sh _ _ _ hd hsh
    · rw [List.getElem?_set_ne (Ne.symm hio)] at hi
      rw [Array.getElem?_setIfInBounds_ne (Ne.symm hio)] at hv
      exact keep d v hi hv
  | cons j q ih =>
    intro p b cs cs1 ⟨arr, e, h1, h2, h3, h4⟩ hbt hg hno
    have hbne : b ≠ bt := fun e => by subst e; rw [h1] at hbt; simp at hbt
    simp only [getB] at hg
    split at hg
    · rename_i sz cs' hj
      have hlt : j < cs.length := (List.getElem?_eq_some_iff.1 hj).1
      simp only [updB, hj]
      refine ⟨arr, e, h1, (hst.other b hbne).trans h2, by simpa using h3, fun i d v hi hv => ?_⟩
      by_cases hij : i = j
      · subst hij
        rw [List.getElem?_set_self hlt] at hi
        cases hi
        have ht := h4 i _ _ hj hv
        cases ht with
        | sh _ _ _ ho _ => simp [D.notOwn] at ho
        | nil _ _ hn =>
          cases q with
          | nil => exact absurd (by simpa using hbt) (hn bt)
          | cons k q => simp [getB] at hg
        | own _ _ _ b1 len cap arr1 e1 hz hl hlc hb hw hc hs hr =>
          have := ih (p ++ [i]) b1 cs' cs1 ⟨arr1, e1, hb, hw, hs, hr⟩ (by simpa using hbt) hg hno
          obtain ⟨arr2, e2, k1, k2, k3, k4⟩ := this
          have hsz : arr2.size = arr1.size := by
            by_cases hb1 : b1 = bt
            · subst hb1
              rw [hst.here arr1 e1 hw] at k2
              cases k2; simp
            · rw [hst.other b1 hb1, hw] at k2
              cases k2; rfl
          have hlen : (updB cs' q fun l => l.set off d').length = cs'.length := by
            cases q with
            | nil => simp [updB]
            | cons k q => simp only [updB]; split <;> simp
          exact .own _ sz _ b1 len cap arr2 e2 hz (by rw [hlen]; exact hl) hlc hb k2 (by rw [hsz]; exact hc) k3 k4
      · rw [List.getElem?_set_ne (Ne.symm hij)] at hi
        refine (h4 i d v hi hv).frame (fun b hb => ⟨hb, hok' b hb⟩) (fun b1 q1 hq => ⟨hq, hst.other b1 (fun e => ?_)⟩) (fun _ _ h => h)
        subst e
        rw [hbt] at hq
        simp at hq
        exact hij hq.1.symm
    · cases hg

theorem getB_snoc {i sz : Nat} {cs' : List D} : ∀ (p : List Nat) (cs c : List D), getB cs p = some c → c[i]? = some (.list true sz cs') → getB cs (p ++ [i]) = some cs' := by
  intro p
  induction p with
  | nil =>
    intro cs c hg hi
    simp only [getB, Option.some.injEq] at hg
    subst hg
    simp [getB, hi]
  | cons j p ih =>
    intro cs c hg hi
    simp only [getB] at hg
    split at hg
    · rename_i sz1 cs1 hj
      simp only [List.cons_append, getB, hj]
      exact ih cs1 c hg hi
    · cases hg
theorem Vp_snoc {R : Root} {p : List Nat} {c : List D} {i : Nat} {d : D} (hbox : R.box = false) (hg : getB R.cs p = some c) (hi : c[i]? = some d) (hd : d.notOwn = false) : Vp R (p ++ [i]) := by
  refine .inr ⟨hbox, ?_⟩
  cases d with
  | list o sz cs' => cases o with
    | true => rw [getB_snoc p _ _ hg hi]; rfl
    | false => simp [D.notOwn] at hd
  | _ => simp [D.notOwn] at hd

/-- Frame of a store. -/
theorem Sim.storeFr {w w' : World} {rt : RT} {own : Nat → Option Lab} {r bt off : Nat} {p : List Nat} {v' : Value} {R R' : Root}
    (hst : Stored w w' bt off v') (hsz : w'.heap.size = w.heap.size) (hR : rt r = some (some R)) (hbt : own bt = some (r, p)) (hpath : ∀ q, Vp R q → Vp R' q) :
    Fr w (okb w own) own rt w' (okb w' own) own (rt.set r (some R')) := by
  refine ⟨fun b hk => ⟨⟨hk.1, by rw [hsz]; exact hk.2⟩, hst.other b (fun e => by subst e; rw [hk.1] at hbt; cases hbt)⟩, fun r1 h => ?_, fun r1 R1 h0 h => ?_, fun r1 R0 R1 h0 h b p _ => Iff.rfl, fun r1 R0 R1 q h0 h1 hq => ?_, fun r1 R1 b p arr e h0 h1 h2 h3 => ?_⟩
  · unfold RT.set; split <;> simp [h]
  · unfold RT.set at h; split at h
    · rename_i e; subst e; exact ⟨R, hR⟩
    · exact ⟨R1, h⟩
  · unfold RT.set at h1; split at h1
    · rename_i e; subst e; rw [hR] at h0; cases h0; cases h1; exact hpath q hq
    · rw [h0] at h1; cases h1; exact hq
  · by_cases hb : b = bt
    · subst hb; exact ⟨_, hst.here arr e h3, by simp⟩
    · exact ⟨arr, (hst.other b hb).trans h3, rfl⟩

theorem getB_setPlain {off : Nat} {d' : D} (hd : d'.notOwn = true) : ∀ (q : List Nat) (cs cs1 : List D), getB cs q = some cs1 → (∀ d, cs1[off]? = some d → d.notOwn = true) → ∀ q', (getB cs q').isSome = true → (getB (updB cs q (fun l => l.set off d')) q').isSome = true := by
  intro q
  induction q with
  | nil =>
    intro cs cs1 hg hno q' hq'
    simp only [getB, Option.some.injEq] at hg
    subst hg
    cases q' with
    | nil => rfl
    | cons i q' =>
      simp only [getB, updB] at hq' ⊢
      by_cases e : off = i
      · subst e
        cases h : cs[off]? with
        | none => simp [h] at hq'
        | some d =>
          have hn := hno d h
          rw [h] at hq'
          split at hq'
          · rename_i he
            cases he
            simp [D.notOwn] at hn
          · simp at hq'
      · rw [List.getElem?_set_ne e]; exact hq'
  | cons j q ih =>
    intro cs cs1 hg hno q' hq'
    simp only [getB] at hg
    split at hg
    · rename_i sz cs' hj
      simp only [updB, hj]
      have hlt : j < cs.length := (List.getElem?_eq_some_iff.1 hj).1
      cases q' with
      | nil => rfl
      | cons i q' =>
        simp only [getB] at hq' ⊢
        by_cases e : j = i
        · subst e
          rw [List.getElem?_set_self hlt]
          rw [hj] at hq'
          exact ih cs' cs1 hg hno q' hq'
        · rw [List.getElem?_set_ne e]; exact hq'
    · cases hg

theorem Sim.storeRow {w0 : Base} {w : World} {env : Nat → D} {rt : RT} {tm : Nat → Value} {own : Nat → Option Lab} (hs : Sim w0 env rt tm w own) {r bt off : Nat} {p : List Nat} {v : Value} {d : D} {R : Root} {cs1 : List D}
    (hR : rt r = some (some R)) (hbox : R.box = false) (hbt : own bt = some (r, p)) (hg : getB R.cs p = some cs1) (hno : ∀ d, cs1[off]? = some d → d.notOwn = true)
    (hd : d.notOwn = true) (hsh : Sh w (okb w own) d v) :
    Sim w0 env (rt.set r (some { R with cs := updB R.cs p (fun l => l.set off d) })) tm (w.setCell ⟨bt, off, none⟩ v) own := by
  have hst := Stored.setCell w bt off v
  have hsz : (w.setCell ⟨bt, off, none⟩ v).heap.size = w.heap.size := by simp [World.setCell]
  have hfr := Sim.storeFr (R' := { R with cs := updB R.cs p (fun l => l.set off d) }) hst hsz hR hbt (fun q hq => by
    rcases hq with e | ⟨h1, h2⟩
    · exact .inl e
    · exact .inr ⟨h1, getB_setPlain hd p R.cs cs1 hg hno q h2⟩)
  have hlo := (hs.lab bt r p hbt).1
  refine hs.change hfr (hs.below.setCell hlo v) (fun r1 R1 h1 => ?_) (fun b r1 p1 h => ?_) hs.inj
  · by_cases hr : r1 = r
    · subst hr
      rw [RT.set_self] at h1; cases h1
      rcases hs.roots r1 R hR with ⟨b, arr, e, k1, k2, k3, k4⟩ | ⟨_, k2, k3⟩
      · have hblk : Blk w (okb w own) own r1 [] b R.cs := ⟨arr, e, k1, k2, k3, fun i d v hi hv => by
          have := k4 i d v hi hv; unfold CellOk at this; rw [hbox] at this; simpa using this⟩
        obtain ⟨arr2, e2, m1, m2, m3, m4⟩ := Blk.set hst hs.inj (fun b h => (hfr.ok b h).2) hd
          (hsh.frame (ok' := okb w own) (fun b h => ⟨h, (hfr.ok b h).2⟩)) p [] b R.cs cs1 hblk (by simpa using hbt) hg hno
        refine .inl ⟨b, arr2, e2, m1, m2, m3, fun i d u hi hv => ?_⟩
        unfold CellOk
        simp only [hbox, Bool.false_eq_true, if_false]
        exact (by simpa using m4 i d u hi hv : Tr (w.setCell ⟨bt, off, none⟩ v) (okb w own) own (r1, [i]) d u).frame (fun b h => ⟨⟨h.1, by rw [hsz]; exact h.2⟩, rfl⟩) (fun _ _ h => ⟨h, rfl⟩) (fun _ _ h => h)
      · rw [k2] at hg
        cases p with
        | nil => exact absurd hbt (k3 bt)
        | cons i q => simp [getB] at hg
    · rw [RT.set_ne rt _ hr] at h1
      refine (hs.roots r1 R1 h1).frame hfr (fun b p1 hp => ⟨hp, hst.other b (fun e => ?_)⟩) (fun _ _ h => h)
      subst e; rw [hbt] at hp; cases hp; exact hr rfl
  · obtain ⟨h1, h2, R1, hR1⟩ := hs.lab b r1 p1 h
    refine ⟨h1, by rw [hsz]; exact h2, ?_⟩
    by_cases hr : r1 = r
    · subst hr; exact ⟨_, RT.set_self _ _ _⟩
    · exact ⟨R1, by rw [RT.set_ne rt _ hr]; exact hR1⟩

theorem Sim.storeBox {w0 : Base} {w : World} {env : Nat → D} {rt : RT} {tm : Nat → Value} {own : Nat → Option Lab} (hs : Sim w0 env rt tm w own) {r bt off : Nat} {v : Value} {d : D} {R : Root}
    (hR : rt r = some (some R)) (hbox : R.box = true) (hbt : own bt = some (r, [])) (hm : Mt w (okb w own) own rt d v) :
    Sim w0 env (rt.set r (some { R with cs := R.cs.set off d })) tm (w.setCell ⟨bt, off, none⟩ v) own := by
  have hst := Stored.setCell w bt off v
  have hsz : (w.setCell ⟨bt, off, none⟩ v).heap.size = w.heap.size := by simp [World.setCell]
  have hfr := Sim.storeFr (R' := { R with cs := R.cs.set off d }) hst hsz hR hbt (fun q hq => by
    rcases hq with e | ⟨h1, _⟩
    · exact .inl e
    · rw [hbox] at h1; cases h1)
  have hlo := (hs.lab bt r [] hbt).1
  refine hs.change hfr (hs.below.setCell hlo v) (fun r1 R1 h1 => ?_) (fun b r1 p1 h => ?_) hs.inj
  · by_cases hr : r1 = r
    · subst hr
      rw [RT.set_self] at h1; cases h1
      rcases hs.roots r1 R hR with ⟨b, arr, e, k1, k2, k3, k4⟩ | ⟨k1, _, _⟩
      · have hb : b = bt := hs.inj b bt _ k1 hbt
        subst hb
        refine .inl ⟨b, arr.setIfInBounds off v, e, k1, hst.here arr e k2, by simpa using k3, fun i d1 v1 hi hv => ?_⟩
        refine Eq.mpr (if_pos hbox) ?_
        simp only at hi
        by_cases hio : i = off
        · subst hio
          have hlt : i < R.cs.length := by
            rcases Nat.lt_or_ge i R.cs.length with h | h
            · exact h
            · rw [List.getElem?_eq_none (by simpa using h)] at hi; cases hi
          rw [List.getElem?_set_self hlt] at hi
          rw [Array.getElem?_setIfInBounds_self_of_lt (by omega)] at hv
          cases hi; cases hv
          exact hm.frame hfr
        · rw [List.getElem?_set_ne (Ne.symm hio)] at hi
          rw [Array.getElem?_setIfInBounds_ne (Ne.symm hio)] at hv
          have := k4 i d1 v1 hi hv
          unfold CellOk at this; rw [if_pos hbox] at this
          exact this.frame hfr
      · rw [hbox] at k1; cases k1
    · rw [RT.set_ne rt _ hr] at h1
      refine (hs.roots r1 R1 h1).frame hfr (fun b p1 hp => ⟨hp, hst.other b (fun e => ?_)⟩) (fun _ _ h => h)
      subst e; rw [hbt] at hp; cases hp; exact hr rfl
  · obtain ⟨h1, h2, R1, hR1⟩ := hs.lab b r1 p1 h
    refine ⟨h1, by rw [hsz]; exact h2, ?_⟩
    by_cases hr : r1 = r
    · subst hr; exact ⟨_, RT.set_self _ _ _⟩
    · exact ⟨R1, by rw [RT.set_ne rt _ hr]; exact hR1⟩

/-- A whole root becomes a cell of another one. -/
def isOff (off : Nat) : List Nat → Bool
  | i :: _ => Nat.beq i off
  | [] => false
def ownGraft (own : Nat → Option Lab) (r2 r off : Nat) : Nat → Option Lab := fun b => match own b with
  | some (q, p) => if q = r2 then some (r, off :: p) else if q = r ∧ isOff off p = true then none else some (q, p)
  | none => none
theorem ownGraft_some {own : Nat → Option Lab} {r2 r off b q : Nat} {p : List Nat} : ownGraft own r2 r off b = some (q, p) ↔
    (∃ p', own b = some (r2, p') ∧ q = r ∧ p = off :: p') ∨ (own b = some (q, p) ∧ q ≠ r2 ∧ ¬ (q = r ∧ isOff off p = true)) := by
  unfold ownGraft
  cases h : own b with
  | none => simp
  | some l =>
    obtain ⟨q1, p1⟩ := l
    simp only [Option.some.injEq, Prod.mk.injEq]
    by_cases h1 : q1 = r2
    · rw [if_pos h1]
      constructor
      · intro h2
        simp only [Option.some.injEq, Prod.mk.injEq] at h2
        exact .inl ⟨p1, ⟨h1, rfl⟩, h2.1.symm, h2.2.symm⟩
      · rintro (⟨p', ⟨_, e⟩, e1, e2⟩ | ⟨⟨e, _⟩, hne, _⟩)
        · simp [e1, e2, e]
        · exact absurd (e.symm.trans h1) hne
    · rw [if_neg h1]
      by_cases h2 : q1 = r ∧ isOff off p1 = true
      · rw [if_pos h2]
        constructor
        · intro h3; cases h3
        · rintro (⟨p', ⟨e, _⟩, _, _⟩ | ⟨⟨e, e2⟩, _, hno⟩)
          · exact absurd e h1
          · exact absurd (by rw [← e, ← e2]; exact h2) hno
      · rw [if_neg h2]
        constructor
        · intro h3
          simp only [Option.some.injEq, Prod.mk.injEq] at h3
          exact .inr ⟨h3, fun e => h1 (h3.1.trans e), fun e => h2 (by rw [h3.1, h3.2]; exact e)⟩
        · rintro (⟨p', ⟨e, _⟩, _, _⟩ | ⟨e, _, _⟩)
          · exact absurd e h1
          · simp [e]
theorem notOff {R : Root} {off : Nat} {p : List Nat} (hno : ∀ d, R.cs[off]? = some d → d.notOwn = true) (hp : Vp R p) : isOff off p = false := by
  rcases hp with e | ⟨_, h⟩
  · subst e; rfl
  · cases p with
    | nil => rfl
    | cons i q =>
      cases e : isOff off (i :: q) with
      | false => rfl
      | true =>
        have e' : i = off := by simpa [isOff, Nat.beq_eq] using e
        subst e'
        simp only [getB] at h
        split at h
        · rename_i he
          have := hno _ he
          simp [D.notOwn] at this
        · cases h

theorem Sim.graft {w0 : Base} {w : World} {env : Nat → D} {rt : RT} {tm : Nat → Value} {own : Nat → Option Lab} (hs : Sim w0 env rt tm w own) {r r2 bt off sz m : Nat} {v : Value} {R R2 : Root}
    (hR : rt r = some (some R)) (hbox : R.box = false) (hbt : own bt = some (r, [])) (hR2 : rt r2 = some (some R2)) (hbox2 : R2.box = false) (hne : r ≠ r2) (hlt : off < R.cs.length)
    (hno : ∀ d, R.cs[off]? = some d → d.notOwn = true) (hz : sz ≠ 0) (hm : m * sz = R2.cs.length) (hv : RefOk w own r2 [] sz 0 m v) :
    Sim w0 env ((rt.set r2 none).set r (some { R with cs := R.cs.set off (.list true sz R2.cs) })) tm (w.setCell ⟨bt, off, none⟩ v) (ownGraft own r2 r off) := by
  have hst := Stored.setCell w bt off v
  have hsz : (w.setCell ⟨bt, off, none⟩ v).heap.size = w.heap.size := by simp [World.setCell]
  have hlo := (hs.lab bt r [] hbt).1
  have hRT : ∀ r1 R', ((rt.set r2 none).set r (some { R with cs := R.cs.set off (.list true sz R2.cs) })) r1 = some (some R') → (r1 = r ∧ R' = { R with cs := R.cs.set off (.list true sz R2.cs) }) ∨ (r1 ≠ r ∧ r1 ≠ r2 ∧ rt r1 = some (some R')) := by
    intro r1 R' h
    unfold RT.set at h
    split at h
    · rename_i e; cases h; exact .inl ⟨e, rfl⟩
    · rename_i e
      split at h
      · cases h
      · rename_i e2; exact .inr ⟨e, e2, h⟩
  have hpath : ∀ p, Vp R p → Vp { R with cs := R.cs.set off (.list true sz R2.cs) } p := by
    intro p hp
    have hof := notOff hno hp
    rcases hp with e | ⟨h1, h2⟩
    · exact .inl e
    · refine .inr ⟨h1, ?_⟩
      cases p with
      | nil => rfl
      | cons i q =>
        have hi : off ≠ i := fun e => by subst e; simp [isOff, Nat.beq_eq] at hof
        simp only [getB] at h2 ⊢
        rw [List.getElem?_set_ne hi]; exact h2
  have hfr : Fr w (okb w own) own rt (w.setCell ⟨bt, off, none⟩ v) (okb (w.setCell ⟨bt, off, none⟩ v) (ownGraft own r2 r off)) (ownGraft own r2 r off) ((rt.set r2 none).set r (some { R with cs := R.cs.set off (.list true sz R2.cs) })) := by
    refine ⟨fun b hk => ⟨⟨?_, by rw [hsz]; exact hk.2⟩, hst.other b (fun e => by subst e; rw [hk.1] at hbt; cases hbt)⟩, fun r1 h => ?_, fun r1 R1 h0 h => ?_, fun r1 R0 R1 h0 h b p hp => ?_, fun r1 R0 R1 q h0 h1 hq => ?_, fun r1 R1 b p arr e h0 h1 h2 h3 => ?_⟩
    · unfold ownGraft; rw [hk.1]
    · unfold RT.set; split
      · simp
      · split
        · simp
        · exact h
    · rcases hRT r1 R1 h with ⟨e, _⟩ | ⟨_, _, h1⟩
      · rw [e]; exact ⟨R, hR⟩
      · exact ⟨R1, h1⟩
    · rw [ownGraft_some]
      rcases hRT r1 R1 h with ⟨e, _⟩ | ⟨e1, e2, h1⟩
      · subst e
        rw [hR] at h0; cases h0
        have hof := notOff hno hp
        constructor
        · intro hb; exact .inr ⟨hb, hne, fun x => by rw [hof] at x; cases x.2⟩
        · rintro (⟨p', _, _, e2⟩ | ⟨hb, _, _⟩)
          · subst e2; simp [isOff, Nat.beq_eq] at hof
          · exact hb
      · constructor
        · intro hb; exact .inr ⟨hb, e2, fun x => e1 x.1⟩
        · rintro (⟨p', _, e3, _⟩ | ⟨hb, _, _⟩)
          · exact absurd e3 e1
          · exact hb
    · rcases hRT r1 R1 h1 with ⟨e, e'⟩ | ⟨_, _, h2⟩
      · subst e; subst e'
        rw [hR] at h0; cases h0
        exact hpath q hq
      · rw [h0] at h2; cases h2; exact hq
    · by_cases hb : b = bt
      · subst hb; exact ⟨_, hst.here arr e h3, by simp⟩
      · exact ⟨arr, (hst.other b hb).trans h3, rfl⟩
  refine hs.change hfr (hs.below.setCell hlo v) (fun r1 R1 h1 => ?_) (fun b r1 p1 h => ?_) (fun b b' l h h' => ?_)
  · rcases hRT r1 R1 h1 with ⟨e, e'⟩ | ⟨e1, e2, h2⟩
    · subst e; subst e'
      rcases hs.roots r1 R hR with ⟨b, arr, e, k1, k2, k3, k4⟩ | ⟨_, k2, _⟩
      · have hbb : b = bt := hs.inj b bt _ k1 hbt
        subst hbb
        refine .inl ⟨b, arr.setIfInBounds off v, e, ownGraft_some.2 (.inr ⟨k1, hne, fun x => by simp [isOff] at x⟩), hst.here arr e k2, by simpa using k3, fun i d u hi hu => ?_⟩
        unfold CellOk
        rw [if_neg (by simp [hbox])]
        by_cases hio : i = off
        · subst hio
          rw [List.getElem?_set_self hlt] at hi
          rw [Array.getElem?_setIfInBounds_self_of_lt (by omega)] at hu
          cases hi; cases hu
          rcases hv with ⟨b2, arr2, e2, cap, o, hb2, hw2, hve, hnc, hcs, ho⟩ | ⟨hve, _, hm0, hnb⟩
          · have ho0 := ho (.inl rfl)
            simp only [Nat.zero_mul] at ho0; subst ho0; subst hve
            have hb2ne : b2 ≠ b := fun x => by subst x; rw [k1] at hb2; cases hb2; exact hne rfl
            rcases hs.roots r2 R2 hR2 with ⟨b3, arr3, e3, j1, j2, j3, j4⟩ | ⟨_, _, j3⟩
            · have hb3 := hs.inj b3 b2 _ j1 hb2
              subst hb3
              rw [hw2] at j2; cases j2
              refine .own _ sz R2.cs b3 m cap arr2 e2 hz hm hnc (ownGraft_some.2 (.inl ⟨[], hb2, rfl, rfl⟩)) ((hst.other b3 hb2ne).trans hw2) (by simpa using hcs) j3 (fun i' d' u' hd' hu' => ?_)
              have hcell := j4 i' d' u' hd' hu'
              unfold CellOk at hcell
              rw [if_neg (by simp [hbox2])] at hcell
              refine hcell.relab (r1, [i] ++ [i']) hfr.ok (fun b1 q hq => ⟨?_, hst.other b1 (fun x => by subst x; rw [k1] at hq; cases hq)⟩) (fun b1 q hq => ?_)
              · exact ownGraft_some.2 (.inl ⟨_, hq, rfl, by simp⟩)
              · rcases ownGraft_some.1 hq with ⟨p', hp', _, e5⟩ | ⟨_, _, hnn⟩
                · simp at e5; rw [hp', ← e5]; simp
                · exact absurd ⟨rfl, by simp [isOff, Nat.beq_eq]⟩ hnn
            · exact absurd hb2 (j3 b2)
          · have hnil : R2.cs = [] := List.eq_nil_of_length_eq_zero (by rw [← hm, hm0]; simp)
            rw [hnil, hve]
            refine .nil _ sz (fun b1 hb1 => ?_)
            rcases ownGraft_some.1 hb1 with ⟨p', hp', _, e5⟩ | ⟨_, _, hnn⟩
            · simp at e5; subst e5; exact hnb b1 hp'
            · exact hnn ⟨rfl, by simp [isOff, Nat.beq_eq]⟩
        · rw [List.getElem?_set_ne (Ne.symm hio)] at hi
          rw [Array.getElem?_setIfInBounds_ne (Ne.symm hio)] at hu
          have hcell := k4 i d u hi hu
          unfold CellOk at hcell
          rw [if_neg (by simp [hbox])] at hcell
          have hio' : ∀ q, isOff off (i :: q) = false := fun q => by
            cases e9 : isOff off (i :: q) with
            | false => rfl
            | true => simp [isOff, Nat.beq_eq] at e9; exact absurd e9 hio
          refine hcell.frame hfr.ok (fun b1 q hq => ⟨?_, hst.other b1 (fun x => by subst x; rw [k1] at hq; simp at hq)⟩) (fun b1 q hq => ?_)
          · exact ownGraft_some.2 (.inr ⟨hq, hne, fun x => by have := hio' q; simp only [List.cons_append, List.nil_append] at x; rw [this] at x; cases x.2⟩)
          · rcases ownGraft_some.1 hq with ⟨p', _, _, e5⟩ | ⟨hb1, _, _⟩
            · simp at e5; exact absurd e5.1 hio
            · exact hb1
      · rw [k2] at hlt; simp at hlt
    · refine (hs.roots r1 R1 h2).frame hfr (fun b p hp => ⟨ownGraft_some.2 (.inr ⟨hp, e2, fun x => e1 x.1⟩), hst.other b (fun x => by subst x; rw [hbt] at hp; cases hp; exact e1 rfl)⟩) (fun b p hp => ?_)
      rcases ownGraft_some.1 hp with ⟨_, _, e3, _⟩ | ⟨hb, _, _⟩
      · exact absurd e3 e1
      · exact hb
  · have hcase : ∃ q p', own b = some (q, p') := by
      rcases ownGraft_some.1 h with ⟨p', hp', _, _⟩ | ⟨hb, _, _⟩
      · exact ⟨_, _, hp'⟩
      · exact ⟨_, _, hb⟩
    obtain ⟨q, p', hq⟩ := hcase
    obtain ⟨g1, g2, _⟩ := hs.lab b q p' hq
    refine ⟨g1, by rw [hsz]; exact g2, ?_⟩
    by_cases er : r1 = r
    · subst er; exact ⟨_, RT.set_self _ _ _⟩
    · rcases ownGraft_some.1 h with ⟨_, _, e, _⟩ | ⟨hb, e2, _⟩
      · exact absurd e er
      · obtain ⟨_, _, R3, hR3⟩ := hs.lab b r1 p1 hb
        exact ⟨R3, by rw [RT.set_ne _ _ er, RT.set_ne rt _ e2]; exact hR3⟩
  · obtain ⟨q, p⟩ := l
    rcases ownGraft_some.1 h with ⟨p', hp', e1, e2⟩ | ⟨hb, e1, e2⟩ <;> rcases ownGraft_some.1 h' with ⟨p'', hp'', e3, e4⟩ | ⟨hb', e3, e4⟩
    · rw [e2] at e4; simp at e4; subst e4; exact hs.inj b b' _ hp' hp''
    · exact absurd ⟨e1, by rw [e2]; simp [isOff, Nat.beq_eq]⟩ e4
    · exact absurd ⟨e3, by rw [e4]; simp [isOff, Nat.beq_eq]⟩ e2
    · exact hs.inj b b' _ hb hb'

end Go.Vm
