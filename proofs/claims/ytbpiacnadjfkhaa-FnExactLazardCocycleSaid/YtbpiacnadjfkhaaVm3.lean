/- Stores into owned blocks: into a box, and into a row at a path. -/
import Derived.Test.YtbpiacnadjfkhaaVm2
set_option linter.unusedVariables false
set_option linter.unusedSimpArgs false
set_option linter.unusedSectionVars false
namespace Go.Vm
open Go Go.RowKit

/-- The content of the owned block at a path. -/
def getB : List D → List Nat → Option (List D)
  | cs, [] => some cs
  | cs, i :: q => match cs[i]? with
    | some (.list true _ cs') => getB cs' q
    | _ => none

def updB (cs : List D) : List Nat → (List D → List D) → List D
  | [], f => f cs
  | i :: q, f => match cs[i]? with
    | some (.list true sz cs') => cs.set i (.list true sz (updB cs' q f))
    | _ => cs

def Blk (w : World) (ok : Nat → Prop) (own : Nat → Option Lab) (r : Nat) (p : List Nat) (b : Nat) (cs : List D) : Prop :=
  ∃ arr e, own b = some (r, p) ∧ w.heap[b]? = some (.cells arr e (0, 0)) ∧ cs.length ≤ arr.size ∧
    ∀ (i : Nat) d v, cs[i]? = some d → arr[i]? = some v → Tr w ok own (r, p ++ [i]) d v

theorem Blk.get {w : World} {ok : Nat → Prop} {own : Nat → Option Lab} {r : Nat} : ∀ (q p : List Nat) (b : Nat) (cs cs1 : List D), Blk w ok own r p b cs →
    getB cs q = some cs1 → (∃ b1, Blk w ok own r (p ++ q) b1 cs1) ∨ (cs1 = [] ∧ ∀ b, own b ≠ some (r, p ++ q)) := by
  intro q
  induction q with
  | nil => intro p b cs cs1 h hg; simp only [getB, Option.some.injEq] at hg; subst hg; exact .inl ⟨b, by simpa using h⟩
  | cons i q ih =>
    intro p b cs cs1 ⟨arr, e, h1, h2, h3, h4⟩ hg
    simp only [getB] at hg
    split at hg
    · rename_i sz cs' hi
      have hlt : i < cs.length := (List.getElem?_eq_some_iff.1 hi).1
      have hv : arr[i]? = some arr[i] := Array.getElem?_eq_getElem (by omega)
      have ht := h4 i _ _ hi hv
      generalize hv0 : arr[i] = v0 at ht
      cases ht with
      | sh _ _ _ ho _ => simp [D.notOwn] at ho
      | nil _ _ hn =>
        cases q with
        | nil => simp only [getB, Option.some.injEq] at hg; subst hg; exact .inr ⟨rfl, by simpa using hn⟩
        | cons j q => simp [getB] at hg
      | own _ _ _ b1 len cap arr1 e1 hz hl hlc hb hw hc hs hr =>
        have := ih (p ++ [i]) b1 cs' cs1 ⟨arr1, e1, hb, hw, hs, hr⟩ hg
        simpa using this
    · cases hg

/-- What a store into block 'bt' does to memory. -/
structure Stored (w w' : World) (bt off : Nat) (v : Value) : Prop where
  other : ∀ b, b ≠ bt → w'.heap[b]? = w.heap[b]?
  here : ∀ arr e, w.heap[bt]? = some (.cells arr e (0, 0)) → w'.heap[bt]? = some (.cells (arr.setIfInBounds off v) e (0, 0))

theorem Stored.setCell (w : World) (bt off : Nat) (v : Value) : Stored w (w.setCell ⟨bt, off, none⟩ v) bt off v :=
  ⟨fun b hb => Below.heap_setCell _ _ _ _ hb, fun arr e h => by simp [World.setCell, Array.getElem?_modify, h]⟩

theorem Blk.set {w w' : World} {ok : Nat → Prop} {own : Nat → Option Lab} {r bt off : Nat} {v' : Value} {d' : D} (hst : Stored w w' bt off v')
    (hinj : ∀ b b' l, own b = some l → own b' = some l → b = b') (hok' : ∀ b, ok b → w'.heap[b]? = w.heap[b]?)
    (hd : d'.notOwn = true) (hsh : Sh w' ok d' v') : ∀ (q p : List Nat) (b : Nat) (cs cs1 : List D), Blk w ok own r p b cs → own bt = some (r, p ++ q) →
    getB cs q = some cs1 → (∀ d, cs1[off]? = some d → d.notOwn = true) → Blk w' ok own r p b (updB cs q (fun l => l.set off d')) := by
  intro q
  induction q with
  | nil =>
    intro p b cs cs1 ⟨arr, e, h1, h2, h3, h4⟩ hbt hg hno
    have hb : b = bt := hinj b bt _ h1 (by simpa using hbt)
    subst hb
    refine ⟨arr.setIfInBounds off v', e, h1, hst.here arr e h2, by simpa [updB] using h3, fun i d v hi hv => ?_⟩
    simp only [updB] at hi
    have keep : ∀ d v, cs[i]? = some d → arr[i]? = some v → Tr w' ok own (r, p ++ [i]) d v := fun d v hi hv =>
      (h4 i d v hi hv).frame (fun b hb => ⟨hb, hok' b hb⟩) (fun b1 q1 hq => ⟨hq, hst.other b1 (fun e => by
        subst e; rw [h1] at hq; simp at hq)⟩) (fun _ _ h => h)
    by_cases hio : i = off
    · subst hio
      have hlt : i < cs.length := by
        rcases Nat.lt_or_ge i cs.length with h | h
        · exact h
        · rw [List.getElem?_eq_none (by simpa using h)] at hi; cases hi
      rw [List.getElem?_set_self hlt] at hi
      rw [Array.getElem?_setIfInBounds_self_of_lt (by omega)] at hv
      cases hi; cases hv
      exact .sh _ _ _ hd hsh
    · rw [List.getElem?_set_ne (Ne.symm hio)] at hi
      rw [Array.getElem?_setIfInBounds_ne (Ne.symm hio)] at hv
      exact keep d v hi hv
  | cons j q ih =>
    intro p b cs cs1 ⟨arr, e, h1, h2, h3, h4⟩ hbt hg hno
    have hbne : b ≠ bt := fun e => by subst e; rw [h1] at hbt; simp at hbt
    simp only [getB] at hg
    split at hg
    · rename_i sz cs' hj
      have hlt : j < cs.length := (List.getElem?_eq_some_iff.1 hj).1
      simp only [updB, hj]
      refine ⟨arr, e, h1, (hst.other b hbne).trans h2, by simpa using h3, fun i d v hi hv => ?_⟩
      by_cases hij : i = j
      · subst hij
        rw [List.getElem?_set_self hlt] at hi
        cases hi
        have ht := h4 i _ _ hj hv
        cases ht with
        | sh _ _ _ ho _ => simp [D.notOwn] at ho
        | nil _ _ hn =>
          cases q with
          | nil => exact absurd (by simpa using hbt) (hn bt)
          | cons k q => simp [getB] at hg
        | own _ _ _ b1 len cap arr1 e1 hz hl hlc hb hw hc hs hr =>
          have := ih (p ++ [i]) b1 cs' cs1 ⟨arr1, e1, hb, hw, hs, hr⟩ (by simpa using hbt) hg hno
          obtain ⟨arr2, e2, k1, k2, k3, k4⟩ := this
          have hsz : arr2.size = arr1.size := by
            by_cases hb1 : b1 = bt
            · subst hb1
              rw [hst.here arr1 e1 hw] at k2
              cases k2; simp
            · rw [hst.other b1 hb1, hw] at k2
              cases k2; rfl
          have hlen : (updB cs' q fun l => l.set off d').length = cs'.length := by
            cases q with
            | nil => simp [updB]
            | cons k q => simp only [updB]; split <;> simp
          exact .own _ sz _ b1 len cap arr2 e2 hz (by rw [hlen]; exact hl) hlc hb k2 (by rw [hsz]; exact hc) k3 k4
      · rw [List.getElem?_set_ne (Ne.symm hij)] at hi
        refine (h4 i d v hi hv).frame (fun b hb => ⟨hb, hok' b hb⟩) (fun b1 q1 hq => ⟨hq, hst.other b1 (fun e => ?_)⟩) (fun _ _ h => h)
        subst e
        rw [hbt] at hq
        simp at hq
        exact hij hq.1.symm
    · cases hg

/-- Frame of a store. -/
theorem Sim.storeFr {w w' : World} {rt : RT} {own : Nat → Option Lab} {r bt off : Nat} {p : List Nat} {v' : Value} {R R' : Root}
    (hst : Stored w w' bt off v') (hsz : w'.heap.size = w.heap.size) (hR : rt r = some (some R)) (hbt : own bt = some (r, p)) :
    Fr w (okb w own) own rt w' (okb w' own) own (rt.set r (some R')) := by
  refine ⟨fun b hk => ⟨⟨hk.1, by rw [hsz]; exact hk.2⟩, hst.other b (fun e => by subst e; rw [hk.1] at hbt; cases hbt)⟩, fun r1 h => ?_, fun r1 R1 h0 h => ?_, fun r1 R1 h0 h b p => Iff.rfl, fun r1 R1 b p arr e h0 h1 h2 h3 => ?_⟩
  · unfold RT.set; split <;> simp [h]
  · unfold RT.set at h; split at h
    · rename_i e; subst e; exact ⟨R, hR⟩
    · exact ⟨R1, h⟩
  · by_cases hb : b = bt
    · subst hb; exact ⟨_, hst.here arr e h3, by simp⟩
    · exact ⟨arr, (hst.other b hb).trans h3, rfl⟩

theorem Sim.storeRow {w0 : Base} {w : World} {env : Nat → D} {rt : RT} {tm : Nat → Value} {own : Nat → Option Lab} (hs : Sim w0 env rt tm w own) {r bt off : Nat} {p : List Nat} {v : Value} {d : D} {R : Root} {cs1 : List D}
    (hR : rt r = some (some R)) (hbox : R.box = false) (hbt : own bt = some (r, p)) (hg : getB R.cs p = some cs1) (hno : ∀ d, cs1[off]? = some d → d.notOwn = true)
    (hd : d.notOwn = true) (hsh : Sh w (okb w own) d v) :
    Sim w0 env (rt.set r (some { R with cs := updB R.cs p (fun l => l.set off d) })) tm (w.setCell ⟨bt, off, none⟩ v) own := by
  have hst := Stored.setCell w bt off v
  have hsz : (w.setCell ⟨bt, off, none⟩ v).heap.size = w.heap.size := by simp [World.setCell]
  have hfr := Sim.storeFr (R' := { R with cs := updB R.cs p (fun l => l.set off d) }) hst hsz hR hbt
  have hlo := (hs.lab bt r p hbt).1
  refine hs.change hfr (hs.below.setCell hlo v) (fun r1 R1 h1 => ?_) (fun b r1 p1 h => ?_) hs.inj
  · by_cases hr : r1 = r
    · subst hr
      rw [RT.set_self] at h1; cases h1
      rcases hs.roots r1 R hR with ⟨b, arr, e, k1, k2, k3, k4⟩ | ⟨_, k2, k3⟩
      · have hblk : Blk w (okb w own) own r1 [] b R.cs := ⟨arr, e, k1, k2, k3, fun i d v hi hv => by
          have := k4 i d v hi hv; unfold CellOk at this; rw [hbox] at this; simpa using this⟩
        obtain ⟨arr2, e2, m1, m2, m3, m4⟩ := Blk.set hst hs.inj (fun b h => (hfr.ok b h).2) hd
          (hsh.frame (ok' := okb w own) (fun b h => ⟨h, (hfr.ok b h).2⟩)) p [] b R.cs cs1 hblk (by simpa using hbt) hg hno
        refine .inl ⟨b, arr2, e2, m1, m2, m3, fun i d u hi hv => ?_⟩
        unfold CellOk
        simp only [hbox, Bool.false_eq_true, if_false]
        exact (by simpa using m4 i d u hi hv : Tr (w.setCell ⟨bt, off, none⟩ v) (okb w own) own (r1, [i]) d u).frame (fun b h => ⟨⟨h.1, by rw [hsz]; exact h.2⟩, rfl⟩) (fun _ _ h => ⟨h, rfl⟩) (fun _ _ h => h)
      · rw [k2] at hg
        cases p with
        | nil => exact absurd hbt (k3 bt)
        | cons i q => simp [getB] at hg
    · rw [RT.set_ne rt _ hr] at h1
      refine (hs.roots r1 R1 h1).frame hfr (fun b p1 hp => ⟨hp, hst.other b (fun e => ?_)⟩) (fun _ _ h => h)
      subst e; rw [hbt] at hp; cases hp; exact hr rfl
  · obtain ⟨h1, h2, R1, hR1⟩ := hs.lab b r1 p1 h
    refine ⟨h1, by rw [hsz]; exact h2, ?_⟩
    by_cases hr : r1 = r
    · subst hr; exact ⟨_, RT.set_self _ _ _⟩
    · exact ⟨R1, by rw [RT.set_ne rt _ hr]; exact hR1⟩

theorem Sim.storeBox {w0 : Base} {w : World} {env : Nat → D} {rt : RT} {tm : Nat → Value} {own : Nat → Option Lab} (hs : Sim w0 env rt tm w own) {r bt off : Nat} {v : Value} {d : D} {R : Root}
    (hR : rt r = some (some R)) (hbox : R.box = true) (hbt : own bt = some (r, [])) (hm : Mt w (okb w own) own rt d v) :
    Sim w0 env (rt.set r (some { R with cs := R.cs.set off d })) tm (w.setCell ⟨bt, off, none⟩ v) own := by
  have hst := Stored.setCell w bt off v
  have hsz : (w.setCell ⟨bt, off, none⟩ v).heap.size = w.heap.size := by simp [World.setCell]
  have hfr := Sim.storeFr (R' := { R with cs := R.cs.set off d }) hst hsz hR hbt
  have hlo := (hs.lab bt r [] hbt).1
  refine hs.change hfr (hs.below.setCell hlo v) (fun r1 R1 h1 => ?_) (fun b r1 p1 h => ?_) hs.inj
  · by_cases hr : r1 = r
    · subst hr
      rw [RT.set_self] at h1; cases h1
      rcases hs.roots r1 R hR with ⟨b, arr, e, k1, k2, k3, k4⟩ | ⟨k1, _, _⟩
      · have hb : b = bt := hs.inj b bt _ k1 hbt
        subst hb
        refine .inl ⟨b, arr.setIfInBounds off v, e, k1, hst.here arr e k2, by simpa using k3, fun i d1 v1 hi hv => ?_⟩
        refine Eq.mpr (if_pos hbox) ?_
        simp only at hi
        by_cases hio : i = off
        · subst hio
          have hlt : i < R.cs.length := by
            rcases Nat.lt_or_ge i R.cs.length with h | h
            · exact h
            · rw [List.getElem?_eq_none (by simpa using h)] at hi; cases hi
          rw [List.getElem?_set_self hlt] at hi
          rw [Array.getElem?_setIfInBounds_self_of_lt (by omega)] at hv
          cases hi; cases hv
          exact hm.frame hfr
        · rw [List.getElem?_set_ne (Ne.symm hio)] at hi
          rw [Array.getElem?_setIfInBounds_ne (Ne.symm hio)] at hv
          have := k4 i d1 v1 hi hv
          unfold CellOk at this; rw [if_pos hbox] at this
          exact this.frame hfr
      · rw [hbox] at k1; cases k1
    · rw [RT.set_ne rt _ hr] at h1
      refine (hs.roots r1 R1 h1).frame hfr (fun b p1 hp => ⟨hp, hst.other b (fun e => ?_)⟩) (fun _ _ h => h)
      subst e; rw [hbt] at hp; cases hp; exact hr rfl
  · obtain ⟨h1, h2, R1, hR1⟩ := hs.lab b r1 p1 h
    refine ⟨h1, by rw [hsz]; exact h2, ?_⟩
    by_cases hr : r1 = r
    · subst hr; exact ⟨_, RT.set_self _ _ _⟩
    · exact ⟨R1, by rw [RT.set_ne rt _ hr]; exact hR1⟩

end Go.Vm
