/- Steps of memory under the abstract machine: new blocks, stores, roots that die. -/
import Derived.Test.YtnonhialafcjmaaVm1
set_option linter.unusedVariables false
set_option linter.unusedSimpArgs false
set_option linter.unusedSectionVars false
namespace Go.Vm
open Go Go.RowKit

theorem CellOk.frame {w w' : World} {ok ok' : Nat → Prop} {own own' : Nat → Option Lab} {rt rt' : RT} {r : Nat} {R : Root} {i : Nat} {d : D} {v : Value}
    (h : CellOk w ok own rt r R i d v) (hf : Fr w ok own rt w' ok' own' rt')
    (hb : ∀ b q, own b = some (r, i :: q) → own' b = some (r, i :: q) ∧ w'.heap[b]? = w.heap[b]?)
    (hback : ∀ b q, own' b = some (r, i :: q) → own b = some (r, i :: q)) : CellOk w' ok' own' rt' r R i d v := by
  unfold CellOk at *
  split
  · rename_i hx; rw [if_pos hx] at h; exact h.frame hf
  · rename_i hx; rw [if_neg hx] at h
    exact h.frame hf.ok (fun b q hq => by simpa using hb b q (by simpa using hq)) (fun b q hq => by simpa using hback b q (by simpa using hq))

theorem RootOk.frame {w w' : World} {ok ok' : Nat → Prop} {own own' : Nat → Option Lab} {rt rt' : RT} {r : Nat} {R : Root}
    (h : RootOk w ok own rt r R) (hf : Fr w ok own rt w' ok' own' rt')
    (hb : ∀ b p, own b = some (r, p) → own' b = some (r, p) ∧ w'.heap[b]? = w.heap[b]?)
    (hback : ∀ b p, own' b = some (r, p) → own b = some (r, p)) : RootOk w' ok' own' rt' r R := by
  rcases h with ⟨b, arr, e, h1, h2, h3, h4⟩ | ⟨h1, h2, h3⟩
  · refine .inl ⟨b, arr, e, (hb b [] h1).1, (hb b [] h1).2.trans h2, h3, fun i d v hd hv => ?_⟩
    exact (h4 i d v hd hv).frame hf (fun b q hq => hb b (i :: q) hq) (fun b q hq => hback b (i :: q) hq)
  · exact .inr ⟨h1, h2, fun b hb' => h3 b (hback b [] hb')⟩

theorem Sim.change {w0 : Base} {w w' : World} {env : Nat → D} {rt rt' : RT} {tm : Nat → Value} {own own' : Nat → Option Lab} (hs : Sim w0 env rt tm w own)
    (hf : Fr w (okb w own) own rt w' (okb w' own') own' rt') (hb : Below w0.heap.size w0 w')
    (hr : ∀ r R, rt' r = some (some R) → RootOk w' (okb w' own') own' rt' r R)
    (hl : ∀ b r p, own' b = some (r, p) → w0.heap.size ≤ b ∧ b < w'.heap.size ∧ ∃ R, rt' r = some (some R))
    (hi : ∀ b b' l, own' b = some l → own' b' = some l → b = b') : Sim w0 env rt' tm w' own' :=
  ⟨hb, fun i => (hs.env i).frame hf, hr, hl, hi, fun p hp => (hs.susp p hp).frame hf⟩

/-- One slot more. -/
theorem Sim.put {w0 : Base} {w : World} {env : Nat → D} {rt : RT} {tm : Nat → Value} {own : Nat → Option Lab} (hs : Sim w0 env rt tm w own) {env' : Nat → D} {tm' : Nat → Value}
    (h : ∀ i, (env' i = env i ∧ tm' i = tm i) ∨ Mt w (okb w own) own rt (env' i) (tm' i)) : Sim w0 env' rt tm' w own :=
  ⟨hs.below, fun i => by rcases h i with ⟨h1, h2⟩ | h; · rw [h1, h2]; exact hs.env i
                         · exact h, hs.roots, hs.lab, hs.inj, hs.susp⟩

theorem Sim.own_none {w0 : Base} {w : World} {env : Nat → D} {rt : RT} {tm : Nat → Value} {own : Nat → Option Lab} (hs : Sim w0 env rt tm w own) {b : Nat} (hb : w.heap.size ≤ b) : own b = none := by
  cases h : own b with
  | none => rfl
  | some l => obtain ⟨r, p⟩ := l; have := (hs.lab b r p h).2.1; omega

/-- Memory grows: what was there stays; new blocks may bear labels of new roots. -/
theorem Sim.growFr {w0 : Base} {w w' : World} {env : Nat → D} {rt rt' : RT} {tm : Nat → Value} {own own' : Nat → Option Lab} (hs : Sim w0 env rt tm w own)
    (hb : Below w.heap.size w w') (hold : ∀ b, b < w.heap.size → own' b = own b) (hnew : ∀ b r p, w.heap.size ≤ b → own' b = some (r, p) → rt r = none)
    (hrt : ∀ r, rt r ≠ none → rt' r = rt r) : Fr w (okb w own) own rt w' (okb w' own') own' rt' := by
  have hlab : ∀ r, rt r ≠ none → ∀ b p, own b = some (r, p) ↔ own' b = some (r, p) := fun r h0 b p => by
    by_cases hlt : b < w.heap.size
    · rw [hold b hlt]
    · constructor
      · intro h; rw [hs.own_none (by omega)] at h; cases h
      · intro h; exact absurd (hnew b r p (by omega) h) h0
  refine ⟨fun b hk => ⟨⟨by rw [hold b hk.2]; exact hk.1, Nat.lt_of_lt_of_le hk.2 hb.size⟩, hb.block b hk.2⟩, fun r h => by rw [hrt r h]; exact h, fun r R' h0 h => ⟨R', by rw [← hrt r h0]; exact h⟩, fun r R R' h0 _ b p _ => hlab r (by rw [h0]; simp) b p, fun r R R' p h0 h1 hp => by
    rw [hrt r (by rw [h0]; simp), h0] at h1; cases h1; exact hp, ?_⟩
  intro r R' b p arr e h0 h1 h2 h3
  exact ⟨arr, by rw [hb.block b (hs.lab b r p h2).2.1]; exact h3, rfl⟩

theorem Sim.grow {w0 : Base} {w w' : World} {env : Nat → D} {rt rt' : RT} {tm : Nat → Value} {own own' : Nat → Option Lab} (hs : Sim w0 env rt tm w own)
    (hb : Below w.heap.size w w') (hold : ∀ b, b < w.heap.size → own' b = own b)
    (hnew : ∀ b r p, w.heap.size ≤ b → own' b = some (r, p) → rt r = none ∧ b < w'.heap.size ∧ ∃ R, rt' r = some (some R))
    (hrt : ∀ r, rt r ≠ none → rt' r = rt r)
    (hroots : ∀ r R, rt r = none → rt' r = some (some R) → RootOk w' (okb w' own') own' rt' r R)
    (hinj : ∀ b b' l, w.heap.size ≤ b → w.heap.size ≤ b' → own' b = some l → own' b' = some l → b = b') : Sim w0 env rt' tm w' own' := by
  have hf := hs.growFr hb hold (fun b r p h1 h2 => (hnew b r p h1 h2).1) hrt
  have hlo : w0.heap.size ≤ w.heap.size := hs.below.size
  refine hs.change hf (hs.below.trans (hb.mono hlo)) (fun r R hR => ?_) (fun b r p h => ?_) (fun b b' l h h' => ?_)
  · by_cases h0 : rt r = none
    · exact hroots r R h0 hR
    · have hR0 : rt r = some (some R) := by rw [← hrt r h0]; exact hR
      refine (hs.roots r R hR0).frame hf (fun b p hp => ?_) (fun b p hp => by
        by_cases hlt : b < w.heap.size
        · rw [hold b hlt] at hp; exact hp
        · exact absurd (hnew b r p (by omega) hp).1 h0)
      exact ⟨by rw [hold b (hs.lab b r p hp).2.1]; exact hp, hb.block b (hs.lab b r p hp).2.1⟩
  · by_cases hlt : b < w.heap.size
    · rw [hold b hlt] at h
      obtain ⟨h1, h2, R, hR⟩ := hs.lab b r p h
      exact ⟨h1, Nat.lt_of_lt_of_le h2 hb.size, R, by rw [hrt r (by rw [hR]; simp)]; exact hR⟩
    · obtain ⟨_, h2, h3⟩ := hnew b r p (by omega) h
      exact ⟨by omega, h2, h3⟩
  · by_cases h1 : b < w.heap.size <;> by_cases h2 : b' < w.heap.size
    · rw [hold b h1] at h; rw [hold b' h2] at h'; exact hs.inj b b' l h h'
    · rw [hold b h1] at h
      obtain ⟨r, p⟩ := l
      obtain ⟨_, _, R, hR⟩ := hs.lab b r p h
      have := (hnew b' r p (by omega) h').1
      rw [this] at hR; cases hR
    · rw [hold b' h2] at h'
      obtain ⟨r, p⟩ := l
      obtain ⟨_, _, R, hR⟩ := hs.lab b' r p h'
      have := (hnew b r p (by omega) h).1
      rw [this] at hR; cases hR
    · exact hinj b b' l (by omega) (by omega) h h'

/-- Memory grows, and nothing else is said of it. -/
theorem Sim.more {w0 : Base} {w w' : World} {env : Nat → D} {rt : RT} {tm : Nat → Value} {own : Nat → Option Lab} (hs : Sim w0 env rt tm w own)
    (hb : Below w.heap.size w w') : Sim w0 env rt tm w' own :=
  hs.grow hb (fun _ _ => rfl) (fun b r p h1 h2 => by rw [hs.own_none h1] at h2; cases h2) (fun _ _ => rfl) (fun r R h0 h1 => by rw [h0] at h1; cases h1)
    (fun b b' l h1 _ h2 _ => by rw [hs.own_none h1] at h2; cases h2)

theorem Mt.more {w0 : Base} {w w' : World} {env : Nat → D} {rt : RT} {tm : Nat → Value} {own : Nat → Option Lab} (hs : Sim w0 env rt tm w own)
    (hb : Below w.heap.size w w') {d : D} {v : Value} (h : Mt w (okb w own) own rt d v) : Mt w' (okb w' own) own rt d v :=
  h.frame (hs.growFr hb (fun _ _ => rfl) (fun b r p h1 h2 => by rw [hs.own_none h1] at h2; cases h2) (fun _ _ => rfl))

def RT.set (rt : RT) (n : Nat) (x : Option Root) : RT := fun r => if r = n then some x else rt r
@[simp] theorem RT.set_self (rt : RT) (n : Nat) (x : Option Root) : rt.set n x n = some x := by simp [RT.set]
theorem RT.set_ne (rt : RT) {n r : Nat} (x : Option Root) (h : r ≠ n) : rt.set n x r = rt r := by simp [RT.set, h]

def ownSet (own : Nat → Option Lab) (b : Nat) (l : Lab) : Nat → Option Lab := fun b' => if b' = b then some l else own b'

/-- A new block of one root: its cells are as given. -/
theorem Sim.newRoot {w0 : Base} {w : World} {env : Nat → D} {rt : RT} {tm : Nat → Value} {own : Nat → Option Lab} (hs : Sim w0 env rt tm w own) (n : Nat) (hn : rt n = none)
    (arr : Array Value) (e : TypeId) (R : Root) (hl : R.cs.length ≤ arr.size)
    (hc : ∀ (i : Nat) d v, R.cs[i]? = some d → arr[i]? = some v → (R.box = true → Mt w (okb w own) own rt d v) ∧ (R.box = false → d.notOwn = true ∧ Sh w (okb w own) d v)) :
    Sim w0 env (rt.set n (some R)) tm (w.alloc (.cells arr e)) (ownSet own w.heap.size (n, [])) := by
  have hb : Below w.heap.size w (w.alloc (.cells arr e)) := (Below.refl _ _).alloc (Nat.le_refl _) _
  have hfr : Fr w (okb w own) own rt (w.alloc (.cells arr e)) (okb (w.alloc (.cells arr e)) (ownSet own w.heap.size (n, []))) (ownSet own w.heap.size (n, [])) (rt.set n (some R)) :=
    hs.growFr hb (fun b hlt => by simp [ownSet, Nat.ne_of_lt hlt])
      (fun b r p h1 h2 => by
        unfold ownSet at h2; split at h2
        · cases h2; exact hn
        · rw [hs.own_none h1] at h2; cases h2)
      (fun r h0 => RT.set_ne rt _ (fun h => h0 (h ▸ hn)))
  refine hs.grow hb (fun b hlt => by simp [ownSet, Nat.ne_of_lt hlt]) (fun b r p h1 h2 => ?_) (fun r h0 => RT.set_ne rt _ (fun h => h0 (h ▸ hn))) (fun r R' h0 h1 => ?_) (fun b b' l h1 h2 h3 h4 => ?_)
  · unfold ownSet at h2; split at h2
    · rename_i hbe; cases h2; exact ⟨hn, by simp [hbe], R, by simp⟩
    · rw [hs.own_none h1] at h2; cases h2
  · by_cases hrn : r = n
    · subst hrn
      rw [RT.set_self] at h1; cases h1
      refine .inl ⟨w.heap.size, arr, e, by simp [ownSet], heap_alloc_new w _, hl, fun i d v hd hv => ?_⟩
      unfold CellOk
      have := hc i d v hd hv
      cases hbx : R.box
      · simp only [Bool.false_eq_true, if_false]
        exact .sh _ d v (this.2 hbx).1 ((this.2 hbx).2.frame hfr.ok)
      · simp only [if_true]
        exact (this.1 hbx).frame hfr
    · rw [RT.set_ne rt _ hrn, h0] at h1; cases h1
  · unfold ownSet at h3 h4
    split at h3
    · rename_i e1; split at h4
      · rename_i e2; rw [e1, e2]
      · rw [hs.own_none h2] at h4; cases h4
    · rw [hs.own_none h1] at h3; cases h3

/-- The new root's handle. -/
theorem Sim.newRef {w : World} {rt : RT} {own : Nat → Option Lab} (n : Nat) (arr : Array Value) (e : TypeId) (R : Root) (sz len cap : Nat) (hlc : len ≤ cap) (hc : cap * sz = arr.size) :
    Mt (w.alloc (.cells arr e)) (okb (w.alloc (.cells arr e)) (ownSet own w.heap.size (n, []))) (ownSet own w.heap.size (n, [])) (rt.set n (some R)) (.ref n [] sz 0 len) (.slice (some ⟨w.heap.size, 0, none⟩) len cap) :=
  .ref n [] sz 0 len _ (by simp) rfl (fun _ _ => ⟨.inl rfl, .inl ⟨w.heap.size, arr, e, cap, 0, by simp [ownSet], heap_alloc_new w _, rfl, hlc, by simpa using hc, by simp⟩⟩)

theorem Sim.newPtr {w : World} {rt : RT} {own : Nat → Option Lab} (n : Nat) (arr : Array Value) (e : TypeId) (R : Root) :
    Mt (w.alloc (.cells arr e)) (okb (w.alloc (.cells arr e)) (ownSet own w.heap.size (n, []))) (ownSet own w.heap.size (n, [])) (rt.set n (some R)) (.ptr n [] 0) (.pointer (some ⟨w.heap.size, 0, none⟩)) :=
  .ptr n [] 0 _ (by simp) rfl (fun _ _ => ⟨.inl rfl, w.heap.size, arr, e, by simp [ownSet], heap_alloc_new w _, rfl⟩)

/-- A root dies: its blocks bear no label any more. -/
def ownKill (own : Nat → Option Lab) (n : Nat) : Nat → Option Lab := fun b => match own b with
  | some (r, p) => if r = n then none else some (r, p)
  | none => none

theorem ownKill_some {own : Nat → Option Lab} {n b r : Nat} {p : List Nat} : ownKill own n b = some (r, p) ↔ own b = some (r, p) ∧ r ≠ n := by
  unfold ownKill
  cases h : own b with
  | none => simp
  | some l =>
    obtain ⟨r', p'⟩ := l
    simp only
    split
    · rename_i h2; simp; intro h3 h4; exact h3 ▸ h2
    · rename_i h2; simp; intro h3 h4; exact h3 ▸ h2

theorem Sim.kill {w0 : Base} {w : World} {env : Nat → D} {rt : RT} {tm : Nat → Value} {own : Nat → Option Lab} (hs : Sim w0 env rt tm w own) (n : Nat) :
    Sim w0 env (rt.set n none) tm w (ownKill own n) := by
  have hfr : Fr w (okb w own) own rt w (okb w (ownKill own n)) (ownKill own n) (rt.set n none) := by
    refine ⟨fun b hk => ⟨⟨?_, hk.2⟩, rfl⟩, fun r h => ?_, fun r R' h0 h => ?_, fun r R R' h0 h b p _ => ?_, fun r R R' p h0 h1 hp => ?_, fun r R' b p arr e h0 h1 h2 h3 => ⟨arr, h3, rfl⟩⟩
    · unfold ownKill; rw [hk.1]
    · unfold RT.set; split <;> simp [h]
    · unfold RT.set at h; split at h
      · cases h
      · exact ⟨R', h⟩
    · unfold RT.set at h; split at h
      · cases h
      · rename_i hne; rw [ownKill_some]; exact ⟨fun h => ⟨h, hne⟩, fun h => h.1⟩
    · unfold RT.set at h1; split at h1
      · cases h1
      · rw [h0] at h1; cases h1; exact hp
  refine hs.change hfr hs.below (fun r R hR => ?_) (fun b r p h => ?_) (fun b b' l h h' => ?_)
  · unfold RT.set at hR; split at hR
    · cases hR
    · rename_i hne
      refine (hs.roots r R hR).frame hfr (fun b p hp => ⟨ownKill_some.2 ⟨hp, hne⟩, rfl⟩) (fun b p hp => (ownKill_some.1 hp).1)
  · rw [ownKill_some] at h
    obtain ⟨h1, h2, R, hR⟩ := hs.lab b r p h.1
    exact ⟨h1, h2, R, by rw [RT.set_ne rt _ h.2]; exact hR⟩
  · obtain ⟨r, p⟩ := l
    rw [ownKill_some] at h h'
    exact hs.inj b b' _ h.1 h'.1

end Go.Vm
