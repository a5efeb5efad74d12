/- Sums of curves over numbers with a root of unity: the program. -/
-- tables
-- rec
import Derived.Test.YtllcbelphabdpaaK56
namespace Go.Proofs
open Go Go.Vm Go.Fg Go.Fg.PS
set_option maxRecDepth 100000
set_option maxHeartbeats 4000000
set_option linter.unusedSimpArgs false
set_option linter.unusedVariables false
variable {m : Int}
theorem one_min (hm : Md m) (i : Nat) : (1 : Int) - min (i : Int) 1 = (if i = 0 then (1 : Zm m) else 0).val := by
  have := hm.1
  by_cases h : i = 0
  · subst h; rw [if_pos rfl, Zm.val_one (by omega)]; rfl
  · rw [if_neg h, Zm.val_zero]; omega
/-- The powers of a series, as tables. -/
def pwG (k : Nat) (ρ : PS (Zm m)) (N : Nat) (a : PS (PS (Zm m))) (i : Nat) : List (List Int) := sqP k N (pwR k ρ N a i)
theorem c_whPowers (hm : Md m) (o o1 o2 p1 p2 : Bool) (rl : List Int) {k : Nat} (hk : RuOk rl k) (N : Nat) (hN : 1 ≤ N ∧ N ≤ 100) (f : PS (PS (Zm m))) (a : PS (PS (Zm m))) :
    PureCall Try.prog 152 [RtD o1 p1 k N a, .cptr [dint m, .list o 1 (ints rl)] 0, .cptr [dint m, .list o2 1 (rows p2 (Tb N f))] 0] (.list true 1 (tbg (pwG k (rd m rl) N a) N)) := by
  have hk0 := hk
  obtain ⟨hl, hk1, hk4, hr⟩ := hk
  have hm1 := hm.1
  have hm2 := hm.2
  refine pure_of_vcR Try.tabOk mixOrd Try.func152 rfl rfl ?_
  conv => whnf
  repeat' first
    | (refine And.intro (Or.inl rfl) ?_; conv => whnf)
    | (refine And.intro (fun h => ?_) (fun h => ?_) <;> (try simp only [cnt1, ints_length] at h) <;> conv => whnf)
    | (refine And.intro (show slotsOk _ = true by decide +kernel) ?_; conv => whnf)
    | (refine And.intro vOb ?_; conv => whnf)
    | (apply Exists.intro; refine And.intro vObt ?_; conv => whnf)
    | (apply Exists.intro; refine And.intro vObx ?_; conv => whnf)
    | (refine And.intro vArT ?_; conv => whnf)
    | (refine Or.inl ?_; conv => whnf)
    | fail
  refine loop_atR Try.tabOk mixOrd (α := Nat) (fun i => [(11, dint i), (6, .undef), (5, .ref 0 [] 1 0 i), (8, .undef)]) (fun i => [(0, some ⟨false, 1, rows true (sqP k i (1 : PS (PS (Zm m))))⟩)]) (fun i => i ≤ N) (fun i => N - i) (0) ?_ ?_ ?_
  · omega
  · conv => whnf
    first | refine WeakS.autoR ?_ | refine Weak.autoR ?_
    conv => whnf
    repeat' first
      | exact trivial
      | (refine And.intro rfl ?_; conv => whnf)
      | (refine And.intro (eqV_int vAr) ?_; conv => whnf)
      | (refine And.intro vOb ?_; conv => whnf)
      | (refine And.intro vRepl ?_; conv => whnf)
      | (refine And.intro vReplL ?_; conv => whnf)
      | (refine And.intro ?_ ?_ <;> try (conv => whnf))
  intro i hi
  conv => whnf
  repeat' first
    | (refine And.intro (Or.inl rfl) ?_; conv => whnf)
    | (refine Or.inl (Or.inl (Exists.intro _ (And.intro (c_whNumber hm _ rl hk0 (if i = 0 then 1 else 0) (one_min hm i)) ?_))); conv => whnf)
    | (refine Or.inl (Exists.intro _ (And.intro (c_whNumber hm _ rl hk0 (if i = 0 then 1 else 0) (one_min hm i)) ?_)); conv => whnf)
    | (apply Exists.intro; refine And.intro (c_whNumber hm _ rl hk0 (if i = 0 then 1 else 0) (one_min hm i)) ?_; conv => whnf)
    | (refine Or.inl (Or.inl (Exists.intro _ (And.intro (c_degreeP _ _ N (by omega) f) ?_))); conv => whnf)
    | (refine Or.inl (Exists.intro _ (And.intro (c_degreeP _ _ N (by omega) f) ?_)); conv => whnf)
    | (apply Exists.intro; refine And.intro (c_degreeP _ _ N (by omega) f) ?_; conv => whnf)
    | (refine Or.inl (Or.inl (Exists.intro _ (And.intro (sub_rt vRA (Nat.le_refl _)) ?_))); conv => whnf)
    | (refine Or.inl (Exists.intro _ (And.intro (sub_rt vRA (Nat.le_refl _)) ?_)); conv => whnf)
    | (apply Exists.intro; refine And.intro (sub_rt vRA (Nat.le_refl _)) ?_; conv => whnf)
    | (refine Or.inl (Or.inl (Exists.intro _ (And.intro (one_lg _) ?_))); conv => whnf)
    | (refine Or.inl (Exists.intro _ (And.intro (one_lg _) ?_)); conv => whnf)
    | (apply Exists.intro; refine And.intro (one_lg _) ?_; conv => whnf)
    | (refine And.intro (fun h => ?_) (fun h => ?_) <;> (try simp only [cnt1, ints_length] at h) <;> conv => whnf)
    | (refine And.intro (show slotsOk _ = true by decide +kernel) ?_; conv => whnf)
    | (refine And.intro vOb ?_; conv => whnf)
    | (apply Exists.intro; refine And.intro vObt ?_; conv => whnf)
    | (apply Exists.intro; refine And.intro vObx ?_; conv => whnf)
    | (refine And.intro vArT ?_; conv => whnf)
    | (refine And.intro (inR64 vRA vRA) ?_; conv => whnf)
    | (refine And.intro (vRA) ?_; conv => whnf)
    | (refine And.intro (one_in _) ?_; conv => whnf)
    | (refine And.intro (rows_plain _) ?_; conv => whnf)
    | (refine Or.inl ?_; conv => whnf)
    | fail
  · have hi' : i < N := vRA
    refine Exists.intro (i + 1) (And.intro vRA (And.intro vRA ?_))
    first | refine WeakS.autoR ?_ | refine Weak.autoR ?_
    conv => whnf
    repeat' first
      | exact trivial
      | (refine And.intro rfl ?_; conv => whnf)
      | (refine And.intro (eqV_int vAr) ?_; conv => whnf)
      | (refine And.intro vOb ?_; conv => whnf)
      | (refine And.intro vRepl ?_; conv => whnf)
      | (refine And.intro vReplL ?_; conv => whnf)
      | (refine And.intro ?_ ?_ <;> try (conv => whnf))
    exact rows_congr (sqP_push (by
      rw [PS.one_c]
      split
      · rfl
      · rw [PS.C_zero]))
  · have hiN : i = N := vRA
    subst hiN
    refine loop_atR Try.tabOk mixOrd (α := Nat) (fun j => [(27, dint j), (7, .ref 1 [] 1 0 (j + 1)), (5, .undef), (23, .undef), (24, .undef)]) (fun j => [(1, some ⟨false, 1, tbg (pwG k (rd m rl) i a) (j + 1)⟩)]) (fun j => j + 1 ≤ i) (fun j => i - j) (0) ?_ ?_ ?_
    · omega
    · conv => whnf
      first | refine WeakS.autoR ?_ | refine Weak.autoR ?_
      conv => whnf
      repeat' first
        | exact trivial
        | (refine And.intro rfl ?_; conv => whnf)
        | (refine And.intro (eqV_int vAr) ?_; conv => whnf)
        | (refine And.intro vOb ?_; conv => whnf)
        | (refine And.intro vRepl ?_; conv => whnf)
        | (refine And.intro vReplL ?_; conv => whnf)
        | (refine And.intro ?_ ?_ <;> try (conv => whnf))
    intro j hj
    conv => whnf
    repeat' first
      | (refine And.intro (Or.inl rfl) ?_; conv => whnf)
      | (refine Or.inl (Or.inl (Exists.intro _ (And.intro (vTgL j vIx vRA) ?_))); conv => whnf)
      | (refine Or.inl (Exists.intro _ (And.intro (vTgL j vIx vRA) ?_)); conv => whnf)
      | (apply Exists.intro; refine And.intro (vTgL j vIx vRA) ?_; conv => whnf)
      | (refine Or.inl (Or.inl (Exists.intro _ (And.intro (vTgG j vIx vRA) ?_))); conv => whnf)
      | (refine Or.inl (Exists.intro _ (And.intro (vTgG j vIx vRA) ?_)); conv => whnf)
      | (apply Exists.intro; refine And.intro (vTgG j vIx vRA) ?_; conv => whnf)
      | (refine Or.inl (Or.inl (Exists.intro _ (And.intro (sub_rt vRA (Nat.le_refl _)) ?_))); conv => whnf)
      | (refine Or.inl (Exists.intro _ (And.intro (sub_rt vRA (Nat.le_refl _)) ?_)); conv => whnf)
      | (apply Exists.intro; refine And.intro (sub_rt vRA (Nat.le_refl _)) ?_; conv => whnf)
      | (refine Or.inl (Or.inl (Exists.intro _ (And.intro (c_whProduct hm _ _ _ _ _ rl hk0 i hN (pwR k (rd m rl) i a j) a) ?_))); conv => whnf)
      | (refine Or.inl (Exists.intro _ (And.intro (c_whProduct hm _ _ _ _ _ rl hk0 i hN (pwR k (rd m rl) i a j) a) ?_)); conv => whnf)
      | (apply Exists.intro; refine And.intro (c_whProduct hm _ _ _ _ _ rl hk0 i hN (pwR k (rd m rl) i a j) a) ?_; conv => whnf)
      | (refine And.intro (fun h => ?_) (fun h => ?_) <;> (try simp only [cnt1, ints_length] at h) <;> conv => whnf)
      | (refine And.intro (show slotsOk _ = true by decide +kernel) ?_; conv => whnf)
      | (refine And.intro vOb ?_; conv => whnf)
      | (apply Exists.intro; refine And.intro vObt ?_; conv => whnf)
      | (apply Exists.intro; refine And.intro vObx ?_; conv => whnf)
      | (refine And.intro vArT ?_; conv => whnf)
      | (refine And.intro (inR64 vRA vRA) ?_; conv => whnf)
      | (refine And.intro (vTgLen vRA) ?_; conv => whnf)
      | (refine And.intro (one_lg _) ?_; conv => whnf)
      | (refine And.intro (tbg_plain _ _) ?_; conv => whnf)
      | (refine And.intro (vRA) ?_; conv => whnf)
      | (refine Or.inl ?_; conv => whnf)
      | fail
    · refine Exists.intro (j + 1) (And.intro vRA (And.intro vRA ?_))
      first | refine WeakS.autoR ?_ | refine Weak.autoR ?_
      conv => whnf
      repeat' first
        | exact trivial
        | (refine And.intro rfl ?_; conv => whnf)
        | (refine And.intro (eqV_int vAr) ?_; conv => whnf)
        | (refine And.intro vOb ?_; conv => whnf)
        | (refine And.intro vRepl ?_; conv => whnf)
        | (refine And.intro vReplL ?_; conv => whnf)
        | (refine And.intro ?_ ?_ <;> try (conv => whnf))
      exact tbg_push rfl
    · rw [show j + 1 = i from vRA]
end Go.Proofs

