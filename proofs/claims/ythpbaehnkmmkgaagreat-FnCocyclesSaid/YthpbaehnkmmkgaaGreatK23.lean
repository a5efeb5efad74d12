/- The factor of a cocycle. -/
-- tables
-- rec
import Derived.Test.YthpbaehnkmmkgaaGreatK19
import Derived.Test.YthpbaehnkmmkgaaGreatVm32
import Derived.Test.YthpbaehnkmmkgaaGreatAlg8
namespace Go.Proofs
open Go Go.Vm Go.Fg Go.Fg.PS
set_option maxRecDepth 100000
set_option maxHeartbeats 4000000
set_option linter.unusedSimpArgs false
set_option linter.unusedVariables false
variable {m : Int}
def FacP (f : PS (PS (Zm m))) (n x : Nat) : Prop := ∀ i, i ≤ n → Zm.mk m x * Zm.mk m (lazV n i : Nat) = tpc f n i
theorem least {p : Nat → Prop} {b : Nat} : ∀ {k : Nat}, p k → k < b → ∃ j, j < b ∧ p j ∧ ∀ i, i < j → ¬ p i := by
  intro k
  induction k using Nat.strongRecOn with
  | ind k ih =>
    intro hp hk
    rcases Classical.em (∃ i, i < k ∧ p i) with ⟨i, hi, hpi⟩ | h
    · exact ih i hi hpi (by omega)
    · exact ⟨k, hk, hp, fun i hi hpi => h ⟨i, hi, hpi⟩⟩
theorem fac_ex (hm : Md m) {f : PS (PS (Zm m))} {n : Nat} (hn : 2 ≤ n ∧ n ≤ 10) (h : CocP f n) : ∃ k : Nat, k < m.toNat ∧ FacP f n k ∧ ∀ j, j < k → ¬ FacP f n j := by
  have hm1 := hm.1
  obtain ⟨w, hw⟩ := laz_all hn (fun i => (tpc f n i).val) (fun i h1 h2 => by rw [h.2.2.1 i (by omega)]) (fun a b ha hb hab =>
    Int.dvd_of_tmod_eq_zero (tmod_sub_zero.2 (by rw [Zm.mk_mul, Zm.mk_mul, Zm.mk_val, Zm.mk_val]; exact h.2.2.2.2 a b ha hb hab)))
  have h0 := Int.emod_nonneg w (show m ≠ 0 by omega)
  have h1 := Int.emod_lt_of_pos w (show 0 < m by omega)
  refine least (k := (w % m).toNat) (fun i hi => ?_) (by omega)
  rw [Int.toNat_of_nonneg h0, Zm.mk_mod]
  by_cases hi2 : 1 ≤ i ∧ i < n
  · have := tmod_sub_zero.1 (Int.tmod_eq_zero_of_dvd (hw i hi2.1 hi2.2))
    rw [Zm.mk_val, Zm.mk_mul] at this
    rw [this, Go.Fg.CR.mul_comm]
  · have hz : tpc f n i = 0 := by
      rcases (show i = 0 ∨ i = n by omega) with rfl | rfl
      · exact h.2.2.2.1
      · rw [h.2.2.1 i (by omega), Nat.sub_self]; exact h.2.2.2.1
    have hl : lazV n i = 0 := by unfold lazV; rw [if_neg (by omega)]
    rw [hz, hl]
    exact Go.Fg.mul_zero _
theorem lazL_at {n i : Nat} (h : i ≤ n) : (lazL n).getD i 0 = (lazV n i : Int) := by simp [lazL, show i < n + 1 by omega]
@[simp] theorem lazL_length (n : Nat) : (lazL n).length = n + 1 := by simp [lazL]
theorem c_factorOf (hm : Md m) (o : Bool) (N : Nat) (hN : 3 ≤ N ∧ N ≤ 11) (f : PS (PS (Zm m))) (k : Nat) (hk : k < m.toNat) (hf : FacP f (N - 1) k) (hl : ∀ j, j < k → ¬ FacP f (N - 1) j) : PureCall Tryz.prog 278 [dint m, .list o 1 (ints (L N (topS f N)))] (dint k) := by
  have hm1 := hm.1
  have hm2 := hm.2
  refine pure_of_vcR Tryz.tabOk mixOrd Tryz.func278 rfl rfl ?_
  conv => whnf
  repeat' first | ((first | refine z0 ?_ | (apply zI; refine zP (c_lazard (N - 1) vAr vAr) ?_) | (refine And.intro (fun h => ?_) (fun h => ?_) <;> (try simp only [cnt1, ints_length] at h)) | refine zS ?_ | refine zV ?_ | (apply zI; refine zP vObt ?_) | (apply zI; refine zP vObx ?_) | refine zA ?_ | refine Alt.fst ?_ | refine Or.inl ?_) <;> conv => whnf) | fail
  refine loop_atR Tryz.tabOk mixOrd (α := Nat) (fun x => [(15, dint x)]) (fun x => []) (fun x => x ≤ k) (fun x => m.toNat - x) (0) ?_ ?_ ?_
  · omega
  · conv => whnf
    first | refine WeakS.autoR ?_ | refine Weak.autoR ?_
    conv => whnf
    repeat' ((first | refine z1 ?_ | refine z2 ?_ | refine zV ?_ | refine And.intro vRepl ?_ | refine And.intro vReplL ?_ | refine And.intro ?_ ?_ | exact trivial) <;> try (conv => whnf))
  intro x hx
  conv => whnf
  repeat' first | ((first | refine z0 ?_ | (refine And.intro (fun h => ?_) (fun h => ?_) <;> (try simp only [cnt1, ints_length] at h)) | refine zS ?_ | refine zV ?_ | (apply zI; refine zP vObt ?_) | (apply zI; refine zP vObx ?_) | refine zA ?_ | refine Alt.fst ?_ | refine Or.inl ?_) <;> conv => whnf) | fail
  · refine loop_atR Tryz.tabOk mixOrd (α := Nat × Bool) (fun u => [(20, dint u.1), (7, .kb u.2)]) (fun u => []) (fun u => u.1 ≤ N ∧ (u.2 = true ↔ ∀ i, i < u.1 → Zm.mk m x * Zm.mk m (lazV (N - 1) i : Nat) = tpc f (N - 1) i)) (fun u => N - u.1) (0, true) ?_ ?_ ?_
    · exact ⟨by omega, ⟨fun _ i hi => by simp only at hi; omega, fun _ => rfl⟩⟩
    · conv => whnf
      first | refine WeakS.autoR ?_ | refine Weak.autoR ?_
      conv => whnf
      repeat' ((first | refine z1 ?_ | refine z2 ?_ | refine zV ?_ | refine And.intro vRepl ?_ | refine And.intro vReplL ?_ | refine And.intro ?_ ?_ | exact trivial) <;> try (conv => whnf))
    intro ⟨i, b⟩ ⟨hi, hb⟩
    simp only at hi hb
    have v1 := Zm.val_range hm.pos ((topS f N).c i)
    have hq : 0 ≤ (lazL (N - 1)).getD i 0 := by
      rcases Nat.lt_or_ge (N - 1) i with h | h
      · simp [lazL, show ¬ i < N - 1 + 1 by omega]
      · rw [lazL_at h]; omega
    have v2 := Int.tmod_lt_of_pos ((lazL (N - 1)).getD i 0) (show 0 < m by omega)
    have v3 := Int.tmod_nonneg m hq
    have hx' : (x : Int) ≤ 10000 := by omega
    have v4 : 0 ≤ (x : Int) * ((lazL (N - 1)).getD i 0).tmod m := Int.mul_nonneg (by omega) v3
    have v5 : (x : Int) * ((lazL (N - 1)).getD i 0).tmod m ≤ 10000 * 10000 := Int.mul_le_mul hx' (by omega) v3 (by omega)
    have hval : i < N → (((topS f N).c i).val % m = ((x : Int) * ((lazL (N - 1)).getD i 0).tmod m) % m ↔ Zm.mk m x * Zm.mk m (lazV (N - 1) i : Nat) = tpc f (N - 1) i) := fun h => by
      have e1 : ((topS f N).c i).val % m = (tpc f (N - 1) i).val := Zm.emod_val (Zm.mk_val _)
      have e2 : ((x : Int) * ((lazL (N - 1)).getD i 0).tmod m) % m = (Zm.mk m x * Zm.mk m (lazV (N - 1) i : Nat)).val := Zm.emod_val (by rw [lazL_at (by omega), Zm.tmod_val (by omega) rfl, Zm.mk_mul, Zm.mk_val])
      rw [e1, e2]
      exact ⟨fun h => (Zm.val_inj h).symm, fun h => by rw [h]⟩
    cases b
    · conv => whnf
      repeat' first | ((first | refine z0 ?_ | (apply zI; refine zP (c_mod _ _ hm.pos (by omega)) ?_) | (refine And.intro (fun h => ?_) (fun h => ?_) <;> (try simp only [cnt1, ints_length] at h)) | refine zS ?_ | refine zV ?_ | (apply zI; refine zP vObt ?_) | (apply zI; refine zP vObx ?_) | refine zA ?_ | refine Alt.fst ?_ | refine Or.inl ?_) <;> conv => whnf) | fail
      · have hi' : i < N := by simp only [L_length] at h; omega
        refine Exists.intro (i + 1, false) (And.intro ⟨by simp only; omega, ⟨fun h => (by cases h), fun hall => hb.2 (fun j hj => hall j (by simp only; omega))⟩⟩ (And.intro (by simp only; omega) ?_))
        first | refine WeakS.autoR ?_ | refine Weak.autoR ?_
        conv => whnf
        repeat' ((first | refine z1 ?_ | refine z2 ?_ | refine zV ?_ | refine And.intro vRepl ?_ | refine And.intro vReplL ?_ | refine And.intro ?_ ?_ | exact trivial) <;> try (conv => whnf))
      · have hne : x ≠ k := fun e => by
          have := hb.2 (fun j hj => e ▸ hf j (by omega))
          cases this
        refine Exists.intro (x + 1) (And.intro (by omega) (And.intro (by omega) ?_))
        first | refine WeakS.autoR ?_ | refine Weak.autoR ?_
        conv => whnf
        repeat' ((first | refine z1 ?_ | refine z2 ?_ | refine zV ?_ | refine And.intro vRepl ?_ | refine And.intro vReplL ?_ | refine And.intro ?_ ?_ | exact trivial) <;> try (conv => whnf))
    · conv => whnf
      have hlen : cnt 1 (ints (lazL (N - 1))) = N := by simp [cnt1]; omega
      repeat' first | ((first | refine z0 ?_ | (apply zI; refine zP (c_mod _ _ hm.pos (by omega)) ?_) | (refine And.intro (fun h => ?_) (fun h => ?_) <;> (try simp only [cnt1, ints_length] at h)) | refine zS ?_ | refine zV ?_ | (apply zI; refine zP vObt ?_) | (apply zI; refine zP vObx ?_) | refine zA ?_ | (refine And.intro ((by simp only [hlen]; omega)) ?_) | refine Alt.fst ?_ | refine Or.inl ?_) <;> conv => whnf) | fail
      · have hi' : i < N := by simp only [L_length] at *; omega
        refine Exists.intro (i + 1, true) (And.intro ⟨by simp only; omega, ⟨fun _ j hj => ?_, fun _ => rfl⟩⟩ (And.intro (by simp only; omega) ?_))
        · rcases Nat.lt_or_ge j i with h' | h'
          · exact hb.1 rfl j h'
          · simp only at hj
            rw [show j = i by omega]; exact (hval hi').1 h
        first | refine WeakS.autoR ?_ | refine Weak.autoR ?_
        conv => whnf
        repeat' ((first | refine z1 ?_ | refine z2 ?_ | refine zV ?_ | refine And.intro vRepl ?_ | refine And.intro vReplL ?_ | refine And.intro ?_ ?_ | exact trivial) <;> try (conv => whnf))
      · have hi' : i < N := by simp only [L_length] at *; omega
        refine Exists.intro (i + 1, false) (And.intro ⟨by simp only; omega, ⟨fun h => (by cases h), fun hall => absurd ((hval hi').2 (hall i (by simp only; omega))) h⟩⟩ (And.intro (by simp only; omega) ?_))
        first | refine WeakS.autoR ?_ | refine Weak.autoR ?_
        conv => whnf
        repeat' ((first | refine z1 ?_ | refine z2 ?_ | refine zV ?_ | refine And.intro vRepl ?_ | refine And.intro vReplL ?_ | refine And.intro ?_ ?_ | exact trivial) <;> try (conv => whnf))
      · have hi' : N ≤ i := by simp only [L_length] at h; omega
        refine congrArg dint ?_
        rcases Nat.lt_or_ge x k with h' | h'
        · exact absurd (fun j hj => hb.1 rfl j (by omega)) (hl x h')
        · omega
  · exfalso; omega
theorem c_l07Factor (hm : Md m) (o p : Bool) (N : Nat) (hN : 3 ≤ N ∧ N ≤ 11) (f : PS (PS (Zm m))) (k : Nat) (hk : k < m.toNat) (hf : FacP f (N - 1) k) (hl : ∀ j, j < k → ¬ FacP f (N - 1) j) : PureCall Tryz.prog 281 [dint m, TbD o p N f] (dint k) := by
  have hm1 := hm.1
  have hm2 := hm.2
  refine pure_of_vcR Tryz.tabOk mixOrd Tryz.func281 rfl rfl ?_
  conv => whnf
  repeat' first | ((first | refine z0 ?_ | (apply zI; refine zP (c_l07Cocycle hm (N - 1) vAr vAr) ?_) | (refine And.intro (fun h => ?_) (fun h => ?_) <;> (try simp only [cnt1, ints_length] at h)) | refine zS ?_ | refine zV ?_ | (apply zI; refine zP vObt ?_) | (apply zI; refine zP vObx ?_) | refine zA ?_ | refine Alt.fst ?_ | refine Or.inl ?_) <;> conv => whnf) | fail
  refine loop_atR Tryz.tabOk mixOrd (α := Nat) (fun x => [(7, dint x)]) (fun x => []) (fun x => x ≤ k) (fun x => m.toNat - x) (0) ?_ ?_ ?_
  · omega
  · conv => whnf
    first | refine WeakS.autoR ?_ | refine Weak.autoR ?_
    conv => whnf
    repeat' ((first | refine z1 ?_ | refine z2 ?_ | refine zV ?_ | refine And.intro vRepl ?_ | refine And.intro vReplL ?_ | refine And.intro ?_ ?_ | exact trivial) <;> try (conv => whnf))
  intro x hx
  conv => whnf
  repeat' first | ((first | refine z0 ?_ | (refine And.intro (fun h => ?_) (fun h => ?_) <;> (try simp only [cnt1, ints_length] at h)) | refine zS ?_ | refine zV ?_ | (apply zI; refine zP vObt ?_) | (apply zI; refine zP vObx ?_) | refine zA ?_ | refine Alt.fst ?_ | refine Or.inl ?_) <;> conv => whnf) | fail
  · refine loop_atR Tryz.tabOk mixOrd (α := Nat × Bool) (fun u => [(9, dint u.1), (8, .kb u.2)]) (fun u => []) (fun u => u.1 ≤ N ∧ (u.2 = true ↔ ∀ i, i < u.1 → Zm.mk m x * Zm.mk m (lazV (N - 1) i : Nat) = tpc f (N - 1) i)) (fun u => N - u.1) (0, true) ?_ ?_ ?_
    · exact ⟨by omega, ⟨fun _ i hi => by simp only at hi; omega, fun _ => rfl⟩⟩
    · conv => whnf
      first | refine WeakS.autoR ?_ | refine Weak.autoR ?_
      conv => whnf
      repeat' ((first | refine z1 ?_ | refine z2 ?_ | refine zV ?_ | refine And.intro vRepl ?_ | refine And.intro vReplL ?_ | refine And.intro ?_ ?_ | exact trivial) <;> try (conv => whnf))
    intro ⟨i, b⟩ ⟨hi, hb⟩
    simp only at hi hb
    have hx' : (x : Int) ≤ 10000 := by omega
    have hT := Zm.val_range hm.pos (((topP (N - 1) fun i => Zm.mk m (lazV (N - 1) i : Nat)).c i).c ((N : Int) - 1 - i).toNat)
    have v4 : 0 ≤ (x : Int) * (((topP (N - 1) fun i => Zm.mk m (lazV (N - 1) i : Nat)).c i).c ((N : Int) - 1 - i).toNat).val := Int.mul_nonneg (by omega) hT.1
    have v5 : (x : Int) * (((topP (N - 1) fun i => Zm.mk m (lazV (N - 1) i : Nat)).c i).c ((N : Int) - 1 - i).toNat).val ≤ 10000 * 10000 := Int.mul_le_mul (by omega) (by omega) hT.1 (by omega)
    have hval : i < N → (((x : Int) * (((topP (N - 1) fun i => Zm.mk m (lazV (N - 1) i : Nat)).c i).c ((N : Int) - 1 - i).toNat).val).tmod m = ((f.c i).c ((N : Int) - 1 - i).toNat).val ↔ Zm.mk m x * Zm.mk m (lazV (N - 1) i : Nat) = tpc f (N - 1) i) := fun h => by
      rw [Zm.tmod_val v4 rfl, Zm.mk_mul, Zm.mk_val, topP_cc, if_pos (by omega), show ((N : Int) - 1 - i).toNat = N - 1 - i by omega]
      exact ⟨fun h => Zm.val_inj h, fun h => by rw [h]; rfl⟩
    cases b
    · conv => whnf
      repeat' first | ((first | refine z0 ?_ | (refine And.intro (fun h => ?_) (fun h => ?_) <;> (try simp only [cnt1, ints_length] at h)) | refine zS ?_ | refine zV ?_ | (apply zI; refine zP vObt ?_) | (apply zI; refine zP vObx ?_) | refine zA ?_ | refine Alt.fst ?_ | refine Or.inl ?_) <;> conv => whnf) | fail
      · have hne : x ≠ k := fun e => by
          have := hb.2 (fun j hj => e ▸ hf j (by omega))
          cases this
        refine Exists.intro (x + 1) (And.intro (by omega) (And.intro (by omega) ?_))
        first | refine WeakS.autoR ?_ | refine Weak.autoR ?_
        conv => whnf
        repeat' ((first | refine z1 ?_ | refine z2 ?_ | refine zV ?_ | refine And.intro vRepl ?_ | refine And.intro vReplL ?_ | refine And.intro ?_ ?_ | exact trivial) <;> try (conv => whnf))
      · have hne : x ≠ k := fun e => by
          have := hb.2 (fun j hj => e ▸ hf j (by omega))
          cases this
        refine Exists.intro (x + 1) (And.intro (by omega) (And.intro (by omega) ?_))
        first | refine WeakS.autoR ?_ | refine Weak.autoR ?_
        conv => whnf
        repeat' ((first | refine z1 ?_ | refine z2 ?_ | refine zV ?_ | refine And.intro vRepl ?_ | refine And.intro vReplL ?_ | refine And.intro ?_ ?_ | exact trivial) <;> try (conv => whnf))
    · conv => whnf
      repeat' first | ((first | refine z0 ?_ | (refine And.intro (fun h => ?_) (fun h => ?_) <;> (try simp only [cnt1, ints_length] at h)) | refine zS ?_ | refine zV ?_ | (apply zI; refine zP vObt ?_) | (apply zI; refine zP vObx ?_) | refine zA ?_ | refine Alt.fst ?_ | refine Or.inl ?_) <;> conv => whnf) | fail
      · have hi' : i < N := by simp only [rows_length, Tb_length] at *; omega
        refine Exists.intro (i + 1, true) (And.intro ⟨by simp only; omega, ⟨fun _ j hj => ?_, fun _ => rfl⟩⟩ (And.intro (by simp only; omega) ?_))
        · rcases Nat.lt_or_ge j i with h' | h'
          · exact hb.1 rfl j h'
          · simp only at hj
            rw [show j = i by omega]; exact (hval hi').1 h
        first | refine WeakS.autoR ?_ | refine Weak.autoR ?_
        conv => whnf
        repeat' ((first | refine z1 ?_ | refine z2 ?_ | refine zV ?_ | refine And.intro vRepl ?_ | refine And.intro vReplL ?_ | refine And.intro ?_ ?_ | exact trivial) <;> try (conv => whnf))
      · have hi' : i < N := by simp only [rows_length, Tb_length] at *; omega
        refine Exists.intro (i + 1, false) (And.intro ⟨by simp only; omega, ⟨fun h => (by cases h), fun hall => absurd ((hval hi').2 (hall i (by simp only; omega))) h⟩⟩ (And.intro (by simp only; omega) ?_))
        first | refine WeakS.autoR ?_ | refine Weak.autoR ?_
        conv => whnf
        repeat' ((first | refine z1 ?_ | refine z2 ?_ | refine zV ?_ | refine And.intro vRepl ?_ | refine And.intro vReplL ?_ | refine And.intro ?_ ?_ | exact trivial) <;> try (conv => whnf))
      · have hi' : N ≤ i := by simp only [rows_length, Tb_length] at h; omega
        refine congrArg dint ?_
        rcases Nat.lt_or_ge x k with h' | h'
        · exact absurd (fun j hj => hb.1 rfl j (by omega)) (hl x h')
        · omega
  · exfalso; omega
end Go.Proofs

