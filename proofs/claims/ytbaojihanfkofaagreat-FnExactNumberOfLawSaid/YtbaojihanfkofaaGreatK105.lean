/- Linear equations modulo a power of a prime: the rows below the pivot. -/
-- tables
-- rec
import Derived.Test.YtbaojihanfkofaaGreatK104
namespace Go.Proofs
open Go Go.Vm Go.Fg Go.Fg.PS
set_option maxRecDepth 100000
set_option maxHeartbeats 40000000
set_option linter.unusedSimpArgs false
set_option linter.unusedVariables false
theorem local_rows {q : Int} (hmd : Md q) (k u : Nat) (hN : k ≤ 1000) (hu : 1 ≤ u ∧ u ≤ 100) (M2 : Nat → Nat → Int) (o : Nat → Nat) (s p v : Nat) (hh : Int) (hs1 : s + 1 ≤ k) (hsu2 : s < u) (hpv : ((p ^ v : Nat) : Int) ≠ 0) (hr2 : ∀ i j, i < k → j ≤ u → 0 ≤ M2 i j ∧ M2 i j < q) :
    LoopK Tryz.prog 1 (bodyB 12 Tryz.f74) (fun e st' => e = .exit 12 ∧ ∃ x : Unit, True ∧ Weak 1 st' (few Tryz.f74.ntmps [(0, .ref 1 [] 1 0 k), (1, dint u), (2, dint p), (3, dint q), (9, .ref 2 [] 1 0 u), (11, dint s)] [none, some ⟨false, 1, rows true (tM k (u + 1) (stepM q ((p ^ v : Nat) : Int) (invN q hh).val s M2))⟩, some ⟨false, 1, ints (lM u fun j => (o j : Int))⟩]))
      (few Tryz.f74.ntmps [(0, .ref 1 [] 1 0 k), (1, dint u), (2, dint p), (3, dint q), (9, .ref 2 [] 1 0 u), (11, dint s), (20, .ref 1 [s] 1 0 (u + 1)), (21, dint ((p ^ v : Nat) : Int)), (170, .ref 1 [] 1 (s + 1) (k - (s + 1))), (171, dint ((k - (s + 1) : Nat) : Int)), (172, dint 0)] [none, some ⟨false, 1, rows true (tM k (u + 1) (headF q (invN q hh).val s u M2))⟩, some ⟨false, 1, ints (lM u fun j => (o j : Int))⟩]) := by
  have hm1 := hmd.1
  have hm2 := hmd.2
  refine loop_atR Tryz.tabOk mixOrd (α := Nat) (fun r => [(172, dint r), (25, .undef), (26, .undef), (27, .undef)]) (fun r => [(1, some ⟨false, 1, rows true (tM k (u + 1) (belM q ((p ^ v : Nat) : Int) (invN q hh).val s u M2 r))⟩)]) (fun r => s + 1 + r ≤ k) (fun r => k - r) (0) ?_ ?_ ?_
  · exact hs1
  · conv => whnf
    first | refine WeakS.autoR ?_ | refine Weak.autoR ?_
    conv => whnf
    repeat' ((first | exact trivial | refine And.intro rfl ?_ | refine And.intro (eqV_int vAr) ?_ | refine And.intro vOb ?_ | refine And.intro vRepl ?_ | refine And.intro vReplL ?_ | refine And.intro ?_ ?_) <;> try (conv => whnf))
    all_goals exact congrArg (rows true) (tM_congr (fun r j _ hj => (belM_zero hj).symm))
  intro r hr
  conv => whnf
  by_cases hrk : s + 1 + r < k
  · have b1 : ∀ j, belM q ((p ^ v : Nat) : Int) (invN q hh).val s u M2 r (s + 1 + r) j = M2 (s + 1 + r) j := fun j => belM_row j
    have hRs := hr2 (s + 1 + r) s (by omega) (by omega)
    have hT : (M2 (s + 1 + r) s).tdiv ((p ^ v : Nat) : Int) = M2 (s + 1 + r) s / ((p ^ v : Nat) : Int) := Int.tdiv_eq_ediv_of_nonneg hRs.1
    have hT1 := Int.ediv_le_self ((p ^ v : Nat) : Int) hRs.1
    have hT2 := Int.ediv_nonneg hRs.1 (Int.natCast_nonneg (p ^ v))
    have iT : inR .i64 ((belM q ((p ^ v : Nat) : Int) (invN q hh).val s u M2 r (s + 1 + r) s).tdiv ((p ^ v : Nat) : Int)) := by rw [b1, hT]; exact inR64 (by omega) (by omega)
    repeat' first | ((first | refine And.intro (Or.inl rfl) ?_ | (apply Exists.intro; refine And.intro (vMatR (i := s + 1 + r) vIx hrk) ?_) | (apply Exists.intro; refine And.intro (vMat (i := s + 1 + r) (j := s) vIx vIx hrk (by omega)) ?_) | (refine And.intro (fun h => ?_) (fun h => ?_) <;> (try simp only [cnt1, ints_length, rows_length, Tb_length, lM_length, tM_length] at h) <;> first | (exfalso; omega) | skip) | refine And.intro (show slotsOk _ = true by decide +kernel) ?_ | refine And.intro vOb ?_ | (apply Exists.intro; refine And.intro vObt ?_) | (apply Exists.intro; refine And.intro vObx ?_) | refine And.intro vArT ?_ | refine And.intro (hpv) ?_ | refine And.intro (iT) ?_ | refine And.intro (vMl) ?_ | refine Or.inl ?_) <;> conv => whnf) | fail
    refine loop_atR Tryz.tabOk mixOrd (α := Nat) (fun t => [(184, dint t), (27, .undef)]) (fun t => [(1, some ⟨false, 1, rows true (tM k (u + 1) (rowM q ((p ^ v : Nat) : Int) (invN q hh).val s u M2 r t))⟩)]) (fun t => t ≤ u + 1) (fun t => u + 1 - t) (0) ?_ ?_ ?_
    · omega
    · conv => whnf
      first | refine WeakS.autoR ?_ | refine Weak.autoR ?_
      conv => whnf
      repeat' ((first | exact trivial | refine And.intro rfl ?_ | refine And.intro (eqV_int vAr) ?_ | refine And.intro vOb ?_ | refine And.intro vRepl ?_ | refine And.intro vReplL ?_ | refine And.intro ?_ ?_) <;> try (conv => whnf))
      all_goals exact congrArg (rows true) (tM_congr (fun r' j _ _ => (if_neg (by omega)).symm))
    intro t ht
    conv => whnf
    rw [b1, hT]
    by_cases htu : t < u + 1
    · have x1 : rowM q ((p ^ v : Nat) : Int) (invN q hh).val s u M2 r t (s + 1 + r) t = M2 (s + 1 + r) t := rowM_row
      have x2 : rowM q ((p ^ v : Nat) : Int) (invN q hh).val s u M2 r t s t = (M2 s t * (invN q hh).val) % q := rowM_head htu
      have x3 := hr2 (s + 1 + r) t (by omega) (by omega)
      have x4 := Int.emod_nonneg (M2 s t * (invN q hh).val) (show q ≠ 0 by omega)
      have x5 := Int.emod_lt_of_pos (M2 s t * (invN q hh).val) (show 0 < q by omega)
      have y1 : 0 ≤ M2 (s + 1 + r) s / ((p ^ v : Nat) : Int) * rowM q ((p ^ v : Nat) : Int) (invN q hh).val s u M2 r t s t := by rw [x2]; exact Int.mul_nonneg hT2 x4
      have y2 : M2 (s + 1 + r) s / ((p ^ v : Nat) : Int) * rowM q ((p ^ v : Nat) : Int) (invN q hh).val s u M2 r t s t ≤ 10000 * 10000 := by rw [x2]; exact Int.mul_le_mul (by omega) (by omega) x4 (by omega)
      rw [← x1] at x3
      repeat' first | ((first | refine And.intro (Or.inl rfl) ?_ | (apply Exists.intro; refine And.intro (vMat (i := s + 1 + r) (j := t) vIx vIx hrk htu) ?_) | (apply Exists.intro; refine And.intro (vMat (i := s) (j := t) vIx vIx (by omega) htu) ?_) | (apply Exists.intro; refine And.intro (vStM (i := s + 1 + r) (j := t) _ vIx vIx hrk htu) ?_) | (apply Exists.intro; refine And.intro (c_mod _ _ hmd.pos (by omega)) ?_) | (refine And.intro (fun h => ?_) (fun h => ?_) <;> (try simp only [cnt1, ints_length, rows_length, Tb_length, lM_length, tM_length] at h) <;> first | (exfalso; omega) | skip) | refine And.intro (show slotsOk _ = true by decide +kernel) ?_ | refine And.intro vOb ?_ | (apply Exists.intro; refine And.intro vObt ?_) | (apply Exists.intro; refine And.intro vObx ?_) | refine And.intro vArT ?_ | refine And.intro (vMl) ?_ | refine Or.inl ?_) <;> conv => whnf) | fail
      refine Exists.intro (t + 1) (And.intro (by omega) (And.intro (by omega) ?_))
      first | refine WeakS.autoR ?_ | refine Weak.autoR ?_
      conv => whnf
      repeat' ((first | exact trivial | refine And.intro rfl ?_ | refine And.intro (eqV_int vAr) ?_ | refine And.intro vOb ?_ | refine And.intro vRepl ?_ | refine And.intro vReplL ?_ | refine And.intro ?_ ?_) <;> try (conv => whnf))
      exact congrArg (rows true) (tM_congr (fun r' j _ _ => rowM_step htu r' j))
    · have htu2 : t = u + 1 := by omega
      subst htu2
      repeat' first | ((first | refine And.intro (Or.inl rfl) ?_ | (refine And.intro (fun h => ?_) (fun h => ?_) <;> (try simp only [cnt1, ints_length, rows_length, Tb_length, lM_length, tM_length] at h) <;> first | (exfalso; omega) | skip) | refine And.intro (show slotsOk _ = true by decide +kernel) ?_ | refine And.intro vOb ?_ | (apply Exists.intro; refine And.intro vObt ?_) | (apply Exists.intro; refine And.intro vObx ?_) | refine And.intro vArT ?_ | refine Or.inl ?_) <;> conv => whnf) | fail
      refine Exists.intro (r + 1) (And.intro (by omega) (And.intro (by omega) ?_))
      first | refine WeakS.autoR ?_ | refine Weak.autoR ?_
      conv => whnf
      repeat' ((first | exact trivial | refine And.intro rfl ?_ | refine And.intro (eqV_int vAr) ?_ | refine And.intro vOb ?_ | refine And.intro vRepl ?_ | refine And.intro vReplL ?_ | refine And.intro ?_ ?_) <;> try (conv => whnf))
      exact congrArg (rows true) (tM_congr (fun r' j _ hj => rowM_end hj))
  · have hrk2 : s + 1 + r = k := by omega
    repeat' first | ((first | refine And.intro (Or.inl rfl) ?_ | (refine And.intro (fun h => ?_) (fun h => ?_) <;> (try simp only [cnt1, ints_length, rows_length, Tb_length, lM_length, tM_length] at h) <;> first | (exfalso; omega) | skip) | refine And.intro (show slotsOk _ = true by decide +kernel) ?_ | refine And.intro vOb ?_ | (apply Exists.intro; refine And.intro vObt ?_) | (apply Exists.intro; refine And.intro vObx ?_) | refine And.intro vArT ?_ | refine Or.inl ?_) <;> conv => whnf) | fail
    refine ⟨(), trivial, ?_⟩
    first | refine WeakS.autoR ?_ | refine Weak.autoR ?_
    conv => whnf
    repeat' ((first | exact trivial | refine And.intro rfl ?_ | refine And.intro (eqV_int vAr) ?_ | refine And.intro vOb ?_ | refine And.intro vRepl ?_ | refine And.intro vReplL ?_ | refine And.intro ?_ ?_) <;> try (conv => whnf))
    exact congrArg (rows true) (tM_congr (fun r' j hr' hj => belM_end (by omega) hj))
end Go.Proofs

