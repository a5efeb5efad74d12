/- The reference's elimination: pivots. -/
-- tables
-- rec
import Derived.Test.YtbaojihanfkofaaGreatK82
namespace Go.Proofs
open Go Go.Vm Go.Fg Go.Fg.PS
set_option maxRecDepth 100000
set_option maxHeartbeats 4000000
set_option linter.unusedSimpArgs false
set_option linter.unusedVariables false
variable {m : Int}
theorem c_l07Pivots (hm : Md m) (u : Nat) (hu : 1 ≤ u ∧ u ≤ 60) (M : List (List Int)) (hM : 1 ≤ M.length ∧ M.length ≤ 1000) (hb : ∀ r ∈ M, RowB m u u r) :
    CallsTo Tryz.prog 56 1 [dint m, .ref 1 [] 1 0 M.length] [none, some ⟨false, 1, rows true M⟩]
      (fun d rt => ∃ R P : List (List Int), PivOk m u (AllS m u M) 0 R P ∧ d = .ref 1 [] 1 0 u ∧ rt = [none, some ⟨false, 1, rows false P⟩]) := by
  have hm1 := hm.1
  have hm2 := hm.2
  refine callsTo_of Tryz.tabOk mixOrd 1 _ Tryz.func56 rfl rfl ?_
  conv => whnf
  have hM0 : (M.getD 0 []).length = u + 1 := by
    rw [List.getD_eq_getElem?_getD, List.getElem?_eq_getElem (by omega)]
    exact (hb _ (List.getElem_mem _)).len
  repeat' first | ((first | refine And.intro (Or.inl rfl) ?_ | (refine And.intro (fun h => ?_) (fun h => ?_) <;> (try simp only [cnt1, ints_length] at h)) | refine And.intro (show slotsOk _ = true by decide +kernel) ?_ | refine And.intro vOb ?_ | (apply Exists.intro; refine And.intro vObt ?_) | (apply Exists.intro; refine And.intro vObx ?_) | refine And.intro vArT ?_ | refine Or.inl ?_) <;> conv => whnf) | fail
  refine loop_atR Tryz.tabOk mixOrd (α := (List (List Int)) × (List (List Int)) × Nat) (fun x => [(7, dint ((x.2.2 : Int) - 1)), (1, .list false 1 (rows false x.1)), (6, .ref 2 [] 1 0 u), (8, .undef), (9, .undef), (10, .undef), (11, .undef), (12, .undef), (13, .undef), (14, .undef), (15, .undef), (16, .undef)]) (fun x => [(1, none), (2, some ⟨false, 1, rows false x.2.1⟩)]) (fun x => PivOk m u (AllS m u M) x.2.2 x.1 x.2.1 ∧ x.2.2 ≤ u ∧ x.1.length + x.2.2 ≤ M.length + u) (fun x => x.2.2) ((M, List.replicate u [], u)) ?_ ?_ ?_
  · exact ⟨PivOk.zero hb, Nat.le_refl u, Nat.le_refl _⟩
  · conv => whnf
    refine WeakS.of (Weak.freeze (i := 1) (r := 1) (by omega) rfl rfl (by simp) (rows_frz _ _)) ?_
    refine WeakS.of (Weak.nils (r := 2) (k := u) rfl (by rw [hM0]; rfl)) ?_
    first | refine WeakS.autoR ?_ | refine Weak.autoR ?_
    conv => whnf
    repeat' ((first | exact trivial | refine And.intro rfl ?_ | refine And.intro (eqV_int vAr) ?_ | refine And.intro vOb ?_ | refine And.intro vRepl ?_ | refine And.intro vReplL ?_ | refine And.intro ?_ ?_) <;> try (conv => whnf))
  intro ⟨R, P, j⟩ ⟨hP, hj, hlen⟩
  simp only at hP hj hlen
  conv => whnf
  repeat' first | ((first | refine And.intro (Or.inl rfl) ?_ | (refine And.intro (fun h => ?_) (fun h => ?_) <;> (try simp only [cnt1, ints_length] at h)) | refine And.intro (show slotsOk _ = true by decide +kernel) ?_ | refine And.intro vOb ?_ | (apply Exists.intro; refine And.intro vObt ?_) | (apply Exists.intro; refine And.intro vObx ?_) | refine And.intro vArT ?_ | refine Or.inl ?_) <;> conv => whnf) | fail
  · obtain ⟨j, rfl⟩ : ∃ j', j = j' + 1 := ⟨j - 1, by omega⟩
    refine loop_atR Tryz.tabOk mixOrd (α := Nat × (List (List Int)) × (List Int)) (fun x => [(10, dint x.1), (8, .list false 1 (ints x.2.2)), (9, .ref 4 [] 1 0 x.2.1.length), (11, .undef), (12, .undef), (27, .undef), (28, .undef)]) (fun x => [(3, none), (4, some ⟨false, 1, rows false x.2.1⟩)]) (fun x => EucI m u j R x.1 x.2.1 x.2.2 ∧ x.1 ≤ R.length ∧ x.2.1.length = x.1) (fun x => R.length - x.1) ((0, [], [])) ?_ ?_ ?_
    · exact ⟨EucI.zero, by omega, rfl⟩
    · conv => whnf
      refine WeakS.of (Weak.freeze (i := 8) (r := 3) (cs' := []) (by omega) rfl rfl rfl rfl) ?_
      first | refine WeakS.autoR ?_ | refine Weak.autoR ?_
      conv => whnf
      repeat' ((first | exact trivial | refine And.intro rfl ?_ | refine And.intro (eqV_int vAr) ?_ | refine And.intro vOb ?_ | refine And.intro vRepl ?_ | refine And.intro vReplL ?_ | refine And.intro ?_ ?_) <;> try (conv => whnf))
    intro ⟨i, rest, piv⟩ ⟨hE, hi, hrl⟩
    simp only at hE hi hrl
    conv => whnf
    repeat' first | ((first | refine And.intro (Or.inl rfl) ?_ | (refine And.intro (fun h => ?_) (fun h => ?_) <;> (try simp only [cnt1, ints_length] at h)) | refine And.intro (show slotsOk _ = true by decide +kernel) ?_ | refine And.intro vOb ?_ | (apply Exists.intro; refine And.intro vObt ?_) | (apply Exists.intro; refine And.intro vObx ?_) | refine And.intro vArT ?_ | refine Or.inl ?_) <;> conv => whnf) | fail
    · have hiR : i < R.length := vAr
      refine loop_atR Tryz.tabOk mixOrd (α := (List Int) × (List Int)) (fun x => [(8, .list false 1 (ints x.1)), (11, .list false 1 (ints x.2)), (12, .undef)]) (fun x => []) (fun x => EucR m u j R (i + 1) rest x.1 x.2) (fun x => (x.2.getD j 0).toNat + (if x.1 = [] then m.toNat else (x.1.getD j 0).toNat)) ((piv, R.getD i [])) ?_ ?_ ?_
      · exact hE.open hiR hP.rb
      · conv => whnf
        first | refine WeakS.autoR ?_ | refine Weak.autoR ?_
        conv => whnf
        repeat' ((first | exact trivial | refine And.intro rfl ?_ | refine And.intro (eqV_int vAr) ?_ | refine And.intro vOb ?_ | refine And.intro vRepl ?_ | refine And.intro vReplL ?_ | refine And.intro ?_ ?_) <;> try (conv => whnf))
      intro ⟨piv, row⟩ hR
      simp only at hR
      have hrw := hR.ob.len
      have hrr := hR.ob.rng j
      have hne : row ≠ [] := fun e => by rw [e] at hrw; simp at hrw
      by_cases h0 : row.getD j 0 = 0
      · have h0' : row.getD (j + 1 - 1) 0 = 0 := h0
        conv => whnf
        repeat' first | ((first | refine And.intro (Or.inl rfl) ?_ | (refine And.intro (fun h => ?_) (fun h => ?_) <;> (try simp only [cnt1, ints_length] at h) <;> first | (exfalso; omega) | skip) | refine And.intro (show slotsOk _ = true by decide +kernel) ?_ | refine And.intro vOb ?_ | (apply Exists.intro; refine And.intro vObt ?_) | (apply Exists.intro; refine And.intro vObx ?_) | refine And.intro vArT ?_ | refine And.intro (one_lst _ _ _) ?_ | refine And.intro (rows_plainF _) ?_ | refine And.intro (vM) ?_ | refine Or.inl ?_) <;> conv => whnf) | fail
        refine Exists.intro (i + 1, rest ++ [row], piv) (And.intro ⟨hR.close h0, by simp only; omega, by simp only [List.length_append, List.length_singleton]; omega⟩ (And.intro (by simp only; omega) ?_))
        first | refine WeakS.autoR ?_ | refine Weak.autoR ?_
        conv => whnf
        repeat' ((first | exact trivial | refine And.intro rfl ?_ | refine And.intro (eqV_int vAr) ?_ | refine And.intro vOb ?_ | refine And.intro vRepl ?_ | refine And.intro vReplL ?_ | refine And.intro ?_ ?_) <;> try (conv => whnf))
        exact rows_append _ _ _
      by_cases hp : piv = []
      · have hpl : piv.length = 0 := by rw [hp]; rfl
        have h0' : row.getD (j + 1 - 1) 0 ≠ 0 := h0
        conv => whnf
        repeat' first | ((first | refine And.intro (Or.inl rfl) ?_ | (refine And.intro (fun h => ?_) (fun h => ?_) <;> (try simp only [cnt1, ints_length] at h) <;> first | (exfalso; omega) | skip) | refine And.intro (show slotsOk _ = true by decide +kernel) ?_ | refine And.intro vOb ?_ | (apply Exists.intro; refine And.intro vObt ?_) | (apply Exists.intro; refine And.intro vObx ?_) | refine And.intro vArT ?_ | refine Or.inl ?_) <;> conv => whnf) | fail
        · subst hp
          refine Exists.intro (row, List.replicate (u + 1) 0) (And.intro (hR.first hm.pos h0 (by simp) (fun k => zero_getD _ _)) (And.intro ?_ ?_))
          · simp only [zero_getD, if_neg hne, if_true]
            omega
          have eM : ((↑(M.getD 0 []).length - 1 + 1 : Int)).toNat = u + 1 := by rw [hM0]; omega
          refine Weak.trans (Weak.freeze (i := 11) (r := 5) (cs' := ints (List.replicate (u + 1) 0)) (by omega) rfl rfl (by simp) (frz_zeros eM)) ?_
          first | refine WeakS.autoR ?_ | refine Weak.autoR ?_
          conv => whnf
          repeat' ((first | exact trivial | refine And.intro rfl ?_ | refine And.intro (eqV_int vAr) ?_ | refine And.intro vOb ?_ | refine And.intro vRepl ?_ | refine And.intro vReplL ?_ | refine And.intro ?_ ?_) <;> try (conv => whnf))
      · have hpl : piv.length = u + 1 := (hR.pb hp).1.len
        have hp0 := (hR.pb hp).2
        have hpr := (hR.pb hp).1.rng j
        have h0' : row.getD (j + 1 - 1) 0 ≠ 0 := h0
        have q1 := quo hrr hpr hp0
        have q2 := quo hpr hrr h0
        have q3 := quoR hm hrr hpr hp0
        have q4 := quoR hm hpr hrr h0
        have c1 := c_l07Minus hm false false row piv _ hR.ob.rng (hR.pb hp).1.rng q1.2 (by omega)
        have c2 := c_l07Minus hm false false piv row _ (hR.pb hp).1.rng hR.ob.rng q2.2 (by omega)
        conv => whnf
        repeat' first | ((first | refine And.intro (Or.inl rfl) ?_ | (apply Exists.intro; refine And.intro (c1) ?_) | (apply Exists.intro; refine And.intro (c2) ?_) | (refine And.intro (fun h => ?_) (fun h => ?_) <;> (try simp only [cnt1, ints_length] at h) <;> first | (exfalso; omega) | skip) | refine And.intro (show slotsOk _ = true by decide +kernel) ?_ | refine And.intro vOb ?_ | (apply Exists.intro; refine And.intro vObt ?_) | (apply Exists.intro; refine And.intro vObx ?_) | refine And.intro vArT ?_ | refine And.intro (q3) ?_ | refine And.intro (q4) ?_ | refine Or.inl ?_) <;> conv => whnf) | fail
        · have hlt : row.getD j 0 < piv.getD j 0 := by assumption
          refine Exists.intro (row, minR m piv row ((piv.getD j 0).tdiv (row.getD j 0))) (And.intro ((hR.swap hp h0).minus hm.pos hne _) (And.intro ?_ ?_))
          · simp only [if_neg hne, if_neg hp]
            rw [q2.1, minR_pivot (by omega) hpr (by omega)]
            have := Int.emod_lt_of_pos (piv.getD j 0) (show 0 < row.getD j 0 by omega)
            omega
          first | refine WeakS.autoR ?_ | refine Weak.autoR ?_
          conv => whnf
          repeat' ((first | exact trivial | refine And.intro rfl ?_ | refine And.intro (eqV_int vAr) ?_ | refine And.intro vOb ?_ | refine And.intro vRepl ?_ | refine And.intro vReplL ?_ | refine And.intro ?_ ?_) <;> try (conv => whnf))
        · have hlt : ¬ row.getD j 0 < piv.getD j 0 := by assumption
          refine Exists.intro (piv, minR m row piv ((row.getD j 0).tdiv (piv.getD j 0))) (And.intro (hR.minus hm.pos hp _) (And.intro ?_ ?_))
          · simp only [if_neg hp]
            rw [q1.1, minR_pivot (by omega) hrr (by omega)]
            have := Int.emod_lt_of_pos (row.getD j 0) (show 0 < piv.getD j 0 by omega)
            omega
          first | refine WeakS.autoR ?_ | refine Weak.autoR ?_
          conv => whnf
          repeat' ((first | exact trivial | refine And.intro rfl ?_ | refine And.intro (eqV_int vAr) ?_ | refine And.intro vOb ?_ | refine And.intro vRepl ?_ | refine And.intro vReplL ?_ | refine And.intro ?_ ?_) <;> try (conv => whnf))
    · have hiR : i = R.length := vAr
      subst hiR
      have hp : piv ≠ [] := fun e => by subst e; simp at *
      have hpb := (hE.pb hp).1
      have hp0 := (hE.pb hp).2
      have hpl := hpb.len
      have hpr := hpb.rng j
      have kg := c_l01Gcd (piv.getD j 0).toNat m.toNat (by omega) (by omega)
      rw [Int.toNat_of_nonneg hpr.1, Int.toNat_of_nonneg (show 0 ≤ m by omega)] at kg
      have hg : Nat.gcd (piv.getD j 0).toNat m.toNat ≠ 0 := fun e => by have := Nat.eq_zero_of_gcd_eq_zero_right e; omega
      have hg2 : Nat.gcd (piv.getD j 0).toNat m.toNat ≤ m.toNat := Nat.le_of_dvd (by omega) (Nat.gcd_dvd_right _ _)
      have hs := PivOk.some hP hm.pos (by omega) hE hp (z := List.replicate ((↑(M.getD 0 []).length - 1 + 1 : Int)).toNat 0) (by rw [List.length_replicate]; omega) (fun k => zero_getD _ _)
      generalize Nat.gcd (piv.getD j 0).toNat m.toNat = g at *
      have hq : m.tdiv (g : Int) = m / (g : Int) := Int.tdiv_eq_ediv_of_nonneg (by omega)
      have hq1 : 0 ≤ m / (g : Int) := Int.ediv_nonneg (by omega) (by omega)
      have hq2 : m / (g : Int) ≤ m := Int.ediv_le_self _ (by omega)
      rw [← hq] at hs hq1 hq2
      have c1 := c_l07Minus hm false false (List.replicate ((↑(M.getD 0 []).length - 1 + 1 : Int)).toNat 0) piv (m - m.tdiv (g : Int)) (fun k => by rw [zero_getD]; omega) hpb.rng (by omega) (by rw [List.length_replicate]; omega)
      have i1 : inR .i64 (m.tdiv (g : Int)) := inR64 (by omega) (by omega)
      have i2 : inR .i64 (m - m.tdiv (g : Int)) := inR64 (by omega) (by omega)
      repeat' first | ((first | refine And.intro (Or.inl rfl) ?_ | (apply Exists.intro; refine And.intro (kg) ?_) | (apply Exists.intro; refine And.intro (c1) ?_) | (apply Exists.intro; refine And.intro (vStoreF (t := P) (i := j) piv vIx (by rw [hP.pl]; omega)) ?_) | (refine And.intro (fun h => ?_) (fun h => ?_) <;> (try simp only [cnt1, ints_length] at h)) | refine And.intro (show slotsOk _ = true by decide +kernel) ?_ | refine And.intro vOb ?_ | (apply Exists.intro; refine And.intro vObt ?_) | (apply Exists.intro; refine And.intro vObx ?_) | refine And.intro vArT ?_ | refine And.intro (i1) ?_ | refine And.intro (i2) ?_ | refine And.intro (one_lst _ _ _) ?_ | refine And.intro (rows_plainF _) ?_ | refine And.intro (vM) ?_ | refine Or.inl ?_) <;> conv => whnf) | fail
      refine Exists.intro (rest ++ [minR m (List.replicate ((↑(M.getD 0 []).length - 1 + 1 : Int)).toNat 0) piv (m - m.tdiv (g : Int))], P.set j piv, j) (And.intro ⟨hs, by simp only; omega, by simp only [List.length_append, List.length_singleton]; omega⟩ (And.intro (by simp only; omega) ?_))
      refine Weak.trans (Weak.freeze (i := 1) (r := 9) (cs' := rows false (rest ++ [minR m (List.replicate ((↑(M.getD 0 []).length - 1 + 1 : Int)).toNat 0) piv (m - m.tdiv (g : Int))])) (by omega) rfl rfl (by simp) ((congrArg (List.map frz1) (rows_append false rest _)).trans (rows_frz _ _))) ?_
      first | refine WeakS.autoR ?_ | refine Weak.autoR ?_
      conv => whnf
      repeat' ((first | exact trivial | refine And.intro rfl ?_ | refine And.intro (eqV_int vAr) ?_ | refine And.intro vOb ?_ | refine And.intro vRepl ?_ | refine And.intro vReplL ?_ | refine And.intro ?_ ?_) <;> try (conv => whnf))
    · have hiR : i = R.length := vAr
      subst hiR
      have hp : piv = [] := List.eq_nil_of_length_eq_zero vAr
      subst hp
      refine Exists.intro (rest, P, j) (And.intro ⟨PivOk.none hP (show j < u by omega) hE, by simp only; omega, by simp only; omega⟩ (And.intro (by simp only; omega) ?_))
      refine Weak.trans (Weak.freeze (i := 1) (r := 4) (by omega) rfl rfl (by simp) (rows_frz _ _)) ?_
      first | refine WeakS.autoR ?_ | refine Weak.autoR ?_
      conv => whnf
      repeat' ((first | exact trivial | refine And.intro rfl ?_ | refine And.intro (eqV_int vAr) ?_ | refine And.intro vOb ?_ | refine And.intro vRepl ?_ | refine And.intro vReplL ?_ | refine And.intro ?_ ?_) <;> try (conv => whnf))
  · have hj0 : j = 0 := vAr
    subst hj0
    have hw := fun st => Weak.autoR (kp := 1) (st := st) (st2 := ⟨[.ref 1 [] 1 0 u], [none, some ⟨false, 1, rows false P⟩]⟩)
    refine ⟨.ref 1 [] 1 0 u, [none, some ⟨false, 1, rows false P⟩], ⟨R, P, hP, rfl, rfl⟩, hw _ ?_⟩
    conv => whnf
    repeat' first
      | exact trivial
      | (refine And.intro rfl ?_; conv => whnf)
end Go.Proofs

