/- Cocycles: the program's own check. -/
-- tables
-- rec
import Derived.Test.YthpbaehnkmmkgaaGreatK21
namespace Go.Proofs
open Go Go.Vm Go.Fg Go.Fg.PS
set_option maxRecDepth 100000
set_option maxHeartbeats 4000000
set_option linter.unusedSimpArgs false
set_option linter.unusedVariables false
variable {m : Int}
theorem c_implIsCocycleL (hm : Md m) (o p : Bool) (N : Nat) (hN : 2 ≤ N ∧ N ≤ 11) (f : PS (PS (Zm m))) (hp : plB m (Tb N f) = true) : PureCall Tryz.prog 95 [PlD m o p N f] (dbool (tr (CocP f (N - 1)))) := by
  have hm1 := hm.1
  have hm2 := hm.2
  have hli := c_IsPlane o p m (Tb N f) (by simp; omega) (lensOk_Tb (by omega) f)
  rw [hp] at hli
  have htop : ∀ i, i < N → 0 ≤ (L N (topS f N)).getD i 0 ∧ (L N (topS f N)).getD i 0 ≤ 4611686018427387904 := fun i hi => by
    rw [L_getD _ hi]
    have := Zm.val_range hm.pos ((topS f N).c i)
    omega
  refine pure_of_vcR Tryz.tabOk mixOrd Tryz.func95 rfl rfl ?_
  conv => whnf
  repeat' first | ((first | refine z0 ?_ | (apply zI; refine zP (hli) ?_) | (apply zI; refine zP (c_degreeP _ _ N vAr _) ?_) | (apply zI; refine zP (c_top _ _ N hN _) ?_) | (apply zI; refine zP (c_emptyPlane N vAr vAr) ?_) | (apply zI; refine zP (c_onTop hm _ _ _ N vAr _ (L N (topS f N)) (by simp) htop) ?_) | (apply zI; refine zP (c_sameP _ _ _ _ N N vAr _ _) ?_) | (apply zI; refine zP (c_turned hm _ _ N vAr _) ?_) | (refine And.intro (fun h => ?_) (fun h => ?_) <;> (try simp only [cnt1, ints_length] at h)) | refine zS ?_ | refine zV ?_ | (apply zI; refine zP vObt ?_) | (apply zI; refine zP vObx ?_) | refine zA ?_ | refine Alt.fst ?_ | refine Or.inl ?_) <;> conv => whnf) | fail
  · exact dbool_congr (tr_no (fun hc => by have := hc.1; omega)).symm
  · refine dbool_congr (tr_no (fun hc => ?_)).symm
    have hne : (tpc f (N - 1) 0).val ≠ 0 := by assumption
    exact hne (Zm.val_eq_zero.2 hc.2.2.2.1)
  · have h1 := of_decide_eq_true (show decide (Tb N f = Tb N (addTop 0 (N - 1) N fun i => Zm.mk m ((L N (topS f N)).getD i 0))) = true by assumption)
    have h2 := of_decide_eq_true (show decide (Tb N f = Tb N (pl fun i j => (f.c j).c i)) = true by assumption)
    have h3 : ¬ (tpc f (N - 1) 0).val ≠ 0 := by assumption
    have hlow := (top_iff (by omega)).1 h1
    have hsym := (turn_iff (by omega) hlow).1 h2
    have htp0 : tpc f (N - 1) 0 = 0 := Zm.val_eq_zero.1 (Classical.not_not.1 h3)
    have hfin : (∀ a b, 1 ≤ a → 1 ≤ b → a + b < N - 1 → cocR f (N - 1) a b) → CocP f (N - 1) := fun h => ⟨by omega, hlow, hsym, htp0, h⟩
    refine loop_atR Tryz.tabOk mixOrd (α := Nat) (fun i => [(41, dint i)]) (fun i => []) (fun i => i ≤ N - 1) (fun i => N - i) (0) ?_ ?_ ?_
    · omega
    · conv => whnf
      first | refine WeakS.autoR ?_ | refine Weak.autoR ?_
      conv => whnf
      repeat' ((first | refine z1 ?_ | refine z2 ?_ | refine zV ?_ | refine And.intro vRepl ?_ | refine And.intro vReplL ?_ | refine And.intro ?_ ?_ | exact trivial) <;> try (conv => whnf))
    intro i hi
    conv => whnf
    repeat' first | ((first | refine z0 ?_ | (apply zI; refine zP (c_degreeP _ _ N vAr _) ?_) | (apply zI; refine zP (c_ContainsFuncB 287 (fun x => decide (x ≠ 0)) (fun x => c_IsCocycle1 x) _ _ (by simp; omega)) ?_) | refine Or.inr (inl_ofR Tryz.tabOk mixOrd _ Tryz.func288 rfl rfl ?_) | (refine And.intro (fun h => ?_) (fun h => ?_) <;> (try simp only [cnt1, ints_length] at h)) | refine zS ?_ | refine zV ?_ | (apply zI; refine zP vObt ?_) | (apply zI; refine zP vObx ?_) | refine zA ?_ | refine Alt.fst ?_ | refine Or.inl ?_) <;> conv => whnf) | fail
    · have hany : (L ((N : Int) - 1 - i).toNat (f.c i)).any (fun x => decide (x ≠ 0)) = true := by assumption
      exfalso
      obtain ⟨x, hx, hx0⟩ := List.any_eq_true.1 hany
      obtain ⟨j, hj, rfl⟩ := List.getElem_of_mem hx
      rw [L_getElem] at hx0
      have hj' : j < ((N : Int) - 1 - i).toNat := by simpa using hj
      exact of_decide_eq_true hx0 (Zm.val_eq_zero.2 (hlow i j (by omega)))
    · refine Exists.intro (i + 1) (And.intro (by omega) (And.intro (by omega) ?_))
      first | refine WeakS.autoR ?_ | refine Weak.autoR ?_
      conv => whnf
      repeat' ((first | refine z1 ?_ | refine z2 ?_ | refine zV ?_ | refine And.intro vRepl ?_ | refine And.intro vReplL ?_ | refine And.intro ?_ ?_ | exact trivial) <;> try (conv => whnf))
    · refine loop_atR Tryz.tabOk mixOrd (α := Nat × Bool) (fun u => [(4, dint u.1)]) (fun u => [(15, some ⟨true, 1, [.kb u.2]⟩)]) (fun u => u.1 ≤ N ∧ (u.2 = true → ∀ a b, a < u.1 → cocQ f N a b) ∧ (u.2 = false → ¬ ∀ a b, cocQ f N a b)) (fun u => N - u.1) (0, true) ?_ ?_ ?_
      · exact ⟨by omega, fun _ a b h => by simp only at h; omega, fun h => by cases h⟩
      · conv => whnf
        first | refine WeakS.autoR ?_ | refine Weak.autoR ?_
        conv => whnf
        repeat' ((first | refine z1 ?_ | refine z2 ?_ | refine zV ?_ | refine And.intro vRepl ?_ | refine And.intro vReplL ?_ | refine And.intro ?_ ?_ | exact trivial) <;> try (conv => whnf))
      intro ⟨x, fx⟩ ⟨hx, hx1, hx2⟩
      simp only at hx hx1 hx2
      conv => whnf
      repeat' first | ((first | refine z0 ?_ | (refine And.intro (fun h => ?_) (fun h => ?_) <;> (try simp only [cnt1, ints_length] at h)) | refine zS ?_ | refine zV ?_ | (apply zI; refine zP vObt ?_) | (apply zI; refine zP vObx ?_) | refine zA ?_ | refine Alt.fst ?_ | refine Or.inl ?_) <;> conv => whnf) | fail
      · refine loop_atR Tryz.tabOk mixOrd (α := Nat × Bool) (fun u => [(5, dint u.1)]) (fun u => [(15, some ⟨true, 1, [.kb u.2]⟩)]) (fun u => x + u.1 ≤ N ∧ (u.2 = true → (∀ a b, a < x → cocQ f N a b) ∧ ∀ b, b < u.1 → cocQ f N x b) ∧ (u.2 = false → ¬ ∀ a b, cocQ f N a b)) (fun u => N - u.1) (0, fx) ?_ ?_ ?_
        · exact ⟨by omega, fun h => ⟨hx1 h, fun b hb => by simp only at hb; omega⟩, hx2⟩
        · conv => whnf
          first | refine WeakS.autoR ?_ | refine Weak.autoR ?_
          conv => whnf
          repeat' ((first | refine z1 ?_ | refine z2 ?_ | refine zV ?_ | refine And.intro vRepl ?_ | refine And.intro vReplL ?_ | refine And.intro ?_ ?_ | exact trivial) <;> try (conv => whnf))
        intro ⟨y, fy⟩ ⟨hy, hy1, hy2⟩
        simp only at hy hy1 hy2
        conv => whnf
        repeat' first | ((first | refine z0 ?_ | (refine And.intro (fun h => ?_) (fun h => ?_) <;> (try simp only [cnt1, ints_length] at h)) | refine zS ?_ | refine zV ?_ | (apply zI; refine zP vObt ?_) | (apply zI; refine zP vObx ?_) | refine zA ?_ | refine Alt.fst ?_) <;> conv => whnf) | fail
        · refine Or.inl (Or.inr (inl_round hm o p N hN f x y (by omega) fy _ _ _ _ _ (by simp [cnt1]) _ (fun hf t n => ?_) (fun hf b t n hb => ?_)))
          · conv => whnf
            repeat' first | ((first | refine z0 ?_ | (refine And.intro (fun h => ?_) (fun h => ?_) <;> (try simp only [cnt1, ints_length] at h)) | refine zS ?_ | refine zV ?_ | (apply zI; refine zP vObt ?_) | (apply zI; refine zP vObx ?_) | refine zA ?_ | refine Alt.fst ?_ | refine Or.inl ?_) <;> conv => whnf) | fail
            refine Exists.intro (y + 1, false) (And.intro ⟨by simp only; omega, fun h => (by cases h), fun _ => hy2 hf⟩ (And.intro (by simp only; omega) ?_))
            first | refine WeakS.autoR ?_ | refine Weak.autoR ?_
            conv => whnf
            repeat' ((first | refine z1 ?_ | refine z2 ?_ | refine zV ?_ | refine And.intro vRepl ?_ | refine And.intro vReplL ?_ | refine And.intro ?_ ?_ | exact trivial) <;> try (conv => whnf))
          · conv => whnf
            repeat' first | ((first | refine z0 ?_ | (refine And.intro (fun h => ?_) (fun h => ?_) <;> (try simp only [cnt1, ints_length] at h)) | refine zS ?_ | refine zV ?_ | (apply zI; refine zP vObt ?_) | (apply zI; refine zP vObx ?_) | refine zA ?_ | refine Alt.fst ?_ | refine Or.inl ?_) <;> conv => whnf) | fail
            refine Exists.intro (y + 1, b) (And.intro ⟨by simp only; omega, fun h => ⟨(hy1 hf).1, fun b' hb' => ?_⟩, fun h hall => ?_⟩ (And.intro (by simp only; omega) ?_))
            · simp only at h hb'
              rcases Nat.lt_or_ge b' y with h' | h'
              · exact (hy1 hf).2 b' h'
              · rw [show b' = y by omega]; exact hb.1 h
            · simp only at h
              have := hb.2 (hall x y)
              rw [h] at this
              cases this
            first | refine WeakS.autoR ?_ | refine Weak.autoR ?_
            conv => whnf
            repeat' ((first | refine z1 ?_ | refine z2 ?_ | refine zV ?_ | refine And.intro vRepl ?_ | refine And.intro vReplL ?_ | refine And.intro ?_ ?_ | exact trivial) <;> try (conv => whnf))
        · refine Exists.intro (x + 1, fy) (And.intro ⟨by simp only; omega, fun h a b' ha => ?_, hy2⟩ (And.intro (by simp only; omega) ?_))
          · simp only at h ha
            rcases Nat.lt_or_ge a x with h' | h'
            · exact (hy1 h).1 a b' h'
            · rw [show a = x by omega]
              rcases Nat.lt_or_ge b' y with h'' | h''
              · exact (hy1 h).2 b' h''
              · intro h1 h2 h3; exfalso; omega
          first | refine WeakS.autoR ?_ | refine Weak.autoR ?_
          conv => whnf
          repeat' ((first | refine z1 ?_ | refine z2 ?_ | refine zV ?_ | refine And.intro vRepl ?_ | refine And.intro vReplL ?_ | refine And.intro ?_ ?_ | exact trivial) <;> try (conv => whnf))
      · have hxN : x = N := by omega
        refine dbool_congr ?_
        simp only
        cases fx with
        | true => exact (tr_yes (hfin fun a b ha hb hab => hx1 rfl a b (by omega) ha hb hab)).symm
        | false => exact (tr_no fun hc => hx2 rfl fun a b ha hb hab => hc.2.2.2.2 a b ha hb hab).symm
  · refine dbool_congr (tr_no (fun hc => ?_)).symm
    exact of_decide_eq_false (by assumption) ((turn_iff (by omega) hc.2.1).2 hc.2.2.1)
  · refine dbool_congr (tr_no (fun hc => ?_)).symm
    exact of_decide_eq_false (by assumption) ((top_iff (by omega)).2 hc.2.1)
  · exact absurd (by assumption) (show ¬ true = false by simp)
end Go.Proofs

