/- Laws: IsLaw for all planes. -/
import Derived.Test.YthpbaehnkmmkgaaGreatK29
import Derived.Test.YthpbaehnkmmkgaaGreatK16

-- tables
-- rec
namespace Go.Proofs
open Go Go.Vm Go.Fg Go.Fg.PS
set_option maxRecDepth 100000
set_option maxHeartbeats 4000000
set_option linter.unusedSimpArgs false
set_option linter.unusedVariables false
noncomputable def lawB (m : Int) (t : List (List Int)) : Bool := plB m t && trL (LawP (rd2 m t) t.length)
theorem lawB_no {m : Int} {t : List (List Int)} (h : plB m t = false) : lawB m t = false := by simp [lawB, h]
theorem lawB_yes {m : Int} {t : List (List Int)} (h : plB m t = true) : lawB m t = trL (LawP (rd2 m t) t.length) := by simp [lawB, h]
theorem c_l04Is (o p : Bool) (m : Int) (t : List (List Int)) (hl : t.length ≤ 1048576) (hr : lensOk t) : PureCall Tryz.prog 251 [.agg [dint m, .list o 1 (rows p t)]] (dbool (lawB m t)) := by
  cases hp : plB m t with
  | true =>
    obtain ⟨hm, h2, h3, _⟩ := plB_md hp
    have key := c_l04IsL hm o p t.length ⟨h2, h3⟩ (rd2 m t) (by rw [plB_T hp]; exact hp)
    simp only [PlD, plB_T hp] at key
    rw [lawB_yes hp]
    exact key
  | false =>
    have hli := c_l03Is o p m t hl hr
    rw [hp] at hli
    rw [lawB_no hp]
    refine pure_of_vcR Tryz.tabOk mixOrd Tryz.func251 rfl rfl ?_
    conv => whnf
    repeat' first | ((first | refine z0 ?_ | (apply zI; refine zP (hli) ?_) | (refine And.intro (fun h => ?_) (fun h => ?_) <;> (try simp only [cnt1, ints_length] at h)) | refine zS ?_ | refine zV ?_ | (apply zI; refine zP vObt ?_) | (apply zI; refine zP vObx ?_) | refine zA ?_ | refine Alt.fst ?_ | refine Or.inl ?_) <;> conv => whnf) | fail
    all_goals (exfalso; simp_all)
theorem c_IsLaw (o p : Bool) (m : Int) (t : List (List Int)) (hl : t.length ≤ 1048576) (hr : lensOk t) : PureCall Tryz.prog 39 [.agg [dint m, .list o 1 (rows p t)]] (dbool (lawB m t)) := by
  cases hp : plB m t with
  | true =>
    obtain ⟨hm, h2, h3, _⟩ := plB_md hp
    have key := c_implIsLawL hm o p t.length ⟨h2, h3⟩ (rd2 m t) (by rw [plB_T hp]; exact hp)
    simp only [PlD, plB_T hp] at key
    rw [lawB_yes hp]
    exact key
  | false =>
    have hli := c_IsPlane o p m t hl hr
    rw [hp] at hli
    rw [lawB_no hp]
    refine pure_of_vcR Tryz.tabOk mixOrd Tryz.func39 rfl rfl ?_
    conv => whnf
    repeat' first | ((first | refine z0 ?_ | (apply zI; refine zP (hli) ?_) | (refine And.intro (fun h => ?_) (fun h => ?_) <;> (try simp only [cnt1, ints_length] at h)) | refine zS ?_ | refine zV ?_ | (apply zI; refine zP vObt ?_) | (apply zI; refine zP vObx ?_) | refine zA ?_ | refine Alt.fst ?_ | refine Or.inl ?_) <;> conv => whnf) | fail
    all_goals (exfalso; simp_all)
end Go.Proofs



-- tables
-- rec
namespace Go.Proofs
open Go Go.Vm Go.Fg Go.Fg.PS
set_option maxRecDepth 100000
set_option maxHeartbeats 4000000
set_option linter.unusedSimpArgs false
set_option linter.unusedVariables false
variable {m : Int}
def eqK (f g : PS (PS (Zm m))) (k : Nat) : Prop := ∀ i, i ≤ k → (f.c i).c (k - i) = (g.c i).c (k - i)
open Classical in
noncomputable def agr (f g : PS (PS (Zm m))) : Nat → Nat
  | 0 => 0
  | k + 1 => if agr f g k = k ∧ eqK f g k then k + 1 else agr f g k
theorem agr_full {f g : PS (PS (Zm m))} : ∀ {k : Nat}, (∀ j, j < k → eqK f g j) → agr f g k = k
  | 0, _ => rfl
  | k + 1, h => by
    have ih := agr_full (k := k) (fun j hj => h j (by omega))
    unfold agr
    rw [if_pos ⟨ih, h k (by omega)⟩]
theorem agr_stop {f g : PS (PS (Zm m))} {k : Nat} (h : agr f g k = k) (hn : ¬ eqK f g k) : ∀ N, k < N → agr f g N = k
  | N + 1, hN => by
    unfold agr
    rcases Nat.lt_or_ge k N with h1 | h1
    · have ih := agr_stop h hn N h1
      rw [if_neg (by omega)]; exact ih
    · have : k = N := by omega
      subst this
      rw [if_neg (fun c => hn c.2)]; exact h
theorem agr_at {f g : PS (PS (Zm m))} {k N : Nat} (h : ∀ j, j < k → eqK f g j) (hn : ¬ eqK f g k) (hk : k < N) : agr f g N = k := agr_stop (agr_full h) hn N hk
theorem agr_all {f g : PS (PS (Zm m))} : ∀ {N j : Nat}, j < agr f g N → eqK f g j
  | 0, j, h => by simp [agr] at h
  | N + 1, j, h => by
    unfold agr at h
    split at h
    · rename_i hc
      rcases Nat.lt_or_ge j N with h1 | h1
      · exact agr_all (N := N) (by omega)
      · have : j = N := by omega
        subst this; exact hc.2
    · exact agr_all h
def fdL (f g : PS (PS (Zm m))) (k i : Nat) : List Int := (List.range i).map fun i => ((g.c i).c (k - i) + -(f.c i).c (k - i)).val
@[simp] theorem fdL_length (f g : PS (PS (Zm m))) (k i : Nat) : (fdL f g k i).length = i := by simp [fdL]
theorem c_agreement (o p o' p' : Bool) (N : Nat) (hN : 2 ≤ N ∧ N ≤ 11) (f g : PS (PS (Zm m))) : PureCall Tryz.prog 303 [PlD m o p N f, PlD m o' p' N g] (dint ((agr f g N : Int) - 1)) := by
  refine pure_of_vcR Tryz.tabOk mixOrd Tryz.func303 rfl rfl ?_
  conv => whnf
  repeat' first | ((first | refine z0 ?_ | (apply zI; refine zP (c_degreeP _ _ _ vAr _) ?_) | (refine And.intro (fun h => ?_) (fun h => ?_) <;> (try simp only [cnt1, ints_length] at h)) | refine zS ?_ | refine zV ?_ | (apply zI; refine zP vObt ?_) | (apply zI; refine zP vObx ?_) | refine zA ?_ | refine Alt.fst ?_ | refine Or.inl ?_) <;> conv => whnf) | fail
  refine loop_atR Tryz.tabOk mixOrd (α := Nat) (fun k => [(5, dint k)]) (fun k => []) (fun k => k ≤ N ∧ ∀ j, j < k → eqK f g j) (fun k => N - k) (0) ?_ ?_ ?_
  · exact ⟨by omega, by omega⟩
  · conv => whnf
    first | refine WeakS.autoR ?_ | refine Weak.autoR ?_
    conv => whnf
    repeat' ((first | refine z1 ?_ | refine z2 ?_ | refine zV ?_ | refine And.intro vRepl ?_ | refine And.intro vReplL ?_ | refine And.intro ?_ ?_ | exact trivial) <;> try (conv => whnf))
  intro k hk
  obtain ⟨hk, hag⟩ := hk
  conv => whnf
  repeat' first | ((first | refine z0 ?_ | (apply zI; refine zP (c_degreeP _ _ _ vAr _) ?_) | (refine And.intro (fun h => ?_) (fun h => ?_) <;> (try simp only [cnt1, ints_length] at h)) | refine zS ?_ | refine zV ?_ | (apply zI; refine zP vObt ?_) | (apply zI; refine zP vObx ?_) | refine zA ?_ | refine Alt.fst ?_ | refine Or.inl ?_) <;> conv => whnf) | fail
  · refine loop_atR Tryz.tabOk mixOrd (α := Nat) (fun i => [(6, dint i)]) (fun i => []) (fun i => i ≤ k + 1 ∧ ∀ j, j < i → (f.c j).c (k - j) = (g.c j).c (k - j)) (fun i => k + 1 - i) (0) ?_ ?_ ?_
    · exact ⟨by omega, by omega⟩
    · conv => whnf
      first | refine WeakS.autoR ?_ | refine Weak.autoR ?_
      conv => whnf
      repeat' ((first | refine z1 ?_ | refine z2 ?_ | refine zV ?_ | refine And.intro vRepl ?_ | refine And.intro vReplL ?_ | refine And.intro ?_ ?_ | exact trivial) <;> try (conv => whnf))
    intro i hi
    obtain ⟨hi, hri⟩ := hi
    conv => whnf
    repeat' first | ((first | refine z0 ?_ | (refine And.intro (fun h => ?_) (fun h => ?_) <;> (try simp only [cnt1, ints_length] at h)) | refine zS ?_ | refine zV ?_ | (apply zI; refine zP vObt ?_) | (apply zI; refine zP vObx ?_) | refine zA ?_ | refine Alt.fst ?_ | refine Or.inl ?_) <;> conv => whnf) | fail
    · have hiK : i ≤ k := by omega
      have hne : ¬ eqK f g (k) := fun e => by
        have h2 := congrArg Zm.val (e i hiK)
        have h3 : ((f.c i).c (k - i)).val ≠ ((g.c i).c (k - i)).val := by assumption
        exact h3 h2
      rw [agr_at hag hne (by omega)]
      all_goals first | rfl | (simp; done)
    · have h3 : ¬ ((f.c i).c (k - i)).val ≠ ((g.c i).c (k - i)).val := by assumption
      refine Exists.intro (i + 1) (And.intro ⟨by omega, fun j hj => ?_⟩ (And.intro (by omega) ?_))
      · rcases Nat.lt_or_ge j i with h4 | h4
        · exact hri j h4
        · have : j = i := by omega
          subst this
          exact Zm.val_inj (Classical.not_not.1 h3)
      · first | refine WeakS.autoR ?_ | refine Weak.autoR ?_
        conv => whnf
        repeat' ((first | refine z1 ?_ | refine z2 ?_ | refine zV ?_ | refine And.intro vRepl ?_ | refine And.intro vReplL ?_ | refine And.intro ?_ ?_ | exact trivial) <;> try (conv => whnf))
    · refine Exists.intro (k + 1) (And.intro ⟨by omega, fun j hj => ?_⟩ (And.intro (by omega) ?_))
      · rcases Nat.lt_or_ge j (k) with h4 | h4
        · exact hag j h4
        · have : j = k := by omega
          subst this
          exact fun j hj => hri j (by omega)
      · first | refine WeakS.autoR ?_ | refine Weak.autoR ?_
        conv => whnf
        repeat' ((first | refine z1 ?_ | refine z2 ?_ | refine zV ?_ | refine And.intro vRepl ?_ | refine And.intro vReplL ?_ | refine And.intro ?_ ?_ | exact trivial) <;> try (conv => whnf))
  · have hkN : k = N := by omega
    rw [agr_full (k := N) (fun j hj => hag j (by omega))]
    all_goals first | rfl | (simp [cnt1]; done)
theorem c_l04Agreement (o p o' p' : Bool) (N : Nat) (hN : 2 ≤ N ∧ N ≤ 11) (f g : PS (PS (Zm m))) (h0 : eqK f g 0) : PureCall Tryz.prog 305 [PlD m o p N f, PlD m o' p' N g] (dint ((agr f g N : Int) - 1)) := by
  refine pure_of_vcR Tryz.tabOk mixOrd Tryz.func305 rfl rfl ?_
  conv => whnf
  repeat' first | ((first | refine z0 ?_ | (refine And.intro (fun h => ?_) (fun h => ?_) <;> (try simp only [cnt1, ints_length] at h)) | refine zS ?_ | refine zV ?_ | (apply zI; refine zP vObt ?_) | (apply zI; refine zP vObx ?_) | refine zA ?_ | refine Alt.fst ?_ | refine Or.inl ?_) <;> conv => whnf) | fail
  refine loop_atR Tryz.tabOk mixOrd (α := Nat) (fun k => [(5, dint ((k : Int) + 1))]) (fun k => []) (fun k => k + 1 ≤ N ∧ ∀ j, j < k + 1 → eqK f g j) (fun k => N - k) (0) ?_ ?_ ?_
  · exact ⟨by omega, fun j hj => by rw [show j = 0 by omega]; exact h0⟩
  · conv => whnf
    first | refine WeakS.autoR ?_ | refine Weak.autoR ?_
    conv => whnf
    repeat' ((first | refine z1 ?_ | refine z2 ?_ | refine zV ?_ | refine And.intro vRepl ?_ | refine And.intro vReplL ?_ | refine And.intro ?_ ?_ | exact trivial) <;> try (conv => whnf))
  intro k hk
  obtain ⟨hk, hag⟩ := hk
  conv => whnf
  repeat' first | ((first | refine z0 ?_ | (apply zI; refine zP (c_degreeP _ _ _ vAr _) ?_) | (refine And.intro (fun h => ?_) (fun h => ?_) <;> (try simp only [cnt1, ints_length] at h)) | refine zS ?_ | refine zV ?_ | (apply zI; refine zP vObt ?_) | (apply zI; refine zP vObx ?_) | refine zA ?_ | refine Alt.fst ?_ | refine Or.inl ?_) <;> conv => whnf) | fail
  · refine loop_atR Tryz.tabOk mixOrd (α := Nat) (fun i => [(6, dint i)]) (fun i => []) (fun i => i ≤ (k + 1) + 1 ∧ ∀ j, j < i → (f.c j).c ((k + 1) - j) = (g.c j).c ((k + 1) - j)) (fun i => (k + 1) + 1 - i) (0) ?_ ?_ ?_
    · exact ⟨by omega, by omega⟩
    · conv => whnf
      first | refine WeakS.autoR ?_ | refine Weak.autoR ?_
      conv => whnf
      repeat' ((first | refine z1 ?_ | refine z2 ?_ | refine zV ?_ | refine And.intro vRepl ?_ | refine And.intro vReplL ?_ | refine And.intro ?_ ?_ | exact trivial) <;> try (conv => whnf))
    intro i hi
    obtain ⟨hi, hri⟩ := hi
    conv => whnf
    repeat' first | ((first | refine z0 ?_ | (refine And.intro (fun h => ?_) (fun h => ?_) <;> (try simp only [cnt1, ints_length] at h)) | refine zS ?_ | refine zV ?_ | (apply zI; refine zP vObt ?_) | (apply zI; refine zP vObx ?_) | refine zA ?_ | refine Alt.fst ?_ | refine Or.inl ?_) <;> conv => whnf) | fail
    · have hiK : i ≤ k + 1 := by omega
      have hne : ¬ eqK f g (k + 1) := fun e => by
        have h2 := congrArg Zm.val (e i hiK)
        have h3 : ((f.c i).c (((k + 1 : Nat) : Int) - (i : Int)).toNat).val ≠ ((g.c i).c (((k + 1 : Nat) : Int) - (i : Int)).toNat).val := by assumption
        rw [show (((k + 1 : Nat) : Int) - (i : Int)).toNat = k + 1 - i by omega] at h3
        exact h3 h2
      rw [agr_at hag hne (by simp only [rows_length, Tb_length] at *; omega)]
      all_goals first | rfl | (simp; done)
    · have h3 : ¬ ((f.c i).c (((k + 1 : Nat) : Int) - (i : Int)).toNat).val ≠ ((g.c i).c (((k + 1 : Nat) : Int) - (i : Int)).toNat).val := by assumption
      rw [show (((k + 1 : Nat) : Int) - (i : Int)).toNat = k + 1 - i by omega] at h3
      refine Exists.intro (i + 1) (And.intro ⟨by omega, fun j hj => ?_⟩ (And.intro (by omega) ?_))
      · rcases Nat.lt_or_ge j i with h4 | h4
        · exact hri j h4
        · have : j = i := by omega
          subst this
          exact Zm.val_inj (Classical.not_not.1 h3)
      · first | refine WeakS.autoR ?_ | refine Weak.autoR ?_
        conv => whnf
        repeat' ((first | refine z1 ?_ | refine z2 ?_ | refine zV ?_ | refine And.intro vRepl ?_ | refine And.intro vReplL ?_ | refine And.intro ?_ ?_ | exact trivial) <;> try (conv => whnf))
    · refine Exists.intro (k + 1) (And.intro ⟨by simp only [rows_length, Tb_length] at *; omega, fun j hj => ?_⟩ (And.intro (by omega) ?_))
      · rcases Nat.lt_or_ge j (k + 1) with h4 | h4
        · exact hag j h4
        · have : j = k + 1 := by omega
          subst this
          exact fun j hj => hri j (by omega)
      · first | refine WeakS.autoR ?_ | refine Weak.autoR ?_
        conv => whnf
        repeat' ((first | refine z1 ?_ | refine z2 ?_ | refine zV ?_ | refine And.intro vRepl ?_ | refine And.intro vReplL ?_ | refine And.intro ?_ ?_ | exact trivial) <;> try (conv => whnf))
  · have hkN : k + 1 = N := by simp only [rows_length, Tb_length] at *; omega
    rw [agr_full (k := N) (fun j hj => hag j (by omega))]
    all_goals first | rfl | (simp [cnt1]; done)
end Go.Proofs


