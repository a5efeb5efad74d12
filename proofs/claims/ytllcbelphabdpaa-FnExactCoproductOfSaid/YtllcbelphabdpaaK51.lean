/- The law of coproducts of the variable. -/
-- tables
-- rec
import Derived.Test.YtllcbelphabdpaaK50
namespace Go.Proofs
open Go Go.Vm Go.Fg Go.Fg.PS
set_option maxRecDepth 100000
set_option maxHeartbeats 4000000
set_option linter.unusedSimpArgs false
set_option linter.unusedVariables false
theorem subd_nilT : SubD (.lit (.slice none 0 0)) (.list false 1 (rows false [])) := SubD.nil _ _
theorem c_eqSSNil : PureCall Try.prog 15 [.lit (.slice none 0 0), .lit (.slice none 0 0)] (dbool true) := by
  refine (c_eqInt64SS false false false false [] [] (by simp) (fun i hi => by simp at hi)).mono rfl (fun i d d' h h' => ?_)
  match i, h, h' with
  | 0, h, h' => simp at h h'; subst h; subst h'; exact subd_nilT
  | 1, h, h' => simp at h h'; subst h; subst h'; exact subd_nilT
  | n + 2, h, h' => simp at h
theorem c_heldSSNil (k : Int) (hk : 0 ≤ k ∧ k ≤ 4611686018427387904) : PureCall Try.prog 19 [.lit (.slice none 0 0), dint k] (dint k) := by
  have := c_heldInt64SS false false k [] (by simp) (by simp [totL]; omega)
  rw [show k + ((totL [] : Nat) : Int) = k by simp [totL]] at this
  refine this.mono rfl (fun i d d' h h' => ?_)
  match i, h, h' with
  | 0, h, h' => simp at h h'; subst h; subst h'; exact subd_nilT
  | 1, h, h' => simp at h h'; subst h; subst h'; exact SubD.rfl _
  | n + 2, h, h' => simp at h
theorem sq_lens {m : Int} {q : Nat} (hq : q ≤ 1000) (f : PS (PS (Zm m))) : lensOk (sqT q f) := fun i hi => by
  rw [sqT_getD f (by simpa using hi)]; simp; omega
theorem totL_app (a b : List (List Int)) : totL (a ++ b) = totL a + totL b := by
  induction a with
  | nil => simp [totL]
  | cons x a ih => simp only [List.cons_append, totL, ih]; omega
theorem sq_tot {m : Int} {q : Nat} (f : PS (PS (Zm m))) : totL (sqT q f) = q * q := by
  have key : ∀ k, totL ((List.range k).map fun i => L q (f.c i)) = k * q := fun k => by
    induction k with
    | zero => simp [totL]
    | succ k ih => rw [List.range_succ, List.map_append, totL_app, ih]; simp [totL, Nat.succ_mul]
  exact key q
theorem c_FnExactCoproductOf (m : Int) (t : List (List Int)) (_ : -9223372036854775808 ≤ m ∧ m ≤ 9223372036854775807) (g : (∀ k, k < t.length → (t.getD k []).length ≤ 9223372036854775807) ∧ t.length ≤ 9223372036854775807) : PureCall Try.prog 3 [.agg [dint m, .list false 1 (rows false t)]] (dbool true) := by
  have hT := szT_le (n := 1048576) (t := t) (by omega)
  refine pure_of_vcR Try.tabOk mixOrd Try.func3 rfl rfl ?_
  conv => whnf
  repeat' first
    | (refine And.intro (Or.inl rfl) ?_; conv => whnf)
    | (refine Or.inl (Or.inl (Exists.intro _ (And.intro (c_szPlane _ _ _ t _ (by omega) g.2 g.1) ?_))); conv => whnf)
    | (refine Or.inl (Exists.intro _ (And.intro (c_szPlane _ _ _ t _ (by omega) g.2 g.1) ?_)); conv => whnf)
    | (apply Exists.intro; refine And.intro (c_szPlane _ _ _ t _ (by omega) g.2 g.1) ?_; conv => whnf)
    | (refine And.intro (fun h => ?_) (fun h => ?_) <;> (try simp only [cnt1, ints_length] at h) <;> first | (exfalso; omega) | (conv => whnf))
    | (refine And.intro (show slotsOk _ = true by decide +kernel) ?_; conv => whnf)
    | (refine And.intro vOb ?_; conv => whnf)
    | (apply Exists.intro; refine And.intro vObt ?_; conv => whnf)
    | (apply Exists.intro; refine And.intro vObx ?_; conv => whnf)
    | (refine And.intro vArT ?_; conv => whnf)
    | (refine Or.inl ?_; conv => whnf)
    | fail
  have hA : ¬ szT 1048576 t < 0 := by assumption
  obtain ⟨hl, hr⟩ := szT_ok (by omega) hA
  have htot : totL t ≤ 1048576 := by unfold szT at hA; split at hA <;> omega
  have e1 := c_specCoproductOf false true m t hl hr
  have e3 := c_implCoproductOf false true m t hl hr
  by_cases hc : kC m t = 0
  · rw [coRes, if_pos hc] at e1 e3
    have hq : rkT m t ≤ 11 := by
      obtain ⟨hk, hht, hq1, hq2⟩ := kC_0 hc
      obtain ⟨hp, hlw⟩ := lawB_pl (htC_0 hht).1
      obtain ⟨hm, h2, h3, _⟩ := plB_md hp
      have : rkT m t < t.length := rkOf_lt (by omega)
      omega
    generalize rd2 m t = w at *
    generalize rkT m t = q at *
    have hsl := sq_lens (q := q) (by omega) w
    have hst := sq_tot (q := q) w
    have hst2 : q * q ≤ 11 * 11 := Nat.mul_le_mul hq hq
    have hsn : (sqT q w).length = q := sqT_length q w
    unfold SqD at e1 e3
    generalize sqT q w = W at *
    repeat' first
      | (refine And.intro (Or.inl rfl) ?_; conv => whnf)
      | (refine Or.inl (Or.inl (Exists.intro _ (And.intro (c_toPlane _ _ _ _ hl hr) ?_))); conv => whnf)
      | (refine Or.inl (Exists.intro _ (And.intro (c_toPlane _ _ _ _ hl hr) ?_)); conv => whnf)
      | (apply Exists.intro; refine And.intro (c_toPlane _ _ _ _ hl hr) ?_; conv => whnf)
      | (refine Or.inl (Or.inl (Exists.intro _ (And.intro (e1) ?_))); conv => whnf)
      | (refine Or.inl (Exists.intro _ (And.intro (e1) ?_)); conv => whnf)
      | (apply Exists.intro; refine And.intro (e1) ?_; conv => whnf)
      | (refine Or.inl (Or.inl (Exists.intro _ (And.intro (e3) ?_))); conv => whnf)
      | (refine Or.inl (Exists.intro _ (And.intro (e3) ?_)); conv => whnf)
      | (apply Exists.intro; refine And.intro (e3) ?_; conv => whnf)
      | (refine Or.inl (Or.inl (Exists.intro _ (And.intro (c_eqInt64SS _ _ _ _ W W (by omega) hsl) ?_))); conv => whnf)
      | (refine Or.inl (Exists.intro _ (And.intro (c_eqInt64SS _ _ _ _ W W (by omega) hsl) ?_)); conv => whnf)
      | (apply Exists.intro; refine And.intro (c_eqInt64SS _ _ _ _ W W (by omega) hsl) ?_; conv => whnf)
      | (refine Or.inl (Or.inl (Exists.intro _ (And.intro (c_eqPlane _ _ _ _ _ _ _ _ hl hr) ?_))); conv => whnf)
      | (refine Or.inl (Exists.intro _ (And.intro (c_eqPlane _ _ _ _ _ _ _ _ hl hr) ?_)); conv => whnf)
      | (apply Exists.intro; refine And.intro (c_eqPlane _ _ _ _ _ _ _ _ hl hr) ?_; conv => whnf)
      | (refine Or.inr (inl_ofR Try.tabOk mixOrd _ Try.func17 rfl rfl ?_); conv => whnf)
      | (refine Or.inr (inlMarkT rfl vAr vAr ⟨vAr, vAr⟩ ?_); conv => whnf)
      | (refine Or.inr (inlMark rfl vAr ⟨vAr, vAr⟩ ?_); conv => whnf)
      | (refine Or.inl (Or.inl (Exists.intro _ (And.intro (c_heldInt64SS _ _ _ W (by omega) ⟨by omega, by omega⟩) ?_))); conv => whnf)
      | (refine Or.inl (Exists.intro _ (And.intro (c_heldInt64SS _ _ _ W (by omega) ⟨by omega, by omega⟩) ?_)); conv => whnf)
      | (apply Exists.intro; refine And.intro (c_heldInt64SS _ _ _ W (by omega) ⟨by omega, by omega⟩) ?_; conv => whnf)
      | (refine Or.inl (Or.inl (Exists.intro _ (And.intro (sub_rows vArS) ?_))); conv => whnf)
      | (refine Or.inl (Exists.intro _ (And.intro (sub_rows vArS) ?_)); conv => whnf)
      | (apply Exists.intro; refine And.intro (sub_rows vArS) ?_; conv => whnf)
      | (refine And.intro (fun h => ?_) (fun h => ?_) <;> (try simp only [cnt1, ints_length] at h) <;> conv => whnf)
      | (refine And.intro (show slotsOk _ = true by decide +kernel) ?_; conv => whnf)
      | (refine And.intro vOb ?_; conv => whnf)
      | (apply Exists.intro; refine And.intro vObt ?_; conv => whnf)
      | (apply Exists.intro; refine And.intro vObx ?_; conv => whnf)
      | (refine And.intro vArT ?_; conv => whnf)
      | (refine And.intro (vArS) ?_; conv => whnf)
      | (refine Or.inl ?_; conv => whnf)
      | fail
    all_goals (exfalso; first | omega | (simp_all; done) | (simp_all; omega))
  · rw [coRes, if_neg hc] at e1 e3
    repeat' first
      | (refine And.intro (Or.inl rfl) ?_; conv => whnf)
      | (refine Or.inl (Or.inl (Exists.intro _ (And.intro (c_toPlane _ _ _ _ hl hr) ?_))); conv => whnf)
      | (refine Or.inl (Exists.intro _ (And.intro (c_toPlane _ _ _ _ hl hr) ?_)); conv => whnf)
      | (apply Exists.intro; refine And.intro (c_toPlane _ _ _ _ hl hr) ?_; conv => whnf)
      | (refine Or.inl (Or.inl (Exists.intro _ (And.intro (e1) ?_))); conv => whnf)
      | (refine Or.inl (Exists.intro _ (And.intro (e1) ?_)); conv => whnf)
      | (apply Exists.intro; refine And.intro (e1) ?_; conv => whnf)
      | (refine Or.inl (Or.inl (Exists.intro _ (And.intro (e3) ?_))); conv => whnf)
      | (refine Or.inl (Exists.intro _ (And.intro (e3) ?_)); conv => whnf)
      | (apply Exists.intro; refine And.intro (e3) ?_; conv => whnf)
      | (refine Or.inl (Or.inl (Exists.intro _ (And.intro (c_eqSSNil) ?_))); conv => whnf)
      | (refine Or.inl (Exists.intro _ (And.intro (c_eqSSNil) ?_)); conv => whnf)
      | (apply Exists.intro; refine And.intro (c_eqSSNil) ?_; conv => whnf)
      | (refine Or.inl (Or.inl (Exists.intro _ (And.intro (c_eqPlane _ _ _ _ _ _ _ _ hl hr) ?_))); conv => whnf)
      | (refine Or.inl (Exists.intro _ (And.intro (c_eqPlane _ _ _ _ _ _ _ _ hl hr) ?_)); conv => whnf)
      | (apply Exists.intro; refine And.intro (c_eqPlane _ _ _ _ _ _ _ _ hl hr) ?_; conv => whnf)
      | (refine Or.inr (inl_ofR Try.tabOk mixOrd _ Try.func17 rfl rfl ?_); conv => whnf)
      | (refine Or.inr (inlMarkT rfl vAr vAr ⟨vAr, vAr⟩ ?_); conv => whnf)
      | (refine Or.inr (inlMark rfl vAr ⟨vAr, vAr⟩ ?_); conv => whnf)
      | (refine Or.inl (Or.inl (Exists.intro _ (And.intro (c_markNilT _ vAr) ?_))); conv => whnf)
      | (refine Or.inl (Exists.intro _ (And.intro (c_markNilT _ vAr) ?_)); conv => whnf)
      | (apply Exists.intro; refine And.intro (c_markNilT _ vAr) ?_; conv => whnf)
      | (refine Or.inl (Or.inl (Exists.intro _ (And.intro (c_heldSSNil _ vAr) ?_))); conv => whnf)
      | (refine Or.inl (Exists.intro _ (And.intro (c_heldSSNil _ vAr) ?_)); conv => whnf)
      | (apply Exists.intro; refine And.intro (c_heldSSNil _ vAr) ?_; conv => whnf)
      | (refine Or.inl (Or.inl (Exists.intro _ (And.intro (sub_rows vArS) ?_))); conv => whnf)
      | (refine Or.inl (Exists.intro _ (And.intro (sub_rows vArS) ?_)); conv => whnf)
      | (apply Exists.intro; refine And.intro (sub_rows vArS) ?_; conv => whnf)
      | (refine And.intro (fun h => ?_) (fun h => ?_) <;> (try simp only [cnt1, ints_length] at h) <;> conv => whnf)
      | (refine And.intro (show slotsOk _ = true by decide +kernel) ?_; conv => whnf)
      | (refine And.intro vOb ?_; conv => whnf)
      | (apply Exists.intro; refine And.intro vObt ?_; conv => whnf)
      | (apply Exists.intro; refine And.intro vObx ?_; conv => whnf)
      | (refine And.intro vArT ?_; conv => whnf)
      | (refine And.intro (vArS) ?_; conv => whnf)
      | (refine Or.inl ?_; conv => whnf)
      | fail
    all_goals (exfalso; first | omega | (simp_all; done) | (simp_all; omega))
end Go.Proofs

