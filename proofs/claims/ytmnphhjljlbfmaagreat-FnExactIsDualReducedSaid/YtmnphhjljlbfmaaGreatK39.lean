/- Kernel algebras: the reference's coproducts of powers. -/
-- tables
-- rec
import Derived.Test.YtmnphhjljlbfmaaGreatK38
namespace Go.Proofs
open Go Go.Vm Go.Fg Go.Fg.PS
set_option maxRecDepth 100000
set_option maxHeartbeats 4000000
set_option linter.unusedSimpArgs false
set_option linter.unusedVariables false
variable {m : Int}
theorem tbq_plain (q : Nat) (f : PS (PS (Zm m))) (k : Nat) : ∀ x ∈ tbq q f k, PlainD x := fun x hx => by
  simp only [tbq, List.mem_map] at hx
  obtain ⟨c, _, rfl⟩ := hx
  exact .list _ _ (rows_plain _)
theorem sq_one (q : Nat) (hq : 1 ≤ q) (hm : Md m) : setT (sqT q (0 : PS (PS (Zm m)))) 0 0 1 = sqT q (1 : PS (PS (Zm m))) :=
  sq_setT_eq (1 : Zm m) (Zm.val_one (by have := hm.1; omega)).symm (by omega) (fun a b _ _ => by
    rw [upd2_cc, PS.one_c]
    by_cases ha : a = 0
    · rw [if_pos ha, PS.one_c]
      by_cases hb : b = 0
      · rw [if_pos ⟨ha, hb⟩, if_pos hb]
      · rw [if_neg (by omega), if_neg hb]; rfl
    · rw [if_neg (by omega), if_neg ha]; rfl)
theorem c_l17Powers (hm : Md m) (o p : Bool) (N q : Nat) (hq : 1 ≤ q ∧ 2 * (q - 1) + 1 ≤ N ∧ N ≤ 100) (f : PS (PS (Zm m))) {Q : Int} (hQ : Q = q) : PureCall Tryz.prog 21 [PlD m o p N f, dint Q] (.list true 1 (tbq q f q)) := by
  subst hQ
  have hm1 := hm.1
  have hm2 := hm.2
  refine pure_of_vcR Tryz.tabOk mixOrd Tryz.func21 rfl rfl ?_
  conv => whnf
  repeat' first | ((first | refine And.intro (Or.inl rfl) ?_ | (refine And.intro (fun h => ?_) (fun h => ?_) <;> (try simp only [cnt1, ints_length] at h)) | refine And.intro (show slotsOk _ = true by decide +kernel) ?_ | refine And.intro vOb ?_ | (apply Exists.intro; refine And.intro vObt ?_) | (apply Exists.intro; refine And.intro vObx ?_) | refine And.intro vArT ?_ | refine Or.inl ?_) <;> conv => whnf) | fail
  refine loop_atR Tryz.tabOk mixOrd (α := Nat) (fun i => [(6, dint i), (5, .ref 1 [] 1 0 i), (11, .undef), (12, .undef), (13, .undef)]) (fun i => [(1, some ⟨false, 1, rows true (sqP q i (0 : PS (PS (Zm m))))⟩)]) (fun i => i ≤ q) (fun i => q - i) (0) ?_ ?_ ?_
  · omega
  · conv => whnf
    first | refine WeakS.autoR ?_ | refine Weak.autoR ?_
    conv => whnf
    repeat' ((first | exact trivial | refine And.intro rfl ?_ | refine And.intro (eqV_int vAr) ?_ | refine And.intro vOb ?_ | refine And.intro vRepl ?_ | refine And.intro vReplL ?_ | refine And.intro ?_ ?_) <;> try (conv => whnf))
  intro i hi
  conv => whnf
  repeat' first | ((first | refine And.intro (Or.inl rfl) ?_ | (refine And.intro (fun h => ?_) (fun h => ?_) <;> (try simp only [cnt1, ints_length] at h)) | refine And.intro (show slotsOk _ = true by decide +kernel) ?_ | refine And.intro vOb ?_ | (apply Exists.intro; refine And.intro vObt ?_) | (apply Exists.intro; refine And.intro vObx ?_) | refine And.intro vArT ?_ | refine And.intro (vDA) ?_ | refine And.intro (one_ints _) ?_ | refine And.intro (rows_plain _) ?_ | refine And.intro (⟨vSqA, vSqA, vRoom (h3 := vSqA)⟩) ?_ | refine Or.inl ?_) <;> conv => whnf) | fail
  · refine Exists.intro (i + 1) (And.intro vSqA (And.intro vSqA ?_))
    first | refine WeakS.autoR ?_ | refine Weak.autoR ?_
    conv => whnf
    repeat' ((first | exact trivial | refine And.intro rfl ?_ | refine And.intro (eqV_int vAr) ?_ | refine And.intro vOb ?_ | refine And.intro vRepl ?_ | refine And.intro vReplL ?_ | refine And.intro ?_ ?_) <;> try (conv => whnf))
    exact rows_congr (sqP_push (by rw [repl_zero]; rfl))
  · have hiq : i = q := vSqA
    rw [show sqP q i (0 : PS (PS (Zm m))) = sqT q 0 by rw [hiq, sqP_full]]
    repeat' first | ((first | refine And.intro (Or.inl rfl) ?_ | (apply Exists.intro; refine And.intro (vSqL (i := 0) vIx vSqA) ?_) | (apply Exists.intro; refine And.intro (vSqStore (i := 0) (j := 0) _ vIx vIx vSqA vSqA) ?_) | (apply Exists.intro; refine And.intro (c_l17Square _ _ N q hq f vAr) ?_) | (refine And.intro (fun h => ?_) (fun h => ?_) <;> (try simp only [cnt1, ints_length] at h)) | refine And.intro (show slotsOk _ = true by decide +kernel) ?_ | refine And.intro vOb ?_ | (apply Exists.intro; refine And.intro vObt ?_) | (apply Exists.intro; refine And.intro vObx ?_) | refine And.intro vArT ?_ | refine And.intro (vSqA) ?_ | refine Or.inl ?_) <;> conv => whnf) | fail
    rw [sq_one q hq.1 hm]
    refine loop_atR Tryz.tabOk mixOrd (α := Nat) (fun k => [(10, dint ((k : Int) + 1)), (8, .ref 2 [] 1 0 (k + 1)), (5, .undef), (7, .undef), (22, .undef), (23, .undef), (24, .undef), (25, .undef), (26, .undef), (27, .undef), (28, .undef)]) (fun k => [(2, some ⟨false, 1, tbq q f (k + 1)⟩)]) (fun k => k + 1 ≤ q) (fun k => q - k) (0) ?_ ?_ ?_
    · omega
    · conv => whnf
      first | refine WeakS.autoR ?_ | refine Weak.autoR ?_
      conv => whnf
      repeat' ((first | exact trivial | refine And.intro rfl ?_ | refine And.intro (eqV_int vAr) ?_ | refine And.intro vOb ?_ | refine And.intro vRepl ?_ | refine And.intro vReplL ?_ | refine And.intro ?_ ?_) <;> try (conv => whnf))
    intro k hk
    conv => whnf
    repeat' first | ((first | refine And.intro (Or.inl rfl) ?_ | (apply Exists.intro; refine And.intro (vQL k (by simp only [place1]; omega) vSqA) ?_) | (apply Exists.intro; refine And.intro (vQG k (by simp only [place1]; omega) vSqA) ?_) | (apply Exists.intro; refine And.intro (sub_rows vSqA) ?_) | (apply Exists.intro; refine And.intro (c_l17Times hm q vAr _ _ _ _ (pw f k) f) ?_) | (refine And.intro (fun h => ?_) (fun h => ?_) <;> (try simp only [cnt1, ints_length] at h)) | refine And.intro (show slotsOk _ = true by decide +kernel) ?_ | refine And.intro vOb ?_ | (apply Exists.intro; refine And.intro vObt ?_) | (apply Exists.intro; refine And.intro vObx ?_) | refine And.intro vArT ?_ | refine And.intro (vQlen vSqA) ?_ | refine And.intro (one_l _) ?_ | refine And.intro (tbq_plain _ _ _) ?_ | refine And.intro (vSqA) ?_ | refine Or.inl ?_) <;> conv => whnf) | fail
    · refine Exists.intro (k + 1) (And.intro vSqA (And.intro vSqA ?_))
      first | refine WeakS.autoR ?_ | refine Weak.autoR ?_
      conv => whnf
      repeat' ((first | exact trivial | refine And.intro rfl ?_ | refine And.intro (eqV_int vAr) ?_ | refine And.intro vOb ?_ | refine And.intro vRepl ?_ | refine And.intro vReplL ?_ | refine And.intro ?_ ?_) <;> try (conv => whnf))
      exact tbq_push rfl
    · rw [show k + 1 = q by omega]
end Go.Proofs

