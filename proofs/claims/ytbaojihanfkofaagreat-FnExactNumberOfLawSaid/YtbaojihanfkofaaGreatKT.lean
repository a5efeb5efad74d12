/- Marks of tables; tables that are equal, marked, copied. -/
-- tables
import Derived.Test.YtbaojihanfkofaaGreatKM
import Derived.Test.YtbaojihanfkofaaGreatVm32
namespace Go.Proofs
open Go Go.Vm Go.Fg
set_option maxRecDepth 100000
set_option maxHeartbeats 4000000
set_option linter.unusedSimpArgs false
set_option linter.unusedVariables false

def totL : List (List Int) → Nat
  | [] => 0
  | l :: t => l.length + totL t
def marksT (k : Int) : List (List Int) → List (List Int)
  | [] => []
  | l :: t => marks k l.length :: marksT (k + l.length) t
@[simp] theorem marksT_length (k : Int) (t : List (List Int)) : (marksT k t).length = t.length := by
  induction t generalizing k with
  | nil => rfl
  | cons l t ih => simp [marksT, ih]
theorem totL_take_succ {t : List (List Int)} {i : Nat} (h : i < t.length) : totL (t.take (i + 1)) = totL (t.take i) + (t.getD i []).length := by
  induction t generalizing i with
  | nil => simp at h
  | cons l t ih =>
    cases i with
    | zero => simp [totL]
    | succ i =>
      have := ih (i := i) (by simpa using h)
      simp only [List.take_succ_cons, totL, this, List.getD_cons_succ]; omega
theorem totL_le {t : List (List Int)} (i : Nat) : totL (t.take i) ≤ totL t := by
  induction t generalizing i with
  | nil => simp [totL]
  | cons l t ih =>
    cases i with
    | zero => simp [totL]
    | succ i => have := ih i; simp only [List.take_succ_cons, totL]; omega
def lensOk (t : List (List Int)) : Prop := ∀ i, i < t.length → (t.getD i []).length ≤ 1048576
theorem eqT_of {t t' : List (List Int)} (h : t.length = t'.length) (h2 : ∀ j, j < t.length → t.getD j [] = t'.getD j []) : t = t' := by
  refine List.ext_getElem h (fun j k1 k2 => ?_)
  have := h2 j k1
  simpa [k1, k2] using this
theorem c_eqInt64SS (o o' p p' : Bool) (t t' : List (List Int)) (hl : t.length ≤ 1048576) (hr : lensOk t) : PureCall Tryz.prog 15 [.list o 1 (rows p t), .list o' 1 (rows p' t')] (dbool (decide (t = t'))) := by
  refine pure_of_vc Tryz.tabOk mixOrd Tryz.func15 rfl rfl ?_
  conv => whnf
  repeat' first | ((first | refine And.intro (Or.inl rfl) ?_ | (refine And.intro (fun h => ?_) (fun h => ?_) <;> (try simp only [cnt1, ints_length] at h)) | refine And.intro (show slotsOk _ = true by decide +kernel) ?_ | refine And.intro vOb ?_ | (apply Exists.intro; refine And.intro vObt ?_) | (apply Exists.intro; refine And.intro vObx ?_) | refine And.intro vArT ?_ | refine Or.inl ?_) <;> conv => whnf) | fail
  · refine dbool_congr ?_
    rw [eq_comm, decide_eq_false_iff_not]
    intro e; subst e; simp_all
  · have hlen : t.length = t'.length := by simp only [rows_length] at *; omega
    refine loop_at Tryz.tabOk mixOrd (α := Nat) (fun i => [(5, dint i)]) (fun i => []) (fun i => i ≤ t.length ∧ ∀ j, j < i → t.getD j [] = t'.getD j []) (fun i => t.length - i) (0) ?_ ?_ ?_
    · exact ⟨by omega, by omega⟩
    · conv => whnf
      first | refine WeakS.auto ?_ | refine Weak.auto ?_
      conv => whnf
      repeat' ((first | exact trivial | refine And.intro rfl ?_ | refine And.intro (eqV_int vAr) ?_ | refine And.intro vOb ?_ | refine And.intro vRepl ?_ | refine And.intro vReplL ?_ | refine And.intro ?_ ?_) <;> try (conv => whnf))
    intro i hi
    conv => whnf
    repeat' first | ((first | refine And.intro (Or.inl rfl) ?_ | (apply Exists.intro; refine And.intro (c_eqInt64S _ _ _ _ (hr i vAr)) ?_) | (refine And.intro (fun h => ?_) (fun h => ?_) <;> (try simp only [cnt1, ints_length] at h)) | refine And.intro (show slotsOk _ = true by decide +kernel) ?_ | refine And.intro vOb ?_ | (apply Exists.intro; refine And.intro vObt ?_) | (apply Exists.intro; refine And.intro vObx ?_) | refine And.intro vArT ?_ | refine Or.inl ?_) <;> conv => whnf) | fail
    · refine Exists.intro (i + 1) (And.intro ⟨vAr, lt_cases hi.2 (of_decide_eq_true (by assumption))⟩ (And.intro vAr ?_))
      first | refine WeakS.auto ?_ | refine Weak.auto ?_
      conv => whnf
      repeat' ((first | exact trivial | refine And.intro rfl ?_ | refine And.intro (eqV_int vAr) ?_ | refine And.intro vOb ?_ | refine And.intro vRepl ?_ | refine And.intro vReplL ?_ | refine And.intro ?_ ?_) <;> try (conv => whnf))
    · refine dbool_congr ?_
      rw [eq_comm, decide_eq_false_iff_not]
      intro e; subst e
      have := of_decide_eq_false (by assumption)
      exact this rfl
    · refine dbool_congr ?_
      rw [eq_comm, decide_eq_true_iff]
      exact eqT_of hlen (fun j hj => hi.2 j vAr)
theorem c_eqPlane (o o' p p' : Bool) (m m' : Int) (t t' : List (List Int)) (hl : t.length ≤ 1048576) (hr : lensOk t) : PureCall Tryz.prog 8 [.agg [dint m, .list o 1 (rows p t)], .agg [dint m', .list o' 1 (rows p' t')]] (dbool (decide (m = m') && decide (t = t'))) := by
  refine pure_of_vc Tryz.tabOk mixOrd Tryz.func8 rfl rfl ?_
  conv => whnf
  repeat' first | ((first | refine And.intro (Or.inl rfl) ?_ | (apply Exists.intro; refine And.intro (c_eqInt64SS _ _ _ _ t t' hl hr) ?_) | (refine And.intro (fun h => ?_) (fun h => ?_) <;> (try simp only [cnt1, ints_length] at h)) | refine And.intro (show slotsOk _ = true by decide +kernel) ?_ | refine And.intro vOb ?_ | (apply Exists.intro; refine And.intro vObt ?_) | (apply Exists.intro; refine And.intro vObx ?_) | refine And.intro vArT ?_ | refine Or.inl ?_) <;> conv => whnf) | fail
  all_goals (refine dbool_congr ?_; first | rfl | (simp_all []; done) | (simp_all []; omega) | (simp_all []; intros; omega))
theorem lensOk_Tb {m : Int} {n : Nat} (hn : n ≤ 1000) (f : PS (PS (Zm m))) : lensOk (Tb n f) := fun i hi => by
  have hi' : i < n := by simpa using hi
  rw [Tb_getD f hi']; simp; omega
end Go.Proofs

