/- Kernel algebras: grouplike and primitive elements, elements of which a power is 0. -/
-- tables
-- rec
import Derived.Test.YtmnphhjljlbfmaaGreatK42
import Derived.Test.YtmnphhjljlbfmaaGreatK45
import Derived.Test.YtmnphhjljlbfmaaGreatK19
namespace Go.Proofs
open Go Go.Vm Go.Fg Go.Fg.PS
set_option maxRecDepth 100000
set_option maxHeartbeats 4000000
set_option linter.unusedSimpArgs false
set_option linter.unusedVariables false
variable {m : Int}
def dueT (gl : Bool) (a : PS (Zm m)) : PS (PS (Zm m)) := pl fun i j => if gl then a.c i * a.c j else if j = 0 then a.c i else if i = 0 then a.c j else 0
def prD (a : PS (Zm m)) : Nat → PS (PS (Zm m))
  | 0 => 0
  | k + 1 => upd2 (upd2 (prD a k) k 0 (((prD a k).c k).c 0 + a.c k)) 0 k (((upd2 (prD a k) k 0 (((prD a k).c k).c 0 + a.c k)).c 0).c k + a.c k)
theorem prD_c (a : PS (Zm m)) (h0 : a.c 0 = 0) : ∀ k i j, ((prD a k).c i).c j = if j = 0 ∧ i < k then a.c i else if i = 0 ∧ j < k then a.c j else 0
  | 0, i, j => by rw [if_neg (by omega), if_neg (by omega)]; rfl
  | k + 1, i, j => by
    have ih := prD_c a h0 k
    have e1 : ((prD a k).c k).c 0 = 0 := by
      rw [ih, if_neg (by omega)]
      split
      · rename_i h; rw [h.1] at h; omega
      · rfl
    simp only [prD]
    rw [e1, CR.zero_add]
    have e2 : ((upd2 (prD a k) k 0 (a.c k)).c 0).c k = 0 := by
      rw [upd2_cc]
      split
      · rename_i h; rw [← h.1]; exact h0
      · rw [ih]
        split
        · rename_i h; omega
        · rw [if_neg (by omega)]
    rw [e2, CR.zero_add, upd2_cc, upd2_cc, ih]
    by_cases hk : k = 0
    · subst hk
      by_cases hi : i = 0 ∧ j = 0
      · obtain ⟨rfl, rfl⟩ := hi
        rw [if_pos ⟨rfl, rfl⟩, if_pos ⟨rfl, by omega⟩]
      · rw [if_neg (by omega), if_neg (by omega), if_neg (by omega), if_neg (by omega), if_neg (by omega), if_neg (by omega)]
    · by_cases h1 : i = 0 ∧ j = k
      · obtain ⟨rfl, rfl⟩ := h1
        rw [if_pos ⟨rfl, rfl⟩, if_neg (by omega), if_pos ⟨rfl, by omega⟩]
      · rw [if_neg h1]
        by_cases h2 : i = k ∧ j = 0
        · obtain ⟨rfl, rfl⟩ := h2
          rw [if_pos ⟨rfl, rfl⟩, if_pos ⟨rfl, by omega⟩]
        · rw [if_neg h2]
          by_cases h3 : j = 0 ∧ i < k
          · rw [if_pos h3, if_pos ⟨h3.1, by omega⟩]
          · rw [if_neg h3, if_neg (show ¬ (j = 0 ∧ i < k + 1) by omega)]
            by_cases h4 : i = 0 ∧ j < k
            · rw [if_pos h4, if_pos ⟨h4.1, by omega⟩]
            · rw [if_neg h4, if_neg (by omega)]
def hdG (gl : Bool) : Nat := if gl then 1 else 0
noncomputable def tbG {m : Int} (gl : Bool) (q : Nat) (f : PS (PS (Zm m))) (u : List Int) : Bool := decide (sqT q (comp2N (rd m u) f 0 q) = sqT q (dueT gl (rd m u)))
noncomputable def goodG {m : Int} (gl : Bool) (q : Nat) (f : PS (PS (Zm m))) (u : List Int) : Bool := decide (u.getD 0 0 = (hdG gl : Int)) && tbG gl q f u
theorem prD_due (a : PS (Zm m)) (h0 : a.c 0 = 0) (q : Nat) : AgS q (prD a q) (dueT false a) := fun i j hi hj => by
  rw [prD_c a h0]
  show _ = (if j = 0 then a.c i else if i = 0 then a.c j else 0)
  by_cases h : j = 0
  · rw [if_pos ⟨h, hi⟩, if_pos h]
  · rw [if_neg (fun c => h c.1), if_neg h]
    by_cases h2 : i = 0
    · rw [if_pos ⟨h2, hj⟩, if_pos h2]
    · rw [if_neg (fun c => h2 c.1), if_neg h2]
theorem c_sameT1 (o o' : Bool) (l l' : List Int) (hl : l.length ≤ 1048576) : PureCall Tryz.prog 70 [.list o 1 (ints l), .list o' 1 (ints l')] (dbool (decide (l = l'))) := by
  refine pure_of_vcR Tryz.tabOk mixOrd Tryz.func70 rfl rfl ?_
  conv => whnf
  repeat' first | ((first | refine And.intro (Or.inl rfl) ?_ | (apply Exists.intro; refine And.intro (c_slEqual _ _ _ _ hl) ?_) | (refine And.intro (fun h => ?_) (fun h => ?_) <;> (try simp only [cnt1, ints_length] at h)) | refine And.intro (show slotsOk _ = true by decide +kernel) ?_ | refine And.intro vOb ?_ | (apply Exists.intro; refine And.intro vObt ?_) | (apply Exists.intro; refine And.intro vObx ?_) | refine And.intro vArT ?_ | refine Or.inl ?_) <;> conv => whnf) | fail
  all_goals (refine dbool_congr ?_; first | rfl | (simp_all []; done) | (simp_all []; omega) | (simp_all []; intros; omega))
theorem c_EqualFuncT (o o' p p' : Bool) (t t' : List (List Int)) (hl : t.length ≤ 1048576) (hr : lensOk t) : PureCall Tryz.prog 69 [.list o 1 (rows p t), .list o' 1 (rows p' t'), .fn (.func 70) [] []] (dbool (decide (t = t'))) := by
  refine pure_of_vcR Tryz.tabOk mixOrd Tryz.func69 rfl rfl ?_
  conv => whnf
  repeat' first | ((first | refine And.intro (Or.inl rfl) ?_ | (refine And.intro (fun h => ?_) (fun h => ?_) <;> (try simp only [cnt1, ints_length] at h)) | refine And.intro (show slotsOk _ = true by decide +kernel) ?_ | refine And.intro vOb ?_ | (apply Exists.intro; refine And.intro vObt ?_) | (apply Exists.intro; refine And.intro vObx ?_) | refine And.intro vArT ?_ | refine Or.inl ?_) <;> conv => whnf) | fail
  · refine dbool_congr ?_
    rw [eq_comm, decide_eq_false_iff_not]
    intro e; subst e; simp_all
  · have hlen : t.length = t'.length := by simp only [rows_length] at *; omega
    refine loop_atR Tryz.tabOk mixOrd (α := Nat) (fun i => [(17, dint i)]) (fun i => []) (fun i => i ≤ t.length ∧ ∀ j, j < i → t.getD j [] = t'.getD j []) (fun i => t.length - i) (0) ?_ ?_ ?_
    · exact ⟨by omega, by omega⟩
    · conv => whnf
      first | refine WeakS.autoR ?_ | refine Weak.autoR ?_
      conv => whnf
      repeat' ((first | exact trivial | refine And.intro rfl ?_ | refine And.intro (eqV_int vAr) ?_ | refine And.intro vOb ?_ | refine And.intro vRepl ?_ | refine And.intro vReplL ?_ | refine And.intro ?_ ?_) <;> try (conv => whnf))
    intro i hi
    conv => whnf
    repeat' first | ((first | refine And.intro (Or.inl rfl) ?_ | (apply Exists.intro; refine And.intro (c_sameT1 _ _ _ _ (hr i vAr)) ?_) | (refine And.intro (fun h => ?_) (fun h => ?_) <;> (try simp only [cnt1, ints_length] at h)) | refine And.intro (show slotsOk _ = true by decide +kernel) ?_ | refine And.intro vOb ?_ | (apply Exists.intro; refine And.intro vObt ?_) | (apply Exists.intro; refine And.intro vObx ?_) | refine And.intro vArT ?_ | refine Or.inl ?_) <;> conv => whnf) | fail
    · refine Exists.intro (i + 1) (And.intro ⟨vAr, lt_cases hi.2 (of_decide_eq_true (by assumption))⟩ (And.intro vAr ?_))
      first | refine WeakS.autoR ?_ | refine Weak.autoR ?_
      conv => whnf
      repeat' ((first | exact trivial | refine And.intro rfl ?_ | refine And.intro (eqV_int vAr) ?_ | refine And.intro vOb ?_ | refine And.intro vRepl ?_ | refine And.intro vReplL ?_ | refine And.intro ?_ ?_) <;> try (conv => whnf))
    · refine dbool_congr ?_
      rw [eq_comm, decide_eq_false_iff_not]
      intro e; subst e
      have := of_decide_eq_false (by assumption)
      exact this rfl
    · refine dbool_congr ?_
      rw [eq_comm, decide_eq_true_iff]
      exact eqT_of hlen (fun j hj => hi.2 j vAr)
theorem c_sameTables (o o' p p' : Bool) (t t' : List (List Int)) (hl : t.length ≤ 1048576) (hr : lensOk t) : PureCall Tryz.prog 59 [.list o 1 (rows p t), .list o' 1 (rows p' t')] (dbool (decide (t = t'))) := by
  refine pure_of_vcR Tryz.tabOk mixOrd Tryz.func59 rfl rfl ?_
  conv => whnf
  repeat' first | ((first | refine And.intro (Or.inl rfl) ?_ | (apply Exists.intro; refine And.intro (c_EqualFuncT _ _ _ _ _ _ hl hr) ?_) | (refine And.intro (fun h => ?_) (fun h => ?_) <;> (try simp only [cnt1, ints_length] at h)) | refine And.intro (show slotsOk _ = true by decide +kernel) ?_ | refine And.intro vOb ?_ | (apply Exists.intro; refine And.intro vObt ?_) | (apply Exists.intro; refine And.intro vObx ?_) | refine And.intro vArT ?_ | refine Or.inl ?_) <;> conv => whnf) | fail
  all_goals (refine dbool_congr ?_; first | rfl | (simp_all []; done) | (simp_all []; omega) | (simp_all []; intros; omega))
theorem sqT_lens {q : Nat} (hq : q ≤ 100) (F : PS (PS (Zm m))) : lensOk (sqT q F) := fun i hi => by
  rw [sqT_getD F (by simpa using hi)]; simp; omega
theorem c_isGrouplike (hm : Md m) (q : Nat) (hq : 1 ≤ q ∧ q ≤ 100) (oo o1 : Bool) (d3 d4 : D) (f : PS (PS (Zm m))) (a : PS (Zm m)) : PureCall Tryz.prog 38 [.cptr [dint m, dint q, .list oo 1 (tbq q f q), d3, d4] 0, LD o1 q a] (dbool (decide ((a.c 0).val = 1) && decide (sqT q (comp2N a f 0 q) = sqT q (dueT true a)))) := by
  have hm1 := hm.1
  have hm2 := hm.2
  refine pure_of_vcR Tryz.tabOk mixOrd Tryz.func38 rfl rfl ?_
  conv => whnf
  repeat' first | ((first | refine And.intro (Or.inl rfl) ?_ | (apply Exists.intro; refine And.intro (c_square (m := m) q vAr vAr) ?_) | (refine And.intro (fun h => ?_) (fun h => ?_) <;> (try simp only [cnt1, ints_length] at h)) | refine And.intro (show slotsOk _ = true by decide +kernel) ?_ | refine And.intro vOb ?_ | (apply Exists.intro; refine And.intro vObt ?_) | (apply Exists.intro; refine And.intro vObx ?_) | refine And.intro vArT ?_ | refine Or.inl ?_) <;> conv => whnf) | fail
  refine loop_atR Tryz.tabOk mixOrd (α := Nat) (fun i => [(17, dint i), (6, .undef), (7, .undef)]) (fun i => [(0, some ⟨false, 1, rows true (sqT q (mixP (dueT true a) 0 i 0))⟩)]) (fun i => i ≤ q) (fun i => q - i) (0) ?_ ?_ ?_
  · omega
  · conv => whnf
    first | refine WeakS.autoR ?_ | refine Weak.autoR ?_
    conv => whnf
    repeat' ((first | exact trivial | refine And.intro rfl ?_ | refine And.intro (eqV_int vAr) ?_ | refine And.intro vOb ?_ | refine And.intro vRepl ?_ | refine And.intro vReplL ?_ | refine And.intro ?_ ?_) <;> try (conv => whnf))
    all_goals rw [mixP_zero]
  intro i hi
  conv => whnf
  repeat' first | ((first | refine And.intro (Or.inl rfl) ?_ | (refine And.intro (fun h => ?_) (fun h => ?_) <;> (try simp only [cnt1, ints_length] at h)) | refine And.intro (show slotsOk _ = true by decide +kernel) ?_ | refine And.intro vOb ?_ | (apply Exists.intro; refine And.intro vObt ?_) | (apply Exists.intro; refine And.intro vObx ?_) | refine And.intro vArT ?_ | refine And.intro (vDA) ?_ | refine Or.inl ?_) <;> conv => whnf) | fail
  · have hi' : i < q := vDA
    refine loop_atR Tryz.tabOk mixOrd (α := Nat) (fun j => [(24, dint j), (8, .undef), (9, .undef)]) (fun j => [(0, some ⟨false, 1, rows true (sqT q (mixP (dueT true a) 0 i j))⟩)]) (fun j => j ≤ q) (fun j => q - j) (0) ?_ ?_ ?_
    · omega
    · conv => whnf
      first | refine WeakS.autoR ?_ | refine Weak.autoR ?_
      conv => whnf
      repeat' ((first | exact trivial | refine And.intro rfl ?_ | refine And.intro (eqV_int vAr) ?_ | refine And.intro vOb ?_ | refine And.intro vRepl ?_ | refine And.intro vReplL ?_ | refine And.intro ?_ ?_) <;> try (conv => whnf))
    intro j hj
    conv => whnf
    have x1 := hm.mul (a.c i) (a.c j)
    repeat' first | ((first | refine And.intro (Or.inl rfl) ?_ | (apply Exists.intro; refine And.intro (vSqL (i := i) vIx vDA) ?_) | (apply Exists.intro; refine And.intro (vSqLL (i := i) (j := j) vIx vIx vDA vDA) ?_) | (apply Exists.intro; refine And.intro (vSqStore (i := i) (j := j) _ vIx vIx vDA vDA) ?_) | (refine And.intro (fun h => ?_) (fun h => ?_) <;> (try simp only [cnt1, ints_length] at h)) | refine And.intro (show slotsOk _ = true by decide +kernel) ?_ | refine And.intro vOb ?_ | (apply Exists.intro; refine And.intro vObt ?_) | (apply Exists.intro; refine And.intro vObx ?_) | refine And.intro vArT ?_ | refine And.intro (vDA) ?_ | refine Or.inl ?_) <;> conv => whnf) | fail
    · refine Exists.intro (j + 1) (And.intro vDA (And.intro vDA ?_))
      first | refine WeakS.autoR ?_ | refine Weak.autoR ?_
      conv => whnf
      repeat' ((first | exact trivial | refine And.intro rfl ?_ | refine And.intro (eqV_int vAr) ?_ | refine And.intro vOb ?_ | refine And.intro vRepl ?_ | refine And.intro vReplL ?_ | refine And.intro ?_ ?_) <;> try (conv => whnf))
      refine rows_congr (sq_setT_eq _ (tm_mul hm _ _) vDA (AgS.of_eq ?_))
      rw [mixP_step]
      rfl
    · have hj' : q ≤ j := vDA
      refine Exists.intro (i + 1) (And.intro vDA (And.intro vDA ?_))
      first | refine WeakS.autoR ?_ | refine Weak.autoR ?_
      conv => whnf
      repeat' ((first | exact trivial | refine And.intro rfl ?_ | refine And.intro (eqV_int vAr) ?_ | refine And.intro vOb ?_ | refine And.intro vRepl ?_ | refine And.intro vReplL ?_ | refine And.intro ?_ ?_) <;> try (conv => whnf))
      exact rows_congr (sqT_congr (sq_mixrow _ _ hj'))
  · have hiq : i = q := vDA
    rw [show sqT q (mixP (dueT true a) 0 i 0) = sqT q (dueT true a) from sqT_congr (sq_mixfull _ _ (by omega))]
    repeat' first | ((first | refine And.intro (Or.inl rfl) ?_ | (apply Exists.intro; refine And.intro (sub_rows vSqA) ?_) | (apply Exists.intro; refine And.intro (c_coproduct hm q hq _ _ _ _ f a) ?_) | (apply Exists.intro; refine And.intro (c_sameTables _ _ _ _ (sqT q (comp2N a f 0 q)) (sqT q (dueT true a)) (by simp; omega) (sqT_lens (by omega) _)) ?_) | (refine And.intro (fun h => ?_) (fun h => ?_) <;> (try simp only [cnt1, ints_length] at h)) | refine And.intro (show slotsOk _ = true by decide +kernel) ?_ | refine And.intro vOb ?_ | (apply Exists.intro; refine And.intro vObt ?_) | (apply Exists.intro; refine And.intro vObx ?_) | refine And.intro vArT ?_ | refine And.intro (vDA) ?_ | refine Or.inl ?_) <;> conv => whnf) | fail
    all_goals (refine dbool_congr ?_; first | rfl | (simp_all []; done) | (simp_all []; omega) | (simp_all []; intros; omega))
  · all_goals (refine dbool_congr ?_; first | rfl | (simp_all []; done) | (simp_all []; omega) | (simp_all []; intros; omega))
theorem c_isPrimitive (hm : Md m) (q : Nat) (hq : 1 ≤ q ∧ q ≤ 100) (oo o1 : Bool) (d3 d4 : D) (f : PS (PS (Zm m))) (a : PS (Zm m)) : PureCall Tryz.prog 34 [.cptr [dint m, dint q, .list oo 1 (tbq q f q), d3, d4] 0, LD o1 q a] (dbool (decide ((a.c 0).val = 0) && decide (sqT q (comp2N a f 0 q) = sqT q (prD a q)))) := by
  have hm1 := hm.1
  have hm2 := hm.2
  refine pure_of_vcR Tryz.tabOk mixOrd Tryz.func34 rfl rfl ?_
  conv => whnf
  repeat' first | ((first | refine And.intro (Or.inl rfl) ?_ | (apply Exists.intro; refine And.intro (c_square (m := m) q vAr vAr) ?_) | (refine And.intro (fun h => ?_) (fun h => ?_) <;> (try simp only [cnt1, ints_length] at h)) | refine And.intro (show slotsOk _ = true by decide +kernel) ?_ | refine And.intro vOb ?_ | (apply Exists.intro; refine And.intro vObt ?_) | (apply Exists.intro; refine And.intro vObx ?_) | refine And.intro vArT ?_ | refine Or.inl ?_) <;> conv => whnf) | fail
  refine loop_atR Tryz.tabOk mixOrd (α := Nat) (fun i => [(15, dint i), (6, .undef), (7, .undef)]) (fun i => [(0, some ⟨false, 1, rows true (sqT q (prD a i))⟩)]) (fun i => i ≤ q) (fun i => q - i) (0) ?_ ?_ ?_
  · omega
  · conv => whnf
    first | refine WeakS.autoR ?_ | refine Weak.autoR ?_
    conv => whnf
    repeat' ((first | exact trivial | refine And.intro rfl ?_ | refine And.intro (eqV_int vAr) ?_ | refine And.intro vOb ?_ | refine And.intro vRepl ?_ | refine And.intro vReplL ?_ | refine And.intro ?_ ?_) <;> try (conv => whnf))
    all_goals rfl
  intro i hi
  conv => whnf
  have x1 := Zm.val_range hm.pos (a.c i)
  have x2 := Zm.val_range hm.pos (((prD a i).c i).c 0)
  have x3 := Zm.val_range hm.pos (((upd2 (prD a i) i 0 (((prD a i).c i).c 0 + a.c i)).c 0).c i)
  have e1 : setT (sqT q (prD a i)) i 0 (((((prD a i).c i).c 0).val + (a.c i).val).tmod m) = sqT q (upd2 (prD a i) i 0 (((prD a i).c i).c 0 + a.c i)) ∨ ¬ i < q := by
    by_cases h : i < q
    · exact .inl (sq_setT_eq _ (tm_add hm _ _) h (AgS.of_eq rfl))
    · exact .inr h
  have e2 : setT (sqT q (upd2 (prD a i) i 0 (((prD a i).c i).c 0 + a.c i))) 0 i (((((upd2 (prD a i) i 0 (((prD a i).c i).c 0 + a.c i)).c 0).c i).val + (a.c i).val).tmod m) = sqT q (prD a (i + 1)) :=
    sq_setT_eq _ (tm_add hm _ _) (by omega) (AgS.of_eq rfl)
  repeat' first | ((first | refine And.intro (Or.inl rfl) ?_ | (apply Exists.intro; refine And.intro (vSqL (i := i) vIx vDA) ?_) | (apply Exists.intro; refine And.intro (vSqLL (i := i) (j := 0) vIx vIx vDA vDA) ?_) | (apply Exists.intro; refine And.intro (vSqStore (i := i) (j := 0) _ vIx vIx vDA vDA) ?_) | (apply Exists.intro; refine And.intro (sub_rows vSqA) ?_) | (apply Exists.intro; refine And.intro (c_coproduct hm q hq _ _ _ _ f a) ?_) | (apply Exists.intro; refine And.intro (c_sameTables _ _ _ _ (sqT q (comp2N a f 0 q)) (sqT q (prD a q)) (by simp; omega) (sqT_lens (by omega) _)) ?_) | (refine And.intro (fun h => ?_) (fun h => ?_) <;> (try simp only [cnt1, ints_length] at h)) | refine And.intro (show slotsOk _ = true by decide +kernel) ?_ | refine And.intro vOb ?_ | (apply Exists.intro; refine And.intro vObt ?_) | (apply Exists.intro; refine And.intro vObx ?_) | refine And.intro vArT ?_ | refine And.intro (vDA) ?_ | refine Or.inl ?_) <;> conv => whnf) | fail
  · rw [e1.resolve_right (by have : i < q := vDA; omega)]
    repeat' first | ((first | refine And.intro (Or.inl rfl) ?_ | (apply Exists.intro; refine And.intro (vSqL (i := 0) vIx vDA) ?_) | (apply Exists.intro; refine And.intro (vSqLL (i := 0) (j := i) vIx vIx vDA vDA) ?_) | (apply Exists.intro; refine And.intro (vSqStore (i := 0) (j := i) _ vIx vIx vDA vDA) ?_) | (refine And.intro (fun h => ?_) (fun h => ?_) <;> (try simp only [cnt1, ints_length] at h)) | refine And.intro (show slotsOk _ = true by decide +kernel) ?_ | refine And.intro vOb ?_ | (apply Exists.intro; refine And.intro vObt ?_) | (apply Exists.intro; refine And.intro vObx ?_) | refine And.intro vArT ?_ | refine And.intro (vDA) ?_ | refine Or.inl ?_) <;> conv => whnf) | fail
    refine Exists.intro (i + 1) (And.intro vDA (And.intro vDA ?_))
    first | refine WeakS.autoR ?_ | refine Weak.autoR ?_
    conv => whnf
    repeat' ((first | exact trivial | refine And.intro rfl ?_ | refine And.intro (eqV_int vAr) ?_ | refine And.intro vOb ?_ | refine And.intro vRepl ?_ | refine And.intro vReplL ?_ | refine And.intro ?_ ?_) <;> try (conv => whnf))
    exact congrArg (rows true) e2
  · have hiq : i = q := vDA
    subst hiq
    repeat' first | ((first | refine And.intro (Or.inl rfl) ?_ | (apply Exists.intro; refine And.intro (sub_rows vSqA) ?_) | (apply Exists.intro; refine And.intro (c_coproduct hm i hq _ _ _ _ f a) ?_) | (apply Exists.intro; refine And.intro (c_sameTables _ _ _ _ (sqT i (comp2N a f 0 i)) (sqT i (prD a i)) (by simp; omega) (sqT_lens (by omega) _)) ?_) | (refine And.intro (fun h => ?_) (fun h => ?_) <;> (try simp only [cnt1, ints_length] at h)) | refine And.intro (show slotsOk _ = true by decide +kernel) ?_ | refine And.intro vOb ?_ | (apply Exists.intro; refine And.intro vObt ?_) | (apply Exists.intro; refine And.intro vObx ?_) | refine And.intro vArT ?_ | refine And.intro (vDA) ?_ | refine Or.inl ?_) <;> conv => whnf) | fail
    all_goals (refine dbool_congr ?_; first | rfl | (simp_all []; done) | (simp_all []; omega) | (simp_all []; intros; omega))
  · all_goals (refine dbool_congr ?_; first | rfl | (simp_all []; done) | (simp_all []; omega) | (simp_all []; intros; omega))
end Go.Proofs

