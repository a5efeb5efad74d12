/- Planes as arguments: copies, sizes, what is a plane. -/
-- tables
import Derived.Test.YtmnphhjljlbfmaaGreatK1
import Derived.Test.YtmnphhjljlbfmaaGreatKT
namespace Go.Proofs
open Go Go.Vm Go.Fg Go.Fg.PS
set_option maxRecDepth 100000
set_option maxHeartbeats 4000000
set_option linter.unusedSimpArgs false
set_option linter.unusedVariables false
variable {m : Int}
def rowsP (t : List (List Int)) (i : Nat) : List D := rows true (t.take i) ++ List.replicate (t.length - i) (.lit (.slice none 0 0))
@[simp] theorem rowsP_length (t : List (List Int)) {i : Nat} : (rowsP t i).length = min i t.length + (t.length - i) := by simp [rowsP]
theorem rowsP_zero (t : List (List Int)) : rowsP t 0 = List.replicate t.length (.lit (.slice none 0 0)) := by simp [rowsP, rows]
theorem rowsP_full (t : List (List Int)) : rowsP t t.length = rows true t := by simp [rowsP]
theorem rowsP_at {t : List (List Int)} {i : Nat} (h : i < t.length) : (rowsP t i)[i]? = some (.lit (.slice none 0 0)) := by
  unfold rowsP
  rw [List.getElem?_append_right (by simp; omega)]
  simp [Nat.min_eq_left (show i ≤ t.length by omega), show 0 < t.length - i by omega]
theorem rowsP_set {t : List (List Int)} {i : Nat} (h : i < t.length) : (rowsP t i).set i (.list true 1 (ints (t.getD i []))) = rowsP t (i + 1) := by
  unfold rowsP
  have e : (rows true (t.take i)).length = i := by simp; omega
  rw [List.set_append_right _ _ (by omega), e, Nat.sub_self, show t.length - i = (t.length - (i + 1)) + 1 by omega, List.replicate_succ, List.set_cons_zero]
  rw [List.take_succ_eq_append_getElem h, ← rows_append, List.append_assoc]
  congr 1
  simp [h]
theorem rowsP_lt {t : List (List Int)} {i q : Nat} (e : q = i) (h : i < t.length) : q < (rowsP t i).length := by subst e; simp; omega
theorem rowsP_no {t : List (List Int)} {i q : Nat} (e : q = i) (h : i < t.length) : ∀ d, (rowsP t i)[q]? = some d → d.notOwn = true := fun d hd => by
  subst e; rw [rowsP_at h] at hd; cases hd; rfl
theorem rowsP_len {t : List (List Int)} {i : Nat} (h : i ≤ t.length) : t.length * 1 = (rowsP t i).length := by simp; omega
theorem c_toInt64SS (o p : Bool) (t : List (List Int)) (hl : t.length ≤ 1048576) (hr : lensOk t) : PureCall Tryz.prog 25 [.list o 1 (rows p t)] (.list true 1 (rows true t)) := by
  refine pure_of_vc Tryz.tabOk mixOrd Tryz.func25 rfl rfl ?_
  conv => whnf
  repeat' first | ((first | refine And.intro (Or.inl rfl) ?_ | (refine And.intro (fun h => ?_) (fun h => ?_) <;> (try simp only [cnt1, ints_length] at h)) | refine And.intro (show slotsOk _ = true by decide +kernel) ?_ | refine And.intro vOb ?_ | (apply Exists.intro; refine And.intro vObt ?_) | (apply Exists.intro; refine And.intro vObx ?_) | refine And.intro vArT ?_ | refine Or.inl ?_) <;> conv => whnf) | fail
  refine loop_at Tryz.tabOk mixOrd (α := Nat) (fun i => [(4, dint i)]) (fun i => [(0, some ⟨false, 1, rowsP t i⟩)]) (fun i => i ≤ t.length) (fun i => t.length - i) (0) ?_ ?_ ?_
  · omega
  · conv => whnf
    first | refine WeakS.auto ?_ | refine Weak.auto ?_
    conv => whnf
    repeat' ((first | exact trivial | refine And.intro rfl ?_ | refine And.intro (eqV_int vAr) ?_ | refine And.intro vOb ?_ | refine And.intro vRepl ?_ | refine And.intro vReplL ?_ | refine And.intro ?_ ?_) <;> try (conv => whnf))
    all_goals (rw [rowsP_zero]; rfl)
  intro i hi
  conv => whnf
  have hri := hr i
  repeat' first | ((first | refine And.intro (Or.inl rfl) ?_ | (apply Exists.intro; refine And.intro (c_toInt64S _ _ (hr i vAr)) ?_) | (refine And.intro (fun h => ?_) (fun h => ?_) <;> (try simp only [cnt1, ints_length] at h)) | refine And.intro (show slotsOk _ = true by decide +kernel) ?_ | refine And.intro vOb ?_ | (apply Exists.intro; refine And.intro vObt ?_) | (apply Exists.intro; refine And.intro vObx ?_) | refine And.intro vArT ?_ | refine And.intro (rowsP_lt (i := i) vIx vAr) ?_ | refine And.intro (rowsP_no (i := i) vIx vAr) ?_ | refine And.intro (rowsP_len vAr) ?_ | refine Or.inl ?_) <;> conv => whnf) | fail
  · refine Exists.intro (i + 1) (And.intro vAr (And.intro vAr ?_))
    first | refine WeakS.auto ?_ | refine Weak.auto ?_
    conv => whnf
    repeat' ((first | exact trivial | refine And.intro rfl ?_ | refine And.intro (eqV_int vAr) ?_ | refine And.intro vOb ?_ | refine And.intro vRepl ?_ | refine And.intro vReplL ?_ | refine And.intro ?_ ?_) <;> try (conv => whnf))
    rw [show place 1 0 (i : Int).toNat = i by simp [place1]]
    exact rowsP_set vAr
  · have e : i = t.length := vAr
    subst e
    rw [rowsP_full]
    repeat' first | ((first | refine And.intro (Or.inl rfl) ?_ | (refine And.intro (fun h => ?_) (fun h => ?_) <;> (try simp only [cnt1, ints_length] at h)) | refine And.intro (show slotsOk _ = true by decide +kernel) ?_ | refine And.intro vOb ?_ | (apply Exists.intro; refine And.intro vObt ?_) | (apply Exists.intro; refine And.intro vObx ?_) | refine And.intro vArT ?_ | refine Or.inl ?_) <;> conv => whnf) | fail
theorem c_toPlane (o p : Bool) (m : Int) (t : List (List Int)) (hl : t.length ≤ 1048576) (hr : lensOk t) : PureCall Tryz.prog 8 [.agg [dint m, .list o 1 (rows p t)]] (.agg [dint m, .list true 1 (rows true t)]) := by
  refine pure_of_vc Tryz.tabOk mixOrd Tryz.func8 rfl rfl ?_
  conv => whnf
  repeat' first | ((first | refine And.intro (Or.inl rfl) ?_ | (apply Exists.intro; refine And.intro (c_toInt64SS _ _ _ hl hr) ?_) | (refine And.intro (fun h => ?_) (fun h => ?_) <;> (try simp only [cnt1, ints_length] at h)) | refine And.intro (show slotsOk _ = true by decide +kernel) ?_ | refine And.intro vOb ?_ | (apply Exists.intro; refine And.intro vObt ?_) | (apply Exists.intro; refine And.intro vObx ?_) | refine And.intro vArT ?_ | refine Or.inl ?_) <;> conv => whnf) | fail
def szT (n : Int) (t : List (List Int)) : Int := if n - t.length - totL t < 0 then -1 else n - t.length - totL t
theorem row_le {t : List (List Int)} {i : Nat} (h : i < t.length) : (t.getD i []).length ≤ totL t := by
  have h1 := totL_take_succ h
  have h2 := totL_le (t := t) (i + 1)
  omega
theorem szT_ok {n : Int} {t : List (List Int)} (hn : n ≤ 1048576) (h : ¬ szT n t < 0) : t.length ≤ 1048576 ∧ lensOk t := by
  unfold szT at h
  split at h
  · omega
  · refine ⟨by omega, fun i hi => ?_⟩
    have := row_le hi
    omega
theorem c_szInt64SS (o p : Bool) (t : List (List Int)) (n : Int) (hn : 0 ≤ n ∧ n ≤ 1048576) (hl : t.length ≤ 9223372036854775807) (hr : ∀ k, k < t.length → (t.getD k []).length ≤ 9223372036854775807) : PureCall Tryz.prog 19 [.list o 1 (rows p t), dint n] (dint (szT n t)) := by
  refine pure_of_vc Tryz.tabOk mixOrd Tryz.func19 rfl rfl ?_
  conv => whnf
  repeat' first | ((first | refine And.intro (Or.inl rfl) ?_ | (refine And.intro (fun h => ?_) (fun h => ?_) <;> (try simp only [cnt1, ints_length] at h)) | refine And.intro (show slotsOk _ = true by decide +kernel) ?_ | refine And.intro vOb ?_ | (apply Exists.intro; refine And.intro vObt ?_) | (apply Exists.intro; refine And.intro vObx ?_) | refine And.intro vArT ?_ | refine Or.inl ?_) <;> conv => whnf) | fail
  · exact congrArg dint (by unfold szT; rw [if_pos (by simp only [cnt1, rows_length] at *; omega)])
  · have hb : t.length ≤ 1048576 := by simp only [cnt1, rows_length] at *; omega
    refine loop_at Tryz.tabOk mixOrd (α := Nat) (fun i => [(1, dint (n - t.length - totL (t.take i))), (5, dint i)]) (fun i => []) (fun i => i ≤ t.length ∧ 0 ≤ n - t.length - totL (t.take i)) (fun i => t.length - i) (0) ?_ ?_ ?_
    · exact ⟨by omega, by simp only [cnt1, rows_length, List.take_zero, totL] at *; omega⟩
    · conv => whnf
      first | refine WeakS.auto ?_ | refine Weak.auto ?_
      conv => whnf
      repeat' ((first | exact trivial | refine And.intro rfl ?_ | refine And.intro (eqV_int vAr) ?_ | refine And.intro vOb ?_ | refine And.intro vRepl ?_ | refine And.intro vReplL ?_ | refine And.intro ?_ ?_) <;> try (conv => whnf))
      all_goals simp [totL, cnt1]
    intro i ⟨hi, h0⟩
    conv => whnf
    have hri := hr i
    have hts : i < t.length → totL (t.take (i + 1)) = totL (t.take i) + (t.getD i []).length := fun h => totL_take_succ h
    have htl := totL_le (t := t) (i + 1)
    have htl2 := totL_le (t := t) i
    repeat' first | ((first | refine And.intro (Or.inl rfl) ?_ | (apply Exists.intro; refine And.intro (c_szInt64S _ _ _ (by omega) (hr i vAr)) ?_) | (refine And.intro (fun h => ?_) (fun h => ?_) <;> (try simp only [cnt1, ints_length] at h)) | refine And.intro (show slotsOk _ = true by decide +kernel) ?_ | refine And.intro vOb ?_ | (apply Exists.intro; refine And.intro vObt ?_) | (apply Exists.intro; refine And.intro vObx ?_) | refine And.intro vArT ?_ | refine Or.inl ?_) <;> conv => whnf) | fail
    · have hi' : i < t.length := by simp only [rows_length] at *; omega
      have hts' := hts hi'
      refine congrArg dint ?_
      unfold szT
      rw [if_pos]
      have h9 : (if n - ↑t.length - ↑(totL (List.take i t)) - ↑(t.getD i []).length < 0 then -1 else n - ↑t.length - ↑(totL (List.take i t)) - ↑(t.getD i []).length) < 0 := by assumption
      split at h9 <;> omega
    · have hi' : i < t.length := by simp only [rows_length] at *; omega
      have hts' := hts hi'
      have h9 : ¬ (if n - ↑t.length - ↑(totL (List.take i t)) - ↑(t.getD i []).length < 0 then -1 else n - ↑t.length - ↑(totL (List.take i t)) - ↑(t.getD i []).length) < 0 := by assumption
      have h8 : ¬ n - ↑t.length - ↑(totL (List.take i t)) - ↑(t.getD i []).length < 0 := fun h => by rw [if_pos h] at h9; omega
      rw [if_neg h8]
      refine Exists.intro (i + 1) (And.intro ⟨by omega, by omega⟩ (And.intro (by omega) ?_))
      first | refine WeakS.auto ?_ | refine Weak.auto ?_
      conv => whnf
      repeat' ((first | exact trivial | refine And.intro rfl ?_ | refine And.intro (eqV_int vAr) ?_ | refine And.intro vOb ?_ | refine And.intro vRepl ?_ | refine And.intro vReplL ?_ | refine And.intro ?_ ?_) <;> try (conv => whnf))
      all_goals omega
    · have hi' : i = t.length := by simp only [rows_length] at *; omega
      subst hi'
      rw [List.take_of_length_le (Nat.le_refl _)] at h0 ⊢
      refine congrArg dint ?_
      unfold szT
      rw [if_neg (by omega)]
theorem c_szPlane (o p : Bool) (m : Int) (t : List (List Int)) (n : Int) (hn : 0 ≤ n ∧ n ≤ 1048576) (hl : t.length ≤ 9223372036854775807) (hr : ∀ k, k < t.length → (t.getD k []).length ≤ 9223372036854775807) : PureCall Tryz.prog 6 [.agg [dint m, .list o 1 (rows p t)], dint n] (dint (szT n t)) := by
  refine pure_of_vc Tryz.tabOk mixOrd Tryz.func6 rfl rfl ?_
  conv => whnf
  repeat' first | ((first | refine And.intro (Or.inl rfl) ?_ | (apply Exists.intro; refine And.intro (c_szInt64SS o p t n hn hl hr) ?_) | (refine And.intro (fun h => ?_) (fun h => ?_) <;> (try simp only [cnt1, ints_length] at h)) | refine And.intro (show slotsOk _ = true by decide +kernel) ?_ | refine And.intro vOb ?_ | (apply Exists.intro; refine And.intro vObt ?_) | (apply Exists.intro; refine And.intro vObx ?_) | refine And.intro vArT ?_ | refine Or.inl ?_) <;> conv => whnf) | fail
  have h9 : szT n t < 0 := by assumption
  refine congrArg dint ?_
  unfold szT at h9 ⊢
  split
  · rfl
  · rename_i h8; rw [if_neg h8] at h9; omega
def rowOk (m : Int) (t : List (List Int)) (i : Nat) : Bool := decide ((t.getD i []).length = t.length - i) && numsB m (t.getD i [])
def plB (m : Int) (t : List (List Int)) : Bool := inB m 2 10000 && inB t.length 2 11 && (List.range t.length).all (rowOk m t)
theorem plB_no1 {m : Int} {t : List (List Int)} (h : inB m 2 10000 = false) : plB m t = false := by simp [plB, h]
theorem plB_no2 {m : Int} {t : List (List Int)} (h : ¬ (2 ≤ t.length ∧ t.length ≤ 11)) : plB m t = false := by
  have : inB t.length 2 11 = false := by simp only [inB, decide_eq_false_iff_not]; omega
  simp [plB, this]
theorem plB_no3 {m : Int} {t : List (List Int)} {i : Nat} (hi : i < t.length) (h : rowOk m t i = false) : plB m t = false := by
  have : (List.range t.length).all (rowOk m t) = false := List.all_eq_false.2 ⟨i, by simpa using hi, by simp [h]⟩
  simp [plB, this]
theorem plB_yes {m : Int} {t : List (List Int)} (h1 : inB m 2 10000 = true) (h2 : 2 ≤ t.length ∧ t.length ≤ 11) (h3 : ∀ j, j < t.length → rowOk m t j = true) : plB m t = true := by
  have e2 : inB t.length 2 11 = true := by simp only [inB, decide_eq_true_eq]; omega
  have e3 : (List.range t.length).all (rowOk m t) = true := List.all_eq_true.2 (fun x hx => h3 x (by simpa using hx))
  simp [plB, h1, e2, e3]
theorem plB_md {m : Int} {t : List (List Int)} (h : plB m t = true) : Md m ∧ 2 ≤ t.length ∧ t.length ≤ 11 ∧ IsTb m t := by
  simp only [plB, Bool.and_eq_true, inB, decide_eq_true_eq, List.all_eq_true, List.mem_range] at h
  refine ⟨h.1.1, by omega, by omega, fun i hi => ?_⟩
  have := h.2 i hi
  simp only [rowOk, Bool.and_eq_true, decide_eq_true_eq] at this
  exact ⟨this.1, numsB_iff.1 this.2⟩
theorem plB_T {m : Int} {t : List (List Int)} (h : plB m t = true) : Tb t.length (rd2 m t) = t := Tb_rd (plB_md h).2.2.2
theorem c_l03Is (o p : Bool) (m : Int) (t : List (List Int)) (hl : t.length ≤ 1048576) (hr : lensOk t) : PureCall Tryz.prog 61 [.agg [dint m, .list o 1 (rows p t)]] (dbool (plB m t)) := by
  refine pure_of_vc Tryz.tabOk mixOrd Tryz.func61 rfl rfl ?_
  conv => whnf
  repeat' first | ((first | refine And.intro (Or.inl rfl) ?_ | (apply Exists.intro; refine And.intro (c_l01Modulus _) ?_) | (refine And.intro (fun h => ?_) (fun h => ?_) <;> (try simp only [cnt1, ints_length] at h)) | refine And.intro (show slotsOk _ = true by decide +kernel) ?_ | refine And.intro vOb ?_ | (apply Exists.intro; refine And.intro vObt ?_) | (apply Exists.intro; refine And.intro vObx ?_) | refine And.intro vArT ?_ | refine Or.inl ?_) <;> conv => whnf) | fail
  · exact dbool_congr (plB_no2 (by simp only [rows_length] at *; omega)).symm
  · exact dbool_congr (plB_no2 (by simp only [rows_length] at *; omega)).symm
  · have hm : inB m 2 10000 = true := by assumption
    refine loop_at Tryz.tabOk mixOrd (α := Nat) (fun i => [(4, dint i)]) (fun i => []) (fun i => i ≤ t.length ∧ ∀ j, j < i → rowOk m t j = true) (fun i => t.length - i) (0) ?_ ?_ ?_
    · exact ⟨by omega, by omega⟩
    · conv => whnf
      first | refine WeakS.auto ?_ | refine Weak.auto ?_
      conv => whnf
      repeat' ((first | exact trivial | refine And.intro rfl ?_ | refine And.intro (eqV_int vAr) ?_ | refine And.intro vOb ?_ | refine And.intro vRepl ?_ | refine And.intro vReplL ?_ | refine And.intro ?_ ?_) <;> try (conv => whnf))
    intro i ⟨hi, hj⟩
    conv => whnf
    have hri := hr i
    repeat' first | ((first | refine And.intro (Or.inl rfl) ?_ | (apply Exists.intro; refine And.intro (c_l01Numbers _ m _ (h1of hm) (Nat.le_trans (hr i vAr) (by omega))) ?_) | (refine And.intro (fun h => ?_) (fun h => ?_) <;> (try simp only [cnt1, ints_length] at h)) | refine And.intro (show slotsOk _ = true by decide +kernel) ?_ | refine And.intro vOb ?_ | (apply Exists.intro; refine And.intro vObt ?_) | (apply Exists.intro; refine And.intro vObx ?_) | refine And.intro vArT ?_ | refine Or.inl ?_) <;> conv => whnf) | fail
    · have hi' : i < t.length := by simp only [rows_length] at *; omega
      refine dbool_congr (plB_no3 hi' ?_).symm
      simp only [rows_length] at *
      have : ¬ (t.getD i []).length = t.length - i := by omega
      unfold rowOk; rw [decide_eq_false this]; rfl
    · have hi' : i < t.length := by simp only [rows_length] at *; omega
      refine Exists.intro (i + 1) (And.intro ⟨by omega, lt_cases hj ?_⟩ (And.intro (by omega) ?_))
      · simp only [rows_length] at *
        have h8 : (t.getD i []).length = t.length - i := by omega
        have h9 : numsB m (t.getD i []) = true := by assumption
        unfold rowOk; rw [decide_eq_true h8, h9]; rfl
      first | refine WeakS.auto ?_ | refine Weak.auto ?_
      conv => whnf
      repeat' ((first | exact trivial | refine And.intro rfl ?_ | refine And.intro (eqV_int vAr) ?_ | refine And.intro vOb ?_ | refine And.intro vRepl ?_ | refine And.intro vReplL ?_ | refine And.intro ?_ ?_) <;> try (conv => whnf))
    · have hi' : i < t.length := by simp only [rows_length] at *; omega
      refine dbool_congr (plB_no3 hi' ?_).symm
      have h9 : numsB m (t.getD i []) = false := by assumption
      unfold rowOk; rw [h9, Bool.and_false]
    · simp only [rows_length] at *
      exact dbool_congr (plB_yes hm (by omega) (fun j h => hj j (by omega))).symm
  · exact dbool_congr (plB_no1 (by assumption)).symm
theorem c_IsPlane1 (a m : Int) (d : D) (h1 : inR .i64 (m - 1)) : PureCall Tryz.prog 101 [dint a, .cptr [dint m, d] 0] (dbool (inB a 0 (m - 1))) := by
  refine pure_of_vc Tryz.tabOk mixOrd Tryz.func101 rfl rfl ?_
  conv => whnf
  repeat' first | ((first | refine And.intro (Or.inl rfl) ?_ | (apply Exists.intro; refine And.intro (c_isNumber _ _ h1) ?_) | (refine And.intro (fun h => ?_) (fun h => ?_) <;> (try simp only [cnt1, ints_length] at h)) | refine And.intro (show slotsOk _ = true by decide +kernel) ?_ | refine And.intro vOb ?_ | (apply Exists.intro; refine And.intro vObt ?_) | (apply Exists.intro; refine And.intro vObx ?_) | refine And.intro vArT ?_ | refine Or.inl ?_) <;> conv => whnf) | fail
  all_goals (refine dbool_congr ?_; first | rfl | (simp_all []; done) | (simp_all []; omega) | (simp_all []; intros; omega))
theorem c_IsPlane (o p : Bool) (m : Int) (t : List (List Int)) (hl : t.length ≤ 1048576) (hr : lensOk t) : PureCall Tryz.prog 87 [.agg [dint m, .list o 1 (rows p t)]] (dbool (plB m t)) := by
  have hdeg : PureCall Tryz.prog 48 [.agg [dint m, .list o 1 (rows p t)]] (dint (t.length - 1)) := by
    refine pure_of_vc Tryz.tabOk mixOrd Tryz.func48 rfl rfl ?_
    conv => whnf
    repeat' first | ((first | refine And.intro (Or.inl rfl) ?_ | (refine And.intro (fun h => ?_) (fun h => ?_) <;> (try simp only [cnt1, ints_length] at h)) | refine And.intro (show slotsOk _ = true by decide +kernel) ?_ | refine And.intro vOb ?_ | (apply Exists.intro; refine And.intro vObt ?_) | (apply Exists.intro; refine And.intro vObx ?_) | refine And.intro vArT ?_ | refine Or.inl ?_) <;> conv => whnf) | fail
    simp [cnt1]
  refine pure_of_vc Tryz.tabOk mixOrd Tryz.func87 rfl rfl ?_
  conv => whnf
  repeat' first | ((first | refine And.intro (Or.inl rfl) ?_ | (apply Exists.intro; refine And.intro (c_IsModulus _) ?_) | (apply Exists.intro; refine And.intro (c_impl_in _ _ _) ?_) | (apply Exists.intro; refine And.intro (hdeg) ?_) | (refine And.intro (fun h => ?_) (fun h => ?_) <;> (try simp only [cnt1, ints_length] at h)) | refine And.intro (show slotsOk _ = true by decide +kernel) ?_ | refine And.intro vOb ?_ | (apply Exists.intro; refine And.intro vObt ?_) | (apply Exists.intro; refine And.intro vObx ?_) | refine And.intro vArT ?_ | refine Or.inl ?_) <;> conv => whnf) | fail
  · have hm : inB m 2 10000 = true := by assumption
    have hb : inB ((t.length : Int) - 1) 1 10 = true := by assumption
    simp only [inB, decide_eq_true_eq] at hb
    refine loop_at Tryz.tabOk mixOrd (α := Nat) (fun i => [(18, dint i)]) (fun i => []) (fun i => i ≤ t.length ∧ ∀ j, j < i → rowOk m t j = true) (fun i => t.length - i) (0) ?_ ?_ ?_
    · exact ⟨by omega, by omega⟩
    · conv => whnf
      first | refine WeakS.auto ?_ | refine Weak.auto ?_
      conv => whnf
      repeat' ((first | exact trivial | refine And.intro rfl ?_ | refine And.intro (eqV_int vAr) ?_ | refine And.intro vOb ?_ | refine And.intro vRepl ?_ | refine And.intro vReplL ?_ | refine And.intro ?_ ?_) <;> try (conv => whnf))
    intro i ⟨hi, hj⟩
    conv => whnf
    have hri := hr i
    repeat' first | ((first | refine And.intro (Or.inl rfl) ?_ | (apply Exists.intro; refine And.intro (c_allA 101 [dint m, .list o 1 (rows p t)] (fun a => inB a 0 (m - 1)) (fun a => c_IsPlane1 a m _ (h1of hm)) _ _ (hr i vAr)) ?_) | (refine And.intro (fun h => ?_) (fun h => ?_) <;> (try simp only [cnt1, ints_length] at h)) | refine And.intro (show slotsOk _ = true by decide +kernel) ?_ | refine And.intro vOb ?_ | (apply Exists.intro; refine And.intro vObt ?_) | (apply Exists.intro; refine And.intro vObx ?_) | refine And.intro vArT ?_ | refine Or.inl ?_) <;> conv => whnf) | fail
    · have hi' : i < t.length := by simp only [rows_length] at *; omega
      refine dbool_congr (plB_no3 hi' ?_).symm
      simp only [rows_length] at *
      have : ¬ (t.getD i []).length = t.length - i := by omega
      unfold rowOk; rw [decide_eq_false this]; rfl
    · have hi' : i < t.length := by simp only [rows_length] at *; omega
      refine Exists.intro (i + 1) (And.intro ⟨by omega, lt_cases hj ?_⟩ (And.intro (by omega) ?_))
      · simp only [rows_length] at *
        have h8 : (t.getD i []).length = t.length - i := by omega
        have h9 : numsB m (t.getD i []) = true := by assumption
        unfold rowOk; rw [decide_eq_true h8, h9]; rfl
      first | refine WeakS.auto ?_ | refine Weak.auto ?_
      conv => whnf
      repeat' ((first | exact trivial | refine And.intro rfl ?_ | refine And.intro (eqV_int vAr) ?_ | refine And.intro vOb ?_ | refine And.intro vRepl ?_ | refine And.intro vReplL ?_ | refine And.intro ?_ ?_) <;> try (conv => whnf))
    · have hi' : i < t.length := by simp only [rows_length] at *; omega
      refine dbool_congr (plB_no3 hi' ?_).symm
      have h9 : numsB m (t.getD i []) = false := by assumption
      unfold rowOk; rw [h9, Bool.and_false]
    · simp only [rows_length] at *
      exact dbool_congr (plB_yes hm (by omega) (fun j h => hj j (by omega))).symm
  · have hb : inB ((t.length : Int) - 1) 1 10 = false := by assumption
    simp only [inB, decide_eq_false_iff_not] at hb
    exact dbool_congr (plB_no2 (by omega)).symm
  · exact dbool_congr (plB_no1 (by assumption)).symm
end Go.Proofs

