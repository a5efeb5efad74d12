import Derived.Test.YtndhpcigpghejaaGreatK1
import Derived.Test.YtndhpcigpghejaaGreatVm32
namespace Go.Proofs
open Go Go.Vm Go.Fg
set_option maxRecDepth 100000
set_option maxHeartbeats 4000000
set_option linter.unusedSimpArgs false
set_option linter.unusedVariables false
def marksT (k : Int) : List (List Int) → List (List Int)
 | [] => []
 | l :: t => marks k l.length :: marksT (k + l.length) t
@[simp] theorem marksT_length (k : Int) (t : List (List Int)) : (marksT k t).length = t.length := by
 induction t generalizing k with
 | nil => rfl
 | cons l t ih => simp [marksT, ih]
def lensOk (t : List (List Int)) : Prop := ∀ i, i < t.length → (t.getD i []).length ≤ 1048576
theorem lensOk_Tb {m : Int} {n : Nat} (hn : n ≤ 1000) (f : PS (PS (Zm m))) : lensOk (Tb n f) := fun i hi => by
 have hi' : i < n := by simpa using hi
 rw [Tb_getD f hi']; simp; omega
end Go.Proofs
namespace Go.Proofs
open Go Go.Vm Go.Fg Go.Fg.PS
set_option maxRecDepth 100000
set_option maxHeartbeats 4000000
set_option linter.unusedSimpArgs false
set_option linter.unusedVariables false
variable {m : Int}
def rowsP (t : List (List Int)) (i : Nat) : List D := rows true (t.take i) ++ List.replicate (t.length - i) (.lit (.slice none 0 0))
@[simp] theorem rowsP_length (t : List (List Int)) {i : Nat} : (rowsP t i).length = min i t.length + (t.length - i) := by simp [rowsP]
theorem rowsP_zero (t : List (List Int)) : rowsP t 0 = List.replicate t.length (.lit (.slice none 0 0)) := by simp [rowsP, rows]
theorem rowsP_full (t : List (List Int)) : rowsP t t.length = rows true t := by simp [rowsP]
theorem rowsP_at {t : List (List Int)} {i : Nat} (h : i < t.length) : (rowsP t i)[i]? = some (.lit (.slice none 0 0)) := by
 unfold rowsP
 rw [List.getElem?_append_right (by simp; omega)]
 simp [Nat.min_eq_left (show i ≤ t.length by omega), show 0 < t.length - i by omega]
theorem rowsP_set {t : List (List Int)} {i : Nat} (h : i < t.length) : (rowsP t i).set i (.list true 1 (ints (t.getD i []))) = rowsP t (i + 1) := by
 unfold rowsP
 have e : (rows true (t.take i)).length = i := by simp; omega
 rw [List.set_append_right _ _ (by omega), e, Nat.sub_self, show t.length - i = (t.length - (i + 1)) + 1 by omega, List.replicate_succ, List.set_cons_zero]
 rw [List.take_succ_eq_append_getElem h, ← rows_append, List.append_assoc]
 congr 1
 simp [h]
theorem rowsP_lt {t : List (List Int)} {i q : Nat} (e : q = i) (h : i < t.length) : q < (rowsP t i).length := by subst e; simp; omega
theorem rowsP_no {t : List (List Int)} {i q : Nat} (e : q = i) (h : i < t.length) : ∀ d, (rowsP t i)[q]? = some d → d.notOwn = true := fun d hd => by
 subst e; rw [rowsP_at h] at hd; cases hd; rfl
theorem rowsP_len {t : List (List Int)} {i : Nat} (h : i ≤ t.length) : t.length * 1 = (rowsP t i).length := by simp; omega
theorem c_toInt64SS (o p : Bool) (t : List (List Int)) (hl : t.length ≤ 1048576) (hr : lensOk t) : PureCall Tryz.prog 217 [.list o 1 (rows p t)] (.list true 1 (rows true t)) := by
 refine pure_of_vc Tryz.tabOk mixOrd Tryz.func217 rfl rfl ?_
 conv => whnf
 repeat' first | ((first | refine z0 ?_ | (refine And.intro (fun h => ?_) (fun h => ?_) <;> (try simp only [cnt1, ints_length] at h)) | refine zS ?_ | refine zV ?_ | (apply zI; refine zP vObt ?_) | (apply zI; refine zP vObx ?_) | refine zA ?_ | refine Alt.fst ?_ | refine Or.inl ?_) <;> conv => whnf) | fail
 refine loop_at Tryz.tabOk mixOrd (α := Nat) (fun i => [(4, dint i)]) (fun i => [(0, some ⟨false, 1, rowsP t i⟩)]) (fun i => i ≤ t.length) (fun i => t.length - i) (0) ?_ ?_ ?_
 · omega
 · conv => whnf
   first | refine WeakS.auto ?_ | refine Weak.auto ?_
   conv => whnf
   repeat' ((first | refine z1 ?_ | refine z2 ?_ | refine And.intro ?_ ?_ | exact trivial) <;> try (conv => whnf))
   all_goals (rw [rowsP_zero]; rfl)
 intro i hi
 conv => whnf
 have hri := hr i
 repeat' first | ((first | refine z0 ?_ | (apply zI; refine zP (c_toInt64S _ _ (hr i vAr)) ?_) | (refine And.intro (fun h => ?_) (fun h => ?_) <;> (try simp only [cnt1, ints_length] at h)) | refine zV ?_ | (apply zI; refine zP vObx ?_) | refine And.intro (rowsP_lt (i := i) vIx vAr) ?_ | refine And.intro (rowsP_no (i := i) vIx vAr) ?_ | refine And.intro (rowsP_len vAr) ?_ | refine Or.inl ?_) <;> conv => whnf) | fail
 · refine Exists.intro (i + 1) (And.intro vAr (And.intro vAr ?_))
   first | refine WeakS.auto ?_ | refine Weak.auto ?_
   conv => whnf
   repeat' ((first | refine z1 ?_ | refine z2 ?_ | refine And.intro ?_ ?_ | exact trivial) <;> try (conv => whnf))
   rw [show place 1 0 (i : Int).toNat = i by simp [place1]]
   exact rowsP_set vAr
 · have e : i = t.length := vAr
   subst e
   rw [rowsP_full]
   repeat' first | ((first | refine z0 ?_ | (refine And.intro (fun h => ?_) (fun h => ?_) <;> (try simp only [cnt1, ints_length] at h)) | refine zS ?_ | refine zV ?_ | (apply zI; refine zP vObt ?_) | (apply zI; refine zP vObx ?_) | refine zA ?_ | refine Alt.fst ?_ | refine Or.inl ?_) <;> conv => whnf) | fail
def rowOk (m : Int) (t : List (List Int)) (i : Nat) : Bool := decide ((t.getD i []).length = t.length - i) && numsB m (t.getD i [])
def plB (m : Int) (t : List (List Int)) : Bool := inB m 2 10000 && inB t.length 2 11 && (List.range t.length).all (rowOk m t)
theorem plB_no1 {m : Int} {t : List (List Int)} (h : inB m 2 10000 = false) : plB m t = false := by simp [plB, h]
theorem plB_no2 {m : Int} {t : List (List Int)} (h : ¬ (2 ≤ t.length ∧ t.length ≤ 11)) : plB m t = false := by
 have : inB t.length 2 11 = false := by simp only [inB, decide_eq_false_iff_not]; omega
 simp [plB, this]
theorem plB_no3 {m : Int} {t : List (List Int)} {i : Nat} (hi : i < t.length) (h : rowOk m t i = false) : plB m t = false := by
 have : (List.range t.length).all (rowOk m t) = false := List.all_eq_false.2 ⟨i, by simpa using hi, by simp [h]⟩
 simp [plB, this]
theorem plB_yes {m : Int} {t : List (List Int)} (h1 : inB m 2 10000 = true) (h2 : 2 ≤ t.length ∧ t.length ≤ 11) (h3 : ∀ j, j < t.length → rowOk m t j = true) : plB m t = true := by
 have e2 : inB t.length 2 11 = true := by simp only [inB, decide_eq_true_eq]; omega
 have e3 : (List.range t.length).all (rowOk m t) = true := List.all_eq_true.2 (fun x hx => h3 x (by simpa using hx))
 simp [plB, h1, e2, e3]
theorem plB_md {m : Int} {t : List (List Int)} (h : plB m t = true) : Md m ∧ 2 ≤ t.length ∧ t.length ≤ 11 ∧ IsTb m t := by
 simp only [plB, Bool.and_eq_true, inB, decide_eq_true_eq, List.all_eq_true, List.mem_range] at h
 refine ⟨h.1.1, by omega, by omega, fun i hi => ?_⟩
 have := h.2 i hi
 simp only [rowOk, Bool.and_eq_true, decide_eq_true_eq] at this
 exact ⟨this.1, numsB_iff.1 this.2⟩
theorem plB_T {m : Int} {t : List (List Int)} (h : plB m t = true) : Tb t.length (rd2 m t) = t := Tb_rd (plB_md h).2.2.2
theorem c_l03Is (o p : Bool) (m : Int) (t : List (List Int)) (hl : t.length ≤ 1048576) (hr : lensOk t) : PureCall Tryz.prog 379 [.agg [dint m, .list o 1 (rows p t)]] (dbool (plB m t)) := by
 refine pure_of_vc Tryz.tabOk mixOrd Tryz.func379 rfl rfl ?_
 conv => whnf
 repeat' first | ((first | refine z0 ?_ | (apply zI; refine zP (c_l01Modulus _) ?_) | (refine And.intro (fun h => ?_) (fun h => ?_) <;> (try simp only [cnt1, ints_length] at h)) | refine Or.inl ?_) <;> conv => whnf) | fail
 · exact dbool_congr (plB_no2 (by simp only [rows_length] at *; omega)).symm
 · exact dbool_congr (plB_no2 (by simp only [rows_length] at *; omega)).symm
 · have hm : inB m 2 10000 = true := by assumption
   refine loop_at Tryz.tabOk mixOrd (α := Nat) (fun i => [(4, dint i)]) (fun i => []) (fun i => i ≤ t.length ∧ ∀ j, j < i → rowOk m t j = true) (fun i => t.length - i) (0) ?_ ?_ ?_
   · exact ⟨by omega, by omega⟩
   · conv => whnf
     first | refine WeakS.auto ?_ | refine Weak.auto ?_
     conv => whnf
     repeat' ((first | refine z1 ?_ | refine z2 ?_ | refine And.intro ?_ ?_ | exact trivial) <;> try (conv => whnf))
   intro i ⟨hi, hj⟩
   conv => whnf
   have hri := hr i
   repeat' first | ((first | refine z0 ?_ | (apply zI; refine zP (c_l01Numbers _ m _ (h1of hm) (Nat.le_trans (hr i vAr) (by omega))) ?_) | (refine And.intro (fun h => ?_) (fun h => ?_) <;> (try simp only [cnt1, ints_length] at h)) | refine zS ?_ | refine zV ?_ | (apply zI; refine zP vObx ?_) | refine Alt.fst ?_ | refine Or.inl ?_) <;> conv => whnf) | fail
   · have hi' : i < t.length := by simp only [rows_length] at *; omega
     refine dbool_congr (plB_no3 hi' ?_).symm
     simp only [rows_length] at *
     have : ¬ (t.getD i []).length = t.length - i := by omega
     unfold rowOk; rw [decide_eq_false this]; rfl
   · have hi' : i < t.length := by simp only [rows_length] at *; omega
     refine Exists.intro (i + 1) (And.intro ⟨by omega, lt_cases hj ?_⟩ (And.intro (by omega) ?_))
     · simp only [rows_length] at *
       have h8 : (t.getD i []).length = t.length - i := by omega
       have h9 : numsB m (t.getD i []) = true := by assumption
       unfold rowOk; rw [decide_eq_true h8, h9]; rfl
     first | refine WeakS.auto ?_ | refine Weak.auto ?_
     conv => whnf
     repeat' ((first | refine z1 ?_ | refine z2 ?_ | refine And.intro ?_ ?_ | exact trivial) <;> try (conv => whnf))
   · have hi' : i < t.length := by simp only [rows_length] at *; omega
     refine dbool_congr (plB_no3 hi' ?_).symm
     have h9 : numsB m (t.getD i []) = false := by assumption
     unfold rowOk; rw [h9, Bool.and_false]
   · simp only [rows_length] at *
     exact dbool_congr (plB_yes hm (by omega) (fun j h => hj j (by omega))).symm
 · exact dbool_congr (plB_no1 (by assumption)).symm
theorem c_IsPlane1 (a m : Int) (d : D) (h1 : inR .i64 (m - 1)) : PureCall Tryz.prog 341 [dint a, .cptr [dint m, d] 0] (dbool (inB a 0 (m - 1))) := by
 refine pure_of_vc Tryz.tabOk mixOrd Tryz.func341 rfl rfl ?_
 conv => whnf
 repeat' first | ((first | refine z0 ?_ | (apply zI; refine zP (c_isNumber _ _ h1) ?_) | (refine And.intro (fun h => ?_) (fun h => ?_) <;> (try simp only [cnt1, ints_length] at h)) | (apply zI; refine zP vObx ?_) | refine Or.inl ?_) <;> conv => whnf) | fail
 all_goals (refine dbool_congr ?_; first | rfl | (simp_all []; done) | (simp_all []; omega) | (simp_all []; intros; omega))
theorem c_IsPlane (o p : Bool) (m : Int) (t : List (List Int)) (hl : t.length ≤ 1048576) (hr : lensOk t) : PureCall Tryz.prog 167 [.agg [dint m, .list o 1 (rows p t)]] (dbool (plB m t)) := by
 have hdeg : PureCall Tryz.prog 191 [.agg [dint m, .list o 1 (rows p t)]] (dint (t.length - 1)) := by
   refine pure_of_vc Tryz.tabOk mixOrd Tryz.func191 rfl rfl ?_
   conv => whnf
   repeat' first | ((first | refine z0 ?_ | (refine And.intro (fun h => ?_) (fun h => ?_) <;> (try simp only [cnt1, ints_length] at h)) | refine zS ?_ | refine zV ?_ | (apply zI; refine zP vObt ?_) | (apply zI; refine zP vObx ?_) | refine zA ?_ | refine Alt.fst ?_ | refine Or.inl ?_) <;> conv => whnf) | fail
   simp [cnt1]
 refine pure_of_vc Tryz.tabOk mixOrd Tryz.func167 rfl rfl ?_
 conv => whnf
 repeat' first | ((first | refine z0 ?_ | (apply zI; refine zP (c_IsModulus _) ?_) | (apply zI; refine zP (c_impl_in _ _ _) ?_) | (apply zI; refine zP (hdeg) ?_) | (refine And.intro (fun h => ?_) (fun h => ?_) <;> (try simp only [cnt1, ints_length] at h)) | refine Or.inl ?_) <;> conv => whnf) | fail
 · have hm : inB m 2 10000 = true := by assumption
   have hb : inB ((t.length : Int) - 1) 1 10 = true := by assumption
   simp only [inB, decide_eq_true_eq] at hb
   refine loop_at Tryz.tabOk mixOrd (α := Nat) (fun i => [(18, dint i)]) (fun i => []) (fun i => i ≤ t.length ∧ ∀ j, j < i → rowOk m t j = true) (fun i => t.length - i) (0) ?_ ?_ ?_
   · exact ⟨by omega, by omega⟩
   · conv => whnf
     first | refine WeakS.auto ?_ | refine Weak.auto ?_
     conv => whnf
     repeat' ((first | refine z1 ?_ | refine z2 ?_ | refine And.intro ?_ ?_ | exact trivial) <;> try (conv => whnf))
   intro i ⟨hi, hj⟩
   conv => whnf
   have hri := hr i
   repeat' first | ((first | refine z0 ?_ | (apply zI; refine zP (c_allA 341 [dint m, .list o 1 (rows p t)] (fun a => inB a 0 (m - 1)) (fun a => c_IsPlane1 a m _ (h1of hm)) _ _ (hr i vAr)) ?_) | (refine And.intro (fun h => ?_) (fun h => ?_) <;> (try simp only [cnt1, ints_length] at h)) | refine zV ?_ | (apply zI; refine zP vObx ?_) | refine Or.inl ?_) <;> conv => whnf) | fail
   · have hi' : i < t.length := by simp only [rows_length] at *; omega
     refine dbool_congr (plB_no3 hi' ?_).symm
     simp only [rows_length] at *
     have : ¬ (t.getD i []).length = t.length - i := by omega
     unfold rowOk; rw [decide_eq_false this]; rfl
   · have hi' : i < t.length := by simp only [rows_length] at *; omega
     refine Exists.intro (i + 1) (And.intro ⟨by omega, lt_cases hj ?_⟩ (And.intro (by omega) ?_))
     · simp only [rows_length] at *
       have h8 : (t.getD i []).length = t.length - i := by omega
       have h9 : numsB m (t.getD i []) = true := by assumption
       unfold rowOk; rw [decide_eq_true h8, h9]; rfl
     first | refine WeakS.auto ?_ | refine Weak.auto ?_
     conv => whnf
     repeat' ((first | refine z1 ?_ | refine z2 ?_ | refine And.intro ?_ ?_ | exact trivial) <;> try (conv => whnf))
   · have hi' : i < t.length := by simp only [rows_length] at *; omega
     refine dbool_congr (plB_no3 hi' ?_).symm
     have h9 : numsB m (t.getD i []) = false := by assumption
     unfold rowOk; rw [h9, Bool.and_false]
   · simp only [rows_length] at *
     exact dbool_congr (plB_yes hm (by omega) (fun j h => hj j (by omega))).symm
 · have hb : inB ((t.length : Int) - 1) 1 10 = false := by assumption
   simp only [inB, decide_eq_false_iff_not] at hb
   exact dbool_congr (plB_no2 (by omega)).symm
 · exact dbool_congr (plB_no1 (by assumption)).symm
end Go.Proofs
