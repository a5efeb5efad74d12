/- Marks of tables; tables that are equal, marked, copied. -/
-- tables
import Derived.Test.YtmnphhjljlbfmaaGreatKM
import Derived.Test.YtmnphhjljlbfmaaGreatVm32
namespace Go.Proofs
open Go Go.Vm Go.Fg
set_option maxRecDepth 100000
set_option maxHeartbeats 4000000
set_option linter.unusedSimpArgs false
set_option linter.unusedVariables false

def totL : List (List Int) → Nat
  | [] => 0
  | l :: t => l.length + totL t
def marksT (k : Int) : List (List Int) → List (List Int)
  | [] => []
  | l :: t => marks k l.length :: marksT (k + l.length) t
@[simp] theorem marksT_length (k : Int) (t : List (List Int)) : (marksT k t).length = t.length := by
  induction t generalizing k with
  | nil => rfl
  | cons l t ih => simp [marksT, ih]
theorem totL_take_succ {t : List (List Int)} {i : Nat} (h : i < t.length) : totL (t.take (i + 1)) = totL (t.take i) + (t.getD i []).length := by
  induction t generalizing i with
  | nil => simp at h
  | cons l t ih =>
    cases i with
    | zero => simp [totL]
    | succ i =>
      have := ih (i := i) (by simpa using h)
      simp only [List.take_succ_cons, totL, this, List.getD_cons_succ]; omega
theorem totL_le {t : List (List Int)} (i : Nat) : totL (t.take i) ≤ totL t := by
  induction t generalizing i with
  | nil => simp [totL]
  | cons l t ih =>
    cases i with
    | zero => simp [totL]
    | succ i => have := ih i; simp only [List.take_succ_cons, totL]; omega
theorem marksT_getD {t : List (List Int)} {k : Int} {i : Nat} (h : i < t.length) : (marksT k t).getD i [] = marks (k + totL (t.take i)) (t.getD i []).length := by
  induction t generalizing k i with
  | nil => simp at h
  | cons l t ih =>
    cases i with
    | zero => simp [marksT, totL]
    | succ i =>
      have := ih (k := k + l.length) (i := i) (by simpa using h)
      simp only [marksT, List.getD_cons_succ, this, List.take_succ_cons, totL]
      congr 1; omega
def mkT (k : Int) (t : List (List Int)) (i : Nat) : List (List Int) := (marksT k t).take i ++ t.drop i
theorem mkT_length (k : Int) (t : List (List Int)) {i : Nat} (h : i ≤ t.length) : (mkT k t i).length = t.length := by simp [mkT]; omega
theorem mkT_zero (k : Int) (t : List (List Int)) : mkT k t 0 = t := by simp [mkT]
theorem mkT_full (k : Int) (t : List (List Int)) : mkT k t t.length = marksT k t := by simp [mkT, List.take_of_length_le]
theorem mkT_getD (k : Int) {t : List (List Int)} {i : Nat} (h : i < t.length) : (mkT k t i).getD i [] = t.getD i [] := by
  unfold mkT
  rw [List.getD_eq_getElem?_getD, List.getElem?_append_right (by simp; omega), List.getD_eq_getElem?_getD]
  simp [Nat.min_eq_left (show i ≤ t.length by omega)]
theorem mkT_set (k : Int) {t : List (List Int)} {i : Nat} (h : i < t.length) : (mkT k t i).set i (marks (k + totL (t.take i)) (t.getD i []).length) = mkT k t (i + 1) := by
  have hm := marksT_getD (k := k) h
  unfold mkT
  have e : ((marksT k t).take i).length = i := by simp; omega
  rw [List.set_append_right _ _ (by omega), e, Nat.sub_self, List.drop_eq_getElem_cons h, List.set_cons_zero, List.take_succ_eq_append_getElem (by simpa using h), List.append_assoc]
  congr 1
  rw [← hm]
  simp [h]
theorem inl_markT (env : List D) (rt : List (Option Root)) (r : Nat) (t : List (List Int)) (k : Int) (K : D → List (Option Root) → Prop) (hr : rt[r]? = some (some ⟨false, 1, rows true t⟩))
    (hsz : t.length ≤ 1048576) (hk : 0 ≤ k ∧ k + totL t ≤ 4611686018427387904) (hK : K (dint (k + totL t)) (rt.set r (some ⟨false, 1, rows true (marksT k t)⟩))) :
    inlK Tryz.prog Tryz.tab (.fn (.func 15) [] []) [.ref r [] 1 0 t.length, dint k] ⟨env, rt⟩ K := by
  have hlt : r < rt.length := by rcases Nat.lt_or_ge r rt.length with h' | h'; exact h'; rw [List.getElem?_eq_none h'] at hr; cases hr
  have hr' : rt[r] = some ⟨false, 1, rows true t⟩ := by rw [List.getElem?_eq_getElem hlt] at hr; exact Option.some.inj hr
  have hrt : ∀ X, (rt.set r X)[r]? = some X := fun X => List.getElem?_set_self hlt
  refine inl_of Tryz.tabOk mixOrd _ Tryz.func15 rfl rfl ?_
  conv => whnf
  repeat' first
    | (refine forceR_to (l' := rt) (by simp [nextSt, wrL]) ?_; conv => whnf)
    | (rw [forceN_eq]; conv => whnf)
    | (refine And.intro vOb ?_; conv => whnf)
  have e0 : rt.set r (some ⟨false, 1, rows true (mkT k t 0)⟩) = rt := by
    rw [mkT_zero, ← hr', List.set_getElem_self]
  refine loop_rule Tryz.tabOk mixOrd (α := Nat) (fun i => ⟨[.ref r [] 1 0 t.length, dint (k + totL (t.take i)), .undef, .undef, .undef, dint i] ++ List.replicate (Tryz.f15.ntmps - 6) .undef, rt.set r (some ⟨false, 1, rows true (mkT k t i)⟩)⟩)
    (fun i => i ≤ t.length) (fun i => t.length - i) 0 (by omega) ?_ (fun i hi => ?_)
  · simp only [e0]
    refine Weak.env ?_
    conv => whnf
    repeat' first
      | exact trivial
      | (refine And.intro (Or.inl rfl) ?_; conv => whnf)
      | (refine And.intro (Or.inr rfl) ?_; conv => whnf)
      | (refine And.intro (Or.inr (congrArg dint (by simp [totL]))) ?_; conv => whnf)
  conv => whnf
  have htot := totL_le (t := t) i
  repeat' first
    | (refine forceR_to (l' := rt.set r (some ⟨false, 1, rows true (mkT k t i)⟩)) (by first | (simp [nextSt, wrL]; done) | fail) ?_; conv => whnf)
    | (rw [forceN_eq]; conv => whnf)
    | (refine And.intro (fun h => ?_) (fun h => ?_) <;> conv => whnf)
    | (refine And.intro vOb ?_; conv => whnf)
    | (simp only [rtOf, hrt]; conv => whnf)
    | (apply Exists.intro; refine And.intro (vRrow vIx (by rw [mkT_length k t hi]; omega)) ?_; conv => whnf)
    | fail
  · have hlen := mkT_length k t hi
    have hi' : i < t.length := by omega
    have hts := totL_take_succ hi'
    have hle := totL_le (t := t) (i + 1)
    have hroot : (rt.set r (some ⟨false, 1, rows true (mkT k t i)⟩))[r]? = some (some ⟨false, 1, rows true (mkT k t i)⟩) := hrt _
    have hgb : getB (rows true (mkT k t i)) [place 1 0 (i : Int).toNat] = some (ints (t.getD i [])) := by
      rw [show place 1 0 (i : Int).toNat = i by simp [place1], getB_rows (by omega), mkT_getD k hi']
    have hub : updB (rows true (mkT k t i)) [place 1 0 (i : Int).toNat] (fun _ => ints (marks (k + totL (t.take i)) (t.getD i []).length)) = rows true (mkT k t (i + 1)) := by
      rw [show place 1 0 (i : Int).toNat = i by simp [place1], updB_rows _ (by omega) _ _ rfl, mkT_set k hi']
    rw [show cnt 1 (ints ((mkT k t i).getD i [])) = (t.getD i []).length by rw [mkT_getD k hi']; simp [cnt1]]
    refine Or.inl (Or.inr (inl_mark _ _ r [place 1 0 (i : Int).toNat] 1 _ (t.getD i []) (k + totL (t.take i)) _ hroot hgb (by omega) ?_))
    rw [hub, List.set_set]
    conv => whnf
    repeat' first
      | (refine forceR_to (l' := rt.set r (some ⟨false, 1, rows true (mkT k t (i + 1))⟩)) (by first | (simp [nextSt, wrL]; done) | fail) ?_; conv => whnf)
      | (rw [forceN_eq]; conv => whnf)
      | (refine And.intro vOb ?_; conv => whnf)
      | fail
    refine Exists.intro (i + 1) (And.intro (by omega) (And.intro (by omega) ?_))
    refine Weak.env ?_
    conv => whnf
    repeat' first
      | exact trivial
      | (refine And.intro (Or.inl rfl) ?_; conv => whnf)
      | (refine And.intro (Or.inr rfl) ?_; conv => whnf)
      | (refine And.intro (Or.inr (congrArg dint (by omega))) ?_; conv => whnf)
  · have e : i = t.length := by omega
    subst e
    rw [mkT_full, List.take_of_length_le (Nat.le_refl _)]
    exact hK
theorem inlMarkT {env : List D} {rt : List (Option Root)} {r n : Nat} {t : List (List Int)} {k : Int} {K : D → List (Option Root) → Prop} (hr : rt[r]? = some (some ⟨false, 1, rows true t⟩)) (hn : n = t.length)
    (hsz : t.length ≤ 1048576) (hk : 0 ≤ k ∧ k + totL t ≤ 4611686018427387904) (hK : K (dint (k + totL t)) (rt.set r (some ⟨false, 1, rows true (marksT k t)⟩))) :
    inlK Tryz.prog Tryz.tab (.fn (.func 15) [] []) [.ref r [] 1 0 n, dint k] ⟨env, rt⟩ K := by
  subst hn; exact inl_markT _ _ _ _ _ _ hr hsz hk hK
def lensOk (t : List (List Int)) : Prop := ∀ i, i < t.length → (t.getD i []).length ≤ 1048576
theorem eqT_of {t t' : List (List Int)} (h : t.length = t'.length) (h2 : ∀ j, j < t.length → t.getD j [] = t'.getD j []) : t = t' := by
  refine List.ext_getElem h (fun j k1 k2 => ?_)
  have := h2 j k1
  simpa [k1, k2] using this
theorem c_eqInt64SS (o o' p p' : Bool) (t t' : List (List Int)) (hl : t.length ≤ 1048576) (hr : lensOk t) : PureCall Tryz.prog 13 [.list o 1 (rows p t), .list o' 1 (rows p' t')] (dbool (decide (t = t'))) := by
  refine pure_of_vc Tryz.tabOk mixOrd Tryz.func13 rfl rfl ?_
  conv => whnf
  repeat' first | ((first | refine And.intro (Or.inl rfl) ?_ | (refine And.intro (fun h => ?_) (fun h => ?_) <;> (try simp only [cnt1, ints_length] at h)) | refine And.intro (show slotsOk _ = true by decide +kernel) ?_ | refine And.intro vOb ?_ | (apply Exists.intro; refine And.intro vObt ?_) | (apply Exists.intro; refine And.intro vObx ?_) | refine And.intro vArT ?_ | refine Or.inl ?_) <;> conv => whnf) | fail
  · refine dbool_congr ?_
    rw [eq_comm, decide_eq_false_iff_not]
    intro e; subst e; simp_all
  · have hlen : t.length = t'.length := by simp only [rows_length] at *; omega
    refine loop_at Tryz.tabOk mixOrd (α := Nat) (fun i => [(5, dint i)]) (fun i => []) (fun i => i ≤ t.length ∧ ∀ j, j < i → t.getD j [] = t'.getD j []) (fun i => t.length - i) (0) ?_ ?_ ?_
    · exact ⟨by omega, by omega⟩
    · conv => whnf
      first | refine WeakS.auto ?_ | refine Weak.auto ?_
      conv => whnf
      repeat' ((first | exact trivial | refine And.intro rfl ?_ | refine And.intro (eqV_int vAr) ?_ | refine And.intro vOb ?_ | refine And.intro vRepl ?_ | refine And.intro vReplL ?_ | refine And.intro ?_ ?_) <;> try (conv => whnf))
    intro i hi
    conv => whnf
    repeat' first | ((first | refine And.intro (Or.inl rfl) ?_ | (apply Exists.intro; refine And.intro (c_eqInt64S _ _ _ _ (hr i vAr)) ?_) | (refine And.intro (fun h => ?_) (fun h => ?_) <;> (try simp only [cnt1, ints_length] at h)) | refine And.intro (show slotsOk _ = true by decide +kernel) ?_ | refine And.intro vOb ?_ | (apply Exists.intro; refine And.intro vObt ?_) | (apply Exists.intro; refine And.intro vObx ?_) | refine And.intro vArT ?_ | refine Or.inl ?_) <;> conv => whnf) | fail
    · refine Exists.intro (i + 1) (And.intro ⟨vAr, lt_cases hi.2 (of_decide_eq_true (by assumption))⟩ (And.intro vAr ?_))
      first | refine WeakS.auto ?_ | refine Weak.auto ?_
      conv => whnf
      repeat' ((first | exact trivial | refine And.intro rfl ?_ | refine And.intro (eqV_int vAr) ?_ | refine And.intro vOb ?_ | refine And.intro vRepl ?_ | refine And.intro vReplL ?_ | refine And.intro ?_ ?_) <;> try (conv => whnf))
    · refine dbool_congr ?_
      rw [eq_comm, decide_eq_false_iff_not]
      intro e; subst e
      have := of_decide_eq_false (by assumption)
      exact this rfl
    · refine dbool_congr ?_
      rw [eq_comm, decide_eq_true_iff]
      exact eqT_of hlen (fun j hj => hi.2 j vAr)
theorem c_heldInt64SS (o p : Bool) (k : Int) (t : List (List Int)) (hl : t.length ≤ 1048576) (hk : 0 ≤ k ∧ k + totL t ≤ 4611686018427387904) : PureCall Tryz.prog 16 [.list o 1 (rows p (marksT k t)), dint k] (dint (k + totL t)) := by
  refine pure_of_vc Tryz.tabOk mixOrd Tryz.func16 rfl rfl ?_
  conv => whnf
  refine loop_at Tryz.tabOk mixOrd (α := Nat) (fun i => [(1, dint (k + totL (t.take i))), (5, dint i)]) (fun i => []) (fun i => i ≤ t.length) (fun i => t.length - i) (0) ?_ ?_ ?_
  · omega
  · conv => whnf
    first | refine WeakS.auto ?_ | refine Weak.auto ?_
    conv => whnf
    repeat' ((first | exact trivial | refine And.intro rfl ?_ | refine And.intro (eqV_int vAr) ?_ | refine And.intro vOb ?_ | refine And.intro vRepl ?_ | refine And.intro vReplL ?_ | refine And.intro ?_ ?_) <;> try (conv => whnf))
    all_goals simp [totL]
  intro i hi
  conv => whnf
  have htot := totL_le (t := t) i
  have htot2 := totL_le (t := t) (i + 1)
  have hts : i < t.length → totL (t.take (i + 1)) = totL (t.take i) + (t.getD i []).length := fun h => totL_take_succ h
  have hlen : (marksT k t).length = t.length := marksT_length k t
  simp only [cnt1, rows_length, hlen]
  refine And.intro (fun h => ?_) (fun h => ?_) <;> conv => whnf
  · have hts2 := hts (by omega)
    have hmr : (marksT k t).getD i [] = marks (k + totL (t.take i)) (t.getD i []).length := marksT_getD (by omega)
    repeat' first | ((first | refine And.intro (Or.inl rfl) ?_ | (refine And.intro (fun h => ?_) (fun h => ?_) <;> (try simp only [cnt1, ints_length] at h)) | refine And.intro (show slotsOk _ = true by decide +kernel) ?_ | refine And.intro vOb ?_ | (apply Exists.intro; refine And.intro vObt ?_) | (apply Exists.intro; refine And.intro vObx ?_) | refine And.intro vArT ?_ | refine Or.inl ?_) <;> conv => whnf) | fail
    rw [hmr]
    repeat' first | ((first | refine And.intro (Or.inl rfl) ?_ | (apply Exists.intro; refine And.intro (c_heldInt64S _ _ _ (by omega)) ?_) | (refine And.intro (fun h => ?_) (fun h => ?_) <;> (try simp only [cnt1, ints_length] at h)) | refine And.intro (show slotsOk _ = true by decide +kernel) ?_ | refine And.intro vOb ?_ | (apply Exists.intro; refine And.intro vObt ?_) | (apply Exists.intro; refine And.intro vObx ?_) | refine And.intro vArT ?_ | refine Or.inl ?_) <;> conv => whnf) | fail
    · exfalso; omega
    · refine Exists.intro (i + 1) (And.intro vAr (And.intro vAr ?_))
      first | refine WeakS.auto ?_ | refine Weak.auto ?_
      conv => whnf
      repeat' ((first | exact trivial | refine And.intro rfl ?_ | refine And.intro (eqV_int vAr) ?_ | refine And.intro vOb ?_ | refine And.intro vRepl ?_ | refine And.intro vReplL ?_ | refine And.intro ?_ ?_) <;> try (conv => whnf))
  · repeat' first | ((first | refine And.intro (Or.inl rfl) ?_ | (refine And.intro (fun h => ?_) (fun h => ?_) <;> (try simp only [cnt1, ints_length] at h)) | refine And.intro (show slotsOk _ = true by decide +kernel) ?_ | refine And.intro vOb ?_ | (apply Exists.intro; refine And.intro vObt ?_) | (apply Exists.intro; refine And.intro vObx ?_) | refine And.intro vArT ?_ | refine Or.inl ?_) <;> conv => whnf) | fail
    exact congrArg dint (by rw [List.take_of_length_le (by omega)])
theorem c_eqPlane (o o' p p' : Bool) (m m' : Int) (t t' : List (List Int)) (hl : t.length ≤ 1048576) (hr : lensOk t) : PureCall Tryz.prog 10 [.agg [dint m, .list o 1 (rows p t)], .agg [dint m', .list o' 1 (rows p' t')]] (dbool (decide (m = m') && decide (t = t'))) := by
  refine pure_of_vc Tryz.tabOk mixOrd Tryz.func10 rfl rfl ?_
  conv => whnf
  repeat' first | ((first | refine And.intro (Or.inl rfl) ?_ | (apply Exists.intro; refine And.intro (c_eqInt64SS _ _ _ _ t t' hl hr) ?_) | (refine And.intro (fun h => ?_) (fun h => ?_) <;> (try simp only [cnt1, ints_length] at h)) | refine And.intro (show slotsOk _ = true by decide +kernel) ?_ | refine And.intro vOb ?_ | (apply Exists.intro; refine And.intro vObt ?_) | (apply Exists.intro; refine And.intro vObx ?_) | refine And.intro vArT ?_ | refine Or.inl ?_) <;> conv => whnf) | fail
  all_goals (refine dbool_congr ?_; first | rfl | (simp_all []; done) | (simp_all []; omega) | (simp_all []; intros; omega))
theorem c_markNilT (k : Int) (hk : 0 ≤ k ∧ k ≤ 4611686018427387904) : PureCall Tryz.prog 15 [.lit (.slice none 0 0), dint k] (dint k) := by
  refine pure_of_vc Tryz.tabOk mixOrd Tryz.func15 rfl rfl ?_
  conv => whnf
  refine loop_at Tryz.tabOk mixOrd (α := Nat) (fun i => [(1, dint k), (5, dint 0)]) (fun i => []) (fun i => True) (fun i => 0) (0) ?_ ?_ ?_
  · trivial
  · conv => whnf
    first | refine WeakS.auto ?_ | refine Weak.auto ?_
    conv => whnf
    repeat' ((first | exact trivial | refine And.intro rfl ?_ | refine And.intro (eqV_int vAr) ?_ | refine And.intro vOb ?_ | refine And.intro vRepl ?_ | refine And.intro vReplL ?_ | refine And.intro ?_ ?_) <;> try (conv => whnf))
  intro i hi
  conv => whnf
  repeat' first | ((first | refine And.intro (Or.inl rfl) ?_ | (refine And.intro (fun h => ?_) (fun h => ?_) <;> (try simp only [cnt1, ints_length] at h)) | refine And.intro (show slotsOk _ = true by decide +kernel) ?_ | refine And.intro vOb ?_ | (apply Exists.intro; refine And.intro vObt ?_) | (apply Exists.intro; refine And.intro vObx ?_) | refine And.intro vArT ?_ | refine Or.inl ?_) <;> conv => whnf) | fail
  all_goals first | rfl | (exfalso; omega)
theorem vArS {p : Prop} (h : p := by simp only [cnt1, ints_length, rows_length, marksT_length, marks_length, Tb_length, L_length, Nat.zero_add, Nat.mul_one]; first | done | omega) : p := h
theorem lensOk_Tb {m : Int} {n : Nat} (hn : n ≤ 1000) (f : PS (PS (Zm m))) : lensOk (Tb n f) := fun i hi => by
  have hi' : i < n := by simpa using hi
  rw [Tb_getD f hi']; simp; omega
end Go.Proofs

