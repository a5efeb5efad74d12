/- Witt vectors: what is one; desks: the law of IsDesk. -/
-- tables
-- rec
import Derived.Test.YtnonhialafcjmaaK30
namespace Go.Proofs
open Go Go.Vm Go.Fg Go.Fg.PS
set_option maxRecDepth 100000
set_option maxHeartbeats 4000000
set_option linter.unusedSimpArgs false
set_option linter.unusedVariables false
def primB (p : Int) : Bool := decide (p = 2) || (decide (p = 3) || (decide (p = 5) || decide (p = 7)))
def wittB (p m : Int) (l : List Int) : Bool := primB p && (inB m 2 10000 && (inB l.length 1 4 && numsB m l))
theorem c_isTypicalPrime (p : Int) : PureCall Try.prog 183 [dint p] (dbool (primB p)) := by
  refine pure_of_vcR Try.tabOk mixOrd Try.func183 rfl rfl ?_
  conv => whnf
  repeat' first
    | (refine And.intro (Or.inl rfl) ?_; conv => whnf)
    | (refine And.intro (fun h => ?_) (fun h => ?_) <;> (try simp only [cnt1, ints_length] at h) <;> conv => whnf)
    | (refine And.intro (show slotsOk _ = true by decide +kernel) ?_; conv => whnf)
    | (refine And.intro vOb ?_; conv => whnf)
    | (apply Exists.intro; refine And.intro vObt ?_; conv => whnf)
    | (apply Exists.intro; refine And.intro vObx ?_; conv => whnf)
    | (refine And.intro vArT ?_; conv => whnf)
    | (refine Or.inl ?_; conv => whnf)
    | fail
  all_goals (refine dbool_congr ?_; first | rfl | (simp_all [primB]; done) | (simp_all [primB]; omega) | (simp_all [primB]; intros; omega))
theorem c_l13Kind (p m n : Int) : PureCall Try.prog 137 [dint p, dint m, dint n] (dbool (primB p && (inB m 2 10000 && inB n 1 4))) := by
  refine pure_of_vcR Try.tabOk mixOrd Try.func137 rfl rfl ?_
  conv => whnf
  repeat' first
    | (refine And.intro (Or.inl rfl) ?_; conv => whnf)
    | (refine Or.inl (Or.inl (Exists.intro _ (And.intro (c_l01In _ _ _) ?_))); conv => whnf)
    | (refine Or.inl (Exists.intro _ (And.intro (c_l01In _ _ _) ?_)); conv => whnf)
    | (apply Exists.intro; refine And.intro (c_l01In _ _ _) ?_; conv => whnf)
    | (refine And.intro (fun h => ?_) (fun h => ?_) <;> (try simp only [cnt1, ints_length] at h) <;> conv => whnf)
    | (refine And.intro (show slotsOk _ = true by decide +kernel) ?_; conv => whnf)
    | (refine And.intro vOb ?_; conv => whnf)
    | (apply Exists.intro; refine And.intro vObt ?_; conv => whnf)
    | (apply Exists.intro; refine And.intro vObx ?_; conv => whnf)
    | (refine And.intro vArT ?_; conv => whnf)
    | (refine Or.inl ?_; conv => whnf)
    | fail
  all_goals (refine dbool_congr ?_; first | rfl | (simp_all [primB]; done) | (simp_all [primB]; omega) | (simp_all [primB]; intros; omega))
theorem c_isShape (p m n : Int) : PureCall Try.prog 140 [dint p, dint m, dint n] (dbool (primB p && (inB m 2 10000 && inB n 1 4))) := by
  refine pure_of_vcR Try.tabOk mixOrd Try.func140 rfl rfl ?_
  conv => whnf
  repeat' first
    | (refine And.intro (Or.inl rfl) ?_; conv => whnf)
    | (refine Or.inl (Or.inl (Exists.intro _ (And.intro (c_isTypicalPrime _) ?_))); conv => whnf)
    | (refine Or.inl (Exists.intro _ (And.intro (c_isTypicalPrime _) ?_)); conv => whnf)
    | (apply Exists.intro; refine And.intro (c_isTypicalPrime _) ?_; conv => whnf)
    | (refine Or.inl (Or.inl (Exists.intro _ (And.intro (c_IsModulus _) ?_))); conv => whnf)
    | (refine Or.inl (Exists.intro _ (And.intro (c_IsModulus _) ?_)); conv => whnf)
    | (apply Exists.intro; refine And.intro (c_IsModulus _) ?_; conv => whnf)
    | (refine Or.inl (Or.inl (Exists.intro _ (And.intro (c_impl_in _ _ _) ?_))); conv => whnf)
    | (refine Or.inl (Exists.intro _ (And.intro (c_impl_in _ _ _) ?_)); conv => whnf)
    | (apply Exists.intro; refine And.intro (c_impl_in _ _ _) ?_; conv => whnf)
    | (refine And.intro (fun h => ?_) (fun h => ?_) <;> (try simp only [cnt1, ints_length] at h) <;> conv => whnf)
    | (refine And.intro (show slotsOk _ = true by decide +kernel) ?_; conv => whnf)
    | (refine And.intro vOb ?_; conv => whnf)
    | (apply Exists.intro; refine And.intro vObt ?_; conv => whnf)
    | (apply Exists.intro; refine And.intro vObx ?_; conv => whnf)
    | (refine And.intro vArT ?_; conv => whnf)
    | (refine Or.inl ?_; conv => whnf)
    | fail
  all_goals (refine dbool_congr ?_; first | rfl | (simp_all []; done) | (simp_all []; omega) | (simp_all []; intros; omega))
theorem c_IsWitt1 (a m : Int) (d d' : D) (h1 : inR .i64 (m - 1)) : PureCall Try.prog 141 [dint a, .cptr [d', dint m, d] 0] (dbool (inB a 0 (m - 1))) := by
  refine pure_of_vcR Try.tabOk mixOrd Try.func141 rfl rfl ?_
  conv => whnf
  repeat' first
    | (refine And.intro (Or.inl rfl) ?_; conv => whnf)
    | (refine Or.inl (Or.inl (Exists.intro _ (And.intro (c_isNumber _ _ h1) ?_))); conv => whnf)
    | (refine Or.inl (Exists.intro _ (And.intro (c_isNumber _ _ h1) ?_)); conv => whnf)
    | (apply Exists.intro; refine And.intro (c_isNumber _ _ h1) ?_; conv => whnf)
    | (refine And.intro (fun h => ?_) (fun h => ?_) <;> (try simp only [cnt1, ints_length] at h) <;> conv => whnf)
    | (refine And.intro (show slotsOk _ = true by decide +kernel) ?_; conv => whnf)
    | (refine And.intro vOb ?_; conv => whnf)
    | (apply Exists.intro; refine And.intro vObt ?_; conv => whnf)
    | (apply Exists.intro; refine And.intro vObx ?_; conv => whnf)
    | (refine And.intro vArT ?_; conv => whnf)
    | (refine Or.inl ?_; conv => whnf)
    | fail
  all_goals (refine dbool_congr ?_; first | rfl | (simp_all []; done) | (simp_all []; omega) | (simp_all []; intros; omega))
theorem witt_and {p m : Int} {n : Nat} (h : (primB p && (inB m 2 10000 && inB n 1 4)) = true) : primB p = true ∧ inB m 2 10000 = true ∧ inB n 1 4 = true := by simpa [Bool.and_eq_true] using h
theorem witt_no {p m : Int} {l : List Int} (h : (primB p && (inB m 2 10000 && inB l.length 1 4)) = false) : wittB p m l = false := by
  cases e : wittB p m l with
  | false => rfl
  | true =>
    simp only [wittB, Bool.and_eq_true] at e
    rw [e.1, e.2.1, e.2.2.1] at h
    cases h
theorem witt_yes {p m : Int} {l : List Int} (h : (primB p && (inB m 2 10000 && inB l.length 1 4)) = true) : wittB p m l = numsB m l := by
  obtain ⟨h1, h2, h3⟩ := witt_and h
  simp [wittB, h1, h2, h3]
theorem c_IsWitt (o : Bool) (p m : Int) (l : List Int) (hl : l.length ≤ 1048576) : PureCall Try.prog 82 [.agg [dint p, dint m, .list o 1 (ints l)]] (dbool (wittB p m l)) := by
  by_cases hm : inB m 2 10000 = true
  · refine pure_of_vcR Try.tabOk mixOrd Try.func82 rfl rfl ?_
    conv => whnf
    repeat' first
      | (refine And.intro (Or.inl rfl) ?_; conv => whnf)
      | (refine Or.inl (Or.inl (Exists.intro _ (And.intro (c_isShape _ _ _) ?_))); conv => whnf)
      | (refine Or.inl (Exists.intro _ (And.intro (c_isShape _ _ _) ?_)); conv => whnf)
      | (apply Exists.intro; refine And.intro (c_isShape _ _ _) ?_; conv => whnf)
      | (refine Or.inl (Or.inl (Exists.intro _ (And.intro (c_allA 141 [dint p, dint m, .list o 1 (ints l)] (fun a => inB a 0 (m - 1)) (fun a => c_IsWitt1 a m _ _ (h1of hm)) _ l hl) ?_))); conv => whnf)
      | (refine Or.inl (Exists.intro _ (And.intro (c_allA 141 [dint p, dint m, .list o 1 (ints l)] (fun a => inB a 0 (m - 1)) (fun a => c_IsWitt1 a m _ _ (h1of hm)) _ l hl) ?_)); conv => whnf)
      | (apply Exists.intro; refine And.intro (c_allA 141 [dint p, dint m, .list o 1 (ints l)] (fun a => inB a 0 (m - 1)) (fun a => c_IsWitt1 a m _ _ (h1of hm)) _ l hl) ?_; conv => whnf)
      | (refine And.intro (fun h => ?_) (fun h => ?_) <;> (try simp only [cnt1, ints_length] at h) <;> conv => whnf)
      | (refine And.intro (show slotsOk _ = true by decide +kernel) ?_; conv => whnf)
      | (refine And.intro vOb ?_; conv => whnf)
      | (apply Exists.intro; refine And.intro vObt ?_; conv => whnf)
      | (apply Exists.intro; refine And.intro vObx ?_; conv => whnf)
      | (refine And.intro vArT ?_; conv => whnf)
      | (refine Or.inl ?_; conv => whnf)
      | fail
    · refine dbool_congr ?_
      rw [witt_yes (by assumption)]; exact h.symm
    · refine dbool_congr ?_
      rw [witt_yes (by assumption)]; exact h.symm
    · exact dbool_congr (witt_no h).symm
  · refine pure_of_vcR Try.tabOk mixOrd Try.func82 rfl rfl ?_
    conv => whnf
    repeat' first
      | (refine And.intro (Or.inl rfl) ?_; conv => whnf)
      | (refine Or.inl (Or.inl (Exists.intro _ (And.intro (c_isShape _ _ _) ?_))); conv => whnf)
      | (refine Or.inl (Exists.intro _ (And.intro (c_isShape _ _ _) ?_)); conv => whnf)
      | (apply Exists.intro; refine And.intro (c_isShape _ _ _) ?_; conv => whnf)
      | (refine And.intro (fun h => ?_) (fun h => ?_) <;> (try simp only [cnt1, ints_length] at h) <;> conv => whnf)
      | (refine And.intro (show slotsOk _ = true by decide +kernel) ?_; conv => whnf)
      | (refine And.intro vOb ?_; conv => whnf)
      | (apply Exists.intro; refine And.intro vObt ?_; conv => whnf)
      | (apply Exists.intro; refine And.intro vObx ?_; conv => whnf)
      | (refine And.intro vArT ?_; conv => whnf)
      | (refine Or.inl ?_; conv => whnf)
      | fail
    · exact absurd (witt_and h).2.1 hm
    · exact dbool_congr (witt_no h).symm
theorem c_l13Is (o : Bool) (p m : Int) (l : List Int) (hl : l.length ≤ 1048576) : PureCall Try.prog 78 [.agg [dint p, dint m, .list o 1 (ints l)]] (dbool (wittB p m l)) := by
  refine pure_of_vcR Try.tabOk mixOrd Try.func78 rfl rfl ?_
  conv => whnf
  repeat' first
    | (refine And.intro (Or.inl rfl) ?_; conv => whnf)
    | (refine Or.inl (Or.inl (Exists.intro _ (And.intro (c_l13Kind _ _ _) ?_))); conv => whnf)
    | (refine Or.inl (Exists.intro _ (And.intro (c_l13Kind _ _ _) ?_)); conv => whnf)
    | (apply Exists.intro; refine And.intro (c_l13Kind _ _ _) ?_; conv => whnf)
    | (refine And.intro (fun h => ?_) (fun h => ?_) <;> (try simp only [cnt1, ints_length] at h) <;> conv => whnf)
    | (refine And.intro (show slotsOk _ = true by decide +kernel) ?_; conv => whnf)
    | (refine And.intro vOb ?_; conv => whnf)
    | (apply Exists.intro; refine And.intro vObt ?_; conv => whnf)
    | (apply Exists.intro; refine And.intro vObx ?_; conv => whnf)
    | (refine And.intro vArT ?_; conv => whnf)
    | (refine Or.inl ?_; conv => whnf)
    | fail
  · have hw := witt_yes h
    have hm2 := (witt_and h).2.1
    have hm3 := hm2
    simp only [inB, decide_eq_true_eq] at hm3
    refine loop_atR Try.tabOk mixOrd (α := Nat) (fun i => [(3, dint i)]) (fun i => []) (fun i => i ≤ l.length ∧ ∀ j, j < i → inB (l.getD j 0) 0 (m - 1) = true) (fun i => l.length - i) (0) ?_ ?_ ?_
    · exact ⟨by omega, by omega⟩
    · conv => whnf
      first | refine WeakS.auto ?_ | refine Weak.auto ?_
      conv => whnf
      repeat' first
        | exact trivial
        | (refine And.intro rfl ?_; conv => whnf)
        | (refine And.intro (eqV_int vAr) ?_; conv => whnf)
        | (refine And.intro vOb ?_; conv => whnf)
        | (refine And.intro vRepl ?_; conv => whnf)
        | (refine And.intro vReplL ?_; conv => whnf)
        | (refine And.intro ?_ ?_ <;> try (conv => whnf))
    intro i hi
    conv => whnf
    repeat' first
      | (refine And.intro (Or.inl rfl) ?_; conv => whnf)
      | (refine Or.inl (Or.inl (Exists.intro _ (And.intro (c_l01In _ _ _) ?_))); conv => whnf)
      | (refine Or.inl (Exists.intro _ (And.intro (c_l01In _ _ _) ?_)); conv => whnf)
      | (apply Exists.intro; refine And.intro (c_l01In _ _ _) ?_; conv => whnf)
      | (refine And.intro (fun h => ?_) (fun h => ?_) <;> (try simp only [cnt1, ints_length] at h) <;> conv => whnf)
      | (refine And.intro (show slotsOk _ = true by decide +kernel) ?_; conv => whnf)
      | (refine And.intro vOb ?_; conv => whnf)
      | (apply Exists.intro; refine And.intro vObt ?_; conv => whnf)
      | (apply Exists.intro; refine And.intro vObx ?_; conv => whnf)
      | (refine And.intro vArT ?_; conv => whnf)
      | (refine Or.inl ?_; conv => whnf)
      | fail
    · refine Exists.intro (i + 1) (And.intro ⟨by omega, lt_cases hi.2 (by assumption)⟩ (And.intro (by omega) ?_))
      first | refine WeakS.auto ?_ | refine Weak.auto ?_
      conv => whnf
      repeat' first
        | exact trivial
        | (refine And.intro rfl ?_; conv => whnf)
        | (refine And.intro (eqV_int vAr) ?_; conv => whnf)
        | (refine And.intro vOb ?_; conv => whnf)
        | (refine And.intro vRepl ?_; conv => whnf)
        | (refine And.intro vReplL ?_; conv => whnf)
        | (refine And.intro ?_ ?_ <;> try (conv => whnf))
    · exact dbool_congr (by rw [hw]; exact (numsB_not (i := i) (by omega) (by assumption)).symm)
    · exact dbool_congr (by rw [hw]; exact (numsB_of (fun j hj => hi.2 j (by omega))).symm)
  · exact dbool_congr (witt_no h).symm
abbrev DskD (o p o1 o2 : Bool) (m m1 p2 m2 : Int) (t : List (List Int)) (l l2 : List Int) : D := .agg [dint m, .list o 1 (rows p t), dint m1, .list o1 1 (ints l), dint p2, dint m2, .list o2 1 (ints l2)]
noncomputable def deskB (m m1 p2 m2 : Int) (t : List (List Int)) (l l2 : List Int) : Bool := lawB m t && (serB m1 l && wittB p2 m2 l2)
theorem c_specIsDesk (o p o1 o2 : Bool) (m m1 p2 m2 : Int) (t : List (List Int)) (l l2 : List Int) (hl : t.length ≤ 1048576) (hr : lensOk t) (h1 : l.length ≤ 1048576) (h2 : l2.length ≤ 1048576) :
    PureCall Try.prog 22 [DskD o p o1 o2 m m1 p2 m2 t l l2] (dbool (deskB m m1 p2 m2 t l l2)) := by
  refine pure_of_vcR Try.tabOk mixOrd Try.func22 rfl rfl ?_
  conv => whnf
  repeat' first
    | (refine And.intro (Or.inl rfl) ?_; conv => whnf)
    | (refine Or.inl (Or.inl (Exists.intro _ (And.intro (c_l04Is _ _ _ _ hl hr) ?_))); conv => whnf)
    | (refine Or.inl (Exists.intro _ (And.intro (c_l04Is _ _ _ _ hl hr) ?_)); conv => whnf)
    | (apply Exists.intro; refine And.intro (c_l04Is _ _ _ _ hl hr) ?_; conv => whnf)
    | (refine Or.inl (Or.inl (Exists.intro _ (And.intro (c_l02Is _ _ _ h1) ?_))); conv => whnf)
    | (refine Or.inl (Exists.intro _ (And.intro (c_l02Is _ _ _ h1) ?_)); conv => whnf)
    | (apply Exists.intro; refine And.intro (c_l02Is _ _ _ h1) ?_; conv => whnf)
    | (refine Or.inl (Or.inl (Exists.intro _ (And.intro (c_l13Is _ _ _ _ h2) ?_))); conv => whnf)
    | (refine Or.inl (Exists.intro _ (And.intro (c_l13Is _ _ _ _ h2) ?_)); conv => whnf)
    | (apply Exists.intro; refine And.intro (c_l13Is _ _ _ _ h2) ?_; conv => whnf)
    | (refine And.intro (fun h => ?_) (fun h => ?_) <;> (try simp only [cnt1, ints_length] at h) <;> conv => whnf)
    | (refine And.intro (show slotsOk _ = true by decide +kernel) ?_; conv => whnf)
    | (refine And.intro vOb ?_; conv => whnf)
    | (apply Exists.intro; refine And.intro vObt ?_; conv => whnf)
    | (apply Exists.intro; refine And.intro vObx ?_; conv => whnf)
    | (refine And.intro vArT ?_; conv => whnf)
    | (refine Or.inl ?_; conv => whnf)
    | fail
  all_goals (refine dbool_congr ?_; first | rfl | (simp_all [deskB]; done) | (simp_all [deskB]; omega) | (simp_all [deskB]; intros; omega))
theorem c_implIsDesk (o p o1 o2 : Bool) (m m1 p2 m2 : Int) (t : List (List Int)) (l l2 : List Int) (hl : t.length ≤ 1048576) (hr : lensOk t) (h1 : l.length ≤ 1048576) (h2 : l2.length ≤ 1048576) :
    PureCall Try.prog 24 [DskD o p o1 o2 m m1 p2 m2 t l l2] (dbool (deskB m m1 p2 m2 t l l2)) := by
  refine pure_of_vcR Try.tabOk mixOrd Try.func24 rfl rfl ?_
  conv => whnf
  repeat' first
    | (refine And.intro (Or.inl rfl) ?_; conv => whnf)
    | (refine Or.inl (Or.inl (Exists.intro _ (And.intro (c_IsLaw _ _ _ _ hl hr) ?_))); conv => whnf)
    | (refine Or.inl (Exists.intro _ (And.intro (c_IsLaw _ _ _ _ hl hr) ?_)); conv => whnf)
    | (apply Exists.intro; refine And.intro (c_IsLaw _ _ _ _ hl hr) ?_; conv => whnf)
    | (refine Or.inl (Or.inl (Exists.intro _ (And.intro (c_IsSeries _ _ _ h1) ?_))); conv => whnf)
    | (refine Or.inl (Exists.intro _ (And.intro (c_IsSeries _ _ _ h1) ?_)); conv => whnf)
    | (apply Exists.intro; refine And.intro (c_IsSeries _ _ _ h1) ?_; conv => whnf)
    | (refine Or.inl (Or.inl (Exists.intro _ (And.intro (c_IsWitt _ _ _ _ h2) ?_))); conv => whnf)
    | (refine Or.inl (Exists.intro _ (And.intro (c_IsWitt _ _ _ _ h2) ?_)); conv => whnf)
    | (apply Exists.intro; refine And.intro (c_IsWitt _ _ _ _ h2) ?_; conv => whnf)
    | (refine And.intro (fun h => ?_) (fun h => ?_) <;> (try simp only [cnt1, ints_length] at h) <;> conv => whnf)
    | (refine And.intro (show slotsOk _ = true by decide +kernel) ?_; conv => whnf)
    | (refine And.intro vOb ?_; conv => whnf)
    | (apply Exists.intro; refine And.intro vObt ?_; conv => whnf)
    | (apply Exists.intro; refine And.intro vObx ?_; conv => whnf)
    | (refine And.intro vArT ?_; conv => whnf)
    | (refine Or.inl ?_; conv => whnf)
    | fail
  all_goals (refine dbool_congr ?_; first | rfl | (simp_all [deskB]; done) | (simp_all [deskB]; omega) | (simp_all [deskB]; intros; omega))
theorem c_toWitt (o : Bool) (p m : Int) (l : List Int) (hl : l.length ≤ 1048576) : PureCall Try.prog 79 [.agg [dint p, dint m, .list o 1 (ints l)]] (.agg [dint p, dint m, .list true 1 (ints l)]) := by
  refine pure_of_vcR Try.tabOk mixOrd Try.func79 rfl rfl ?_
  conv => whnf
  repeat' first
    | (refine And.intro (Or.inl rfl) ?_; conv => whnf)
    | (refine Or.inl (Or.inl (Exists.intro _ (And.intro (c_toInt64S _ _ hl) ?_))); conv => whnf)
    | (refine Or.inl (Exists.intro _ (And.intro (c_toInt64S _ _ hl) ?_)); conv => whnf)
    | (apply Exists.intro; refine And.intro (c_toInt64S _ _ hl) ?_; conv => whnf)
    | (refine And.intro (fun h => ?_) (fun h => ?_) <;> (try simp only [cnt1, ints_length] at h) <;> conv => whnf)
    | (refine And.intro (show slotsOk _ = true by decide +kernel) ?_; conv => whnf)
    | (refine And.intro vOb ?_; conv => whnf)
    | (apply Exists.intro; refine And.intro vObt ?_; conv => whnf)
    | (apply Exists.intro; refine And.intro vObx ?_; conv => whnf)
    | (refine And.intro vArT ?_; conv => whnf)
    | (refine Or.inl ?_; conv => whnf)
    | fail
theorem c_toDesk (o p o1 o2 : Bool) (m m1 p2 m2 : Int) (t : List (List Int)) (l l2 : List Int) (hl : t.length ≤ 1048576) (hr : lensOk t) (h1 : l.length ≤ 1048576) (h2 : l2.length ≤ 1048576) :
    PureCall Try.prog 23 [DskD o p o1 o2 m m1 p2 m2 t l l2] (DskD true true true true m m1 p2 m2 t l l2) := by
  refine pure_of_vcR Try.tabOk mixOrd Try.func23 rfl rfl ?_
  conv => whnf
  repeat' first
    | (refine And.intro (Or.inl rfl) ?_; conv => whnf)
    | (refine Or.inl (Or.inl (Exists.intro _ (And.intro (c_toPlane _ _ _ _ hl hr) ?_))); conv => whnf)
    | (refine Or.inl (Exists.intro _ (And.intro (c_toPlane _ _ _ _ hl hr) ?_)); conv => whnf)
    | (apply Exists.intro; refine And.intro (c_toPlane _ _ _ _ hl hr) ?_; conv => whnf)
    | (refine Or.inl (Or.inl (Exists.intro _ (And.intro (c_toSeries _ _ _ h1) ?_))); conv => whnf)
    | (refine Or.inl (Exists.intro _ (And.intro (c_toSeries _ _ _ h1) ?_)); conv => whnf)
    | (apply Exists.intro; refine And.intro (c_toSeries _ _ _ h1) ?_; conv => whnf)
    | (refine Or.inl (Or.inl (Exists.intro _ (And.intro (c_toWitt _ _ _ _ h2) ?_))); conv => whnf)
    | (refine Or.inl (Exists.intro _ (And.intro (c_toWitt _ _ _ _ h2) ?_)); conv => whnf)
    | (apply Exists.intro; refine And.intro (c_toWitt _ _ _ _ h2) ?_; conv => whnf)
    | (refine And.intro (fun h => ?_) (fun h => ?_) <;> (try simp only [cnt1, ints_length] at h) <;> conv => whnf)
    | (refine And.intro (show slotsOk _ = true by decide +kernel) ?_; conv => whnf)
    | (refine And.intro vOb ?_; conv => whnf)
    | (apply Exists.intro; refine And.intro vObt ?_; conv => whnf)
    | (apply Exists.intro; refine And.intro vObx ?_; conv => whnf)
    | (refine And.intro vArT ?_; conv => whnf)
    | (refine Or.inl ?_; conv => whnf)
    | fail
theorem c_eqWitt' (o o' : Bool) (p m p' m' : Int) (l l' : List Int) (hl : l.length ≤ 1048576) : PureCall Try.prog 83 [.agg [dint p, dint m, .list o 1 (ints l)], .agg [dint p', dint m', .list o' 1 (ints l')]] (dbool (decide (p = p') && (decide (m = m') && decide (l = l')))) := by
  refine pure_of_vcR Try.tabOk mixOrd Try.func83 rfl rfl ?_
  conv => whnf
  repeat' first
    | (refine And.intro (Or.inl rfl) ?_; conv => whnf)
    | (refine Or.inl (Or.inl (Exists.intro _ (And.intro (c_eqInt64S _ _ l l' hl) ?_))); conv => whnf)
    | (refine Or.inl (Exists.intro _ (And.intro (c_eqInt64S _ _ l l' hl) ?_)); conv => whnf)
    | (apply Exists.intro; refine And.intro (c_eqInt64S _ _ l l' hl) ?_; conv => whnf)
    | (refine And.intro (fun h => ?_) (fun h => ?_) <;> (try simp only [cnt1, ints_length] at h) <;> conv => whnf)
    | (refine And.intro (show slotsOk _ = true by decide +kernel) ?_; conv => whnf)
    | (refine And.intro vOb ?_; conv => whnf)
    | (apply Exists.intro; refine And.intro vObt ?_; conv => whnf)
    | (apply Exists.intro; refine And.intro vObx ?_; conv => whnf)
    | (refine And.intro vArT ?_; conv => whnf)
    | (refine Or.inl ?_; conv => whnf)
    | fail
  all_goals (refine dbool_congr ?_; first | rfl | (simp_all []; done) | (simp_all []; omega) | (simp_all []; intros; omega))
theorem c_eqDesk' (o p o1 o2 o' p' o1' o2' : Bool) (m m1 p2 m2 m' m1' p2' m2' : Int) (t t' : List (List Int)) (l l2 l' l2' : List Int) (h1 : t.length ≤ 1048576) (h2 : lensOk t) (h3 : l.length ≤ 1048576) (h4 : l2.length ≤ 1048576) :
    PureCall Try.prog 25 [DskD o p o1 o2 m m1 p2 m2 t l l2, DskD o' p' o1' o2' m' m1' p2' m2' t' l' l2'] (dbool ((decide (m = m') && decide (t = t')) && ((decide (m1 = m1') && decide (l = l')) && (decide (p2 = p2') && (decide (m2 = m2') && decide (l2 = l2')))))) := by
  refine pure_of_vcR Try.tabOk mixOrd Try.func25 rfl rfl ?_
  conv => whnf
  repeat' first
    | (refine And.intro (Or.inl rfl) ?_; conv => whnf)
    | (refine Or.inl (Or.inl (Exists.intro _ (And.intro (c_eqPlane _ _ _ _ _ _ _ _ h1 h2) ?_))); conv => whnf)
    | (refine Or.inl (Exists.intro _ (And.intro (c_eqPlane _ _ _ _ _ _ _ _ h1 h2) ?_)); conv => whnf)
    | (apply Exists.intro; refine And.intro (c_eqPlane _ _ _ _ _ _ _ _ h1 h2) ?_; conv => whnf)
    | (refine Or.inl (Or.inl (Exists.intro _ (And.intro (c_eqSeries _ _ _ _ _ _ h3) ?_))); conv => whnf)
    | (refine Or.inl (Exists.intro _ (And.intro (c_eqSeries _ _ _ _ _ _ h3) ?_)); conv => whnf)
    | (apply Exists.intro; refine And.intro (c_eqSeries _ _ _ _ _ _ h3) ?_; conv => whnf)
    | (refine Or.inl (Or.inl (Exists.intro _ (And.intro (c_eqWitt' _ _ _ _ _ _ _ _ h4) ?_))); conv => whnf)
    | (refine Or.inl (Exists.intro _ (And.intro (c_eqWitt' _ _ _ _ _ _ _ _ h4) ?_)); conv => whnf)
    | (apply Exists.intro; refine And.intro (c_eqWitt' _ _ _ _ _ _ _ _ h4) ?_; conv => whnf)
    | (refine And.intro (fun h => ?_) (fun h => ?_) <;> (try simp only [cnt1, ints_length] at h) <;> conv => whnf)
    | (refine And.intro (show slotsOk _ = true by decide +kernel) ?_; conv => whnf)
    | (refine And.intro vOb ?_; conv => whnf)
    | (apply Exists.intro; refine And.intro vObt ?_; conv => whnf)
    | (apply Exists.intro; refine And.intro vObx ?_; conv => whnf)
    | (refine And.intro vArT ?_; conv => whnf)
    | (refine Or.inl ?_; conv => whnf)
    | fail
  all_goals (refine dbool_congr ?_; first | rfl | (simp_all []; done) | (simp_all []; omega) | (simp_all []; intros; omega))
theorem szT_le {n : Int} {t : List (List Int)} (hn : 0 ≤ n) : szT n t ≤ n := by
  unfold szT; split <;> omega
theorem c_FnExactIsDesk (m : Int) (t : List (List Int)) (m1 : Int) (l : List Int) (p2 m2 : Int) (l2 : List Int) (g : (∀ k, k < t.length → (t.getD k []).length ≤ 9223372036854775807) ∧ t.length ≤ 9223372036854775807)
    (_ : -9223372036854775808 ≤ m ∧ m ≤ 9223372036854775807) (_ : -9223372036854775808 ≤ m1 ∧ m1 ≤ 9223372036854775807) (_ : -9223372036854775808 ≤ p2 ∧ p2 ≤ 9223372036854775807) (_ : -9223372036854775808 ≤ m2 ∧ m2 ≤ 9223372036854775807)
    (g1 : l.length ≤ 9223372036854775807) (g2 : l2.length ≤ 9223372036854775807) : PureCall Try.prog 5 [DskD false false false false m m1 p2 m2 t l l2] (dbool true) := by
  have hT := szT_le (n := 1048576) (t := t) (by omega)
  refine pure_of_vcR Try.tabOk mixOrd Try.func5 rfl rfl ?_
  conv => whnf
  repeat' first
    | (refine And.intro (Or.inl rfl) ?_; conv => whnf)
    | (refine Or.inr (inl_ofR Try.tabOk mixOrd _ Try.func21 rfl rfl ?_); conv => whnf)
    | (refine Or.inl (Or.inl (Exists.intro _ (And.intro (c_szPlane _ _ _ t _ (by omega) g.2 g.1) ?_))); conv => whnf)
    | (refine Or.inl (Exists.intro _ (And.intro (c_szPlane _ _ _ t _ (by omega) g.2 g.1) ?_)); conv => whnf)
    | (apply Exists.intro; refine And.intro (c_szPlane _ _ _ t _ (by omega) g.2 g.1) ?_; conv => whnf)
    | (refine Or.inl (Or.inl (Exists.intro _ (And.intro (c_szSeries _ _ l _ (by omega) g1) ?_))); conv => whnf)
    | (refine Or.inl (Exists.intro _ (And.intro (c_szSeries _ _ l _ (by omega) g1) ?_)); conv => whnf)
    | (apply Exists.intro; refine And.intro (c_szSeries _ _ l _ (by omega) g1) ?_; conv => whnf)
    | (refine Or.inr (inl_ofR Try.tabOk mixOrd _ Try.func75 rfl rfl ?_); conv => whnf)
    | (refine Or.inl (Or.inl (Exists.intro _ (And.intro (c_szInt64S _ l2 _ (by split at * <;> omega) g2) ?_))); conv => whnf)
    | (refine Or.inl (Exists.intro _ (And.intro (c_szInt64S _ l2 _ (by split at * <;> omega) g2) ?_)); conv => whnf)
    | (apply Exists.intro; refine And.intro (c_szInt64S _ l2 _ (by split at * <;> omega) g2) ?_; conv => whnf)
    | (refine And.intro (fun h => ?_) (fun h => ?_) <;> (try simp only [cnt1, ints_length] at h) <;> first | (exfalso; omega) | (conv => whnf))
    | (refine And.intro (show slotsOk _ = true by decide +kernel) ?_; conv => whnf)
    | (refine And.intro vOb ?_; conv => whnf)
    | (apply Exists.intro; refine And.intro vObt ?_; conv => whnf)
    | (apply Exists.intro; refine And.intro vObx ?_; conv => whnf)
    | (refine And.intro vArT ?_; conv => whnf)
    | (refine Or.inl ?_; conv => whnf)
    | fail
  have hA : ¬ szT 1048576 t < 0 := by assumption
  obtain ⟨hl, hr⟩ := szT_ok (by omega) hA
  have hB : ¬ (if szT 1048576 t - (l.length : Int) < 0 then -1 else szT 1048576 t - (l.length : Int)) < 0 := by assumption
  have hBle : (if szT 1048576 t - (l.length : Int) < 0 then -1 else szT 1048576 t - (l.length : Int)) ≤ 1048576 := by split <;> omega
  have h1 : l.length ≤ 1048576 := by split at hB <;> omega
  generalize (if szT 1048576 t - (l.length : Int) < 0 then -1 else szT 1048576 t - (l.length : Int)) = A at *
  have h2 : l2.length ≤ 1048576 := by split at h <;> omega
  repeat' first
    | (refine And.intro (Or.inl rfl) ?_; conv => whnf)
    | (refine Or.inl (Or.inl (Exists.intro _ (And.intro (c_toDesk _ _ _ _ _ _ _ _ _ _ _ hl hr h1 h2) ?_))); conv => whnf)
    | (refine Or.inl (Exists.intro _ (And.intro (c_toDesk _ _ _ _ _ _ _ _ _ _ _ hl hr h1 h2) ?_)); conv => whnf)
    | (apply Exists.intro; refine And.intro (c_toDesk _ _ _ _ _ _ _ _ _ _ _ hl hr h1 h2) ?_; conv => whnf)
    | (refine Or.inl (Or.inl (Exists.intro _ (And.intro (c_specIsDesk _ _ _ _ _ _ _ _ _ _ _ hl hr h1 h2) ?_))); conv => whnf)
    | (refine Or.inl (Exists.intro _ (And.intro (c_specIsDesk _ _ _ _ _ _ _ _ _ _ _ hl hr h1 h2) ?_)); conv => whnf)
    | (apply Exists.intro; refine And.intro (c_specIsDesk _ _ _ _ _ _ _ _ _ _ _ hl hr h1 h2) ?_; conv => whnf)
    | (refine Or.inl (Or.inl (Exists.intro _ (And.intro (c_implIsDesk _ _ _ _ _ _ _ _ _ _ _ hl hr h1 h2) ?_))); conv => whnf)
    | (refine Or.inl (Exists.intro _ (And.intro (c_implIsDesk _ _ _ _ _ _ _ _ _ _ _ hl hr h1 h2) ?_)); conv => whnf)
    | (apply Exists.intro; refine And.intro (c_implIsDesk _ _ _ _ _ _ _ _ _ _ _ hl hr h1 h2) ?_; conv => whnf)
    | (refine Or.inl (Or.inl (Exists.intro _ (And.intro (c_eqDesk' _ _ _ _ _ _ _ _ _ _ _ _ _ _ _ _ _ _ _ _ _ _ hl hr h1 h2) ?_))); conv => whnf)
    | (refine Or.inl (Exists.intro _ (And.intro (c_eqDesk' _ _ _ _ _ _ _ _ _ _ _ _ _ _ _ _ _ _ _ _ _ _ hl hr h1 h2) ?_)); conv => whnf)
    | (apply Exists.intro; refine And.intro (c_eqDesk' _ _ _ _ _ _ _ _ _ _ _ _ _ _ _ _ _ _ _ _ _ _ hl hr h1 h2) ?_; conv => whnf)
    | (refine And.intro (fun h => ?_) (fun h => ?_) <;> (try simp only [cnt1, ints_length] at h) <;> conv => whnf)
    | (refine And.intro (show slotsOk _ = true by decide +kernel) ?_; conv => whnf)
    | (refine And.intro vOb ?_; conv => whnf)
    | (apply Exists.intro; refine And.intro vObt ?_; conv => whnf)
    | (apply Exists.intro; refine And.intro vObx ?_; conv => whnf)
    | (refine And.intro vArT ?_; conv => whnf)
    | (refine Or.inl ?_; conv => whnf)
    | fail
  all_goals (exfalso; simp_all)
end Go.Proofs

