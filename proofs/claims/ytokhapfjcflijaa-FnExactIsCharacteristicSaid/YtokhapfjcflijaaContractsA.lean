/- The contracts of the functions that the law IsCharacteristic reaches: what each returns for given arguments. -/
import Derived.Test.YtokhapfjcflijaaTab
namespace Go.Proofs
open Go Go.Vm

theorem mix : Try.prog.follows .mixedOrders = true := by kernel_rfl
def inB (n lo hi : Int) : Bool := decide (lo ≤ n ∧ n ≤ hi)

set_option maxRecDepth 100000
set_option linter.unusedSimpArgs false
set_option linter.unusedVariables false

theorem c37 (n lo hi : Int) : PureCall Try.prog 37 [dint n, dint lo, dint hi] (dbool (inB n lo hi)) := by
  refine pure_of_vc Try.tabOk mix Try.func37 rfl rfl ?_
  conv => whnf
  repeat' first
    | (refine And.intro (Or.inl rfl) ?_; conv => whnf)
    | (refine And.intro (show slotsOk _ = true by decide +kernel) ?_; conv => whnf)
    | (refine And.intro rfl ?_; conv => whnf)
    | (refine And.intro (by assumption) ?_; conv => whnf)
    | (refine And.intro (ints_plain _) ?_; conv => whnf)
    | (refine And.intro (inR64 (by first | omega | (simp only [cnt1, ints_length, place1, List.length_set] at *; first | done | omega)) (by first | omega | (simp only [cnt1, ints_length, place1, List.length_set] at *; first | done | omega))) ?_; conv => whnf)
    | (refine And.intro (by first | omega | (simp only [cnt1, ints_length, place1, List.length_set] at *; first | done | omega)) ?_; conv => whnf)
    | (refine And.intro (And.intro (by first | omega | (simp only [cnt1, ints_length, place1, List.length_set] at *; first | done | omega)) (And.intro (by first | omega | (simp only [cnt1, ints_length, place1, List.length_set] at *; first | done | omega)) (room8 rfl (by first | omega | (simp only [cnt1, ints_length, place1, List.length_set] at *; first | done | omega))))) ?_; conv => whnf)
    | (apply Exists.intro; refine And.intro (ints_get (by first | omega | (simp only [cnt1, ints_length, place1, List.length_set] at *; first | done | omega))) ?_; conv => whnf)
    | (apply Exists.intro; refine And.intro (load_ints (by first | omega | (simp only [cnt1, ints_length, place1, List.length_set] at *; first | done | omega))) ?_; conv => whnf)
    | (apply Exists.intro; refine And.intro (StoreRow.ints _ (by first | omega | (simp only [cnt1, ints_length, place1, List.length_set] at *; first | done | omega))) ?_; conv => whnf)
    | (apply Exists.intro; refine And.intro (sub_ints (by first | rfl | omega | (simp only [cnt1, ints_length, place1, List.length_set] at *; first | done | omega))) ?_; conv => whnf)
    | (apply Exists.intro; refine And.intro (sub_ints' _ _ _) ?_; conv => whnf)
    | (apply Exists.intro; refine And.intro rfl ?_; conv => whnf)
    | (refine And.intro (fun h => ?_) (fun h => ?_) <;> (try simp only [cnt1, ints_length] at h) <;> conv => whnf)
    | (refine Or.inl ?_; conv => whnf)
    | fail
  all_goals (refine dbool_congr ?_; first | rfl | (simp_all; done) | (simp_all [inB]; done) | (simp_all [inB]; omega))
theorem c41 (n lo hi : Int) : PureCall Try.prog 41 [dint n, dint lo, dint hi] (dbool (inB n lo hi)) := by
  refine pure_of_vc Try.tabOk mix Try.func41 rfl rfl ?_
  conv => whnf
  repeat' first
    | (refine And.intro (Or.inl rfl) ?_; conv => whnf)
    | (refine And.intro (show slotsOk _ = true by decide +kernel) ?_; conv => whnf)
    | (refine And.intro rfl ?_; conv => whnf)
    | (refine And.intro (by assumption) ?_; conv => whnf)
    | (refine And.intro (ints_plain _) ?_; conv => whnf)
    | (refine And.intro (inR64 (by first | omega | (simp only [cnt1, ints_length, place1, List.length_set] at *; first | done | omega)) (by first | omega | (simp only [cnt1, ints_length, place1, List.length_set] at *; first | done | omega))) ?_; conv => whnf)
    | (refine And.intro (by first | omega | (simp only [cnt1, ints_length, place1, List.length_set] at *; first | done | omega)) ?_; conv => whnf)
    | (refine And.intro (And.intro (by first | omega | (simp only [cnt1, ints_length, place1, List.length_set] at *; first | done | omega)) (And.intro (by first | omega | (simp only [cnt1, ints_length, place1, List.length_set] at *; first | done | omega)) (room8 rfl (by first | omega | (simp only [cnt1, ints_length, place1, List.length_set] at *; first | done | omega))))) ?_; conv => whnf)
    | (apply Exists.intro; refine And.intro (ints_get (by first | omega | (simp only [cnt1, ints_length, place1, List.length_set] at *; first | done | omega))) ?_; conv => whnf)
    | (apply Exists.intro; refine And.intro (load_ints (by first | omega | (simp only [cnt1, ints_length, place1, List.length_set] at *; first | done | omega))) ?_; conv => whnf)
    | (apply Exists.intro; refine And.intro (StoreRow.ints _ (by first | omega | (simp only [cnt1, ints_length, place1, List.length_set] at *; first | done | omega))) ?_; conv => whnf)
    | (apply Exists.intro; refine And.intro (sub_ints (by first | rfl | omega | (simp only [cnt1, ints_length, place1, List.length_set] at *; first | done | omega))) ?_; conv => whnf)
    | (apply Exists.intro; refine And.intro (sub_ints' _ _ _) ?_; conv => whnf)
    | (apply Exists.intro; refine And.intro rfl ?_; conv => whnf)
    | (refine And.intro (fun h => ?_) (fun h => ?_) <;> (try simp only [cnt1, ints_length] at h) <;> conv => whnf)
    | (refine Or.inl ?_; conv => whnf)
    | fail
  all_goals (refine dbool_congr ?_; first | rfl | (simp_all; done) | (simp_all [inB]; done) | (simp_all [inB]; omega))
theorem c36 (m : Int) : PureCall Try.prog 36 [dint m] (dbool (inB m 2 10000)) := by
  refine pure_of_vc Try.tabOk mix Try.func36 rfl rfl ?_
  conv => whnf
  repeat' first
    | (refine And.intro (Or.inl rfl) ?_; conv => whnf)
    | (refine Or.inl (Exists.intro _ (And.intro (c37 _ _ _) ?_)); conv => whnf)
    | (apply Exists.intro; refine And.intro (c37 _ _ _) ?_; conv => whnf)
    | (refine And.intro (show slotsOk _ = true by decide +kernel) ?_; conv => whnf)
    | (refine And.intro rfl ?_; conv => whnf)
    | (refine And.intro (by assumption) ?_; conv => whnf)
    | (refine And.intro (ints_plain _) ?_; conv => whnf)
    | (refine And.intro (inR64 (by first | omega | (simp only [cnt1, ints_length, place1, List.length_set] at *; first | done | omega)) (by first | omega | (simp only [cnt1, ints_length, place1, List.length_set] at *; first | done | omega))) ?_; conv => whnf)
    | (refine And.intro (by first | omega | (simp only [cnt1, ints_length, place1, List.length_set] at *; first | done | omega)) ?_; conv => whnf)
    | (refine And.intro (And.intro (by first | omega | (simp only [cnt1, ints_length, place1, List.length_set] at *; first | done | omega)) (And.intro (by first | omega | (simp only [cnt1, ints_length, place1, List.length_set] at *; first | done | omega)) (room8 rfl (by first | omega | (simp only [cnt1, ints_length, place1, List.length_set] at *; first | done | omega))))) ?_; conv => whnf)
    | (apply Exists.intro; refine And.intro (ints_get (by first | omega | (simp only [cnt1, ints_length, place1, List.length_set] at *; first | done | omega))) ?_; conv => whnf)
    | (apply Exists.intro; refine And.intro (load_ints (by first | omega | (simp only [cnt1, ints_length, place1, List.length_set] at *; first | done | omega))) ?_; conv => whnf)
    | (apply Exists.intro; refine And.intro (StoreRow.ints _ (by first | omega | (simp only [cnt1, ints_length, place1, List.length_set] at *; first | done | omega))) ?_; conv => whnf)
    | (apply Exists.intro; refine And.intro (sub_ints (by first | rfl | omega | (simp only [cnt1, ints_length, place1, List.length_set] at *; first | done | omega))) ?_; conv => whnf)
    | (apply Exists.intro; refine And.intro (sub_ints' _ _ _) ?_; conv => whnf)
    | (apply Exists.intro; refine And.intro rfl ?_; conv => whnf)
    | (refine And.intro (fun h => ?_) (fun h => ?_) <;> (try simp only [cnt1, ints_length] at h) <;> conv => whnf)
    | (refine Or.inl ?_; conv => whnf)
    | fail
  all_goals (refine dbool_congr ?_; first | rfl | (simp_all; done) | (simp_all [inB]; done) | (simp_all [inB]; omega))
theorem c40 (m : Int) : PureCall Try.prog 40 [dint m] (dbool (inB m 2 10000)) := by
  refine pure_of_vc Try.tabOk mix Try.func40 rfl rfl ?_
  conv => whnf
  repeat' first
    | (refine And.intro (Or.inl rfl) ?_; conv => whnf)
    | (refine Or.inl (Exists.intro _ (And.intro (c41 _ _ _) ?_)); conv => whnf)
    | (apply Exists.intro; refine And.intro (c41 _ _ _) ?_; conv => whnf)
    | (refine And.intro (show slotsOk _ = true by decide +kernel) ?_; conv => whnf)
    | (refine And.intro rfl ?_; conv => whnf)
    | (refine And.intro (by assumption) ?_; conv => whnf)
    | (refine And.intro (ints_plain _) ?_; conv => whnf)
    | (refine And.intro (inR64 (by first | omega | (simp only [cnt1, ints_length, place1, List.length_set] at *; first | done | omega)) (by first | omega | (simp only [cnt1, ints_length, place1, List.length_set] at *; first | done | omega))) ?_; conv => whnf)
    | (refine And.intro (by first | omega | (simp only [cnt1, ints_length, place1, List.length_set] at *; first | done | omega)) ?_; conv => whnf)
    | (refine And.intro (And.intro (by first | omega | (simp only [cnt1, ints_length, place1, List.length_set] at *; first | done | omega)) (And.intro (by first | omega | (simp only [cnt1, ints_length, place1, List.length_set] at *; first | done | omega)) (room8 rfl (by first | omega | (simp only [cnt1, ints_length, place1, List.length_set] at *; first | done | omega))))) ?_; conv => whnf)
    | (apply Exists.intro; refine And.intro (ints_get (by first | omega | (simp only [cnt1, ints_length, place1, List.length_set] at *; first | done | omega))) ?_; conv => whnf)
    | (apply Exists.intro; refine And.intro (load_ints (by first | omega | (simp only [cnt1, ints_length, place1, List.length_set] at *; first | done | omega))) ?_; conv => whnf)
    | (apply Exists.intro; refine And.intro (StoreRow.ints _ (by first | omega | (simp only [cnt1, ints_length, place1, List.length_set] at *; first | done | omega))) ?_; conv => whnf)
    | (apply Exists.intro; refine And.intro (sub_ints (by first | rfl | omega | (simp only [cnt1, ints_length, place1, List.length_set] at *; first | done | omega))) ?_; conv => whnf)
    | (apply Exists.intro; refine And.intro (sub_ints' _ _ _) ?_; conv => whnf)
    | (apply Exists.intro; refine And.intro rfl ?_; conv => whnf)
    | (refine And.intro (fun h => ?_) (fun h => ?_) <;> (try simp only [cnt1, ints_length] at h) <;> conv => whnf)
    | (refine Or.inl ?_; conv => whnf)
    | fail
  all_goals (refine dbool_congr ?_; first | rfl | (simp_all; done) | (simp_all [inB]; done) | (simp_all [inB]; omega))
theorem c82 (a m : Int) (h1 : inR .i64 (m - 1)) : PureCall Try.prog 82 [dint a, dint m] (dbool (inB a 0 (m - 1))) := by
  refine pure_of_vc Try.tabOk mix Try.func82 rfl rfl ?_
  conv => whnf
  refine And.intro h1 ?_
  conv => whnf
  repeat' first
    | (refine And.intro (Or.inl rfl) ?_; conv => whnf)
    | (refine Or.inl (Exists.intro _ (And.intro (c41 _ _ _) ?_)); conv => whnf)
    | (apply Exists.intro; refine And.intro (c41 _ _ _) ?_; conv => whnf)
    | (refine And.intro (show slotsOk _ = true by decide +kernel) ?_; conv => whnf)
    | (refine And.intro rfl ?_; conv => whnf)
    | (refine And.intro (by assumption) ?_; conv => whnf)
    | (refine And.intro (ints_plain _) ?_; conv => whnf)
    | (refine And.intro (inR64 (by first | omega | (simp only [cnt1, ints_length, place1, List.length_set] at *; first | done | omega)) (by first | omega | (simp only [cnt1, ints_length, place1, List.length_set] at *; first | done | omega))) ?_; conv => whnf)
    | (refine And.intro (by first | omega | (simp only [cnt1, ints_length, place1, List.length_set] at *; first | done | omega)) ?_; conv => whnf)
    | (refine And.intro (And.intro (by first | omega | (simp only [cnt1, ints_length, place1, List.length_set] at *; first | done | omega)) (And.intro (by first | omega | (simp only [cnt1, ints_length, place1, List.length_set] at *; first | done | omega)) (room8 rfl (by first | omega | (simp only [cnt1, ints_length, place1, List.length_set] at *; first | done | omega))))) ?_; conv => whnf)
    | (apply Exists.intro; refine And.intro (ints_get (by first | omega | (simp only [cnt1, ints_length, place1, List.length_set] at *; first | done | omega))) ?_; conv => whnf)
    | (apply Exists.intro; refine And.intro (load_ints (by first | omega | (simp only [cnt1, ints_length, place1, List.length_set] at *; first | done | omega))) ?_; conv => whnf)
    | (apply Exists.intro; refine And.intro (StoreRow.ints _ (by first | omega | (simp only [cnt1, ints_length, place1, List.length_set] at *; first | done | omega))) ?_; conv => whnf)
    | (apply Exists.intro; refine And.intro (sub_ints (by first | rfl | omega | (simp only [cnt1, ints_length, place1, List.length_set] at *; first | done | omega))) ?_; conv => whnf)
    | (apply Exists.intro; refine And.intro (sub_ints' _ _ _) ?_; conv => whnf)
    | (apply Exists.intro; refine And.intro rfl ?_; conv => whnf)
    | (refine And.intro (fun h => ?_) (fun h => ?_) <;> (try simp only [cnt1, ints_length] at h) <;> conv => whnf)
    | (refine Or.inl ?_; conv => whnf)
    | fail
  all_goals (refine dbool_congr ?_; first | rfl | (simp_all; done) | (simp_all [inB]; done) | (simp_all [inB]; omega))
def numsB (m : Int) (l : List Int) : Bool := l.all fun x => inB x 0 (m - 1)
theorem numsB_of {m : Int} {l : List Int} (h : ∀ j, j < l.length → inB (l.getD j 0) 0 (m - 1) = true) : numsB m l = true := by
  refine List.all_eq_true.2 (fun x hx => ?_)
  obtain ⟨i, hi, rfl⟩ := List.getElem_of_mem hx
  have := h i hi
  simpa [hi] using this
theorem numsB_not {m : Int} {l : List Int} {i : Nat} (hi : i < l.length) (h : inB (l.getD i 0) 0 (m - 1) = false) : numsB m l = false := by
  refine List.all_eq_false.2 ⟨l[i], List.getElem_mem hi, ?_⟩
  simp [hi] at h
  simp [h]
theorem h1of {m : Int} (h : inB m 2 10000 = true) : inR .i64 (m - 1) := by
  simp only [inB, decide_eq_true_eq] at h
  exact inR64 (by omega) (by omega)
theorem c80 (m : Int) (l : List Int) (h1 : inR .i64 (m - 1)) (hl : l.length < 1048577) : PureCall Try.prog 80 [dint m, .list false 1 (ints l)] (dbool (numsB m l)) := by
  refine pure_of_vc Try.tabOk mix Try.func80 rfl rfl ?_
  conv => whnf
  refine loop_rule Try.tabOk mix (α := Nat) (fun i => ⟨[dint m, .list false 1 (ints l), .undef, .undef, .undef, dint i] ++ List.replicate 14 .undef, []⟩)
    (fun i => i ≤ l.length ∧ ∀ j, j < i → inB (l.getD j 0) 0 (m - 1) = true) (fun i => l.length - i) 0 ⟨by omega, by omega⟩ ?_ (fun i hi => ?_)
  · refine Weak.of [] ?_
    conv => whnf
    repeat' first
      | (refine And.intro rfl ?_; conv => whnf)
      | (refine And.intro (by first | omega | (simp only [cnt1, ints_length] at *; first | done | omega)) ?_; conv => whnf)
      | (refine And.intro (eqV_int (by first | rfl | omega | (simp only [cnt1, ints_length, place1, List.length_set] at *; first | done | omega))) ?_; conv => whnf)
      | (refine And.intro (Eq.trans (replN_ints _ 0) (by simp [cnt1])) ?_; conv => whnf)
      | exact trivial
      | fail
  conv => whnf
  refine And.intro (fun h => ?_) (fun h => ?_) <;> (try simp only [cnt1, ints_length] at h) <;> conv => whnf
  · repeat' first
      | (refine And.intro (Or.inl rfl) ?_; conv => whnf)
      | (refine Or.inl (Exists.intro _ (And.intro (c37 _ _ _) ?_)); conv => whnf)
      | (apply Exists.intro; refine And.intro (c37 _ _ _) ?_; conv => whnf)
      | (refine And.intro (show slotsOk _ = true by decide +kernel) ?_; conv => whnf)
      | (refine And.intro rfl ?_; conv => whnf)
      | (refine And.intro (by assumption) ?_; conv => whnf)
      | (refine And.intro (ints_plain _) ?_; conv => whnf)
      | (refine And.intro (inR64 (by first | omega | (simp only [cnt1, ints_length, place1, List.length_set] at *; first | done | omega)) (by first | omega | (simp only [cnt1, ints_length, place1, List.length_set] at *; first | done | omega))) ?_; conv => whnf)
      | (refine And.intro (by first | omega | (simp only [cnt1, ints_length, place1, List.length_set] at *; first | done | omega)) ?_; conv => whnf)
      | (refine And.intro (And.intro (by first | omega | (simp only [cnt1, ints_length, place1, List.length_set] at *; first | done | omega)) (And.intro (by first | omega | (simp only [cnt1, ints_length, place1, List.length_set] at *; first | done | omega)) (room8 rfl (by first | omega | (simp only [cnt1, ints_length, place1, List.length_set] at *; first | done | omega))))) ?_; conv => whnf)
      | (apply Exists.intro; refine And.intro (ints_get (by first | omega | (simp only [cnt1, ints_length, place1, List.length_set] at *; first | done | omega))) ?_; conv => whnf)
      | (apply Exists.intro; refine And.intro (load_ints (by first | omega | (simp only [cnt1, ints_length, place1, List.length_set] at *; first | done | omega))) ?_; conv => whnf)
      | (apply Exists.intro; refine And.intro (StoreRow.ints _ (by first | omega | (simp only [cnt1, ints_length, place1, List.length_set] at *; first | done | omega))) ?_; conv => whnf)
      | (apply Exists.intro; refine And.intro (sub_ints (by first | rfl | omega | (simp only [cnt1, ints_length, place1, List.length_set] at *; first | done | omega))) ?_; conv => whnf)
      | (apply Exists.intro; refine And.intro (sub_ints' _ _ _) ?_; conv => whnf)
      | (apply Exists.intro; refine And.intro rfl ?_; conv => whnf)
      | (refine And.intro (fun h => ?_) (fun h => ?_) <;> (try simp only [cnt1, ints_length] at h) <;> conv => whnf)
      | (refine Or.inl ?_; conv => whnf)
      | fail
    · refine Exists.intro (i + 1) (And.intro ⟨by omega, fun j hj => ?_⟩ (And.intro (by omega) ?_))
      · simp only [place1, Int.toNat_natCast, Nat.zero_add] at *
        rcases Nat.lt_or_ge j i with h' | h'
        · exact hi.2 j h'
        · have : j = i := by omega
          subst this; assumption
      · refine Weak.of [] ?_
        conv => whnf
        repeat' first
          | (refine And.intro rfl ?_; conv => whnf)
          | (refine And.intro (by first | omega | (simp only [cnt1, ints_length] at *; first | done | omega)) ?_; conv => whnf)
          | (refine And.intro (eqV_int (by first | rfl | omega | (simp only [cnt1, ints_length, place1, List.length_set] at *; first | done | omega))) ?_; conv => whnf)
          | (refine And.intro (Eq.trans (replN_ints _ 0) (by simp [cnt1])) ?_; conv => whnf)
          | exact trivial
          | fail
    · simp only [place1, Int.toNat_natCast, Nat.zero_add] at *
      exact dbool_congr (numsB_not (i := i) (by omega) (by assumption)).symm
  · repeat' first
      | (refine And.intro (Or.inl rfl) ?_; conv => whnf)
      | (refine And.intro (show slotsOk _ = true by decide +kernel) ?_; conv => whnf)
      | (refine And.intro rfl ?_; conv => whnf)
      | (refine And.intro (by assumption) ?_; conv => whnf)
      | (refine And.intro (ints_plain _) ?_; conv => whnf)
      | (refine And.intro (inR64 (by first | omega | (simp only [cnt1, ints_length, place1, List.length_set] at *; first | done | omega)) (by first | omega | (simp only [cnt1, ints_length, place1, List.length_set] at *; first | done | omega))) ?_; conv => whnf)
      | (refine And.intro (by first | omega | (simp only [cnt1, ints_length, place1, List.length_set] at *; first | done | omega)) ?_; conv => whnf)
      | (refine And.intro (And.intro (by first | omega | (simp only [cnt1, ints_length, place1, List.length_set] at *; first | done | omega)) (And.intro (by first | omega | (simp only [cnt1, ints_length, place1, List.length_set] at *; first | done | omega)) (room8 rfl (by first | omega | (simp only [cnt1, ints_length, place1, List.length_set] at *; first | done | omega))))) ?_; conv => whnf)
      | (apply Exists.intro; refine And.intro (ints_get (by first | omega | (simp only [cnt1, ints_length, place1, List.length_set] at *; first | done | omega))) ?_; conv => whnf)
      | (apply Exists.intro; refine And.intro (load_ints (by first | omega | (simp only [cnt1, ints_length, place1, List.length_set] at *; first | done | omega))) ?_; conv => whnf)
      | (apply Exists.intro; refine And.intro (StoreRow.ints _ (by first | omega | (simp only [cnt1, ints_length, place1, List.length_set] at *; first | done | omega))) ?_; conv => whnf)
      | (apply Exists.intro; refine And.intro (sub_ints (by first | rfl | omega | (simp only [cnt1, ints_length, place1, List.length_set] at *; first | done | omega))) ?_; conv => whnf)
      | (apply Exists.intro; refine And.intro (sub_ints' _ _ _) ?_; conv => whnf)
      | (apply Exists.intro; refine And.intro rfl ?_; conv => whnf)
      | (refine And.intro (fun h => ?_) (fun h => ?_) <;> (try simp only [cnt1, ints_length] at h) <;> conv => whnf)
      | (refine Or.inl ?_; conv => whnf)
      | fail
    exact dbool_congr (numsB_of (fun j hj => hi.2 j (by omega))).symm
theorem c74 (m : Int) (l : List Int) (hl : l.length ≤ 9223372036854775807) : PureCall Try.prog 74 [.agg [dint m, .list false 1 (ints l)]] (dint (l.length - 1)) := by
  refine pure_of_vc Try.tabOk mix Try.func74 rfl rfl ?_
  conv => whnf
  repeat' first
    | (refine And.intro (Or.inl rfl) ?_; conv => whnf)
    | (refine And.intro (show slotsOk _ = true by decide +kernel) ?_; conv => whnf)
    | (refine And.intro rfl ?_; conv => whnf)
    | (refine And.intro (by assumption) ?_; conv => whnf)
    | (refine And.intro (ints_plain _) ?_; conv => whnf)
    | (refine And.intro (inR64 (by first | omega | (simp only [cnt1, ints_length, place1, List.length_set] at *; first | done | omega)) (by first | omega | (simp only [cnt1, ints_length, place1, List.length_set] at *; first | done | omega))) ?_; conv => whnf)
    | (refine And.intro (by first | omega | (simp only [cnt1, ints_length, place1, List.length_set] at *; first | done | omega)) ?_; conv => whnf)
    | (refine And.intro (And.intro (by first | omega | (simp only [cnt1, ints_length, place1, List.length_set] at *; first | done | omega)) (And.intro (by first | omega | (simp only [cnt1, ints_length, place1, List.length_set] at *; first | done | omega)) (room8 rfl (by first | omega | (simp only [cnt1, ints_length, place1, List.length_set] at *; first | done | omega))))) ?_; conv => whnf)
    | (apply Exists.intro; refine And.intro (ints_get (by first | omega | (simp only [cnt1, ints_length, place1, List.length_set] at *; first | done | omega))) ?_; conv => whnf)
    | (apply Exists.intro; refine And.intro (load_ints (by first | omega | (simp only [cnt1, ints_length, place1, List.length_set] at *; first | done | omega))) ?_; conv => whnf)
    | (apply Exists.intro; refine And.intro (StoreRow.ints _ (by first | omega | (simp only [cnt1, ints_length, place1, List.length_set] at *; first | done | omega))) ?_; conv => whnf)
    | (apply Exists.intro; refine And.intro (sub_ints (by first | rfl | omega | (simp only [cnt1, ints_length, place1, List.length_set] at *; first | done | omega))) ?_; conv => whnf)
    | (apply Exists.intro; refine And.intro (sub_ints' _ _ _) ?_; conv => whnf)
    | (apply Exists.intro; refine And.intro rfl ?_; conv => whnf)
    | (refine And.intro (fun h => ?_) (fun h => ?_) <;> (try simp only [cnt1, ints_length] at h) <;> conv => whnf)
    | (refine Or.inl ?_; conv => whnf)
    | fail
  simp [cnt1]
theorem c33 (l : List Int) (n : Int) (hn : n = 1048576) (hl : l.length ≤ 9223372036854775807) : PureCall Try.prog 33 [.list false 1 (ints l), dint n] (dint (if n - l.length < 0 then -1 else n - l.length)) := by
  refine pure_of_vc Try.tabOk mix Try.func33 rfl rfl ?_
  conv => whnf
  repeat' first
    | (refine And.intro (Or.inl rfl) ?_; conv => whnf)
    | (refine And.intro (show slotsOk _ = true by decide +kernel) ?_; conv => whnf)
    | (refine And.intro rfl ?_; conv => whnf)
    | (refine And.intro (by assumption) ?_; conv => whnf)
    | (refine And.intro (ints_plain _) ?_; conv => whnf)
    | (refine And.intro (inR64 (by first | omega | (simp only [cnt1, ints_length, place1, List.length_set] at *; first | done | omega)) (by first | omega | (simp only [cnt1, ints_length, place1, List.length_set] at *; first | done | omega))) ?_; conv => whnf)
    | (refine And.intro (by first | omega | (simp only [cnt1, ints_length, place1, List.length_set] at *; first | done | omega)) ?_; conv => whnf)
    | (refine And.intro (And.intro (by first | omega | (simp only [cnt1, ints_length, place1, List.length_set] at *; first | done | omega)) (And.intro (by first | omega | (simp only [cnt1, ints_length, place1, List.length_set] at *; first | done | omega)) (room8 rfl (by first | omega | (simp only [cnt1, ints_length, place1, List.length_set] at *; first | done | omega))))) ?_; conv => whnf)
    | (apply Exists.intro; refine And.intro (ints_get (by first | omega | (simp only [cnt1, ints_length, place1, List.length_set] at *; first | done | omega))) ?_; conv => whnf)
    | (apply Exists.intro; refine And.intro (load_ints (by first | omega | (simp only [cnt1, ints_length, place1, List.length_set] at *; first | done | omega))) ?_; conv => whnf)
    | (apply Exists.intro; refine And.intro (StoreRow.ints _ (by first | omega | (simp only [cnt1, ints_length, place1, List.length_set] at *; first | done | omega))) ?_; conv => whnf)
    | (apply Exists.intro; refine And.intro (sub_ints (by first | rfl | omega | (simp only [cnt1, ints_length, place1, List.length_set] at *; first | done | omega))) ?_; conv => whnf)
    | (apply Exists.intro; refine And.intro (sub_ints' _ _ _) ?_; conv => whnf)
    | (apply Exists.intro; refine And.intro rfl ?_; conv => whnf)
    | (refine And.intro (fun h => ?_) (fun h => ?_) <;> (try simp only [cnt1, ints_length] at h) <;> conv => whnf)
    | (refine Or.inl ?_; conv => whnf)
    | fail
  · rw [if_pos (by omega)]
  · rw [if_neg (by omega)]; simp [cnt1]
theorem c9 (m : Int) (l : List Int) (n : Int) (hn : n = 1048576) (hl : l.length ≤ 9223372036854775807) : PureCall Try.prog 9 [.agg [dint m, .list false 1 (ints l)], dint n] (dint (if n - l.length < 0 then -1 else n - l.length)) := by
  refine pure_of_vc Try.tabOk mix Try.func9 rfl rfl ?_
  conv => whnf
  repeat' first
    | (refine And.intro (Or.inl rfl) ?_; conv => whnf)
    | (refine Or.inl (Exists.intro _ (And.intro (c33 l n hn hl) ?_)); conv => whnf)
    | (apply Exists.intro; refine And.intro (c33 l n hn hl) ?_; conv => whnf)
    | (refine And.intro (show slotsOk _ = true by decide +kernel) ?_; conv => whnf)
    | (refine And.intro rfl ?_; conv => whnf)
    | (refine And.intro (by assumption) ?_; conv => whnf)
    | (refine And.intro (ints_plain _) ?_; conv => whnf)
    | (refine And.intro (inR64 (by first | omega | (simp only [cnt1, ints_length, place1, List.length_set] at *; first | done | omega)) (by first | omega | (simp only [cnt1, ints_length, place1, List.length_set] at *; first | done | omega))) ?_; conv => whnf)
    | (refine And.intro (by first | omega | (simp only [cnt1, ints_length, place1, List.length_set] at *; first | done | omega)) ?_; conv => whnf)
    | (refine And.intro (And.intro (by first | omega | (simp only [cnt1, ints_length, place1, List.length_set] at *; first | done | omega)) (And.intro (by first | omega | (simp only [cnt1, ints_length, place1, List.length_set] at *; first | done | omega)) (room8 rfl (by first | omega | (simp only [cnt1, ints_length, place1, List.length_set] at *; first | done | omega))))) ?_; conv => whnf)
    | (apply Exists.intro; refine And.intro (ints_get (by first | omega | (simp only [cnt1, ints_length, place1, List.length_set] at *; first | done | omega))) ?_; conv => whnf)
    | (apply Exists.intro; refine And.intro (load_ints (by first | omega | (simp only [cnt1, ints_length, place1, List.length_set] at *; first | done | omega))) ?_; conv => whnf)
    | (apply Exists.intro; refine And.intro (StoreRow.ints _ (by first | omega | (simp only [cnt1, ints_length, place1, List.length_set] at *; first | done | omega))) ?_; conv => whnf)
    | (apply Exists.intro; refine And.intro (sub_ints (by first | rfl | omega | (simp only [cnt1, ints_length, place1, List.length_set] at *; first | done | omega))) ?_; conv => whnf)
    | (apply Exists.intro; refine And.intro (sub_ints' _ _ _) ?_; conv => whnf)
    | (apply Exists.intro; refine And.intro rfl ?_; conv => whnf)
    | (refine And.intro (fun h => ?_) (fun h => ?_) <;> (try simp only [cnt1, ints_length] at h) <;> conv => whnf)
    | (refine Or.inl ?_; conv => whnf)
    | fail
  · split <;> simp_all <;> omega
theorem c22 (l : List Int) (hl : l.length < 1048577) : PureCall Try.prog 22 [.list false 1 (ints l)] (.list true 1 (ints l)) := by
  refine pure_of_vc Try.tabOk mix Try.func22 rfl rfl ?_
  conv => whnf
  repeat' first
    | (refine And.intro (Or.inl rfl) ?_; conv => whnf)
    | (refine And.intro (show slotsOk _ = true by decide +kernel) ?_; conv => whnf)
    | (refine And.intro rfl ?_; conv => whnf)
    | (refine And.intro (by assumption) ?_; conv => whnf)
    | (refine And.intro (ints_plain _) ?_; conv => whnf)
    | (refine And.intro (inR64 (by first | omega | (simp only [cnt1, ints_length, place1, List.length_set] at *; first | done | omega)) (by first | omega | (simp only [cnt1, ints_length, place1, List.length_set] at *; first | done | omega))) ?_; conv => whnf)
    | (refine And.intro (by first | omega | (simp only [cnt1, ints_length, place1, List.length_set] at *; first | done | omega)) ?_; conv => whnf)
    | (refine And.intro (And.intro (by first | omega | (simp only [cnt1, ints_length, place1, List.length_set] at *; first | done | omega)) (And.intro (by first | omega | (simp only [cnt1, ints_length, place1, List.length_set] at *; first | done | omega)) (room8 rfl (by first | omega | (simp only [cnt1, ints_length, place1, List.length_set] at *; first | done | omega))))) ?_; conv => whnf)
    | (apply Exists.intro; refine And.intro (ints_get (by first | omega | (simp only [cnt1, ints_length, place1, List.length_set] at *; first | done | omega))) ?_; conv => whnf)
    | (apply Exists.intro; refine And.intro (load_ints (by first | omega | (simp only [cnt1, ints_length, place1, List.length_set] at *; first | done | omega))) ?_; conv => whnf)
    | (apply Exists.intro; refine And.intro (StoreRow.ints _ (by first | omega | (simp only [cnt1, ints_length, place1, List.length_set] at *; first | done | omega))) ?_; conv => whnf)
    | (apply Exists.intro; refine And.intro (sub_ints (by first | rfl | omega | (simp only [cnt1, ints_length, place1, List.length_set] at *; first | done | omega))) ?_; conv => whnf)
    | (apply Exists.intro; refine And.intro (sub_ints' _ _ _) ?_; conv => whnf)
    | (apply Exists.intro; refine And.intro rfl ?_; conv => whnf)
    | (refine And.intro (fun h => ?_) (fun h => ?_) <;> (try simp only [cnt1, ints_length] at h) <;> conv => whnf)
    | (refine Or.inl ?_; conv => whnf)
    | fail
  refine loop_rule Try.tabOk mix (α := Nat × List Int) (fun x => ⟨[.list false 1 (ints l), .undef, .undef, .ref 0 [] 1 0 l.length, dint x.1] ++ List.replicate 17 .undef, [some ⟨false, 1, ints x.2⟩]⟩)
    (fun x => x.1 ≤ l.length ∧ x.2.length = l.length ∧ ∀ j, j < x.1 → x.2.getD j 0 = l.getD j 0) (fun x => l.length - x.1) (0, List.replicate l.length 0) ⟨by omega, by simp, by omega⟩ ?_ (fun x hx => ?_)
  · refine Weak.of [some 0] ?_
    conv => whnf
    repeat' first
      | (refine And.intro rfl ?_; conv => whnf)
      | (refine And.intro (by first | omega | (simp only [cnt1, ints_length] at *; first | done | omega)) ?_; conv => whnf)
      | (refine And.intro (eqV_int (by first | rfl | omega | (simp only [cnt1, ints_length, place1, List.length_set] at *; first | done | omega))) ?_; conv => whnf)
      | (refine And.intro (Eq.trans (replN_ints _ 0) (by simp [cnt1])) ?_; conv => whnf)
      | exact trivial
      | fail
  obtain ⟨i, r⟩ := x
  obtain ⟨hx1, hx2, hx3⟩ := hx
  simp only at hx1 hx2 hx3
  conv => whnf
  repeat' first
    | (refine And.intro (Or.inl rfl) ?_; conv => whnf)
    | (refine And.intro (show slotsOk _ = true by decide +kernel) ?_; conv => whnf)
    | (refine And.intro rfl ?_; conv => whnf)
    | (refine And.intro (by assumption) ?_; conv => whnf)
    | (refine And.intro (ints_plain _) ?_; conv => whnf)
    | (refine And.intro (inR64 (by first | omega | (simp only [cnt1, ints_length, place1, List.length_set] at *; first | done | omega)) (by first | omega | (simp only [cnt1, ints_length, place1, List.length_set] at *; first | done | omega))) ?_; conv => whnf)
    | (refine And.intro (by first | omega | (simp only [cnt1, ints_length, place1, List.length_set] at *; first | done | omega)) ?_; conv => whnf)
    | (refine And.intro (And.intro (by first | omega | (simp only [cnt1, ints_length, place1, List.length_set] at *; first | done | omega)) (And.intro (by first | omega | (simp only [cnt1, ints_length, place1, List.length_set] at *; first | done | omega)) (room8 rfl (by first | omega | (simp only [cnt1, ints_length, place1, List.length_set] at *; first | done | omega))))) ?_; conv => whnf)
    | (apply Exists.intro; refine And.intro (ints_get (by first | omega | (simp only [cnt1, ints_length, place1, List.length_set] at *; first | done | omega))) ?_; conv => whnf)
    | (apply Exists.intro; refine And.intro (load_ints (by first | omega | (simp only [cnt1, ints_length, place1, List.length_set] at *; first | done | omega))) ?_; conv => whnf)
    | (apply Exists.intro; refine And.intro (StoreRow.ints _ (by first | omega | (simp only [cnt1, ints_length, place1, List.length_set] at *; first | done | omega))) ?_; conv => whnf)
    | (apply Exists.intro; refine And.intro (sub_ints (by first | rfl | omega | (simp only [cnt1, ints_length, place1, List.length_set] at *; first | done | omega))) ?_; conv => whnf)
    | (apply Exists.intro; refine And.intro (sub_ints' _ _ _) ?_; conv => whnf)
    | (apply Exists.intro; refine And.intro rfl ?_; conv => whnf)
    | (refine And.intro (fun h => ?_) (fun h => ?_) <;> (try simp only [cnt1, ints_length] at h) <;> conv => whnf)
    | (refine Or.inl ?_; conv => whnf)
    | fail
  · refine Exists.intro (i + 1, r.set i (l.getD i 0)) (And.intro ⟨by simp only; omega, by simp only [List.length_set]; omega, fun j hj => ?_⟩ (And.intro (by simp only; omega) ?_))
    · simp only at hj
      by_cases e : i = j
      · subst e; rw [List.getD_eq_getElem?_getD, List.getElem?_set_self (by omega)]; rfl
      · have := hx3 j (by omega)
        rw [List.getD_eq_getElem?_getD] at this
        rw [List.getD_eq_getElem?_getD, List.getElem?_set_ne e, this]
    · refine Weak.of [some 0] ?_
      conv => whnf
      repeat' first
        | (refine And.intro rfl ?_; conv => whnf)
        | (refine And.intro (by first | omega | (simp only [cnt1, ints_length] at *; first | done | omega)) ?_; conv => whnf)
        | (refine And.intro (eqV_int (by first | rfl | omega | (simp only [cnt1, ints_length, place1, List.length_set] at *; first | done | omega))) ?_; conv => whnf)
        | (refine And.intro (Eq.trans (replN_ints _ 0) (by simp [cnt1])) ?_; conv => whnf)
        | exact trivial
        | fail
      refine And.intro (by simp [place1]) ?_
      conv => whnf
      exact trivial
  · have : r = l := List.ext_getElem hx2 (fun j h1 h2 => by have := hx3 j (by omega); simpa [h1, h2] using this)
    rw [this]
theorem c11 (m : Int) (l : List Int) (hl : l.length < 1048577) : PureCall Try.prog 11 [.agg [dint m, .list false 1 (ints l)]] (.agg [dint m, .list true 1 (ints l)]) := by
  refine pure_of_vc Try.tabOk mix Try.func11 rfl rfl ?_
  conv => whnf
  repeat' first
    | (refine And.intro (Or.inl rfl) ?_; conv => whnf)
    | (refine Or.inl (Exists.intro _ (And.intro (c22 _ hl) ?_)); conv => whnf)
    | (apply Exists.intro; refine And.intro (c22 _ hl) ?_; conv => whnf)
    | (refine And.intro (show slotsOk _ = true by decide +kernel) ?_; conv => whnf)
    | (refine And.intro rfl ?_; conv => whnf)
    | (refine And.intro (by assumption) ?_; conv => whnf)
    | (refine And.intro (ints_plain _) ?_; conv => whnf)
    | (refine And.intro (inR64 (by first | omega | (simp only [cnt1, ints_length, place1, List.length_set] at *; first | done | omega)) (by first | omega | (simp only [cnt1, ints_length, place1, List.length_set] at *; first | done | omega))) ?_; conv => whnf)
    | (refine And.intro (by first | omega | (simp only [cnt1, ints_length, place1, List.length_set] at *; first | done | omega)) ?_; conv => whnf)
    | (refine And.intro (And.intro (by first | omega | (simp only [cnt1, ints_length, place1, List.length_set] at *; first | done | omega)) (And.intro (by first | omega | (simp only [cnt1, ints_length, place1, List.length_set] at *; first | done | omega)) (room8 rfl (by first | omega | (simp only [cnt1, ints_length, place1, List.length_set] at *; first | done | omega))))) ?_; conv => whnf)
    | (apply Exists.intro; refine And.intro (ints_get (by first | omega | (simp only [cnt1, ints_length, place1, List.length_set] at *; first | done | omega))) ?_; conv => whnf)
    | (apply Exists.intro; refine And.intro (load_ints (by first | omega | (simp only [cnt1, ints_length, place1, List.length_set] at *; first | done | omega))) ?_; conv => whnf)
    | (apply Exists.intro; refine And.intro (StoreRow.ints _ (by first | omega | (simp only [cnt1, ints_length, place1, List.length_set] at *; first | done | omega))) ?_; conv => whnf)
    | (apply Exists.intro; refine And.intro (sub_ints (by first | rfl | omega | (simp only [cnt1, ints_length, place1, List.length_set] at *; first | done | omega))) ?_; conv => whnf)
    | (apply Exists.intro; refine And.intro (sub_ints' _ _ _) ?_; conv => whnf)
    | (apply Exists.intro; refine And.intro rfl ?_; conv => whnf)
    | (refine And.intro (fun h => ?_) (fun h => ?_) <;> (try simp only [cnt1, ints_length] at h) <;> conv => whnf)
    | (refine Or.inl ?_; conv => whnf)
    | fail
theorem c24 (l l' : List Int) (hl : l.length < 1048577) : PureCall Try.prog 24 [.list false 1 (ints l), .list false 1 (ints l')] (dbool (decide (l = l'))) := by
  refine pure_of_vc Try.tabOk mix Try.func24 rfl rfl ?_
  conv => whnf
  refine And.intro (fun h => ?_) (fun h => ?_) <;> (try simp only [cnt1, ints_length] at h) <;> conv => whnf
  · repeat' first
      | (refine And.intro (Or.inl rfl) ?_; conv => whnf)
      | (refine And.intro (show slotsOk _ = true by decide +kernel) ?_; conv => whnf)
      | (refine And.intro rfl ?_; conv => whnf)
      | (refine And.intro (by assumption) ?_; conv => whnf)
      | (refine And.intro (ints_plain _) ?_; conv => whnf)
      | (refine And.intro (inR64 (by first | omega | (simp only [cnt1, ints_length, place1, List.length_set] at *; first | done | omega)) (by first | omega | (simp only [cnt1, ints_length, place1, List.length_set] at *; first | done | omega))) ?_; conv => whnf)
      | (refine And.intro (by first | omega | (simp only [cnt1, ints_length, place1, List.length_set] at *; first | done | omega)) ?_; conv => whnf)
      | (refine And.intro (And.intro (by first | omega | (simp only [cnt1, ints_length, place1, List.length_set] at *; first | done | omega)) (And.intro (by first | omega | (simp only [cnt1, ints_length, place1, List.length_set] at *; first | done | omega)) (room8 rfl (by first | omega | (simp only [cnt1, ints_length, place1, List.length_set] at *; first | done | omega))))) ?_; conv => whnf)
      | (apply Exists.intro; refine And.intro (ints_get (by first | omega | (simp only [cnt1, ints_length, place1, List.length_set] at *; first | done | omega))) ?_; conv => whnf)
      | (apply Exists.intro; refine And.intro (load_ints (by first | omega | (simp only [cnt1, ints_length, place1, List.length_set] at *; first | done | omega))) ?_; conv => whnf)
      | (apply Exists.intro; refine And.intro (StoreRow.ints _ (by first | omega | (simp only [cnt1, ints_length, place1, List.length_set] at *; first | done | omega))) ?_; conv => whnf)
      | (apply Exists.intro; refine And.intro (sub_ints (by first | rfl | omega | (simp only [cnt1, ints_length, place1, List.length_set] at *; first | done | omega))) ?_; conv => whnf)
      | (apply Exists.intro; refine And.intro (sub_ints' _ _ _) ?_; conv => whnf)
      | (apply Exists.intro; refine And.intro rfl ?_; conv => whnf)
      | (refine And.intro (fun h => ?_) (fun h => ?_) <;> (try simp only [cnt1, ints_length] at h) <;> conv => whnf)
      | (refine Or.inl ?_; conv => whnf)
      | fail
    have : l ≠ l' := fun e => h (by rw [e])
    exact dbool_congr (by simp [this])
  refine loop_rule Try.tabOk mix (α := Nat) (fun i => ⟨[.list false 1 (ints l), .list false 1 (ints l'), .undef, .undef, .undef, dint i] ++ List.replicate 20 .undef, []⟩)
    (fun i => i ≤ l.length ∧ ∀ j, j < i → l.getD j 0 = l'.getD j 0) (fun i => l.length - i) 0 ⟨by omega, by omega⟩ ?_ (fun i hi => ?_)
  · refine Weak.of [] ?_
    conv => whnf
    repeat' first
      | (refine And.intro rfl ?_; conv => whnf)
      | (refine And.intro (by first | omega | (simp only [cnt1, ints_length] at *; first | done | omega)) ?_; conv => whnf)
      | (refine And.intro (eqV_int (by first | rfl | omega | (simp only [cnt1, ints_length, place1, List.length_set] at *; first | done | omega))) ?_; conv => whnf)
      | (refine And.intro (Eq.trans (replN_ints _ 0) (by simp [cnt1])) ?_; conv => whnf)
      | exact trivial
      | fail
  conv => whnf
  repeat' first
    | (refine And.intro (Or.inl rfl) ?_; conv => whnf)
    | (refine And.intro (show slotsOk _ = true by decide +kernel) ?_; conv => whnf)
    | (refine And.intro rfl ?_; conv => whnf)
    | (refine And.intro (by assumption) ?_; conv => whnf)
    | (refine And.intro (ints_plain _) ?_; conv => whnf)
    | (refine And.intro (inR64 (by first | omega | (simp only [cnt1, ints_length, place1, List.length_set] at *; first | done | omega)) (by first | omega | (simp only [cnt1, ints_length, place1, List.length_set] at *; first | done | omega))) ?_; conv => whnf)
    | (refine And.intro (by first | omega | (simp only [cnt1, ints_length, place1, List.length_set] at *; first | done | omega)) ?_; conv => whnf)
    | (refine And.intro (And.intro (by first | omega | (simp only [cnt1, ints_length, place1, List.length_set] at *; first | done | omega)) (And.intro (by first | omega | (simp only [cnt1, ints_length, place1, List.length_set] at *; first | done | omega)) (room8 rfl (by first | omega | (simp only [cnt1, ints_length, place1, List.length_set] at *; first | done | omega))))) ?_; conv => whnf)
    | (apply Exists.intro; refine And.intro (ints_get (by first | omega | (simp only [cnt1, ints_length, place1, List.length_set] at *; first | done | omega))) ?_; conv => whnf)
    | (apply Exists.intro; refine And.intro (load_ints (by first | omega | (simp only [cnt1, ints_length, place1, List.length_set] at *; first | done | omega))) ?_; conv => whnf)
    | (apply Exists.intro; refine And.intro (StoreRow.ints _ (by first | omega | (simp only [cnt1, ints_length, place1, List.length_set] at *; first | done | omega))) ?_; conv => whnf)
    | (apply Exists.intro; refine And.intro (sub_ints (by first | rfl | omega | (simp only [cnt1, ints_length, place1, List.length_set] at *; first | done | omega))) ?_; conv => whnf)
    | (apply Exists.intro; refine And.intro (sub_ints' _ _ _) ?_; conv => whnf)
    | (apply Exists.intro; refine And.intro rfl ?_; conv => whnf)
    | (refine And.intro (fun h => ?_) (fun h => ?_) <;> (try simp only [cnt1, ints_length] at h) <;> conv => whnf)
    | (refine Or.inl ?_; conv => whnf)
    | fail
  · simp only [place1, Int.toNat_natCast, Nat.zero_add] at *
    refine dbool_congr ?_
    rw [eq_comm, decide_eq_false_iff_not]
    intro e; subst e; simp_all
  · refine Exists.intro (i + 1) (And.intro ⟨by omega, fun j hj => ?_⟩ (And.intro (by omega) ?_))
    · simp only [place1, Int.toNat_natCast, Nat.zero_add] at *
      rcases Nat.lt_or_ge j i with h' | h'
      · exact hi.2 j h'
      · have : j = i := by omega
        subst this
        exact Classical.not_not.1 h
    · refine Weak.of [] ?_
      conv => whnf
      repeat' first
        | (refine And.intro rfl ?_; conv => whnf)
        | (refine And.intro (by first | omega | (simp only [cnt1, ints_length] at *; first | done | omega)) ?_; conv => whnf)
        | (refine And.intro (eqV_int (by first | rfl | omega | (simp only [cnt1, ints_length, place1, List.length_set] at *; first | done | omega))) ?_; conv => whnf)
        | (refine And.intro (Eq.trans (replN_ints _ 0) (by simp [cnt1])) ?_; conv => whnf)
        | exact trivial
        | fail
  · refine dbool_congr ?_
    rw [eq_comm, decide_eq_true_iff]
    have hlen : l.length = l'.length := by omega
    refine List.ext_getElem hlen (fun j k1 k2 => ?_)
    have := hi.2 j (by omega)
    simpa [k1, k2] using this
theorem c63 (m : Int) (l : List Int) (hl : l.length < 1048577) : PureCall Try.prog 63 [.agg [dint m, .list false 1 (ints l)]] (dbool (inB m 2 10000 && inB l.length 2 11 && numsB m l)) := by
  refine pure_of_vc Try.tabOk mix Try.func63 rfl rfl ?_
  conv => whnf
  repeat' first
    | (refine And.intro (Or.inl rfl) ?_; conv => whnf)
    | (refine Or.inl (Exists.intro _ (And.intro (c36 _) ?_)); conv => whnf)
    | (apply Exists.intro; refine And.intro (c36 _) ?_; conv => whnf)
    | (refine Or.inl (Exists.intro _ (And.intro (c37 _ _ _) ?_)); conv => whnf)
    | (apply Exists.intro; refine And.intro (c37 _ _ _) ?_; conv => whnf)
    | (refine Or.inl (Exists.intro _ (And.intro (c80 m l (h1of (by assumption)) hl) ?_)); conv => whnf)
    | (apply Exists.intro; refine And.intro (c80 m l (h1of (by assumption)) hl) ?_; conv => whnf)
    | (refine And.intro (show slotsOk _ = true by decide +kernel) ?_; conv => whnf)
    | (refine And.intro rfl ?_; conv => whnf)
    | (refine And.intro (by assumption) ?_; conv => whnf)
    | (refine And.intro (ints_plain _) ?_; conv => whnf)
    | (refine And.intro (inR64 (by first | omega | (simp only [cnt1, ints_length, place1, List.length_set] at *; first | done | omega)) (by first | omega | (simp only [cnt1, ints_length, place1, List.length_set] at *; first | done | omega))) ?_; conv => whnf)
    | (refine And.intro (by first | omega | (simp only [cnt1, ints_length, place1, List.length_set] at *; first | done | omega)) ?_; conv => whnf)
    | (refine And.intro (And.intro (by first | omega | (simp only [cnt1, ints_length, place1, List.length_set] at *; first | done | omega)) (And.intro (by first | omega | (simp only [cnt1, ints_length, place1, List.length_set] at *; first | done | omega)) (room8 rfl (by first | omega | (simp only [cnt1, ints_length, place1, List.length_set] at *; first | done | omega))))) ?_; conv => whnf)
    | (apply Exists.intro; refine And.intro (ints_get (by first | omega | (simp only [cnt1, ints_length, place1, List.length_set] at *; first | done | omega))) ?_; conv => whnf)
    | (apply Exists.intro; refine And.intro (load_ints (by first | omega | (simp only [cnt1, ints_length, place1, List.length_set] at *; first | done | omega))) ?_; conv => whnf)
    | (apply Exists.intro; refine And.intro (StoreRow.ints _ (by first | omega | (simp only [cnt1, ints_length, place1, List.length_set] at *; first | done | omega))) ?_; conv => whnf)
    | (apply Exists.intro; refine And.intro (sub_ints (by first | rfl | omega | (simp only [cnt1, ints_length, place1, List.length_set] at *; first | done | omega))) ?_; conv => whnf)
    | (apply Exists.intro; refine And.intro (sub_ints' _ _ _) ?_; conv => whnf)
    | (apply Exists.intro; refine And.intro rfl ?_; conv => whnf)
    | (refine And.intro (fun h => ?_) (fun h => ?_) <;> (try simp only [cnt1, ints_length] at h) <;> conv => whnf)
    | (refine Or.inl ?_; conv => whnf)
    | fail
  all_goals exact dbool_congr (by simp_all)
theorem c81 (a m : Int) (d : D) (h1 : inR .i64 (m - 1)) : PureCall Try.prog 81 [dint a, .cptr [dint m, d] 0] (dbool (inB a 0 (m - 1))) := by
  refine pure_of_vc Try.tabOk mix Try.func81 rfl rfl ?_
  conv => whnf
  repeat' first
    | (refine And.intro (Or.inl rfl) ?_; conv => whnf)
    | (refine Or.inl (Exists.intro _ (And.intro (c82 _ _ h1) ?_)); conv => whnf)
    | (apply Exists.intro; refine And.intro (c82 _ _ h1) ?_; conv => whnf)
    | (refine And.intro (show slotsOk _ = true by decide +kernel) ?_; conv => whnf)
    | (refine And.intro rfl ?_; conv => whnf)
    | (refine And.intro (by assumption) ?_; conv => whnf)
    | (refine And.intro (ints_plain _) ?_; conv => whnf)
    | (refine And.intro (inR64 (by first | omega | (simp only [cnt1, ints_length, place1, List.length_set] at *; first | done | omega)) (by first | omega | (simp only [cnt1, ints_length, place1, List.length_set] at *; first | done | omega))) ?_; conv => whnf)
    | (refine And.intro (by first | omega | (simp only [cnt1, ints_length, place1, List.length_set] at *; first | done | omega)) ?_; conv => whnf)
    | (refine And.intro (And.intro (by first | omega | (simp only [cnt1, ints_length, place1, List.length_set] at *; first | done | omega)) (And.intro (by first | omega | (simp only [cnt1, ints_length, place1, List.length_set] at *; first | done | omega)) (room8 rfl (by first | omega | (simp only [cnt1, ints_length, place1, List.length_set] at *; first | done | omega))))) ?_; conv => whnf)
    | (apply Exists.intro; refine And.intro (ints_get (by first | omega | (simp only [cnt1, ints_length, place1, List.length_set] at *; first | done | omega))) ?_; conv => whnf)
    | (apply Exists.intro; refine And.intro (load_ints (by first | omega | (simp only [cnt1, ints_length, place1, List.length_set] at *; first | done | omega))) ?_; conv => whnf)
    | (apply Exists.intro; refine And.intro (StoreRow.ints _ (by first | omega | (simp only [cnt1, ints_length, place1, List.length_set] at *; first | done | omega))) ?_; conv => whnf)
    | (apply Exists.intro; refine And.intro (sub_ints (by first | rfl | omega | (simp only [cnt1, ints_length, place1, List.length_set] at *; first | done | omega))) ?_; conv => whnf)
    | (apply Exists.intro; refine And.intro (sub_ints' _ _ _) ?_; conv => whnf)
    | (apply Exists.intro; refine And.intro rfl ?_; conv => whnf)
    | (refine And.intro (fun h => ?_) (fun h => ?_) <;> (try simp only [cnt1, ints_length] at h) <;> conv => whnf)
    | (refine Or.inl ?_; conv => whnf)
    | fail
  all_goals (refine dbool_congr ?_; first | rfl | (simp_all; done) | (simp_all [inB]; done) | (simp_all [inB]; omega))
theorem c34 (m : Int) (l : List Int) (hl : l.length < 1048577) : PureCall Try.prog 34 [.agg [dint m, .list false 1 (ints l)]] (dbool (inB m 2 10000 && inB l.length 2 11 && numsB m l && decide (l.getD 0 0 = 1))) := by
  refine pure_of_vc Try.tabOk mix Try.func34 rfl rfl ?_
  conv => whnf
  repeat' first
    | (refine And.intro (Or.inl rfl) ?_; conv => whnf)
    | (refine Or.inl (Exists.intro _ (And.intro (c63 m l hl) ?_)); conv => whnf)
    | (apply Exists.intro; refine And.intro (c63 m l hl) ?_; conv => whnf)
    | (refine And.intro (show slotsOk _ = true by decide +kernel) ?_; conv => whnf)
    | (refine And.intro rfl ?_; conv => whnf)
    | (refine And.intro (by assumption) ?_; conv => whnf)
    | (refine And.intro (ints_plain _) ?_; conv => whnf)
    | (refine And.intro (inR64 (by first | omega | (simp only [cnt1, ints_length, place1, List.length_set] at *; first | done | omega)) (by first | omega | (simp only [cnt1, ints_length, place1, List.length_set] at *; first | done | omega))) ?_; conv => whnf)
    | (refine And.intro (by first | omega | (simp only [cnt1, ints_length, place1, List.length_set] at *; first | done | omega)) ?_; conv => whnf)
    | (refine And.intro (And.intro (by first | omega | (simp only [cnt1, ints_length, place1, List.length_set] at *; first | done | omega)) (And.intro (by first | omega | (simp only [cnt1, ints_length, place1, List.length_set] at *; first | done | omega)) (room8 rfl (by first | omega | (simp only [cnt1, ints_length, place1, List.length_set] at *; first | done | omega))))) ?_; conv => whnf)
    | (apply Exists.intro; refine And.intro (ints_get (by first | omega | (simp only [cnt1, ints_length, place1, List.length_set] at *; first | done | omega))) ?_; conv => whnf)
    | (apply Exists.intro; refine And.intro (load_ints (by first | omega | (simp only [cnt1, ints_length, place1, List.length_set] at *; first | done | omega))) ?_; conv => whnf)
    | (apply Exists.intro; refine And.intro (StoreRow.ints _ (by first | omega | (simp only [cnt1, ints_length, place1, List.length_set] at *; first | done | omega))) ?_; conv => whnf)
    | (apply Exists.intro; refine And.intro (sub_ints (by first | rfl | omega | (simp only [cnt1, ints_length, place1, List.length_set] at *; first | done | omega))) ?_; conv => whnf)
    | (apply Exists.intro; refine And.intro (sub_ints' _ _ _) ?_; conv => whnf)
    | (apply Exists.intro; refine And.intro rfl ?_; conv => whnf)
    | (refine And.intro (fun h => ?_) (fun h => ?_) <;> (try simp only [cnt1, ints_length] at h) <;> conv => whnf)
    | (refine Or.inl ?_; conv => whnf)
    | fail
  · simp only [Bool.and_eq_true, inB, decide_eq_true_eq] at h
    repeat' first
      | (refine And.intro (Or.inl rfl) ?_; conv => whnf)
      | (refine Or.inl (Exists.intro _ (And.intro (c63 m l hl) ?_)); conv => whnf)
      | (apply Exists.intro; refine And.intro (c63 m l hl) ?_; conv => whnf)
      | (refine And.intro (show slotsOk _ = true by decide +kernel) ?_; conv => whnf)
      | (refine And.intro rfl ?_; conv => whnf)
      | (refine And.intro (by assumption) ?_; conv => whnf)
      | (refine And.intro (ints_plain _) ?_; conv => whnf)
      | (refine And.intro (inR64 (by first | omega | (simp only [cnt1, ints_length, place1, List.length_set] at *; first | done | omega)) (by first | omega | (simp only [cnt1, ints_length, place1, List.length_set] at *; first | done | omega))) ?_; conv => whnf)
      | (refine And.intro (by first | omega | (simp only [cnt1, ints_length, place1, List.length_set] at *; first | done | omega)) ?_; conv => whnf)
      | (refine And.intro (And.intro (by first | omega | (simp only [cnt1, ints_length, place1, List.length_set] at *; first | done | omega)) (And.intro (by first | omega | (simp only [cnt1, ints_length, place1, List.length_set] at *; first | done | omega)) (room8 rfl (by first | omega | (simp only [cnt1, ints_length, place1, List.length_set] at *; first | done | omega))))) ?_; conv => whnf)
      | (apply Exists.intro; refine And.intro (ints_get (by first | omega | (simp only [cnt1, ints_length, place1, List.length_set] at *; first | done | omega))) ?_; conv => whnf)
      | (apply Exists.intro; refine And.intro (load_ints (by first | omega | (simp only [cnt1, ints_length, place1, List.length_set] at *; first | done | omega))) ?_; conv => whnf)
      | (apply Exists.intro; refine And.intro (StoreRow.ints _ (by first | omega | (simp only [cnt1, ints_length, place1, List.length_set] at *; first | done | omega))) ?_; conv => whnf)
      | (apply Exists.intro; refine And.intro (sub_ints (by first | rfl | omega | (simp only [cnt1, ints_length, place1, List.length_set] at *; first | done | omega))) ?_; conv => whnf)
      | (apply Exists.intro; refine And.intro (sub_ints' _ _ _) ?_; conv => whnf)
      | (apply Exists.intro; refine And.intro rfl ?_; conv => whnf)
      | (refine And.intro (fun h => ?_) (fun h => ?_) <;> (try simp only [cnt1, ints_length] at h) <;> conv => whnf)
      | (refine Or.inl ?_; conv => whnf)
      | fail
    all_goals (refine dbool_congr ?_; simp_all [place1, inB])
  · refine dbool_congr ?_; simp_all
theorem c77 (g : Nat) (ds : List D) (p : Int → Bool) (hp : ∀ x, PureCall Try.prog g [dint x, .cptr ds 0] (dbool (p x))) (x : Int) :
    PureCall Try.prog 77 [dint x, .cptr [.fn (.func g) [] [.cptr ds 0]] 0] (dbool (!p x)) := by
  refine pure_of_vc Try.tabOk mix Try.func77 rfl rfl ?_
  conv => whnf
  repeat' first
    | (refine And.intro (Or.inl rfl) ?_; conv => whnf)
    | (refine Or.inl (Exists.intro _ (And.intro (hp x) ?_)); conv => whnf)
    | (apply Exists.intro; refine And.intro (hp x) ?_; conv => whnf)
    | (refine And.intro (show slotsOk _ = true by decide +kernel) ?_; conv => whnf)
    | (refine And.intro rfl ?_; conv => whnf)
    | (refine And.intro (by assumption) ?_; conv => whnf)
    | (refine And.intro (ints_plain _) ?_; conv => whnf)
    | (refine And.intro (inR64 (by first | omega | (simp only [cnt1, ints_length, place1, List.length_set] at *; first | done | omega)) (by first | omega | (simp only [cnt1, ints_length, place1, List.length_set] at *; first | done | omega))) ?_; conv => whnf)
    | (refine And.intro (by first | omega | (simp only [cnt1, ints_length, place1, List.length_set] at *; first | done | omega)) ?_; conv => whnf)
    | (refine And.intro (And.intro (by first | omega | (simp only [cnt1, ints_length, place1, List.length_set] at *; first | done | omega)) (And.intro (by first | omega | (simp only [cnt1, ints_length, place1, List.length_set] at *; first | done | omega)) (room8 rfl (by first | omega | (simp only [cnt1, ints_length, place1, List.length_set] at *; first | done | omega))))) ?_; conv => whnf)
    | (apply Exists.intro; refine And.intro (ints_get (by first | omega | (simp only [cnt1, ints_length, place1, List.length_set] at *; first | done | omega))) ?_; conv => whnf)
    | (apply Exists.intro; refine And.intro (load_ints (by first | omega | (simp only [cnt1, ints_length, place1, List.length_set] at *; first | done | omega))) ?_; conv => whnf)
    | (apply Exists.intro; refine And.intro (StoreRow.ints _ (by first | omega | (simp only [cnt1, ints_length, place1, List.length_set] at *; first | done | omega))) ?_; conv => whnf)
    | (apply Exists.intro; refine And.intro (sub_ints (by first | rfl | omega | (simp only [cnt1, ints_length, place1, List.length_set] at *; first | done | omega))) ?_; conv => whnf)
    | (apply Exists.intro; refine And.intro (sub_ints' _ _ _) ?_; conv => whnf)
    | (apply Exists.intro; refine And.intro rfl ?_; conv => whnf)
    | (refine And.intro (fun h => ?_) (fun h => ?_) <;> (try simp only [cnt1, ints_length] at h) <;> conv => whnf)
    | (refine Or.inl ?_; conv => whnf)
    | fail
  all_goals (refine dbool_congr ?_; simp_all)
theorem c89 (g : Nat) (ds : List D) (p : Int → Bool) (hp : ∀ x, PureCall Try.prog g [dint x, .cptr ds 0] (dbool (p x))) (l : List Int) (hl : l.length < 1048577) :
    PureCall Try.prog 89 [.list false 1 (ints l), .fn (.func g) [] [.cptr ds 0]] (dint (match l.findIdx? p with | some i => i | none => -1)) := by
  refine pure_of_vc Try.tabOk mix Try.func89 rfl rfl ?_
  conv => whnf
  repeat' first
    | (refine And.intro (Or.inl rfl) ?_; conv => whnf)
    | (refine And.intro (show slotsOk _ = true by decide +kernel) ?_; conv => whnf)
    | (refine And.intro rfl ?_; conv => whnf)
    | (refine And.intro (by assumption) ?_; conv => whnf)
    | (refine And.intro (ints_plain _) ?_; conv => whnf)
    | (refine And.intro (inR64 (by first | omega | (simp only [cnt1, ints_length, place1, List.length_set] at *; first | done | omega)) (by first | omega | (simp only [cnt1, ints_length, place1, List.length_set] at *; first | done | omega))) ?_; conv => whnf)
    | (refine And.intro (by first | omega | (simp only [cnt1, ints_length, place1, List.length_set] at *; first | done | omega)) ?_; conv => whnf)
    | (refine And.intro (And.intro (by first | omega | (simp only [cnt1, ints_length, place1, List.length_set] at *; first | done | omega)) (And.intro (by first | omega | (simp only [cnt1, ints_length, place1, List.length_set] at *; first | done | omega)) (room8 rfl (by first | omega | (simp only [cnt1, ints_length, place1, List.length_set] at *; first | done | omega))))) ?_; conv => whnf)
    | (apply Exists.intro; refine And.intro (ints_get (by first | omega | (simp only [cnt1, ints_length, place1, List.length_set] at *; first | done | omega))) ?_; conv => whnf)
    | (apply Exists.intro; refine And.intro (load_ints (by first | omega | (simp only [cnt1, ints_length, place1, List.length_set] at *; first | done | omega))) ?_; conv => whnf)
    | (apply Exists.intro; refine And.intro (StoreRow.ints _ (by first | omega | (simp only [cnt1, ints_length, place1, List.length_set] at *; first | done | omega))) ?_; conv => whnf)
    | (apply Exists.intro; refine And.intro (sub_ints (by first | rfl | omega | (simp only [cnt1, ints_length, place1, List.length_set] at *; first | done | omega))) ?_; conv => whnf)
    | (apply Exists.intro; refine And.intro (sub_ints' _ _ _) ?_; conv => whnf)
    | (apply Exists.intro; refine And.intro rfl ?_; conv => whnf)
    | (refine And.intro (fun h => ?_) (fun h => ?_) <;> (try simp only [cnt1, ints_length] at h) <;> conv => whnf)
    | (refine Or.inl ?_; conv => whnf)
    | fail
  refine loop_rule Try.tabOk mix (α := Nat) (fun i => ⟨[.list false 1 (ints l), .fn (.func g) [] [.cptr ds 0], .undef, .undef, .undef, .undef, .undef, dint l.length, dint i] ++ List.replicate 10 .undef, []⟩)
    (fun i => i ≤ l.length ∧ ∀ j, j < i → p (l.getD j 0) = false) (fun i => l.length - i) 0 ⟨by omega, by omega⟩ ?_ (fun i hi => ?_)
  · refine Weak.of [] ?_
    conv => whnf
    repeat' first
      | (refine And.intro rfl ?_; conv => whnf)
      | (refine And.intro (by first | omega | (simp only [cnt1, ints_length] at *; first | done | omega)) ?_; conv => whnf)
      | (refine And.intro (eqV_int (by first | rfl | omega | (simp only [cnt1, ints_length, place1, List.length_set] at *; first | done | omega))) ?_; conv => whnf)
      | (refine And.intro (Eq.trans (replN_ints _ 0) (by simp [cnt1])) ?_; conv => whnf)
      | exact trivial
      | fail
  conv => whnf
  repeat' first
    | (refine And.intro (Or.inl rfl) ?_; conv => whnf)
    | (refine Or.inl (Exists.intro _ (And.intro (hp _) ?_)); conv => whnf)
    | (apply Exists.intro; refine And.intro (hp _) ?_; conv => whnf)
    | (refine And.intro (show slotsOk _ = true by decide +kernel) ?_; conv => whnf)
    | (refine And.intro rfl ?_; conv => whnf)
    | (refine And.intro (by assumption) ?_; conv => whnf)
    | (refine And.intro (ints_plain _) ?_; conv => whnf)
    | (refine And.intro (inR64 (by first | omega | (simp only [cnt1, ints_length, place1, List.length_set] at *; first | done | omega)) (by first | omega | (simp only [cnt1, ints_length, place1, List.length_set] at *; first | done | omega))) ?_; conv => whnf)
    | (refine And.intro (by first | omega | (simp only [cnt1, ints_length, place1, List.length_set] at *; first | done | omega)) ?_; conv => whnf)
    | (refine And.intro (And.intro (by first | omega | (simp only [cnt1, ints_length, place1, List.length_set] at *; first | done | omega)) (And.intro (by first | omega | (simp only [cnt1, ints_length, place1, List.length_set] at *; first | done | omega)) (room8 rfl (by first | omega | (simp only [cnt1, ints_length, place1, List.length_set] at *; first | done | omega))))) ?_; conv => whnf)
    | (apply Exists.intro; refine And.intro (ints_get (by first | omega | (simp only [cnt1, ints_length, place1, List.length_set] at *; first | done | omega))) ?_; conv => whnf)
    | (apply Exists.intro; refine And.intro (load_ints (by first | omega | (simp only [cnt1, ints_length, place1, List.length_set] at *; first | done | omega))) ?_; conv => whnf)
    | (apply Exists.intro; refine And.intro (StoreRow.ints _ (by first | omega | (simp only [cnt1, ints_length, place1, List.length_set] at *; first | done | omega))) ?_; conv => whnf)
    | (apply Exists.intro; refine And.intro (sub_ints (by first | rfl | omega | (simp only [cnt1, ints_length, place1, List.length_set] at *; first | done | omega))) ?_; conv => whnf)
    | (apply Exists.intro; refine And.intro (sub_ints' _ _ _) ?_; conv => whnf)
    | (apply Exists.intro; refine And.intro rfl ?_; conv => whnf)
    | (refine And.intro (fun h => ?_) (fun h => ?_) <;> (try simp only [cnt1, ints_length] at h) <;> conv => whnf)
    | (refine Or.inl ?_; conv => whnf)
    | fail
  · refine congrArg dint ?_
    simp only [place1, Int.toNat_natCast, Nat.zero_add] at *
    have : l.findIdx? p = some i := List.findIdx?_eq_some_iff_getElem.2 ⟨by omega, by simpa [show i < l.length by omega] using h, fun j hj => by have := hi.2 j hj; simpa [show j < l.length by omega] using this⟩
    rw [this]
  · refine Exists.intro (i + 1) (And.intro ⟨by omega, fun j hj => ?_⟩ (And.intro (by omega) ?_))
    · simp only [place1, Int.toNat_natCast, Nat.zero_add] at *
      rcases Nat.lt_or_ge j i with h' | h'
      · exact hi.2 j h'
      · have : j = i := by omega
        subst this
        exact h
    · refine Weak.of [] ?_
      conv => whnf
      repeat' first
        | (refine And.intro rfl ?_; conv => whnf)
        | (refine And.intro (by first | omega | (simp only [cnt1, ints_length] at *; first | done | omega)) ?_; conv => whnf)
        | (refine And.intro (eqV_int (by first | rfl | omega | (simp only [cnt1, ints_length, place1, List.length_set] at *; first | done | omega))) ?_; conv => whnf)
        | (refine And.intro (Eq.trans (replN_ints _ 0) (by simp [cnt1])) ?_; conv => whnf)
        | exact trivial
        | fail
  · refine congrArg dint ?_
    have : l.findIdx? p = none := List.findIdx?_eq_none_iff.2 (fun x hx => by
      obtain ⟨j, hj, rfl⟩ := List.getElem_of_mem hx
      have := hi.2 j (by omega)
      simpa [hj] using this)
    rw [this]
theorem c76 (g : Nat) (ds : List D) (p : Int → Bool) (hp : ∀ x, PureCall Try.prog g [dint x, .cptr ds 0] (dbool (p x))) (l : List Int) (hl : l.length < 1048577) :
    PureCall Try.prog 76 [.list false 1 (ints l), .fn (.func g) [] [.cptr ds 0]] (dbool (l.any p)) := by
  refine pure_of_vc Try.tabOk mix Try.func76 rfl rfl ?_
  conv => whnf
  repeat' first
    | (refine And.intro (Or.inl rfl) ?_; conv => whnf)
    | (refine Or.inl (Exists.intro _ (And.intro (c89 g ds p hp l hl) ?_)); conv => whnf)
    | (apply Exists.intro; refine And.intro (c89 g ds p hp l hl) ?_; conv => whnf)
    | (refine And.intro (show slotsOk _ = true by decide +kernel) ?_; conv => whnf)
    | (refine And.intro rfl ?_; conv => whnf)
    | (refine And.intro (by assumption) ?_; conv => whnf)
    | (refine And.intro (ints_plain _) ?_; conv => whnf)
    | (refine And.intro (inR64 (by first | omega | (simp only [cnt1, ints_length, place1, List.length_set] at *; first | done | omega)) (by first | omega | (simp only [cnt1, ints_length, place1, List.length_set] at *; first | done | omega))) ?_; conv => whnf)
    | (refine And.intro (by first | omega | (simp only [cnt1, ints_length, place1, List.length_set] at *; first | done | omega)) ?_; conv => whnf)
    | (refine And.intro (And.intro (by first | omega | (simp only [cnt1, ints_length, place1, List.length_set] at *; first | done | omega)) (And.intro (by first | omega | (simp only [cnt1, ints_length, place1, List.length_set] at *; first | done | omega)) (room8 rfl (by first | omega | (simp only [cnt1, ints_length, place1, List.length_set] at *; first | done | omega))))) ?_; conv => whnf)
    | (apply Exists.intro; refine And.intro (ints_get (by first | omega | (simp only [cnt1, ints_length, place1, List.length_set] at *; first | done | omega))) ?_; conv => whnf)
    | (apply Exists.intro; refine And.intro (load_ints (by first | omega | (simp only [cnt1, ints_length, place1, List.length_set] at *; first | done | omega))) ?_; conv => whnf)
    | (apply Exists.intro; refine And.intro (StoreRow.ints _ (by first | omega | (simp only [cnt1, ints_length, place1, List.length_set] at *; first | done | omega))) ?_; conv => whnf)
    | (apply Exists.intro; refine And.intro (sub_ints (by first | rfl | omega | (simp only [cnt1, ints_length, place1, List.length_set] at *; first | done | omega))) ?_; conv => whnf)
    | (apply Exists.intro; refine And.intro (sub_ints' _ _ _) ?_; conv => whnf)
    | (apply Exists.intro; refine And.intro rfl ?_; conv => whnf)
    | (refine And.intro (fun h => ?_) (fun h => ?_) <;> (try simp only [cnt1, ints_length] at h) <;> conv => whnf)
    | (refine Or.inl ?_; conv => whnf)
    | fail
  all_goals
    refine dbool_congr ?_
    cases e : l.findIdx? p with
    | none =>
      simp only [e] at h
      have := List.findIdx?_eq_none_iff.1 e
      simp_all
    | some i =>
      simp only [e] at h
      obtain ⟨hi, hp, _⟩ := List.findIdx?_eq_some_iff_getElem.1 e
      have : l.any p = true := List.any_eq_true.2 ⟨_, List.getElem_mem hi, hp⟩
      first | (rw [this]; done) | omega
theorem c56 (g : Nat) (ds : List D) (p : Int → Bool) (hp : ∀ x, PureCall Try.prog g [dint x, .cptr ds 0] (dbool (p x))) (l : List Int) (hl : l.length < 1048577) :
    PureCall Try.prog 56 [.list false 1 (ints l), .fn (.func g) [] [.cptr ds 0]] (dbool (l.all p)) := by
  refine pure_of_vc Try.tabOk mix Try.func56 rfl rfl ?_
  conv => whnf
  repeat' first
    | (refine And.intro (Or.inl rfl) ?_; conv => whnf)
    | (refine Or.inl (Exists.intro _ (And.intro (c76 77 [.fn (.func g) [] [.cptr ds 0]] (fun x => !p x) (fun x => c77 g ds p hp x) l hl) ?_)); conv => whnf)
    | (apply Exists.intro; refine And.intro (c76 77 [.fn (.func g) [] [.cptr ds 0]] (fun x => !p x) (fun x => c77 g ds p hp x) l hl) ?_; conv => whnf)
    | (refine And.intro (show slotsOk _ = true by decide +kernel) ?_; conv => whnf)
    | (refine And.intro rfl ?_; conv => whnf)
    | (refine And.intro (by assumption) ?_; conv => whnf)
    | (refine And.intro (ints_plain _) ?_; conv => whnf)
    | (refine And.intro (inR64 (by first | omega | (simp only [cnt1, ints_length, place1, List.length_set] at *; first | done | omega)) (by first | omega | (simp only [cnt1, ints_length, place1, List.length_set] at *; first | done | omega))) ?_; conv => whnf)
    | (refine And.intro (by first | omega | (simp only [cnt1, ints_length, place1, List.length_set] at *; first | done | omega)) ?_; conv => whnf)
    | (refine And.intro (And.intro (by first | omega | (simp only [cnt1, ints_length, place1, List.length_set] at *; first | done | omega)) (And.intro (by first | omega | (simp only [cnt1, ints_length, place1, List.length_set] at *; first | done | omega)) (room8 rfl (by first | omega | (simp only [cnt1, ints_length, place1, List.length_set] at *; first | done | omega))))) ?_; conv => whnf)
    | (apply Exists.intro; refine And.intro (ints_get (by first | omega | (simp only [cnt1, ints_length, place1, List.length_set] at *; first | done | omega))) ?_; conv => whnf)
    | (apply Exists.intro; refine And.intro (load_ints (by first | omega | (simp only [cnt1, ints_length, place1, List.length_set] at *; first | done | omega))) ?_; conv => whnf)
    | (apply Exists.intro; refine And.intro (StoreRow.ints _ (by first | omega | (simp only [cnt1, ints_length, place1, List.length_set] at *; first | done | omega))) ?_; conv => whnf)
    | (apply Exists.intro; refine And.intro (sub_ints (by first | rfl | omega | (simp only [cnt1, ints_length, place1, List.length_set] at *; first | done | omega))) ?_; conv => whnf)
    | (apply Exists.intro; refine And.intro (sub_ints' _ _ _) ?_; conv => whnf)
    | (apply Exists.intro; refine And.intro rfl ?_; conv => whnf)
    | (refine And.intro (fun h => ?_) (fun h => ?_) <;> (try simp only [cnt1, ints_length] at h) <;> conv => whnf)
    | (refine Or.inl ?_; conv => whnf)
    | fail
  all_goals
    refine dbool_congr ?_
    rw [List.all_eq_not_any_not]
    simp_all
theorem c64 (m : Int) (l : List Int) (hl : l.length < 1048577) : PureCall Try.prog 64 [.agg [dint m, .list false 1 (ints l)]] (dbool (inB m 2 10000 && inB l.length 2 11 && numsB m l)) := by
  refine pure_of_vc Try.tabOk mix Try.func64 rfl rfl ?_
  conv => whnf
  repeat' first
    | (refine And.intro (Or.inl rfl) ?_; conv => whnf)
    | (refine Or.inl (Exists.intro _ (And.intro (c40 _) ?_)); conv => whnf)
    | (apply Exists.intro; refine And.intro (c40 _) ?_; conv => whnf)
    | (refine Or.inl (Exists.intro _ (And.intro (c41 _ _ _) ?_)); conv => whnf)
    | (apply Exists.intro; refine And.intro (c41 _ _ _) ?_; conv => whnf)
    | (refine Or.inl (Exists.intro _ (And.intro (c74 _ _ (by omega)) ?_)); conv => whnf)
    | (apply Exists.intro; refine And.intro (c74 _ _ (by omega)) ?_; conv => whnf)
    | (refine Or.inl (Exists.intro _ (And.intro (c56 81 [dint m, .list false 1 (ints l)] (fun a => inB a 0 (m - 1)) (fun a => c81 a m _ (h1of (by assumption))) l hl) ?_)); conv => whnf)
    | (apply Exists.intro; refine And.intro (c56 81 [dint m, .list false 1 (ints l)] (fun a => inB a 0 (m - 1)) (fun a => c81 a m _ (h1of (by assumption))) l hl) ?_; conv => whnf)
    | (refine And.intro (show slotsOk _ = true by decide +kernel) ?_; conv => whnf)
    | (refine And.intro rfl ?_; conv => whnf)
    | (refine And.intro (by assumption) ?_; conv => whnf)
    | (refine And.intro (ints_plain _) ?_; conv => whnf)
    | (refine And.intro (inR64 (by first | omega | (simp only [cnt1, ints_length, place1, List.length_set] at *; first | done | omega)) (by first | omega | (simp only [cnt1, ints_length, place1, List.length_set] at *; first | done | omega))) ?_; conv => whnf)
    | (refine And.intro (by first | omega | (simp only [cnt1, ints_length, place1, List.length_set] at *; first | done | omega)) ?_; conv => whnf)
    | (refine And.intro (And.intro (by first | omega | (simp only [cnt1, ints_length, place1, List.length_set] at *; first | done | omega)) (And.intro (by first | omega | (simp only [cnt1, ints_length, place1, List.length_set] at *; first | done | omega)) (room8 rfl (by first | omega | (simp only [cnt1, ints_length, place1, List.length_set] at *; first | done | omega))))) ?_; conv => whnf)
    | (apply Exists.intro; refine And.intro (ints_get (by first | omega | (simp only [cnt1, ints_length, place1, List.length_set] at *; first | done | omega))) ?_; conv => whnf)
    | (apply Exists.intro; refine And.intro (load_ints (by first | omega | (simp only [cnt1, ints_length, place1, List.length_set] at *; first | done | omega))) ?_; conv => whnf)
    | (apply Exists.intro; refine And.intro (StoreRow.ints _ (by first | omega | (simp only [cnt1, ints_length, place1, List.length_set] at *; first | done | omega))) ?_; conv => whnf)
    | (apply Exists.intro; refine And.intro (sub_ints (by first | rfl | omega | (simp only [cnt1, ints_length, place1, List.length_set] at *; first | done | omega))) ?_; conv => whnf)
    | (apply Exists.intro; refine And.intro (sub_ints' _ _ _) ?_; conv => whnf)
    | (apply Exists.intro; refine And.intro rfl ?_; conv => whnf)
    | (refine And.intro (fun h => ?_) (fun h => ?_) <;> (try simp only [cnt1, ints_length] at h) <;> conv => whnf)
    | (refine Or.inl ?_; conv => whnf)
    | fail
  all_goals (refine dbool_congr ?_; simp_all [numsB, inB])
  all_goals (intros; omega)
theorem c10 (m : Int) (l : List Int) (hl : l.length < 1048577) : PureCall Try.prog 10 [.agg [dint m, .list false 1 (ints l)]] (dbool (inB m 2 10000 && inB l.length 2 11 && numsB m l && decide (l.getD 0 0 = 1))) := by
  refine pure_of_vc Try.tabOk mix Try.func10 rfl rfl ?_
  conv => whnf
  repeat' first
    | (refine And.intro (Or.inl rfl) ?_; conv => whnf)
    | (refine Or.inl (Exists.intro _ (And.intro (c34 m l hl) ?_)); conv => whnf)
    | (apply Exists.intro; refine And.intro (c34 m l hl) ?_; conv => whnf)
    | (refine And.intro (show slotsOk _ = true by decide +kernel) ?_; conv => whnf)
    | (refine And.intro rfl ?_; conv => whnf)
    | (refine And.intro (by assumption) ?_; conv => whnf)
    | (refine And.intro (ints_plain _) ?_; conv => whnf)
    | (refine And.intro (inR64 (by first | omega | (simp only [cnt1, ints_length, place1, List.length_set] at *; first | done | omega)) (by first | omega | (simp only [cnt1, ints_length, place1, List.length_set] at *; first | done | omega))) ?_; conv => whnf)
    | (refine And.intro (by first | omega | (simp only [cnt1, ints_length, place1, List.length_set] at *; first | done | omega)) ?_; conv => whnf)
    | (refine And.intro (And.intro (by first | omega | (simp only [cnt1, ints_length, place1, List.length_set] at *; first | done | omega)) (And.intro (by first | omega | (simp only [cnt1, ints_length, place1, List.length_set] at *; first | done | omega)) (room8 rfl (by first | omega | (simp only [cnt1, ints_length, place1, List.length_set] at *; first | done | omega))))) ?_; conv => whnf)
    | (apply Exists.intro; refine And.intro (ints_get (by first | omega | (simp only [cnt1, ints_length, place1, List.length_set] at *; first | done | omega))) ?_; conv => whnf)
    | (apply Exists.intro; refine And.intro (load_ints (by first | omega | (simp only [cnt1, ints_length, place1, List.length_set] at *; first | done | omega))) ?_; conv => whnf)
    | (apply Exists.intro; refine And.intro (StoreRow.ints _ (by first | omega | (simp only [cnt1, ints_length, place1, List.length_set] at *; first | done | omega))) ?_; conv => whnf)
    | (apply Exists.intro; refine And.intro (sub_ints (by first | rfl | omega | (simp only [cnt1, ints_length, place1, List.length_set] at *; first | done | omega))) ?_; conv => whnf)
    | (apply Exists.intro; refine And.intro (sub_ints' _ _ _) ?_; conv => whnf)
    | (apply Exists.intro; refine And.intro rfl ?_; conv => whnf)
    | (refine And.intro (fun h => ?_) (fun h => ?_) <;> (try simp only [cnt1, ints_length] at h) <;> conv => whnf)
    | (refine Or.inl ?_; conv => whnf)
    | fail
  all_goals (refine dbool_congr ?_; simp_all)
theorem c35 (m : Int) (l : List Int) (hl : l.length < 1048577) : PureCall Try.prog 35 [.agg [dint m, .list false 1 (ints l)]] (dbool (inB m 2 10000 && inB l.length 2 11 && numsB m l && decide (l.getD 0 0 = 1))) := by
  refine pure_of_vc Try.tabOk mix Try.func35 rfl rfl ?_
  conv => whnf
  repeat' first
    | (refine And.intro (Or.inl rfl) ?_; conv => whnf)
    | (refine Or.inl (Exists.intro _ (And.intro (c64 m l hl) ?_)); conv => whnf)
    | (apply Exists.intro; refine And.intro (c64 m l hl) ?_; conv => whnf)
    | (refine And.intro (show slotsOk _ = true by decide +kernel) ?_; conv => whnf)
    | (refine And.intro rfl ?_; conv => whnf)
    | (refine And.intro (by assumption) ?_; conv => whnf)
    | (refine And.intro (ints_plain _) ?_; conv => whnf)
    | (refine And.intro (inR64 (by first | omega | (simp only [cnt1, ints_length, place1, List.length_set] at *; first | done | omega)) (by first | omega | (simp only [cnt1, ints_length, place1, List.length_set] at *; first | done | omega))) ?_; conv => whnf)
    | (refine And.intro (by first | omega | (simp only [cnt1, ints_length, place1, List.length_set] at *; first | done | omega)) ?_; conv => whnf)
    | (refine And.intro (And.intro (by first | omega | (simp only [cnt1, ints_length, place1, List.length_set] at *; first | done | omega)) (And.intro (by first | omega | (simp only [cnt1, ints_length, place1, List.length_set] at *; first | done | omega)) (room8 rfl (by first | omega | (simp only [cnt1, ints_length, place1, List.length_set] at *; first | done | omega))))) ?_; conv => whnf)
    | (apply Exists.intro; refine And.intro (ints_get (by first | omega | (simp only [cnt1, ints_length, place1, List.length_set] at *; first | done | omega))) ?_; conv => whnf)
    | (apply Exists.intro; refine And.intro (load_ints (by first | omega | (simp only [cnt1, ints_length, place1, List.length_set] at *; first | done | omega))) ?_; conv => whnf)
    | (apply Exists.intro; refine And.intro (StoreRow.ints _ (by first | omega | (simp only [cnt1, ints_length, place1, List.length_set] at *; first | done | omega))) ?_; conv => whnf)
    | (apply Exists.intro; refine And.intro (sub_ints (by first | rfl | omega | (simp only [cnt1, ints_length, place1, List.length_set] at *; first | done | omega))) ?_; conv => whnf)
    | (apply Exists.intro; refine And.intro (sub_ints' _ _ _) ?_; conv => whnf)
    | (apply Exists.intro; refine And.intro rfl ?_; conv => whnf)
    | (refine And.intro (fun h => ?_) (fun h => ?_) <;> (try simp only [cnt1, ints_length] at h) <;> conv => whnf)
    | (refine Or.inl ?_; conv => whnf)
    | fail
  · simp only [Bool.and_eq_true, inB, decide_eq_true_eq] at h
    repeat' first
      | (refine And.intro (Or.inl rfl) ?_; conv => whnf)
      | (refine Or.inl (Exists.intro _ (And.intro (c64 m l hl) ?_)); conv => whnf)
      | (apply Exists.intro; refine And.intro (c64 m l hl) ?_; conv => whnf)
      | (refine And.intro (show slotsOk _ = true by decide +kernel) ?_; conv => whnf)
      | (refine And.intro rfl ?_; conv => whnf)
      | (refine And.intro (by assumption) ?_; conv => whnf)
      | (refine And.intro (ints_plain _) ?_; conv => whnf)
      | (refine And.intro (inR64 (by first | omega | (simp only [cnt1, ints_length, place1, List.length_set] at *; first | done | omega)) (by first | omega | (simp only [cnt1, ints_length, place1, List.length_set] at *; first | done | omega))) ?_; conv => whnf)
      | (refine And.intro (by first | omega | (simp only [cnt1, ints_length, place1, List.length_set] at *; first | done | omega)) ?_; conv => whnf)
      | (refine And.intro (And.intro (by first | omega | (simp only [cnt1, ints_length, place1, List.length_set] at *; first | done | omega)) (And.intro (by first | omega | (simp only [cnt1, ints_length, place1, List.length_set] at *; first | done | omega)) (room8 rfl (by first | omega | (simp only [cnt1, ints_length, place1, List.length_set] at *; first | done | omega))))) ?_; conv => whnf)
      | (apply Exists.intro; refine And.intro (ints_get (by first | omega | (simp only [cnt1, ints_length, place1, List.length_set] at *; first | done | omega))) ?_; conv => whnf)
      | (apply Exists.intro; refine And.intro (load_ints (by first | omega | (simp only [cnt1, ints_length, place1, List.length_set] at *; first | done | omega))) ?_; conv => whnf)
      | (apply Exists.intro; refine And.intro (StoreRow.ints _ (by first | omega | (simp only [cnt1, ints_length, place1, List.length_set] at *; first | done | omega))) ?_; conv => whnf)
      | (apply Exists.intro; refine And.intro (sub_ints (by first | rfl | omega | (simp only [cnt1, ints_length, place1, List.length_set] at *; first | done | omega))) ?_; conv => whnf)
      | (apply Exists.intro; refine And.intro (sub_ints' _ _ _) ?_; conv => whnf)
      | (apply Exists.intro; refine And.intro rfl ?_; conv => whnf)
      | (refine And.intro (fun h => ?_) (fun h => ?_) <;> (try simp only [cnt1, ints_length] at h) <;> conv => whnf)
      | (refine Or.inl ?_; conv => whnf)
      | fail
    all_goals (refine dbool_congr ?_; simp_all [place1, inB])
  · refine dbool_congr ?_; simp_all
theorem c12 (m : Int) (l : List Int) (hl : l.length < 1048577) : PureCall Try.prog 12 [.agg [dint m, .list false 1 (ints l)]] (dbool (inB m 2 10000 && inB l.length 2 11 && numsB m l && decide (l.getD 0 0 = 1))) := by
  refine pure_of_vc Try.tabOk mix Try.func12 rfl rfl ?_
  conv => whnf
  repeat' first
    | (refine And.intro (Or.inl rfl) ?_; conv => whnf)
    | (refine Or.inl (Exists.intro _ (And.intro (c35 m l hl) ?_)); conv => whnf)
    | (apply Exists.intro; refine And.intro (c35 m l hl) ?_; conv => whnf)
    | (refine And.intro (show slotsOk _ = true by decide +kernel) ?_; conv => whnf)
    | (refine And.intro rfl ?_; conv => whnf)
    | (refine And.intro (by assumption) ?_; conv => whnf)
    | (refine And.intro (ints_plain _) ?_; conv => whnf)
    | (refine And.intro (inR64 (by first | omega | (simp only [cnt1, ints_length, place1, List.length_set] at *; first | done | omega)) (by first | omega | (simp only [cnt1, ints_length, place1, List.length_set] at *; first | done | omega))) ?_; conv => whnf)
    | (refine And.intro (by first | omega | (simp only [cnt1, ints_length, place1, List.length_set] at *; first | done | omega)) ?_; conv => whnf)
    | (refine And.intro (And.intro (by first | omega | (simp only [cnt1, ints_length, place1, List.length_set] at *; first | done | omega)) (And.intro (by first | omega | (simp only [cnt1, ints_length, place1, List.length_set] at *; first | done | omega)) (room8 rfl (by first | omega | (simp only [cnt1, ints_length, place1, List.length_set] at *; first | done | omega))))) ?_; conv => whnf)
    | (apply Exists.intro; refine And.intro (ints_get (by first | omega | (simp only [cnt1, ints_length, place1, List.length_set] at *; first | done | omega))) ?_; conv => whnf)
    | (apply Exists.intro; refine And.intro (load_ints (by first | omega | (simp only [cnt1, ints_length, place1, List.length_set] at *; first | done | omega))) ?_; conv => whnf)
    | (apply Exists.intro; refine And.intro (StoreRow.ints _ (by first | omega | (simp only [cnt1, ints_length, place1, List.length_set] at *; first | done | omega))) ?_; conv => whnf)
    | (apply Exists.intro; refine And.intro (sub_ints (by first | rfl | omega | (simp only [cnt1, ints_length, place1, List.length_set] at *; first | done | omega))) ?_; conv => whnf)
    | (apply Exists.intro; refine And.intro (sub_ints' _ _ _) ?_; conv => whnf)
    | (apply Exists.intro; refine And.intro rfl ?_; conv => whnf)
    | (refine And.intro (fun h => ?_) (fun h => ?_) <;> (try simp only [cnt1, ints_length] at h) <;> conv => whnf)
    | (refine Or.inl ?_; conv => whnf)
    | fail
  all_goals (refine dbool_congr ?_; simp_all)
theorem c13 (m m' : Int) (l l' : List Int) (hl : l.length < 1048577) : PureCall Try.prog 13 [.agg [dint m, .list false 1 (ints l)], .agg [dint m', .list false 1 (ints l')]] (dbool (decide (m = m') && decide (l = l'))) := by
  refine pure_of_vc Try.tabOk mix Try.func13 rfl rfl ?_
  conv => whnf
  repeat' first
    | (refine And.intro (Or.inl rfl) ?_; conv => whnf)
    | (refine Or.inl (Exists.intro _ (And.intro (c24 l l' hl) ?_)); conv => whnf)
    | (apply Exists.intro; refine And.intro (c24 l l' hl) ?_; conv => whnf)
    | (refine And.intro (show slotsOk _ = true by decide +kernel) ?_; conv => whnf)
    | (refine And.intro rfl ?_; conv => whnf)
    | (refine And.intro (by assumption) ?_; conv => whnf)
    | (refine And.intro (ints_plain _) ?_; conv => whnf)
    | (refine And.intro (inR64 (by first | omega | (simp only [cnt1, ints_length, place1, List.length_set] at *; first | done | omega)) (by first | omega | (simp only [cnt1, ints_length, place1, List.length_set] at *; first | done | omega))) ?_; conv => whnf)
    | (refine And.intro (by first | omega | (simp only [cnt1, ints_length, place1, List.length_set] at *; first | done | omega)) ?_; conv => whnf)
    | (refine And.intro (And.intro (by first | omega | (simp only [cnt1, ints_length, place1, List.length_set] at *; first | done | omega)) (And.intro (by first | omega | (simp only [cnt1, ints_length, place1, List.length_set] at *; first | done | omega)) (room8 rfl (by first | omega | (simp only [cnt1, ints_length, place1, List.length_set] at *; first | done | omega))))) ?_; conv => whnf)
    | (apply Exists.intro; refine And.intro (ints_get (by first | omega | (simp only [cnt1, ints_length, place1, List.length_set] at *; first | done | omega))) ?_; conv => whnf)
    | (apply Exists.intro; refine And.intro (load_ints (by first | omega | (simp only [cnt1, ints_length, place1, List.length_set] at *; first | done | omega))) ?_; conv => whnf)
    | (apply Exists.intro; refine And.intro (StoreRow.ints _ (by first | omega | (simp only [cnt1, ints_length, place1, List.length_set] at *; first | done | omega))) ?_; conv => whnf)
    | (apply Exists.intro; refine And.intro (sub_ints (by first | rfl | omega | (simp only [cnt1, ints_length, place1, List.length_set] at *; first | done | omega))) ?_; conv => whnf)
    | (apply Exists.intro; refine And.intro (sub_ints' _ _ _) ?_; conv => whnf)
    | (apply Exists.intro; refine And.intro rfl ?_; conv => whnf)
    | (refine And.intro (fun h => ?_) (fun h => ?_) <;> (try simp only [cnt1, ints_length] at h) <;> conv => whnf)
    | (refine Or.inl ?_; conv => whnf)
    | fail
  all_goals (refine dbool_congr ?_; simp_all)
theorem c3 (m : Int) (l : List Int) (hm1 : -9223372036854775808 ≤ m) (hm2 : m ≤ 9223372036854775807) (hl : l.length ≤ 9223372036854775807) : PureCall Try.prog 3 [.agg [dint m, .list false 1 (ints l)]] (dbool true) := by
  refine pure_of_vc Try.tabOk mix Try.func3 rfl rfl ?_
  conv => whnf
  repeat' first
    | (refine And.intro (Or.inl rfl) ?_; conv => whnf)
    | (refine Or.inl (Exists.intro _ (And.intro (c9 m l 1048576 rfl hl) ?_)); conv => whnf)
    | (apply Exists.intro; refine And.intro (c9 m l 1048576 rfl hl) ?_; conv => whnf)
    | (refine And.intro (show slotsOk _ = true by decide +kernel) ?_; conv => whnf)
    | (refine And.intro rfl ?_; conv => whnf)
    | (refine And.intro (by assumption) ?_; conv => whnf)
    | (refine And.intro (ints_plain _) ?_; conv => whnf)
    | (refine And.intro (inR64 (by first | omega | (simp only [cnt1, ints_length, place1, List.length_set] at *; first | done | omega)) (by first | omega | (simp only [cnt1, ints_length, place1, List.length_set] at *; first | done | omega))) ?_; conv => whnf)
    | (refine And.intro (by first | omega | (simp only [cnt1, ints_length, place1, List.length_set] at *; first | done | omega)) ?_; conv => whnf)
    | (refine And.intro (And.intro (by first | omega | (simp only [cnt1, ints_length, place1, List.length_set] at *; first | done | omega)) (And.intro (by first | omega | (simp only [cnt1, ints_length, place1, List.length_set] at *; first | done | omega)) (room8 rfl (by first | omega | (simp only [cnt1, ints_length, place1, List.length_set] at *; first | done | omega))))) ?_; conv => whnf)
    | (apply Exists.intro; refine And.intro (ints_get (by first | omega | (simp only [cnt1, ints_length, place1, List.length_set] at *; first | done | omega))) ?_; conv => whnf)
    | (apply Exists.intro; refine And.intro (load_ints (by first | omega | (simp only [cnt1, ints_length, place1, List.length_set] at *; first | done | omega))) ?_; conv => whnf)
    | (apply Exists.intro; refine And.intro (StoreRow.ints _ (by first | omega | (simp only [cnt1, ints_length, place1, List.length_set] at *; first | done | omega))) ?_; conv => whnf)
    | (apply Exists.intro; refine And.intro (sub_ints (by first | rfl | omega | (simp only [cnt1, ints_length, place1, List.length_set] at *; first | done | omega))) ?_; conv => whnf)
    | (apply Exists.intro; refine And.intro (sub_ints' _ _ _) ?_; conv => whnf)
    | (apply Exists.intro; refine And.intro rfl ?_; conv => whnf)
    | (refine And.intro (fun h => ?_) (fun h => ?_) <;> (try simp only [cnt1, ints_length] at h) <;> conv => whnf)
    | (refine Or.inl ?_; conv => whnf)
    | fail
  have hl' : l.length < 1048577 := by split at h <;> omega
  repeat' first
    | (refine And.intro (Or.inl rfl) ?_; conv => whnf)
    | (refine Or.inl (Exists.intro _ (And.intro (c11 m l hl') ?_)); conv => whnf)
    | (apply Exists.intro; refine And.intro (c11 m l hl') ?_; conv => whnf)
    | (refine Or.inl (Exists.intro _ (And.intro (c10 m l hl') ?_)); conv => whnf)
    | (apply Exists.intro; refine And.intro (c10 m l hl') ?_; conv => whnf)
    | (refine Or.inl (Exists.intro _ (And.intro (c12 m l hl') ?_)); conv => whnf)
    | (apply Exists.intro; refine And.intro (c12 m l hl') ?_; conv => whnf)
    | (refine Or.inl (Exists.intro _ (And.intro (c13 m m l l hl') ?_)); conv => whnf)
    | (apply Exists.intro; refine And.intro (c13 m m l l hl') ?_; conv => whnf)
    | (refine And.intro (show slotsOk _ = true by decide +kernel) ?_; conv => whnf)
    | (refine And.intro rfl ?_; conv => whnf)
    | (refine And.intro (by assumption) ?_; conv => whnf)
    | (refine And.intro (ints_plain _) ?_; conv => whnf)
    | (refine And.intro (inR64 (by first | omega | (simp only [cnt1, ints_length, place1, List.length_set] at *; first | done | omega)) (by first | omega | (simp only [cnt1, ints_length, place1, List.length_set] at *; first | done | omega))) ?_; conv => whnf)
    | (refine And.intro (by first | omega | (simp only [cnt1, ints_length, place1, List.length_set] at *; first | done | omega)) ?_; conv => whnf)
    | (refine And.intro (And.intro (by first | omega | (simp only [cnt1, ints_length, place1, List.length_set] at *; first | done | omega)) (And.intro (by first | omega | (simp only [cnt1, ints_length, place1, List.length_set] at *; first | done | omega)) (room8 rfl (by first | omega | (simp only [cnt1, ints_length, place1, List.length_set] at *; first | done | omega))))) ?_; conv => whnf)
    | (apply Exists.intro; refine And.intro (ints_get (by first | omega | (simp only [cnt1, ints_length, place1, List.length_set] at *; first | done | omega))) ?_; conv => whnf)
    | (apply Exists.intro; refine And.intro (load_ints (by first | omega | (simp only [cnt1, ints_length, place1, List.length_set] at *; first | done | omega))) ?_; conv => whnf)
    | (apply Exists.intro; refine And.intro (StoreRow.ints _ (by first | omega | (simp only [cnt1, ints_length, place1, List.length_set] at *; first | done | omega))) ?_; conv => whnf)
    | (apply Exists.intro; refine And.intro (sub_ints (by first | rfl | omega | (simp only [cnt1, ints_length, place1, List.length_set] at *; first | done | omega))) ?_; conv => whnf)
    | (apply Exists.intro; refine And.intro (sub_ints' _ _ _) ?_; conv => whnf)
    | (apply Exists.intro; refine And.intro rfl ?_; conv => whnf)
    | (refine And.intro (fun h => ?_) (fun h => ?_) <;> (try simp only [cnt1, ints_length] at h) <;> conv => whnf)
    | (refine Or.inl ?_; conv => whnf)
    | fail
  all_goals (exfalso; simp_all)
end Go.Proofs

