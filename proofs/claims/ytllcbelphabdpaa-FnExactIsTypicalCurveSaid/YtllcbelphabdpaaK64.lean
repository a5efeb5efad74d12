/- The operators of Frobenius: the reference. -/
-- tables
-- rec
import Derived.Test.YtllcbelphabdpaaK61
import Derived.Test.YtllcbelphabdpaaK63
namespace Go.Proofs
open Go Go.Vm Go.Fg Go.Fg.PS
set_option maxRecDepth 100000
set_option maxHeartbeats 4000000
set_option linter.unusedSimpArgs false
set_option linter.unusedVariables false
theorem c_l12Code (o p o1 : Bool) (m : Int) (t : List (List Int)) (ma : Int) (l : List Int) (n : Int) (hl : t.length ≤ 1048576) (hr : lensOk t) (h1 : l.length ≤ 1048576) :
    PureCall Try.prog 66 [.agg [dint m, .list o 1 (rows p t)], .agg [dint ma, .list o1 1 (ints l)], dint n] (dint (opC m t ma l n)) := by
  have hd : PureCall Try.prog 58 [.agg [dint m, .list o 1 (rows p t)]] (dint (t.length - 1)) := by
    refine pure_of_vcR Try.tabOk mixOrd Try.func58 rfl rfl ?_
    conv => whnf
    repeat' first
      | (refine And.intro (Or.inl rfl) ?_; conv => whnf)
      | (refine And.intro (fun h => ?_) (fun h => ?_) <;> (try simp only [cnt1, ints_length] at h) <;> conv => whnf)
      | (refine And.intro (show slotsOk _ = true by decide +kernel) ?_; conv => whnf)
      | (refine And.intro vOb ?_; conv => whnf)
      | (apply Exists.intro; refine And.intro vObt ?_; conv => whnf)
      | (apply Exists.intro; refine And.intro vObx ?_; conv => whnf)
      | (refine And.intro vArT ?_; conv => whnf)
      | (refine And.intro (inR64 vAr vAr) ?_; conv => whnf)
      | (refine Or.inl ?_; conv => whnf)
      | fail
    rw [cnt1, rows_length]
  refine pure_of_vcR Try.tabOk mixOrd Try.func66 rfl rfl ?_
  conv => whnf
  repeat' first
    | (refine And.intro (Or.inl rfl) ?_; conv => whnf)
    | (refine Or.inl (Or.inl (Exists.intro _ (And.intro (c_l04Code1 _ _ _ _ _ _ _ _ hl hr h1) ?_))); conv => whnf)
    | (refine Or.inl (Exists.intro _ (And.intro (c_l04Code1 _ _ _ _ _ _ _ _ hl hr h1) ?_)); conv => whnf)
    | (apply Exists.intro; refine And.intro (c_l04Code1 _ _ _ _ _ _ _ _ hl hr h1) ?_; conv => whnf)
    | (refine Or.inl (Or.inl (Exists.intro _ (And.intro (c_l01In _ _ _) ?_))); conv => whnf)
    | (refine Or.inl (Exists.intro _ (And.intro (c_l01In _ _ _) ?_)); conv => whnf)
    | (apply Exists.intro; refine And.intro (c_l01In _ _ _) ?_; conv => whnf)
    | (refine Or.inl (Or.inl (Exists.intro _ (And.intro (hd) ?_))); conv => whnf)
    | (refine Or.inl (Exists.intro _ (And.intro (hd) ?_)); conv => whnf)
    | (apply Exists.intro; refine And.intro (hd) ?_; conv => whnf)
    | (refine Or.inl (Or.inl (Exists.intro _ (And.intro ((show sub [dint ma, D.list false 1 (ints l)] 2 0 1 = [dint ma, D.list false 1 (ints l)] from rfl)) ?_))); conv => whnf)
    | (refine Or.inl (Exists.intro _ (And.intro ((show sub [dint ma, D.list false 1 (ints l)] 2 0 1 = [dint ma, D.list false 1 (ints l)] from rfl)) ?_)); conv => whnf)
    | (apply Exists.intro; refine And.intro ((show sub [dint ma, D.list false 1 (ints l)] 2 0 1 = [dint ma, D.list false 1 (ints l)] from rfl)) ?_; conv => whnf)
    | (refine And.intro (fun h => ?_) (fun h => ?_) <;> (try simp only [cnt1, ints_length] at h) <;> conv => whnf)
    | (refine And.intro (show slotsOk _ = true by decide +kernel) ?_; conv => whnf)
    | (refine And.intro vOb ?_; conv => whnf)
    | (apply Exists.intro; refine And.intro vObt ?_; conv => whnf)
    | (apply Exists.intro; refine And.intro vObx ?_; conv => whnf)
    | (refine And.intro vArT ?_; conv => whnf)
    | (refine And.intro ((show 1 * 2 ≤ 2 by omega)) ?_; conv => whnf)
    | (refine Or.inl ?_; conv => whnf)
    | fail
  all_goals (refine congrArg dint ?_; simp [opC]; simp_all)
theorem c_lfrob (o p o1 : Bool) (m : Int) (t : List (List Int)) (ma : Int) (l : List Int) (hc : cuC m t ma l = 0) (n : Nat) (hn : 2 ≤ n ∧ n ≤ 5) {Q : Int} (hQ : Q = n) :
    PureCall Try.prog 59 [dint m, .list o 1 (rows p t), .list o1 1 (ints l), dint Q] (LD true ((t.length - 1) / n + 1) (frS m t l n)) := by
  obtain ⟨hlw, hs, hm, hlen⟩ := cuC_0 hc
  subst hm
  have hp : plB m t = true := by simp only [lawB, Bool.and_eq_true] at hlw; exact hlw.1
  obtain ⟨hmd, h2, h3, _⟩ := plB_md hp
  have key := c_l12Frobenius hmd o1 o p n hn t.length (by omega) (rd2 m t) (rd m l) hQ
  rw [plB_T hp] at key
  have e1 : LD o1 t.length (rd m l) = .list o1 1 (ints l) := by
    unfold LD
    rw [hlen, ← serB_L' hs]
  rw [e1] at key
  exact key
theorem c_specFrobeniusUnder (o p o1 : Bool) (m : Int) (t : List (List Int)) (ma : Int) (l : List Int) (n : Int) (hl : t.length ≤ 1048576) (hr : lensOk t) (h1 : l.length ≤ 1048576) :
    PureCall Try.prog 31 [.agg [dint m, .list o 1 (rows p t)], .agg [dint ma, .list o1 1 (ints l)], dint n] (serRes m ((t.length - 1) / n.toNat + 1) (frS m t l n.toNat) (opC m t ma l n)) := by
  by_cases hc : opC m t ma l n = 0
  · obtain ⟨hcu, hn⟩ := opC_0 hc
    have hop := c_l12Code o p o1 m t ma l n hl hr h1
    rw [hc] at hop
    rw [serRes, if_pos hc]
    refine pure_of_vcR Try.tabOk mixOrd Try.func31 rfl rfl ?_
    conv => whnf
    repeat' first
      | (refine And.intro (Or.inl rfl) ?_; conv => whnf)
      | (refine Or.inl (Or.inl (Exists.intro _ (And.intro (hop) ?_))); conv => whnf)
      | (refine Or.inl (Exists.intro _ (And.intro (hop) ?_)); conv => whnf)
      | (apply Exists.intro; refine And.intro (hop) ?_; conv => whnf)
      | (refine Or.inl (Or.inl (Exists.intro _ (And.intro (c_lfrob _ _ _ _ _ _ _ hcu n.toNat (by omega) (by omega)) ?_))); conv => whnf)
      | (refine Or.inl (Exists.intro _ (And.intro (c_lfrob _ _ _ _ _ _ _ hcu n.toNat (by omega) (by omega)) ?_)); conv => whnf)
      | (apply Exists.intro; refine And.intro (c_lfrob _ _ _ _ _ _ _ hcu n.toNat (by omega) (by omega)) ?_; conv => whnf)
      | (refine Or.inl (Or.inr (And.intro (mk_l02Make) ?_)); conv => whnf)
      | (refine Or.inr (And.intro (mk_l02Make) ?_); conv => whnf)
      | (refine And.intro (fun h => ?_) (fun h => ?_) <;> (try simp only [cnt1, ints_length] at h) <;> first | (exfalso; omega) | (conv => whnf))
      | (refine And.intro (show slotsOk _ = true by decide +kernel) ?_; conv => whnf)
      | (refine And.intro vOb ?_; conv => whnf)
      | (apply Exists.intro; refine And.intro vObt ?_; conv => whnf)
      | (apply Exists.intro; refine And.intro vObx ?_; conv => whnf)
      | (refine And.intro vArT ?_; conv => whnf)
      | (refine Or.inl ?_; conv => whnf)
      | fail
    all_goals first | rfl | (exfalso; simp_all; done)
  · rw [serRes, if_neg hc]
    refine pure_of_vcR Try.tabOk mixOrd Try.func31 rfl rfl ?_
    conv => whnf
    repeat' first
      | (refine And.intro (Or.inl rfl) ?_; conv => whnf)
      | (refine Or.inl (Or.inl (Exists.intro _ (And.intro (c_l12Code _ _ _ _ _ _ _ _ hl hr h1) ?_))); conv => whnf)
      | (refine Or.inl (Exists.intro _ (And.intro (c_l12Code _ _ _ _ _ _ _ _ hl hr h1) ?_)); conv => whnf)
      | (apply Exists.intro; refine And.intro (c_l12Code _ _ _ _ _ _ _ _ hl hr h1) ?_; conv => whnf)
      | (refine And.intro (fun h => ?_) (fun h => ?_) <;> (try simp only [cnt1, ints_length] at h) <;> conv => whnf)
      | (refine And.intro (show slotsOk _ = true by decide +kernel) ?_; conv => whnf)
      | (refine And.intro vOb ?_; conv => whnf)
      | (apply Exists.intro; refine And.intro vObt ?_; conv => whnf)
      | (apply Exists.intro; refine And.intro vObx ?_; conv => whnf)
      | (refine And.intro vArT ?_; conv => whnf)
      | (refine Or.inl ?_; conv => whnf)
      | fail
    all_goals first | rfl | (exfalso; simp_all; done)
end Go.Proofs

