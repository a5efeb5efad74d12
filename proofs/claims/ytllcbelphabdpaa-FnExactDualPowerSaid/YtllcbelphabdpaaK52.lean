/- Powers in the dual algebra: the program. -/
-- tables
-- rec
import Derived.Test.YtllcbelphabdpaaK45
namespace Go.Proofs
open Go Go.Vm Go.Fg Go.Fg.PS
set_option maxRecDepth 100000
set_option maxHeartbeats 4000000
set_option linter.unusedSimpArgs false
set_option linter.unusedVariables false
noncomputable def elC1 (m : Int) (t : List (List Int)) (u : List Int) : Int := if kC m t = 0 then (if elB (rkT m t) m u then 0 else 2) else kC m t
noncomputable def elCK (m : Int) (t : List (List Int)) (u : List Int) (e : Int) : Int := if elC1 m t u = 0 then (if inB e 1 100 then 0 else 2) else elC1 m t u
noncomputable def dpRes (m : Int) (t : List (List Int)) (u : List Int) (e : Int) : D := if elCK m t u e = 0 then .tup [LD true (rkT m t) (dpw (rd2 m t) (rd m u) (rkT m t) (e - 1).toNat), dint 0] else .tup [.lit (.slice none 0 0), dint (elCK m t u e)]
theorem c_implDualPower (o p o1 : Bool) (m : Int) (t : List (List Int)) (u : List Int) (e : Int) (he : -9223372036854775808 ≤ e ∧ e ≤ 9223372036854775807) (hl : t.length ≤ 1048576) (hr : lensOk t) (hu : u.length ≤ 1048576) :
    PureCall Try.prog 22 [.agg [dint m, .list o 1 (rows p t)], .list o1 1 (ints u), dint e] (dpRes m t u e) := by
  by_cases hk : rkC m t = 0
  · have hht : htC m t = 0 := by
      unfold rkC at hk
      split at hk
      · assumption
      · exact hk
    obtain ⟨hb, hpr⟩ := htC_0 hht
    obtain ⟨hp, hlw⟩ := lawB_pl hb
    obtain ⟨hm, h2, h3, _⟩ := plB_md hp
    have hm1 := hm.1
    have hm2 := hm.2
    have key := c_ranked o p m t hl hr
    rw [hk, if_pos rfl] at key
    have hdeg : PureCall Try.prog 61 [.agg [dint m, .list o 1 (rows p t)]] (dint (t.length - 1)) := by
      have := c_degreeP (m := m) o p t.length (by omega) (rd2 m t)
      simpa only [PlD, plB_T hp] using this
    have hlt : rkT m t < t.length := rkOf_lt (by omega)
    have hall : ∀ (o' : Bool) (l : List Int), l.length ≤ 1048576 → PureCall Try.prog 85 [.list o' 1 (ints l), .fn (.func 86) [] [.cptr [dint m, .list o 1 (rows p t)] 0]] (dbool (numsB m l)) := fun o' l hl => by
      have := c_allA 86 [dint m, .list o 1 (rows p t)] (fun a => inB a 0 (m - 1)) (fun a => c_kernelOf1 a m _ (h1of (by simpa [inB, Md] using hm))) o' l hl
      exact this
    refine pure_of_vcR Try.tabOk mixOrd Try.func22 rfl rfl ?_
    conv => whnf
    repeat' first
      | (refine And.intro (Or.inl rfl) ?_; conv => whnf)
      | (refine Or.inr (inl_ofR Try.tabOk mixOrd _ Try.func48 rfl rfl ?_); conv => whnf)
      | (refine Or.inl (Or.inl (Exists.intro _ (And.intro (key) ?_))); conv => whnf)
      | (refine Or.inl (Exists.intro _ (And.intro (key) ?_)); conv => whnf)
      | (apply Exists.intro; refine And.intro (key) ?_; conv => whnf)
      | (refine Or.inl (Or.inl (Exists.intro _ (And.intro (hdeg) ?_))); conv => whnf)
      | (refine Or.inl (Exists.intro _ (And.intro (hdeg) ?_)); conv => whnf)
      | (apply Exists.intro; refine And.intro (hdeg) ?_; conv => whnf)
      | (refine And.intro (fun h => ?_) (fun h => ?_) <;> (try simp only [cnt1, ints_length] at h) <;> first | (exfalso; omega) | (conv => whnf))
      | (refine And.intro (show slotsOk _ = true by decide +kernel) ?_; conv => whnf)
      | (refine And.intro vOb ?_; conv => whnf)
      | (apply Exists.intro; refine And.intro vObt ?_; conv => whnf)
      | (apply Exists.intro; refine And.intro vObx ?_; conv => whnf)
      | (refine And.intro vArT ?_; conv => whnf)
      | (refine Or.inl ?_; conv => whnf)
      | fail
    · have h3 : 2 * ((rkT m t : Int) - 1) > (t.length : Int) - 1 := by assumption
      have h4 : kC m t = 3 := by unfold kC; rw [if_pos hk, if_pos h3]
      have h5 : elCK m t u e = 3 := by unfold elCK elC1; rw [h4, if_neg (by omega), if_neg (by omega)]
      rw [dpRes, h5, if_neg (by omega)]
    · have h3 : ¬ 2 * ((rkT m t : Int) - 1) > (t.length : Int) - 1 := by assumption
      have h4 : kC m t = 0 := by unfold kC; rw [if_pos hk, if_neg h3]
      have hno : elB (rkT m t) m u = false → D.tup [.lit (.slice none 0 0), dint 2] = dpRes m t u e := fun hx => by
        have h5 : elCK m t u e = 2 := by unfold elCK elC1; rw [if_pos h4, hx]; rfl
        rw [dpRes, h5, if_neg (by omega)]
      refine loop_peelV Try.tabOk mixOrd ?_
      conv => whnf
      repeat' first
        | (refine And.intro (Or.inl rfl) ?_; conv => whnf)
        | (refine Or.inl (Or.inl (Exists.intro _ (And.intro (⟨_, rfl, rfl⟩) ?_))); conv => whnf)
        | (refine Or.inl (Exists.intro _ (And.intro (⟨_, rfl, rfl⟩) ?_)); conv => whnf)
        | (apply Exists.intro; refine And.intro (⟨_, rfl, rfl⟩) ?_; conv => whnf)
        | (refine Or.inl (Or.inl (Exists.intro _ (And.intro (hall _ _ hu) ?_))); conv => whnf)
        | (refine Or.inl (Exists.intro _ (And.intro (hall _ _ hu) ?_)); conv => whnf)
        | (apply Exists.intro; refine And.intro (hall _ _ hu) ?_; conv => whnf)
        | (refine And.intro (fun h => ?_) (fun h => ?_) <;> (try simp only [cnt1, ints_length] at h) <;> first | (exfalso; omega) | (conv => whnf))
        | (refine And.intro (show slotsOk _ = true by decide +kernel) ?_; conv => whnf)
        | (refine And.intro vOb ?_; conv => whnf)
        | (apply Exists.intro; refine And.intro vObt ?_; conv => whnf)
        | (apply Exists.intro; refine And.intro vObx ?_; conv => whnf)
        | (refine And.intro vArT ?_; conv => whnf)
        | (refine Or.inl ?_; conv => whnf)
        | fail
      · have hne : (u.length : Int) ≠ (rkT m t : Int) := by assumption
        exact hno (by simp [elB]; intro _; exfalso; omega)
      · have hul : u.length = rkT m t := by
          have : ¬ (u.length : Int) ≠ (rkT m t : Int) := by assumption
          omega
        have hun : numsB m u = true := by assumption
        have hq1 := (kC_0 h4).2.2.1
        have hq2 := (kC_0 h4).2.2.2
        have h50 : elC1 m t u = 0 := by unfold elC1; rw [if_pos h4]; simp [elB, hul, hun]
        have hyes : inB e 1 100 = true → D.tup [LD true (rkT m t) (dpw (rd2 m t) (rd m u) (rkT m t) (e - 1).toNat), dint 0] = dpRes m t u e := fun hx => by
          rw [dpRes, if_pos (by unfold elCK; rw [if_pos h50, hx]; rfl)]
        have hbad : inB e 1 100 = false → D.tup [.lit (.slice none 0 0), dint 2] = dpRes m t u e := fun hx => by
          have h5 : elCK m t u e = 2 := by unfold elCK; rw [if_pos h50, hx]; rfl
          rw [dpRes, h5, if_neg (by omega)]
        have hlu : ints u = ints (L (rkT m t) (rd m u)) := by rw [← hul, L_rd (numsB_iff.1 hun)]
        have hT := plB_T hp
        generalize hf : rd2 m t = f at *
        generalize hN : t.length = N at *
        generalize hqq : rkT m t = q at *
        rw [← hT]
        refine loop_peelV Try.tabOk mixOrd ?_
        conv => whnf
        repeat' first
          | (refine And.intro (Or.inl rfl) ?_; conv => whnf)
          | (refine Or.inl (Or.inl (Exists.intro _ (And.intro (c_square (m := m) q vAr vAr) ?_))); conv => whnf)
          | (refine Or.inl (Exists.intro _ (And.intro (c_square (m := m) q vAr vAr) ?_)); conv => whnf)
          | (apply Exists.intro; refine And.intro (c_square (m := m) q vAr vAr) ?_; conv => whnf)
          | (refine Or.inl (Or.inl (Exists.intro _ (And.intro (vSqL (i := 0) vIx vSqA) ?_))); conv => whnf)
          | (refine Or.inl (Exists.intro _ (And.intro (vSqL (i := 0) vIx vSqA) ?_)); conv => whnf)
          | (apply Exists.intro; refine And.intro (vSqL (i := 0) vIx vSqA) ?_; conv => whnf)
          | (refine Or.inl (Or.inl (Exists.intro _ (And.intro (vSqStore (i := 0) (j := 0) _ vIx vIx vSqA vSqA) ?_))); conv => whnf)
          | (refine Or.inl (Exists.intro _ (And.intro (vSqStore (i := 0) (j := 0) _ vIx vIx vSqA vSqA) ?_)); conv => whnf)
          | (apply Exists.intro; refine And.intro (vSqStore (i := 0) (j := 0) _ vIx vIx vSqA vSqA) ?_; conv => whnf)
          | (refine And.intro (fun h => ?_) (fun h => ?_) <;> (try simp only [cnt1, ints_length] at h) <;> first | (exfalso; omega) | (conv => whnf))
          | (refine And.intro (show slotsOk _ = true by decide +kernel) ?_; conv => whnf)
          | (refine And.intro vOb ?_; conv => whnf)
          | (apply Exists.intro; refine And.intro vObt ?_; conv => whnf)
          | (apply Exists.intro; refine And.intro vObx ?_; conv => whnf)
          | (refine And.intro vArT ?_; conv => whnf)
          | (refine And.intro (vSqA) ?_; conv => whnf)
          | (refine Or.inl ?_; conv => whnf)
          | fail
        rw [show setT (sqT q (0 : PS (PS (Zm m)))) 0 0 1 = sqT q (1 : PS (PS (Zm m))) from sq_setT_eq (1 : Zm m) (Zm.val_one (by omega)).symm (by omega) (fun a b _ _ => by
          rw [upd2_cc, PS.one_c]
          by_cases ha : a = 0
          · rw [if_pos ha, PS.one_c]
            by_cases hb : b = 0
            · rw [if_pos ⟨ha, hb⟩, if_pos hb]
            · rw [if_neg (by omega), if_neg hb]; rfl
          · rw [if_neg (by omega), if_neg ha]; rfl)]
        refine loop_atR Try.tabOk mixOrd (α := Nat) (fun i => [(63, dint i)]) (fun i => [(8, some ⟨false, 1, rows true (sqT q (mix i f 0))⟩)]) (fun i => i ≤ q) (fun i => q - i) (0) ?_ ?_ ?_
        · omega
        · conv => whnf
          first | refine WeakS.auto ?_ | refine Weak.auto ?_
          conv => whnf
          repeat' first
            | exact trivial
            | (refine And.intro rfl ?_; conv => whnf)
            | (refine And.intro (eqV_int vAr) ?_; conv => whnf)
            | (refine And.intro vOb ?_; conv => whnf)
            | (refine And.intro vRepl ?_; conv => whnf)
            | (refine And.intro vReplL ?_; conv => whnf)
            | (refine And.intro ?_ ?_ <;> try (conv => whnf))
          all_goals rw [mix_zero]
        intro i hi
        conv => whnf
        repeat' first
          | (refine And.intro (Or.inl rfl) ?_; conv => whnf)
          | (refine Or.inl (Or.inl (Exists.intro _ (And.intro (vSqL (i := i) vIx vSqA) ?_))); conv => whnf)
          | (refine Or.inl (Exists.intro _ (And.intro (vSqL (i := i) vIx vSqA) ?_)); conv => whnf)
          | (apply Exists.intro; refine And.intro (vSqL (i := i) vIx vSqA) ?_; conv => whnf)
          | (refine Or.inl (Or.inl (Exists.intro _ (And.intro (vSqG (i := i) vIx vSqA) ?_))); conv => whnf)
          | (refine Or.inl (Exists.intro _ (And.intro (vSqG (i := i) vIx vSqA) ?_)); conv => whnf)
          | (apply Exists.intro; refine And.intro (vSqG (i := i) vIx vSqA) ?_; conv => whnf)
          | (refine Or.inl (Or.inl (Exists.intro _ (And.intro (⟨_, rfl, rfl⟩) ?_))); conv => whnf)
          | (refine Or.inl (Exists.intro _ (And.intro (⟨_, rfl, rfl⟩) ?_)); conv => whnf)
          | (apply Exists.intro; refine And.intro (⟨_, rfl, rfl⟩) ?_; conv => whnf)
          | (refine And.intro (fun h => ?_) (fun h => ?_) <;> (try simp only [cnt1, ints_length] at h) <;> first | (exfalso; omega) | (conv => whnf))
          | (refine And.intro (show slotsOk _ = true by decide +kernel) ?_; conv => whnf)
          | (refine And.intro vOb ?_; conv => whnf)
          | (apply Exists.intro; refine And.intro vObt ?_; conv => whnf)
          | (apply Exists.intro; refine And.intro vObx ?_; conv => whnf)
          | (refine And.intro vArT ?_; conv => whnf)
          | (refine And.intro (vSqA) ?_; conv => whnf)
          | (refine Or.inl ?_; conv => whnf)
          | fail
        · have hi' : i < q := vSqA
          refine Exists.intro (i + 1) (And.intro vSqA (And.intro vSqA ?_))
          first | refine WeakS.auto ?_ | refine Weak.auto ?_
          conv => whnf
          repeat' first
            | exact trivial
            | (refine And.intro rfl ?_; conv => whnf)
            | (refine And.intro (eqV_int vAr) ?_; conv => whnf)
            | (refine And.intro vOb ?_; conv => whnf)
            | (refine And.intro vRepl ?_; conv => whnf)
            | (refine And.intro vReplL ?_; conv => whnf)
            | (refine And.intro ?_ ?_ <;> try (conv => whnf))
          simp only [cnt1, ints_length, L_length, place1, Int.toNat_natCast, Nat.zero_add, List.nil_append]
          rw [← mix_rows]
          exact updB_rowS hi' (by omega)
        · have hiq : i = q := vSqA
          rw [show sqT q (mix i f 0) = sqT q f from sqT_congr (fun a b ha hb => by rw [mix_c, if_pos (by omega)])]
          refine loop_atR Try.tabOk mixOrd (α := Nat) (fun k => [(84, dint k), (12, .undef), (56, .undef), (57, .undef), (58, .undef), (59, .undef), (60, .undef), (78, .undef), (79, .undef)]) (fun k => [(10, some ⟨false, 1, tbq q f (k + 1)⟩), (7, some ⟨true, 1, [dint m, dint q, .ref 10 [] 1 0 (k + 1), dint m, .list o 1 (rows p (Tb N f))]⟩)]) (fun k => k + 1 ≤ q) (fun k => q - k) (0) ?_ ?_ ?_
          · omega
          · conv => whnf
            first | refine WeakS.auto ?_ | refine Weak.auto ?_
            conv => whnf
            repeat' first
              | exact trivial
              | (refine And.intro rfl ?_; conv => whnf)
              | (refine And.intro (eqV_int vAr) ?_; conv => whnf)
              | (refine And.intro vOb ?_; conv => whnf)
              | (refine And.intro vRepl ?_; conv => whnf)
              | (refine And.intro vReplL ?_; conv => whnf)
              | (refine And.intro ?_ ?_ <;> try (conv => whnf))
          intro k hkq
          conv => whnf
          repeat' first
            | (refine And.intro (Or.inl rfl) ?_; conv => whnf)
            | (refine Or.inl (Or.inl (Exists.intro _ (And.intro (vQL k vIx vSqA) ?_))); conv => whnf)
            | (refine Or.inl (Exists.intro _ (And.intro (vQL k vIx vSqA) ?_)); conv => whnf)
            | (apply Exists.intro; refine And.intro (vQL k vIx vSqA) ?_; conv => whnf)
            | (refine Or.inl (Or.inl (Exists.intro _ (And.intro (vQG k vIx vSqA) ?_))); conv => whnf)
            | (refine Or.inl (Exists.intro _ (And.intro (vQG k vIx vSqA) ?_)); conv => whnf)
            | (apply Exists.intro; refine And.intro (vQG k vIx vSqA) ?_; conv => whnf)
            | (refine Or.inl (Or.inl (Exists.intro _ (And.intro (sub_tbq vSqA) ?_))); conv => whnf)
            | (refine Or.inl (Exists.intro _ (And.intro (sub_tbq vSqA) ?_)); conv => whnf)
            | (apply Exists.intro; refine And.intro (sub_tbq vSqA) ?_; conv => whnf)
            | (refine Or.inl (Or.inl (Exists.intro _ (And.intro (sub_rows vSqA) ?_))); conv => whnf)
            | (refine Or.inl (Exists.intro _ (And.intro (sub_rows vSqA) ?_)); conv => whnf)
            | (apply Exists.intro; refine And.intro (sub_rows vSqA) ?_; conv => whnf)
            | (refine Or.inl (Or.inl (Exists.intro _ (And.intro (c_tableTimes hm q vAr _ _ _ _ _ _ _ (pw f k) f) ?_))); conv => whnf)
            | (refine Or.inl (Exists.intro _ (And.intro (c_tableTimes hm q vAr _ _ _ _ _ _ _ (pw f k) f) ?_)); conv => whnf)
            | (apply Exists.intro; refine And.intro (c_tableTimes hm q vAr _ _ _ _ _ _ _ (pw f k) f) ?_; conv => whnf)
            | (refine And.intro (fun h => ?_) (fun h => ?_) <;> (try simp only [cnt1, ints_length] at h) <;> first | (exfalso; omega) | (conv => whnf))
            | (refine And.intro (show slotsOk _ = true by decide +kernel) ?_; conv => whnf)
            | (refine And.intro vOb ?_; conv => whnf)
            | (apply Exists.intro; refine And.intro vObt ?_; conv => whnf)
            | (apply Exists.intro; refine And.intro vObx ?_; conv => whnf)
            | (refine And.intro vArT ?_; conv => whnf)
            | (refine And.intro (vQsz vSqA) ?_; conv => whnf)
            | (refine And.intro (vQlen vSqA) ?_; conv => whnf)
            | (refine And.intro (one_l _) ?_; conv => whnf)
            | (refine And.intro (vSqA) ?_; conv => whnf)
            | (refine Or.inl ?_; conv => whnf)
            | fail
          · refine Exists.intro (k + 1) (And.intro vSqA (And.intro vSqA ?_))
            first | refine WeakS.auto ?_ | refine Weak.auto ?_
            conv => whnf
            repeat' first
              | exact trivial
              | (refine And.intro rfl ?_; conv => whnf)
              | (refine And.intro (eqV_int vAr) ?_; conv => whnf)
              | (refine And.intro vOb ?_; conv => whnf)
              | (refine And.intro vRepl ?_; conv => whnf)
              | (refine And.intro vReplL ?_; conv => whnf)
              | (refine And.intro ?_ ?_ <;> try (conv => whnf))
            exact tbq_push rfl
          · have hkq' : k + 1 = q := vSqA
            subst hkq'
            rw [hlu]
            generalize rd m u = a at *
            repeat' first
              | (refine And.intro (Or.inl rfl) ?_; conv => whnf)
              | (refine Or.inl (Or.inl (Exists.intro _ (And.intro (⟨_, rfl, rfl⟩) ?_))); conv => whnf)
              | (refine Or.inl (Exists.intro _ (And.intro (⟨_, rfl, rfl⟩) ?_)); conv => whnf)
              | (apply Exists.intro; refine And.intro (⟨_, rfl, rfl⟩) ?_; conv => whnf)
              | (refine Or.inl (Or.inl (Exists.intro _ (And.intro (c_impl_in _ _ _) ?_))); conv => whnf)
              | (refine Or.inl (Exists.intro _ (And.intro (c_impl_in _ _ _) ?_)); conv => whnf)
              | (apply Exists.intro; refine And.intro (c_impl_in _ _ _) ?_; conv => whnf)
              | (refine And.intro (fun h => ?_) (fun h => ?_) <;> (try simp only [cnt1, ints_length] at h) <;> conv => whnf)
              | (refine And.intro (show slotsOk _ = true by decide +kernel) ?_; conv => whnf)
              | (refine And.intro vOb ?_; conv => whnf)
              | (apply Exists.intro; refine And.intro vObt ?_; conv => whnf)
              | (apply Exists.intro; refine And.intro vObx ?_; conv => whnf)
              | (refine And.intro vArT ?_; conv => whnf)
              | (refine Or.inl ?_; conv => whnf)
              | fail
            all_goals first
              | (rw [hT]; exact hbad (by assumption))
              | skip
            have hx : inB e 1 100 = true := by first | assumption | (simp_all; done)
            have hx2 : 1 ≤ e ∧ e ≤ 100 := by simpa [inB] using hx
            repeat' first
              | (refine And.intro (Or.inl rfl) ?_; conv => whnf)
              | (refine Or.inl (Or.inl (Exists.intro _ (And.intro (sub_tbq vSqA) ?_))); conv => whnf)
              | (refine Or.inl (Exists.intro _ (And.intro (sub_tbq vSqA) ?_)); conv => whnf)
              | (apply Exists.intro; refine And.intro (sub_tbq vSqA) ?_; conv => whnf)
              | (refine Or.inl (Or.inl (Exists.intro _ (And.intro (c_dualPower hm (k + 1) vAr _ _ _ _ f a (e - 1).toNat (by omega) (by omega)) ?_))); conv => whnf)
              | (refine Or.inl (Exists.intro _ (And.intro (c_dualPower hm (k + 1) vAr _ _ _ _ f a (e - 1).toNat (by omega) (by omega)) ?_)); conv => whnf)
              | (apply Exists.intro; refine And.intro (c_dualPower hm (k + 1) vAr _ _ _ _ f a (e - 1).toNat (by omega) (by omega)) ?_; conv => whnf)
              | (refine And.intro (fun h => ?_) (fun h => ?_) <;> (try simp only [cnt1, ints_length] at h) <;> first | (exfalso; omega) | (conv => whnf))
              | (refine And.intro (show slotsOk _ = true by decide +kernel) ?_; conv => whnf)
              | (refine And.intro vOb ?_; conv => whnf)
              | (apply Exists.intro; refine And.intro vObt ?_; conv => whnf)
              | (apply Exists.intro; refine And.intro vObx ?_; conv => whnf)
              | (refine And.intro vArT ?_; conv => whnf)
              | (refine And.intro (vQsz vSqA) ?_; conv => whnf)
              | (refine And.intro (vSqA) ?_; conv => whnf)
              | (refine Or.inl ?_; conv => whnf)
              | fail
            rw [hT, ← hyes hx]
      · have hun : numsB m u = false := by assumption
        exact hno (by simp [elB, hun])
  · refine pure_of_vcR Try.tabOk mixOrd Try.func22 rfl rfl ?_
    conv => whnf
    have key := c_ranked o p m t hl hr
    rw [if_neg hk] at key
    repeat' first
      | (refine And.intro (Or.inl rfl) ?_; conv => whnf)
      | (refine Or.inr (inl_ofR Try.tabOk mixOrd _ Try.func48 rfl rfl ?_); conv => whnf)
      | (refine Or.inl (Or.inl (Exists.intro _ (And.intro (key) ?_))); conv => whnf)
      | (refine Or.inl (Exists.intro _ (And.intro (key) ?_)); conv => whnf)
      | (apply Exists.intro; refine And.intro (key) ?_; conv => whnf)
      | (refine And.intro (fun h => ?_) (fun h => ?_) <;> (try simp only [cnt1, ints_length] at h) <;> first | (exfalso; omega) | (conv => whnf))
      | (refine And.intro (show slotsOk _ = true by decide +kernel) ?_; conv => whnf)
      | (refine And.intro vOb ?_; conv => whnf)
      | (apply Exists.intro; refine And.intro vObt ?_; conv => whnf)
      | (apply Exists.intro; refine And.intro vObx ?_; conv => whnf)
      | (refine And.intro vArT ?_; conv => whnf)
      | (refine Or.inl ?_; conv => whnf)
      | fail
    have h4 : kC m t = rkC m t := by unfold kC; rw [if_neg hk]
    have h5 : elCK m t u e = rkC m t := by unfold elCK elC1; rw [h4, if_neg hk, if_neg hk]
    rw [dpRes, h5, if_neg hk]
end Go.Proofs

