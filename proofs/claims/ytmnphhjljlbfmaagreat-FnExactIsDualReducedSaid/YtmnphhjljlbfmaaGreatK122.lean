/- Elements of which a power is 0 in the dual algebra: the program. -/
-- tables
-- rec
import Derived.Test.YtmnphhjljlbfmaaGreatK123
import Derived.Test.YtmnphhjljlbfmaaGreatK117
import Derived.Test.YtmnphhjljlbfmaaGreatK48
namespace Go.Proofs
open Go Go.Vm Go.Fg Go.Fg.PS
set_option maxRecDepth 100000
set_option maxHeartbeats 4000000
set_option linter.unusedSimpArgs false
set_option linter.unusedVariables false
noncomputable def idRes (m : Int) (t : List (List Int)) : D := if kC m t = 0 then .tup [dbool (decide ((ext m.toNat (goodD (rkT m t) (rd2 m t)) (rkT m t) []).length = 1)), dint 0] else .tup [dbool false, dint (kC m t)]
theorem primB_p {m : Int} (h : primB m = true) : ∃ p : Nat, m = p ∧ (p = 2 ∨ p = 3 ∨ p = 5 ∨ p = 7) := by
  simp only [primB, Bool.or_eq_true, decide_eq_true_eq] at h
  rcases h with rfl | rfl | rfl | rfl
  · exact ⟨2, rfl, by omega⟩
  · exact ⟨3, rfl, by omega⟩
  · exact ⟨5, rfl, by omega⟩
  · exact ⟨7, rfl, by omega⟩
theorem pow_bd {p q : Nat} (hp : p = 2 ∨ p = 3 ∨ p = 5 ∨ p = 7) (hq : q ≤ 6) : p ^ q ≤ 117649 := by
  have h1 : p ^ q ≤ 7 ^ q := Nat.pow_le_pow_left (by omega) q
  have h2 : 7 ^ q ≤ 7 ^ 6 := Nat.pow_le_pow_right (by omega) hq
  omega
theorem c_isZero1 (x : Int) : PureCall Tryz.prog 29 [dint x] (dbool (decide (x = 0))) := by
  refine pure_of_vcR Tryz.tabOk mixOrd Tryz.func29 rfl rfl ?_
  conv => whnf
  repeat' first | ((first | refine And.intro (Or.inl rfl) ?_ | (refine And.intro (fun h => ?_) (fun h => ?_) <;> (try simp only [cnt1, ints_length] at h)) | refine And.intro (show slotsOk _ = true by decide +kernel) ?_ | refine And.intro vOb ?_ | (apply Exists.intro; refine And.intro vObt ?_) | (apply Exists.intro; refine And.intro vObx ?_) | refine And.intro vArT ?_ | refine Or.inl ?_) <;> conv => whnf) | fail
  all_goals (refine dbool_congr ?_; first | rfl | (simp_all []; done) | (simp_all []; omega) | (simp_all []; intros; omega))
theorem c_isZeroL (o : Bool) (l : List Int) (hl : l.length ≤ 1048576) : PureCall Tryz.prog 27 [.list o 1 (ints l)] (dbool (l.all fun x => decide (x = 0))) := by
  refine pure_of_vcR Tryz.tabOk mixOrd Tryz.func27 rfl rfl ?_
  conv => whnf
  repeat' first | ((first | refine And.intro (Or.inl rfl) ?_ | (apply Exists.intro; refine And.intro (c_allB 29 (fun x => decide (x = 0)) (fun x => c_isZero1 x) _ l hl) ?_) | (refine And.intro (fun h => ?_) (fun h => ?_) <;> (try simp only [cnt1, ints_length] at h)) | refine And.intro (show slotsOk _ = true by decide +kernel) ?_ | refine And.intro vOb ?_ | (apply Exists.intro; refine And.intro vObt ?_) | (apply Exists.intro; refine And.intro vObx ?_) | refine And.intro vArT ?_ | refine Or.inl ?_) <;> conv => whnf) | fail
  all_goals (refine dbool_congr ?_; first | rfl | (simp_all []; done) | (simp_all []; omega) | (simp_all []; intros; omega))
theorem c_dualOne {p q : Nat} (hm : Md (p : Int)) (hq : 1 ≤ q ∧ q ≤ 100) (oo : Bool) (d3 d4 : D) (f : PS (PS (Zm (p : Int)))) (u : List Int) (hu : u.length = q) (hb : ∀ x ∈ u, 0 ≤ x ∧ x < (p : Int)) :
    PureCall Tryz.prog 31 [.list false 1 (ints u), .cptr [.fn (.func 27) [] []] 0, .cptr [.cptr [dint p, dint q, .list oo 1 (tbq q f q), d3, d4] 0] 0] (dbool (goodD q f u)) := by
  have hlu : u = L q (rd (p : Int) u) := by rw [← hu, L_rd (show Nums (p : Int) u from hb)]
  have key := c_dualPower hm q hq oo false d3 d4 f (rd (p : Int) u) (q - 1) (by omega) (E := (q : Int)) (by omega)
  unfold goodD
  simp only [LD] at key
  rw [← hlu] at key
  have hL : (L q (dpw f (rd (p : Int) u) q (q - 1))).length ≤ 1048576 := by simp; omega
  have key2 := c_isZeroL false (L q (dpw f (rd (p : Int) u) q (q - 1))) hL
  generalize L q (dpw f (rd (p : Int) u) q (q - 1)) = W at *
  rw [← sub_ints1] at key2
  refine pure_of_vcR Tryz.tabOk mixOrd Tryz.func31 rfl rfl ?_
  conv => whnf
  repeat' first | ((first | refine And.intro (Or.inl rfl) ?_ | (apply Exists.intro; refine And.intro (rfl) ?_) | (apply Exists.intro; refine And.intro (key) ?_) | (apply Exists.intro; refine And.intro (key2) ?_) | (refine And.intro (fun h => ?_) (fun h => ?_) <;> (try simp only [cnt1, ints_length] at h)) | refine And.intro (show slotsOk _ = true by decide +kernel) ?_ | refine And.intro vOb ?_ | (apply Exists.intro; refine And.intro vObt ?_) | (apply Exists.intro; refine And.intro vObx ?_) | refine And.intro vArT ?_ | refine Or.inl ?_) <;> conv => whnf) | fail
  all_goals (refine dbool_congr ?_; symm; assumption)
theorem c_implIsDualReduced (o p : Bool) (m : Int) (t : List (List Int)) (hl : t.length ≤ 1048576) (hr : lensOk t) :
    PureCall Tryz.prog 9 [.agg [dint m, .list o 1 (rows p t)]] (idRes m t) := by
  by_cases hk : rkC m t = 0
  · have hht : htC m t = 0 := by
      unfold rkC at hk
      split at hk
      · assumption
      · exact hk
    obtain ⟨hb, hpr⟩ := htC_0 hht
    obtain ⟨hp, hlw⟩ := lawB_pl hb
    obtain ⟨hm, h2, h3, _⟩ := plB_md hp
    have hm1 := hm.1
    have hm2 := hm.2
    have key := c_ranked o p m t hl hr
    rw [hk, if_pos rfl] at key
    have hdeg : PureCall Tryz.prog 48 [.agg [dint m, .list o 1 (rows p t)]] (dint (t.length - 1)) := by
      have := c_degreeP (m := m) o p t.length (by omega) (rd2 m t)
      simpa only [PlD, plB_T hp] using this
    have hlt : rkT m t < t.length := rkOf_lt (by omega)
    refine pure_of_vcR Tryz.tabOk mixOrd Tryz.func9 rfl rfl ?_
    conv => whnf
    repeat' first | ((first | refine And.intro (Or.inl rfl) ?_ | refine Or.inr (inl_ofR Tryz.tabOk mixOrd _ Tryz.func26 rfl rfl ?_) | (apply Exists.intro; refine And.intro (key) ?_) | (apply Exists.intro; refine And.intro (hdeg) ?_) | (refine And.intro (fun h => ?_) (fun h => ?_) <;> (try simp only [cnt1, ints_length] at h) <;> first | (exfalso; omega) | skip) | refine And.intro (show slotsOk _ = true by decide +kernel) ?_ | refine And.intro vOb ?_ | (apply Exists.intro; refine And.intro vObt ?_) | (apply Exists.intro; refine And.intro vObx ?_) | refine And.intro vArT ?_ | refine Or.inl ?_) <;> conv => whnf) | fail
    · have h3 : 2 * ((rkT m t : Int) - 1) > (t.length : Int) - 1 := by assumption
      have h4 : kC m t = 3 := by unfold kC; rw [if_pos hk, if_pos h3]
      rw [idRes, h4, if_neg (by omega)]
    · have h3 : ¬ 2 * ((rkT m t : Int) - 1) > (t.length : Int) - 1 := by assumption
      have h4 : kC m t = 0 := by unfold kC; rw [if_pos hk, if_neg h3]
      have hq1 := (kC_0 h4).2.2.1
      have hq2 := (kC_0 h4).2.2.2
      obtain ⟨pp, rfl, hpp⟩ := primB_p hpr
      have hyes : D.tup [dbool (decide ((ext pp (goodD (rkT pp t) (rd2 pp t)) (rkT pp t) []).length = 1)), dint 0] = idRes pp t := by rw [idRes, if_pos h4]; rfl
      have hpw : pp ^ rkT pp t ≤ 1000000 := Nat.le_trans (pow_bd hpp (by omega)) (by omega)
      have hge : 2 ≤ rkT pp t := rkT_ge2 hk hht
      have hT := plB_T hp
      generalize hf : rd2 (pp : Int) t = f at *
      generalize hN : t.length = N at *
      generalize hqq : rkT (pp : Int) t = q at *
      rw [← hT]
      have hel := fun (d3 d4 : D) => c_elementsD pp q (by omega) (by omega) hpw (.list false 1 (tbq q f q)) d3 d4 31 _ _ (goodD q f) (fun u hu hb => c_dualOne hm (by omega) false d3 d4 f u hu hb)
      refine loop_peelV Tryz.tabOk mixOrd ?_
      conv => whnf
      repeat' first | ((first | refine And.intro (Or.inl rfl) ?_ | (apply Exists.intro; refine And.intro (c_square (m := (pp : Int)) q vAr vAr) ?_) | (apply Exists.intro; refine And.intro (vSqL (i := 0) vIx vSqA) ?_) | (apply Exists.intro; refine And.intro (vSqStore (i := 0) (j := 0) _ vIx vIx vSqA vSqA) ?_) | (refine And.intro (fun h => ?_) (fun h => ?_) <;> (try simp only [cnt1, ints_length] at h) <;> first | (exfalso; omega) | skip) | refine And.intro (show slotsOk _ = true by decide +kernel) ?_ | refine And.intro vOb ?_ | (apply Exists.intro; refine And.intro vObt ?_) | (apply Exists.intro; refine And.intro vObx ?_) | refine And.intro vArT ?_ | refine And.intro (vSqA) ?_ | refine Or.inl ?_) <;> conv => whnf) | fail
      rw [show setT (sqT q (0 : PS (PS (Zm (pp : Int))))) 0 0 1 = sqT q (1 : PS (PS (Zm (pp : Int)))) from sq_setT_eq (1 : Zm (pp : Int)) (Zm.val_one (by omega)).symm (by omega) (fun a b _ _ => by
        rw [upd2_cc, PS.one_c]
        by_cases ha : a = 0
        · rw [if_pos ha, PS.one_c]
          by_cases hb : b = 0
          · rw [if_pos ⟨ha, hb⟩, if_pos hb]
          · rw [if_neg (by omega), if_neg hb]; rfl
        · rw [if_neg (by omega), if_neg ha]; rfl)]
      refine loop_atR Tryz.tabOk mixOrd (α := Nat) (fun i => [(63, dint i)]) (fun i => [(6, some ⟨false, 1, rows true (sqT q (mix i f 0))⟩)]) (fun i => i ≤ q) (fun i => q - i) (0) ?_ ?_ ?_
      · omega
      · conv => whnf
        first | refine WeakS.autoR ?_ | refine Weak.autoR ?_
        conv => whnf
        repeat' ((first | exact trivial | refine And.intro rfl ?_ | refine And.intro (eqV_int vAr) ?_ | refine And.intro vOb ?_ | refine And.intro vRepl ?_ | refine And.intro vReplL ?_ | refine And.intro ?_ ?_) <;> try (conv => whnf))
        all_goals rw [mix_zero]
      intro i hi
      conv => whnf
      repeat' first | ((first | refine And.intro (Or.inl rfl) ?_ | (apply Exists.intro; refine And.intro (vSqL (i := i) vIx vSqA) ?_) | (apply Exists.intro; refine And.intro (vSqG (i := i) vIx vSqA) ?_) | (apply Exists.intro; refine And.intro (⟨_, rfl, rfl⟩) ?_) | (refine And.intro (fun h => ?_) (fun h => ?_) <;> (try simp only [cnt1, ints_length] at h) <;> first | (exfalso; omega) | skip) | refine And.intro (show slotsOk _ = true by decide +kernel) ?_ | refine And.intro vOb ?_ | (apply Exists.intro; refine And.intro vObt ?_) | (apply Exists.intro; refine And.intro vObx ?_) | refine And.intro vArT ?_ | refine And.intro (vSqA) ?_ | refine Or.inl ?_) <;> conv => whnf) | fail
      · have hi' : i < q := vSqA
        refine Exists.intro (i + 1) (And.intro vSqA (And.intro vSqA ?_))
        first | refine WeakS.autoR ?_ | refine Weak.autoR ?_
        conv => whnf
        repeat' ((first | exact trivial | refine And.intro rfl ?_ | refine And.intro (eqV_int vAr) ?_ | refine And.intro vOb ?_ | refine And.intro vRepl ?_ | refine And.intro vReplL ?_ | refine And.intro ?_ ?_) <;> try (conv => whnf))
        simp only [cnt1, ints_length, L_length, place1, Int.toNat_natCast, Nat.zero_add, List.nil_append]
        rw [← mix_rows]
        exact updB_rowS hi' (by omega)
      · have hiq : i = q := vSqA
        rw [show sqT q (mix i f 0) = sqT q f from sqT_congr (fun a b ha hb => by rw [mix_c, if_pos (by omega)])]
        refine loop_atR Tryz.tabOk mixOrd (α := Nat) (fun k => [(84, dint k), (12, .undef), (56, .undef), (57, .undef), (58, .undef), (59, .undef), (60, .undef), (78, .undef), (79, .undef)]) (fun k => [(8, some ⟨false, 1, tbq q f (k + 1)⟩), (5, some ⟨true, 1, [dint pp, dint q, .ref 8 [] 1 0 (k + 1), dint pp, .list o 1 (rows p (Tb N f))]⟩)]) (fun k => k + 1 ≤ q) (fun k => q - k) (0) ?_ ?_ ?_
        · omega
        · conv => whnf
          first | refine WeakS.autoR ?_ | refine Weak.autoR ?_
          conv => whnf
          repeat' ((first | exact trivial | refine And.intro rfl ?_ | refine And.intro (eqV_int vAr) ?_ | refine And.intro vOb ?_ | refine And.intro vRepl ?_ | refine And.intro vReplL ?_ | refine And.intro ?_ ?_) <;> try (conv => whnf))
        intro k hkq
        conv => whnf
        repeat' first | ((first | refine And.intro (Or.inl rfl) ?_ | (apply Exists.intro; refine And.intro (vQL k vIx vSqA) ?_) | (apply Exists.intro; refine And.intro (vQG k vIx vSqA) ?_) | (apply Exists.intro; refine And.intro (sub_tbq vSqA) ?_) | (apply Exists.intro; refine And.intro (sub_rows vSqA) ?_) | (apply Exists.intro; refine And.intro (c_tableTimes hm q vAr _ _ _ _ _ _ _ (pw f k) f) ?_) | (refine And.intro (fun h => ?_) (fun h => ?_) <;> (try simp only [cnt1, ints_length] at h) <;> first | (exfalso; omega) | skip) | refine And.intro (show slotsOk _ = true by decide +kernel) ?_ | refine And.intro vOb ?_ | (apply Exists.intro; refine And.intro vObt ?_) | (apply Exists.intro; refine And.intro vObx ?_) | refine And.intro vArT ?_ | refine And.intro (vQsz vSqA) ?_ | refine And.intro (vQlen vSqA) ?_ | refine And.intro (one_l _) ?_ | refine And.intro (vSqA) ?_ | refine Or.inl ?_) <;> conv => whnf) | fail
        · refine Exists.intro (k + 1) (And.intro vSqA (And.intro vSqA ?_))
          first | refine WeakS.autoR ?_ | refine Weak.autoR ?_
          conv => whnf
          repeat' ((first | exact trivial | refine And.intro rfl ?_ | refine And.intro (eqV_int vAr) ?_ | refine And.intro vOb ?_ | refine And.intro vRepl ?_ | refine And.intro vReplL ?_ | refine And.intro ?_ ?_) <;> try (conv => whnf))
          exact tbq_push rfl
        · have hkq' : k + 1 = q := vSqA
          subst hkq'
          repeat' first | ((first | refine And.intro (Or.inl rfl) ?_ | (apply Exists.intro; refine And.intro (sub_tbq vDA) ?_) | (apply Exists.intro; refine And.intro (hel _ _) ?_) | (refine And.intro (fun h => ?_) (fun h => ?_) <;> (try simp only [cnt1, ints_length] at h) <;> first | (exfalso; omega) | skip) | refine And.intro (show slotsOk _ = true by decide +kernel) ?_ | refine And.intro vOb ?_ | (apply Exists.intro; refine And.intro vObt ?_) | (apply Exists.intro; refine And.intro vObx ?_) | refine And.intro vArT ?_ | refine And.intro (vDA) ?_ | refine And.intro (rows_plain _) ?_ | refine Or.inl ?_) <;> conv => whnf) | fail
          · have hh : ((rows true (ext pp (goodD (k + 1) f) (k + 1) [])).length : Int) = 1 := by assumption
            rw [rows_length] at hh
            rw [hT, ← hyes, decide_eq_true (by omega)]
          · have hh : ¬ ((rows true (ext pp (goodD (k + 1) f) (k + 1) [])).length : Int) = 1 := by assumption
            rw [rows_length] at hh
            rw [hT, ← hyes, decide_eq_false (by omega)]
  · refine pure_of_vcR Tryz.tabOk mixOrd Tryz.func9 rfl rfl ?_
    conv => whnf
    have key := c_ranked o p m t hl hr
    rw [if_neg hk] at key
    repeat' first | ((first | refine And.intro (Or.inl rfl) ?_ | refine Or.inr (inl_ofR Tryz.tabOk mixOrd _ Tryz.func26 rfl rfl ?_) | (apply Exists.intro; refine And.intro (key) ?_) | (refine And.intro (fun h => ?_) (fun h => ?_) <;> (try simp only [cnt1, ints_length] at h) <;> first | (exfalso; omega) | skip) | refine And.intro (show slotsOk _ = true by decide +kernel) ?_ | refine And.intro vOb ?_ | (apply Exists.intro; refine And.intro vObt ?_) | (apply Exists.intro; refine And.intro vObx ?_) | refine And.intro vArT ?_ | refine Or.inl ?_) <;> conv => whnf) | fail
    have h4 : kC m t = rkC m t := by unfold kC; rw [if_neg hk]
    rw [idRes, h4, if_neg hk]
end Go.Proofs

