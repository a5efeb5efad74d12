/- Grouplike and primitive elements: the reference's results. -/
-- tables
-- rec
import Derived.Test.YtmnphhjljlbfmaaGreatK118
import Derived.Test.YtmnphhjljlbfmaaGreatK119
namespace Go.Proofs
open Go Go.Vm Go.Fg Go.Fg.PS
set_option maxRecDepth 100000
set_option maxHeartbeats 4000000
set_option linter.unusedSimpArgs false
set_option linter.unusedVariables false
theorem c_specGrouplikeElements (o p : Bool) (m : Int) (t : List (List Int)) (hl : t.length ≤ 1048576) (hr : lensOk t) :
    PureCall Tryz.prog 17 [.agg [dint m, .list o 1 (rows p t)]] (geRes true m t) := by
  have key := c_l17Code o p m t hl hr
  by_cases h4 : kC m t = 0
  · obtain ⟨hk, hht, hq1, hq2⟩ := kC_0 h4
    obtain ⟨hb, hpr⟩ := htC_0 hht
    obtain ⟨hp, hlw⟩ := lawB_pl hb
    obtain ⟨hm, h2, h3, _⟩ := plB_md hp
    rw [h4, if_pos rfl] at key
    have hge : 2 ≤ rkT m t := rkT_ge2 hk hht
    obtain ⟨pp, rfl, hpp⟩ := primB_p hpr
    have hpw : pp ^ rkT pp t ≤ 1000000 := Nat.le_trans (pow_bd hpp (by omega)) (by omega)
    have hyes : D.tup [.list true 1 (rows true (ext pp (goodG true (rkT pp t) (rd2 pp t)) (rkT pp t) [])), dint 0] = geRes true pp t := by rw [geRes, if_pos h4]; rfl
    have ks := c_l17SearchG pp (rkT pp t) t.length (by omega) hm ⟨hge, by omega, by omega⟩ hpw o p (rd2 pp t) (rfl : ((rkT pp t : Nat) : Int) = rkT pp t)
    simp only [PlD, plB_T hp] at ks
    rw [← hyes]
    generalize ext pp (goodG true (rkT pp t) (rd2 pp t)) (rkT pp t) [] = R at *
    refine pure_of_vcR Tryz.tabOk mixOrd Tryz.func17 rfl rfl ?_
    conv => whnf
    repeat' first | ((first | refine And.intro (Or.inl rfl) ?_ | (apply Exists.intro; refine And.intro (key) ?_) | (apply Exists.intro; refine And.intro (ks) ?_) | (refine And.intro (fun h => ?_) (fun h => ?_) <;> (try simp only [cnt1, ints_length] at h) <;> first | (exfalso; omega) | skip) | refine And.intro (show slotsOk _ = true by decide +kernel) ?_ | refine And.intro vOb ?_ | (apply Exists.intro; refine And.intro vObt ?_) | (apply Exists.intro; refine And.intro vObx ?_) | refine And.intro vArT ?_ | refine Or.inl ?_) <;> conv => whnf) | fail
  · rw [if_neg h4] at key
    refine pure_of_vcR Tryz.tabOk mixOrd Tryz.func17 rfl rfl ?_
    conv => whnf
    repeat' first | ((first | refine And.intro (Or.inl rfl) ?_ | (apply Exists.intro; refine And.intro (key) ?_) | (refine And.intro (fun h => ?_) (fun h => ?_) <;> (try simp only [cnt1, ints_length] at h) <;> first | (exfalso; omega) | skip) | refine And.intro (show slotsOk _ = true by decide +kernel) ?_ | refine And.intro vOb ?_ | (apply Exists.intro; refine And.intro vObt ?_) | (apply Exists.intro; refine And.intro vObx ?_) | refine And.intro vArT ?_ | refine Or.inl ?_) <;> conv => whnf) | fail
    rw [geRes, if_neg h4]
theorem c_specPrimitiveElements (o p : Bool) (m : Int) (t : List (List Int)) (hl : t.length ≤ 1048576) (hr : lensOk t) :
    PureCall Tryz.prog 11 [.agg [dint m, .list o 1 (rows p t)]] (geRes false m t) := by
  have key := c_l17Code o p m t hl hr
  by_cases h4 : kC m t = 0
  · obtain ⟨hk, hht, hq1, hq2⟩ := kC_0 h4
    obtain ⟨hb, hpr⟩ := htC_0 hht
    obtain ⟨hp, hlw⟩ := lawB_pl hb
    obtain ⟨hm, h2, h3, _⟩ := plB_md hp
    rw [h4, if_pos rfl] at key
    have hge : 2 ≤ rkT m t := rkT_ge2 hk hht
    obtain ⟨pp, rfl, hpp⟩ := primB_p hpr
    have hpw : pp ^ rkT pp t ≤ 1000000 := Nat.le_trans (pow_bd hpp (by omega)) (by omega)
    have hyes : D.tup [.list true 1 (rows true (ext pp (goodG false (rkT pp t) (rd2 pp t)) (rkT pp t) [])), dint 0] = geRes false pp t := by rw [geRes, if_pos h4]; rfl
    have ks := c_l17SearchP pp (rkT pp t) t.length (by omega) hm ⟨hge, by omega, by omega⟩ hpw o p (rd2 pp t) (rfl : ((rkT pp t : Nat) : Int) = rkT pp t)
    simp only [PlD, plB_T hp] at ks
    rw [← hyes]
    generalize ext pp (goodG false (rkT pp t) (rd2 pp t)) (rkT pp t) [] = R at *
    refine pure_of_vcR Tryz.tabOk mixOrd Tryz.func11 rfl rfl ?_
    conv => whnf
    repeat' first | ((first | refine And.intro (Or.inl rfl) ?_ | (apply Exists.intro; refine And.intro (key) ?_) | (apply Exists.intro; refine And.intro (ks) ?_) | (refine And.intro (fun h => ?_) (fun h => ?_) <;> (try simp only [cnt1, ints_length] at h) <;> first | (exfalso; omega) | skip) | refine And.intro (show slotsOk _ = true by decide +kernel) ?_ | refine And.intro vOb ?_ | (apply Exists.intro; refine And.intro vObt ?_) | (apply Exists.intro; refine And.intro vObx ?_) | refine And.intro vArT ?_ | refine Or.inl ?_) <;> conv => whnf) | fail
  · rw [if_neg h4] at key
    refine pure_of_vcR Tryz.tabOk mixOrd Tryz.func11 rfl rfl ?_
    conv => whnf
    repeat' first | ((first | refine And.intro (Or.inl rfl) ?_ | (apply Exists.intro; refine And.intro (key) ?_) | (refine And.intro (fun h => ?_) (fun h => ?_) <;> (try simp only [cnt1, ints_length] at h) <;> first | (exfalso; omega) | skip) | refine And.intro (show slotsOk _ = true by decide +kernel) ?_ | refine And.intro vOb ?_ | (apply Exists.intro; refine And.intro vObt ?_) | (apply Exists.intro; refine And.intro vObx ?_) | refine And.intro vArT ?_ | refine Or.inl ?_) <;> conv => whnf) | fail
    rw [geRes, if_neg h4]
end Go.Proofs

