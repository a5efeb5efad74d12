/- The first difference of two laws is a cocycle. -/
import Derived.Test.YthpbaehnkmmkgaaGreatK153
import Derived.Test.YthpbaehnkmmkgaaGreatK23
import Derived.Test.YthpbaehnkmmkgaaGreatK130
import Derived.Test.YthpbaehnkmmkgaaGreatK112

namespace Go.Proofs
open Go Go.Vm Go.Fg Go.Fg.PS
set_option maxRecDepth 100000
set_option linter.unusedSimpArgs false
set_option linter.unusedVariables false
variable {m : Int}
theorem cr_diff {R : Type} [CR R] {G x y u v B C : R} (e1 : G + x * B = u * C) (e2 : G + y * B = v * C) : (y + -x) * B = (v + -u) * C := by
  rw [Go.Fg.add_mul, Go.Fg.neg_mul, Go.Fg.add_mul, Go.Fg.neg_mul, ← e1, ← e2, Go.Fg.neg_add_rev]
  rw [show G + y * B + (-G + -(x * B)) = (G + -G) + (y * B + -(x * B)) by ac_rfl, Go.Fg.add_neg, CR.zero_add]
theorem diff_coc {f g : PS (PS (Zm m))} {N n : Nat} (hf : LawP f N) (hg : LawP g N) (hn : 2 ≤ n ∧ n ≤ 10) (hN : n < N) (hag : ∀ i j, i + j < n → (f.c i).c j = (g.c i).c j) : CocP (topP n fun i => (g.c i).c (n - i) + -(f.c i).c (n - i)) n := by
  obtain ⟨B1, z1⟩ := law_bud hn (lawP_le (by omega) (show n + 1 ≤ N by omega) hf)
  obtain ⟨B2, z2⟩ := law_bud hn (lawP_le (by omega) (show n + 1 ≤ N by omega) hg)
  have e : lowP g n = lowP f n := ext2 (fun i j => by
    show (if _ then _ else _) = (if _ then _ else _)
    split
    · rename_i h; exact (hag i j h).symm
    · rfl)
  rw [e] at B2
  have ht : ∀ i, i ≤ n → tpc (topP n fun i => (g.c i).c (n - i) + -(f.c i).c (n - i)) n i = (g.c i).c (n - i) + -(f.c i).c (n - i) := fun i hi => by
    unfold tpc; rw [topP_cc, if_pos (by omega)]
  refine ⟨hn.1, fun i j hij => by rw [topP_cc, if_neg (by omega)], fun i hi => ?_, ?_, fun a b ha hb hab => ?_⟩
  · have k1 : (f.c (n - i)).c (n - (n - i)) = (f.c i).c (n - i) := B1.1 i hi
    have k2 : (g.c (n - i)).c (n - (n - i)) = (g.c i).c (n - i) := B2.1 i hi
    rw [ht i hi, ht (n - i) (by omega), k1, k2]
  · rw [ht 0 (by omega), z1, z2]; exact Go.Fg.add_neg _
  · have e1 := B1.2 a b (n - a - b) ha hb (by omega) (by omega)
    have e2 := B2.2 a b (n - a - b) ha hb (by omega) (by omega)
    rw [show b + (n - a - b) = n - a by omega] at e1 e2
    unfold cocR
    rw [ht (a + b) (by omega), ht a (by omega), CR.mul_comm (Zm.mk m _) ((g.c (a + b)).c (n - (a + b)) + -(f.c (a + b)).c (n - (a + b))), CR.mul_comm (Zm.mk m _) ((g.c a).c (n - a) + -(f.c a).c (n - a))]
    refine cr_diff (G := gam (lowP f n) (n + 1) a b (n - a - b)) ?_ ?_
    · exact e1
    · exact e2
end Go.Proofs



-- tables
-- rec
namespace Go.Proofs
open Go Go.Vm Go.Fg Go.Fg.PS
set_option maxRecDepth 100000
set_option maxHeartbeats 4000000
set_option linter.unusedSimpArgs false
set_option linter.unusedVariables false
variable {m : Int}
open Classical in
noncomputable def twC (m : Int) (t : List (List Int)) (m' : Int) (t' : List (List Int)) : Int := if lawB m t = true ∧ lawB m' t' = true then (if m = m' ∧ t.length = t'.length then 0 else 2) else 1
theorem twC_0 {m : Int} {t : List (List Int)} {m' : Int} {t' : List (List Int)} (h : twC m t m' t' = 0) : lawB m t = true ∧ lawB m' t' = true ∧ m = m' ∧ t.length = t'.length := by
  unfold twC at h
  split at h
  · rename_i h1
    split at h
    · rename_i h2; exact ⟨h1.1, h1.2, h2.1, h2.2⟩
    · omega
  · omega
theorem lawB_two {m : Int} {t : List (List Int)} (h : lawB m t = true) : plB m t = true ∧ LawP (rd2 m t) t.length := by
  unfold lawB at h
  simp only [Bool.and_eq_true, trL, decide_eq_true_eq] at h
  exact h
theorem lawB_Tb {m : Int} {t : List (List Int)} (h : lawB m t = true) : (Md m ∧ (2 ≤ t.length ∧ t.length ≤ 11)) ∧ Tb t.length (rd2 m t) = t ∧ LawP (rd2 m t) t.length := by
  unfold lawB at h
  simp only [Bool.and_eq_true, trL, decide_eq_true_eq] at h
  obtain ⟨hm, h3, h4, _⟩ := plB_md h.1
  exact ⟨⟨hm, h3, h4⟩, plB_T h.1, h.2⟩
theorem c_degreeA (o p : Bool) (m : Int) (t : List (List Int)) (hl : t.length ≤ 1048576) : PureCall Tryz.prog 215 [.agg [dint m, .list o 1 (rows p t)]] (dint ((t.length : Int) - 1)) := by
  refine pure_of_vcR Tryz.tabOk mixOrd Tryz.func215 rfl rfl ?_
  conv => whnf
  repeat' first | ((first | refine z0 ?_ | (refine And.intro (fun h => ?_) (fun h => ?_) <;> (try simp only [cnt1, ints_length] at h)) | refine zS ?_ | refine zV ?_ | (apply zI; refine zP vObt ?_) | (apply zI; refine zP vObx ?_) | refine zA ?_ | refine Alt.fst ?_ | refine Or.inl ?_) <;> conv => whnf) | fail
  simp [cnt1]
theorem c_alikeA (o p o' p' : Bool) (m : Int) (t : List (List Int)) (m' : Int) (t' : List (List Int)) (hl : t.length ≤ 1048576) (hl' : t'.length ≤ 1048576) : PureCall Tryz.prog 396 [.agg [dint m, .list o 1 (rows p t)], .agg [dint m', .list o' 1 (rows p' t')]] (dbool (decide (m = m') && decide (t.length = t'.length))) := by
  refine pure_of_vcR Tryz.tabOk mixOrd Tryz.func396 rfl rfl ?_
  conv => whnf
  repeat' first | ((first | refine z0 ?_ | (apply zI; refine zP (c_degreeA _ _ _ t hl) ?_) | (apply zI; refine zP (c_degreeA _ _ _ t' hl') ?_) | (refine And.intro (fun h => ?_) (fun h => ?_) <;> (try simp only [cnt1, ints_length] at h)) | refine zS ?_ | refine zV ?_ | (apply zI; refine zP vObt ?_) | (apply zI; refine zP vObx ?_) | refine zA ?_ | refine Alt.fst ?_ | refine Or.inl ?_) <;> conv => whnf) | fail
  all_goals (refine dbool_congr ?_; first | rfl | (simp_all []; done) | (simp_all []; omega) | (simp_all []; intros; omega))
theorem c_bothLaws (o p o' p' : Bool) (m : Int) (t : List (List Int)) (hl : t.length ≤ 1048576) (hr : lensOk t) (m' : Int) (t' : List (List Int)) (hl' : t'.length ≤ 1048576) (hr' : lensOk t') : PureCall Tryz.prog 302 [.agg [dint m, .list o 1 (rows p t)], .agg [dint m', .list o' 1 (rows p' t')]] (dint (twC m t m' t')) := by
  refine pure_of_vcR Tryz.tabOk mixOrd Tryz.func302 rfl rfl ?_
  conv => whnf
  repeat' first | ((first | refine z0 ?_ | (apply zI; refine zP (c_IsLaw _ _ _ _ hl hr) ?_) | (apply zI; refine zP (c_IsLaw _ _ _ _ hl' hr') ?_) | (apply zI; refine zP (c_alikeA _ _ _ _ _ t _ t' hl hl') ?_) | (refine And.intro (fun h => ?_) (fun h => ?_) <;> (try simp only [cnt1, ints_length] at h)) | refine zS ?_ | refine zV ?_ | (apply zI; refine zP vObt ?_) | (apply zI; refine zP vObx ?_) | refine zA ?_ | refine Alt.fst ?_ | refine Or.inl ?_) <;> conv => whnf) | fail
  all_goals (refine congrArg dint ?_; first | (simp_all [twC]; done) | (simp_all [twC]; omega))
theorem c_l04Two (o p o' p' : Bool) (m : Int) (t : List (List Int)) (hl : t.length ≤ 1048576) (hr : lensOk t) (m' : Int) (t' : List (List Int)) (hl' : t'.length ≤ 1048576) (hr' : lensOk t') : PureCall Tryz.prog 304 [.agg [dint m, .list o 1 (rows p t)], .agg [dint m', .list o' 1 (rows p' t')]] (dint (twC m t m' t')) := by
  refine pure_of_vcR Tryz.tabOk mixOrd Tryz.func304 rfl rfl ?_
  conv => whnf
  repeat' first | ((first | refine z0 ?_ | (apply zI; refine zP (c_l04Is _ _ _ _ hl hr) ?_) | (apply zI; refine zP (c_l04Is _ _ _ _ hl' hr') ?_) | (refine And.intro (fun h => ?_) (fun h => ?_) <;> (try simp only [cnt1, ints_length] at h)) | refine zS ?_ | refine zV ?_ | (apply zI; refine zP vObt ?_) | (apply zI; refine zP vObx ?_) | refine zA ?_ | refine Alt.fst ?_ | refine Or.inl ?_) <;> conv => whnf) | fail
  all_goals (refine congrArg dint ?_; first | (simp_all [twC]; done) | (simp_all [twC]; omega))
end Go.Proofs


