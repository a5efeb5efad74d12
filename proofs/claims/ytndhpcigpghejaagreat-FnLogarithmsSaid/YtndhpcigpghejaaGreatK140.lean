import Derived.Test.YtndhpcigpghejaaGreatK138
import Derived.Test.YtndhpcigpghejaaGreatK62
import Derived.Test.YtndhpcigpghejaaGreatK9
import Derived.Test.YtndhpcigpghejaaGreatK132
import Derived.Test.YtndhpcigpghejaaGreatK13
import Derived.Test.YtndhpcigpghejaaGreatK79
namespace Go.Proofs
open Go Go.Vm Go.Fg Go.Fg.PS
set_option maxRecDepth 100000
set_option maxHeartbeats 4000000
set_option linter.unusedSimpArgs false
set_option linter.unusedVariables false
variable {m : Int}
noncomputable def moC (m : Int) (t : List (List Int)) (k : Int) : Int := if lawB m t = true then (if -1000000 ≤ k ∧ k ≤ 1000000 then 0 else 2) else 1
theorem moC_0 {m : Int} {t : List (List Int)} {k : Int} (h : moC m t k = 0) : lawB m t = true ∧ (-1000000 ≤ k ∧ k ≤ 1000000) := by
 unfold moC at h
 split at h
 · split at h
   · exact ⟨by assumption, by assumption⟩
   · omega
 · omega
theorem c_isMultiple (n : Int) : PureCall Tryz.prog 188 [dint n] (dbool (inB n (-1000000) 1000000)) := by
 refine pure_of_vcR Tryz.tabOk mixOrd Tryz.func188 rfl rfl ?_
 conv => whnf
 repeat' first | ((first | refine z0 ?_ | (apply zI; refine zP (c_impl_in _ _ _) ?_) | (refine And.intro (fun h => ?_) (fun h => ?_) <;> (try simp only [cnt1, ints_length] at h)) | refine zS ?_ | refine zV ?_ | (apply zI; refine zP vObt ?_) | (apply zI; refine zP vObx ?_) | refine zA ?_ | refine Alt.fst ?_ | refine Or.inl ?_) <;> conv => whnf) | fail
 all_goals rw [h]
theorem c_implMultipleOf (o p : Bool) (m : Int) (t : List (List Int)) (hl : t.length ≤ 1048576) (hr : lensOk t) (k : Int) (r : PS (Zm m)) (hR : moC m t k = 0 → MulZ (rd2 m t) t.length k PS.X r) :
   PureCall Tryz.prog 35 [.agg [dint m, .list o 1 (rows p t)], dint k] (serRes m t.length r (moC m t k)) := by
 have h0 := c_IsLaw o p m t hl hr
 cases hc : lawB m t with
 | false =>
   rw [hc] at h0
   have e : moC m t k = 1 := by unfold moC; rw [if_neg (by simp [hc])]
   rw [serRes, if_neg (by omega), e]
   refine pure_of_vcR Tryz.tabOk mixOrd Tryz.func35 rfl rfl ?_
   conv => whnf
   repeat' first | ((first | refine z0 ?_ | (apply zI; refine zP (h0) ?_) | (refine And.intro (fun h => ?_) (fun h => ?_) <;> (try simp only [cnt1, ints_length] at h) <;> first | (exfalso; omega) | skip) | refine zS ?_ | refine zV ?_ | (apply zI; refine zP vObt ?_) | (apply zI; refine zP vObx ?_) | refine zA ?_ | refine Alt.fst ?_ | refine Or.inl ?_) <;> conv => whnf) | fail
   all_goals first | rfl | (exfalso; simp_all)
 | true =>
   rw [hc] at h0
   obtain ⟨⟨hm, hn⟩, eT, _⟩ := lawB_Tb hc
   by_cases hk : -1000000 ≤ k ∧ k ≤ 1000000
   · have e : moC m t k = 0 := by unfold moC; rw [if_pos hc, if_pos hk]
     have hin : inB k (-1000000) 1000000 = true := by simp [inB, hk]
     rw [serRes, if_pos e]
     have key := c_multipleZ hm o p false t.length ⟨hn.1, by omega⟩ (rd2 m t) PS.X k hk r (hR e)
     have hdeg := c_degreeP o p t.length (by omega) (rd2 m t)
     simp only [PlD, eT] at key hdeg
     refine pure_of_vcR Tryz.tabOk mixOrd Tryz.func35 rfl rfl ?_
     conv => whnf
     repeat' first | ((first | refine z0 ?_ | (apply zI; refine zP (h0) ?_) | (apply zI; refine zP (c_isMultiple _) ?_) | (apply zI; refine zP (hdeg) ?_) | (apply zI; refine zP (c_variable t.length vAr vAr hm) ?_) | (apply zI; refine zP (key) ?_) | refine Or.inl (Or.inr (And.intro (mk_l02Make) ?_)) | refine Or.inr (And.intro (mk_l02Make) ?_) | (refine And.intro (fun h => ?_) (fun h => ?_) <;> (try simp only [cnt1, ints_length] at h) <;> first | (exfalso; omega) | skip) | refine zS ?_ | refine zV ?_ | (apply zI; refine zP vObt ?_) | (apply zI; refine zP vObx ?_) | refine zA ?_ | refine Alt.fst ?_ | refine Or.inl ?_) <;> conv => whnf) | fail
     all_goals first | rfl | (exfalso; simp_all; done)
   · have e : moC m t k = 2 := by unfold moC; rw [if_pos hc, if_neg hk]
     have hin : inB k (-1000000) 1000000 = false := by simp [inB]; omega
     rw [serRes, if_neg (by omega), e]
     refine pure_of_vcR Tryz.tabOk mixOrd Tryz.func35 rfl rfl ?_
     conv => whnf
     repeat' first | ((first | refine z0 ?_ | (apply zI; refine zP (h0) ?_) | (apply zI; refine zP (c_isMultiple _) ?_) | (refine And.intro (fun h => ?_) (fun h => ?_) <;> (try simp only [cnt1, ints_length] at h) <;> first | (exfalso; omega) | skip) | refine zS ?_ | refine zV ?_ | (apply zI; refine zP vObt ?_) | (apply zI; refine zP vObx ?_) | refine zA ?_ | refine Alt.fst ?_ | refine Or.inl ?_) <;> conv => whnf) | fail
     all_goals first | rfl | (exfalso; simp_all; done)
theorem cuC_0 {m : Int} {t : List (List Int)} {ma : Int} {l : List Int} (h : cuC m t ma l = 0) : lawB m t = true ∧ serB ma l = true ∧ m = ma ∧ t.length = l.length ∧ l.getD 0 0 = 0 := by
 unfold cuC at h
 split at h
 · split at h
   · split at h
     · rename_i h1 h2 h3
       simp only [fitB, Bool.and_eq_true, decide_eq_true_eq] at h3
       exact ⟨h1, h2, h3.1, h3.2.1, h3.2.2⟩
     · omega
   · omega
 · omega
theorem cuC_rng (m : Int) (t : List (List Int)) (ma : Int) (l : List Int) : 0 ≤ cuC m t ma l ∧ cuC m t ma l ≤ 2 := by
 unfold cuC
 repeat' split
 all_goals omega
set_option linter.unusedSectionVars false
theorem lwN_of {f : PS (PS (Zm m))} {n : Nat} (hn : 2 ≤ n) (L : LawP f n) : LwN f n :=
 ⟨hn, by rw [L.1 0 (by omega)]; exact if_neg (by omega), by rw [L.1 1 (by omega)]; exact if_pos rfl, fun i hi hne => by rw [L.1 i hi]; exact if_neg hne, L.2.1, fun p q k h => L.2.2 p q k h⟩
section
variable {f : PS (PS (Zm m))} {n : Nat} (hL : LwN f n)
include hL
theorem mul_nm {k : Nat} {out a r : PS (Zm m)} (h : Mul f n k out a r) (ho : out.c 0 = 0) (ha : a.c 0 = 0) : cv n r = hL.G.ad (cv n out) (hL.G.nm k (cv n a)) ∧ r.c 0 = 0 := by
 induction h with
 | zero out a => exact ⟨(hL.G.adz _).symm, ho⟩
 | odd k out a r hk h ih =>
   obtain ⟨h1, h2⟩ := ih (putS_0 hL.z0 ho ha) (putS_0 hL.z0 ha ha)
   refine ⟨?_, h2⟩
   rw [h1, putS_ev, putS_ev, ← hL.ad_cv ho ha, ← hL.ad_cv ha ha, hL.G.nm_ad, ← hL.G.nm_add, hL.G.assoc, hL.G.comm (cv n a)]
   have e : hL.G.nm k (cv n a) = hL.G.ad (hL.G.nm (k / 2 + k / 2) (cv n a)) (cv n a) := by
     conv => lhs; rw [show k = (k / 2 + k / 2) + 1 by omega]
     rfl
   rw [e]
 | even k out a r hk hk2 h ih =>
   obtain ⟨h1, h2⟩ := ih ho (putS_0 hL.z0 ha ha)
   refine ⟨?_, h2⟩
   rw [h1, putS_ev, ← hL.ad_cv ha ha, hL.G.nm_ad, ← hL.G.nm_add, show k / 2 + k / 2 = k by omega]
theorem op_ag {s : PS (Zm m)} (hs : s.c 0 = 0) : Ag n (compN (ivS n f) s 0 n) (opS n f s) := compN_ag hs n
theorem op_c0 {s : PS (Zm m)} (hs : s.c 0 = 0) : (compN (ivS n f) s 0 n).c 0 = 0 := by
 have := hL.pos
 rw [op_ag hL hs 0 (by omega), opS_0]
theorem mulZ_zm {k : Int} {a r : PS (Zm m)} (h : MulZ f n k a r) (ha : a.c 0 = 0) : cv n r = hL.G.zm k (cv n a) ∧ r.c 0 = 0 := by
 unfold MulZ at h
 by_cases h0 : 0 ≤ k
 · rw [if_pos h0] at h
   obtain ⟨h1, h2⟩ := mul_nm hL h rfl ha
   refine ⟨?_, h2⟩
   have e : hL.G.zm k (cv n a) = hL.G.nm k.toNat (cv n a) := by
     conv => lhs; rw [show k = (k.toNat : Int) by omega]
     rfl
   rw [h1, e]; exact hL.G.zad _
 · rw [if_neg h0] at h
   obtain ⟨s, hs, rfl⟩ := h
   obtain ⟨h1, h2⟩ := mul_nm hL hs rfl ha
   refine ⟨?_, op_c0 hL h2⟩
   have e : hL.G.zm k (cv n a) = hL.G.ng (hL.G.nm (-k).toNat (cv n a)) := by
     conv => lhs; rw [show k = -((-k).toNat : Int) by omega]
     exact hL.G.zm_neg_nat _ _
   rw [cv_of (op_ag hL h2), ← hL.ng_cv h2, h1, e]
   exact congrArg hL.G.ng (hL.G.zad _)
end
end Go.Proofs
