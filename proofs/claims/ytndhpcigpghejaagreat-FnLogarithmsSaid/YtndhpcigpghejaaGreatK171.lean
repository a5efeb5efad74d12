import Derived.Test.YtndhpcigpghejaaGreatK170
import Derived.Test.YtndhpcigpghejaaGreatK45
import Derived.Test.YtndhpcigpghejaaGreatAlg31
namespace Go.Proofs
open Go Go.Vm Go.Fg Go.Fg.PS
set_option maxRecDepth 100000
set_option maxHeartbeats 4000000
set_option linter.unusedSimpArgs false
set_option linter.unusedVariables false
variable {m : Int}
theorem c_l01SameS (o o' : Bool) (l l' : List Int) (hl : l.length ≤ 1048576) : PureCall Tryz.prog 307 [.list o 1 (ints l), .list o' 1 (ints l')] (dbool (decide (l = l'))) := by
 refine pure_of_vcR Tryz.tabOk mixOrd Tryz.func307 rfl rfl ?_
 conv => whnf
 repeat' first | ((first | refine z0 ?_ | (refine And.intro (fun h => ?_) (fun h => ?_) <;> (try simp only [cnt1, ints_length] at h)) | refine zS ?_ | refine zV ?_ | (apply zI; refine zP vObt ?_) | (apply zI; refine zP vObx ?_) | refine zA ?_ | refine Alt.fst ?_ | refine Or.inl ?_) <;> conv => whnf) | fail
 · refine dbool_congr ?_
   rw [eq_comm, decide_eq_false_iff_not]
   intro e; subst e; simp_all
 · have hlen : l.length = l'.length := by omega
   refine loop_atR Tryz.tabOk mixOrd (α := Nat) (fun i => [(5, dint i)]) (fun i => []) (fun i => i ≤ l.length ∧ ∀ j, j < i → l.getD j 0 = l'.getD j 0) (fun i => l.length - i) (0) ?_ ?_ ?_
   · exact ⟨by omega, by omega⟩
   · conv => whnf
     first | refine WeakS.autoR ?_ | refine Weak.autoR ?_
     conv => whnf
     repeat' ((first | refine z1 ?_ | refine z2 ?_ | refine zV ?_ | refine And.intro vRepl ?_ | refine And.intro vReplL ?_ | refine And.intro ?_ ?_ | exact trivial) <;> try (conv => whnf))
   intro i hi
   conv => whnf
   repeat' first | ((first | refine z0 ?_ | (refine And.intro (fun h => ?_) (fun h => ?_) <;> (try simp only [cnt1, ints_length] at h)) | refine zS ?_ | refine zV ?_ | (apply zI; refine zP vObt ?_) | (apply zI; refine zP vObx ?_) | refine zA ?_ | refine Alt.fst ?_ | refine Or.inl ?_) <;> conv => whnf) | fail
   · refine dbool_congr ?_
     rw [eq_comm, decide_eq_false_iff_not]
     intro e; subst e
     simp_all
   · refine Exists.intro (i + 1) (And.intro ⟨by omega, lt_cases hi.2 (by omega)⟩ (And.intro (by omega) ?_))
     first | refine WeakS.autoR ?_ | refine Weak.autoR ?_
     conv => whnf
     repeat' ((first | refine z1 ?_ | refine z2 ?_ | refine zV ?_ | refine And.intro vRepl ?_ | refine And.intro vReplL ?_ | refine And.intro ?_ ?_ | exact trivial) <;> try (conv => whnf))
   · refine dbool_congr ?_
     rw [eq_comm, decide_eq_true_iff]
     exact List.ext_getElem hlen (fun j h1 h2 => by have := hi.2 j (by omega); simpa [h1, h2] using this)
theorem c_l01Same2S (o p o' p' : Bool) (N : Nat) (hN : N ≤ 100) (f g : PS (PS (Zm m))) : PureCall Tryz.prog 237 [.list o 1 (rows p (Tb N f)), .list o' 1 (rows p' (Tb N g))] (dbool (eqTB N f g)) := by
 by_cases hab : eqT N f g
 · rw [show eqTB N f g = true by simp [eqTB, hab]]
   refine pure_of_vcR Tryz.tabOk mixOrd Tryz.func237 rfl rfl ?_
   conv => whnf
   repeat' first | ((first | refine z0 ?_ | (refine And.intro (fun h => ?_) (fun h => ?_) <;> (try simp only [cnt1, ints_length, rows_length, Tb_length] at h) <;> first | (exfalso; omega) | skip) | refine zS ?_ | refine zV ?_ | (apply zI; refine zP vObt ?_) | (apply zI; refine zP vObx ?_) | refine zA ?_ | refine Alt.fst ?_ | refine Or.inl ?_) <;> conv => whnf) | fail
   refine loop_atR Tryz.tabOk mixOrd (α := Nat) (fun i => [(5, dint i)]) (fun i => []) (fun i => i ≤ N) (fun i => N - i) (0) ?_ ?_ ?_
   · omega
   · conv => whnf
     first | refine WeakS.autoR ?_ | refine Weak.autoR ?_
     conv => whnf
     repeat' ((first | refine z1 ?_ | refine z2 ?_ | refine zV ?_ | refine And.intro vRepl ?_ | refine And.intro vReplL ?_ | refine And.intro ?_ ?_ | exact trivial) <;> try (conv => whnf))
   intro i hi
   conv => whnf
   by_cases hin : i < N
   · have hc := c_l01SameS p p' (L (N - i) (f.c i)) (L (N - i) (g.c i)) (by simp; omega)
     rw [show decide (L (N - i) (f.c i) = L (N - i) (g.c i)) = true by simp [hab i hin]] at hc
     repeat' first | ((first | refine z0 ?_ | (apply zI; refine zP (hc) ?_) | (refine And.intro (fun h => ?_) (fun h => ?_) <;> (try simp only [cnt1, ints_length, rows_length, Tb_length] at h) <;> first | (exfalso; omega) | skip) | refine zS ?_ | refine zV ?_ | (apply zI; refine zP vObt ?_) | (apply zI; refine zP vObx ?_) | refine zA ?_ | refine Alt.fst ?_ | refine Or.inl ?_) <;> conv => whnf) | fail
     · refine Exists.intro (i + 1) (And.intro vAr (And.intro vAr ?_))
       first | refine WeakS.autoR ?_ | refine Weak.autoR ?_
       conv => whnf
       repeat' ((first | refine z1 ?_ | refine z2 ?_ | refine zV ?_ | refine And.intro vRepl ?_ | refine And.intro vReplL ?_ | refine And.intro ?_ ?_ | exact trivial) <;> try (conv => whnf))
     all_goals (exfalso; simp_all; done)
   · repeat' first | ((first | refine z0 ?_ | (refine And.intro (fun h => ?_) (fun h => ?_) <;> (try simp only [cnt1, ints_length, rows_length, Tb_length] at h) <;> first | (exfalso; omega) | skip) | refine zS ?_ | refine zV ?_ | (apply zI; refine zP vObt ?_) | (apply zI; refine zP vObx ?_) | refine zA ?_ | refine Alt.fst ?_ | refine Or.inl ?_) <;> conv => whnf) | fail
     all_goals first | rfl
 · rw [show eqTB N f g = false by simp [eqTB, hab]]
   refine pure_of_vcR Tryz.tabOk mixOrd Tryz.func237 rfl rfl ?_
   conv => whnf
   repeat' first | ((first | refine z0 ?_ | (refine And.intro (fun h => ?_) (fun h => ?_) <;> (try simp only [cnt1, ints_length, rows_length, Tb_length] at h) <;> first | (exfalso; omega) | skip) | refine zS ?_ | refine zV ?_ | (apply zI; refine zP vObt ?_) | (apply zI; refine zP vObx ?_) | refine zA ?_ | refine Alt.fst ?_ | refine Or.inl ?_) <;> conv => whnf) | fail
   refine loop_atR Tryz.tabOk mixOrd (α := Nat) (fun i => [(5, dint i)]) (fun i => []) (fun i => i ≤ N ∧ ∀ k, k < i → L (N - k) (f.c k) = L (N - k) (g.c k)) (fun i => N - i) (0) ?_ ?_ ?_
   · exact ⟨by omega, by omega⟩
   · conv => whnf
     first | refine WeakS.autoR ?_ | refine Weak.autoR ?_
     conv => whnf
     repeat' ((first | refine z1 ?_ | refine z2 ?_ | refine zV ?_ | refine And.intro vRepl ?_ | refine And.intro vReplL ?_ | refine And.intro ?_ ?_ | exact trivial) <;> try (conv => whnf))
   intro i hi
   obtain ⟨hi, hk⟩ := hi
   conv => whnf
   by_cases hin : i < N
   · by_cases he : L (N - i) (f.c i) = L (N - i) (g.c i)
     · have hc := c_l01SameS p p' (L (N - i) (f.c i)) (L (N - i) (g.c i)) (by simp; omega)
       rw [show decide (L (N - i) (f.c i) = L (N - i) (g.c i)) = true by simp [he]] at hc
       repeat' first | ((first | refine z0 ?_ | (apply zI; refine zP (hc) ?_) | (refine And.intro (fun h => ?_) (fun h => ?_) <;> (try simp only [cnt1, ints_length, rows_length, Tb_length] at h) <;> first | (exfalso; omega) | skip) | refine zS ?_ | refine zV ?_ | (apply zI; refine zP vObt ?_) | (apply zI; refine zP vObx ?_) | refine zA ?_ | refine Alt.fst ?_ | refine Or.inl ?_) <;> conv => whnf) | fail
       · refine Exists.intro (i + 1) (And.intro ⟨by omega, fun k hk9 => (Nat.lt_or_ge k i).elim (hk k) (fun h9 => by rw [show k = i by omega]; exact he)⟩ (And.intro vAr ?_))
         first | refine WeakS.autoR ?_ | refine Weak.autoR ?_
         conv => whnf
         repeat' ((first | refine z1 ?_ | refine z2 ?_ | refine zV ?_ | refine And.intro vRepl ?_ | refine And.intro vReplL ?_ | refine And.intro ?_ ?_ | exact trivial) <;> try (conv => whnf))
       all_goals (exfalso; simp_all; done)
     · have hc := c_l01SameS p p' (L (N - i) (f.c i)) (L (N - i) (g.c i)) (by simp; omega)
       rw [show decide (L (N - i) (f.c i) = L (N - i) (g.c i)) = false by simp [he]] at hc
       repeat' first | ((first | refine z0 ?_ | (apply zI; refine zP (hc) ?_) | (refine And.intro (fun h => ?_) (fun h => ?_) <;> (try simp only [cnt1, ints_length, rows_length, Tb_length] at h) <;> first | (exfalso; omega) | skip) | refine zS ?_ | refine zV ?_ | (apply zI; refine zP vObt ?_) | (apply zI; refine zP vObx ?_) | refine zA ?_ | refine Alt.fst ?_ | refine Or.inl ?_) <;> conv => whnf) | fail
       all_goals first | rfl | (exfalso; simp_all; done)
   · exact (hab (fun k hk9 => hk k (by omega))).elim
open Classical in
noncomputable def ilB (m : Int) (t : List (List Int)) (l : List Int) : Bool := decide (((rd m l).c 1).val = 1) && eqTB t.length (comp2N (rd m l) (rd2 m t) 0 t.length) (axX (rd m l) + axY (rd m l))
theorem eqTB_Tb (N : Nat) (f g : PS (PS (Zm m))) : decide (Tb N f = Tb N g) = eqTB N f g := by
 unfold eqTB
 rw [decide_eq_decide]
 refine ⟨fun h i hi => ?_, fun h => ?_⟩
 · exact L_congr (fun j hj => Tb_inj h i j (by omega))
 · unfold Tb
   exact List.map_congr_left (fun i hi => h i (List.mem_range.1 hi))
theorem c_implIsLogarithm (o p o1 : Bool) (m : Int) (t : List (List Int)) (hl : t.length ≤ 1048576) (hr : lensOk t) (ma : Int) (l : List Int) (h1 : l.length ≤ 1048576) :
   PureCall Tryz.prog 65 [.agg [dint m, .list o 1 (rows p t)], .agg [dint ma, .list o1 1 (ints l)]] (.tup [dbool (if cuC m t ma l = 0 then ilB m t l else false), dint (cuC m t ma l)]) := by
 have h0 := fun o1 o2 => c_curved1 o p o1 o2 m t ma l hl hr h1
 by_cases hc : cuC m t ma l = 0
 · obtain ⟨hA, hB, rfl, hC, hD⟩ := cuC_0 hc
   obtain ⟨⟨hm, hn⟩, eT, _⟩ := lawB_Tb hA
   have eL := (serB_L' hB).symm
   rw [← hC] at eL
   rw [hc] at h0 ⊢
   rw [if_pos rfl]
   have k1 := fun o1 => c_of hm o1 o p t.length (by omega) (rd m l) (rd2 m t)
   have k2 := fun o1 => c_onAxis0 hm o1 t.length (by omega) (rd m l)
   have k3 := fun o1 => c_onAxis1 hm o1 t.length (by omega) (rd m l)
   have k5 := fun o o' p p' => c_sameP (m := m) o o' p p' t.length t.length (by omega) (comp2N (rd m l) (rd2 m t) 0 t.length) (axX (rd m l) + axY (rd m l))
   simp only [eqTB_Tb] at k5
   simp only [PlD, SerD, eT, eL] at k1 k2 k3
   have hv : l.getD 1 0 = ((rd m l).c 1).val := by
     have := L_getD (rd m l) (show 1 < t.length by omega)
     rw [eL] at this; exact this
   unfold ilB
   by_cases h11 : ((rd m l).c 1).val = 1
   · rw [decide_eq_true h11, Bool.true_and]
     refine pure_of_vcR Tryz.tabOk mixOrd Tryz.func65 rfl rfl ?_
     conv => whnf
     repeat' first | ((first | refine z0 ?_ | (apply zI; refine zP (h0 _ _) ?_) | (apply zI; refine zP (k1 _) ?_) | (apply zI; refine zP (k2 _) ?_) | (apply zI; refine zP (k3 _) ?_) | (apply zI; refine zP (c_plusP hm _ _ _ _ t.length (by omega) _ _) ?_) | (apply zI; refine zP (k5 _ _ _ _) ?_) | (apply zI; refine zP ((show sub [dint m, D.list false 1 (ints l)] 2 0 1 = [dint m, D.list false 1 (ints l)] from rfl)) ?_) | (refine And.intro (fun h => ?_) (fun h => ?_) <;> (try simp only [cnt1, ints_length, rows_length, Tb_length, L_length, byts_length] at h) <;> first | (exfalso; first | omega | exact h trivial | (cases h; done)) | skip) | refine zS ?_ | refine zV ?_ | (apply zI; refine zP vObt ?_) | (apply zI; refine zP vObx ?_) | refine zA ?_ | refine And.intro ((show 1 * 2 ≤ 2 by omega)) ?_ | refine Alt.fst ?_ | refine Or.inl ?_) <;> conv => whnf) | fail
     all_goals first | rfl | (exfalso; simp_all; done) | (rw [h]; done) | (rw [h]; rfl) | (rename_i h; rw [h]; done) | (rename_i h; rw [h]; rfl) | (exfalso; omega)
   · rw [decide_eq_false h11, Bool.false_and]
     refine pure_of_vcR Tryz.tabOk mixOrd Tryz.func65 rfl rfl ?_
     conv => whnf
     repeat' first | ((first | refine z0 ?_ | (apply zI; refine zP (h0 _ _) ?_) | (apply zI; refine zP ((show sub [dint m, D.list false 1 (ints l)] 2 0 1 = [dint m, D.list false 1 (ints l)] from rfl)) ?_) | (refine And.intro (fun h => ?_) (fun h => ?_) <;> (try simp only [cnt1, ints_length, rows_length, Tb_length, L_length, byts_length] at h) <;> first | (exfalso; first | omega | exact h trivial | (cases h; done)) | skip) | refine zS ?_ | refine zV ?_ | (apply zI; refine zP vObt ?_) | (apply zI; refine zP vObx ?_) | refine zA ?_ | refine And.intro ((show 1 * 2 ≤ 2 by omega)) ?_ | refine Alt.fst ?_ | refine Or.inl ?_) <;> conv => whnf) | fail
     all_goals first | rfl | (exfalso; simp_all; done) | (exfalso; omega)
 · rw [if_neg hc]
   have hrg := cuC_rng m t ma l
   refine pure_of_vcR Tryz.tabOk mixOrd Tryz.func65 rfl rfl ?_
   conv => whnf
   repeat' first | ((first | refine z0 ?_ | (apply zI; refine zP (h0 _ _) ?_) | (apply zI; refine zP ((show sub [dint ma, D.list false 1 (ints l)] 2 0 1 = [dint ma, D.list false 1 (ints l)] from rfl)) ?_) | (refine And.intro (fun h => ?_) (fun h => ?_) <;> (try simp only [cnt1, ints_length, rows_length, Tb_length, L_length, byts_length] at h) <;> first | (exfalso; first | omega | exact h trivial | (cases h; done)) | skip) | refine zS ?_ | refine zV ?_ | (apply zI; refine zP vObt ?_) | (apply zI; refine zP vObx ?_) | refine zA ?_ | refine And.intro ((show 1 * 2 ≤ 2 by omega)) ?_ | refine Alt.fst ?_ | refine Or.inl ?_) <;> conv => whnf) | fail
   all_goals first | rfl | (exfalso; omega) | (exfalso; simp_all; done)
theorem c_specIsLogarithm (o p o1 : Bool) (m : Int) (t : List (List Int)) (hl : t.length ≤ 1048576) (hr : lensOk t) (ma : Int) (l : List Int) (h1 : l.length ≤ 1048576) :
   PureCall Tryz.prog 66 [.agg [dint m, .list o 1 (rows p t)], .agg [dint ma, .list o1 1 (ints l)]] (.tup [dbool (if cuC m t ma l = 0 then ilB m t l else false), dint (cuC m t ma l)]) := by
 have h0 := fun o1 o2 => c_l04Code1 o p o1 o2 m t ma l hl hr h1
 by_cases hc : cuC m t ma l = 0
 · obtain ⟨hA, hB, rfl, hC, hD⟩ := cuC_0 hc
   obtain ⟨⟨hm, hn⟩, eT, _⟩ := lawB_Tb hA
   have eL := (serB_L' hB).symm
   rw [← hC] at eL
   rw [hc] at h0 ⊢
   rw [if_pos rfl]
   have hD2 : (rd m l).c 0 = 0 := by rw [rd_c, hD]; rfl
   have k1 := fun o o' p => c_l03After hm o o' p t.length (by omega) t.length (by omega) (rd m l) (rd2 m t)
   have k2 := fun o => c_l05Sum hm o t.length (by omega) (rd m l) hD2
   have k5 := fun o o' p p' => c_l01Same2S (m := m) o p o' p' t.length (by omega) (comp2N (rd m l) (rd2 m t) 0 t.length) (axX (rd m l) + axY (rd m l))
   simp only [TbD, LD, eT, eL] at k1 k2
   have hv : l.getD 1 0 = ((rd m l).c 1).val := by
     have := L_getD (rd m l) (show 1 < t.length by omega)
     rw [eL] at this; exact this
   unfold ilB
   by_cases h11 : ((rd m l).c 1).val = 1
   · rw [decide_eq_true h11, Bool.true_and]
     refine pure_of_vcR Tryz.tabOk mixOrd Tryz.func66 rfl rfl ?_
     conv => whnf
     repeat' first | ((first | refine z0 ?_ | (apply zI; refine zP (h0 _ _) ?_) | (apply zI; refine zP (k1 _ _ _) ?_) | (apply zI; refine zP (k2 _) ?_) | (apply zI; refine zP (k5 _ _ _ _) ?_) | (apply zI; refine zP ((show sub [dint m, D.list false 1 (ints l)] 2 0 1 = [dint m, D.list false 1 (ints l)] from rfl)) ?_) | (refine And.intro (fun h => ?_) (fun h => ?_) <;> (try simp only [cnt1, ints_length, rows_length, Tb_length, L_length, byts_length] at h) <;> first | (exfalso; first | omega | exact h trivial | (cases h; done)) | skip) | refine zS ?_ | refine zV ?_ | (apply zI; refine zP vObt ?_) | (apply zI; refine zP vObx ?_) | refine zA ?_ | refine And.intro ((show 1 * 2 ≤ 2 by omega)) ?_ | refine Alt.fst ?_ | refine Or.inl ?_) <;> conv => whnf) | fail
     all_goals first | rfl | (exfalso; simp_all; done) | (rw [h]; done) | (rw [h]; rfl) | (rename_i h; rw [h]; done) | (rename_i h; rw [h]; rfl) | (exfalso; omega)
   · rw [decide_eq_false h11, Bool.false_and]
     refine pure_of_vcR Tryz.tabOk mixOrd Tryz.func66 rfl rfl ?_
     conv => whnf
     repeat' first | ((first | refine z0 ?_ | (apply zI; refine zP (h0 _ _) ?_) | (apply zI; refine zP ((show sub [dint m, D.list false 1 (ints l)] 2 0 1 = [dint m, D.list false 1 (ints l)] from rfl)) ?_) | (refine And.intro (fun h => ?_) (fun h => ?_) <;> (try simp only [cnt1, ints_length, rows_length, Tb_length, L_length, byts_length] at h) <;> first | (exfalso; first | omega | exact h trivial | (cases h; done)) | skip) | refine zS ?_ | refine zV ?_ | (apply zI; refine zP vObt ?_) | (apply zI; refine zP vObx ?_) | refine zA ?_ | refine And.intro ((show 1 * 2 ≤ 2 by omega)) ?_ | refine Alt.fst ?_ | refine Or.inl ?_) <;> conv => whnf) | fail
     all_goals first | rfl | (exfalso; simp_all; done) | (exfalso; omega)
 · rw [if_neg hc]
   have hrg := cuC_rng m t ma l
   refine pure_of_vcR Tryz.tabOk mixOrd Tryz.func66 rfl rfl ?_
   conv => whnf
   repeat' first | ((first | refine z0 ?_ | (apply zI; refine zP (h0 _ _) ?_) | (apply zI; refine zP ((show sub [dint ma, D.list false 1 (ints l)] 2 0 1 = [dint ma, D.list false 1 (ints l)] from rfl)) ?_) | (refine And.intro (fun h => ?_) (fun h => ?_) <;> (try simp only [cnt1, ints_length, rows_length, Tb_length, L_length, byts_length] at h) <;> first | (exfalso; first | omega | exact h trivial | (cases h; done)) | skip) | refine zS ?_ | refine zV ?_ | (apply zI; refine zP vObt ?_) | (apply zI; refine zP vObx ?_) | refine zA ?_ | refine And.intro ((show 1 * 2 ≤ 2 by omega)) ?_ | refine Alt.fst ?_ | refine Or.inl ?_) <;> conv => whnf) | fail
   all_goals first | rfl | (exfalso; omega) | (exfalso; simp_all; done)
noncomputable def mlC (m : Int) (t : List (List Int)) (n : Int) : Int := if lawB m t = true then (if inB n (-1000000) 1000000 = true then (if unitsB m (t.length - 1) = true then 0 else 5) else 2) else 1
theorem mlC_0 {m : Int} {t : List (List Int)} {n : Int} (h : mlC m t n = 0) : lawB m t = true ∧ inB n (-1000000) 1000000 = true ∧ unitsB m (t.length - 1) = true := by
 unfold mlC at h
 split at h
 · split at h
   · split at h
     · exact ⟨by assumption, by assumption, by assumption⟩
     · omega
   · omega
 · omega
def mlS (f : PS (PS (Zm m))) (N : Nat) (n : Int) : PS (Zm m) := compN (rev (invN m ((lgF f).c 1).val) (lgF f)) (PS.C (Zm.mk m n) * lgF f) 0 N
theorem c_implMultipleByLogarithm (o p : Bool) (m : Int) (t : List (List Int)) (hl : t.length ≤ 1048576) (hr : lensOk t) (n : Int) (hn9 : -4611686018427387904 ≤ n ∧ n ≤ 4611686018427387904) : PureCall Tryz.prog 68 [.agg [dint m, .list o 1 (rows p t)], dint n] (serRes m t.length (mlS (rd2 m t) t.length n) (mlC m t n)) := by
 have h0 := c_IsLaw o p m t hl hr
 cases hA : lawB m t with
 | false =>
   rw [hA] at h0
   rw [show mlC m t n = 1 by unfold mlC; rw [if_neg (by simp [hA])], serRes, if_neg (by omega)]
   refine pure_of_vcR Tryz.tabOk mixOrd Tryz.func68 rfl rfl ?_
   conv => whnf
   repeat' first | ((first | refine z0 ?_ | (apply zI; refine zP (h0) ?_) | (refine And.intro (fun h => ?_) (fun h => ?_) <;> (try simp only [cnt1, ints_length, rows_length, Tb_length, L_length, byts_length] at h) <;> first | (exfalso; first | omega | exact h trivial | (cases h; done)) | skip) | refine zS ?_ | refine zV ?_ | (apply zI; refine zP vObt ?_) | (apply zI; refine zP vObx ?_) | refine zA ?_ | refine Alt.fst ?_ | refine Or.inl ?_) <;> conv => whnf) | fail
   all_goals first | rfl | (exfalso; simp_all; done)
 | true =>
   rw [hA] at h0
   obtain ⟨⟨hm, hn⟩, eT, hL⟩ := lawB_Tb hA
   have hL1 : ((rd2 m t).c 1).c 0 = 1 := by rw [hL.1 1 (by omega)]; exact if_pos rfl
   have hd := fun o p => c_degreeP o p t.length (by omega) (rd2 m t)
   have hin := c_isMultiple n
   have k1 := c_logarithmP hm o p t.length hn (rd2 m t) hL1
   simp only [PlD, eT] at hd k1
   cases hI : inB n (-1000000) 1000000 with
   | false =>
     rw [hI] at hin
     rw [show mlC m t n = 2 by unfold mlC; rw [if_pos hA, if_neg (by simp [hI])], serRes, if_neg (by omega)]
     refine pure_of_vcR Tryz.tabOk mixOrd Tryz.func68 rfl rfl ?_
     conv => whnf
     repeat' first | ((first | refine z0 ?_ | (apply zI; refine zP (h0) ?_) | (apply zI; refine zP (hin) ?_) | (refine And.intro (fun h => ?_) (fun h => ?_) <;> (try simp only [cnt1, ints_length, rows_length, Tb_length, L_length, byts_length] at h) <;> first | (exfalso; first | omega | exact h trivial | (cases h; done)) | skip) | refine zS ?_ | refine zV ?_ | (apply zI; refine zP vObt ?_) | (apply zI; refine zP vObx ?_) | refine zA ?_ | refine Alt.fst ?_ | refine Or.inl ?_) <;> conv => whnf) | fail
     all_goals first | rfl | (exfalso; simp_all; done)
   | true =>
     rw [hI] at hin
     have hu := c_areUnits hm (t.length - 1) (by omega) (K := (t.length : Int) - 1) (by omega)
     cases hb : unitsB m (t.length - 1) with
     | false =>
       rw [hb] at hu
       rw [show mlC m t n = 5 by unfold mlC; rw [if_pos hA, if_pos hI, if_neg (by simp [hb])], serRes, if_neg (by omega)]
       refine pure_of_vcR Tryz.tabOk mixOrd Tryz.func68 rfl rfl ?_
       conv => whnf
       repeat' first | ((first | refine z0 ?_ | (apply zI; refine zP (h0) ?_) | (apply zI; refine zP (hin) ?_) | (apply zI; refine zP (hd _ _) ?_) | (apply zI; refine zP (hu) ?_) | (refine And.intro (fun h => ?_) (fun h => ?_) <;> (try simp only [cnt1, ints_length, rows_length, Tb_length, L_length, byts_length] at h) <;> first | (exfalso; first | omega | exact h trivial | (cases h; done)) | skip) | refine zS ?_ | refine zV ?_ | (apply zI; refine zP vObt ?_) | (apply zI; refine zP vObx ?_) | refine zA ?_ | refine Alt.fst ?_ | refine Or.inl ?_) <;> conv => whnf) | fail
       all_goals first | rfl | (exfalso; simp_all; done)
     | true =>
       rw [hb] at hu
       rw [show mlC m t n = 0 by unfold mlC; rw [if_pos hA, if_pos hI, if_pos hb], serRes, if_pos rfl]
       unfold mlS
       have k2 := fun o => c_reverseU hm o t.length (by omega) (lgF (rd2 m t))
       have k3 := fun o => c_scaled hm o t.length (by omega) (lgF (rd2 m t)) n
       have k4 := fun o o' a b => c_compose hm o o' t.length (by omega) a b
       refine pure_of_vcR Tryz.tabOk mixOrd Tryz.func68 rfl rfl ?_
       conv => whnf
       repeat' first | ((first | refine z0 ?_ | (apply zI; refine zP (h0) ?_) | (apply zI; refine zP (hin) ?_) | (apply zI; refine zP (hd _ _) ?_) | (apply zI; refine zP (hu) ?_) | (apply zI; refine zP (k1) ?_) | (apply zI; refine zP (k2 _) ?_) | (apply zI; refine zP (k3 _) ?_) | (apply zI; refine zP (k4 _ _ _ _) ?_) | (refine And.intro (fun h => ?_) (fun h => ?_) <;> (try simp only [cnt1, ints_length, rows_length, Tb_length, L_length, byts_length] at h) <;> first | (exfalso; first | omega | exact h trivial | (cases h; done)) | skip) | refine zS ?_ | refine zV ?_ | (apply zI; refine zP vObt ?_) | (apply zI; refine zP vObx ?_) | refine zA ?_ | refine Alt.fst ?_ | refine Or.inl ?_) <;> conv => whnf) | fail
       all_goals first | rfl | (exfalso; simp_all; done)
theorem c_specMultipleByLogarithm (o p : Bool) (m : Int) (t : List (List Int)) (hl : t.length ≤ 1048576) (hr : lensOk t) (n : Int) (hn9 : -4611686018427387904 ≤ n ∧ n ≤ 4611686018427387904) : PureCall Tryz.prog 69 [.agg [dint m, .list o 1 (rows p t)], dint n] (serRes m t.length (mlS (rd2 m t) t.length n) (mlC m t n)) := by
 have h0 := c_l04Is o p m t hl hr
 cases hA : lawB m t with
 | false =>
   rw [hA] at h0
   rw [show mlC m t n = 1 by unfold mlC; rw [if_neg (by simp [hA])], serRes, if_neg (by omega)]
   refine pure_of_vcR Tryz.tabOk mixOrd Tryz.func69 rfl rfl ?_
   conv => whnf
   repeat' first | ((first | refine z0 ?_ | (apply zI; refine zP (h0) ?_) | (refine And.intro (fun h => ?_) (fun h => ?_) <;> (try simp only [cnt1, ints_length, rows_length, Tb_length, L_length, byts_length] at h) <;> first | (exfalso; first | omega | exact h trivial | (cases h; done)) | skip) | refine zS ?_ | refine zV ?_ | (apply zI; refine zP vObt ?_) | (apply zI; refine zP vObx ?_) | refine zA ?_ | refine Alt.fst ?_ | refine Or.inl ?_) <;> conv => whnf) | fail
   all_goals first | rfl | (exfalso; simp_all; done)
 | true =>
   rw [hA] at h0
   obtain ⟨⟨hm, hn⟩, eT, hL⟩ := lawB_Tb hA
   have hin := c_l01In n (-1000000) 1000000
   have k1 := c_l05Logarithm hm o p t.length hn (rd2 m t)
   simp only [PlD, eT] at k1
   cases hI : inB n (-1000000) 1000000 with
   | false =>
     rw [hI] at hin
     rw [show mlC m t n = 2 by unfold mlC; rw [if_pos hA, if_neg (by simp [hI])], serRes, if_neg (by omega)]
     refine pure_of_vcR Tryz.tabOk mixOrd Tryz.func69 rfl rfl ?_
     conv => whnf
     repeat' first | ((first | refine z0 ?_ | (apply zI; refine zP (h0) ?_) | (apply zI; refine zP (hin) ?_) | (refine And.intro (fun h => ?_) (fun h => ?_) <;> (try simp only [cnt1, ints_length, rows_length, Tb_length, L_length, byts_length] at h) <;> first | (exfalso; first | omega | exact h trivial | (cases h; done)) | skip) | refine zS ?_ | refine zV ?_ | (apply zI; refine zP vObt ?_) | (apply zI; refine zP vObx ?_) | refine zA ?_ | refine Alt.fst ?_ | refine Or.inl ?_) <;> conv => whnf) | fail
     all_goals first | rfl | (exfalso; simp_all; done)
   | true =>
     rw [hI] at hin
     have hu := c_l02Integers hm (t.length - 1) (by omega) (K := ((cnt 1 (rows p t) : Nat) : Int) - 1) (by simp only [cnt1, rows_length]; omega)
     cases hb : unitsB m (t.length - 1) with
     | false =>
       rw [hb] at hu
       rw [show mlC m t n = 5 by unfold mlC; rw [if_pos hA, if_pos hI, if_neg (by simp [hb])], serRes, if_neg (by omega)]
       refine pure_of_vcR Tryz.tabOk mixOrd Tryz.func69 rfl rfl ?_
       conv => whnf
       repeat' first | ((first | refine z0 ?_ | (apply zI; refine zP (h0) ?_) | (apply zI; refine zP (hin) ?_) | (apply zI; refine zP (hu) ?_) | (refine And.intro (fun h => ?_) (fun h => ?_) <;> (try simp only [cnt1, ints_length, rows_length, Tb_length, L_length, byts_length] at h) <;> first | (exfalso; first | omega | exact h trivial | (cases h; done)) | skip) | refine zS ?_ | refine zV ?_ | (apply zI; refine zP vObt ?_) | (apply zI; refine zP vObx ?_) | refine zA ?_ | refine Alt.fst ?_ | refine Or.inl ?_) <;> conv => whnf) | fail
       all_goals first | rfl | (exfalso; simp_all; done)
     | true =>
       rw [hb] at hu
       rw [show mlC m t n = 0 by unfold mlC; rw [if_pos hA, if_pos hI, if_pos hb], serRes, if_pos rfl]
       unfold mlS
       have hm1 := hm.1
       have hm2 := hm.2
       have hI2 : -1000000 ≤ n ∧ n ≤ 1000000 := by simpa [inB] using hI
       have hd1 : ((cnt 1 (rows p t) : Nat) : Int) - 1 + 1 = t.length := by simp only [cnt1, rows_length]; omega
       have k2 := fun o => c_l02ReverseU hm o t.length t.length hd1 (by omega) (by omega) (by omega) (lgF (rd2 m t))
       have hnv : (n.tmod m + m).tmod m = (Zm.mk m n).val := by
         have h3 : -m < n.tmod m ∧ n.tmod m < m := ⟨by have := Int.lt_tmod_of_pos n hm.pos; omega, Int.tmod_lt_of_pos n hm.pos⟩
         exact Zm.tmod_val (by omega) (by
           have h4 : n = m * n.tdiv m + n.tmod m := (Int.mul_tdiv_add_tmod n m).symm
           rw [Zm.mk_add, Zm.mk_self, Go.Fg.add_zero]
           conv => rhs; rw [h4, Zm.mk_add, Zm.mk_mul, Zm.mk_self, Go.Fg.zero_mul, CR.zero_add])
       have k3 : ∀ o, PureCall Tryz.prog 245 [dint m, dint ((n.tmod m + m).tmod m), LD o t.length (lgF (rd2 m t))] (LD true t.length (PS.C (Zm.mk m n) * lgF (rd2 m t))) := fun o => by rw [hnv]; exact c_l02Scale hm o t.length (by omega) (Zm.mk m n) (lgF (rd2 m t))
       have hr2 : -m < n.tmod m ∧ n.tmod m < m := ⟨by have := Int.lt_tmod_of_pos n hm.pos; omega, Int.tmod_lt_of_pos n hm.pos⟩
       have k4 := fun o o' a b => c_l02Compose hm o o' t.length t.length t.length hd1 (by omega) (by omega) (by omega) (by omega) (by omega) a b
       refine pure_of_vcR Tryz.tabOk mixOrd Tryz.func69 rfl rfl ?_
       conv => whnf
       repeat' first | ((first | refine z0 ?_ | (apply zI; refine zP (h0) ?_) | (apply zI; refine zP (hin) ?_) | (apply zI; refine zP (hu) ?_) | (apply zI; refine zP (k1) ?_) | (apply zI; refine zP (k2 _) ?_) | (apply zI; refine zP (k3 _) ?_) | (apply zI; refine zP (k4 _ _ _ _) ?_) | refine Or.inl (Or.inr (And.intro (mk_l02Make) ?_)) | refine Or.inr (And.intro (mk_l02Make) ?_) | (refine And.intro (fun h => ?_) (fun h => ?_) <;> (try simp only [cnt1, ints_length, rows_length, Tb_length, L_length, byts_length] at h) <;> first | (exfalso; first | omega | exact h trivial | (cases h; done)) | skip) | refine zS ?_ | refine zV ?_ | (apply zI; refine zP vObt ?_) | (apply zI; refine zP vObx ?_) | refine zA ?_ | refine And.intro ((inR64 (by omega) (by omega))) ?_ | refine Alt.fst ?_ | refine Or.inl ?_) <;> conv => whnf) | fail
       all_goals first | rfl | (exfalso; simp_all; done)
end Go.Proofs
