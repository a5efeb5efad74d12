import Derived.Test.YtndhpcigpghejaaGreatK140
import Derived.Test.YtndhpcigpghejaaGreatK45
namespace Go.Proofs
open Go Go.Vm Go.Fg Go.Fg.PS
set_option maxRecDepth 100000
set_option maxHeartbeats 4000000
set_option linter.unusedSimpArgs false
set_option linter.unusedVariables false
variable {m : Int}
def lgF (f : PS (PS (Zm m))) : PS (Zm m) := intS (inv (invN m ((f.c 1).c 0).val) (f.c 1))
noncomputable def loC (m : Int) (t : List (List Int)) : Int := if lawB m t = true then (if unitsB m (t.length - 1) = true then 0 else 5) else 1
theorem loC_0 {m : Int} {t : List (List Int)} (h : loC m t = 0) : lawB m t = true ∧ unitsB m (t.length - 1) = true := by
 unfold loC at h
 split at h
 · split at h
   · exact ⟨by assumption, by assumption⟩
   · omega
 · omega
theorem lgF_1 (hm : Md m) {f : PS (PS (Zm m))} (h1 : (f.c 1).c 0 = 1) : (lgF f).c 0 = 0 ∧ (lgF f).c 1 = 1 := by
 refine ⟨intS_zero _, intS_1 hm.1 ?_⟩
 rw [inv_c0, h1, invN_v1 hm.1]
theorem c_differential (hm : Md m) (o p : Bool) (n : Nat) (hn : 2 ≤ n ∧ n ≤ 10) (f : PS (PS (Zm m))) : PureCall Tryz.prog 370 [PlD m o p (n + 1) f] (SerD m true n (inv (invN m ((f.c 1).c 0).val) (f.c 1))) := by
 refine pure_of_vcR Tryz.tabOk mixOrd Tryz.func370 rfl rfl ?_
 conv => whnf
 repeat' first | ((first | refine z0 ?_ | (apply zI; refine zP (c_copyOf _ (L n (f.c 1)) (by simp; omega)) ?_) | (apply zI; refine zP (c_inverseU hm _ n (by omega) _) ?_) | (refine And.intro (fun h => ?_) (fun h => ?_) <;> (try simp only [cnt1, ints_length, rows_length, Tb_length, L_length, byts_length] at h) <;> first | (exfalso; first | omega | exact h trivial | (cases h; done)) | skip) | refine zS ?_ | refine zV ?_ | (apply zI; refine zP vObt ?_) | (apply zI; refine zP vObx ?_) | refine zA ?_ | refine Alt.fst ?_ | refine Or.inl ?_) <;> conv => whnf) | fail
theorem c_logarithmP (hm : Md m) (o p : Bool) (n : Nat) (hn : 2 ≤ n ∧ n ≤ 11) (f : PS (PS (Zm m))) (h1 : (f.c 1).c 0 = 1) : PureCall Tryz.prog 227 [PlD m o p n f] (SerD m true n (lgF f)) := by
 by_cases h2 : n = 2
 · subst h2
   have e : SerD m true 2 (lgF f) = SerD m true 2 PS.X := by
     refine serD_congr (L_congr (fun i hi => ?_))
     rcases (by omega : i = 0 ∨ i = 1) with rfl | rfl
     · rw [(lgF_1 hm h1).1]; rfl
     · rw [(lgF_1 hm h1).2]; rfl
   rw [e]
   refine pure_of_vcR Tryz.tabOk mixOrd Tryz.func227 rfl rfl ?_
   conv => whnf
   repeat' first | ((first | refine z0 ?_ | (apply zI; refine zP (c_degreeP _ _ 2 (by omega) _) ?_) | (apply zI; refine zP (c_variable 2 (by omega) (by omega) hm) ?_) | (refine And.intro (fun h => ?_) (fun h => ?_) <;> (try simp only [cnt1, ints_length, rows_length, Tb_length, L_length, byts_length] at h) <;> first | (exfalso; first | omega | exact h trivial | (cases h; done)) | skip) | refine zS ?_ | refine zV ?_ | (apply zI; refine zP vObt ?_) | (apply zI; refine zP vObx ?_) | refine zA ?_ | refine Alt.fst ?_ | refine Or.inl ?_) <;> conv => whnf) | fail
 · obtain ⟨k, rfl⟩ : ∃ k, n = k + 1 := ⟨n - 1, by omega⟩
   unfold lgF
   refine pure_of_vcR Tryz.tabOk mixOrd Tryz.func227 rfl rfl ?_
   conv => whnf
   repeat' first | ((first | refine z0 ?_ | (apply zI; refine zP (c_degreeP _ _ (k + 1) (by omega) _) ?_) | (apply zI; refine zP (c_differential hm _ _ k (by omega) f) ?_) | (apply zI; refine zP (c_integrated hm _ k (by omega) _) ?_) | (refine And.intro (fun h => ?_) (fun h => ?_) <;> (try simp only [cnt1, ints_length, rows_length, Tb_length, L_length, byts_length] at h) <;> first | (exfalso; first | omega | exact h trivial | (cases h; done)) | skip) | refine zS ?_ | refine zV ?_ | (apply zI; refine zP vObt ?_) | (apply zI; refine zP vObx ?_) | refine zA ?_ | refine Alt.fst ?_ | refine Or.inl ?_) <;> conv => whnf) | fail
theorem c_l05Logarithm (hm : Md m) (o p : Bool) (n : Nat) (hn : 2 ≤ n ∧ n ≤ 11) (f : PS (PS (Zm m))) : PureCall Tryz.prog 229 [PlD m o p n f] (LD true n (lgF f)) := by
 obtain ⟨k, rfl⟩ : ∃ k, n = k + 1 := ⟨n - 1, by omega⟩
 unfold lgF
 refine pure_of_vcR Tryz.tabOk mixOrd Tryz.func229 rfl rfl ?_
 conv => whnf
 repeat' first | ((first | refine z0 ?_ | (apply zI; refine zP (c_l02InverseU hm _ k k vAr vAr vAr vAr _) ?_) | (apply zI; refine zP (c_l02Integrate hm _ k vAr _) ?_) | (refine And.intro (fun h => ?_) (fun h => ?_) <;> (try simp only [cnt1, ints_length, rows_length, Tb_length, L_length, byts_length] at h) <;> first | (exfalso; first | omega | exact h trivial | (cases h; done)) | skip) | refine zS ?_ | refine zV ?_ | (apply zI; refine zP vObt ?_) | (apply zI; refine zP vObx ?_) | refine zA ?_ | refine Alt.fst ?_ | refine Or.inl ?_) <;> conv => whnf) | fail
theorem c_logarithmic (o p : Bool) (m : Int) (t : List (List Int)) (hl : t.length ≤ 1048576) (hr : lensOk t) : PureCall Tryz.prog 226 [.agg [dint m, .list o 1 (rows p t)]] (dint (loC m t)) := by
 have h0 := c_IsLaw o p m t hl hr
 cases hc : lawB m t with
 | false =>
   rw [hc] at h0
   rw [show loC m t = 1 by unfold loC; rw [if_neg (by simp [hc])]]
   refine pure_of_vcR Tryz.tabOk mixOrd Tryz.func226 rfl rfl ?_
   conv => whnf
   repeat' first | ((first | refine z0 ?_ | (apply zI; refine zP (h0) ?_) | (refine And.intro (fun h => ?_) (fun h => ?_) <;> (try simp only [cnt1, ints_length, rows_length, Tb_length, L_length, byts_length] at h) <;> first | (exfalso; first | omega | exact h trivial | (cases h; done)) | skip) | refine zS ?_ | refine zV ?_ | (apply zI; refine zP vObt ?_) | (apply zI; refine zP vObx ?_) | refine zA ?_ | refine Alt.fst ?_ | refine Or.inl ?_) <;> conv => whnf) | fail
 | true =>
   rw [hc] at h0
   obtain ⟨⟨hm, hn⟩, eT, _⟩ := lawB_Tb hc
   have hd : PureCall Tryz.prog 191 [.agg [dint m, .list o 1 (rows p t)]] (dint ((t.length - 1 : Nat) : Int)) := by
     refine pure_of_vcR Tryz.tabOk mixOrd Tryz.func191 rfl rfl ?_
     conv => whnf
     repeat' first | ((first | refine z0 ?_ | (refine And.intro (fun h => ?_) (fun h => ?_) <;> (try simp only [cnt1, ints_length] at h)) | refine zS ?_ | refine zV ?_ | (apply zI; refine zP vObt ?_) | (apply zI; refine zP vObx ?_) | refine zA ?_ | refine Alt.fst ?_ | refine Or.inl ?_) <;> conv => whnf) | fail
     refine congrArg dint ?_
     simp only [cnt1, rows_length]; omega
   have hu := c_areUnits hm (t.length - 1) (by omega) rfl
   cases hb : unitsB m (t.length - 1) with
   | false =>
     rw [hb] at hu
     rw [show loC m t = 5 by unfold loC; rw [if_pos hc, if_neg (by simp [hb])]]
     refine pure_of_vcR Tryz.tabOk mixOrd Tryz.func226 rfl rfl ?_
     conv => whnf
     repeat' first | ((first | refine z0 ?_ | (apply zI; refine zP (h0) ?_) | (apply zI; refine zP (hd) ?_) | (apply zI; refine zP (hu) ?_) | (refine And.intro (fun h => ?_) (fun h => ?_) <;> (try simp only [cnt1, ints_length, rows_length, Tb_length, L_length, byts_length] at h) <;> first | (exfalso; first | omega | exact h trivial | (cases h; done)) | skip) | refine zS ?_ | refine zV ?_ | (apply zI; refine zP vObt ?_) | (apply zI; refine zP vObx ?_) | refine zA ?_ | refine Alt.fst ?_ | refine Or.inl ?_) <;> conv => whnf) | fail
   | true =>
     rw [hb] at hu
     rw [show loC m t = 0 by unfold loC; rw [if_pos hc, if_pos hb]]
     refine pure_of_vcR Tryz.tabOk mixOrd Tryz.func226 rfl rfl ?_
     conv => whnf
     repeat' first | ((first | refine z0 ?_ | (apply zI; refine zP (h0) ?_) | (apply zI; refine zP (hd) ?_) | (apply zI; refine zP (hu) ?_) | (refine And.intro (fun h => ?_) (fun h => ?_) <;> (try simp only [cnt1, ints_length, rows_length, Tb_length, L_length, byts_length] at h) <;> first | (exfalso; first | omega | exact h trivial | (cases h; done)) | skip) | refine zS ?_ | refine zV ?_ | (apply zI; refine zP vObt ?_) | (apply zI; refine zP vObx ?_) | refine zA ?_ | refine Alt.fst ?_ | refine Or.inl ?_) <;> conv => whnf) | fail
theorem c_l05Code (o p : Bool) (m : Int) (t : List (List Int)) (hl : t.length ≤ 1048576) (hr : lensOk t) : PureCall Tryz.prog 228 [.agg [dint m, .list o 1 (rows p t)]] (dint (loC m t)) := by
 have h0 := c_l04Is o p m t hl hr
 cases hc : lawB m t with
 | false =>
   rw [hc] at h0
   rw [show loC m t = 1 by unfold loC; rw [if_neg (by simp [hc])]]
   refine pure_of_vcR Tryz.tabOk mixOrd Tryz.func228 rfl rfl ?_
   conv => whnf
   repeat' first | ((first | refine z0 ?_ | (apply zI; refine zP (h0) ?_) | (refine And.intro (fun h => ?_) (fun h => ?_) <;> (try simp only [cnt1, ints_length, rows_length, Tb_length, L_length, byts_length] at h) <;> first | (exfalso; first | omega | exact h trivial | (cases h; done)) | skip) | refine zS ?_ | refine zV ?_ | (apply zI; refine zP vObt ?_) | (apply zI; refine zP vObx ?_) | refine zA ?_ | refine Alt.fst ?_ | refine Or.inl ?_) <;> conv => whnf) | fail
 | true =>
   rw [hc] at h0
   obtain ⟨⟨hm, hn⟩, eT, _⟩ := lawB_Tb hc
   have hu := c_l02Integers hm (t.length - 1) (by omega) (K := ((cnt 1 (rows p t) : Nat) : Int) - 1) (by simp only [cnt1, rows_length]; omega)
   cases hb : unitsB m (t.length - 1) with
   | false =>
     rw [hb] at hu
     rw [show loC m t = 5 by unfold loC; rw [if_pos hc, if_neg (by simp [hb])]]
     refine pure_of_vcR Tryz.tabOk mixOrd Tryz.func228 rfl rfl ?_
     conv => whnf
     repeat' first | ((first | refine z0 ?_ | (apply zI; refine zP (h0) ?_) | (apply zI; refine zP (hu) ?_) | (refine And.intro (fun h => ?_) (fun h => ?_) <;> (try simp only [cnt1, ints_length, rows_length, Tb_length, L_length, byts_length] at h) <;> first | (exfalso; first | omega | exact h trivial | (cases h; done)) | skip) | refine zS ?_ | refine zV ?_ | (apply zI; refine zP vObt ?_) | (apply zI; refine zP vObx ?_) | refine zA ?_ | refine Alt.fst ?_ | refine Or.inl ?_) <;> conv => whnf) | fail
   | true =>
     rw [hb] at hu
     rw [show loC m t = 0 by unfold loC; rw [if_pos hc, if_pos hb]]
     refine pure_of_vcR Tryz.tabOk mixOrd Tryz.func228 rfl rfl ?_
     conv => whnf
     repeat' first | ((first | refine z0 ?_ | (apply zI; refine zP (h0) ?_) | (apply zI; refine zP (hu) ?_) | (refine And.intro (fun h => ?_) (fun h => ?_) <;> (try simp only [cnt1, ints_length, rows_length, Tb_length, L_length, byts_length] at h) <;> first | (exfalso; first | omega | exact h trivial | (cases h; done)) | skip) | refine zS ?_ | refine zV ?_ | (apply zI; refine zP vObt ?_) | (apply zI; refine zP vObx ?_) | refine zA ?_ | refine Alt.fst ?_ | refine Or.inl ?_) <;> conv => whnf) | fail
theorem c_implLogarithmOf (o p : Bool) (m : Int) (t : List (List Int)) (hl : t.length ≤ 1048576) (hr : lensOk t) : PureCall Tryz.prog 60 [.agg [dint m, .list o 1 (rows p t)]] (serRes m t.length (lgF (rd2 m t)) (loC m t)) := by
 have h0 := c_logarithmic o p m t hl hr
 by_cases hc : loC m t = 0
 · obtain ⟨hA, hU⟩ := loC_0 hc
   obtain ⟨⟨hm, hn⟩, eT, hL⟩ := lawB_Tb hA
   have hL1 : ((rd2 m t).c 1).c 0 = 1 := by rw [hL.1 1 (by omega)]; exact if_pos rfl
   have key := c_logarithmP hm o p t.length hn (rd2 m t) hL1
   simp only [PlD, eT] at key
   rw [serRes, if_pos hc]
   rw [hc] at h0
   refine pure_of_vcR Tryz.tabOk mixOrd Tryz.func60 rfl rfl ?_
   conv => whnf
   repeat' first | ((first | refine z0 ?_ | (apply zI; refine zP (h0) ?_) | (apply zI; refine zP (key) ?_) | refine Or.inl (Or.inr (And.intro (mk_l02Make) ?_)) | refine Or.inr (And.intro (mk_l02Make) ?_) | (refine And.intro (fun h => ?_) (fun h => ?_) <;> (try simp only [cnt1, ints_length, rows_length, Tb_length, L_length, byts_length] at h) <;> first | (exfalso; first | omega | exact h trivial | (cases h; done)) | skip) | refine zS ?_ | refine zV ?_ | (apply zI; refine zP vObt ?_) | (apply zI; refine zP vObx ?_) | refine zA ?_ | refine Alt.fst ?_ | refine Or.inl ?_) <;> conv => whnf) | fail
 · rw [serRes, if_neg hc]
   refine pure_of_vcR Tryz.tabOk mixOrd Tryz.func60 rfl rfl ?_
   conv => whnf
   repeat' first | ((first | refine z0 ?_ | (apply zI; refine zP (h0) ?_) | (refine And.intro (fun h => ?_) (fun h => ?_) <;> (try simp only [cnt1, ints_length, rows_length, Tb_length, L_length, byts_length] at h) <;> first | (exfalso; first | omega | exact h trivial | (cases h; done)) | skip) | refine zS ?_ | refine zV ?_ | (apply zI; refine zP vObt ?_) | (apply zI; refine zP vObx ?_) | refine zA ?_ | refine Alt.fst ?_ | refine Or.inl ?_) <;> conv => whnf) | fail
   all_goals first | rfl | (exfalso; simp_all; done)
theorem c_specLogarithmOf (o p : Bool) (m : Int) (t : List (List Int)) (hl : t.length ≤ 1048576) (hr : lensOk t) : PureCall Tryz.prog 61 [.agg [dint m, .list o 1 (rows p t)]] (serRes m t.length (lgF (rd2 m t)) (loC m t)) := by
 have h0 := c_l05Code o p m t hl hr
 by_cases hc : loC m t = 0
 · obtain ⟨hA, hU⟩ := loC_0 hc
   obtain ⟨⟨hm, hn⟩, eT, hL⟩ := lawB_Tb hA
   have hL1 : ((rd2 m t).c 1).c 0 = 1 := by rw [hL.1 1 (by omega)]; exact if_pos rfl
   have key := c_l05Logarithm hm o p t.length hn (rd2 m t)
   simp only [PlD, eT] at key
   rw [serRes, if_pos hc]
   rw [hc] at h0
   refine pure_of_vcR Tryz.tabOk mixOrd Tryz.func61 rfl rfl ?_
   conv => whnf
   repeat' first | ((first | refine z0 ?_ | (apply zI; refine zP (h0) ?_) | (apply zI; refine zP (key) ?_) | refine Or.inl (Or.inr (And.intro (mk_l02Make) ?_)) | refine Or.inr (And.intro (mk_l02Make) ?_) | (refine And.intro (fun h => ?_) (fun h => ?_) <;> (try simp only [cnt1, ints_length, rows_length, Tb_length, L_length, byts_length] at h) <;> first | (exfalso; first | omega | exact h trivial | (cases h; done)) | skip) | refine zS ?_ | refine zV ?_ | (apply zI; refine zP vObt ?_) | (apply zI; refine zP vObx ?_) | refine zA ?_ | refine Alt.fst ?_ | refine Or.inl ?_) <;> conv => whnf) | fail
 · rw [serRes, if_neg hc]
   refine pure_of_vcR Tryz.tabOk mixOrd Tryz.func61 rfl rfl ?_
   conv => whnf
   repeat' first | ((first | refine z0 ?_ | (apply zI; refine zP (h0) ?_) | (refine And.intro (fun h => ?_) (fun h => ?_) <;> (try simp only [cnt1, ints_length, rows_length, Tb_length, L_length, byts_length] at h) <;> first | (exfalso; first | omega | exact h trivial | (cases h; done)) | skip) | refine zS ?_ | refine zV ?_ | (apply zI; refine zP vObt ?_) | (apply zI; refine zP vObx ?_) | refine zA ?_ | refine Alt.fst ?_ | refine Or.inl ?_) <;> conv => whnf) | fail
   all_goals first | rfl | (exfalso; simp_all; done)
theorem c_implExponentialOf (o p : Bool) (m : Int) (t : List (List Int)) (hl : t.length ≤ 1048576) (hr : lensOk t) : PureCall Tryz.prog 62 [.agg [dint m, .list o 1 (rows p t)]] (serRes m t.length (rev (invN m ((lgF (rd2 m t)).c 1).val) (lgF (rd2 m t))) (loC m t)) := by
 have h0 := c_logarithmic o p m t hl hr
 by_cases hc : loC m t = 0
 · obtain ⟨hA, hU⟩ := loC_0 hc
   obtain ⟨⟨hm, hn⟩, eT, hL⟩ := lawB_Tb hA
   have hL1 : ((rd2 m t).c 1).c 0 = 1 := by rw [hL.1 1 (by omega)]; exact if_pos rfl
   have key := c_logarithmP hm o p t.length hn (rd2 m t) hL1
   simp only [PlD, eT] at key
   rw [serRes, if_pos hc]
   rw [hc] at h0
   refine pure_of_vcR Tryz.tabOk mixOrd Tryz.func62 rfl rfl ?_
   conv => whnf
   repeat' first | ((first | refine z0 ?_ | (apply zI; refine zP (h0) ?_) | (apply zI; refine zP (key) ?_) | (apply zI; refine zP (c_reverseU hm _ t.length (by omega) _) ?_) | refine Or.inl (Or.inr (And.intro (mk_l02Make) ?_)) | refine Or.inr (And.intro (mk_l02Make) ?_) | (refine And.intro (fun h => ?_) (fun h => ?_) <;> (try simp only [cnt1, ints_length, rows_length, Tb_length, L_length, byts_length] at h) <;> first | (exfalso; first | omega | exact h trivial | (cases h; done)) | skip) | refine zS ?_ | refine zV ?_ | (apply zI; refine zP vObt ?_) | (apply zI; refine zP vObx ?_) | refine zA ?_ | refine Alt.fst ?_ | refine Or.inl ?_) <;> conv => whnf) | fail
 · rw [serRes, if_neg hc]
   refine pure_of_vcR Tryz.tabOk mixOrd Tryz.func62 rfl rfl ?_
   conv => whnf
   repeat' first | ((first | refine z0 ?_ | (apply zI; refine zP (h0) ?_) | (refine And.intro (fun h => ?_) (fun h => ?_) <;> (try simp only [cnt1, ints_length, rows_length, Tb_length, L_length, byts_length] at h) <;> first | (exfalso; first | omega | exact h trivial | (cases h; done)) | skip) | refine zS ?_ | refine zV ?_ | (apply zI; refine zP vObt ?_) | (apply zI; refine zP vObx ?_) | refine zA ?_ | refine Alt.fst ?_ | refine Or.inl ?_) <;> conv => whnf) | fail
   all_goals first | rfl | (exfalso; simp_all; done)
theorem c_specExponentialOf (o p : Bool) (m : Int) (t : List (List Int)) (hl : t.length ≤ 1048576) (hr : lensOk t) : PureCall Tryz.prog 63 [.agg [dint m, .list o 1 (rows p t)]] (serRes m t.length (rev (invN m ((lgF (rd2 m t)).c 1).val) (lgF (rd2 m t))) (loC m t)) := by
 have h0 := c_l05Code o p m t hl hr
 by_cases hc : loC m t = 0
 · obtain ⟨hA, hU⟩ := loC_0 hc
   obtain ⟨⟨hm, hn⟩, eT, hL⟩ := lawB_Tb hA
   have hL1 : ((rd2 m t).c 1).c 0 = 1 := by rw [hL.1 1 (by omega)]; exact if_pos rfl
   have key := c_l05Logarithm hm o p t.length hn (rd2 m t)
   simp only [PlD, eT] at key
   rw [serRes, if_pos hc]
   rw [hc] at h0
   refine pure_of_vcR Tryz.tabOk mixOrd Tryz.func63 rfl rfl ?_
   conv => whnf
   repeat' first | ((first | refine z0 ?_ | (apply zI; refine zP (h0) ?_) | (apply zI; refine zP (key) ?_) | (apply zI; refine zP (c_l02ReverseU hm _ t.length t.length vAr vAr vAr vAr _) ?_) | refine Or.inl (Or.inr (And.intro (mk_l02Make) ?_)) | refine Or.inr (And.intro (mk_l02Make) ?_) | (refine And.intro (fun h => ?_) (fun h => ?_) <;> (try simp only [cnt1, ints_length, rows_length, Tb_length, L_length, byts_length] at h) <;> first | (exfalso; first | omega | exact h trivial | (cases h; done)) | skip) | refine zS ?_ | refine zV ?_ | (apply zI; refine zP vObt ?_) | (apply zI; refine zP vObx ?_) | refine zA ?_ | refine Alt.fst ?_ | refine Or.inl ?_) <;> conv => whnf) | fail
 · rw [serRes, if_neg hc]
   refine pure_of_vcR Tryz.tabOk mixOrd Tryz.func63 rfl rfl ?_
   conv => whnf
   repeat' first | ((first | refine z0 ?_ | (apply zI; refine zP (h0) ?_) | (refine And.intro (fun h => ?_) (fun h => ?_) <;> (try simp only [cnt1, ints_length, rows_length, Tb_length, L_length, byts_length] at h) <;> first | (exfalso; first | omega | exact h trivial | (cases h; done)) | skip) | refine zS ?_ | refine zV ?_ | (apply zI; refine zP vObt ?_) | (apply zI; refine zP vObx ?_) | refine zA ?_ | refine Alt.fst ?_ | refine Or.inl ?_) <;> conv => whnf) | fail
   all_goals first | rfl | (exfalso; simp_all; done)
end Go.Proofs
