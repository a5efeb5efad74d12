import Derived.Test.YtndhpcigpghejaaGreatK132
import Derived.Test.YtndhpcigpghejaaGreatK138
namespace Go.Proofs
open Go Go.Vm Go.Fg Go.Fg.PS
set_option maxRecDepth 100000
set_option maxHeartbeats 4000000
set_option linter.unusedSimpArgs false
set_option linter.unusedVariables false
def fitB (m : Int) (t : List (List Int)) (ma : Int) (l : List Int) : Bool := decide (m = ma) && (decide (t.length = l.length) && decide (l.getD 0 0 = 0))
noncomputable def cuC (m : Int) (t : List (List Int)) (ma : Int) (l : List Int) : Int := if lawB m t = true then (if serB ma l = true then (if fitB m t ma l = true then 0 else 2) else 1) else 1
theorem serB_len' {m : Int} {l : List Int} (h : serB m l = true) : 2 ≤ l.length ∧ l.length ≤ 11 := by
 simp only [serB, Bool.and_eq_true, inB, decide_eq_true_eq] at h; omega
theorem serB_L' {m : Int} {l : List Int} (h : serB m l = true) : l = L l.length (rd m l) := by
 simp only [serB, Bool.and_eq_true] at h; exact (L_rd (numsB_iff.1 h.2)).symm
theorem c_all1SA (g : Nat) (o1 : Bool) (ma : Int) (l : List Int)  (b : Bool) (hp : PureCall Tryz.prog g [.agg [dint ma, .list o1 1 (ints l)]] (dbool b)) :
   PureCall Tryz.prog 447 [.agg [dint ma, .list o1 1 (ints l)], .cptr [(.fn (.func g) [] [])] 0] (dbool (!b)) := by
 refine pure_of_vcR Tryz.tabOk mixOrd Tryz.func447 rfl rfl ?_
 conv => whnf
 repeat' first | ((first | refine z0 ?_ | (apply zI; refine zP (hp) ?_) | (refine And.intro (fun h => ?_) (fun h => ?_) <;> (try simp only [cnt1, ints_length] at h)) | refine zS ?_ | refine zV ?_ | (apply zI; refine zP vObt ?_) | (apply zI; refine zP vObx ?_) | refine zA ?_ | refine Alt.fst ?_ | refine Or.inl ?_) <;> conv => whnf) | fail
 all_goals (refine dbool_congr ?_; first | rfl | (simp_all []; done) | (simp_all []; omega) | (simp_all []; intros; omega))
theorem c_allSA (g : Nat) (o o1 : Bool) (ma : Int) (l : List Int)  (b : Bool) (hp : PureCall Tryz.prog g [.agg [dint ma, .list o1 1 (ints l)]] (dbool b)) :
   PureCall Tryz.prog 374 [.list o 2 [dint ma, .list o1 1 (ints l)], (.fn (.func g) [] [])] (dbool b) := by
 have h1 : PureCall Tryz.prog 447 [.agg [dint ma, .list o1 1 (ints l)], .cptr [(.fn (.func g) [] [])] 0] (dbool (!b)) := c_all1SA g o1 ma l  b hp
 have h2 : PureCall Tryz.prog 471 [.list o 2 [dint ma, .list o1 1 (ints l)], .fn (.func 447) [] [.cptr [(.fn (.func g) [] [])] 0]] (dint (if b then -1 else 0)) := by
   have hc2 : cnt 2 [dint ma, .list o1 1 (ints l)] = 1 := by simp [cnt]
   refine pure_of_vcR Tryz.tabOk mixOrd Tryz.func471 rfl rfl ?_
   conv => whnf
   repeat' first | ((first | refine z0 ?_ | (refine And.intro (fun h => ?_) (fun h => ?_) <;> (try simp only [cnt1, ints_length] at h)) | refine zS ?_ | refine zV ?_ | (apply zI; refine zP vObt ?_) | (apply zI; refine zP vObx ?_) | refine zA ?_ | refine Alt.fst ?_ | refine Or.inl ?_) <;> conv => whnf) | fail
   refine loop_peelV Tryz.tabOk mixOrd ?_
   conv => whnf
   repeat' first | ((first | refine z0 ?_ | (apply zI; refine zP (⟨_, rfl, rfl⟩) ?_) | (apply zI; refine zP (h1) ?_) | (refine And.intro (fun h => ?_) (fun h => ?_) <;> (try simp only [cnt1, ints_length] at h)) | refine zS ?_ | refine zV ?_ | (apply zI; refine zP vObt ?_) | (apply zI; refine zP vObx ?_) | refine zA ?_ | refine Alt.fst ?_ | refine Or.inl ?_) <;> conv => whnf) | fail
   · cases b
     · rfl
     · exact absurd (by assumption) (by simp)
   · refine loop_peelV Tryz.tabOk mixOrd ?_
     conv => whnf
     repeat' first | ((first | refine z0 ?_ | (refine And.intro (fun h => ?_) (fun h => ?_) <;> (try simp only [cnt1, ints_length] at h)) | refine zS ?_ | refine zV ?_ | (apply zI; refine zP vObt ?_) | (apply zI; refine zP vObx ?_) | refine zA ?_ | refine Alt.fst ?_ | refine Or.inl ?_) <;> conv => whnf) | fail
     all_goals first
       | (exfalso; have hx : 1 < ((cnt 2 [dint ma, .list o1 1 (ints l)] : Nat) : Int) := (by assumption); rw [hc2] at hx; omega)
       | (cases b <;> first | rfl | (exfalso; simp_all; done))
   · exfalso
     have hx : ¬ 0 < ((cnt 2 [dint ma, .list o1 1 (ints l)] : Nat) : Int) := (by assumption)
     rw [hc2] at hx
     omega
 cases b
 · rw [if_neg (by decide)] at h2
   refine pure_of_vcR Tryz.tabOk mixOrd Tryz.func374 rfl rfl ?_
   conv => whnf
   repeat' first | ((first | refine z0 ?_ | refine Or.inr (inl_ofR Tryz.tabOk mixOrd _ Tryz.func446 rfl rfl ?_) | (apply zI; refine zP (h2) ?_) | (refine And.intro (fun h => ?_) (fun h => ?_) <;> (try simp only [cnt1, ints_length] at h)) | refine zS ?_ | refine zV ?_ | (apply zI; refine zP vObt ?_) | (apply zI; refine zP vObx ?_) | refine zA ?_ | refine Alt.fst ?_ | refine Or.inl ?_) <;> conv => whnf) | fail
   all_goals first | rfl | (exfalso; omega)
 · rw [if_pos rfl] at h2
   refine pure_of_vcR Tryz.tabOk mixOrd Tryz.func374 rfl rfl ?_
   conv => whnf
   repeat' first | ((first | refine z0 ?_ | refine Or.inr (inl_ofR Tryz.tabOk mixOrd _ Tryz.func446 rfl rfl ?_) | (apply zI; refine zP (h2) ?_) | (refine And.intro (fun h => ?_) (fun h => ?_) <;> (try simp only [cnt1, ints_length] at h)) | refine zS ?_ | refine zV ?_ | (apply zI; refine zP vObt ?_) | (apply zI; refine zP vObx ?_) | refine zA ?_ | refine Alt.fst ?_ | refine Or.inl ?_) <;> conv => whnf) | fail
   all_goals first | rfl | (exfalso; omega)
theorem c_all1SB (g : Nat) (o1 : Bool) (ma : Int) (l : List Int) (m : Int) (o2 p2 : Bool) (t : List (List Int)) (b : Bool) (hp : PureCall Tryz.prog g [.agg [dint m, .list o2 1 (rows p2 t)], .agg [dint ma, .list o1 1 (ints l)]] (dbool b)) :
   PureCall Tryz.prog 447 [.agg [dint ma, .list o1 1 (ints l)], .cptr [(.fn (.func g) [.agg [dint m, .list o2 1 (rows p2 t)]] [])] 0] (dbool (!b)) := by
 refine pure_of_vcR Tryz.tabOk mixOrd Tryz.func447 rfl rfl ?_
 conv => whnf
 repeat' first | ((first | refine z0 ?_ | (apply zI; refine zP (hp) ?_) | (refine And.intro (fun h => ?_) (fun h => ?_) <;> (try simp only [cnt1, ints_length] at h)) | refine zS ?_ | refine zV ?_ | (apply zI; refine zP vObt ?_) | (apply zI; refine zP vObx ?_) | refine zA ?_ | refine Alt.fst ?_ | refine Or.inl ?_) <;> conv => whnf) | fail
 all_goals (refine dbool_congr ?_; first | rfl | (simp_all []; done) | (simp_all []; omega) | (simp_all []; intros; omega))
theorem c_allSB (g : Nat) (o o1 : Bool) (ma : Int) (l : List Int) (m : Int) (o2 p2 : Bool) (t : List (List Int)) (b : Bool) (hp : PureCall Tryz.prog g [.agg [dint m, .list o2 1 (rows p2 t)], .agg [dint ma, .list o1 1 (ints l)]] (dbool b)) :
   PureCall Tryz.prog 374 [.list o 2 [dint ma, .list o1 1 (ints l)], (.fn (.func g) [.agg [dint m, .list o2 1 (rows p2 t)]] [])] (dbool b) := by
 have h1 : PureCall Tryz.prog 447 [.agg [dint ma, .list o1 1 (ints l)], .cptr [(.fn (.func g) [.agg [dint m, .list o2 1 (rows p2 t)]] [])] 0] (dbool (!b)) := c_all1SB g o1 ma l m o2 p2 t b hp
 have h2 : PureCall Tryz.prog 471 [.list o 2 [dint ma, .list o1 1 (ints l)], .fn (.func 447) [] [.cptr [(.fn (.func g) [.agg [dint m, .list o2 1 (rows p2 t)]] [])] 0]] (dint (if b then -1 else 0)) := by
   have hc2 : cnt 2 [dint ma, .list o1 1 (ints l)] = 1 := by simp [cnt]
   refine pure_of_vcR Tryz.tabOk mixOrd Tryz.func471 rfl rfl ?_
   conv => whnf
   repeat' first | ((first | refine z0 ?_ | (refine And.intro (fun h => ?_) (fun h => ?_) <;> (try simp only [cnt1, ints_length] at h)) | refine zS ?_ | refine zV ?_ | (apply zI; refine zP vObt ?_) | (apply zI; refine zP vObx ?_) | refine zA ?_ | refine Alt.fst ?_ | refine Or.inl ?_) <;> conv => whnf) | fail
   refine loop_peelV Tryz.tabOk mixOrd ?_
   conv => whnf
   repeat' first | ((first | refine z0 ?_ | (apply zI; refine zP (⟨_, rfl, rfl⟩) ?_) | (apply zI; refine zP (h1) ?_) | (refine And.intro (fun h => ?_) (fun h => ?_) <;> (try simp only [cnt1, ints_length] at h)) | refine zS ?_ | refine zV ?_ | (apply zI; refine zP vObt ?_) | (apply zI; refine zP vObx ?_) | refine zA ?_ | refine Alt.fst ?_ | refine Or.inl ?_) <;> conv => whnf) | fail
   · cases b
     · rfl
     · exact absurd (by assumption) (by simp)
   · refine loop_peelV Tryz.tabOk mixOrd ?_
     conv => whnf
     repeat' first | ((first | refine z0 ?_ | (refine And.intro (fun h => ?_) (fun h => ?_) <;> (try simp only [cnt1, ints_length] at h)) | refine zS ?_ | refine zV ?_ | (apply zI; refine zP vObt ?_) | (apply zI; refine zP vObx ?_) | refine zA ?_ | refine Alt.fst ?_ | refine Or.inl ?_) <;> conv => whnf) | fail
     all_goals first
       | (exfalso; have hx : 1 < ((cnt 2 [dint ma, .list o1 1 (ints l)] : Nat) : Int) := (by assumption); rw [hc2] at hx; omega)
       | (cases b <;> first | rfl | (exfalso; simp_all; done))
   · exfalso
     have hx : ¬ 0 < ((cnt 2 [dint ma, .list o1 1 (ints l)] : Nat) : Int) := (by assumption)
     rw [hc2] at hx
     omega
 cases b
 · rw [if_neg (by decide)] at h2
   refine pure_of_vcR Tryz.tabOk mixOrd Tryz.func374 rfl rfl ?_
   conv => whnf
   repeat' first | ((first | refine z0 ?_ | refine Or.inr (inl_ofR Tryz.tabOk mixOrd _ Tryz.func446 rfl rfl ?_) | (apply zI; refine zP (h2) ?_) | (refine And.intro (fun h => ?_) (fun h => ?_) <;> (try simp only [cnt1, ints_length] at h)) | refine zS ?_ | refine zV ?_ | (apply zI; refine zP vObt ?_) | (apply zI; refine zP vObx ?_) | refine zA ?_ | refine Alt.fst ?_ | refine Or.inl ?_) <;> conv => whnf) | fail
   all_goals first | rfl | (exfalso; omega)
 · rw [if_pos rfl] at h2
   refine pure_of_vcR Tryz.tabOk mixOrd Tryz.func374 rfl rfl ?_
   conv => whnf
   repeat' first | ((first | refine z0 ?_ | refine Or.inr (inl_ofR Tryz.tabOk mixOrd _ Tryz.func446 rfl rfl ?_) | (apply zI; refine zP (h2) ?_) | (refine And.intro (fun h => ?_) (fun h => ?_) <;> (try simp only [cnt1, ints_length] at h)) | refine zS ?_ | refine zV ?_ | (apply zI; refine zP vObt ?_) | (apply zI; refine zP vObx ?_) | refine zA ?_ | refine Alt.fst ?_ | refine Or.inl ?_) <;> conv => whnf) | fail
   all_goals first | rfl | (exfalso; omega)
theorem c_isCurveOf (o p o1 : Bool) (m : Int) (t : List (List Int)) (ma : Int) (l : List Int) (hs : serB ma l = true) (ht : t.length ≤ 1048576) :
   PureCall Tryz.prog 256 [.agg [dint m, .list o 1 (rows p t)], .agg [dint ma, .list o1 1 (ints l)]] (dbool (fitB m t ma l)) := by
 have hl := serB_len' hs
 have hd : PureCall Tryz.prog 191 [.agg [dint m, .list o 1 (rows p t)]] (dint (t.length - 1)) := by
   refine pure_of_vcR Tryz.tabOk mixOrd Tryz.func191 rfl rfl ?_
   conv => whnf
   repeat' first | ((first | refine z0 ?_ | (refine And.intro (fun h => ?_) (fun h => ?_) <;> (try simp only [cnt1, ints_length] at h)) | refine zS ?_ | refine zV ?_ | (apply zI; refine zP vObt ?_) | (apply zI; refine zP vObx ?_) | refine zA ?_ | refine And.intro (inR64 vAr vAr) ?_ | refine Alt.fst ?_ | refine Or.inl ?_) <;> conv => whnf) | fail
   rw [cnt1, rows_length]
 refine pure_of_vcR Tryz.tabOk mixOrd Tryz.func256 rfl rfl ?_
 conv => whnf
 repeat' first | ((first | refine z0 ?_ | refine Or.inr (inl_ofR Tryz.tabOk mixOrd _ Tryz.func385 rfl rfl ?_) | (apply zI; refine zP (hd) ?_) | (apply zI; refine zP (c_degree _ _ _ vAr) ?_) | (apply zI; refine zP (vLoad (i := 0) vIx vAr) ?_) | (apply zI; refine zP (vGet (i := 0) vIx vAr) ?_) | (refine And.intro (fun h => ?_) (fun h => ?_) <;> (try simp only [cnt1, ints_length] at h)) | refine zS ?_ | refine zV ?_ | (apply zI; refine zP vObt ?_) | (apply zI; refine zP vObx ?_) | refine zA ?_ | refine Alt.fst ?_ | refine Or.inl ?_) <;> conv => whnf) | fail
 all_goals (refine dbool_congr ?_; first | rfl | (simp_all [fitB]; done) | (simp_all [fitB]; omega) | (simp_all [fitB]; intros; omega))
theorem c_curved1 (o p o1 o2 : Bool) (m : Int) (t : List (List Int)) (ma : Int) (l : List Int) (hl : t.length ≤ 1048576) (hr : lensOk t) (h1 : l.length ≤ 1048576) :
   PureCall Tryz.prog 233 [.agg [dint m, .list o 1 (rows p t)], .list o2 2 [dint ma, .list o1 1 (ints l)]] (dint (cuC m t ma l)) := by
 have hA := c_allSA 247 o2 o1 ma l (serB ma l) (c_IsSeries _ _ _ h1)
 by_cases hs : serB ma l = true
 · have hB := c_allSB 256 o2 o1 ma l m o p t (fitB m t ma l) (c_isCurveOf _ _ _ _ _ _ _ hs hl)
   refine pure_of_vcR Tryz.tabOk mixOrd Tryz.func233 rfl rfl ?_
   conv => whnf
   repeat' first | ((first | refine z0 ?_ | (apply zI; refine zP (c_IsLaw _ _ _ _ hl hr) ?_) | (apply zI; refine zP (hA) ?_) | (apply zI; refine zP (hB) ?_) | (refine And.intro (fun h => ?_) (fun h => ?_) <;> (try simp only [cnt1, ints_length] at h)) | refine zS ?_ | refine zV ?_ | (apply zI; refine zP vObt ?_) | (apply zI; refine zP vObx ?_) | refine zA ?_ | refine Alt.fst ?_ | refine Or.inl ?_) <;> conv => whnf) | fail
   all_goals (refine congrArg dint ?_; unfold cuC; simp_all)
 · refine pure_of_vcR Tryz.tabOk mixOrd Tryz.func233 rfl rfl ?_
   conv => whnf
   repeat' first | ((first | refine z0 ?_ | (apply zI; refine zP (c_IsLaw _ _ _ _ hl hr) ?_) | (apply zI; refine zP (hA) ?_) | (refine And.intro (fun h => ?_) (fun h => ?_) <;> (try simp only [cnt1, ints_length] at h) <;> first | (exfalso; omega) | skip) | refine zS ?_ | refine zV ?_ | (apply zI; refine zP vObt ?_) | (apply zI; refine zP vObx ?_) | refine zA ?_ | refine Alt.fst ?_ | refine Or.inl ?_) <;> conv => whnf) | fail
   all_goals first
     | (refine congrArg dint ?_; unfold cuC; simp_all; done)
     | (exfalso; simp_all; done)
     | skip
theorem c_l04Code1 (o p o1 o2 : Bool) (m : Int) (t : List (List Int)) (ma : Int) (l : List Int) (hl : t.length ≤ 1048576) (hr : lensOk t) (h1 : l.length ≤ 1048576) :
   PureCall Tryz.prog 236 [.agg [dint m, .list o 1 (rows p t)], .list o2 2 [dint ma, .list o1 1 (ints l)]] (dint (cuC m t ma l)) := by
 have hc2 : cnt 2 [dint ma, .list o1 1 (ints l)] = 1 := by simp [cnt]
 have hcv : serB ma l = true → PureCall Tryz.prog 289 [.agg [dint ma, .list o1 1 (ints l)]] (dbool (decide (l.getD 0 0 = 0))) := fun hs => by
   have hl := serB_len' hs
   refine pure_of_vcR Tryz.tabOk mixOrd Tryz.func289 rfl rfl ?_
   conv => whnf
   repeat' first | ((first | refine z0 ?_ | (apply zI; refine zP (c_l02Is _ _ _ h1) ?_) | (apply zI; refine zP (vLoad (i := 0) vIx vAr) ?_) | (apply zI; refine zP (vGet (i := 0) vIx vAr) ?_) | (refine And.intro (fun h => ?_) (fun h => ?_) <;> (try simp only [cnt1, ints_length] at h)) | refine zS ?_ | refine zV ?_ | (apply zI; refine zP vObt ?_) | (apply zI; refine zP vObx ?_) | refine zA ?_ | refine Alt.fst ?_ | refine Or.inl ?_) <;> conv => whnf) | fail
   all_goals (refine dbool_congr ?_; first | rfl | (simp_all []; done) | (simp_all []; omega) | (simp_all []; intros; omega))
 refine pure_of_vcR Tryz.tabOk mixOrd Tryz.func236 rfl rfl ?_
 conv => whnf
 have hno : ∀ {p : Prop}, ¬ 0 < ((cnt 2 [dint ma, .list o1 1 (ints l)] : Nat) : Int) → p := fun hx => by
   rw [hc2] at hx; omega
 have hno2 : ∀ {p : Prop}, 0 + 1 < ((cnt 2 [dint ma, .list o1 1 (ints l)] : Nat) : Int) → p := fun hx => by
   rw [hc2] at hx; omega
 repeat' first | ((first | refine z0 ?_ | (apply zI; refine zP (c_l04Is _ _ _ _ hl hr) ?_) | (refine And.intro (fun h => ?_) (fun h => ?_) <;> (try simp only [cnt1, ints_length] at h)) | refine zS ?_ | refine zV ?_ | (apply zI; refine zP vObt ?_) | (apply zI; refine zP vObx ?_) | refine zA ?_ | refine Alt.fst ?_ | refine Or.inl ?_) <;> conv => whnf) | fail
 · have hlw : lawB m t = true := by assumption
   refine loop_peelV Tryz.tabOk mixOrd ?_
   conv => whnf
   repeat' first | ((first | refine z0 ?_ | (apply zI; refine zP (⟨_, rfl, rfl⟩) ?_) | (apply zI; refine zP (c_l02Is _ _ _ h1) ?_) | (refine And.intro (fun h => ?_) (fun h => ?_) <;> (try simp only [cnt1, ints_length] at h)) | refine zS ?_ | refine zV ?_ | (apply zI; refine zP vObt ?_) | (apply zI; refine zP vObx ?_) | refine zA ?_ | refine Alt.fst ?_ | refine Or.inl ?_) <;> conv => whnf) | fail
   · have hs : serB ma l = true := by assumption
     have hln := serB_len' hs
     refine loop_peelV Tryz.tabOk mixOrd ?_
     conv => whnf
     repeat' first | ((first | refine z0 ?_ | (refine And.intro (fun h => ?_) (fun h => ?_) <;> (try simp only [cnt1, ints_length] at h)) | refine zS ?_ | refine zV ?_ | (apply zI; refine zP vObt ?_) | (apply zI; refine zP vObx ?_) | refine zA ?_ | refine Alt.fst ?_ | refine Or.inl ?_) <;> conv => whnf) | fail
     · exact hno2 (by assumption)
     · refine loop_peelV Tryz.tabOk mixOrd ?_
       conv => whnf
       repeat' first | ((first | refine z0 ?_ | (apply zI; refine zP (⟨_, rfl, rfl⟩) ?_) | (apply zI; refine zP (hcv hs) ?_) | (refine And.intro (fun h => ?_) (fun h => ?_) <;> (try simp only [cnt1, ints_length] at h)) | refine zS ?_ | refine zV ?_ | (apply zI; refine zP vObt ?_) | (apply zI; refine zP vObx ?_) | refine zA ?_ | refine Alt.fst ?_ | refine Or.inl ?_) <;> conv => whnf) | fail
       all_goals first
         | (exact hno (by assumption))
         | (refine congrArg dint ?_; simp [cuC, fitB, hlw, hs]; intros; first | omega | (simp_all; done) | (simp_all; omega))
         | skip
       all_goals first
         | (refine loop_peelV Tryz.tabOk mixOrd ?_
            conv => whnf
            repeat' first | ((first | refine z0 ?_ | (refine And.intro (fun h => ?_) (fun h => ?_) <;> (try simp only [cnt1, ints_length] at h)) | refine zS ?_ | refine zV ?_ | (apply zI; refine zP vObt ?_) | (apply zI; refine zP vObx ?_) | refine zA ?_ | refine Alt.fst ?_ | refine Or.inl ?_) <;> conv => whnf) | fail
            all_goals first
              | (exact hno2 (by assumption))
              | (refine congrArg dint ?_; simp [cuC, fitB, hlw, hs]; intros; first | omega | (simp_all; done) | (simp_all; omega))
              | skip)
         | skip
   · have hs : serB ma l = false := by assumption
     refine congrArg dint ?_
     simp [cuC, hlw, hs]
   · exact hno (by assumption)
 · have hlw : lawB m t = false := by assumption
   refine congrArg dint ?_
   simp [cuC, hlw]
end Go.Proofs
