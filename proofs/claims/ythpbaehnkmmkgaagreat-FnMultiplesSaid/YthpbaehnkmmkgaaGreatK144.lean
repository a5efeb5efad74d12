/- The law of multiples. -/
-- tables
-- rec
import Derived.Test.YthpbaehnkmmkgaaGreatK140
import Derived.Test.YthpbaehnkmmkgaaGreatK142
import Derived.Test.YthpbaehnkmmkgaaGreatK134
import Derived.Test.YthpbaehnkmmkgaaGreatK145
import Derived.Test.YthpbaehnkmmkgaaGreatVm43
namespace Go.Proofs
open Go Go.Vm Go.Fg Go.Fg.PS
set_option maxRecDepth 100000
set_option maxHeartbeats 800000000
set_option linter.unusedSimpArgs false
set_option linter.unusedVariables false
theorem c_series9 (o o' : Bool) (m m' : Int) (l l' : List Int) (hl : l.length ≤ 9223372036854775807) (hl' : l'.length ≤ 9223372036854775807) : PureCall Tryz.prog 63 [.agg [dint m, .list o 1 (ints l)], .agg [dint m', .list o' 1 (ints l')]] (dbool (decide (m = m') && decide (l = l'))) := by
  refine pure_of_vcR Tryz.tabOk mixOrd Tryz.func63 rfl rfl ?_
  conv => whnf
  repeat' first | ((first | refine z0 ?_ | (apply zI; refine zP (c_likeInts _ _ _ _ hl hl') ?_) | (refine And.intro (fun h => ?_) (fun h => ?_) <;> (try simp only [cnt1, ints_length] at h)) | refine zS ?_ | refine zV ?_ | (apply zI; refine zP vObt ?_) | (apply zI; refine zP vObx ?_) | refine zA ?_ | refine Alt.fst ?_ | refine Or.inl ?_) <;> conv => whnf) | fail
  all_goals (refine dbool_congr ?_; first | rfl | (simp_all []; done) | (simp_all []; omega) | (simp_all []; intros; omega))
theorem c_series9Nil : PureCall Tryz.prog 63 [zserD, zserD] (dbool true) := by
  refine pure_of_vcR Tryz.tabOk mixOrd Tryz.func63 rfl rfl ?_
  conv => whnf
  repeat' first | ((first | refine z0 ?_ | (apply zI; refine zP (c_likeNil) ?_) | (refine And.intro (fun h => ?_) (fun h => ?_) <;> (try simp only [cnt1, ints_length, rows_length, Tb_length, L_length, byts_length] at h) <;> first | (exfalso; first | omega | exact h trivial | (cases h; done)) | skip) | refine zS ?_ | refine zV ?_ | (apply zI; refine zP vObt ?_) | (apply zI; refine zP vObx ?_) | refine zA ?_ | refine Alt.fst ?_ | refine Or.inl ?_) <;> conv => whnf) | fail
theorem mulR {a b : Int} (ha : -40 ≤ a ∧ a ≤ 40) (hb : -40 ≤ b ∧ b ≤ 40) : -1600 ≤ a * b ∧ a * b ≤ 1600 := by
  have h1 := Int.mul_nonneg (show 0 ≤ 40 - a by omega) (show 0 ≤ 40 - b by omega)
  have h2 := Int.mul_nonneg (show 0 ≤ 40 + a by omega) (show 0 ≤ 40 + b by omega)
  have h3 := Int.mul_nonneg (show 0 ≤ 40 - a by omega) (show 0 ≤ 40 + b by omega)
  have h4 := Int.mul_nonneg (show 0 ≤ 40 + a by omega) (show 0 ≤ 40 - b by omega)
  rw [Int.sub_mul, Int.mul_sub, Int.mul_sub] at h1
  rw [Int.add_mul, Int.mul_add, Int.mul_add] at h2
  rw [Int.sub_mul, Int.mul_add, Int.mul_add] at h3
  rw [Int.add_mul, Int.mul_sub, Int.mul_sub] at h4
  omega
theorem modmod {n m : Int} (h : 0 < m) : (n.tmod m + m).tmod m = n % m := by
  have h1 := Int.lt_tmod_of_pos n h
  rw [Int.tmod_eq_emod_of_nonneg (by omega)]
  have h2 : n.tmod m % m = n % m := by
    have h := Int.tmod_add_mul_tdiv n m
    conv => rhs; rw [← h]
    rw [Int.add_mul_emod_self_left]
  rw [Int.add_emod, Int.emod_self, Int.add_zero, Int.emod_emod_of_dvd _ (Int.dvd_refl _), h2]
abbrev mlS (n : Nat) (cs : List (Nat × D)) (rt : List (Option Root)) : Prop := Stg Tryz.prog 0 Tryz.f6 n (retQ Tryz.tab Tryz.f6 (dbool true)) (fewS Tryz.f6.ntmps cs rt)
abbrev bx (ds : List D) : Option Root := some ⟨true, 1, ds⟩
theorem mul_19A {m : Int} (hmd : Md m) (n : Nat) (hn : 2 ≤ n ∧ n ≤ 11) (F : PS (PS (Zm m))) (hlaw : lawB m (Tb n F) = true) (hLw : LwN F n) (k : Int) (hk : -7 ≤ k ∧ k ≤ 1000001) (r : PS (Zm m)) (hr : MulZ F n k PS.X r) (eM : ∀ (o p : Bool) (kk : Int), (-1000000 ≤ kk ∧ kk ≤ 1000000) → ∀ (rr : PS (Zm m)), MulZ F n kk PS.X rr → PureCall Tryz.prog 69 [.agg [dint m, .list o 1 (rows p (Tb n F))], dint kk] (.tup [SerD m true n rr, dint 0])) (t : List (List Int)) (eT : Tb n F = t) (l : List Nat) (hb : ∀ b ∈ l, b < 256) (hl : l.length ≤ 9223372036854775807) (h0 : ¬ 4096 < l.length) :
    mlS 19 [(0, .list false 1 (byts l)), (3, .ptr 1 [] 0), (4, dint k), (5, .ptr 2 [] 0), (6, dint 0)] [none, bx [dint m, .list false 1 (rows false t)], bx [dint m, .ref 3 [] 1 0 n], some ⟨false, 1, ints (L n r)⟩] := by
  subst eT
  obtain ⟨hr0, hr1⟩ := mulZ_1 hLw hr
  have hr0v : (r.c 0).val = 0 := by rw [hr0]; exact Zm.val_zero
  have hr1v : (r.c 1).val = (k.tmod m + m).tmod m := by rw [hr1, modmod hmd.pos]; rfl
  have hkm1 := Int.lt_tmod_of_pos k hmd.pos
  have hkm2 := Int.tmod_lt_of_pos k hmd.pos
  have hmd1 := hmd.1
  have hmd3 := hmd.2
  clear hr0 hr1
  refine stg_end Tryz.tabOk mixOrd _ 19 ?_
  conv => whnf
  repeat' first | (refine borA [] (c_roll false l hb (by omega) 7002) (fun d rt' hd => ?_)) | ((first | refine z0 ?_ | (refine And.intro (fun h => ?_) (fun h => ?_) <;> (try simp only [cnt1, ints_length, rows_length, Tb_length, L_length, byts_length] at h) <;> first | (exfalso; first | omega | exact h trivial | (cases h; done)) | skip) | refine zS ?_ | refine zV ?_ | (apply zI; refine zP vObt ?_) | (apply zI; refine zP vObx ?_) | refine zA ?_ | refine And.intro ((inR64 (by omega) (by omega))) ?_ | refine Alt.fst ?_ | refine Or.inl ?_) <;> conv => whnf) | fail
  obtain ⟨h9, rfl, rfl⟩ := hd
  refine ⟨rfl, by simp, ?_⟩
  conv => whnf
  repeat' first | ((first | refine z0 ?_ | refine Alt.snd (And.intro (show mixOk _ _ = true by decide +kernel) ?_) | refine And.intro (show (_ : List (Option Root))[_]? = _ from rfl) ?_ | (refine And.intro (fun h => ?_) (fun h => ?_) <;> (try simp only [cnt1, ints_length, rows_length, Tb_length, L_length, byts_length] at h) <;> first | (exfalso; first | omega | exact h trivial | (cases h; done)) | skip) | refine zS ?_ | refine zV ?_ | (apply zI; refine zP vObt ?_) | (apply zI; refine zP vObx ?_) | refine zA ?_ | refine Alt.fst ?_) <;> conv => whnf) | fail
  first | refine borA [1] (c_below false l hb (by omega) 0 (by omega) h9 60) (fun d rt' hd => ?_) | refine borA [2] (c_below false l hb (by omega) 0 (by omega) h9 60) (fun d rt' hd => ?_) | refine borA [3] (c_below false l hb (by omega) 0 (by omega) h9 60) (fun d rt' hd => ?_) | refine borA [4] (c_below false l hb (by omega) 0 (by omega) h9 60) (fun d rt' hd => ?_) | refine borA [5] (c_below false l hb (by omega) 0 (by omega) h9 60) (fun d rt' hd => ?_) | refine borA [6] (c_below false l hb (by omega) 0 (by omega) h9 60) (fun d rt' hd => ?_) | refine borA [7] (c_below false l hb (by omega) 0 (by omega) h9 60) (fun d rt' hd => ?_) | refine borA [8] (c_below false l hb (by omega) 0 (by omega) h9 60) (fun d rt' hd => ?_) | refine borA [9] (c_below false l hb (by omega) 0 (by omega) h9 60) (fun d rt' hd => ?_) | refine borA [10] (c_below false l hb (by omega) 0 (by omega) h9 60) (fun d rt' hd => ?_) | refine borA [11] (c_below false l hb (by omega) 0 (by omega) h9 60) (fun d rt' hd => ?_) | refine borA [12] (c_below false l hb (by omega) 0 (by omega) h9 60) (fun d rt' hd => ?_) | refine borA [13] (c_below false l hb (by omega) 0 (by omega) h9 60) (fun d rt' hd => ?_) | refine borA [14] (c_below false l hb (by omega) 0 (by omega) h9 60) (fun d rt' hd => ?_)
  obtain ⟨x, a3, h3, hx, ha3, rfl, rfl⟩ := hd
  refine ⟨rfl, by simp, ?_⟩
  conv => whnf
  have hx2 := hx.2 (by omega)
  repeat' first | ((first | refine z0 ?_ | refine Alt.snd (And.intro (show mixOk _ _ = true by decide +kernel) ?_) | refine And.intro (show (_ : List (Option Root))[_]? = _ from rfl) ?_ | (refine And.intro (fun h => ?_) (fun h => ?_) <;> (try simp only [cnt1, ints_length, rows_length, Tb_length, L_length, byts_length] at h) <;> first | (exfalso; first | omega | exact h trivial | (cases h; done)) | skip) | refine zS ?_ | refine zV ?_ | (apply zI; refine zP vObt ?_) | (apply zI; refine zP vObx ?_) | refine zA ?_ | refine Alt.fst ?_) <;> conv => whnf) | fail
  first | refine borA [1] (c_below false l hb (by omega) a3 ha3 h3 60) (fun d rt' hd => ?_) | refine borA [2] (c_below false l hb (by omega) a3 ha3 h3 60) (fun d rt' hd => ?_) | refine borA [3] (c_below false l hb (by omega) a3 ha3 h3 60) (fun d rt' hd => ?_) | refine borA [4] (c_below false l hb (by omega) a3 ha3 h3 60) (fun d rt' hd => ?_) | refine borA [5] (c_below false l hb (by omega) a3 ha3 h3 60) (fun d rt' hd => ?_) | refine borA [6] (c_below false l hb (by omega) a3 ha3 h3 60) (fun d rt' hd => ?_) | refine borA [7] (c_below false l hb (by omega) a3 ha3 h3 60) (fun d rt' hd => ?_) | refine borA [8] (c_below false l hb (by omega) a3 ha3 h3 60) (fun d rt' hd => ?_) | refine borA [9] (c_below false l hb (by omega) a3 ha3 h3 60) (fun d rt' hd => ?_) | refine borA [10] (c_below false l hb (by omega) a3 ha3 h3 60) (fun d rt' hd => ?_) | refine borA [11] (c_below false l hb (by omega) a3 ha3 h3 60) (fun d rt' hd => ?_) | refine borA [12] (c_below false l hb (by omega) a3 ha3 h3 60) (fun d rt' hd => ?_) | refine borA [13] (c_below false l hb (by omega) a3 ha3 h3 60) (fun d rt' hd => ?_) | refine borA [14] (c_below false l hb (by omega) a3 ha3 h3 60) (fun d rt' hd => ?_)
  obtain ⟨y, a4, h4, hy, ha4, rfl, rfl⟩ := hd
  refine ⟨rfl, by simp, ?_⟩
  conv => whnf
  have hy2 := hy.2 (by omega)
  have hxy := mulR (a := x - 20) (b := y - 20) (by omega) (by omega)
  obtain ⟨P, hP⟩ := mulZ_ex F n (x - 20) PS.X
  obtain ⟨Q, hQ⟩ := mulZ_ex F n (y - 20) PS.X
  obtain ⟨B, hB⟩ := mulZ_ex F n (x - 20 + (y - 20)) PS.X
  obtain ⟨U, hU⟩ := mulZ_ex F n ((x - 20) * (y - 20)) PS.X
  obtain ⟨S, hS⟩ := mulZ_ex F n (x - 20) Q
  have e10 := fun o p => eM o p (x - 20) (by omega) P hP
  have e11 := fun o p => eM o p (y - 20) (by omega) Q hQ
  have e12 := fun o p => eM o p (x - 20 + (y - 20)) (by omega) B hB
  have e13 := fun o p => eM o p ((x - 20) * (y - 20)) (by omega) U hU
  have e14 := fun o p o1 o3 => c_implSumUnderY hmd o p o1 o3 n hn F hlaw P Q (mulZ_1 hLw hP).1 (mulZ_1 hLw hQ).1
  have e15 := fun o p o1 => c_implMultipleUnderY hmd o p o1 n hn F hlaw Q (mulZ_1 hLw hQ).1 (x - 20) (by omega) S hS
  simp only [PlD, SerD, ← mulZ_sum hLw hP hQ hB, ← mulZ_mul hLw hQ hU hS] at e14 e15
  clear eM
  repeat' first | ((first | refine z0 ?_ | refine Alt.snd (And.intro (show mixOk _ _ = true by decide +kernel) ?_) | refine And.intro (show (_ : List (Option Root))[_]? = _ from rfl) ?_ | (apply zI; refine zP (e10 _ _) ?_) | (apply zI; refine zP (e11 _ _) ?_) | (apply zI; refine zP (e12 _ _) ?_) | (apply zI; refine zP (e13 _ _) ?_) | (apply zI; refine zP (e14 _ _ _ _) ?_) | (apply zI; refine zP (e15 _ _ _) ?_) | (apply zI; refine zP (c_series9 _ _ _ _ _ _ (by simp; omega) (by simp; omega)) ?_) | (refine And.intro (fun h => ?_) (fun h => ?_) <;> (try simp only [cnt1, ints_length, rows_length, Tb_length, L_length, byts_length] at h) <;> first | (exfalso; first | omega | exact h trivial | (cases h; done)) | skip) | refine zS ?_ | refine zV ?_ | (apply zI; refine zP vObt ?_) | (apply zI; refine zP vObx ?_) | refine zA ?_ | refine And.intro ((inR64 (by omega) (by omega))) ?_ | refine Alt.fst ?_ | refine Or.inl ?_) <;> conv => whnf) | fail
theorem mul_19B {m : Int} (t : List (List Int)) (k c : Int) (hc : c ≠ 0) (l : List Nat) :
    mlS 19 [(0, .list false 1 (byts l)), (3, .ptr 1 [] 0), (4, dint k), (5, .ptr 2 [] 0), (6, dint c)] [none, bx [dint m, .list false 1 (rows false t)], bx [dint 0, .lit (.slice none 0 0)]] := by
  refine stg_end Tryz.tabOk mixOrd _ 19 ?_
  conv => whnf
  repeat' first | ((first | refine z0 ?_ | (refine And.intro (fun h => ?_) (fun h => ?_) <;> (try simp only [cnt1, ints_length, rows_length, Tb_length, L_length, byts_length] at h) <;> first | (exfalso; first | omega | exact h trivial | (cases h; done)) | skip) | refine zS ?_ | refine zV ?_ | (apply zI; refine zP vObt ?_) | (apply zI; refine zP vObx ?_) | refine zA ?_ | refine Alt.fst ?_ | refine Or.inl ?_) <;> conv => whnf) | fail
theorem mul_8A (hW : Wei) {m : Int} (hmd : Md m) (n : Nat) (hn : 2 ≤ n ∧ n ≤ 11) (F : PS (PS (Zm m))) (hlaw : lawB m (Tb n F) = true) (hLw : LwN F n) (k : Int) (hk : -7 ≤ k ∧ k ≤ 1000001) (r : PS (Zm m)) (hr : MulZ F n k PS.X r) (eM : ∀ (o p : Bool) (kk : Int), (-1000000 ≤ kk ∧ kk ≤ 1000000) → ∀ (rr : PS (Zm m)), MulZ F n kk PS.X rr → PureCall Tryz.prog 69 [.agg [dint m, .list o 1 (rows p (Tb n F))], dint kk] (.tup [SerD m true n rr, dint 0])) (t : List (List Int)) (ht : smT t) (eT : Tb n F = t) (l : List Nat) (hb : ∀ b ∈ l, b < 256) (hl : l.length ≤ 9223372036854775807) (h0 : ¬ 4096 < l.length) :
    mlS 8 [(0, .list false 1 (byts l)), (3, .ptr 1 [] 0), (4, dint k), (5, .ptr 2 [] 0), (6, dint 0)] [none, bx [dint m, .list false 1 (rows false t)], bx [dint m, .ref 3 [] 1 0 n], some ⟨false, 1, ints (L n r)⟩] := by
  refine stg_cut Tryz.tabOk mixOrd _ 8 11 ?_
  conv => whnf
  have s1 := smT_lens ht
  repeat' first | (refine borA [] (c_DrawMultipleUnder hW false l hb (by omega)) (fun d rt' hd => ?_)) | ((first | refine z0 ?_ | (refine And.intro (fun h => ?_) (fun h => ?_) <;> (try simp only [cnt1, ints_length, rows_length, Tb_length, L_length, byts_length] at h) <;> first | (exfalso; first | omega | exact h trivial | (cases h; done)) | skip) | refine zS ?_ | refine zV ?_ | (apply zI; refine zP vObt ?_) | (apply zI; refine zP vObx ?_) | refine zA ?_ | refine Alt.fst ?_ | refine Or.inl ?_) <;> conv => whnf) | fail
  obtain ⟨m2, t2, k2, ma, la, ⟨hm2, ht2⟩, hk2, hla, rfl, rfl⟩ := hd
  refine ⟨rfl, by simp, ?_⟩
  conv => whnf
  have s2 := smT_lens ht2
  obtain ⟨r2, hr2⟩ := mulZ_ex (rd2 m2 t2) t2.length k2 (rd m2 la)
  have e3 := fun o p => c_implInverseOfLaw o p m t s1.1 s1.2
  have e4 := fun o p => c_specInverseOfLaw o p m t s1.1 s1.2
  have e5 := fun o p o1 => c_implMultipleUnder o p o1 m2 t2 s2.1 s2.2 k2 ma la (by omega) r2 (fun _ => hr2)
  have e6 := fun o p o1 => c_specMultipleUnder o p o1 m2 t2 s2.1 s2.2 k2 ma la (by omega) r2 (fun _ => hr2)
  have hl1 : t.length ≤ 11 := ht.1
  have e34 : (ilC m t = 0 ∧ (∀ o p, PureCall Tryz.prog 76 [.agg [dint m, .list o 1 (rows p t)]] (.tup [SerD m true t.length (ivS t.length (rd2 m t)), dint 0])) ∧ (∀ o p, PureCall Tryz.prog 77 [.agg [dint m, .list o 1 (rows p t)]] (.tup [SerD m true t.length (ivS t.length (rd2 m t)), dint 0]))) ∨ (ilC m t ≠ 0 ∧ (∀ o p, PureCall Tryz.prog 76 [.agg [dint m, .list o 1 (rows p t)]] (.tup [zserD, dint (ilC m t)])) ∧ (∀ o p, PureCall Tryz.prog 77 [.agg [dint m, .list o 1 (rows p t)]] (.tup [zserD, dint (ilC m t)]))) := by
    by_cases hi : ilC m t = 0
    · rw [serRes, if_pos hi] at e3 e4; exact .inl ⟨hi, e3, e4⟩
    · rw [serRes, if_neg hi] at e3 e4; exact .inr ⟨hi, e3, e4⟩
  clear e3 e4
  by_cases hc2 : muC m2 t2 k2 ma la = 0
  · rw [serRes, if_pos hc2] at e5 e6
    obtain ⟨hA, hB2, rfl, hC, hD⟩ := cuC_0 (muC_0 hc2).1
    obtain ⟨⟨hmd2, hn2⟩, eT2, hL2⟩ := lawB_Tb hA
    have eL := (serB_L' hB2).symm
    rw [← hC] at eL
    have hD2 : (rd m2 la).c 0 = 0 := by rw [rd_c, hD]; rfl
    generalize hN2 : t2.length = n2 at *
    generalize rd2 m2 t2 = F2 at *
    generalize rd m2 la = A2 at *
    subst eT2
    subst eL
    have hLw2 := lwN_of hn2.1 hL2
    have e7 := fun o p o1 => c_implOppositeUnderY hmd2 o p o1 n2 hn2 F2 hA A2 hD2
    have e8 := fun o p o1 o3 => c_implSumUnderY hmd2 o p o1 o3 n2 hn2 F2 hA A2 (compN (ivS n2 F2) A2 0 n2) hD2 (op_c0 hLw2 hD2)
    simp only [PlD, SerD, op_sum hLw2 hD2] at e7 e8
    rcases e34 with ⟨hi, e3, e4⟩ | ⟨hi, e3, e4⟩
    all_goals (
      repeat' first | ((first | refine z0 ?_ | (apply zI; refine zP (e3 _ _) ?_) | (apply zI; refine zP (e4 _ _) ?_) | (apply zI; refine zP (e5 _ _ _) ?_) | (apply zI; refine zP (e6 _ _ _) ?_) | (apply zI; refine zP (e7 _ _ _) ?_) | (apply zI; refine zP (e8 _ _ _ _) ?_) | (apply zI; refine zP (c_series9 _ _ _ _ _ _ (by simp; omega) (by simp; omega)) ?_) | (apply zI; refine zP (c_series9Nil) ?_) | (refine And.intro (fun h => ?_) (fun h => ?_) <;> (try simp only [cnt1, ints_length, rows_length, Tb_length, L_length, byts_length] at h) <;> first | (exfalso; first | omega | exact h trivial | (cases h; done)) | skip) | refine zS ?_ | refine zV ?_ | (apply zI; refine zP vObt ?_) | (apply zI; refine zP vObx ?_) | refine zA ?_ | refine Alt.fst ?_ | refine Or.inl ?_) <;> conv => whnf) | fail
      clear e3 e4 e5 e6 e7 e8 hA hB2 hC hD hL2 hc2 hr2 ht2 s2
      refine loop_cutR Tryz.tabOk mixOrd 41 (α := Nat) (fun i => [(24, dint i)]) (fun i => []) (fun i => i ≤ n2) (fun i => n2 - i) (0) ?_ ?_ ?_
      · omega
      · conv => whnf
        first | refine WeakS.autoR ?_ | refine Weak.autoR ?_
        conv => whnf
        repeat' ((first | refine z1 ?_ | refine z2 ?_ | refine zV ?_ | refine And.intro vRepl ?_ | refine And.intro vReplL ?_ | refine And.intro ?_ ?_ | exact trivial) <;> try (conv => whnf))
      intro i hi
      conv => whnf
      by_cases hin : i < n2
      · have hz : (((0 : PS (Zm m2)).c i).val : Int) = 0 := Zm.val_zero
        repeat' first | ((first | refine z0 ?_ | (refine And.intro (fun h => ?_) (fun h => ?_) <;> (try simp only [cnt1, ints_length, rows_length, Tb_length, L_length, byts_length] at h) <;> first | (exfalso; first | omega | exact h trivial | (cases h; done)) | skip) | refine zS ?_ | refine zV ?_ | (apply zI; refine zP vObt ?_) | (apply zI; refine zP vObx ?_) | refine zA ?_ | refine Alt.fst ?_ | refine Or.inl ?_) <;> conv => whnf) | fail
        refine Exists.intro (i + 1) (And.intro (by omega) (And.intro (by omega) ?_))
        first | refine WeakS.autoR ?_ | refine Weak.autoR ?_
        conv => whnf
        repeat' ((first | refine z1 ?_ | refine z2 ?_ | refine zV ?_ | refine And.intro vRepl ?_ | refine And.intro vReplL ?_ | refine And.intro ?_ ?_ | exact trivial) <;> try (conv => whnf))
      · repeat' first | ((first | refine z0 ?_ | (refine And.intro (fun h => ?_) (fun h => ?_) <;> (try simp only [cnt1, ints_length, rows_length, Tb_length, L_length, byts_length] at h) <;> first | (exfalso; first | omega | exact h trivial | (cases h; done)) | skip) | refine zS ?_ | refine zV ?_ | (apply zI; refine zP vObt ?_) | (apply zI; refine zP vObx ?_) | refine zA ?_ | refine Alt.fst ?_ | refine Or.inl ?_) <;> conv => whnf) | fail
        all_goals first | (refine Stg.weak (mul_19A hmd n hn F hlaw hLw k hk r hr eM t eT l hb hl h0) (wkA (kp := 0) [none, some 1, some 2, some 3]))
      skip)
  · rw [serRes, if_neg hc2] at e5 e6
    rcases e34 with ⟨hi, e3, e4⟩ | ⟨hi, e3, e4⟩
    all_goals (
      repeat' first | ((first | refine z0 ?_ | (apply zI; refine zP (e3 _ _) ?_) | (apply zI; refine zP (e4 _ _) ?_) | (apply zI; refine zP (e5 _ _ _) ?_) | (apply zI; refine zP (e6 _ _ _) ?_) | (apply zI; refine zP (c_series9Nil) ?_) | (apply zI; refine zP (c_series9 _ _ _ _ _ _ (by simp; omega) (by simp; omega)) ?_) | (refine And.intro (fun h => ?_) (fun h => ?_) <;> (try simp only [cnt1, ints_length, rows_length, Tb_length, L_length, byts_length] at h) <;> first | (exfalso; first | omega | exact h trivial | (cases h; done)) | skip) | refine zS ?_ | refine zV ?_ | (apply zI; refine zP vObt ?_) | (apply zI; refine zP vObx ?_) | refine zA ?_ | refine Alt.fst ?_ | refine Or.inl ?_) <;> conv => whnf) | fail
      all_goals first | (refine Stg.weak (mul_19A hmd n hn F hlaw hLw k hk r hr eM t eT l hb hl h0) (wkA (kp := 0) [none, some 1, some 2, some 3]))
      skip)
theorem mul_8B (hW : Wei) {m : Int} (t : List (List Int)) (ht : smT t) (k c : Int) (hc : c ≠ 0) (l : List Nat) (hb : ∀ b ∈ l, b < 256) (hl : l.length ≤ 9223372036854775807) (h0 : ¬ 4096 < l.length) :
    mlS 8 [(0, .list false 1 (byts l)), (3, .ptr 1 [] 0), (4, dint k), (5, .ptr 2 [] 0), (6, dint c)] [none, bx [dint m, .list false 1 (rows false t)], bx [dint 0, .lit (.slice none 0 0)]] := by
  refine stg_cut Tryz.tabOk mixOrd _ 8 11 ?_
  conv => whnf
  have s1 := smT_lens ht
  repeat' first | (refine borA [] (c_DrawMultipleUnder hW false l hb (by omega)) (fun d rt' hd => ?_)) | ((first | refine z0 ?_ | (refine And.intro (fun h => ?_) (fun h => ?_) <;> (try simp only [cnt1, ints_length, rows_length, Tb_length, L_length, byts_length] at h) <;> first | (exfalso; first | omega | exact h trivial | (cases h; done)) | skip) | refine zS ?_ | refine zV ?_ | (apply zI; refine zP vObt ?_) | (apply zI; refine zP vObx ?_) | refine zA ?_ | refine Alt.fst ?_ | refine Or.inl ?_) <;> conv => whnf) | fail
  obtain ⟨m2, t2, k2, ma, la, ⟨hm2, ht2⟩, hk2, hla, rfl, rfl⟩ := hd
  refine ⟨rfl, by simp, ?_⟩
  conv => whnf
  have s2 := smT_lens ht2
  obtain ⟨r2, hr2⟩ := mulZ_ex (rd2 m2 t2) t2.length k2 (rd m2 la)
  have e3 := fun o p => c_implInverseOfLaw o p m t s1.1 s1.2
  have e4 := fun o p => c_specInverseOfLaw o p m t s1.1 s1.2
  have e5 := fun o p o1 => c_implMultipleUnder o p o1 m2 t2 s2.1 s2.2 k2 ma la (by omega) r2 (fun _ => hr2)
  have e6 := fun o p o1 => c_specMultipleUnder o p o1 m2 t2 s2.1 s2.2 k2 ma la (by omega) r2 (fun _ => hr2)
  have hl1 : t.length ≤ 11 := ht.1
  have e34 : (ilC m t = 0 ∧ (∀ o p, PureCall Tryz.prog 76 [.agg [dint m, .list o 1 (rows p t)]] (.tup [SerD m true t.length (ivS t.length (rd2 m t)), dint 0])) ∧ (∀ o p, PureCall Tryz.prog 77 [.agg [dint m, .list o 1 (rows p t)]] (.tup [SerD m true t.length (ivS t.length (rd2 m t)), dint 0]))) ∨ (ilC m t ≠ 0 ∧ (∀ o p, PureCall Tryz.prog 76 [.agg [dint m, .list o 1 (rows p t)]] (.tup [zserD, dint (ilC m t)])) ∧ (∀ o p, PureCall Tryz.prog 77 [.agg [dint m, .list o 1 (rows p t)]] (.tup [zserD, dint (ilC m t)]))) := by
    by_cases hi : ilC m t = 0
    · rw [serRes, if_pos hi] at e3 e4; exact .inl ⟨hi, e3, e4⟩
    · rw [serRes, if_neg hi] at e3 e4; exact .inr ⟨hi, e3, e4⟩
  clear e3 e4
  by_cases hc2 : muC m2 t2 k2 ma la = 0
  · rw [serRes, if_pos hc2] at e5 e6
    obtain ⟨hA, hB2, rfl, hC, hD⟩ := cuC_0 (muC_0 hc2).1
    obtain ⟨⟨hmd2, hn2⟩, eT2, hL2⟩ := lawB_Tb hA
    have eL := (serB_L' hB2).symm
    rw [← hC] at eL
    have hD2 : (rd m2 la).c 0 = 0 := by rw [rd_c, hD]; rfl
    generalize hN2 : t2.length = n2 at *
    generalize rd2 m2 t2 = F2 at *
    generalize rd m2 la = A2 at *
    subst eT2
    subst eL
    have hLw2 := lwN_of hn2.1 hL2
    have e7 := fun o p o1 => c_implOppositeUnderY hmd2 o p o1 n2 hn2 F2 hA A2 hD2
    have e8 := fun o p o1 o3 => c_implSumUnderY hmd2 o p o1 o3 n2 hn2 F2 hA A2 (compN (ivS n2 F2) A2 0 n2) hD2 (op_c0 hLw2 hD2)
    simp only [PlD, SerD, op_sum hLw2 hD2] at e7 e8
    rcases e34 with ⟨hi, e3, e4⟩ | ⟨hi, e3, e4⟩
    all_goals (
      repeat' first | ((first | refine z0 ?_ | (apply zI; refine zP (e3 _ _) ?_) | (apply zI; refine zP (e4 _ _) ?_) | (apply zI; refine zP (e5 _ _ _) ?_) | (apply zI; refine zP (e6 _ _ _) ?_) | (apply zI; refine zP (e7 _ _ _) ?_) | (apply zI; refine zP (e8 _ _ _ _) ?_) | (apply zI; refine zP (c_series9 _ _ _ _ _ _ (by simp; omega) (by simp; omega)) ?_) | (apply zI; refine zP (c_series9Nil) ?_) | (refine And.intro (fun h => ?_) (fun h => ?_) <;> (try simp only [cnt1, ints_length, rows_length, Tb_length, L_length, byts_length] at h) <;> first | (exfalso; first | omega | exact h trivial | (cases h; done)) | skip) | refine zS ?_ | refine zV ?_ | (apply zI; refine zP vObt ?_) | (apply zI; refine zP vObx ?_) | refine zA ?_ | refine Alt.fst ?_ | refine Or.inl ?_) <;> conv => whnf) | fail
      clear e3 e4 e5 e6 e7 e8 hA hB2 hC hD hL2 hc2 hr2 ht2 s2
      refine loop_cutR Tryz.tabOk mixOrd 41 (α := Nat) (fun i => [(24, dint i)]) (fun i => []) (fun i => i ≤ n2) (fun i => n2 - i) (0) ?_ ?_ ?_
      · omega
      · conv => whnf
        first | refine WeakS.autoR ?_ | refine Weak.autoR ?_
        conv => whnf
        repeat' ((first | refine z1 ?_ | refine z2 ?_ | refine zV ?_ | refine And.intro vRepl ?_ | refine And.intro vReplL ?_ | refine And.intro ?_ ?_ | exact trivial) <;> try (conv => whnf))
      intro i hi
      conv => whnf
      by_cases hin : i < n2
      · have hz : (((0 : PS (Zm m2)).c i).val : Int) = 0 := Zm.val_zero
        repeat' first | ((first | refine z0 ?_ | (refine And.intro (fun h => ?_) (fun h => ?_) <;> (try simp only [cnt1, ints_length, rows_length, Tb_length, L_length, byts_length] at h) <;> first | (exfalso; first | omega | exact h trivial | (cases h; done)) | skip) | refine zS ?_ | refine zV ?_ | (apply zI; refine zP vObt ?_) | (apply zI; refine zP vObx ?_) | refine zA ?_ | refine Alt.fst ?_ | refine Or.inl ?_) <;> conv => whnf) | fail
        refine Exists.intro (i + 1) (And.intro (by omega) (And.intro (by omega) ?_))
        first | refine WeakS.autoR ?_ | refine Weak.autoR ?_
        conv => whnf
        repeat' ((first | refine z1 ?_ | refine z2 ?_ | refine zV ?_ | refine And.intro vRepl ?_ | refine And.intro vReplL ?_ | refine And.intro ?_ ?_ | exact trivial) <;> try (conv => whnf))
      · repeat' first | ((first | refine z0 ?_ | (refine And.intro (fun h => ?_) (fun h => ?_) <;> (try simp only [cnt1, ints_length, rows_length, Tb_length, L_length, byts_length] at h) <;> first | (exfalso; first | omega | exact h trivial | (cases h; done)) | skip) | refine zS ?_ | refine zV ?_ | (apply zI; refine zP vObt ?_) | (apply zI; refine zP vObx ?_) | refine zA ?_ | refine Alt.fst ?_ | refine Or.inl ?_) <;> conv => whnf) | fail
        all_goals first | (refine Stg.weak (mul_19B (m := m) t k c hc l) (wkA (kp := 0) [none, some 1, some 2]))
      skip)
  · rw [serRes, if_neg hc2] at e5 e6
    rcases e34 with ⟨hi, e3, e4⟩ | ⟨hi, e3, e4⟩
    all_goals (
      repeat' first | ((first | refine z0 ?_ | (apply zI; refine zP (e3 _ _) ?_) | (apply zI; refine zP (e4 _ _) ?_) | (apply zI; refine zP (e5 _ _ _) ?_) | (apply zI; refine zP (e6 _ _ _) ?_) | (apply zI; refine zP (c_series9Nil) ?_) | (apply zI; refine zP (c_series9 _ _ _ _ _ _ (by simp; omega) (by simp; omega)) ?_) | (refine And.intro (fun h => ?_) (fun h => ?_) <;> (try simp only [cnt1, ints_length, rows_length, Tb_length, L_length, byts_length] at h) <;> first | (exfalso; first | omega | exact h trivial | (cases h; done)) | skip) | refine zS ?_ | refine zV ?_ | (apply zI; refine zP vObt ?_) | (apply zI; refine zP vObx ?_) | refine zA ?_ | refine Alt.fst ?_ | refine Or.inl ?_) <;> conv => whnf) | fail
      all_goals first | (refine Stg.weak (mul_19B (m := m) t k c hc l) (wkA (kp := 0) [none, some 1, some 2]))
      skip)
theorem c_FnMultiples (hW : Wei) (l : List Nat) (hb : ∀ b ∈ l, b < 256) (hl : l.length ≤ 9223372036854775807) : PureCall Tryz.prog 6 [.list false 1 (byts l)] (dbool true) := by
  have hbig := c_big false l hl
  by_cases h0 : 4096 < l.length
  · rw [show decide (4096 < l.length) = true by simp [h0]] at hbig
    refine pure_of_stg Tryz.f6 Tryz.func6 rfl rfl Tryz.tabOk ?_
    refine stg_cut Tryz.tabOk mixOrd _ 0 8 ?_
    conv => whnf
    repeat' first | ((first | refine z0 ?_ | (apply zI; refine zP (hbig) ?_) | (refine And.intro (fun h => ?_) (fun h => ?_) <;> (try simp only [cnt1, ints_length, rows_length, Tb_length, L_length, byts_length] at h) <;> first | (exfalso; first | omega | exact h trivial | (cases h; done)) | skip) | refine zS ?_ | refine zV ?_ | (apply zI; refine zP vObt ?_) | (apply zI; refine zP vObx ?_) | refine zA ?_ | refine Alt.fst ?_ | refine Or.inl ?_) <;> conv => whnf) | fail
  · rw [show decide (4096 < l.length) = false by simp [h0]] at hbig
    refine pure_of_stg Tryz.f6 Tryz.func6 rfl rfl Tryz.tabOk ?_
    refine stg_cut Tryz.tabOk mixOrd _ 0 8 ?_
    conv => whnf
    repeat' first | (refine borA [] (c_DrawMultipleOf hW false l hb (by omega)) (fun d rt' hd => ?_)) | ((first | refine z0 ?_ | (apply zI; refine zP (hbig) ?_) | (refine And.intro (fun h => ?_) (fun h => ?_) <;> (try simp only [cnt1, ints_length, rows_length, Tb_length, L_length, byts_length] at h) <;> first | (exfalso; first | omega | exact h trivial | (cases h; done)) | skip) | refine zS ?_ | refine zV ?_ | (apply zI; refine zP vObt ?_) | (apply zI; refine zP vObx ?_) | refine zA ?_ | refine Alt.fst ?_ | refine Or.inl ?_) <;> conv => whnf) | fail
    obtain ⟨m, t, k, ⟨hm, ht⟩, hk, rfl, rfl⟩ := hd
    refine ⟨rfl, by simp, ?_⟩
    conv => whnf
    have s1 := smT_lens ht
    obtain ⟨r, hr⟩ := mulZ_ex (rd2 m t) t.length k PS.X
    have e1 := fun o p => c_implMultipleOf o p m t s1.1 s1.2 k r (fun _ => hr)
    have e2 := fun o p => c_specMultipleOf o p m t s1.1 s1.2 k r (fun _ => hr)
    by_cases hc : moC m t k = 0
    · rw [serRes, if_pos hc] at e1 e2
      have hlaw := (moC_0 hc).1
      obtain ⟨⟨hmd, hn⟩, eT, hL⟩ := lawB_Tb hlaw
      have eM : ∀ (o p : Bool) (kk : Int), (-1000000 ≤ kk ∧ kk ≤ 1000000) → ∀ (rr : PS (Zm m)), MulZ (rd2 m t) t.length kk PS.X rr → PureCall Tryz.prog 69 [.agg [dint m, .list o 1 (rows p t)], dint kk] (.tup [SerD m true t.length rr, dint 0]) := fun o p kk hkk rr hrr => by
        have := c_implMultipleOf o p m t s1.1 s1.2 kk rr (fun _ => hrr)
        rwa [serRes, if_pos (show moC m t kk = 0 by unfold moC; rw [if_pos hlaw, if_pos hkk])] at this
      generalize hN : t.length = n at *
      generalize rd2 m t = F at *
      subst eT
      have hLw := lwN_of hn.1 hL
      repeat' first | ((first | refine z0 ?_ | (apply zI; refine zP (e1 _ _) ?_) | (apply zI; refine zP (e2 _ _) ?_) | (apply zI; refine zP (c_series9 _ _ _ _ _ _ (by simp; omega) (by simp; omega)) ?_) | (refine And.intro (fun h => ?_) (fun h => ?_) <;> (try simp only [cnt1, ints_length, rows_length, Tb_length, L_length, byts_length] at h) <;> first | (exfalso; first | omega | exact h trivial | (cases h; done)) | skip) | refine zS ?_ | refine zV ?_ | (apply zI; refine zP vObt ?_) | (apply zI; refine zP vObx ?_) | refine zA ?_ | refine Alt.fst ?_ | refine Or.inl ?_) <;> conv => whnf) | fail
      all_goals first | (refine Stg.weak (mul_8A hW hmd n hn F hlaw hLw k hk r hr eM _ ht rfl l hb hl h0) (wkA (kp := 0) [none, some 1, some 5, some 3])) | (refine Stg.weak (mul_8A hW hmd n hn F hlaw hLw k hk r hr eM _ ht rfl l hb hl h0) (wkA (kp := 0) [none, some 1, some 6, some 4])) | (refine Stg.weak (mul_8A hW hmd n hn F hlaw hLw k hk r hr eM _ ht rfl l hb hl h0) (wkA (kp := 0) [none, some 1, some 4, some 3])) | (refine Stg.weak (mul_8A hW hmd n hn F hlaw hLw k hk r hr eM _ ht rfl l hb hl h0) (wkA (kp := 0) [none, some 1, some 4, some 2])) | (refine Stg.weak (mul_8A hW hmd n hn F hlaw hLw k hk r hr eM _ ht rfl l hb hl h0) (wkA (kp := 0) [none, some 1, some 5, some 4]))
    · rw [serRes, if_neg hc] at e1 e2
      repeat' first | ((first | refine z0 ?_ | (apply zI; refine zP (e1 _ _) ?_) | (apply zI; refine zP (e2 _ _) ?_) | (apply zI; refine zP (c_series9Nil) ?_) | (refine And.intro (fun h => ?_) (fun h => ?_) <;> (try simp only [cnt1, ints_length, rows_length, Tb_length, L_length, byts_length] at h) <;> first | (exfalso; first | omega | exact h trivial | (cases h; done)) | skip) | refine zS ?_ | refine zV ?_ | (apply zI; refine zP vObt ?_) | (apply zI; refine zP vObx ?_) | refine zA ?_ | refine Alt.fst ?_ | refine Or.inl ?_) <;> conv => whnf) | fail
      all_goals first | (refine Stg.weak (mul_8B hW (m := m) t ht k _ hc l hb hl h0) (wkA (kp := 0) [none, some 1, some 2])) | (refine Stg.weak (mul_8B hW (m := m) t ht k _ hc l hb hl h0) (wkA (kp := 0) [none, some 1, some 3])) | (refine Stg.weak (mul_8B hW (m := m) t ht k _ hc l hb hl h0) (wkA (kp := 0) [none, some 1, some 4])) | (refine Stg.weak (mul_8B hW (m := m) t ht k _ hc l hb hl h0) (wkA (kp := 0) [none, some 1, some 5]))
end Go.Proofs

