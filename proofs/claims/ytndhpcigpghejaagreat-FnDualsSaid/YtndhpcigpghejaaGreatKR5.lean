import Derived.Test.YtndhpcigpghejaaGreatK36
import Derived.Test.YtndhpcigpghejaaGreatK45
import Derived.Test.YtndhpcigpghejaaGreatK185
import Derived.Test.YtndhpcigpghejaaGreatK135A
import Derived.Test.YtndhpcigpghejaaGreatK181
namespace Go.Proofs
open Go Go.Vm Go.Fg Go.Fg.PS
set_option maxRecDepth 100000
set_option maxHeartbeats 4000000
set_option linter.unusedSimpArgs false
set_option linter.unusedVariables false
theorem c_specMultiplyElements (o p o1 o2 : Bool) (m : Int) (t : List (List Int)) (u v : List Int) (hl : t.length ≤ 1048576) (hr : lensOk t) (hu : u.length ≤ 1048576) (hv : v.length ≤ 1048576) :
   PureCall Tryz.prog 96 [.agg [dint m, .list o 1 (rows p t)], .list o1 1 (ints u), .list o2 1 (ints v)] (meRes m t u v) := by
 have key := c_l17Code o p m t hl hr
 by_cases h4 : kC m t = 0
 · obtain ⟨hk, hht, hq1, hq2⟩ := kC_0 h4
   obtain ⟨hb, hpr⟩ := htC_0 hht
   obtain ⟨hp, hlw⟩ := lawB_pl hb
   obtain ⟨hm, h2, h3, _⟩ := plB_md hp
   have hm1 := hm.1
   have hm2 := hm.2
   have hlt : rkT m t < t.length := rkOf_lt (by omega)
   rw [h4, if_pos rfl] at key
   have hmB : inR .i64 (m - 1) := h1of (by simpa [inB, Md] using hm)
   have hno : (elB (rkT m t) m u && elB (rkT m t) m v) = false → D.tup [.lit (.slice none 0 0), dint 2] = meRes m t u v := fun e => by
     have h5 : elC2 m t u v = 2 := by unfold elC2; rw [if_pos h4, e]; rfl
     rw [meRes, h5, if_neg (by omega)]
   refine pure_of_vcR Tryz.tabOk mixOrd Tryz.func96 rfl rfl ?_
   conv => whnf
   repeat' first | ((first | refine z0 ?_ | refine Or.inr (inl_ofR Tryz.tabOk mixOrd _ Tryz.func272 rfl rfl ?_) | (apply zI; refine zP (key) ?_) | (refine And.intro (fun h => ?_) (fun h => ?_) <;> (try simp only [cnt1, ints_length] at h) <;> first | (exfalso; omega) | skip) | refine Or.inl ?_) <;> conv => whnf) | fail
   refine loop_peelV Tryz.tabOk mixOrd ?_
   conv => whnf
   repeat' first | ((first | refine z0 ?_ | (apply zI; refine zP (⟨_, rfl, rfl⟩) ?_) | (apply zI; refine zP (c_l01Numbers _ m u hmB (by omega)) ?_) | (refine And.intro (fun h => ?_) (fun h => ?_) <;> (try simp only [cnt1, ints_length] at h) <;> first | (exfalso; omega) | skip) | refine zS ?_ | refine zV ?_ | refine Alt.fst ?_ | refine Or.inl ?_) <;> conv => whnf) | fail
   · have hne : (u.length : Int) ≠ (rkT m t : Int) := by assumption
     exact hno (by simp [elB]; intro e; exfalso; omega)
   · have hul : u.length = rkT m t := by
       have : ¬ (u.length : Int) ≠ (rkT m t : Int) := by assumption
       omega
     have hun : numsB m u = true := by assumption
     refine loop_peelV Tryz.tabOk mixOrd ?_
     conv => whnf
     repeat' first | ((first | refine z0 ?_ | (apply zI; refine zP (⟨_, rfl, rfl⟩) ?_) | (apply zI; refine zP (c_l01Numbers _ m v hmB (by omega)) ?_) | (refine And.intro (fun h => ?_) (fun h => ?_) <;> (try simp only [cnt1, ints_length] at h) <;> first | (exfalso; omega) | skip) | refine zS ?_ | refine zV ?_ | refine Alt.fst ?_ | refine Or.inl ?_) <;> conv => whnf) | fail
     · have hne : (v.length : Int) ≠ (rkT m t : Int) := by assumption
       exact hno (by simp [elB]; intro _ _ e; exfalso; omega)
     · have hvl : v.length = rkT m t := by
         have : ¬ (v.length : Int) ≠ (rkT m t : Int) := by assumption
         omega
       have hvn : numsB m v = true := by assumption
       have hyes : D.tup [LD true (rkT m t) (rd m u * rd m v), dint 0] = meRes m t u v := by
         have h5 : elC2 m t u v = 0 := by unfold elC2; rw [if_pos h4]; simp [elB, hul, hvl, hun, hvn]
         rw [meRes, if_pos h5]
       have hlu : ints u = ints (L (rkT m t) (rd m u)) := by rw [← hul, L_rd (numsB_iff.1 hun)]
       have hlv : ints v = ints (L (rkT m t) (rd m v)) := by rw [← hvl, L_rd (numsB_iff.1 hvn)]
       refine loop_peelV Tryz.tabOk mixOrd ?_
       conv => whnf
       rw [hlu, hlv]
       generalize rkT m t = q at *
       repeat' first | ((first | refine z0 ?_ | (apply zI; refine zP (c_l02Times hm _ _ q q q (by omega) (by omega) (by omega) (by omega) (by omega) (by omega) _ _) ?_) | (refine And.intro (fun h => ?_) (fun h => ?_) <;> (try simp only [cnt1, ints_length] at h) <;> first | (exfalso; omega) | skip) | refine zV ?_ | refine Or.inl ?_) <;> conv => whnf) | fail
       exact hyes
     · have hvn : numsB m v = false := by assumption
       exact hno (by simp [elB, hvn])
   · have hun : numsB m u = false := by assumption
     exact hno (by simp [elB, hun])
 · have h5 : elC2 m t u v = kC m t := by unfold elC2; rw [if_neg h4]
   rw [if_neg h4] at key
   refine pure_of_vcR Tryz.tabOk mixOrd Tryz.func96 rfl rfl ?_
   conv => whnf
   repeat' first | ((first | refine z0 ?_ | refine Or.inr (inl_ofR Tryz.tabOk mixOrd _ Tryz.func272 rfl rfl ?_) | (apply zI; refine zP (key) ?_) | (refine And.intro (fun h => ?_) (fun h => ?_) <;> (try simp only [cnt1, ints_length] at h) <;> first | (exfalso; omega) | skip) | refine Or.inl ?_) <;> conv => whnf) | fail
   rw [meRes, h5, if_neg h4]
theorem c_specCoproductOfElement (o p o1 : Bool) (m : Int) (t : List (List Int)) (u : List Int) (hl : t.length ≤ 1048576) (hr : lensOk t) (hu : u.length ≤ 1048576) :
   PureCall Tryz.prog 90 [.agg [dint m, .list o 1 (rows p t)], .list o1 1 (ints u)] (ceRes m t u) := by
 have key := c_l17Code o p m t hl hr
 by_cases h4 : kC m t = 0
 · obtain ⟨hk, hht, hq1, hq2⟩ := kC_0 h4
   obtain ⟨hb, hpr⟩ := htC_0 hht
   obtain ⟨hp, hlw⟩ := lawB_pl hb
   obtain ⟨hm, h2, h3, _⟩ := plB_md hp
   have hm1 := hm.1
   have hm2 := hm.2
   have hlt : rkT m t < t.length := rkOf_lt (by omega)
   rw [h4, if_pos rfl] at key
   have hmB : inR .i64 (m - 1) := h1of (by simpa [inB, Md] using hm)
   have hno : elB (rkT m t) m u = false → D.tup [.lit (.slice none 0 0), dint 2] = ceRes m t u := fun e => by
     have h5 : elC1 m t u = 2 := by unfold elC1; rw [if_pos h4, e]; rfl
     rw [ceRes, h5, if_neg (by omega)]
   refine pure_of_vcR Tryz.tabOk mixOrd Tryz.func90 rfl rfl ?_
   conv => whnf
   repeat' first | ((first | refine z0 ?_ | refine Or.inr (inl_ofR Tryz.tabOk mixOrd _ Tryz.func272 rfl rfl ?_) | (apply zI; refine zP (key) ?_) | (refine And.intro (fun h => ?_) (fun h => ?_) <;> (try simp only [cnt1, ints_length] at h) <;> first | (exfalso; omega) | skip) | refine Or.inl ?_) <;> conv => whnf) | fail
   refine loop_peelV Tryz.tabOk mixOrd ?_
   conv => whnf
   repeat' first | ((first | refine z0 ?_ | (apply zI; refine zP (⟨_, rfl, rfl⟩) ?_) | (apply zI; refine zP (c_l01Numbers _ m u hmB (by omega)) ?_) | (refine And.intro (fun h => ?_) (fun h => ?_) <;> (try simp only [cnt1, ints_length] at h) <;> first | (exfalso; omega) | skip) | refine zS ?_ | refine zV ?_ | refine Alt.fst ?_ | refine Or.inl ?_) <;> conv => whnf) | fail
   · have hne : (u.length : Int) ≠ (rkT m t : Int) := by assumption
     exact hno (by simp [elB]; intro e; exfalso; omega)
   · have hul : u.length = rkT m t := by
       have : ¬ (u.length : Int) ≠ (rkT m t : Int) := by assumption
       omega
     have hun : numsB m u = true := by assumption
     have hyes : D.tup [SqD true true (rkT m t) (comp2N (rd m u) (rd2 m t) 0 (rkT m t)), dint 0] = ceRes m t u := by
       have h5 : elC1 m t u = 0 := by unfold elC1; rw [if_pos h4]; simp [elB, hul, hun]
       rw [ceRes, if_pos h5]
     have hlu : ints u = ints (L (rkT m t) (rd m u)) := by rw [← hul, L_rd (numsB_iff.1 hun)]
     refine loop_peelV Tryz.tabOk mixOrd ?_
     conv => whnf
     rw [hlu]
     have kp := c_l17Powers hm o p t.length (rkT m t) ⟨by omega, by omega, by omega⟩ (rd2 m t) (rfl : ((rkT m t : Nat) : Int) = rkT m t)
     simp only [PlD, plB_T hp] at kp
     generalize rkT m t = q at *
     generalize rd2 m t = f at *
     repeat' first | ((first | refine z0 ?_ | (apply zI; refine zP (kp) ?_) | (apply zI; refine zP (c_l17Element hm q vAr _ _ f _) ?_) | (apply zI; refine zP (sub_tbq vDA) ?_) | (refine And.intro (fun h => ?_) (fun h => ?_) <;> (try simp only [cnt1, ints_length] at h) <;> first | (exfalso; omega) | skip) | refine zS ?_ | refine zV ?_ | (apply zI; refine zP vObx ?_) | refine Alt.fst ?_ | refine Or.inl ?_) <;> conv => whnf) | fail
     exact hyes
   · have hun : numsB m u = false := by assumption
     exact hno (by simp [elB, hun])
 · have h5 : elC1 m t u = kC m t := by unfold elC1; rw [if_neg h4]
   rw [if_neg h4] at key
   refine pure_of_vcR Tryz.tabOk mixOrd Tryz.func90 rfl rfl ?_
   conv => whnf
   repeat' first | ((first | refine z0 ?_ | refine Or.inr (inl_ofR Tryz.tabOk mixOrd _ Tryz.func272 rfl rfl ?_) | (apply zI; refine zP (key) ?_) | (refine And.intro (fun h => ?_) (fun h => ?_) <;> (try simp only [cnt1, ints_length] at h) <;> first | (exfalso; omega) | skip) | refine Or.inl ?_) <;> conv => whnf) | fail
   rw [ceRes, h5, if_neg h4]
theorem c_specDualPower (o p o1 : Bool) (m : Int) (t : List (List Int)) (u : List Int) (e : Int) (he : -9223372036854775808 ≤ e ∧ e ≤ 9223372036854775807) (hl : t.length ≤ 1048576) (hr : lensOk t) (hu : u.length ≤ 1048576) :
   PureCall Tryz.prog 92 [.agg [dint m, .list o 1 (rows p t)], .list o1 1 (ints u), dint e] (dpRes m t u e) := by
 have key := c_l17Code o p m t hl hr
 by_cases h4 : kC m t = 0
 · obtain ⟨hk, hht, hq1, hq2⟩ := kC_0 h4
   obtain ⟨hb, hpr⟩ := htC_0 hht
   obtain ⟨hp, hlw⟩ := lawB_pl hb
   obtain ⟨hm, h2, h3, _⟩ := plB_md hp
   have hm1 := hm.1
   have hm2 := hm.2
   have hlt : rkT m t < t.length := rkOf_lt (by omega)
   rw [h4, if_pos rfl] at key
   have hmB : inR .i64 (m - 1) := h1of (by simpa [inB, Md] using hm)
   have hno : elB (rkT m t) m u = false → D.tup [.lit (.slice none 0 0), dint 2] = dpRes m t u e := fun hx => by
     have h5 : elCK m t u e = 2 := by unfold elCK elC1; rw [if_pos h4, hx]; rfl
     rw [dpRes, h5, if_neg (by omega)]
   refine pure_of_vcR Tryz.tabOk mixOrd Tryz.func92 rfl rfl ?_
   conv => whnf
   repeat' first | ((first | refine z0 ?_ | refine Or.inr (inl_ofR Tryz.tabOk mixOrd _ Tryz.func272 rfl rfl ?_) | (apply zI; refine zP (key) ?_) | (refine And.intro (fun h => ?_) (fun h => ?_) <;> (try simp only [cnt1, ints_length] at h) <;> first | (exfalso; omega) | skip) | refine Or.inl ?_) <;> conv => whnf) | fail
   refine loop_peelV Tryz.tabOk mixOrd ?_
   conv => whnf
   repeat' first | ((first | refine z0 ?_ | (apply zI; refine zP (⟨_, rfl, rfl⟩) ?_) | (apply zI; refine zP (c_l01Numbers _ m u hmB (by omega)) ?_) | (refine And.intro (fun h => ?_) (fun h => ?_) <;> (try simp only [cnt1, ints_length] at h) <;> first | (exfalso; omega) | skip) | refine zS ?_ | refine zV ?_ | refine Alt.fst ?_ | refine Or.inl ?_) <;> conv => whnf) | fail
   · have hne : (u.length : Int) ≠ (rkT m t : Int) := by assumption
     exact hno (by simp [elB]; intro _; exfalso; omega)
   · have hul : u.length = rkT m t := by
       have : ¬ (u.length : Int) ≠ (rkT m t : Int) := by assumption
       omega
     have hun : numsB m u = true := by assumption
     have h50 : elC1 m t u = 0 := by unfold elC1; rw [if_pos h4]; simp [elB, hul, hun]
     have hyes : inB e 1 100 = true → D.tup [LD true (rkT m t) (dpw (rd2 m t) (rd m u) (rkT m t) (e - 1).toNat), dint 0] = dpRes m t u e := fun hx => by
       rw [dpRes, if_pos (by unfold elCK; rw [if_pos h50, hx]; rfl)]
     have hbad : inB e 1 100 = false → D.tup [.lit (.slice none 0 0), dint 2] = dpRes m t u e := fun hx => by
       have h5 : elCK m t u e = 2 := by unfold elCK; rw [if_pos h50, hx]; rfl
       rw [dpRes, h5, if_neg (by omega)]
     have hlu : ints u = ints (L (rkT m t) (rd m u)) := by rw [← hul, L_rd (numsB_iff.1 hun)]
     refine loop_peelV Tryz.tabOk mixOrd ?_
     conv => whnf
     rw [hlu]
     have kp := c_l17Powers hm o p t.length (rkT m t) ⟨by omega, by omega, by omega⟩ (rd2 m t) (rfl : ((rkT m t : Nat) : Int) = rkT m t)
     simp only [PlD, plB_T hp] at kp
     generalize rkT m t = q at *
     generalize rd2 m t = f at *
     repeat' first | ((first | refine z0 ?_ | (apply zI; refine zP (kp) ?_) | (apply zI; refine zP (c_l01In _ _ _) ?_) | (apply zI; refine zP (c_l01Own _ (L q (rd m u)) (by rw [L_length]; omega)) ?_) | (refine And.intro (fun h => ?_) (fun h => ?_) <;> (try simp only [cnt1, ints_length] at h) <;> first | (exfalso; omega) | skip) | refine Or.inl ?_) <;> conv => whnf) | fail
     · have hx : inB e 1 100 = true := by assumption
       have hx2 : 1 ≤ e ∧ e ≤ 100 := by simpa [inB] using hx
       refine loop_atR Tryz.tabOk mixOrd (α := Nat) (fun i => [(2, dint (e - i)), (11, .ref 8 [] 1 0 q), (33, .undef)]) (fun i => [(8, some ⟨false, 1, ints (L q (dpw f (rd m u) q i))⟩)]) (fun i => (i : Int) + 1 ≤ e) (fun i => (e - 1).toNat - i) (0) ?_ ?_ ?_
       · omega
       · conv => whnf
         first | refine WeakS.autoR ?_ | refine Weak.autoR ?_
         conv => whnf
         repeat' ((first | refine z1 ?_ | refine z2 ?_ | refine zV ?_ | exact trivial) <;> try (conv => whnf))
         all_goals first
           | (rw [cnt1, ints_length, L_length]; done)
           | rfl
           | skip
       intro i hi
       conv => whnf
       repeat' first | ((first | refine z0 ?_ | (apply zI; refine zP (c_l17Dual hm q vAr _ _ _ f (dpw f (rd m u) q i) (rd m u)) ?_) | (apply zI; refine zP (sub_tbq vDA) ?_) | (refine And.intro (fun h => ?_) (fun h => ?_) <;> (try simp only [cnt1, ints_length] at h)) | refine zV ?_ | (apply zI; refine zP vObx ?_) | refine Or.inl ?_) <;> conv => whnf) | fail
       · refine Exists.intro (i + 1) (And.intro vDA (And.intro vDA ?_))
         first | refine WeakS.autoR ?_ | refine Weak.autoR ?_
         conv => whnf
         repeat' ((first | refine z1 ?_ | refine z2 ?_ | refine zV ?_ | exact trivial) <;> try (conv => whnf))
         all_goals first
           | (rw [cnt1, ints_length, L_length]; done)
           | rfl
           | skip
       · rw [← hyes hx, show (e - 1).toNat = i by omega]
     · exact hbad (by assumption)
     · exfalso
       first | omega | (simp_all; done) | (simp_all; omega)
   · have hun : numsB m u = false := by assumption
     exact hno (by simp [elB, hun])
 · have h5 : elCK m t u e = kC m t := by unfold elCK elC1; rw [if_neg h4, if_neg h4]
   rw [if_neg h4] at key
   refine pure_of_vcR Tryz.tabOk mixOrd Tryz.func92 rfl rfl ?_
   conv => whnf
   repeat' first | ((first | refine z0 ?_ | refine Or.inr (inl_ofR Tryz.tabOk mixOrd _ Tryz.func272 rfl rfl ?_) | (apply zI; refine zP (key) ?_) | (refine And.intro (fun h => ?_) (fun h => ?_) <;> (try simp only [cnt1, ints_length] at h) <;> first | (exfalso; omega) | skip) | refine Or.inl ?_) <;> conv => whnf) | fail
   rw [dpRes, h5, if_neg h4]
end Go.Proofs
namespace Go.Proofs
open Go Go.Vm Go.Fg Go.Fg.PS
set_option maxRecDepth 100000
set_option maxHeartbeats 4000000
set_option linter.unusedSimpArgs false
set_option linter.unusedVariables false
variable {m : Int}
theorem c_rows5S (o p o' p' : Bool) (t : List (List Int)) (hl : t.length ≤ 1048576) (hr : lensOk t) : PureCall Tryz.prog 93 [.list o 1 (rows p t), .list o' 1 (rows p' t)] (dbool true) := by
 refine pure_of_vcR Tryz.tabOk mixOrd Tryz.func93 rfl rfl ?_
 conv => whnf
 repeat' first | ((first | refine z0 ?_ | (refine And.intro (fun h => ?_) (fun h => ?_) <;> (try simp only [cnt1, ints_length, rows_length, Tb_length, L_length, byts_length] at h) <;> first | (exfalso; first | omega | exact h trivial | (cases h; done)) | skip) | refine zV ?_ | (apply zI; refine zP vObt ?_) | (apply zI; refine zP vObx ?_)) <;> conv => whnf) | fail
 refine loop_atR Tryz.tabOk mixOrd (α := Nat) (fun i => [(5, dint i)]) (fun i => []) (fun i => i ≤ t.length) (fun i => t.length - i) (0) ?_ ?_ ?_
 · omega
 · conv => whnf
   first | refine WeakS.autoR ?_ | refine Weak.autoR ?_
   conv => whnf
   repeat' ((first | refine z1 ?_ | refine z2 ?_ | refine zV ?_ | exact trivial) <;> try (conv => whnf))
 intro i hi
 conv => whnf
 by_cases hin : i < t.length
 · have hli := hr i hin
   have hc := c_likeInts p p' (t.getD i []) (t.getD i []) (by omega) (by omega)
   rw [show decide (t.getD i [] = t.getD i []) = true by simp] at hc
   repeat' first | ((first | (apply zI; refine zP (hc) ?_) | (refine And.intro (fun h => ?_) (fun h => ?_) <;> (try simp only [cnt1, ints_length, rows_length, Tb_length, L_length, byts_length] at h) <;> first | (exfalso; first | omega | exact h trivial | (cases h; done)) | skip) | refine zS ?_ | refine zV ?_ | (apply zI; refine zP vObx ?_) | refine Alt.fst ?_ | refine Or.inl ?_) <;> conv => whnf) | fail
   · refine Exists.intro (i + 1) ⟨?_, ?_, ?_⟩
     · omega
     · omega
     first | refine WeakS.autoR ?_ | refine Weak.autoR ?_
     conv => whnf
     repeat' ((first | refine z1 ?_ | refine z2 ?_ | refine zV ?_ | exact trivial) <;> try (conv => whnf))
   all_goals (exfalso; simp_all; done)
 · repeat' first | ((first | refine z0 ?_ | (refine And.intro (fun h => ?_) (fun h => ?_) <;> (try simp only [cnt1, ints_length, rows_length, Tb_length, L_length, byts_length] at h) <;> first | (exfalso; first | omega | exact h trivial | (cases h; done)) | skip) | refine zV ?_ | (apply zI; refine zP vObt ?_) | (apply zI; refine zP vObx ?_)) <;> conv => whnf) | fail
   all_goals first | rfl
theorem c_rows5N : PureCall Tryz.prog 93 [.lit (.slice none 0 0), .lit (.slice none 0 0)] (dbool true) := by
 refine pure_of_vcR Tryz.tabOk mixOrd Tryz.func93 rfl rfl ?_
 conv => whnf
 repeat' first | ((first | refine z0 ?_ | (refine And.intro (fun h => ?_) (fun h => ?_) <;> (try simp only [cnt1, ints_length, rows_length, Tb_length, L_length, byts_length] at h) <;> first | (exfalso; first | omega | exact h trivial | (cases h; done)) | skip) | refine zV ?_ | (apply zI; refine zP vObt ?_) | (apply zI; refine zP vObx ?_)) <;> conv => whnf) | fail
 refine loop_atR Tryz.tabOk mixOrd (α := Nat) (fun i => [(5, dint i)]) (fun i => []) (fun i => i ≤ 0) (fun i => 0) (0) ?_ ?_ ?_
 · omega
 · conv => whnf
   first | refine WeakS.autoR ?_ | refine Weak.autoR ?_
   conv => whnf
   repeat' ((first | refine z1 ?_ | refine z2 ?_ | refine zV ?_ | exact trivial) <;> try (conv => whnf))
 intro i hi
 conv => whnf
 repeat' first | ((first | refine z0 ?_ | (refine And.intro (fun h => ?_) (fun h => ?_) <;> (try simp only [cnt1, ints_length, rows_length, Tb_length, L_length, byts_length] at h) <;> first | (exfalso; first | omega | exact h trivial | (cases h; done)) | skip) | refine zV ?_ | (apply zI; refine zP vObt ?_) | (apply zI; refine zP vObx ?_)) <;> conv => whnf) | fail
end Go.Proofs
