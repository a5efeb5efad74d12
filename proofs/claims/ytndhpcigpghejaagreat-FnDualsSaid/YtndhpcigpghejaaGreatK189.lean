import Derived.Test.YtndhpcigpghejaaGreatK188
import Derived.Test.YtndhpcigpghejaaGreatK34
import Derived.Test.YtndhpcigpghejaaGreatK45
import Derived.Test.YtndhpcigpghejaaGreatK36
namespace Go.Proofs
open Go Go.Vm Go.Fg Go.Fg.PS
set_option maxRecDepth 100000
set_option maxHeartbeats 8000000
set_option linter.unusedSimpArgs false
set_option linter.unusedVariables false
variable {m : Int}
theorem fz_ro {r off n : Nat} {t t' : List (List Int)} (h1 : off + n ≤ t.length) (h2 : (t.drop off).take n = t') : Fz r (rows true t) (.ref r [] 1 off n) (.list false 1 (rows false t')) :=
 .ref _ _ _ _ (by rw [Nat.mul_one, Nat.mul_one, rows_length]; exact h1) (by rw [sub_rowsT, rows_frz1, h2])
theorem c_l17Some (hW : Wei) (o : Bool) (l : List Nat) (hb : ∀ b ∈ l, b < 256) (hl : l.length ≤ 4611686018427387904) (n : Nat) (hn : n ≤ 2) :
   CallsTo Tryz.prog 269 1 [.list o 1 (byts l), dint (n : Int)] [none]
     (fun d rt => ∃ (m : Int) (t us : List (List Int)), ((1 ≤ m ∧ m ≤ 10001) ∧ smT t) ∧ us.length = n ∧ (∀ y ∈ us, y.length ≤ 12) ∧ d = .tup [plF m t, .list false 1 (rows false us)] ∧ rt = [none]) := by
 refine callsTo_of Tryz.tabOk mixOrd 1 _ Tryz.func269 rfl rfl ?_
 conv => whnf
 repeat' first | (refine borA [] (c_l01From o l hb hl) (fun d rt' hd => ?_)) | fail
 obtain ⟨h0, rfl, rfl⟩ := hd
 refine ⟨rfl, by simp, ?_⟩
 conv => whnf
 have ha0 : 0 ≤ l.length := by omega
 repeat' first | (refine borA [2] (c_l17Draw hW o l hb hl 0 (by omega) h0) (fun d rt' hd => ?_)) | fail
 obtain ⟨m, t, a1, h1, hm, ht, ha1, rfl, rfl⟩ := hd
 refine ⟨rfl, by simp, ?_⟩
 conv => whnf
 have s1 := smT_lens ht
 have hkc := fun o p => c_l17Code o p m t s1.1 s1.2
 by_cases hk : kC m t = 0
 · obtain ⟨k1, k2, k3, k4⟩ := kC_0 hk
   have hq2 := rkT_ge2 k1 k2
   have hq3 : rkT m t ≤ 6 := by have := ht.1; omega
   rw [if_pos hk, hk] at hkc
   generalize rkT m t = qn at *
   obtain ⟨q, hq⟩ : ∃ q : Int, q = (qn : Int) := ⟨_, rfl⟩
   rw [← hq] at hkc
   repeat' first | ((first | (apply zI; refine zP (hkc _ _) ?_) | (refine And.intro (fun h => ?_) (fun h => ?_) <;> (try simp only [cnt1, ints_length, rows_length, Tb_length, L_length, byts_length] at h) <;> first | (exfalso; first | omega | exact h trivial | (cases h; done)) | skip) | refine Or.inl ?_) <;> conv => whnf) | fail
   refine loop_atR Tryz.tabOk mixOrd (α := List (List Int) × Nat × Int) (fun u => [(1, dint ((n : Int) - u.1.length)), (8, .ref 3 [] 1 0 u.1.length), (11, .undef), (16, .undef)]) (fun u => [(2, some (srcR o l u.2.1 u.2.2)), (3, some ⟨false, 1, rows true u.1⟩)]) (fun u => u.1.length ≤ n ∧ u.2.1 ≤ l.length ∧ ∀ y ∈ u.1, y.length ≤ 12) (fun u => n - u.1.length) (([], a1, h1)) ?_ ?_ ?_
   · exact ⟨by simp, ha1, by simp⟩
   · conv => whnf
     first | refine WeakS.autoR ?_ | refine Weak.autoR ?_
     conv => whnf
     repeat' ((first | refine z1 ?_ | refine z2 ?_ | refine zV ?_ | exact trivial) <;> try (conv => whnf))
     all_goals first | (simp; done)
   intro u hu
   obtain ⟨us, aa, hh⟩ := u
   obtain ⟨hu1, haa, hus⟩ := hu
   simp only at hu1 haa hus
   conv => whnf
   by_cases hlt : us.length < n
   · repeat' first | (refine borA [2] (c_l01List o l hb hl aa haa hh m (by omega) q (by omega)) (fun d rt' hd => ?_)) | ((first | (refine And.intro (fun h => ?_) (fun h => ?_) <;> (try simp only [cnt1, ints_length, rows_length, Tb_length, L_length, byts_length] at h) <;> first | (exfalso; first | omega | exact h trivial | (cases h; done)) | skip)) <;> conv => whnf) | fail
     obtain ⟨vs, a2, h2, hv, ha2, rfl, rfl⟩ := hd
     refine ⟨rfl, by simp, ?_⟩
     conv => whnf
     repeat' first | (refine borA [2] (c_l01Next o l hb hl a2 ha2 h2 30) (fun d rt' hd => ?_)) | fail
     obtain ⟨x, a3, h3, hx, ha3, rfl, rfl⟩ := hd
     refine ⟨rfl, by simp, ?_⟩
     conv => whnf
     have hx2 := hx.2 (by omega)
     by_cases hx0 : x = 0
     · subst hx0
       repeat' first | ((first | (refine And.intro (fun h => ?_) (fun h => ?_) <;> (try simp only [cnt1, ints_length, rows_length, Tb_length, L_length, byts_length] at h) <;> first | (exfalso; first | omega | exact h trivial | (cases h; done)) | skip) | refine zV ?_ | (apply zI; refine zP vObt ?_) | (apply zI; refine zP vObx ?_)) <;> conv => whnf) | fail
       refine Exists.intro (us ++ [(vs ++ [0])], a3, h3) ⟨⟨?_, ?_, ?_⟩, ?_, ?_⟩
       · simp only [List.length_append, List.length_singleton]; omega
       · exact ha3
       · intro y hy
         rcases List.mem_append.1 hy with hy | hy
         · exact hus y hy
         · simp only [List.mem_singleton] at hy
           subst hy
           (try simp only [List.length_append, List.length_singleton, List.length_set]); omega
       · simp only [List.length_append, List.length_singleton]; omega
       first | refine WeakS.autoR ?_ | refine Weak.autoR ?_
       conv => whnf
       repeat' ((first | refine z1 ?_ | refine z2 ?_ | refine zV ?_ | exact trivial) <;> try (conv => whnf))
       all_goals first | (simp [rows]; done) | (simp; omega)
     · by_cases hx1 : x = 1
       · subst hx1
         repeat' first | (refine borA [2] (c_l01Number o l hb hl a3 ha3 h3 m (by omega)) (fun d rt' hd => ?_)) | ((first | (refine And.intro (fun h => ?_) (fun h => ?_) <;> (try simp only [cnt1, ints_length, rows_length, Tb_length, L_length, byts_length] at h) <;> first | (exfalso; first | omega | exact h trivial | (cases h; done)) | skip)) <;> conv => whnf) | fail
         obtain ⟨y, a4, h4, hy, ha4, rfl, rfl⟩ := hd
         refine ⟨rfl, by simp, ?_⟩
         conv => whnf
         repeat' first | ((first | (refine And.intro (fun h => ?_) (fun h => ?_) <;> (try simp only [cnt1, ints_length, rows_length, Tb_length, L_length, byts_length] at h) <;> first | (exfalso; first | omega | exact h trivial | (cases h; done)) | skip) | refine zV ?_ | (apply zI; refine zP vObt ?_) | (apply zI; refine zP vObx ?_)) <;> conv => whnf) | fail
         refine Exists.intro (us ++ [(vs.set 0 y)], a4, h4) ⟨⟨?_, ?_, ?_⟩, ?_, ?_⟩
         · simp only [List.length_append, List.length_singleton]; omega
         · exact ha4
         · intro y hy
           rcases List.mem_append.1 hy with hy | hy
           · exact hus y hy
           · simp only [List.mem_singleton] at hy
             subst hy
             (try simp only [List.length_append, List.length_singleton, List.length_set]); omega
         · simp only [List.length_append, List.length_singleton]; omega
         first | refine WeakS.autoR ?_ | refine Weak.autoR ?_
         conv => whnf
         repeat' ((first | refine z1 ?_ | refine z2 ?_ | refine zV ?_ | exact trivial) <;> try (conv => whnf))
         all_goals first | (simp [rows]; done) | (simp; omega)
       · repeat' first | ((first | (refine And.intro (fun h => ?_) (fun h => ?_) <;> (try simp only [cnt1, ints_length, rows_length, Tb_length, L_length, byts_length] at h) <;> first | (exfalso; first | omega | exact h trivial | (cases h; done)) | skip) | refine zV ?_ | (apply zI; refine zP vObt ?_) | (apply zI; refine zP vObx ?_)) <;> conv => whnf) | fail
         refine Exists.intro (us ++ [vs], a3, h3) ⟨⟨?_, ?_, ?_⟩, ?_, ?_⟩
         · simp only [List.length_append, List.length_singleton]; omega
         · exact ha3
         · intro y hy
           rcases List.mem_append.1 hy with hy | hy
           · exact hus y hy
           · simp only [List.mem_singleton] at hy
             subst hy
             (try simp only [List.length_append, List.length_singleton, List.length_set]); omega
         · simp only [List.length_append, List.length_singleton]; omega
         first | refine WeakS.autoR ?_ | refine Weak.autoR ?_
         conv => whnf
         repeat' ((first | refine z1 ?_ | refine z2 ?_ | refine zV ?_ | exact trivial) <;> try (conv => whnf))
         all_goals first | (simp [rows]; done) | (simp; omega)
   · repeat' first | ((first | refine z0 ?_ | refine And.intro (show (_ : List (Option Root))[_]? = _ from rfl) ?_ | (refine And.intro (fun h => ?_) (fun h => ?_) <;> (try simp only [cnt1, ints_length, rows_length, Tb_length, L_length, byts_length] at h) <;> first | (exfalso; first | omega | exact h trivial | (cases h; done)) | skip) | refine zS ?_ | refine zV ?_ | (apply zI; refine zP vObt ?_) | (apply zI; refine zP vObx ?_)) <;> conv => whnf) | fail
     first
       | (refine ⟨.tup [plF m t, .list false 1 (rows false us)], [none], ⟨m, t, us, ⟨hm, ht⟩, by omega, hus, rfl, rfl⟩, Weak.trans (Weak.freezeR (kp := 1) (r := 3) (s0 := 1) (env' := [.tup [plF m t, .list false 1 (rows false us)]]) rfl rfl (fz_one (fz_tup2 (.rfl _) (fz_ro (t := us) (by simp) (by simp))))) (wkA (kp := 1) [none])⟩)
 · rw [if_neg hk] at hkc
   generalize kC m t = c at *
   obtain ⟨q, hq⟩ : ∃ q : Int, q = (2 : Int) := ⟨_, rfl⟩
   repeat' first | ((first | (apply zI; refine zP (hkc _ _) ?_) | (refine And.intro (fun h => ?_) (fun h => ?_) <;> (try simp only [cnt1, ints_length, rows_length, Tb_length, L_length, byts_length] at h) <;> first | (exfalso; first | omega | exact h trivial | (cases h; done)) | skip) | refine Or.inl ?_) <;> conv => whnf) | fail
   rw [← hq]
   refine loop_atR Tryz.tabOk mixOrd (α := List (List Int) × Nat × Int) (fun u => [(1, dint ((n : Int) - u.1.length)), (8, .ref 3 [] 1 0 u.1.length), (11, .undef), (16, .undef)]) (fun u => [(2, some (srcR o l u.2.1 u.2.2)), (3, some ⟨false, 1, rows true u.1⟩)]) (fun u => u.1.length ≤ n ∧ u.2.1 ≤ l.length ∧ ∀ y ∈ u.1, y.length ≤ 12) (fun u => n - u.1.length) (([], a1, h1)) ?_ ?_ ?_
   · exact ⟨by simp, ha1, by simp⟩
   · conv => whnf
     first | refine WeakS.autoR ?_ | refine Weak.autoR ?_
     conv => whnf
     repeat' ((first | refine z1 ?_ | refine z2 ?_ | refine zV ?_ | exact trivial) <;> try (conv => whnf))
     all_goals first | (simp; done)
   intro u hu
   obtain ⟨us, aa, hh⟩ := u
   obtain ⟨hu1, haa, hus⟩ := hu
   simp only at hu1 haa hus
   conv => whnf
   by_cases hlt : us.length < n
   · repeat' first | (refine borA [2] (c_l01List o l hb hl aa haa hh m (by omega) q (by omega)) (fun d rt' hd => ?_)) | ((first | (refine And.intro (fun h => ?_) (fun h => ?_) <;> (try simp only [cnt1, ints_length, rows_length, Tb_length, L_length, byts_length] at h) <;> first | (exfalso; first | omega | exact h trivial | (cases h; done)) | skip)) <;> conv => whnf) | fail
     obtain ⟨vs, a2, h2, hv, ha2, rfl, rfl⟩ := hd
     refine ⟨rfl, by simp, ?_⟩
     conv => whnf
     repeat' first | (refine borA [2] (c_l01Next o l hb hl a2 ha2 h2 30) (fun d rt' hd => ?_)) | fail
     obtain ⟨x, a3, h3, hx, ha3, rfl, rfl⟩ := hd
     refine ⟨rfl, by simp, ?_⟩
     conv => whnf
     have hx2 := hx.2 (by omega)
     by_cases hx0 : x = 0
     · subst hx0
       repeat' first | ((first | (refine And.intro (fun h => ?_) (fun h => ?_) <;> (try simp only [cnt1, ints_length, rows_length, Tb_length, L_length, byts_length] at h) <;> first | (exfalso; first | omega | exact h trivial | (cases h; done)) | skip) | refine zV ?_ | (apply zI; refine zP vObt ?_) | (apply zI; refine zP vObx ?_)) <;> conv => whnf) | fail
       refine Exists.intro (us ++ [(vs ++ [0])], a3, h3) ⟨⟨?_, ?_, ?_⟩, ?_, ?_⟩
       · simp only [List.length_append, List.length_singleton]; omega
       · exact ha3
       · intro y hy
         rcases List.mem_append.1 hy with hy | hy
         · exact hus y hy
         · simp only [List.mem_singleton] at hy
           subst hy
           (try simp only [List.length_append, List.length_singleton, List.length_set]); omega
       · simp only [List.length_append, List.length_singleton]; omega
       first | refine WeakS.autoR ?_ | refine Weak.autoR ?_
       conv => whnf
       repeat' ((first | refine z1 ?_ | refine z2 ?_ | refine zV ?_ | exact trivial) <;> try (conv => whnf))
       all_goals first | (simp [rows]; done) | (simp; omega)
     · by_cases hx1 : x = 1
       · subst hx1
         repeat' first | (refine borA [2] (c_l01Number o l hb hl a3 ha3 h3 m (by omega)) (fun d rt' hd => ?_)) | ((first | (refine And.intro (fun h => ?_) (fun h => ?_) <;> (try simp only [cnt1, ints_length, rows_length, Tb_length, L_length, byts_length] at h) <;> first | (exfalso; first | omega | exact h trivial | (cases h; done)) | skip)) <;> conv => whnf) | fail
         obtain ⟨y, a4, h4, hy, ha4, rfl, rfl⟩ := hd
         refine ⟨rfl, by simp, ?_⟩
         conv => whnf
         repeat' first | ((first | (refine And.intro (fun h => ?_) (fun h => ?_) <;> (try simp only [cnt1, ints_length, rows_length, Tb_length, L_length, byts_length] at h) <;> first | (exfalso; first | omega | exact h trivial | (cases h; done)) | skip) | refine zV ?_ | (apply zI; refine zP vObt ?_) | (apply zI; refine zP vObx ?_)) <;> conv => whnf) | fail
         refine Exists.intro (us ++ [(vs.set 0 y)], a4, h4) ⟨⟨?_, ?_, ?_⟩, ?_, ?_⟩
         · simp only [List.length_append, List.length_singleton]; omega
         · exact ha4
         · intro y hy
           rcases List.mem_append.1 hy with hy | hy
           · exact hus y hy
           · simp only [List.mem_singleton] at hy
             subst hy
             (try simp only [List.length_append, List.length_singleton, List.length_set]); omega
         · simp only [List.length_append, List.length_singleton]; omega
         first | refine WeakS.autoR ?_ | refine Weak.autoR ?_
         conv => whnf
         repeat' ((first | refine z1 ?_ | refine z2 ?_ | refine zV ?_ | exact trivial) <;> try (conv => whnf))
         all_goals first | (simp [rows]; done) | (simp; omega)
       · repeat' first | ((first | (refine And.intro (fun h => ?_) (fun h => ?_) <;> (try simp only [cnt1, ints_length, rows_length, Tb_length, L_length, byts_length] at h) <;> first | (exfalso; first | omega | exact h trivial | (cases h; done)) | skip) | refine zV ?_ | (apply zI; refine zP vObt ?_) | (apply zI; refine zP vObx ?_)) <;> conv => whnf) | fail
         refine Exists.intro (us ++ [vs], a3, h3) ⟨⟨?_, ?_, ?_⟩, ?_, ?_⟩
         · simp only [List.length_append, List.length_singleton]; omega
         · exact ha3
         · intro y hy
           rcases List.mem_append.1 hy with hy | hy
           · exact hus y hy
           · simp only [List.mem_singleton] at hy
             subst hy
             (try simp only [List.length_append, List.length_singleton, List.length_set]); omega
         · simp only [List.length_append, List.length_singleton]; omega
         first | refine WeakS.autoR ?_ | refine Weak.autoR ?_
         conv => whnf
         repeat' ((first | refine z1 ?_ | refine z2 ?_ | refine zV ?_ | exact trivial) <;> try (conv => whnf))
         all_goals first | (simp [rows]; done) | (simp; omega)
   · repeat' first | ((first | refine z0 ?_ | refine And.intro (show (_ : List (Option Root))[_]? = _ from rfl) ?_ | (refine And.intro (fun h => ?_) (fun h => ?_) <;> (try simp only [cnt1, ints_length, rows_length, Tb_length, L_length, byts_length] at h) <;> first | (exfalso; first | omega | exact h trivial | (cases h; done)) | skip) | refine zS ?_ | refine zV ?_ | (apply zI; refine zP vObt ?_) | (apply zI; refine zP vObx ?_)) <;> conv => whnf) | fail
     first
       | (refine ⟨.tup [plF m t, .list false 1 (rows false us)], [none], ⟨m, t, us, ⟨hm, ht⟩, by omega, hus, rfl, rfl⟩, Weak.trans (Weak.freezeR (kp := 1) (r := 3) (s0 := 1) (env' := [.tup [plF m t, .list false 1 (rows false us)]]) rfl rfl (fz_one (fz_tup2 (.rfl _) (fz_ro (t := us) (by simp) (by simp))))) (wkA (kp := 1) [none])⟩)
end Go.Proofs
