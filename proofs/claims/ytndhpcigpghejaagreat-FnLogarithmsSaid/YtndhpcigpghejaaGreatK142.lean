import Derived.Test.YtndhpcigpghejaaGreatK31
import Derived.Test.YtndhpcigpghejaaGreatK135C
import Derived.Test.YtndhpcigpghejaaGreatK138
import Derived.Test.YtndhpcigpghejaaGreatK154
namespace Go.Proofs
open Go Go.Vm Go.Fg Go.Fg.PS
set_option maxRecDepth 100000
set_option maxHeartbeats 4000000
set_option linter.unusedSimpArgs false
set_option linter.unusedVariables false
variable {m : Int}
theorem c_l04Curves1 (hW : Wei) (o : Bool) (l : List Nat) (hb : ∀ b ∈ l, b < 256) (hl : l.length ≤ 4611686018427387904) :
   CallsTo Tryz.prog 232 1 [.list o 1 (byts l), dint 1] [none]
     (fun d rt => ∃ (m : Int) (t : List (List Int)) (ma : Int) (la : List Int), ((1 ≤ m ∧ m ≤ 10001) ∧ smT t) ∧ la.length ≤ 12 ∧ d = .tup [plF m t, .list false 2 [dint ma, .list false 1 (ints la)]] ∧ rt = [none]) := by
 refine callsTo_of Tryz.tabOk mixOrd 1 _ Tryz.func232 rfl rfl ?_
 conv => whnf
 repeat' first | (refine borA [] (c_l01From o l hb hl) (fun d rt' hd => ?_)) | ((first | refine z0 ?_ | (refine And.intro (fun h => ?_) (fun h => ?_) <;> (try simp only [cnt1, ints_length] at h)) | refine zS ?_ | refine zV ?_ | (apply zI; refine zP vObt ?_) | (apply zI; refine zP vObx ?_) | refine zA ?_ | refine Alt.fst ?_ | refine Or.inl ?_) <;> conv => whnf) | fail
 obtain ⟨h0, rfl, rfl⟩ := hd
 refine ⟨rfl, by simp, ?_⟩
 conv => whnf
 repeat' first | (refine borA [2] (c_l04Spoil hW o l hb hl 0 (by omega) h0) (fun d rt' hd => ?_)) | ((first | refine z0 ?_ | (refine And.intro (fun h => ?_) (fun h => ?_) <;> (try simp only [cnt1, ints_length] at h)) | refine zS ?_ | refine zV ?_ | (apply zI; refine zP vObt ?_) | (apply zI; refine zP vObx ?_) | refine zA ?_ | refine Alt.fst ?_ | refine Or.inl ?_) <;> conv => whnf) | fail
 obtain ⟨m, t, a1, h1, hm, ht, ha1, rfl, rfl⟩ := hd
 refine ⟨rfl, by simp, ?_⟩
 conv => whnf
 repeat' first | ((first | refine z0 ?_ | (refine And.intro (fun h => ?_) (fun h => ?_) <;> (try simp only [cnt1, ints_length] at h)) | refine zS ?_ | refine zV ?_ | (apply zI; refine zP vObt ?_) | (apply zI; refine zP vObx ?_) | refine zA ?_ | refine Alt.fst ?_ | refine Or.inl ?_) <;> conv => whnf) | fail
 refine loop_peelV Tryz.tabOk mixOrd ?_
 conv => whnf
 repeat' first | ((first | refine z0 ?_ | (refine And.intro (fun h => ?_) (fun h => ?_) <;> (try simp only [cnt1, ints_length, rows_length, Tb_length, L_length, byts_length] at h) <;> first | (exfalso; first | omega | exact h trivial | (cases h; done)) | skip) | refine zS ?_ | refine zV ?_ | (apply zI; refine zP vObt ?_) | (apply zI; refine zP vObx ?_) | refine zA ?_ | refine Alt.fst ?_ | refine Or.inl ?_) <;> conv => whnf) | fail
 refine loop_atR Tryz.tabOk mixOrd (α := List Int × Nat × Int) (fun u => [(10, dint u.1.length), (22, .undef), (23, .undef)]) (fun u => [(2, some (srcR o l u.2.1 u.2.2)), (5, some ⟨false, 1, ints u.1⟩), (6, some ⟨true, 1, [dint m, .ref 5 [] 1 0 u.1.length]⟩)]) (fun u => 1 ≤ u.1.length ∧ u.1.length ≤ 11 ∧ u.2.1 ≤ l.length) (fun u => 11 - u.1.length) (([0], a1, h1)) ?_ ?_ ?_
 · exact ⟨by simp, by simp, ha1⟩
 · conv => whnf
   first | refine WeakS.autoR ?_ | refine Weak.autoR ?_
   conv => whnf
   repeat' ((first | refine z1 ?_ | refine z2 ?_ | refine zV ?_ | refine And.intro vRepl ?_ | refine And.intro vReplL ?_ | refine And.intro ?_ ?_ | exact trivial) <;> try (conv => whnf))
 intro u hu
 obtain ⟨us, a0, h0⟩ := u
 obtain ⟨hu1, hu2, ha0⟩ := hu
 simp only at hu1 hu2 ha0
 conv => whnf
 have htl := ht.1
 by_cases hlt : us.length < t.length
 · repeat' first | (refine borA [2] (c_l01Next o l hb hl a0 ha0 h0 (max 1 m)) (fun d rt' hd => ?_)) | ((first | refine z0 ?_ | refine Alt.snd (And.intro (show mixOk _ _ = true by decide +kernel) ?_) | refine And.intro (show (_ : List (Option Root))[_]? = _ from rfl) ?_ | (refine And.intro (fun h => ?_) (fun h => ?_) <;> (try simp only [cnt1, ints_length, rows_length, Tb_length, L_length, byts_length] at h) <;> first | (exfalso; first | omega | exact h trivial | (cases h; done)) | skip) | refine zS ?_ | refine zV ?_ | (apply zI; refine zP vObt ?_) | (apply zI; refine zP vObx ?_) | refine zA ?_ | refine Alt.fst ?_ | refine Or.inl ?_) <;> conv => whnf) | fail
   obtain ⟨x, a2, h2, hx, ha2, rfl, rfl⟩ := hd
   refine ⟨rfl, by simp, ?_⟩
   conv => whnf
   repeat' first | ((first | refine z0 ?_ | refine Alt.snd (And.intro (show mixOk _ _ = true by decide +kernel) ?_) | refine And.intro (show (_ : List (Option Root))[_]? = _ from rfl) ?_ | (refine And.intro (fun h => ?_) (fun h => ?_) <;> (try simp only [cnt1, ints_length, rows_length, Tb_length, L_length, byts_length] at h) <;> first | (exfalso; first | omega | exact h trivial | (cases h; done)) | skip) | refine zS ?_ | refine zV ?_ | (apply zI; refine zP vObt ?_) | (apply zI; refine zP vObx ?_) | refine zA ?_ | refine Alt.fst ?_ | refine Or.inl ?_) <;> conv => whnf) | fail
   refine Exists.intro (us ++ [x], a2, h2) (And.intro ⟨by simp only [List.length_append, List.length_singleton]; omega, by simp only [List.length_append, List.length_singleton]; omega, ha2⟩ (And.intro (by simp only [List.length_append, List.length_singleton]; omega) ?_))
   first | refine WeakS.autoR ?_ | refine Weak.autoR ?_
   conv => whnf
   repeat' ((first | refine z1 ?_ | refine z2 ?_ | refine zV ?_ | refine And.intro vRepl ?_ | refine And.intro vReplL ?_ | refine And.intro ?_ ?_ | exact trivial) <;> try (conv => whnf))
   all_goals first | (simp [ints]; done)
 · repeat' first | (refine borA [2] (c_l01Next o l hb hl a0 ha0 h0 40) (fun d rt' hd => ?_)) | ((first | refine z0 ?_ | (refine And.intro (fun h => ?_) (fun h => ?_) <;> (try simp only [cnt1, ints_length, rows_length, Tb_length, L_length, byts_length] at h) <;> first | (exfalso; first | omega | exact h trivial | (cases h; done)) | skip) | refine zS ?_ | refine zV ?_ | (apply zI; refine zP vObt ?_) | (apply zI; refine zP vObx ?_) | refine zA ?_ | refine Alt.fst ?_ | refine Or.inl ?_) <;> conv => whnf) | fail
   obtain ⟨x, a2, h2, hx, ha2, rfl, rfl⟩ := hd
   refine ⟨rfl, by simp, ?_⟩
   conv => whnf
   have hx2 := hx.2 (by omega)
   repeat' first | ((first | refine z0 ?_ | (refine And.intro (fun h => ?_) (fun h => ?_) <;> (try simp only [cnt1, ints_length, rows_length, Tb_length, L_length, byts_length] at h) <;> first | (exfalso; first | omega | exact h trivial | (cases h; done)) | skip) | refine zS ?_ | refine zV ?_ | (apply zI; refine zP vObt ?_) | (apply zI; refine zP vObx ?_) | refine zA ?_ | refine And.intro (pls_one _ _) ?_ | refine And.intro (vRoom32 (by omega)) ?_ | refine Alt.fst ?_ | refine Or.inl ?_) <;> conv => whnf) | fail
   all_goals refine loop_peelV Tryz.tabOk mixOrd ?_
   all_goals conv => whnf
   repeat' first | ((first | refine z0 ?_ | (refine And.intro (fun h => ?_) (fun h => ?_) <;> (try simp only [cnt1, ints_length, rows_length, Tb_length, L_length, byts_length] at h) <;> first | (exfalso; first | omega | exact h trivial | (cases h; done)) | skip) | refine zS ?_ | refine zV ?_ | (apply zI; refine zP vObt ?_) | (apply zI; refine zP vObx ?_) | refine zA ?_ | refine Alt.fst ?_ | refine Or.inl ?_) <;> conv => whnf) | fail
   · refine ⟨.tup [plF m t, .list false 2 [dint (m), .list false 1 (ints (us.set 0 1))]], [none], ⟨m, t, m, (us.set 0 1), ⟨hm, ht⟩, by first | (simp; omega) | omega, rfl, rfl⟩, Weak.trans (Weak.freezeR (kp := 1) (r := 8) (s0 := 2) (env' := [.tup [plF m t, .list false 2 [dint (m), .list false 1 (ints (us.set 0 1))]]]) rfl rfl (fz_one (fz_tup2 (.rfl _) (Fz.ref (cs := [dint (m), .list true 1 (ints (us.set 0 1))]) 2 0 1 _ (show 0 * 2 + 1 * 2 ≤ 2 by omega) rfl)))) (Weak.of (kp := 1) [none] ?_)⟩
     conv => whnf
     repeat' ((first | refine And.intro rfl ?_ | refine And.intro (eqV_int vAr) ?_ | refine And.intro vOb ?_ | refine And.intro ?_ ?_ | exact trivial) <;> try (conv => whnf))
   · refine ⟨.tup [plF m t, .list false 2 [dint (m + 1), .list false 1 (ints us)]], [none], ⟨m, t, m + 1, us, ⟨hm, ht⟩, by first | (simp; omega) | omega, rfl, rfl⟩, Weak.trans (Weak.freezeR (kp := 1) (r := 8) (s0 := 2) (env' := [.tup [plF m t, .list false 2 [dint (m + 1), .list false 1 (ints us)]]]) rfl rfl (fz_one (fz_tup2 (.rfl _) (Fz.ref (cs := [dint (m + 1), .list true 1 (ints us)]) 2 0 1 _ (show 0 * 2 + 1 * 2 ≤ 2 by omega) rfl)))) (Weak.of (kp := 1) [none] ?_)⟩
     conv => whnf
     repeat' ((first | refine And.intro rfl ?_ | refine And.intro (eqV_int vAr) ?_ | refine And.intro vOb ?_ | refine And.intro ?_ ?_ | exact trivial) <;> try (conv => whnf))
   · refine ⟨.tup [plF m t, .list false 2 [dint (m), .list false 1 (ints (us ++ [0]))]], [none], ⟨m, t, m, (us ++ [0]), ⟨hm, ht⟩, by first | (simp; omega) | omega, rfl, rfl⟩, Weak.trans (Weak.freezeR (kp := 1) (r := 10) (s0 := 2) (env' := [.tup [plF m t, .list false 2 [dint (m), .list false 1 (ints (us ++ [0]))]]]) rfl rfl (fz_one (fz_tup2 (.rfl _) (Fz.ref (cs := [dint (m), .list true 1 (ints (us ++ [0]))]) 2 0 1 _ (show 0 * 2 + 1 * 2 ≤ 2 by omega) rfl)))) (Weak.of (kp := 1) [none] ?_)⟩
     conv => whnf
     repeat' ((first | refine And.intro rfl ?_ | refine And.intro (eqV_int vAr) ?_ | refine And.intro vOb ?_ | refine And.intro ?_ ?_ | exact trivial) <;> try (conv => whnf))
   · refine ⟨.tup [plF m t, .list false 2 [dint (m), .list false 1 (ints us)]], [none], ⟨m, t, m, us, ⟨hm, ht⟩, by first | (simp; omega) | omega, rfl, rfl⟩, Weak.trans (Weak.freezeR (kp := 1) (r := 8) (s0 := 2) (env' := [.tup [plF m t, .list false 2 [dint (m), .list false 1 (ints us)]]]) rfl rfl (fz_one (fz_tup2 (.rfl _) (Fz.ref (cs := [dint (m), .list true 1 (ints us)]) 2 0 1 _ (show 0 * 2 + 1 * 2 ≤ 2 by omega) rfl)))) (Weak.of (kp := 1) [none] ?_)⟩
     conv => whnf
     repeat' ((first | refine And.intro rfl ?_ | refine And.intro (eqV_int vAr) ?_ | refine And.intro vOb ?_ | refine And.intro ?_ ?_ | exact trivial) <;> try (conv => whnf))
end Go.Proofs
