/- Parts of the proof. -/
import Derived.Test.YtghcpginhamelaaGreatK187
import Derived.Test.YtghcpginhamelaaGreatK38
import Derived.Test.YtghcpginhamelaaGreatK119
import Derived.Test.YtghcpginhamelaaGreatK127
import Derived.Test.YtghcpginhamelaaGreatK135A
namespace Go.Proofs
open Go Go.Vm Go.Fg Go.Fg.PS
set_option maxRecDepth 100000
set_option maxHeartbeats 8000000
set_option linter.unusedSimpArgs false
set_option linter.unusedVariables false
variable {m : Int}
theorem P9 {p : Nat} (hp : p = 2 ∨ p = 3 ∨ p = 5 ∨ p = 7) {d : Int} (hd : 1 ≤ d ∧ d ≤ 10) : Md ((p : Int) * qP p (kM p d) * p) := by
 obtain ⟨q1, q2, q3, q4⟩ := Af2 hp hd
 rw [q1]
 generalize p ^ kM p d = q at *
 rcases hp with rfl | rfl | rfl | rfl <;> exact ⟨by omega, by omega⟩
theorem yR (hW : Wei) (o : Bool) (l : List Nat) (hb : ∀ b ∈ l, b < 256) (hl : l.length ≤ 4611686018427387904) (a : Nat) (ha : a ≤ l.length) (hs : Int) :
   cM Tryz.prog 190 2 [.ptr 1 [] 0] [none, some (aU o l a hs)]
     (fun d rt => ∃ (m : Int) (t : List (List Int)) (a' : Nat) (h' : Int), (1 ≤ m ∧ m ≤ 10001) ∧ gI t ∧ a' ≤ l.length ∧ d = dO m t ∧ rt = [none, some (aU o l a' h')]) := by
 refine eR Tryz.tabOk aE 2 _ Tryz.func190 rfl rfl ?_
 conv => whnf
 repeat' first | (refine bM [1] (dV o l hb hl a ha hs 8) (fun d rt' hd => ?_)) | fail
 obtain ⟨x, a1, h1, hx, ha1, rfl, rfl⟩ := hd
 refine ⟨rfl, by simp, ?_⟩
 conv => whnf
 have hx2 := hx.2 (by omega)
 repeat' first | (refine bM [1] (Alg hW o l hb hl a1 ha1 h1) (fun d rt' hd => ?_)) | (refine bM [1, 3] (sR o l hb hl a1 ha1 h1 [2, 2, 3, 3, 5] (by simp)) (fun d rt' hd => ?_)) | ((first | (refine zP (fun h => ?_) (fun h => ?_) <;> (try simp only [aB, aD, aP, aT, aV, bB] at h) <;> first | (exfalso; first | omega | exact h trivial | (cases h; done)) | skip)) <;> conv => whnf) | fail
 · obtain ⟨m, t, a2, h2, hm, ht, ha2, rfl, rfl⟩ := hd
   refine ⟨rfl, by simp, ?_⟩
   conv => whnf
   repeat' first | ((first | refine z0 ?_ | refine zP (show (_ : List (Option Root))[_]? = _ from rfl) ?_ | (refine zP (fun h => ?_) (fun h => ?_) <;> (try simp only [aB, aD, aP, aT, aV, bB] at h) <;> first | (exfalso; first | omega | exact h trivial | (cases h; done)) | skip) | refine zV ?_ | (apply zI; refine zP aK ?_) | (apply zI; refine zP aH ?_)) <;> conv => whnf) | fail
   refine ⟨dO m t, [none, some (aU o l a2 h2)], ⟨m, t, a2, h2, hm, ht, ha2, rfl, rfl⟩, aC.of (kp := 2) [none, some 1] ?_⟩
   conv => whnf
   repeat' ((first | refine z1 ?_ | exact trivial) <;> try (conv => whnf))
 · obtain ⟨p, a2, h2, hm, ha2, rfl, rfl⟩ := hd
   refine ⟨rfl, by simp, ?_⟩
   conv => whnf
   obtain ⟨pn, rfl, hp⟩ : ∃ pn : Nat, p = (pn : Int) ∧ (pn = 2 ∨ pn = 3 ∨ pn = 5 ∨ pn = 7) := by
     simp only [List.mem_cons, List.not_mem_nil, or_false] at hm
     exact ⟨p.toNat, by omega, by omega⟩
   have hmd : Md (pn : Int) := ⟨by omega, by omega⟩
   have hp5 : 2 ≤ pn ∧ pn ≤ 5 := by
     simp only [List.mem_cons, List.not_mem_nil, or_false] at hm
     omega
   repeat' first | (refine bM [1] (dV o l hb hl a2 ha2 h2 3) (fun d rt' hd => ?_)) | ((first | refine zV ?_) <;> conv => whnf) | fail
   obtain ⟨v, a3, h3, hv, ha3, rfl, rfl⟩ := hd
   refine ⟨rfl, by simp, ?_⟩
   conv => whnf
   have hv2 := hv.2 (by omega)
   by_cases hp2 : pn = 2
   · subst hp2
     repeat' first | (refine bM [1] (dV o l hb hl a3 ha3 h3 2) (fun d rt' hd => ?_)) | ((first | (refine zP (fun h => ?_) (fun h => ?_) <;> (try simp only [aB, aD, aP, aT, aV, bB] at h) <;> first | (exfalso; first | omega | exact h trivial | (cases h; done)) | skip) | refine zV ?_) <;> conv => whnf) | fail
     obtain ⟨y, a4, h4, hy, ha4, rfl, rfl⟩ := hd
     refine ⟨rfl, by simp, ?_⟩
     conv => whnf
     have hy2 := hy.2 (by omega)
     by_cases hy0 : y = 0
     · subst hy0
       repeat' first | (refine bM [1] (dV o l hb hl a4 ha4 h4 3) (fun d rt' hd => ?_)) | ((first | (refine zP (fun h => ?_) (fun h => ?_) <;> (try simp only [aB, aD, aP, aT, aV, bB] at h) <;> first | (exfalso; first | omega | exact h trivial | (cases h; done)) | skip)) <;> conv => whnf) | fail
       obtain ⟨e, a9, h9, he, ha9, rfl, rfl⟩ := hd
       refine ⟨rfl, by simp, ?_⟩
       conv => whnf
       have he2 := he.2 (by omega)
       obtain ⟨n, hnd⟩ : ∃ n : Nat, n = ((6 + e) + 1).toNat := ⟨_, rfl⟩
       have hdn : (6 + e) + 1 = (n : Int) := by omega
       have hn : 2 ≤ n ∧ n ≤ 11 := by omega
       repeat' first | (refine bM [1] (dV o l hb hl a9 ha9 h9 3) (fun d rt' hd => ?_)) | ((first | refine zV ?_) <;> conv => whnf) | fail
       obtain ⟨u, a5, h5, hu, ha5, rfl, rfl⟩ := hd
       refine ⟨rfl, by simp, ?_⟩
       conv => whnf
       have hu2 := hu.2 (by omega)
       by_cases hu0 : u = 0
       · subst hu0
         repeat' first | (refine bM [1] (xL hmd o l hb hl a5 ha5 h5 n hn (d := (6 + e)) hdn (fun o a => hW ((2 : Nat) : Int) hmd n hn ((6 + e)) hdn o a)) (fun d rt' hd => ?_)) | ((first | (refine zP (fun h => ?_) (fun h => ?_) <;> (try simp only [aB, aD, aP, aT, aV, bB] at h) <;> first | (exfalso; first | omega | exact h trivial | (cases h; done)) | skip)) <;> conv => whnf) | fail
         obtain ⟨F, a6, h6, ha6, rfl, rfl⟩ := hd
         refine ⟨rfl, by simp, ?_⟩
         conv => whnf
         repeat' first | ((first | refine z0 ?_ | refine zP (show (_ : List (Option Root))[_]? = _ from rfl) ?_ | (refine zP (fun h => ?_) (fun h => ?_) <;> (try simp only [aB, aD, aP, aT, aV, bB] at h) <;> first | (exfalso; first | omega | exact h trivial | (cases h; done)) | skip) | refine zV ?_ | (apply zI; refine zP aK ?_) | (apply zI; refine zP aH ?_)) <;> conv => whnf) | fail
         first
           | (refine ⟨dO ((2 : Nat) : Int) (Tb n F), [none, some (aU o l a6 h6)], ⟨((2 : Nat) : Int), Tb n F, a6, h6, ⟨by omega, by omega⟩, jD (by omega) F, ha6, rfl, rfl⟩, aC.trans (aC.freezeR (kp := 2) (r := 4) (s0 := 1) (env' := [dO ((2 : Nat) : Int) (Tb n F)]) rfl rfl (iV (jX (by simp [aB]) (by rw [List.drop_zero, List.take_of_length_le (by simp [aB])])))) (eB (kp := 2) [none, some 1])⟩)
       · repeat' first | (refine bM [1] (dV o l hb hl a5 ha5 h5 ((2 : Nat) : Int)) (fun d rt' hd => ?_)) | ((first | (refine zP (fun h => ?_) (fun h => ?_) <;> (try simp only [aB, aD, aP, aT, aV, bB] at h) <;> first | (exfalso; first | omega | exact h trivial | (cases h; done)) | skip)) <;> conv => whnf) | fail
         obtain ⟨z, a6, h6, hz, ha6, rfl, rfl⟩ := hd
         refine ⟨rfl, by simp, ?_⟩
         conv => whnf
         have hz2 := hz.2 (by omega)
         obtain ⟨F, hF⟩ := M4 hmd 2 hp n hn hdn (P9 hp (by omega)) false [z, 1] (by simp) (fun x hx => by simp only [List.mem_cons, List.not_mem_nil, or_false] at hx; omega)
         repeat' first | (refine bM [1] (dV o l hb hl a6 ha6 h6 2) (fun d rt' hd => ?_)) | ((first | (apply zI; refine zP (hF) ?_) | refine zV ?_ | (apply zI; refine zP aH ?_) | refine Or.inl ?_) <;> conv => whnf) | fail
         obtain ⟨w, a7, h7, hw, ha7, rfl, rfl⟩ := hd
         refine ⟨rfl, by simp, ?_⟩
         conv => whnf
         have hw2 := hw.2 (by omega)
         by_cases hw0 : w = 0
         · subst hw0
           repeat' first | (refine bM [1] (yH hmd o l hb hl a7 ha7 h7 n hn hdn) (fun d rt' hd => ?_)) | ((first | (refine zP (fun h => ?_) (fun h => ?_) <;> (try simp only [aB, aD, aP, aT, aV, bB] at h) <;> first | (exfalso; first | omega | exact h trivial | (cases h; done)) | skip)) <;> conv => whnf) | fail
           obtain ⟨b, a8, h8, hb8, ha8, rfl, rfl⟩ := hd
           refine ⟨rfl, by simp, ?_⟩
           conv => whnf
           repeat' first | ((first | refine z0 ?_ | (apply zI; refine zP (yP hmd _ _ _ n hn F b) ?_) | refine Or.inl (Or.inr (zP (oZ) ?_)) | refine zV ?_ | (apply zI; refine zP aK ?_) | (apply zI; refine zP aH ?_) | refine Or.inl ?_) <;> conv => whnf) | fail
           first
             | (refine ⟨dO ((2 : Nat) : Int) (Tb n (bC b (bI F (rev (aY ((2 : Nat) : Int) (b.c 1).val) b) (rev (aY ((2 : Nat) : Int) (b.c 1).val) b) n n) 0 n)), [none, some (aU o l a8 h8)], ⟨((2 : Nat) : Int), Tb n (bC b (bI F (rev (aY ((2 : Nat) : Int) (b.c 1).val) b) (rev (aY ((2 : Nat) : Int) (b.c 1).val) b) n n) 0 n), a8, h8, ⟨by omega, by omega⟩, jD (by omega) (bC b (bI F (rev (aY ((2 : Nat) : Int) (b.c 1).val) b) (rev (aY ((2 : Nat) : Int) (b.c 1).val) b) n n) 0 n), ha8, rfl, rfl⟩, aC.trans (aC.freezeR (kp := 2) (r := 7) (s0 := 1) (env' := [dO ((2 : Nat) : Int) (Tb n (bC b (bI F (rev (aY ((2 : Nat) : Int) (b.c 1).val) b) (rev (aY ((2 : Nat) : Int) (b.c 1).val) b) n n) 0 n))]) rfl rfl (iV (jX (by simp [aB]) (by rw [List.drop_zero, List.take_of_length_le (by simp [aB])])))) (eB (kp := 2) [none, some 1])⟩)
         · repeat' first | ((first | refine z0 ?_ | refine Or.inl (Or.inr (zP (oZ) ?_)) | (refine zP (fun h => ?_) (fun h => ?_) <;> (try simp only [aB, aD, aP, aT, aV, bB] at h) <;> first | (exfalso; first | omega | exact h trivial | (cases h; done)) | skip) | refine Or.inl ?_) <;> conv => whnf) | fail
           first
             | (refine ⟨dO ((2 : Nat) : Int) (Tb n F), [none, some (aU o l a7 h7)], ⟨((2 : Nat) : Int), Tb n F, a7, h7, ⟨by omega, by omega⟩, jD (by omega) F, ha7, rfl, rfl⟩, aC.trans (aC.freezeR (kp := 2) (r := 5) (s0 := 1) (env' := [dO ((2 : Nat) : Int) (Tb n F)]) rfl rfl (iV (jX (by simp [aB]) (by rw [List.drop_zero, List.take_of_length_le (by simp [aB])])))) (eB (kp := 2) [none, some 1])⟩)
     · skip
       obtain ⟨n, hnd⟩ : ∃ n : Nat, n = ((2 * (((2 : Nat) : Int) - 1) + v) + 1).toNat := ⟨_, rfl⟩
       have hdn : (2 * (((2 : Nat) : Int) - 1) + v) + 1 = (n : Int) := by omega
       have hn : 2 ≤ n ∧ n ≤ 11 := by omega
       repeat' first | (refine bM [1] (dV o l hb hl a4 ha4 h4 3) (fun d rt' hd => ?_)) | ((first | (refine zP (fun h => ?_) (fun h => ?_) <;> (try simp only [aB, aD, aP, aT, aV, bB] at h) <;> first | (exfalso; first | omega | exact h trivial | (cases h; done)) | skip)) <;> conv => whnf) | fail
       obtain ⟨u, a5, h5, hu, ha5, rfl, rfl⟩ := hd
       refine ⟨rfl, by simp, ?_⟩
       conv => whnf
       have hu2 := hu.2 (by omega)
       by_cases hu0 : u = 0
       · subst hu0
         repeat' first | (refine bM [1] (xL hmd o l hb hl a5 ha5 h5 n hn (d := (2 * (((2 : Nat) : Int) - 1) + v)) hdn (fun o a => hW ((2 : Nat) : Int) hmd n hn ((2 * (((2 : Nat) : Int) - 1) + v)) hdn o a)) (fun d rt' hd => ?_)) | ((first | (refine zP (fun h => ?_) (fun h => ?_) <;> (try simp only [aB, aD, aP, aT, aV, bB] at h) <;> first | (exfalso; first | omega | exact h trivial | (cases h; done)) | skip)) <;> conv => whnf) | fail
         obtain ⟨F, a6, h6, ha6, rfl, rfl⟩ := hd
         refine ⟨rfl, by simp, ?_⟩
         conv => whnf
         repeat' first | ((first | refine z0 ?_ | refine zP (show (_ : List (Option Root))[_]? = _ from rfl) ?_ | (refine zP (fun h => ?_) (fun h => ?_) <;> (try simp only [aB, aD, aP, aT, aV, bB] at h) <;> first | (exfalso; first | omega | exact h trivial | (cases h; done)) | skip) | refine zV ?_ | (apply zI; refine zP aK ?_) | (apply zI; refine zP aH ?_)) <;> conv => whnf) | fail
         first
           | (refine ⟨dO ((2 : Nat) : Int) (Tb n F), [none, some (aU o l a6 h6)], ⟨((2 : Nat) : Int), Tb n F, a6, h6, ⟨by omega, by omega⟩, jD (by omega) F, ha6, rfl, rfl⟩, aC.trans (aC.freezeR (kp := 2) (r := 4) (s0 := 1) (env' := [dO ((2 : Nat) : Int) (Tb n F)]) rfl rfl (iV (jX (by simp [aB]) (by rw [List.drop_zero, List.take_of_length_le (by simp [aB])])))) (eB (kp := 2) [none, some 1])⟩)
       · repeat' first | (refine bM [1] (dV o l hb hl a5 ha5 h5 ((2 : Nat) : Int)) (fun d rt' hd => ?_)) | ((first | (refine zP (fun h => ?_) (fun h => ?_) <;> (try simp only [aB, aD, aP, aT, aV, bB] at h) <;> first | (exfalso; first | omega | exact h trivial | (cases h; done)) | skip)) <;> conv => whnf) | fail
         obtain ⟨z, a6, h6, hz, ha6, rfl, rfl⟩ := hd
         refine ⟨rfl, by simp, ?_⟩
         conv => whnf
         have hz2 := hz.2 (by omega)
         obtain ⟨F, hF⟩ := M4 hmd 2 hp n hn hdn (P9 hp (by omega)) false [z, 1] (by simp) (fun x hx => by simp only [List.mem_cons, List.not_mem_nil, or_false] at hx; omega)
         repeat' first | (refine bM [1] (dV o l hb hl a6 ha6 h6 2) (fun d rt' hd => ?_)) | ((first | (apply zI; refine zP (hF) ?_) | refine zV ?_ | (apply zI; refine zP aH ?_) | refine Or.inl ?_) <;> conv => whnf) | fail
         obtain ⟨w, a7, h7, hw, ha7, rfl, rfl⟩ := hd
         refine ⟨rfl, by simp, ?_⟩
         conv => whnf
         have hw2 := hw.2 (by omega)
         by_cases hw0 : w = 0
         · subst hw0
           repeat' first | (refine bM [1] (yH hmd o l hb hl a7 ha7 h7 n hn hdn) (fun d rt' hd => ?_)) | ((first | (refine zP (fun h => ?_) (fun h => ?_) <;> (try simp only [aB, aD, aP, aT, aV, bB] at h) <;> first | (exfalso; first | omega | exact h trivial | (cases h; done)) | skip)) <;> conv => whnf) | fail
           obtain ⟨b, a8, h8, hb8, ha8, rfl, rfl⟩ := hd
           refine ⟨rfl, by simp, ?_⟩
           conv => whnf
           repeat' first | ((first | refine z0 ?_ | (apply zI; refine zP (yP hmd _ _ _ n hn F b) ?_) | refine Or.inl (Or.inr (zP (oZ) ?_)) | refine zV ?_ | (apply zI; refine zP aK ?_) | (apply zI; refine zP aH ?_) | refine Or.inl ?_) <;> conv => whnf) | fail
           first
             | (refine ⟨dO ((2 : Nat) : Int) (Tb n (bC b (bI F (rev (aY ((2 : Nat) : Int) (b.c 1).val) b) (rev (aY ((2 : Nat) : Int) (b.c 1).val) b) n n) 0 n)), [none, some (aU o l a8 h8)], ⟨((2 : Nat) : Int), Tb n (bC b (bI F (rev (aY ((2 : Nat) : Int) (b.c 1).val) b) (rev (aY ((2 : Nat) : Int) (b.c 1).val) b) n n) 0 n), a8, h8, ⟨by omega, by omega⟩, jD (by omega) (bC b (bI F (rev (aY ((2 : Nat) : Int) (b.c 1).val) b) (rev (aY ((2 : Nat) : Int) (b.c 1).val) b) n n) 0 n), ha8, rfl, rfl⟩, aC.trans (aC.freezeR (kp := 2) (r := 7) (s0 := 1) (env' := [dO ((2 : Nat) : Int) (Tb n (bC b (bI F (rev (aY ((2 : Nat) : Int) (b.c 1).val) b) (rev (aY ((2 : Nat) : Int) (b.c 1).val) b) n n) 0 n))]) rfl rfl (iV (jX (by simp [aB]) (by rw [List.drop_zero, List.take_of_length_le (by simp [aB])])))) (eB (kp := 2) [none, some 1])⟩)
         · repeat' first | ((first | refine z0 ?_ | refine Or.inl (Or.inr (zP (oZ) ?_)) | (refine zP (fun h => ?_) (fun h => ?_) <;> (try simp only [aB, aD, aP, aT, aV, bB] at h) <;> first | (exfalso; first | omega | exact h trivial | (cases h; done)) | skip) | refine Or.inl ?_) <;> conv => whnf) | fail
           first
             | (refine ⟨dO ((2 : Nat) : Int) (Tb n F), [none, some (aU o l a7 h7)], ⟨((2 : Nat) : Int), Tb n F, a7, h7, ⟨by omega, by omega⟩, jD (by omega) F, ha7, rfl, rfl⟩, aC.trans (aC.freezeR (kp := 2) (r := 5) (s0 := 1) (env' := [dO ((2 : Nat) : Int) (Tb n F)]) rfl rfl (iV (jX (by simp [aB]) (by rw [List.drop_zero, List.take_of_length_le (by simp [aB])])))) (eB (kp := 2) [none, some 1])⟩)
   · have hp2' : ¬ (pn : Int) = 2 := by omega
     obtain ⟨n, hnd⟩ : ∃ n : Nat, n = ((2 * ((pn : Int) - 1) + v) + 1).toNat := ⟨_, rfl⟩
     have hdn : (2 * ((pn : Int) - 1) + v) + 1 = (n : Int) := by omega
     have hn : 2 ≤ n ∧ n ≤ 11 := by omega
     repeat' first | (refine bM [1] (dV o l hb hl a3 ha3 h3 3) (fun d rt' hd => ?_)) | ((first | (refine zP (fun h => ?_) (fun h => ?_) <;> (try simp only [aB, aD, aP, aT, aV, bB] at h) <;> first | (exfalso; first | omega | exact h trivial | (cases h; done)) | skip) | refine zV ?_) <;> conv => whnf) | fail
     obtain ⟨u, a5, h5, hu, ha5, rfl, rfl⟩ := hd
     refine ⟨rfl, by simp, ?_⟩
     conv => whnf
     have hu2 := hu.2 (by omega)
     by_cases hu0 : u = 0
     · subst hu0
       repeat' first | (refine bM [1] (xL hmd o l hb hl a5 ha5 h5 n hn (d := (2 * ((pn : Int) - 1) + v)) hdn (fun o a => hW (pn : Int) hmd n hn ((2 * ((pn : Int) - 1) + v)) hdn o a)) (fun d rt' hd => ?_)) | ((first | (refine zP (fun h => ?_) (fun h => ?_) <;> (try simp only [aB, aD, aP, aT, aV, bB] at h) <;> first | (exfalso; first | omega | exact h trivial | (cases h; done)) | skip)) <;> conv => whnf) | fail
       obtain ⟨F, a6, h6, ha6, rfl, rfl⟩ := hd
       refine ⟨rfl, by simp, ?_⟩
       conv => whnf
       repeat' first | ((first | refine z0 ?_ | refine zP (show (_ : List (Option Root))[_]? = _ from rfl) ?_ | (refine zP (fun h => ?_) (fun h => ?_) <;> (try simp only [aB, aD, aP, aT, aV, bB] at h) <;> first | (exfalso; first | omega | exact h trivial | (cases h; done)) | skip) | refine zV ?_ | (apply zI; refine zP aK ?_) | (apply zI; refine zP aH ?_)) <;> conv => whnf) | fail
       first
         | (refine ⟨dO (pn : Int) (Tb n F), [none, some (aU o l a6 h6)], ⟨(pn : Int), Tb n F, a6, h6, ⟨by omega, by omega⟩, jD (by omega) F, ha6, rfl, rfl⟩, aC.trans (aC.freezeR (kp := 2) (r := 4) (s0 := 1) (env' := [dO (pn : Int) (Tb n F)]) rfl rfl (iV (jX (by simp [aB]) (by rw [List.drop_zero, List.take_of_length_le (by simp [aB])])))) (eB (kp := 2) [none, some 1])⟩)
     · repeat' first | (refine bM [1] (dV o l hb hl a5 ha5 h5 (pn : Int)) (fun d rt' hd => ?_)) | ((first | (refine zP (fun h => ?_) (fun h => ?_) <;> (try simp only [aB, aD, aP, aT, aV, bB] at h) <;> first | (exfalso; first | omega | exact h trivial | (cases h; done)) | skip)) <;> conv => whnf) | fail
       obtain ⟨z, a6, h6, hz, ha6, rfl, rfl⟩ := hd
       refine ⟨rfl, by simp, ?_⟩
       conv => whnf
       have hz2 := hz.2 (by omega)
       obtain ⟨F, hF⟩ := M4 hmd pn hp n hn hdn (P9 hp (by omega)) false [z, 1] (by simp) (fun x hx => by simp only [List.mem_cons, List.not_mem_nil, or_false] at hx; omega)
       repeat' first | (refine bM [1] (dV o l hb hl a6 ha6 h6 2) (fun d rt' hd => ?_)) | ((first | (apply zI; refine zP (hF) ?_) | refine zV ?_ | (apply zI; refine zP aH ?_) | refine Or.inl ?_) <;> conv => whnf) | fail
       obtain ⟨w, a7, h7, hw, ha7, rfl, rfl⟩ := hd
       refine ⟨rfl, by simp, ?_⟩
       conv => whnf
       have hw2 := hw.2 (by omega)
       by_cases hw0 : w = 0
       · subst hw0
         repeat' first | (refine bM [1] (yH hmd o l hb hl a7 ha7 h7 n hn hdn) (fun d rt' hd => ?_)) | ((first | (refine zP (fun h => ?_) (fun h => ?_) <;> (try simp only [aB, aD, aP, aT, aV, bB] at h) <;> first | (exfalso; first | omega | exact h trivial | (cases h; done)) | skip)) <;> conv => whnf) | fail
         obtain ⟨b, a8, h8, hb8, ha8, rfl, rfl⟩ := hd
         refine ⟨rfl, by simp, ?_⟩
         conv => whnf
         repeat' first | ((first | refine z0 ?_ | (apply zI; refine zP (yP hmd _ _ _ n hn F b) ?_) | refine Or.inl (Or.inr (zP (oZ) ?_)) | refine zV ?_ | (apply zI; refine zP aK ?_) | (apply zI; refine zP aH ?_) | refine Or.inl ?_) <;> conv => whnf) | fail
         first
           | (refine ⟨dO (pn : Int) (Tb n (bC b (bI F (rev (aY (pn : Int) (b.c 1).val) b) (rev (aY (pn : Int) (b.c 1).val) b) n n) 0 n)), [none, some (aU o l a8 h8)], ⟨(pn : Int), Tb n (bC b (bI F (rev (aY (pn : Int) (b.c 1).val) b) (rev (aY (pn : Int) (b.c 1).val) b) n n) 0 n), a8, h8, ⟨by omega, by omega⟩, jD (by omega) (bC b (bI F (rev (aY (pn : Int) (b.c 1).val) b) (rev (aY (pn : Int) (b.c 1).val) b) n n) 0 n), ha8, rfl, rfl⟩, aC.trans (aC.freezeR (kp := 2) (r := 7) (s0 := 1) (env' := [dO (pn : Int) (Tb n (bC b (bI F (rev (aY (pn : Int) (b.c 1).val) b) (rev (aY (pn : Int) (b.c 1).val) b) n n) 0 n))]) rfl rfl (iV (jX (by simp [aB]) (by rw [List.drop_zero, List.take_of_length_le (by simp [aB])])))) (eB (kp := 2) [none, some 1])⟩)
       · repeat' first | ((first | refine z0 ?_ | refine Or.inl (Or.inr (zP (oZ) ?_)) | (refine zP (fun h => ?_) (fun h => ?_) <;> (try simp only [aB, aD, aP, aT, aV, bB] at h) <;> first | (exfalso; first | omega | exact h trivial | (cases h; done)) | skip) | refine Or.inl ?_) <;> conv => whnf) | fail
         first
           | (refine ⟨dO (pn : Int) (Tb n F), [none, some (aU o l a7 h7)], ⟨(pn : Int), Tb n F, a7, h7, ⟨by omega, by omega⟩, jD (by omega) F, ha7, rfl, rfl⟩, aC.trans (aC.freezeR (kp := 2) (r := 5) (s0 := 1) (env' := [dO (pn : Int) (Tb n F)]) rfl rfl (iV (jX (by simp [aB]) (by rw [List.drop_zero, List.take_of_length_le (by simp [aB])])))) (eB (kp := 2) [none, some 1])⟩)
theorem Aoo (hW : Wei) (o : Bool) (l : List Nat) (hb : ∀ b ∈ l, b < 256) (hl : l.length ≤ 4611686018427387904) :
   cM Tryz.prog 71 1 [.list o 1 (dR l)] [none]
     (fun d rt => ∃ (m : Int) (t : List (List Int)), ((1 ≤ m ∧ m ≤ 10001) ∧ gI t) ∧ d = dO m t ∧ rt = [none]) := by
 refine eR Tryz.tabOk aE 1 _ Tryz.func71 rfl rfl ?_
 conv => whnf
 repeat' first | (refine bM [] (xG o l hb hl) (fun d rt' hd => ?_)) | fail
 obtain ⟨h0, rfl, rfl⟩ := hd
 refine ⟨rfl, by simp, ?_⟩
 conv => whnf
 repeat' first | (refine bM [2] (yR hW o l hb hl 0 (by omega) h0) (fun d rt' hd => ?_)) | fail
 obtain ⟨m, t, a1, h1, hm, ht, ha1, rfl, rfl⟩ := hd
 refine ⟨rfl, by simp, ?_⟩
 conv => whnf
 repeat' first | ((first | refine z0 ?_ | refine zP (show (_ : List (Option Root))[_]? = _ from rfl) ?_) <;> conv => whnf) | fail
 refine ⟨dO m t, [none], ⟨m, t, ⟨hm, ht⟩, rfl, rfl⟩, aC.of (kp := 1) [none] ?_⟩
 conv => whnf
 repeat' ((first | refine z1 ?_ | exact trivial) <;> try (conv => whnf))
theorem Ac2 (hW : Wei) (o : Bool) (l : List Nat) (hb : ∀ b ∈ l, b < 256) (hl : l.length ≤ 4611686018427387904) :
   cM Tryz.prog 79 1 [.list o 1 (dR l)] [none]
     (fun d rt => ∃ (m : Int) (t : List (List Int)), ((1 ≤ m ∧ m ≤ 10001) ∧ gI t) ∧ d = dO m t ∧ rt = [none]) := by
 refine eR Tryz.tabOk aE 1 _ Tryz.func79 rfl rfl ?_
 conv => whnf
 repeat' first | (refine bM [] (xG o l hb hl) (fun d rt' hd => ?_)) | fail
 obtain ⟨h0, rfl, rfl⟩ := hd
 refine ⟨rfl, by simp, ?_⟩
 conv => whnf
 repeat' first | (refine bM [2] (yR hW o l hb hl 0 (by omega) h0) (fun d rt' hd => ?_)) | fail
 obtain ⟨m, t, a1, h1, hm, ht, ha1, rfl, rfl⟩ := hd
 refine ⟨rfl, by simp, ?_⟩
 conv => whnf
 repeat' first | ((first | refine z0 ?_ | refine zP (show (_ : List (Option Root))[_]? = _ from rfl) ?_) <;> conv => whnf) | fail
 refine ⟨dO m t, [none], ⟨m, t, ⟨hm, ht⟩, rfl, rfl⟩, aC.of (kp := 1) [none] ?_⟩
 conv => whnf
 repeat' ((first | refine z1 ?_ | exact trivial) <;> try (conv => whnf))
theorem Afq (hW : Wei) (o : Bool) (l : List Nat) (hb : ∀ b ∈ l, b < 256) (hl : l.length ≤ 4611686018427387904) :
   cM Tryz.prog 82 1 [.list o 1 (dR l)] [none]
     (fun d rt => ∃ (m : Int) (t : List (List Int)), ((1 ≤ m ∧ m ≤ 10001) ∧ gI t) ∧ d = dO m t ∧ rt = [none]) := by
 refine eR Tryz.tabOk aE 1 _ Tryz.func82 rfl rfl ?_
 conv => whnf
 repeat' first | (refine bM [] (xG o l hb hl) (fun d rt' hd => ?_)) | fail
 obtain ⟨h0, rfl, rfl⟩ := hd
 refine ⟨rfl, by simp, ?_⟩
 conv => whnf
 repeat' first | (refine bM [2] (yR hW o l hb hl 0 (by omega) h0) (fun d rt' hd => ?_)) | fail
 obtain ⟨m, t, a1, h1, hm, ht, ha1, rfl, rfl⟩ := hd
 refine ⟨rfl, by simp, ?_⟩
 conv => whnf
 repeat' first | ((first | refine z0 ?_ | refine zP (show (_ : List (Option Root))[_]? = _ from rfl) ?_) <;> conv => whnf) | fail
 refine ⟨dO m t, [none], ⟨m, t, ⟨hm, ht⟩, rfl, rfl⟩, aC.of (kp := 1) [none] ?_⟩
 conv => whnf
 repeat' ((first | refine z1 ?_ | exact trivial) <;> try (conv => whnf))
theorem A5 (hW : Wei) (o : Bool) (l : List Nat) (hb : ∀ b ∈ l, b < 256) (hl : l.length ≤ 4611686018427387904) :
   cM Tryz.prog 85 1 [.list o 1 (dR l)] [none]
     (fun d rt => ∃ (m : Int) (t : List (List Int)), ((1 ≤ m ∧ m ≤ 10001) ∧ gI t) ∧ d = dO m t ∧ rt = [none]) := by
 refine eR Tryz.tabOk aE 1 _ Tryz.func85 rfl rfl ?_
 conv => whnf
 repeat' first | (refine bM [] (xG o l hb hl) (fun d rt' hd => ?_)) | fail
 obtain ⟨h0, rfl, rfl⟩ := hd
 refine ⟨rfl, by simp, ?_⟩
 conv => whnf
 repeat' first | (refine bM [2] (yR hW o l hb hl 0 (by omega) h0) (fun d rt' hd => ?_)) | fail
 obtain ⟨m, t, a1, h1, hm, ht, ha1, rfl, rfl⟩ := hd
 refine ⟨rfl, by simp, ?_⟩
 conv => whnf
 repeat' first | ((first | refine z0 ?_ | refine zP (show (_ : List (Option Root))[_]? = _ from rfl) ?_) <;> conv => whnf) | fail
 refine ⟨dO m t, [none], ⟨m, t, ⟨hm, ht⟩, rfl, rfl⟩, aC.of (kp := 1) [none] ?_⟩
 conv => whnf
 repeat' ((first | refine z1 ?_ | exact trivial) <;> try (conv => whnf))
end Go.Proofs
namespace Go.Proofs
open Go Go.Vm Go.Fg Go.Fg.PS
set_option maxRecDepth 100000
set_option maxHeartbeats 4000000
set_option linter.unusedSimpArgs false
set_option linter.unusedVariables false
noncomputable def kL (m : Int) (t : List (List Int)) : D := if kC m t = 0 then .tup [gE true true (aI m t) (aZ m t), aA 0] else .tup [.lit (.slice none 0 0), aA (kC m t)]
theorem yE (o p : Bool) (m : Int) (t : List (List Int)) (hl : t.length ≤ 1048576) (hr : dP t) :
   aL Tryz.prog 86 [.agg [aA m, .list o 1 (rows p t)]] (kL m t) := by
 by_cases hk : bW m t = 0
 · have hht : cT m t = 0 := by
     unfold bW at hk
     split at hk
     · assumption
     · exact hk
   obtain ⟨hb, hpr⟩ := fN hht
   obtain ⟨hp, hlw⟩ := hO hb
   obtain ⟨hm, h2, h3, _⟩ := fI hp
   have hm1 := hm.1
   have hm2 := hm.2
   have key := jP o p m t hl hr
   rw [hk, if_pos rfl] at key
   have hdeg : aL Tryz.prog 124 [.agg [aA m, .list o 1 (rows p t)]] (aA (t.length - 1)) := by
     have := iM (m := m) o p t.length (by omega) (aZ m t)
     simpa only [cI, dY hp] using this
   have hlt : aI m t < t.length := nL (by omega)
   refine aX Tryz.tabOk aE Tryz.func86 rfl rfl ?_
   conv => whnf
   repeat' first | ((first | refine z0 ?_ | refine Or.inr (gN Tryz.tabOk aE _ Tryz.func191 rfl rfl ?_) | (apply zI; refine zP (key) ?_) | (apply zI; refine zP (hdeg) ?_) | (refine zP (fun h => ?_) (fun h => ?_) <;> (try simp only [aB, aD] at h) <;> first | (exfalso; omega) | skip) | refine zV ?_ | refine Or.inl ?_) <;> conv => whnf) | fail
   · have h3 : 2 * ((aI m t : Int) - 1) > (t.length : Int) - 1 := by assumption
     have h4 : kC m t = 3 := by unfold kC; rw [if_pos hk, if_pos h3]
     rw [kL, h4, if_neg (by omega)]
   · have h3 : ¬ 2 * ((aI m t : Int) - 1) > (t.length : Int) - 1 := by assumption
     have h4 : kC m t = 0 := by unfold kC; rw [if_pos hk, if_neg h3]
     have hq1 := (fJ h4).2.2.1
     have hq2 := (fJ h4).2.2.2
     have hyes : D.tup [gE true true (aI m t) (aZ m t), aA 0] = kL m t := by rw [kL, if_pos h4]
     have hge : 2 ≤ aI m t := mB hk hht
     have hT := dY hp
     generalize hf : aZ m t = f at *
     generalize hN : t.length = N at *
     generalize hqq : aI m t = q at *
     rw [← hT]
     refine iQ Tryz.tabOk aE ?_
     conv => whnf
     repeat' first | ((first | (apply zI; refine zP (nA (m := m) q aF aF) ?_) | (apply zI; refine zP (eU (i := 0) aN aJ) ?_) | (apply zI; refine zP (jI (i := 0) (j := 0) _ aN aN aJ aJ) ?_) | (refine zP (fun h => ?_) (fun h => ?_) <;> (try simp only [aB, aD] at h) <;> first | (exfalso; omega) | skip) | refine zV ?_ | refine zP (aJ) ?_ | refine Or.inl ?_) <;> conv => whnf) | fail
     rw [show cR (bA q (0 : PS (PS (Zm m)))) 0 0 1 = bA q (1 : PS (PS (Zm m))) from jS (1 : Zm m) (Zm.val_one (by omega)).symm (by omega) (fun a b _ _ => by
       rw [fP, PS.one_c]
       by_cases ha : a = 0
       · rw [if_pos ha, PS.one_c]
         by_cases hb : b = 0
         · rw [if_pos ⟨ha, hb⟩, if_pos hb]
         · rw [if_neg (by omega), if_neg hb]; rfl
       · rw [if_neg (by omega), if_neg ha]; rfl)]
     refine aR Tryz.tabOk aE (α := Nat) (fun i => [(63, aA i)]) (fun i => [(6, some ⟨false, 1, rows true (bA q (mix i f 0))⟩)]) (fun i => i ≤ q) (fun i => q - i) (0) ?_ ?_ ?_
     · omega
     · conv => whnf
       first | refine aG.autoR ?_ | refine aC.autoR ?_
       conv => whnf
       repeat' ((first | refine z1 ?_ | refine zP ?_ ?_ | exact trivial) <;> try (conv => whnf))
       all_goals rw [kI]
     intro i hi
     conv => whnf
     repeat' first | ((first | (apply zI; refine zP (eU (i := i) aN aJ) ?_) | (apply zI; refine zP (rT (i := i) aN aJ) ?_) | (refine zP (fun h => ?_) (fun h => ?_) <;> (try simp only [aB, aD] at h) <;> first | (exfalso; omega) | skip) | refine zS ?_ | refine zV ?_ | (apply zI; refine zP aH ?_) | refine zP (aJ) ?_ | refine Or.inl ?_) <;> conv => whnf) | fail
     · have hi' : i < q := aJ
       refine Exists.intro (i + 1) (zP aJ (zP aJ ?_))
       first | refine aG.autoR ?_ | refine aC.autoR ?_
       conv => whnf
       repeat' ((first | refine z1 ?_ | refine zP ?_ ?_ | exact trivial) <;> try (conv => whnf))
       simp only [aB, aD, aV, eY, Int.toNat_natCast, Nat.zero_add, List.nil_append]
       rw [← uG]
       exact tE hi' (by omega)
     · have hiq : i = q := aJ
       rw [show bA q (mix i f 0) = bA q f from eS (fun a b ha hb => by rw [eG, if_pos (by omega)])]
       refine aR Tryz.tabOk aE (α := Nat) (fun k => [(84, aA k), (12, .undef), (56, .undef), (57, .undef), (58, .undef), (59, .undef), (60, .undef), (78, .undef), (79, .undef)]) (fun k => [(8, some ⟨false, 1, cE q f (k + 1)⟩), (5, some ⟨true, 1, [aA m, aA q, .ref 8 [] 1 0 (k + 1), aA m, .list o 1 (rows p (Tb N f))]⟩)]) (fun k => k + 1 ≤ q) (fun k => q - k) (0) ?_ ?_ ?_
       · omega
       · conv => whnf
         first | refine aG.autoR ?_ | refine aC.autoR ?_
         conv => whnf
         repeat' ((first | refine z1 ?_ | refine zP ?_ ?_ | exact trivial) <;> try (conv => whnf))
       intro k hkq
       conv => whnf
       repeat' first | ((first | refine z0 ?_ | (apply zI; refine zP (pY k aN aJ) ?_) | (apply zI; refine zP (pN k aN aJ) ?_) | (apply zI; refine zP (nK aJ) ?_) | (apply zI; refine zP (kW aJ) ?_) | (apply zI; refine zP (tA hm q aF _ _ _ _ _ _ _ (pw f k) f) ?_) | (refine zP (fun h => ?_) (fun h => ?_) <;> (try simp only [aB, aD] at h) <;> first | (exfalso; omega) | skip) | refine zS ?_ | refine zV ?_ | (apply zI; refine zP aH ?_) | refine zP (tC aJ) ?_ | refine zP (qO aJ) ?_ | refine zP (rX _) ?_ | refine zP (aJ) ?_ | refine Alt.fst ?_ | refine Or.inl ?_) <;> conv => whnf) | fail
       · refine Exists.intro (k + 1) (zP aJ (zP aJ ?_))
         first | refine aG.autoR ?_ | refine aC.autoR ?_
         conv => whnf
         repeat' ((first | refine z1 ?_ | refine zP ?_ ?_ | exact trivial) <;> try (conv => whnf))
         exact rA rfl
       · have hkq' : k + 1 = q := aJ
         subst hkq'
         repeat' first | ((first | refine z0 ?_ | (apply zI; refine zP (pY 1 (by simp only [eY]; omega) aW) ?_) | (apply zI; refine zP (pN 1 (by simp only [eY]; omega) aW) ?_) | refine zV ?_) <;> conv => whnf) | fail
         rw [hT, ← hyes, pw_one]
 · refine aX Tryz.tabOk aE Tryz.func86 rfl rfl ?_
   conv => whnf
   have key := jP o p m t hl hr
   rw [if_neg hk] at key
   repeat' first | ((first | refine z0 ?_ | refine Or.inr (gN Tryz.tabOk aE _ Tryz.func191 rfl rfl ?_) | (apply zI; refine zP (key) ?_) | (refine zP (fun h => ?_) (fun h => ?_) <;> (try simp only [aB, aD] at h) <;> first | (exfalso; omega) | skip) | refine Or.inl ?_) <;> conv => whnf) | fail
   have h4 : kC m t = bW m t := by unfold kC; rw [if_neg hk]
   rw [kL, h4, if_neg hk]
theorem xP (o p : Bool) (m : Int) (t : List (List Int)) (hl : t.length ≤ 1048576) (hr : dP t) : aL Tryz.prog 87 [.agg [aA m, .list o 1 (rows p t)]] (kL m t) := by
 have key := vH o p m t hl hr
 by_cases h4 : kC m t = 0
 · obtain ⟨hk, hht, hq1, hq2⟩ := fJ h4
   obtain ⟨hb, hpr⟩ := fN hht
   obtain ⟨hp, hlw⟩ := hO hb
   obtain ⟨hm, h2, h3, _⟩ := fI hp
   rw [h4, if_pos rfl] at key
   have kp := Adh (m := m) o p t.length (aI m t) ⟨by omega, by omega, by omega⟩ (aZ m t) (rfl : ((aI m t : Nat) : Int) = aI m t)
   simp only [cI, dY hp] at kp
   refine aX Tryz.tabOk aE Tryz.func87 rfl rfl ?_
   conv => whnf
   repeat' first | ((first | refine z0 ?_ | (apply zI; refine zP (key) ?_) | (apply zI; refine zP (kp) ?_) | (refine zP (fun h => ?_) (fun h => ?_) <;> (try simp only [aB, aD] at h) <;> first | (exfalso; omega) | skip) | refine zV ?_ | refine Or.inl ?_) <;> conv => whnf) | fail
   rw [kL, if_pos h4]
 · rw [if_neg h4] at key
   refine aX Tryz.tabOk aE Tryz.func87 rfl rfl ?_
   conv => whnf
   repeat' first | ((first | refine z0 ?_ | (apply zI; refine zP (key) ?_) | (refine zP (fun h => ?_) (fun h => ?_) <;> (try simp only [aB, aD] at h) <;> first | (exfalso; omega) | skip) | refine Or.inl ?_) <;> conv => whnf) | fail
   rw [kL, if_neg h4]
set_option maxHeartbeats 8000000
noncomputable def qH (m : Int) (t : List (List Int)) : D := .tup [aA (if bW m t = 0 then aI m t else 0 : Nat), aA (bW m t)]
theorem Ado (o p : Bool) (m : Int) (t : List (List Int)) (hl : t.length ≤ 1048576) (hr : dP t) : aL Tryz.prog 80 [.agg [aA m, .list o 1 (rows p t)]] (qH m t) := by
 refine aX Tryz.tabOk aE Tryz.func80 rfl rfl ?_
 conv => whnf
 repeat' first | ((first | refine z0 ?_ | (apply zI; refine zP (jP _ _ m t hl hr) ?_) | refine Or.inl ?_) <;> conv => whnf) | fail
 rfl
theorem Agx (o p : Bool) (m : Int) (t : List (List Int)) (hl : t.length ≤ 1048576) (hr : dP t) : aL Tryz.prog 194 [.agg [aA m, .list o 1 (rows p t)], bD false] (qH m t) := by
 unfold qH
 by_cases hc : cT m t = 0
 · obtain ⟨hb, hpr⟩ := fN hc
   obtain ⟨hp, hlw⟩ := hO hb
   obtain ⟨hm, h2, h3, _⟩ := fI hp
   have key := Ac3 hm o p t.length ⟨h2, h3⟩ (aZ m t) hlw
   simp only [cI, dY hp] at key
   have hh := yN o p m t hl hr
   rw [hb] at hh
   have hpp : aL Tryz.prog 286 [aA m] (bD true) := by
     rw [← hpr]
     refine aX Tryz.tabOk aE Tryz.func286 rfl rfl ?_
     conv => whnf
     repeat' first | ((first | refine z0 ?_ | (refine zP (fun h => ?_) (fun h => ?_) <;> (try simp only [aB, aD] at h)) | refine zS ?_ | refine zV ?_ | (apply zI; refine zP aK ?_) | (apply zI; refine zP aH ?_) | refine zA ?_ | refine Alt.fst ?_ | refine Or.inl ?_) <;> conv => whnf) | fail
     all_goals (refine bO ?_; first | rfl | (simp_all [dU]; done) | (simp_all [dU]; omega) | (simp_all [dU]; intros; omega))
   refine aX Tryz.tabOk aE Tryz.func194 rfl rfl ?_
   conv => whnf
   repeat' first | ((first | refine z0 ?_ | (apply zI; refine zP (hh) ?_) | (apply zI; refine zP (hpp) ?_) | (apply zI; refine zP (key) ?_) | (refine zP (fun h => ?_) (fun h => ?_) <;> (try simp only [aB, aD, aP, aT, aV, bB] at h) <;> first | (exfalso; first | omega | exact h trivial | (cases h; done)) | skip) | refine Or.inl ?_) <;> conv => whnf) | fail
   all_goals first
     | (exfalso; rename_i hx; cases hx; done)
     | (have hz : aI m t = 0 := by show fW (aZ m t) t.length = 0; omega
        have h4 : bW m t = 4 := by simp [bW, hc, hz]
        rw [h4, if_neg (by omega)]; rfl)
     | (have hz : aI m t ≠ 0 := by show fW (aZ m t) t.length ≠ 0; omega
        have h4 : bW m t = 0 := by simp [bW, hc, hz]
        rw [h4, if_pos rfl]; rfl)
 · have hB : gF m t = false ∨ (gF m t = true ∧ dU m = false) := by
     unfold cT at hc
     cases hl1 : gF m t with
     | false => exact .inl rfl
     | true =>
       refine .inr ⟨rfl, ?_⟩
       cases hp1 : dU m with
       | false => rfl
       | true => simp [hl1, hp1] at hc
   have h4 : bW m t = cT m t := by simp [bW, hc]
   have hh := yN o p m t hl hr
   rw [h4, if_neg hc]
   rcases hB with hB | ⟨hB, hB2⟩
   · have h5 : cT m t = 1 := by simp [cT, hB]
     rw [hB] at hh
     rw [h5]
     refine aX Tryz.tabOk aE Tryz.func194 rfl rfl ?_
     conv => whnf
     repeat' first | ((first | refine z0 ?_ | (apply zI; refine zP (hh) ?_) | (refine zP (fun h => ?_) (fun h => ?_) <;> (try simp only [aB, aD, aP, aT, aV, bB] at h) <;> first | (exfalso; first | omega | exact h trivial | (cases h; done)) | skip) | refine Or.inl ?_) <;> conv => whnf) | fail
     all_goals first | rfl | (exfalso; rename_i hx; cases hx; done)
   · have h5 : cT m t = 5 := by simp [cT, hB, hB2]
     rw [hB] at hh
     rw [h5]
     have hpp : aL Tryz.prog 286 [aA m] (bD false) := by
       rw [← hB2]
       refine aX Tryz.tabOk aE Tryz.func286 rfl rfl ?_
       conv => whnf
       repeat' first | ((first | refine z0 ?_ | (refine zP (fun h => ?_) (fun h => ?_) <;> (try simp only [aB, aD] at h)) | refine zS ?_ | refine zV ?_ | (apply zI; refine zP aK ?_) | (apply zI; refine zP aH ?_) | refine zA ?_ | refine Alt.fst ?_ | refine Or.inl ?_) <;> conv => whnf) | fail
       all_goals (refine bO ?_; first | rfl | (simp_all [dU]; done) | (simp_all [dU]; omega) | (simp_all [dU]; intros; omega))
     refine aX Tryz.tabOk aE Tryz.func194 rfl rfl ?_
     conv => whnf
     repeat' first | ((first | refine z0 ?_ | (apply zI; refine zP (hh) ?_) | (apply zI; refine zP (hpp) ?_) | (refine zP (fun h => ?_) (fun h => ?_) <;> (try simp only [aB, aD, aP, aT, aV, bB] at h) <;> first | (exfalso; first | omega | exact h trivial | (cases h; done)) | skip) | refine Or.inl ?_) <;> conv => whnf) | fail
     all_goals first | rfl | (exfalso; rename_i hx; cases hx; done)
theorem Z3 (o p : Bool) (m : Int) (t : List (List Int)) (hl : t.length ≤ 1048576) (hr : dP t) : aL Tryz.prog 81 [.agg [aA m, .list o 1 (rows p t)]] (qH m t) := by
 have h := Agx o p m t hl hr
 unfold qH at h ⊢
 refine aX Tryz.tabOk aE Tryz.func81 rfl rfl ?_
 conv => whnf
 repeat' first | ((first | refine z0 ?_ | (apply zI; refine zP (h) ?_) | refine Or.inl ?_) <;> conv => whnf) | fail
noncomputable def mH (m : Int) (t : List (List Int)) : D := if kC m t = 0 then .tup [LD true (aI m t) (kF t.length (aZ m t)), aA 0] else .tup [.lit (.slice none 0 0), aA (kC m t)]
theorem Aeu (o p : Bool) (m : Int) (t : List (List Int)) (hl : t.length ≤ 1048576) (hr : dP t) : aL Tryz.prog 84 [.agg [aA m, .list o 1 (rows p t)]] (mH m t) := by
 have key := vH o p m t hl hr
 by_cases h4 : kC m t = 0
 · obtain ⟨hk, hht, hq1, hq2⟩ := fJ h4
   obtain ⟨hb, hpr⟩ := fN hht
   obtain ⟨hp, hlw⟩ := hO hb
   obtain ⟨hm, h2, h3, _⟩ := fI hp
   rw [h4, if_pos rfl] at key
   have hlt : aI m t < t.length := nL (by omega)
   have hiv := fun o p => Als hm o p t.length (by omega) (aZ m t)
   simp only [cI, dY hp] at hiv
   refine aX Tryz.tabOk aE Tryz.func84 rfl rfl ?_
   conv => whnf
   repeat' first | ((first | refine z0 ?_ | (apply zI; refine zP (key) ?_) | (apply zI; refine zP (hiv _ _) ?_) | (apply zI; refine zP (zJ _ _ (by simp; omega)) ?_) | (refine zP (fun h => ?_) (fun h => ?_) <;> (try simp only [aB, aD] at h) <;> first | (exfalso; omega) | skip) | refine zV ?_ | (apply zI; refine zP aH ?_) | refine Or.inl ?_) <;> conv => whnf) | fail
   rw [mH, if_pos h4]
 · rw [if_neg h4] at key
   refine aX Tryz.tabOk aE Tryz.func84 rfl rfl ?_
   conv => whnf
   repeat' first | ((first | refine z0 ?_ | (apply zI; refine zP (key) ?_) | (refine zP (fun h => ?_) (fun h => ?_) <;> (try simp only [aB, aD] at h) <;> first | (exfalso; omega) | skip) | refine Or.inl ?_) <;> conv => whnf) | fail
   rw [mH, if_neg h4]
theorem Aci (o p : Bool) (m : Int) (t : List (List Int)) (hl : t.length ≤ 1048576) (hr : dP t) :
   aL Tryz.prog 83 [.agg [aA m, .list o 1 (rows p t)]] (mH m t) := by
 by_cases hk : bW m t = 0
 · have hht : cT m t = 0 := by
     unfold bW at hk
     split at hk
     · assumption
     · exact hk
   obtain ⟨hb, hpr⟩ := fN hht
   obtain ⟨hp, hlw⟩ := hO hb
   obtain ⟨hm, h2, h3, _⟩ := fI hp
   have hm1 := hm.1
   have hm2 := hm.2
   have key := jP o p m t hl hr
   rw [hk, if_pos rfl] at key
   have hdeg : aL Tryz.prog 124 [.agg [aA m, .list o 1 (rows p t)]] (aA (t.length - 1)) := by
     have := iM (m := m) o p t.length (by omega) (aZ m t)
     simpa only [cI, dY hp] using this
   have hlt : aI m t < t.length := nL (by omega)
   refine aX Tryz.tabOk aE Tryz.func83 rfl rfl ?_
   conv => whnf
   repeat' first | ((first | refine z0 ?_ | refine Or.inr (gN Tryz.tabOk aE _ Tryz.func191 rfl rfl ?_) | (apply zI; refine zP (key) ?_) | (apply zI; refine zP (hdeg) ?_) | (refine zP (fun h => ?_) (fun h => ?_) <;> (try simp only [aB, aD] at h) <;> first | (exfalso; omega) | skip) | refine zV ?_ | refine Or.inl ?_) <;> conv => whnf) | fail
   · have h3 : 2 * ((aI m t : Int) - 1) > (t.length : Int) - 1 := by assumption
     have h4 : kC m t = 3 := by unfold kC; rw [if_pos hk, if_pos h3]
     rw [mH, h4, if_neg (by omega)]
   · have h3 : ¬ 2 * ((aI m t : Int) - 1) > (t.length : Int) - 1 := by assumption
     have h4 : kC m t = 0 := by unfold kC; rw [if_pos hk, if_neg h3]
     have hq1 := (fJ h4).2.2.1
     have hq2 := (fJ h4).2.2.2
     have hyes : D.tup [LD true (aI m t) (kF t.length (aZ m t)), aA 0] = mH m t := by rw [mH, if_pos h4]
     have hge : 2 ≤ aI m t := mB hk hht
     have hT := dY hp
     generalize hf : aZ m t = f at *
     generalize hN : t.length = N at *
     generalize hqq : aI m t = q at *
     rw [← hT]
     refine iQ Tryz.tabOk aE ?_
     conv => whnf
     repeat' first | ((first | (apply zI; refine zP (nA (m := m) q aF aF) ?_) | (apply zI; refine zP (eU (i := 0) aN aJ) ?_) | (apply zI; refine zP (jI (i := 0) (j := 0) _ aN aN aJ aJ) ?_) | (refine zP (fun h => ?_) (fun h => ?_) <;> (try simp only [aB, aD] at h) <;> first | (exfalso; omega) | skip) | refine zV ?_ | refine zP (aJ) ?_ | refine Or.inl ?_) <;> conv => whnf) | fail
     rw [show cR (bA q (0 : PS (PS (Zm m)))) 0 0 1 = bA q (1 : PS (PS (Zm m))) from jS (1 : Zm m) (Zm.val_one (by omega)).symm (by omega) (fun a b _ _ => by
       rw [fP, PS.one_c]
       by_cases ha : a = 0
       · rw [if_pos ha, PS.one_c]
         by_cases hb : b = 0
         · rw [if_pos ⟨ha, hb⟩, if_pos hb]
         · rw [if_neg (by omega), if_neg hb]; rfl
       · rw [if_neg (by omega), if_neg ha]; rfl)]
     refine aR Tryz.tabOk aE (α := Nat) (fun i => [(63, aA i)]) (fun i => [(6, some ⟨false, 1, rows true (bA q (mix i f 0))⟩)]) (fun i => i ≤ q) (fun i => q - i) (0) ?_ ?_ ?_
     · omega
     · conv => whnf
       first | refine aG.autoR ?_ | refine aC.autoR ?_
       conv => whnf
       repeat' ((first | refine z1 ?_ | refine zP ?_ ?_ | exact trivial) <;> try (conv => whnf))
       all_goals rw [kI]
     intro i hi
     conv => whnf
     repeat' first | ((first | (apply zI; refine zP (eU (i := i) aN aJ) ?_) | (apply zI; refine zP (rT (i := i) aN aJ) ?_) | (refine zP (fun h => ?_) (fun h => ?_) <;> (try simp only [aB, aD] at h) <;> first | (exfalso; omega) | skip) | refine zS ?_ | refine zV ?_ | (apply zI; refine zP aH ?_) | refine zP (aJ) ?_ | refine Or.inl ?_) <;> conv => whnf) | fail
     · have hi' : i < q := aJ
       refine Exists.intro (i + 1) (zP aJ (zP aJ ?_))
       first | refine aG.autoR ?_ | refine aC.autoR ?_
       conv => whnf
       repeat' ((first | refine z1 ?_ | refine zP ?_ ?_ | exact trivial) <;> try (conv => whnf))
       simp only [aB, aD, aV, eY, Int.toNat_natCast, Nat.zero_add, List.nil_append]
       rw [← uG]
       exact tE hi' (by omega)
     · have hiq : i = q := aJ
       rw [show bA q (mix i f 0) = bA q f from eS (fun a b ha hb => by rw [eG, if_pos (by omega)])]
       refine aR Tryz.tabOk aE (α := Nat) (fun k => [(84, aA k), (12, .undef), (56, .undef), (57, .undef), (58, .undef), (59, .undef), (60, .undef), (78, .undef), (79, .undef)]) (fun k => [(8, some ⟨false, 1, cE q f (k + 1)⟩), (5, some ⟨true, 1, [aA m, aA q, .ref 8 [] 1 0 (k + 1), aA m, .list o 1 (rows p (Tb N f))]⟩)]) (fun k => k + 1 ≤ q) (fun k => q - k) (0) ?_ ?_ ?_
       · omega
       · conv => whnf
         first | refine aG.autoR ?_ | refine aC.autoR ?_
         conv => whnf
         repeat' ((first | refine z1 ?_ | refine zP ?_ ?_ | exact trivial) <;> try (conv => whnf))
       intro k hkq
       conv => whnf
       repeat' first | ((first | refine z0 ?_ | (apply zI; refine zP (pY k aN aJ) ?_) | (apply zI; refine zP (pN k aN aJ) ?_) | (apply zI; refine zP (nK aJ) ?_) | (apply zI; refine zP (kW aJ) ?_) | (apply zI; refine zP (tA hm q aF _ _ _ _ _ _ _ (pw f k) f) ?_) | (refine zP (fun h => ?_) (fun h => ?_) <;> (try simp only [aB, aD] at h) <;> first | (exfalso; omega) | skip) | refine zS ?_ | refine zV ?_ | (apply zI; refine zP aH ?_) | refine zP (tC aJ) ?_ | refine zP (qO aJ) ?_ | refine zP (rX _) ?_ | refine zP (aJ) ?_ | refine Alt.fst ?_ | refine Or.inl ?_) <;> conv => whnf) | fail
       · refine Exists.intro (k + 1) (zP aJ (zP aJ ?_))
         first | refine aG.autoR ?_ | refine aC.autoR ?_
         conv => whnf
         repeat' ((first | refine z1 ?_ | refine zP ?_ ?_ | exact trivial) <;> try (conv => whnf))
         exact rA rfl
       · have hkq' : k + 1 = q := aJ
         subst hkq'
         have hiv := fun o p => Amo hm o p N (by omega) f
         repeat' first | ((first | refine z0 ?_ | (apply zI; refine zP (hiv _ _) ?_) | (apply zI; refine zP (Ae4 _ _ (by simp; omega)) ?_) | refine zV ?_ | (apply zI; refine zP aH ?_) | refine Or.inl ?_) <;> conv => whnf) | fail
         rw [hT, ← hyes]
 · refine aX Tryz.tabOk aE Tryz.func83 rfl rfl ?_
   conv => whnf
   have key := jP o p m t hl hr
   rw [if_neg hk] at key
   repeat' first | ((first | refine z0 ?_ | refine Or.inr (gN Tryz.tabOk aE _ Tryz.func191 rfl rfl ?_) | (apply zI; refine zP (key) ?_) | (refine zP (fun h => ?_) (fun h => ?_) <;> (try simp only [aB, aD] at h) <;> first | (exfalso; omega) | skip) | refine Or.inl ?_) <;> conv => whnf) | fail
   have h4 : kC m t = bW m t := by unfold kC; rw [if_neg hk]
   rw [mH, h4, if_neg hk]
set_option maxHeartbeats 4000000
end Go.Proofs
namespace Go.Proofs
open Go Go.Vm Go.Fg Go.Fg.PS
set_option maxRecDepth 100000
set_option maxHeartbeats 4000000
set_option linter.unusedSimpArgs false
set_option linter.unusedVariables false
variable {m : Int}
theorem sJ (o p o' p' : Bool) (t : List (List Int)) (hl : t.length ≤ 1048576) (hr : dP t) : aL Tryz.prog 78 [.list o 1 (rows p t), .list o' 1 (rows p' t)] (bD true) := by
 refine aX Tryz.tabOk aE Tryz.func78 rfl rfl ?_
 conv => whnf
 repeat' first | ((first | refine z0 ?_ | (refine zP (fun h => ?_) (fun h => ?_) <;> (try simp only [aB, aD, aP, aT, aV, bB] at h) <;> first | (exfalso; first | omega | exact h trivial | (cases h; done)) | skip) | refine zV ?_ | (apply zI; refine zP aK ?_) | (apply zI; refine zP aH ?_)) <;> conv => whnf) | fail
 refine aR Tryz.tabOk aE (α := Nat) (fun i => [(5, aA i)]) (fun i => []) (fun i => i ≤ t.length) (fun i => t.length - i) (0) ?_ ?_ ?_
 · omega
 · conv => whnf
   first | refine aG.autoR ?_ | refine aC.autoR ?_
   conv => whnf
   repeat' ((first | refine z1 ?_ | refine zP ?_ ?_ | exact trivial) <;> try (conv => whnf))
 intro i hi
 conv => whnf
 by_cases hin : i < t.length
 · have hli := hr i hin
   have hc := lG p p' (t.getD i []) (t.getD i []) (by omega) (by omega)
   rw [show decide (t.getD i [] = t.getD i []) = true by simp] at hc
   repeat' first | ((first | (apply zI; refine zP (hc) ?_) | (refine zP (fun h => ?_) (fun h => ?_) <;> (try simp only [aB, aD, aP, aT, aV, bB] at h) <;> first | (exfalso; first | omega | exact h trivial | (cases h; done)) | skip) | refine zS ?_ | refine zV ?_ | (apply zI; refine zP aH ?_) | refine Alt.fst ?_ | refine Or.inl ?_) <;> conv => whnf) | fail
   · refine Exists.intro (i + 1) ⟨?_, ?_, ?_⟩
     · omega
     · omega
     first | refine aG.autoR ?_ | refine aC.autoR ?_
     conv => whnf
     repeat' ((first | refine z1 ?_ | refine zP ?_ ?_ | exact trivial) <;> try (conv => whnf))
   all_goals (exfalso; simp_all; done)
 · repeat' first | ((first | refine z0 ?_ | (refine zP (fun h => ?_) (fun h => ?_) <;> (try simp only [aB, aD, aP, aT, aV, bB] at h) <;> first | (exfalso; first | omega | exact h trivial | (cases h; done)) | skip) | refine zV ?_ | (apply zI; refine zP aK ?_) | (apply zI; refine zP aH ?_)) <;> conv => whnf) | fail
   all_goals first | rfl
theorem vM : aL Tryz.prog 78 [.lit (.slice none 0 0), .lit (.slice none 0 0)] (bD true) := by
 refine aX Tryz.tabOk aE Tryz.func78 rfl rfl ?_
 conv => whnf
 repeat' first | ((first | refine z0 ?_ | (refine zP (fun h => ?_) (fun h => ?_) <;> (try simp only [aB, aD, aP, aT, aV, bB] at h) <;> first | (exfalso; first | omega | exact h trivial | (cases h; done)) | skip) | refine zV ?_ | (apply zI; refine zP aK ?_) | (apply zI; refine zP aH ?_)) <;> conv => whnf) | fail
 refine aR Tryz.tabOk aE (α := Nat) (fun i => [(5, aA i)]) (fun i => []) (fun i => i ≤ 0) (fun i => 0) (0) ?_ ?_ ?_
 · omega
 · conv => whnf
   first | refine aG.autoR ?_ | refine aC.autoR ?_
   conv => whnf
   repeat' ((first | refine z1 ?_ | refine zP ?_ ?_ | exact trivial) <;> try (conv => whnf))
 intro i hi
 conv => whnf
 repeat' first | ((first | refine z0 ?_ | (refine zP (fun h => ?_) (fun h => ?_) <;> (try simp only [aB, aD, aP, aT, aV, bB] at h) <;> first | (exfalso; first | omega | exact h trivial | (cases h; done)) | skip) | refine zV ?_ | (apply zI; refine zP aK ?_) | (apply zI; refine zP aH ?_)) <;> conv => whnf) | fail
end Go.Proofs
