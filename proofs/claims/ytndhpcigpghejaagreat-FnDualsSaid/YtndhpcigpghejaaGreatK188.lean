import Derived.Test.YtndhpcigpghejaaGreatK186
import Derived.Test.YtndhpcigpghejaaGreatK181
namespace Go.Proofs
open Go Go.Vm Go.Fg Go.Fg.PS
set_option maxRecDepth 100000
set_option maxHeartbeats 8000000
set_option linter.unusedSimpArgs false
set_option linter.unusedVariables false
variable {m : Int}
theorem md_typ {p : Nat} (hp : p = 2 ∨ p = 3 ∨ p = 5 ∨ p = 7) {d : Int} (hd : 1 ≤ d ∧ d ≤ 10) : Md ((p : Int) * qP p (kM p d) * p) := by
 obtain ⟨q1, q2, q3, q4⟩ := qP_ok hp hd
 rw [q1]
 generalize p ^ kM p d = q at *
 rcases hp with rfl | rfl | rfl | rfl <;> exact ⟨by omega, by omega⟩
theorem c_l17Draw (hW : Wei) (o : Bool) (l : List Nat) (hb : ∀ b ∈ l, b < 256) (hl : l.length ≤ 4611686018427387904) (a : Nat) (ha : a ≤ l.length) (hs : Int) :
   CallsTo Tryz.prog 296 2 [.ptr 1 [] 0] [none, some (srcR o l a hs)]
     (fun d rt => ∃ (m : Int) (t : List (List Int)) (a' : Nat) (h' : Int), (1 ≤ m ∧ m ≤ 10001) ∧ smT t ∧ a' ≤ l.length ∧ d = plF m t ∧ rt = [none, some (srcR o l a' h')]) := by
 refine callsTo_of Tryz.tabOk mixOrd 2 _ Tryz.func296 rfl rfl ?_
 conv => whnf
 repeat' first | (refine borA [1] (c_l01Next o l hb hl a ha hs 8) (fun d rt' hd => ?_)) | fail
 obtain ⟨x, a1, h1, hx, ha1, rfl, rfl⟩ := hd
 refine ⟨rfl, by simp, ?_⟩
 conv => whnf
 have hx2 := hx.2 (by omega)
 repeat' first | (refine borA [1] (c_l04Spoil hW o l hb hl a1 ha1 h1) (fun d rt' hd => ?_)) | (refine borA [1, 3] (c_l01Pick o l hb hl a1 ha1 h1 [2, 2, 3, 3, 5] (by simp)) (fun d rt' hd => ?_)) | ((first | (refine And.intro (fun h => ?_) (fun h => ?_) <;> (try simp only [cnt1, ints_length, rows_length, Tb_length, L_length, byts_length] at h) <;> first | (exfalso; first | omega | exact h trivial | (cases h; done)) | skip)) <;> conv => whnf) | fail
 · obtain ⟨m, t, a2, h2, hm, ht, ha2, rfl, rfl⟩ := hd
   refine ⟨rfl, by simp, ?_⟩
   conv => whnf
   repeat' first | ((first | refine z0 ?_ | refine And.intro (show (_ : List (Option Root))[_]? = _ from rfl) ?_ | (refine And.intro (fun h => ?_) (fun h => ?_) <;> (try simp only [cnt1, ints_length, rows_length, Tb_length, L_length, byts_length] at h) <;> first | (exfalso; first | omega | exact h trivial | (cases h; done)) | skip) | refine zS ?_ | refine zV ?_ | (apply zI; refine zP vObt ?_) | (apply zI; refine zP vObx ?_)) <;> conv => whnf) | fail
   refine ⟨plF m t, [none, some (srcR o l a2 h2)], ⟨m, t, a2, h2, hm, ht, ha2, rfl, rfl⟩, Weak.of (kp := 2) [none, some 1] ?_⟩
   conv => whnf
   repeat' ((first | refine z1 ?_ | exact trivial) <;> try (conv => whnf))
 · obtain ⟨p, a2, h2, hm, ha2, rfl, rfl⟩ := hd
   refine ⟨rfl, by simp, ?_⟩
   conv => whnf
   obtain ⟨pn, rfl, hp⟩ : ∃ pn : Nat, p = (pn : Int) ∧ (pn = 2 ∨ pn = 3 ∨ pn = 5 ∨ pn = 7) := by
     simp only [List.mem_cons, List.not_mem_nil, or_false] at hm
     exact ⟨p.toNat, by omega, by omega⟩
   have hmd : Md (pn : Int) := ⟨by omega, by omega⟩
   have hp5 : 2 ≤ pn ∧ pn ≤ 5 := by
     simp only [List.mem_cons, List.not_mem_nil, or_false] at hm
     omega
   repeat' first | (refine borA [1] (c_l01Next o l hb hl a2 ha2 h2 3) (fun d rt' hd => ?_)) | ((first | refine zV ?_) <;> conv => whnf) | fail
   obtain ⟨v, a3, h3, hv, ha3, rfl, rfl⟩ := hd
   refine ⟨rfl, by simp, ?_⟩
   conv => whnf
   have hv2 := hv.2 (by omega)
   by_cases hp2 : pn = 2
   · subst hp2
     repeat' first | (refine borA [1] (c_l01Next o l hb hl a3 ha3 h3 2) (fun d rt' hd => ?_)) | ((first | (refine And.intro (fun h => ?_) (fun h => ?_) <;> (try simp only [cnt1, ints_length, rows_length, Tb_length, L_length, byts_length] at h) <;> first | (exfalso; first | omega | exact h trivial | (cases h; done)) | skip) | refine zV ?_) <;> conv => whnf) | fail
     obtain ⟨y, a4, h4, hy, ha4, rfl, rfl⟩ := hd
     refine ⟨rfl, by simp, ?_⟩
     conv => whnf
     have hy2 := hy.2 (by omega)
     by_cases hy0 : y = 0
     · subst hy0
       repeat' first | (refine borA [1] (c_l01Next o l hb hl a4 ha4 h4 3) (fun d rt' hd => ?_)) | ((first | (refine And.intro (fun h => ?_) (fun h => ?_) <;> (try simp only [cnt1, ints_length, rows_length, Tb_length, L_length, byts_length] at h) <;> first | (exfalso; first | omega | exact h trivial | (cases h; done)) | skip)) <;> conv => whnf) | fail
       obtain ⟨e, a9, h9, he, ha9, rfl, rfl⟩ := hd
       refine ⟨rfl, by simp, ?_⟩
       conv => whnf
       have he2 := he.2 (by omega)
       obtain ⟨n, hnd⟩ : ∃ n : Nat, n = ((6 + e) + 1).toNat := ⟨_, rfl⟩
       have hdn : (6 + e) + 1 = (n : Int) := by omega
       have hn : 2 ≤ n ∧ n ≤ 11 := by omega
       repeat' first | (refine borA [1] (c_l01Next o l hb hl a9 ha9 h9 3) (fun d rt' hd => ?_)) | ((first | refine zV ?_) <;> conv => whnf) | fail
       obtain ⟨u, a5, h5, hu, ha5, rfl, rfl⟩ := hd
       refine ⟨rfl, by simp, ?_⟩
       conv => whnf
       have hu2 := hu.2 (by omega)
       by_cases hu0 : u = 0
       · subst hu0
         repeat' first | (refine borA [1] (c_l04With hmd o l hb hl a5 ha5 h5 n hn (d := (6 + e)) hdn (fun o a => hW ((2 : Nat) : Int) hmd n hn ((6 + e)) hdn o a)) (fun d rt' hd => ?_)) | ((first | (refine And.intro (fun h => ?_) (fun h => ?_) <;> (try simp only [cnt1, ints_length, rows_length, Tb_length, L_length, byts_length] at h) <;> first | (exfalso; first | omega | exact h trivial | (cases h; done)) | skip)) <;> conv => whnf) | fail
         obtain ⟨F, a6, h6, ha6, rfl, rfl⟩ := hd
         refine ⟨rfl, by simp, ?_⟩
         conv => whnf
         repeat' first | ((first | refine z0 ?_ | refine And.intro (show (_ : List (Option Root))[_]? = _ from rfl) ?_ | (refine And.intro (fun h => ?_) (fun h => ?_) <;> (try simp only [cnt1, ints_length, rows_length, Tb_length, L_length, byts_length] at h) <;> first | (exfalso; first | omega | exact h trivial | (cases h; done)) | skip) | refine zS ?_ | refine zV ?_ | (apply zI; refine zP vObt ?_) | (apply zI; refine zP vObx ?_)) <;> conv => whnf) | fail
         first
           | (refine ⟨plF ((2 : Nat) : Int) (Tb n F), [none, some (srcR o l a6 h6)], ⟨((2 : Nat) : Int), Tb n F, a6, h6, ⟨by omega, by omega⟩, smT_Tb (by omega) F, ha6, rfl, rfl⟩, Weak.trans (Weak.freezeR (kp := 2) (r := 4) (s0 := 1) (env' := [plF ((2 : Nat) : Int) (Tb n F)]) rfl rfl (fz_one (fz_pl (by simp [cnt1]) (by rw [List.drop_zero, List.take_of_length_le (by simp [cnt1])])))) (wkA (kp := 2) [none, some 1])⟩)
       · repeat' first | (refine borA [1] (c_l01Next o l hb hl a5 ha5 h5 ((2 : Nat) : Int)) (fun d rt' hd => ?_)) | ((first | (refine And.intro (fun h => ?_) (fun h => ?_) <;> (try simp only [cnt1, ints_length, rows_length, Tb_length, L_length, byts_length] at h) <;> first | (exfalso; first | omega | exact h trivial | (cases h; done)) | skip)) <;> conv => whnf) | fail
         obtain ⟨z, a6, h6, hz, ha6, rfl, rfl⟩ := hd
         refine ⟨rfl, by simp, ?_⟩
         conv => whnf
         have hz2 := hz.2 (by omega)
         obtain ⟨F, hF⟩ := c_l09Law hmd 2 hp n hn hdn (md_typ hp (by omega)) false [z, 1] (by simp) (fun x hx => by simp only [List.mem_cons, List.not_mem_nil, or_false] at hx; omega)
         repeat' first | (refine borA [1] (c_l01Next o l hb hl a6 ha6 h6 2) (fun d rt' hd => ?_)) | ((first | (apply zI; refine zP (hF) ?_) | refine zV ?_ | (apply zI; refine zP vObx ?_) | refine Or.inl ?_) <;> conv => whnf) | fail
         obtain ⟨w, a7, h7, hw, ha7, rfl, rfl⟩ := hd
         refine ⟨rfl, by simp, ?_⟩
         conv => whnf
         have hw2 := hw.2 (by omega)
         by_cases hw0 : w = 0
         · subst hw0
           repeat' first | (refine borA [1] (c_l04DrawCurve hmd o l hb hl a7 ha7 h7 n hn hdn) (fun d rt' hd => ?_)) | ((first | (refine And.intro (fun h => ?_) (fun h => ?_) <;> (try simp only [cnt1, ints_length, rows_length, Tb_length, L_length, byts_length] at h) <;> first | (exfalso; first | omega | exact h trivial | (cases h; done)) | skip)) <;> conv => whnf) | fail
           obtain ⟨b, a8, h8, hb8, ha8, rfl, rfl⟩ := hd
           refine ⟨rfl, by simp, ?_⟩
           conv => whnf
           repeat' first | ((first | refine z0 ?_ | (apply zI; refine zP (c_l06Conjugate hmd _ _ _ n hn F b) ?_) | refine Or.inl (Or.inr (And.intro (mk_l03Make) ?_)) | refine zV ?_ | (apply zI; refine zP vObt ?_) | (apply zI; refine zP vObx ?_) | refine Or.inl ?_) <;> conv => whnf) | fail
           first
             | (refine ⟨plF ((2 : Nat) : Int) (Tb n (comp2N b (bI F (rev (invN ((2 : Nat) : Int) (b.c 1).val) b) (rev (invN ((2 : Nat) : Int) (b.c 1).val) b) n n) 0 n)), [none, some (srcR o l a8 h8)], ⟨((2 : Nat) : Int), Tb n (comp2N b (bI F (rev (invN ((2 : Nat) : Int) (b.c 1).val) b) (rev (invN ((2 : Nat) : Int) (b.c 1).val) b) n n) 0 n), a8, h8, ⟨by omega, by omega⟩, smT_Tb (by omega) (comp2N b (bI F (rev (invN ((2 : Nat) : Int) (b.c 1).val) b) (rev (invN ((2 : Nat) : Int) (b.c 1).val) b) n n) 0 n), ha8, rfl, rfl⟩, Weak.trans (Weak.freezeR (kp := 2) (r := 7) (s0 := 1) (env' := [plF ((2 : Nat) : Int) (Tb n (comp2N b (bI F (rev (invN ((2 : Nat) : Int) (b.c 1).val) b) (rev (invN ((2 : Nat) : Int) (b.c 1).val) b) n n) 0 n))]) rfl rfl (fz_one (fz_pl (by simp [cnt1]) (by rw [List.drop_zero, List.take_of_length_le (by simp [cnt1])])))) (wkA (kp := 2) [none, some 1])⟩)
         · repeat' first | ((first | refine z0 ?_ | refine Or.inl (Or.inr (And.intro (mk_l03Make) ?_)) | (refine And.intro (fun h => ?_) (fun h => ?_) <;> (try simp only [cnt1, ints_length, rows_length, Tb_length, L_length, byts_length] at h) <;> first | (exfalso; first | omega | exact h trivial | (cases h; done)) | skip) | refine Or.inl ?_) <;> conv => whnf) | fail
           first
             | (refine ⟨plF ((2 : Nat) : Int) (Tb n F), [none, some (srcR o l a7 h7)], ⟨((2 : Nat) : Int), Tb n F, a7, h7, ⟨by omega, by omega⟩, smT_Tb (by omega) F, ha7, rfl, rfl⟩, Weak.trans (Weak.freezeR (kp := 2) (r := 5) (s0 := 1) (env' := [plF ((2 : Nat) : Int) (Tb n F)]) rfl rfl (fz_one (fz_pl (by simp [cnt1]) (by rw [List.drop_zero, List.take_of_length_le (by simp [cnt1])])))) (wkA (kp := 2) [none, some 1])⟩)
     · skip
       obtain ⟨n, hnd⟩ : ∃ n : Nat, n = ((2 * (((2 : Nat) : Int) - 1) + v) + 1).toNat := ⟨_, rfl⟩
       have hdn : (2 * (((2 : Nat) : Int) - 1) + v) + 1 = (n : Int) := by omega
       have hn : 2 ≤ n ∧ n ≤ 11 := by omega
       repeat' first | (refine borA [1] (c_l01Next o l hb hl a4 ha4 h4 3) (fun d rt' hd => ?_)) | ((first | (refine And.intro (fun h => ?_) (fun h => ?_) <;> (try simp only [cnt1, ints_length, rows_length, Tb_length, L_length, byts_length] at h) <;> first | (exfalso; first | omega | exact h trivial | (cases h; done)) | skip)) <;> conv => whnf) | fail
       obtain ⟨u, a5, h5, hu, ha5, rfl, rfl⟩ := hd
       refine ⟨rfl, by simp, ?_⟩
       conv => whnf
       have hu2 := hu.2 (by omega)
       by_cases hu0 : u = 0
       · subst hu0
         repeat' first | (refine borA [1] (c_l04With hmd o l hb hl a5 ha5 h5 n hn (d := (2 * (((2 : Nat) : Int) - 1) + v)) hdn (fun o a => hW ((2 : Nat) : Int) hmd n hn ((2 * (((2 : Nat) : Int) - 1) + v)) hdn o a)) (fun d rt' hd => ?_)) | ((first | (refine And.intro (fun h => ?_) (fun h => ?_) <;> (try simp only [cnt1, ints_length, rows_length, Tb_length, L_length, byts_length] at h) <;> first | (exfalso; first | omega | exact h trivial | (cases h; done)) | skip)) <;> conv => whnf) | fail
         obtain ⟨F, a6, h6, ha6, rfl, rfl⟩ := hd
         refine ⟨rfl, by simp, ?_⟩
         conv => whnf
         repeat' first | ((first | refine z0 ?_ | refine And.intro (show (_ : List (Option Root))[_]? = _ from rfl) ?_ | (refine And.intro (fun h => ?_) (fun h => ?_) <;> (try simp only [cnt1, ints_length, rows_length, Tb_length, L_length, byts_length] at h) <;> first | (exfalso; first | omega | exact h trivial | (cases h; done)) | skip) | refine zS ?_ | refine zV ?_ | (apply zI; refine zP vObt ?_) | (apply zI; refine zP vObx ?_)) <;> conv => whnf) | fail
         first
           | (refine ⟨plF ((2 : Nat) : Int) (Tb n F), [none, some (srcR o l a6 h6)], ⟨((2 : Nat) : Int), Tb n F, a6, h6, ⟨by omega, by omega⟩, smT_Tb (by omega) F, ha6, rfl, rfl⟩, Weak.trans (Weak.freezeR (kp := 2) (r := 4) (s0 := 1) (env' := [plF ((2 : Nat) : Int) (Tb n F)]) rfl rfl (fz_one (fz_pl (by simp [cnt1]) (by rw [List.drop_zero, List.take_of_length_le (by simp [cnt1])])))) (wkA (kp := 2) [none, some 1])⟩)
       · repeat' first | (refine borA [1] (c_l01Next o l hb hl a5 ha5 h5 ((2 : Nat) : Int)) (fun d rt' hd => ?_)) | ((first | (refine And.intro (fun h => ?_) (fun h => ?_) <;> (try simp only [cnt1, ints_length, rows_length, Tb_length, L_length, byts_length] at h) <;> first | (exfalso; first | omega | exact h trivial | (cases h; done)) | skip)) <;> conv => whnf) | fail
         obtain ⟨z, a6, h6, hz, ha6, rfl, rfl⟩ := hd
         refine ⟨rfl, by simp, ?_⟩
         conv => whnf
         have hz2 := hz.2 (by omega)
         obtain ⟨F, hF⟩ := c_l09Law hmd 2 hp n hn hdn (md_typ hp (by omega)) false [z, 1] (by simp) (fun x hx => by simp only [List.mem_cons, List.not_mem_nil, or_false] at hx; omega)
         repeat' first | (refine borA [1] (c_l01Next o l hb hl a6 ha6 h6 2) (fun d rt' hd => ?_)) | ((first | (apply zI; refine zP (hF) ?_) | refine zV ?_ | (apply zI; refine zP vObx ?_) | refine Or.inl ?_) <;> conv => whnf) | fail
         obtain ⟨w, a7, h7, hw, ha7, rfl, rfl⟩ := hd
         refine ⟨rfl, by simp, ?_⟩
         conv => whnf
         have hw2 := hw.2 (by omega)
         by_cases hw0 : w = 0
         · subst hw0
           repeat' first | (refine borA [1] (c_l04DrawCurve hmd o l hb hl a7 ha7 h7 n hn hdn) (fun d rt' hd => ?_)) | ((first | (refine And.intro (fun h => ?_) (fun h => ?_) <;> (try simp only [cnt1, ints_length, rows_length, Tb_length, L_length, byts_length] at h) <;> first | (exfalso; first | omega | exact h trivial | (cases h; done)) | skip)) <;> conv => whnf) | fail
           obtain ⟨b, a8, h8, hb8, ha8, rfl, rfl⟩ := hd
           refine ⟨rfl, by simp, ?_⟩
           conv => whnf
           repeat' first | ((first | refine z0 ?_ | (apply zI; refine zP (c_l06Conjugate hmd _ _ _ n hn F b) ?_) | refine Or.inl (Or.inr (And.intro (mk_l03Make) ?_)) | refine zV ?_ | (apply zI; refine zP vObt ?_) | (apply zI; refine zP vObx ?_) | refine Or.inl ?_) <;> conv => whnf) | fail
           first
             | (refine ⟨plF ((2 : Nat) : Int) (Tb n (comp2N b (bI F (rev (invN ((2 : Nat) : Int) (b.c 1).val) b) (rev (invN ((2 : Nat) : Int) (b.c 1).val) b) n n) 0 n)), [none, some (srcR o l a8 h8)], ⟨((2 : Nat) : Int), Tb n (comp2N b (bI F (rev (invN ((2 : Nat) : Int) (b.c 1).val) b) (rev (invN ((2 : Nat) : Int) (b.c 1).val) b) n n) 0 n), a8, h8, ⟨by omega, by omega⟩, smT_Tb (by omega) (comp2N b (bI F (rev (invN ((2 : Nat) : Int) (b.c 1).val) b) (rev (invN ((2 : Nat) : Int) (b.c 1).val) b) n n) 0 n), ha8, rfl, rfl⟩, Weak.trans (Weak.freezeR (kp := 2) (r := 7) (s0 := 1) (env' := [plF ((2 : Nat) : Int) (Tb n (comp2N b (bI F (rev (invN ((2 : Nat) : Int) (b.c 1).val) b) (rev (invN ((2 : Nat) : Int) (b.c 1).val) b) n n) 0 n))]) rfl rfl (fz_one (fz_pl (by simp [cnt1]) (by rw [List.drop_zero, List.take_of_length_le (by simp [cnt1])])))) (wkA (kp := 2) [none, some 1])⟩)
         · repeat' first | ((first | refine z0 ?_ | refine Or.inl (Or.inr (And.intro (mk_l03Make) ?_)) | (refine And.intro (fun h => ?_) (fun h => ?_) <;> (try simp only [cnt1, ints_length, rows_length, Tb_length, L_length, byts_length] at h) <;> first | (exfalso; first | omega | exact h trivial | (cases h; done)) | skip) | refine Or.inl ?_) <;> conv => whnf) | fail
           first
             | (refine ⟨plF ((2 : Nat) : Int) (Tb n F), [none, some (srcR o l a7 h7)], ⟨((2 : Nat) : Int), Tb n F, a7, h7, ⟨by omega, by omega⟩, smT_Tb (by omega) F, ha7, rfl, rfl⟩, Weak.trans (Weak.freezeR (kp := 2) (r := 5) (s0 := 1) (env' := [plF ((2 : Nat) : Int) (Tb n F)]) rfl rfl (fz_one (fz_pl (by simp [cnt1]) (by rw [List.drop_zero, List.take_of_length_le (by simp [cnt1])])))) (wkA (kp := 2) [none, some 1])⟩)
   · have hp2' : ¬ (pn : Int) = 2 := by omega
     obtain ⟨n, hnd⟩ : ∃ n : Nat, n = ((2 * ((pn : Int) - 1) + v) + 1).toNat := ⟨_, rfl⟩
     have hdn : (2 * ((pn : Int) - 1) + v) + 1 = (n : Int) := by omega
     have hn : 2 ≤ n ∧ n ≤ 11 := by omega
     repeat' first | (refine borA [1] (c_l01Next o l hb hl a3 ha3 h3 3) (fun d rt' hd => ?_)) | ((first | (refine And.intro (fun h => ?_) (fun h => ?_) <;> (try simp only [cnt1, ints_length, rows_length, Tb_length, L_length, byts_length] at h) <;> first | (exfalso; first | omega | exact h trivial | (cases h; done)) | skip) | refine zV ?_) <;> conv => whnf) | fail
     obtain ⟨u, a5, h5, hu, ha5, rfl, rfl⟩ := hd
     refine ⟨rfl, by simp, ?_⟩
     conv => whnf
     have hu2 := hu.2 (by omega)
     by_cases hu0 : u = 0
     · subst hu0
       repeat' first | (refine borA [1] (c_l04With hmd o l hb hl a5 ha5 h5 n hn (d := (2 * ((pn : Int) - 1) + v)) hdn (fun o a => hW (pn : Int) hmd n hn ((2 * ((pn : Int) - 1) + v)) hdn o a)) (fun d rt' hd => ?_)) | ((first | (refine And.intro (fun h => ?_) (fun h => ?_) <;> (try simp only [cnt1, ints_length, rows_length, Tb_length, L_length, byts_length] at h) <;> first | (exfalso; first | omega | exact h trivial | (cases h; done)) | skip)) <;> conv => whnf) | fail
       obtain ⟨F, a6, h6, ha6, rfl, rfl⟩ := hd
       refine ⟨rfl, by simp, ?_⟩
       conv => whnf
       repeat' first | ((first | refine z0 ?_ | refine And.intro (show (_ : List (Option Root))[_]? = _ from rfl) ?_ | (refine And.intro (fun h => ?_) (fun h => ?_) <;> (try simp only [cnt1, ints_length, rows_length, Tb_length, L_length, byts_length] at h) <;> first | (exfalso; first | omega | exact h trivial | (cases h; done)) | skip) | refine zS ?_ | refine zV ?_ | (apply zI; refine zP vObt ?_) | (apply zI; refine zP vObx ?_)) <;> conv => whnf) | fail
       first
         | (refine ⟨plF (pn : Int) (Tb n F), [none, some (srcR o l a6 h6)], ⟨(pn : Int), Tb n F, a6, h6, ⟨by omega, by omega⟩, smT_Tb (by omega) F, ha6, rfl, rfl⟩, Weak.trans (Weak.freezeR (kp := 2) (r := 4) (s0 := 1) (env' := [plF (pn : Int) (Tb n F)]) rfl rfl (fz_one (fz_pl (by simp [cnt1]) (by rw [List.drop_zero, List.take_of_length_le (by simp [cnt1])])))) (wkA (kp := 2) [none, some 1])⟩)
     · repeat' first | (refine borA [1] (c_l01Next o l hb hl a5 ha5 h5 (pn : Int)) (fun d rt' hd => ?_)) | ((first | (refine And.intro (fun h => ?_) (fun h => ?_) <;> (try simp only [cnt1, ints_length, rows_length, Tb_length, L_length, byts_length] at h) <;> first | (exfalso; first | omega | exact h trivial | (cases h; done)) | skip)) <;> conv => whnf) | fail
       obtain ⟨z, a6, h6, hz, ha6, rfl, rfl⟩ := hd
       refine ⟨rfl, by simp, ?_⟩
       conv => whnf
       have hz2 := hz.2 (by omega)
       obtain ⟨F, hF⟩ := c_l09Law hmd pn hp n hn hdn (md_typ hp (by omega)) false [z, 1] (by simp) (fun x hx => by simp only [List.mem_cons, List.not_mem_nil, or_false] at hx; omega)
       repeat' first | (refine borA [1] (c_l01Next o l hb hl a6 ha6 h6 2) (fun d rt' hd => ?_)) | ((first | (apply zI; refine zP (hF) ?_) | refine zV ?_ | (apply zI; refine zP vObx ?_) | refine Or.inl ?_) <;> conv => whnf) | fail
       obtain ⟨w, a7, h7, hw, ha7, rfl, rfl⟩ := hd
       refine ⟨rfl, by simp, ?_⟩
       conv => whnf
       have hw2 := hw.2 (by omega)
       by_cases hw0 : w = 0
       · subst hw0
         repeat' first | (refine borA [1] (c_l04DrawCurve hmd o l hb hl a7 ha7 h7 n hn hdn) (fun d rt' hd => ?_)) | ((first | (refine And.intro (fun h => ?_) (fun h => ?_) <;> (try simp only [cnt1, ints_length, rows_length, Tb_length, L_length, byts_length] at h) <;> first | (exfalso; first | omega | exact h trivial | (cases h; done)) | skip)) <;> conv => whnf) | fail
         obtain ⟨b, a8, h8, hb8, ha8, rfl, rfl⟩ := hd
         refine ⟨rfl, by simp, ?_⟩
         conv => whnf
         repeat' first | ((first | refine z0 ?_ | (apply zI; refine zP (c_l06Conjugate hmd _ _ _ n hn F b) ?_) | refine Or.inl (Or.inr (And.intro (mk_l03Make) ?_)) | refine zV ?_ | (apply zI; refine zP vObt ?_) | (apply zI; refine zP vObx ?_) | refine Or.inl ?_) <;> conv => whnf) | fail
         first
           | (refine ⟨plF (pn : Int) (Tb n (comp2N b (bI F (rev (invN (pn : Int) (b.c 1).val) b) (rev (invN (pn : Int) (b.c 1).val) b) n n) 0 n)), [none, some (srcR o l a8 h8)], ⟨(pn : Int), Tb n (comp2N b (bI F (rev (invN (pn : Int) (b.c 1).val) b) (rev (invN (pn : Int) (b.c 1).val) b) n n) 0 n), a8, h8, ⟨by omega, by omega⟩, smT_Tb (by omega) (comp2N b (bI F (rev (invN (pn : Int) (b.c 1).val) b) (rev (invN (pn : Int) (b.c 1).val) b) n n) 0 n), ha8, rfl, rfl⟩, Weak.trans (Weak.freezeR (kp := 2) (r := 7) (s0 := 1) (env' := [plF (pn : Int) (Tb n (comp2N b (bI F (rev (invN (pn : Int) (b.c 1).val) b) (rev (invN (pn : Int) (b.c 1).val) b) n n) 0 n))]) rfl rfl (fz_one (fz_pl (by simp [cnt1]) (by rw [List.drop_zero, List.take_of_length_le (by simp [cnt1])])))) (wkA (kp := 2) [none, some 1])⟩)
       · repeat' first | ((first | refine z0 ?_ | refine Or.inl (Or.inr (And.intro (mk_l03Make) ?_)) | (refine And.intro (fun h => ?_) (fun h => ?_) <;> (try simp only [cnt1, ints_length, rows_length, Tb_length, L_length, byts_length] at h) <;> first | (exfalso; first | omega | exact h trivial | (cases h; done)) | skip) | refine Or.inl ?_) <;> conv => whnf) | fail
         first
           | (refine ⟨plF (pn : Int) (Tb n F), [none, some (srcR o l a7 h7)], ⟨(pn : Int), Tb n F, a7, h7, ⟨by omega, by omega⟩, smT_Tb (by omega) F, ha7, rfl, rfl⟩, Weak.trans (Weak.freezeR (kp := 2) (r := 5) (s0 := 1) (env' := [plF (pn : Int) (Tb n F)]) rfl rfl (fz_one (fz_pl (by simp [cnt1]) (by rw [List.drop_zero, List.take_of_length_le (by simp [cnt1])])))) (wkA (kp := 2) [none, some 1])⟩)
end Go.Proofs
