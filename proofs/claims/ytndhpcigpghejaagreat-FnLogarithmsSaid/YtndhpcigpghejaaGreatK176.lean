import Derived.Test.YtndhpcigpghejaaGreatK172
import Derived.Test.YtndhpcigpghejaaGreatK174
import Derived.Test.YtndhpcigpghejaaGreatK175
import Derived.Test.YtndhpcigpghejaaGreatK140
import Derived.Test.YtndhpcigpghejaaGreatK134
import Derived.Test.YtndhpcigpghejaaGreatK45
import Derived.Test.YtndhpcigpghejaaGreatVm43
namespace Go.Proofs
open Go Go.Vm Go.Fg Go.Fg.PS
set_option maxRecDepth 100000
set_option maxHeartbeats 40000000
set_option linter.unusedSimpArgs false
set_option linter.unusedVariables false
variable {m : Int}
open Classical in
theorem eqT_ag {N : Nat} {f g : PS (PS (Zm m))} (h : Ag2 N f g) : eqTB N f g = true := by
 unfold eqTB
 rw [decide_eq_true_iff]
 exact fun i hi => L_congr (fun j hj => h i j (by omega))
theorem axs_ag {N : Nat} {a b : PS (Zm m)} (h : Ag N a b) : Ag2 N (axX a + axY a) (axX b + axY b) := fun i j hij => by
 rw [PS.add_c, PS.add_c, PS.add_c, PS.add_c, axX_c, axX_c, axY_c, axY_c, h i (by omega), h j (by omega)]
theorem ilB_lg (hm : Md m) {t : List (List Int)} (hn : 2 ≤ t.length) (hLw : LwN (rd2 m t) t.length) (hu : unitsB m (t.length - 1) = true) : ilB m t (L t.length (lgF (rd2 m t))) = true := by
 unfold ilB
 rw [Bool.and_eq_true]
 refine ⟨decide_eq_true ?_, eqT_ag ?_⟩
 · rw [rd_L t.length (lgF (rd2 m t)) 1 (by omega), (lgF_1 hm hLw.z1).2]
   exact Zm.val_one (by have := hm.1; omega)
 · exact (comp2N_congr (fun i _ hi => rd_L _ _ i (by omega)) Ag2.rfl).trans ((lgF_log hm hLw hu).trans (axs_ag (rd_L _ _).symm))
theorem turned_eq (hm : Md m) {f : PS (PS (Zm m))} {N : Nat} (hLw : LwN f N) (hu : unitsB m (N - 1) = true) : eqTB N (comp2N (lgF f) (btS f (rev (invN m ((lgF f).c 1).val) (lgF f)) (rev (invN m ((lgF f).c 1).val) (lgF f)) N) 0 N) (axX X + axY X) = true := by
 rw [(lgF_1 hm hLw.z1).2, invN_v1 hm.1]
 exact eqT_ag ((comp2N_congr (fun _ _ _ => rfl) (btS_sb2 (rev_c0 1 _) (rev_c0 1 _) f N)).trans (lgF_turned hm hLw hu))
theorem c_series9 (o o' : Bool) (m m' : Int) (l l' : List Int) (hl : l.length ≤ 9223372036854775807) (hl' : l'.length ≤ 9223372036854775807) : PureCall Tryz.prog 29 [.agg [dint m, .list o 1 (ints l)], .agg [dint m', .list o' 1 (ints l')]] (dbool (decide (m = m') && decide (l = l'))) := by
 refine pure_of_vcR Tryz.tabOk mixOrd Tryz.func29 rfl rfl ?_
 conv => whnf
 repeat' first | ((first | refine z0 ?_ | (apply zI; refine zP (c_likeInts _ _ _ _ hl hl') ?_) | (refine And.intro (fun h => ?_) (fun h => ?_) <;> (try simp only [cnt1, ints_length] at h)) | refine zS ?_ | refine zV ?_ | (apply zI; refine zP vObt ?_) | (apply zI; refine zP vObx ?_) | refine zA ?_ | refine Alt.fst ?_ | refine Or.inl ?_) <;> conv => whnf) | fail
 all_goals (refine dbool_congr ?_; first | rfl | (simp_all []; done) | (simp_all []; omega) | (simp_all []; intros; omega))
theorem c_series9Nil : PureCall Tryz.prog 29 [zserD, zserD] (dbool true) := by
 refine pure_of_vcR Tryz.tabOk mixOrd Tryz.func29 rfl rfl ?_
 conv => whnf
 repeat' first | ((first | refine z0 ?_ | (apply zI; refine zP (c_likeNil) ?_) | (refine And.intro (fun h => ?_) (fun h => ?_) <;> (try simp only [cnt1, ints_length, rows_length, Tb_length, L_length, byts_length] at h) <;> first | (exfalso; first | omega | exact h trivial | (cases h; done)) | skip) | refine zS ?_ | refine zV ?_ | (apply zI; refine zP vObt ?_) | (apply zI; refine zP vObx ?_) | refine zA ?_ | refine Alt.fst ?_ | refine Or.inl ?_) <;> conv => whnf) | fail
abbrev lgS (n : Nat) (cs : List (Nat × D)) (rt : List (Option Root)) : Prop := Stg Tryz.prog 0 Tryz.f6 n (retQ Tryz.tab Tryz.f6 (dbool true)) (fewS Tryz.f6.ntmps cs rt)
abbrev bx (ds : List D) : Option Root := some ⟨true, 1, ds⟩
theorem lg_17A (hW : Wei) {m : Int} (t : List (List Int)) (A B : List Int) (c : Int) (l : List Nat) (hb : ∀ b ∈ l, b < 256) (hl : l.length ≤ 9223372036854775807) (h0 : ¬ 4096 < l.length) (hA : A.length ≤ 12) (hB : B.length ≤ 12) (next : lgS 24 [(0, .list false 1 (byts l)), (3, .ptr 1 [] 0), (4, .ptr 2 [] 0), (5, dint 0), (8, .ptr 3 [] 0), (9, dint 0)] [none, bx [dint m, .list false 1 (rows false t)], bx [dint m, .ref 4 [] 1 0 A.length], bx [dint m, .ref 5 [] 1 0 B.length], some ⟨false, 1, ints A⟩, some ⟨false, 1, ints B⟩]) :
   lgS 17 [(0, .list false 1 (byts l)), (3, .ptr 1 [] 0), (4, .ptr 2 [] 0), (5, dint 0), (8, .ptr 3 [] 0), (9, dint 0)] [none, bx [dint m, .list false 1 (rows false t)], bx [dint m, .ref 4 [] 1 0 A.length], bx [dint m, .ref 5 [] 1 0 B.length], some ⟨false, 1, ints A⟩, some ⟨false, 1, ints B⟩] := by
 refine stg_cut Tryz.tabOk mixOrd _ 17 7 ?_
 conv => whnf
 repeat' first | (refine borA [] (c_DrawMultipleByLogarithm hW false l hb (by omega)) (fun d rt' hd => ?_)) | ((first | refine z0 ?_ | (refine And.intro (fun h => ?_) (fun h => ?_) <;> (try simp only [cnt1, ints_length, rows_length, Tb_length, L_length, byts_length] at h) <;> first | (exfalso; first | omega | exact h trivial | (cases h; done)) | skip) | refine zS ?_ | refine zV ?_ | (apply zI; refine zP vObt ?_) | (apply zI; refine zP vObx ?_) | refine zA ?_ | refine Alt.fst ?_ | refine Or.inl ?_) <;> conv => whnf) | fail
 obtain ⟨m2, t2, n, ⟨hm2, ht2⟩, hn2, rfl, rfl⟩ := hd
 refine ⟨rfl, by simp, ?_⟩
 conv => whnf
 have s2 := smT_lens ht2
 have g1 := fun o p => c_implMultipleByLogarithm o p m2 t2 s2.1 s2.2 n (by omega)
 have g2 := fun o p => c_specMultipleByLogarithm o p m2 t2 s2.1 s2.2 n (by omega)
 by_cases hc : mlC m2 t2 n = 0
 · obtain ⟨hlaw, hI, hU⟩ := mlC_0 hc
   obtain ⟨⟨hmd, hn⟩, eT, hL⟩ := lawB_Tb hlaw
   have hLw := lwN_of hn.1 hL
   obtain ⟨r, hr⟩ := mulZ_ex (rd2 m2 t2) t2.length n PS.X
   have g3 := fun o p => c_implMultipleOf o p m2 t2 s2.1 s2.2 n r (fun _ => hr)
   have hmo : moC m2 t2 n = 0 := by unfold moC; rw [if_pos hlaw, if_pos (by simpa [inB] using hI)]
   rw [serRes, if_pos hmo] at g3
   rw [serRes, if_pos hc] at g1 g2
   have e : L t2.length (mlS (rd2 m2 t2) t2.length n) = L t2.length r := by
     unfold mlS
     rw [(lgF_1 hmd hLw.z1).2, invN_v1 hmd.1]
     exact lgF_mul hmd hLw hU hr
   simp only [SerD, e] at g1 g2 g3
   clear hr hmo e hLw hL
   have hRl : (L t2.length r).length ≤ 12 := by rw [L_length]; omega
   generalize L t2.length r = R at g1 g2 g3 hRl
   repeat' first | ((first | refine z0 ?_ | (apply zI; refine zP (g1 _ _) ?_) | (apply zI; refine zP (g2 _ _) ?_) | (apply zI; refine zP (g3 _ _) ?_) | (apply zI; refine zP (c_series9 _ _ _ _ _ _ (by first | omega | (simp; omega)) (by first | omega | (simp; omega))) ?_) | (refine And.intro (fun h => ?_) (fun h => ?_) <;> (try simp only [cnt1, ints_length, rows_length, Tb_length, L_length, byts_length] at h) <;> first | (exfalso; first | omega | exact h trivial | (cases h; done)) | skip) | refine zS ?_ | refine zV ?_ | (apply zI; refine zP vObt ?_) | (apply zI; refine zP vObx ?_) | refine zA ?_ | refine Alt.fst ?_ | refine Or.inl ?_) <;> conv => whnf) | fail
   all_goals first | (refine Stg.weak (next) (wkA (kp := 0) [none, some 1, some 2, some 3, some 4, some 5]))
 · rw [serRes, if_neg hc] at g1 g2
   generalize mlC m2 t2 n = c9 at hc g1 g2
   repeat' first | ((first | refine z0 ?_ | (apply zI; refine zP (g1 _ _) ?_) | (apply zI; refine zP (g2 _ _) ?_) | (apply zI; refine zP (c_series9Nil) ?_) | (refine And.intro (fun h => ?_) (fun h => ?_) <;> (try simp only [cnt1, ints_length, rows_length, Tb_length, L_length, byts_length] at h) <;> first | (exfalso; first | omega | exact h trivial | (cases h; done)) | skip) | refine zS ?_ | refine zV ?_ | (apply zI; refine zP vObt ?_) | (apply zI; refine zP vObx ?_) | refine zA ?_ | refine Alt.fst ?_ | refine Or.inl ?_) <;> conv => whnf) | fail
   all_goals first | (refine Stg.weak (next) (wkA (kp := 0) [none, some 1, some 2, some 3, some 4, some 5]))
theorem lg_12A (hW : Wei) {m : Int} (t : List (List Int)) (A B : List Int) (c : Int) (l : List Nat) (hb : ∀ b ∈ l, b < 256) (hl : l.length ≤ 9223372036854775807) (h0 : ¬ 4096 < l.length) (hA : A.length ≤ 12) (hB : B.length ≤ 12) (next : lgS 24 [(0, .list false 1 (byts l)), (3, .ptr 1 [] 0), (4, .ptr 2 [] 0), (5, dint 0), (8, .ptr 3 [] 0), (9, dint 0)] [none, bx [dint m, .list false 1 (rows false t)], bx [dint m, .ref 4 [] 1 0 A.length], bx [dint m, .ref 5 [] 1 0 B.length], some ⟨false, 1, ints A⟩, some ⟨false, 1, ints B⟩]) :
   lgS 12 [(0, .list false 1 (byts l)), (3, .ptr 1 [] 0), (4, .ptr 2 [] 0), (5, dint 0), (8, .ptr 3 [] 0), (9, dint 0)] [none, bx [dint m, .list false 1 (rows false t)], bx [dint m, .ref 4 [] 1 0 A.length], bx [dint m, .ref 5 [] 1 0 B.length], some ⟨false, 1, ints A⟩, some ⟨false, 1, ints B⟩] := by
 refine stg_cut Tryz.tabOk mixOrd _ 12 5 ?_
 conv => whnf
 repeat' first | (refine borA [] (c_DrawIsLogarithm hW false l hb (by omega)) (fun d rt' hd => ?_)) | ((first | refine z0 ?_ | (refine And.intro (fun h => ?_) (fun h => ?_) <;> (try simp only [cnt1, ints_length, rows_length, Tb_length, L_length, byts_length] at h) <;> first | (exfalso; first | omega | exact h trivial | (cases h; done)) | skip) | refine zS ?_ | refine zV ?_ | (apply zI; refine zP vObt ?_) | (apply zI; refine zP vObx ?_) | refine zA ?_ | refine Alt.fst ?_ | refine Or.inl ?_) <;> conv => whnf) | fail
 obtain ⟨m2, t2, ma, la, ⟨hm2, ht2⟩, hla, rfl, rfl⟩ := hd
 refine ⟨rfl, by simp, ?_⟩
 conv => whnf
 have s2 := smT_lens ht2
 have g1 := fun o p o1 => c_implIsLogarithm o p o1 m2 t2 s2.1 s2.2 ma la (by omega)
 have g2 := fun o p o1 => c_specIsLogarithm o p o1 m2 t2 s2.1 s2.2 ma la (by omega)
 generalize (if cuC m2 t2 ma la = 0 then ilB m2 t2 la else false) = vv at g1 g2
 generalize cuC m2 t2 ma la = cc at g1 g2
 cases vv with
 | false =>
   repeat' first | ((first | refine z0 ?_ | (apply zI; refine zP (g1 _ _ _) ?_) | (apply zI; refine zP (g2 _ _ _) ?_) | (refine And.intro (fun h => ?_) (fun h => ?_) <;> (try simp only [cnt1, ints_length, rows_length, Tb_length, L_length, byts_length] at h) <;> first | (exfalso; first | omega | exact h trivial | (cases h; done)) | skip) | refine zS ?_ | refine zV ?_ | (apply zI; refine zP vObt ?_) | (apply zI; refine zP vObx ?_) | refine zA ?_ | refine Alt.fst ?_ | refine Or.inl ?_) <;> conv => whnf) | fail
   all_goals first | (refine Stg.weak (lg_17A hW t A B c l hb hl h0 hA hB next) (wkA (kp := 0) [none, some 1, some 2, some 3, some 4, some 5]))
 | true =>
   repeat' first | ((first | refine z0 ?_ | (apply zI; refine zP (g1 _ _ _) ?_) | (apply zI; refine zP (g2 _ _ _) ?_) | (refine And.intro (fun h => ?_) (fun h => ?_) <;> (try simp only [cnt1, ints_length, rows_length, Tb_length, L_length, byts_length] at h) <;> first | (exfalso; first | omega | exact h trivial | (cases h; done)) | skip) | refine zS ?_ | refine zV ?_ | (apply zI; refine zP vObt ?_) | (apply zI; refine zP vObx ?_) | refine zA ?_ | refine Alt.fst ?_ | refine Or.inl ?_) <;> conv => whnf) | fail
   all_goals first | (refine Stg.weak (lg_17A hW t A B c l hb hl h0 hA hB next) (wkA (kp := 0) [none, some 1, some 2, some 3, some 4, some 5]))
theorem lg_17B (hW : Wei) {m : Int} (t : List (List Int)) (A B : List Int) (c : Int) (l : List Nat) (hb : ∀ b ∈ l, b < 256) (hl : l.length ≤ 9223372036854775807) (h0 : ¬ 4096 < l.length) (hA : A.length ≤ 12) (hB : B.length ≤ 12) (next : lgS 24 [(0, .list false 1 (byts l)), (3, .ptr 1 [] 0), (4, .ptr 2 [] 0), (5, dint c), (8, .ptr 3 [] 0), (9, dint c)] [none, bx [dint m, .list false 1 (rows false t)], bx [dint 0, .lit (.slice none 0 0)], bx [dint 0, .lit (.slice none 0 0)]]) :
   lgS 17 [(0, .list false 1 (byts l)), (3, .ptr 1 [] 0), (4, .ptr 2 [] 0), (5, dint c), (8, .ptr 3 [] 0), (9, dint c)] [none, bx [dint m, .list false 1 (rows false t)], bx [dint 0, .lit (.slice none 0 0)], bx [dint 0, .lit (.slice none 0 0)]] := by
 refine stg_cut Tryz.tabOk mixOrd _ 17 7 ?_
 conv => whnf
 repeat' first | (refine borA [] (c_DrawMultipleByLogarithm hW false l hb (by omega)) (fun d rt' hd => ?_)) | ((first | refine z0 ?_ | (refine And.intro (fun h => ?_) (fun h => ?_) <;> (try simp only [cnt1, ints_length, rows_length, Tb_length, L_length, byts_length] at h) <;> first | (exfalso; first | omega | exact h trivial | (cases h; done)) | skip) | refine zS ?_ | refine zV ?_ | (apply zI; refine zP vObt ?_) | (apply zI; refine zP vObx ?_) | refine zA ?_ | refine Alt.fst ?_ | refine Or.inl ?_) <;> conv => whnf) | fail
 obtain ⟨m2, t2, n, ⟨hm2, ht2⟩, hn2, rfl, rfl⟩ := hd
 refine ⟨rfl, by simp, ?_⟩
 conv => whnf
 have s2 := smT_lens ht2
 have g1 := fun o p => c_implMultipleByLogarithm o p m2 t2 s2.1 s2.2 n (by omega)
 have g2 := fun o p => c_specMultipleByLogarithm o p m2 t2 s2.1 s2.2 n (by omega)
 by_cases hc : mlC m2 t2 n = 0
 · obtain ⟨hlaw, hI, hU⟩ := mlC_0 hc
   obtain ⟨⟨hmd, hn⟩, eT, hL⟩ := lawB_Tb hlaw
   have hLw := lwN_of hn.1 hL
   obtain ⟨r, hr⟩ := mulZ_ex (rd2 m2 t2) t2.length n PS.X
   have g3 := fun o p => c_implMultipleOf o p m2 t2 s2.1 s2.2 n r (fun _ => hr)
   have hmo : moC m2 t2 n = 0 := by unfold moC; rw [if_pos hlaw, if_pos (by simpa [inB] using hI)]
   rw [serRes, if_pos hmo] at g3
   rw [serRes, if_pos hc] at g1 g2
   have e : L t2.length (mlS (rd2 m2 t2) t2.length n) = L t2.length r := by
     unfold mlS
     rw [(lgF_1 hmd hLw.z1).2, invN_v1 hmd.1]
     exact lgF_mul hmd hLw hU hr
   simp only [SerD, e] at g1 g2 g3
   clear hr hmo e hLw hL
   have hRl : (L t2.length r).length ≤ 12 := by rw [L_length]; omega
   generalize L t2.length r = R at g1 g2 g3 hRl
   repeat' first | ((first | refine z0 ?_ | (apply zI; refine zP (g1 _ _) ?_) | (apply zI; refine zP (g2 _ _) ?_) | (apply zI; refine zP (g3 _ _) ?_) | (apply zI; refine zP (c_series9 _ _ _ _ _ _ (by first | omega | (simp; omega)) (by first | omega | (simp; omega))) ?_) | (refine And.intro (fun h => ?_) (fun h => ?_) <;> (try simp only [cnt1, ints_length, rows_length, Tb_length, L_length, byts_length] at h) <;> first | (exfalso; first | omega | exact h trivial | (cases h; done)) | skip) | refine zS ?_ | refine zV ?_ | (apply zI; refine zP vObt ?_) | (apply zI; refine zP vObx ?_) | refine zA ?_ | refine Alt.fst ?_ | refine Or.inl ?_) <;> conv => whnf) | fail
   all_goals first | (refine Stg.weak (next) (wkA (kp := 0) [none, some 1, some 2, some 3]))
 · rw [serRes, if_neg hc] at g1 g2
   generalize mlC m2 t2 n = c9 at hc g1 g2
   repeat' first | ((first | refine z0 ?_ | (apply zI; refine zP (g1 _ _) ?_) | (apply zI; refine zP (g2 _ _) ?_) | (apply zI; refine zP (c_series9Nil) ?_) | (refine And.intro (fun h => ?_) (fun h => ?_) <;> (try simp only [cnt1, ints_length, rows_length, Tb_length, L_length, byts_length] at h) <;> first | (exfalso; first | omega | exact h trivial | (cases h; done)) | skip) | refine zS ?_ | refine zV ?_ | (apply zI; refine zP vObt ?_) | (apply zI; refine zP vObx ?_) | refine zA ?_ | refine Alt.fst ?_ | refine Or.inl ?_) <;> conv => whnf) | fail
   all_goals first | (refine Stg.weak (next) (wkA (kp := 0) [none, some 1, some 2, some 3]))
theorem lg_12B (hW : Wei) {m : Int} (t : List (List Int)) (A B : List Int) (c : Int) (l : List Nat) (hb : ∀ b ∈ l, b < 256) (hl : l.length ≤ 9223372036854775807) (h0 : ¬ 4096 < l.length) (hA : A.length ≤ 12) (hB : B.length ≤ 12) (next : lgS 24 [(0, .list false 1 (byts l)), (3, .ptr 1 [] 0), (4, .ptr 2 [] 0), (5, dint c), (8, .ptr 3 [] 0), (9, dint c)] [none, bx [dint m, .list false 1 (rows false t)], bx [dint 0, .lit (.slice none 0 0)], bx [dint 0, .lit (.slice none 0 0)]]) :
   lgS 12 [(0, .list false 1 (byts l)), (3, .ptr 1 [] 0), (4, .ptr 2 [] 0), (5, dint c), (8, .ptr 3 [] 0), (9, dint c)] [none, bx [dint m, .list false 1 (rows false t)], bx [dint 0, .lit (.slice none 0 0)], bx [dint 0, .lit (.slice none 0 0)]] := by
 refine stg_cut Tryz.tabOk mixOrd _ 12 5 ?_
 conv => whnf
 repeat' first | (refine borA [] (c_DrawIsLogarithm hW false l hb (by omega)) (fun d rt' hd => ?_)) | ((first | refine z0 ?_ | (refine And.intro (fun h => ?_) (fun h => ?_) <;> (try simp only [cnt1, ints_length, rows_length, Tb_length, L_length, byts_length] at h) <;> first | (exfalso; first | omega | exact h trivial | (cases h; done)) | skip) | refine zS ?_ | refine zV ?_ | (apply zI; refine zP vObt ?_) | (apply zI; refine zP vObx ?_) | refine zA ?_ | refine Alt.fst ?_ | refine Or.inl ?_) <;> conv => whnf) | fail
 obtain ⟨m2, t2, ma, la, ⟨hm2, ht2⟩, hla, rfl, rfl⟩ := hd
 refine ⟨rfl, by simp, ?_⟩
 conv => whnf
 have s2 := smT_lens ht2
 have g1 := fun o p o1 => c_implIsLogarithm o p o1 m2 t2 s2.1 s2.2 ma la (by omega)
 have g2 := fun o p o1 => c_specIsLogarithm o p o1 m2 t2 s2.1 s2.2 ma la (by omega)
 generalize (if cuC m2 t2 ma la = 0 then ilB m2 t2 la else false) = vv at g1 g2
 generalize cuC m2 t2 ma la = cc at g1 g2
 cases vv with
 | false =>
   repeat' first | ((first | refine z0 ?_ | (apply zI; refine zP (g1 _ _ _) ?_) | (apply zI; refine zP (g2 _ _ _) ?_) | (refine And.intro (fun h => ?_) (fun h => ?_) <;> (try simp only [cnt1, ints_length, rows_length, Tb_length, L_length, byts_length] at h) <;> first | (exfalso; first | omega | exact h trivial | (cases h; done)) | skip) | refine zS ?_ | refine zV ?_ | (apply zI; refine zP vObt ?_) | (apply zI; refine zP vObx ?_) | refine zA ?_ | refine Alt.fst ?_ | refine Or.inl ?_) <;> conv => whnf) | fail
   all_goals first | (refine Stg.weak (lg_17B hW t A B c l hb hl h0 hA hB next) (wkA (kp := 0) [none, some 1, some 2, some 3]))
 | true =>
   repeat' first | ((first | refine z0 ?_ | (apply zI; refine zP (g1 _ _ _) ?_) | (apply zI; refine zP (g2 _ _ _) ?_) | (refine And.intro (fun h => ?_) (fun h => ?_) <;> (try simp only [cnt1, ints_length, rows_length, Tb_length, L_length, byts_length] at h) <;> first | (exfalso; first | omega | exact h trivial | (cases h; done)) | skip) | refine zS ?_ | refine zV ?_ | (apply zI; refine zP vObt ?_) | (apply zI; refine zP vObx ?_) | refine zA ?_ | refine Alt.fst ?_ | refine Or.inl ?_) <;> conv => whnf) | fail
   all_goals first | (refine Stg.weak (lg_17B hW t A B c l hb hl h0 hA hB next) (wkA (kp := 0) [none, some 1, some 2, some 3]))
theorem lg_24B (m : Int) (t : List (List Int)) (A B : List Int) (c : Int) (hc : c ≠ 0) (l : List Nat) : lgS 24 [(0, .list false 1 (byts l)), (3, .ptr 1 [] 0), (4, .ptr 2 [] 0), (5, dint c), (8, .ptr 3 [] 0), (9, dint c)] [none, bx [dint m, .list false 1 (rows false t)], bx [dint 0, .lit (.slice none 0 0)], bx [dint 0, .lit (.slice none 0 0)]] := by
 refine stg_end Tryz.tabOk mixOrd _ 24 ?_
 conv => whnf
 repeat' first | ((first | refine z0 ?_ | (refine And.intro (fun h => ?_) (fun h => ?_) <;> (try simp only [cnt1, ints_length, rows_length, Tb_length, L_length, byts_length] at h) <;> first | (exfalso; first | omega | exact h trivial | (cases h; done)) | skip) | refine zS ?_ | refine zV ?_ | (apply zI; refine zP vObt ?_) | (apply zI; refine zP vObx ?_) | refine zA ?_ | refine Alt.fst ?_ | refine Or.inl ?_) <;> conv => whnf) | fail
 all_goals first | rfl | (exfalso; simp_all; done) | skip
theorem lg_24A (hm : Md m) (t : List (List Int)) (ht : smT t) (hlaw : lawB m t = true) (hU : unitsB m (t.length - 1) = true) (l : List Nat) (A B : List Int) (hA : A = L t.length (lgF (rd2 m t))) (hB : B = L t.length (rev (invN m ((lgF (rd2 m t)).c 1).val) (lgF (rd2 m t)))) : lgS 24 [(0, .list false 1 (byts l)), (3, .ptr 1 [] 0), (4, .ptr 2 [] 0), (5, dint 0), (8, .ptr 3 [] 0), (9, dint 0)] [none, bx [dint m, .list false 1 (rows false t)], bx [dint m, .ref 4 [] 1 0 A.length], bx [dint m, .ref 5 [] 1 0 B.length], some ⟨false, 1, ints A⟩, some ⟨false, 1, ints B⟩] := by
 obtain ⟨⟨_, hn⟩, eT, hL⟩ := lawB_Tb hlaw
 have hLw := lwN_of hn.1 hL
 have s1 := smT_lens ht
 obtain ⟨h0, h1⟩ := lgF_1 hm hLw.z1
 have hcu : cuC m t m (L t.length (lgF (rd2 m t))) = 0 := by
   unfold cuC
   rw [if_pos hlaw, if_pos (serB_LX hm hn _), if_pos]
   simp only [fitB, decide_true, Bool.true_and, L_length]
   rw [L_getD _ (by omega), h0]; simp [Zm.val_zero]
 have hlaw2 : lawB m (Tb t.length (rd2 m t)) = true := by rw [eT]; exact hlaw
 have g1 := fun o p o1 => c_implIsLogarithm o p o1 m t s1.1 s1.2 m (L t.length (lgF (rd2 m t))) (by simp; omega)
 rw [hcu, if_pos rfl, ilB_lg hm hn.1 hLw hU] at g1
 have g2 := fun o => c_implLawOfCurve hm o t.length hn (lgF (rd2 m t)) h0 h1
 have g3 := fun o => c_implReverseSeries hm o t.length hn (lgF (rd2 m t)) h0 h1
 have g4 := fun p => c_implAdditiveLaw hm t.length hn (d := ((cnt 1 (rows p t) : Nat) : Int) - 1) (by simp only [cnt1, rows_length]; omega)
 have g5 := fun o p o1 => c_implLawInCoordinate hm o p o1 t.length hn (rd2 m t) hlaw2 (lgF (rd2 m t)) h0 h1
 have p1 := fun o p o' p' => c_plane9 o p o' p' t.length (by omega) (lawG t.length (lgF (rd2 m t))) (rd2 m t)
 rw [eqT_ag (lgF_law hm hLw hU)] at p1
 have p2 := fun o p o' p' => c_plane9 o p o' p' t.length (by omega) (comp2N (lgF (rd2 m t)) (btS (rd2 m t) (rev (invN m ((lgF (rd2 m t)).c 1).val) (lgF (rd2 m t))) (rev (invN m ((lgF (rd2 m t)).c 1).val) (lgF (rd2 m t))) t.length) 0 t.length) (axX X + axY X)
 rw [turned_eq hm hLw hU] at p2
 simp only [PlD, SerD, eT] at g2 g3 g4 g5 p1 p2
 rw [← hA] at g1
 simp only [← hA] at g2 g3 g5
 simp only [← hB] at g3
 have hAl : A.length ≤ 12 := by rw [hA, L_length]; omega
 have hBl : B.length ≤ 12 := by rw [hB, L_length]; omega
 generalize comp2N (lgF (rd2 m t)) (btS (rd2 m t) (rev (invN m ((lgF (rd2 m t)).c 1).val) (lgF (rd2 m t))) (rev (invN m ((lgF (rd2 m t)).c 1).val) (lgF (rd2 m t))) t.length) 0 t.length = Q2 at g5 p2
 generalize lawG t.length (lgF (rd2 m t)) = Q1 at g2 p1
 clear hcu hA hB
 refine stg_end Tryz.tabOk mixOrd _ 24 ?_
 conv => whnf
 repeat' first | ((first | refine z0 ?_ | (apply zI; refine zP (g1 _ _ _) ?_) | (apply zI; refine zP (g2 _) ?_) | (apply zI; refine zP (g3 _) ?_) | (apply zI; refine zP (g4 _) ?_) | (apply zI; refine zP (g5 _ _ _) ?_) | (apply zI; refine zP (p1 _ _ _ _) ?_) | (apply zI; refine zP (p2 _ _ _ _) ?_) | (apply zI; refine zP (c_series9 _ _ _ _ _ _ (by first | omega | (simp; omega)) (by first | omega | (simp; omega))) ?_) | (refine And.intro (fun h => ?_) (fun h => ?_) <;> (try simp only [cnt1, ints_length, rows_length, Tb_length, L_length, byts_length] at h) <;> first | (exfalso; first | omega | exact h trivial | (cases h; done)) | skip) | refine zS ?_ | refine zV ?_ | (apply zI; refine zP vObt ?_) | (apply zI; refine zP vObx ?_) | refine zA ?_ | refine Alt.fst ?_ | refine Or.inl ?_) <;> conv => whnf) | fail
 all_goals first | rfl | (exfalso; simp_all; done) | skip
theorem c_FnLogarithms (hW : Wei) (l : List Nat) (hb : ∀ b ∈ l, b < 256) (hl : l.length ≤ 9223372036854775807) : PureCall Tryz.prog 6 [.list false 1 (byts l)] (dbool true) := by
 have hbig := c_big false l hl
 by_cases h0 : 4096 < l.length
 · rw [show decide (4096 < l.length) = true by simp [h0]] at hbig
   refine pure_of_stg Tryz.f6 Tryz.func6 rfl rfl Tryz.tabOk ?_
   refine stg_cut Tryz.tabOk mixOrd _ 0 12 ?_
   conv => whnf
   repeat' first | ((first | refine z0 ?_ | (apply zI; refine zP (hbig) ?_) | (refine And.intro (fun h => ?_) (fun h => ?_) <;> (try simp only [cnt1, ints_length, rows_length, Tb_length, L_length, byts_length] at h) <;> first | (exfalso; first | omega | exact h trivial | (cases h; done)) | skip) | refine zS ?_ | refine zV ?_ | (apply zI; refine zP vObt ?_) | (apply zI; refine zP vObx ?_) | refine zA ?_ | refine Alt.fst ?_ | refine Or.inl ?_) <;> conv => whnf) | fail
 · rw [show decide (4096 < l.length) = false by simp [h0]] at hbig
   refine pure_of_stg Tryz.f6 Tryz.func6 rfl rfl Tryz.tabOk ?_
   refine stg_cut Tryz.tabOk mixOrd _ 0 12 ?_
   conv => whnf
   repeat' first | (refine borA [] (c_DrawLogarithmOf hW false l hb (by omega)) (fun d rt' hd => ?_)) | ((first | refine z0 ?_ | (apply zI; refine zP (hbig) ?_) | (refine And.intro (fun h => ?_) (fun h => ?_) <;> (try simp only [cnt1, ints_length, rows_length, Tb_length, L_length, byts_length] at h) <;> first | (exfalso; first | omega | exact h trivial | (cases h; done)) | skip) | refine zS ?_ | refine zV ?_ | (apply zI; refine zP vObt ?_) | (apply zI; refine zP vObx ?_) | refine zA ?_ | refine Alt.fst ?_ | refine Or.inl ?_) <;> conv => whnf) | fail
   obtain ⟨m, t, ⟨hm, ht⟩, rfl, rfl⟩ := hd
   refine ⟨rfl, by simp, ?_⟩
   conv => whnf
   have s1 := smT_lens ht
   have e1 := fun o p => c_implLogarithmOf o p m t s1.1 s1.2
   have e2 := fun o p => c_specLogarithmOf o p m t s1.1 s1.2
   have e3 := fun o p => c_implExponentialOf o p m t s1.1 s1.2
   have e4 := fun o p => c_specExponentialOf o p m t s1.1 s1.2
   by_cases hc : loC m t = 0
   · obtain ⟨hlaw, hU⟩ := loC_0 hc
     obtain ⟨⟨hmd, hn⟩, _, _⟩ := lawB_Tb hlaw
     rw [serRes, if_pos hc] at e1 e2 e3 e4
     obtain ⟨A, hA⟩ : ∃ A, A = L t.length (lgF (rd2 m t)) := ⟨_, rfl⟩
     obtain ⟨B, hB⟩ : ∃ B, B = L t.length (rev (invN m ((lgF (rd2 m t)).c 1).val) (lgF (rd2 m t))) := ⟨_, rfl⟩
     have hAl : A.length ≤ 12 := by rw [hA, L_length]; omega
     have hBl : B.length ≤ 12 := by rw [hB, L_length]; omega
     have fin := lg_24A hmd t ht hlaw hU l A B hA hB
     simp only [SerD, ← hA, ← hB] at e1 e2 e3 e4
     clear hA hB
     repeat' first | ((first | refine z0 ?_ | (apply zI; refine zP (e1 _ _) ?_) | (apply zI; refine zP (e2 _ _) ?_) | (apply zI; refine zP (e3 _ _) ?_) | (apply zI; refine zP (e4 _ _) ?_) | (apply zI; refine zP (c_series9 _ _ _ _ _ _ (by first | omega | (simp; omega)) (by first | omega | (simp; omega))) ?_) | (refine And.intro (fun h => ?_) (fun h => ?_) <;> (try simp only [cnt1, ints_length, rows_length, Tb_length, L_length, byts_length] at h) <;> first | (exfalso; first | omega | exact h trivial | (cases h; done)) | skip) | refine zS ?_ | refine zV ?_ | (apply zI; refine zP vObt ?_) | (apply zI; refine zP vObx ?_) | refine zA ?_ | refine Alt.fst ?_ | refine Or.inl ?_) <;> conv => whnf) | fail
     all_goals first | (refine Stg.weak (lg_12A hW t A B 0 l hb hl h0 hAl hBl fin) (wkA (kp := 0) [none, some 1, some 5, some 14, some 4, some 13])) | (refine Stg.weak (lg_12A hW t A B 0 l hb hl h0 hAl hBl fin) (wkA (kp := 0) [none, some 1, some 5, some 14, some 3, some 12])) | (refine Stg.weak (lg_12A hW t A B 0 l hb hl h0 hAl hBl fin) (wkA (kp := 0) [none, some 1, some 5, some 14, some 4, some 12])) | (refine Stg.weak (lg_12A hW t A B 0 l hb hl h0 hAl hBl fin) (wkA (kp := 0) [none, some 1, some 5, some 14, some 3, some 13])) | (refine Stg.weak (lg_12A hW t A B 0 l hb hl h0 hAl hBl fin) (wkA (kp := 0) [none, some 1, some 5, some 14, some 2, some 11])) | (refine Stg.weak (lg_12A hW t A B 0 l hb hl h0 hAl hBl fin) (wkA (kp := 0) [none, some 1, some 5, some 14, some 2, some 10])) | (refine Stg.weak (lg_12A hW t A B 0 l hb hl h0 hAl hBl fin) (wkA (kp := 0) [none, some 1, some 5, some 14, some 3, some 11]))
   · rw [serRes, if_neg hc] at e1 e2 e3 e4
     have fin := lg_24B m t [] [] (loC m t) hc l
     generalize loC m t = c at hc e1 e2 e3 e4 fin
     repeat' first | ((first | refine z0 ?_ | (apply zI; refine zP (e1 _ _) ?_) | (apply zI; refine zP (e2 _ _) ?_) | (apply zI; refine zP (e3 _ _) ?_) | (apply zI; refine zP (e4 _ _) ?_) | (apply zI; refine zP (c_series9Nil) ?_) | (refine And.intro (fun h => ?_) (fun h => ?_) <;> (try simp only [cnt1, ints_length, rows_length, Tb_length, L_length, byts_length] at h) <;> first | (exfalso; first | omega | exact h trivial | (cases h; done)) | skip) | refine zS ?_ | refine zV ?_ | (apply zI; refine zP vObt ?_) | (apply zI; refine zP vObx ?_) | refine zA ?_ | refine Alt.fst ?_ | refine Or.inl ?_) <;> conv => whnf) | fail
     all_goals first | (refine Stg.weak (lg_12B hW t [] [] c l hb hl h0 (by simp) (by simp) fin) (wkA (kp := 0) [none, some 1, some 5, some 14]))
end Go.Proofs
