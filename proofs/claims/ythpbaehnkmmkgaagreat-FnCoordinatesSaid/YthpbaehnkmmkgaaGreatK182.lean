import Derived.Test.YthpbaehnkmmkgaaGreatK180
import Derived.Test.YthpbaehnkmmkgaaGreatK181
import Derived.Test.YthpbaehnkmmkgaaGreatK164
import Derived.Test.YthpbaehnkmmkgaaGreatK66
import Derived.Test.YthpbaehnkmmkgaaGreatK69
import Derived.Test.YthpbaehnkmmkgaaGreatK142
import Derived.Test.YthpbaehnkmmkgaaGreatVm43
namespace Go.Proofs
open Go Go.Vm Go.Fg Go.Fg.PS
set_option maxRecDepth 100000
set_option maxHeartbeats 40000000
set_option linter.unusedSimpArgs false
set_option linter.unusedVariables false
variable {m : Int}
theorem cur_congr {N : Nat} (f : PS (PS (Zm m))) {a b : PS (Zm m)} (h : Ag N a b) : ∀ k, k < N → cur N f a k = cur N f b k
 | 0, _ => rfl
 | k + 1, hk => by
   show evT N f (cur N f a k) (mono (k + 1) (a.c (k + 1) - (cur N f a k).c (k + 1))) = evT N f (cur N f b k) (mono (k + 1) (b.c (k + 1) - (cur N f b k).c (k + 1)))
   rw [cur_congr f h k (by omega), h (k + 1) hk]
theorem coo_congr {N : Nat} (f : PS (PS (Zm m))) {a b : PS (Zm m)} (h : Ag N a b) {k : Nat} (hk : k + 1 < N) : coo N f a k = coo N f b k := by
 unfold coo
 rw [cur_congr f h k (by omega), h (k + 1) hk]
theorem nums_L (hm : Md m) (n : Nat) (a : PS (Zm m)) : Nums m (L n a) := fun x hx => by
 obtain ⟨i, hi, rfl⟩ := List.getElem_of_mem hx
 have h2 : i < n := by simpa using hi
 have : (L n a)[i] = (a.c i).val := by simp [L]
 rw [this]; exact Zm.val_range hm.pos _
theorem crd_D (hW : Wei) (l : List Nat) (hb : ∀ b ∈ l, b < 256) (hl : l.length ≤ 9223372036854775807) (h0 : ¬ 4096 < l.length) : Stg Tryz.prog 0 Tryz.f11 24 (retQ Tryz.tab Tryz.f11 (dbool true)) (fewS Tryz.f11.ntmps [(0, .list false 1 (byts l))] []) := by
 refine stg_end Tryz.tabOk mixOrd _ 24 ?_
 conv => whnf
 repeat' first | (refine borA [] (c_DrawIsTypicalCurve hW false l hb (by omega)) (fun d rt' hd => ?_)) | ((first | refine z0 ?_ | (refine And.intro (fun h => ?_) (fun h => ?_) <;> (try simp only [cnt1, ints_length, rows_length, Tb_length, L_length, byts_length] at h) <;> first | (exfalso; first | omega | exact h trivial | (cases h; done)) | skip) | refine zS ?_ | refine zV ?_ | (apply zI; refine zP vObt ?_) | (apply zI; refine zP vObx ?_) | refine zA ?_ | refine Alt.fst ?_ | refine Or.inl ?_) <;> conv => whnf) | fail
 obtain ⟨m, t, ma, la, p, ⟨hm, ht⟩, hla, hp, rfl, rfl⟩ := hd
 refine ⟨rfl, by simp, ?_⟩
 conv => whnf
 have s1 := smT_lens ht
 have g1 := fun o p1 o1 => c_implIsTypicalCurve o p1 o1 m t ma la p s1.1 s1.2 (by omega)
 have g2 := fun o p1 o1 => c_specIsTypicalCurve o p1 o1 m t ma la p s1.1 s1.2 (by omega)
 unfold tyR at g1 g2
 generalize (decide (tyC (cuC m t ma la) p = 0) && prL.all (tyO m t la p)) = v at g1 g2
 generalize tyC (cuC m t ma la) p = c at g1 g2
 repeat' first | ((first | refine z0 ?_ | (apply zI; refine zP (g1 _ _ _) ?_) | (apply zI; refine zP (g2 _ _ _) ?_) | (refine And.intro (fun h => ?_) (fun h => ?_) <;> (try simp only [cnt1, ints_length, rows_length, Tb_length, L_length, byts_length] at h) <;> first | (exfalso; first | omega | exact h trivial | (cases h; done)) | skip) | refine zS ?_ | refine zV ?_ | (apply zI; refine zP vObt ?_) | (apply zI; refine zP vObx ?_) | refine zA ?_ | refine Alt.fst ?_ | refine Or.inl ?_) <;> conv => whnf) | fail
 all_goals (refine dbool_congr ?_; first | rfl | (simp_all []; done) | (simp_all []; omega) | (simp_all []; intros; omega))
theorem crd_C (hW : Wei) (l : List Nat) (hb : ∀ b ∈ l, b < 256) (hl : l.length ≤ 9223372036854775807) (h0 : ¬ 4096 < l.length) : Stg Tryz.prog 0 Tryz.f11 17 (retQ Tryz.tab Tryz.f11 (dbool true)) (fewS Tryz.f11.ntmps [(0, .list false 1 (byts l))] []) := by
 refine stg_cut Tryz.tabOk mixOrd _ 17 7 ?_
 conv => whnf
 repeat' first | (refine borA [] (c_DrawNormUnder hW false l hb (by omega)) (fun d rt' hd => ?_)) | ((first | refine z0 ?_ | (refine And.intro (fun h => ?_) (fun h => ?_) <;> (try simp only [cnt1, ints_length, rows_length, Tb_length, L_length, byts_length] at h) <;> first | (exfalso; first | omega | exact h trivial | (cases h; done)) | skip) | refine zS ?_ | refine zV ?_ | (apply zI; refine zP vObt ?_) | (apply zI; refine zP vObx ?_) | refine zA ?_ | refine Alt.fst ?_ | refine Or.inl ?_) <;> conv => whnf) | fail
 obtain ⟨m, t, ma, la, n, ⟨hm, ht⟩, hla, hn, rfl, rfl⟩ := hd
 refine ⟨rfl, by simp, ?_⟩
 conv => whnf
 have s1 := smT_lens ht
 have g1 := fun o p o1 => c_implNormUnder o p o1 m t ma la n s1.1 s1.2 (by omega)
 have g2 := fun o p o1 => c_specNormUnder o p o1 m t ma la n s1.1 s1.2 (by omega)
 by_cases hc : opC m t ma la n = 0
 · obtain ⟨hcu, hn2⟩ := opC_0 hc
   have g3 := fun o p o1 => c_implFrobeniusUnder o p o1 m t ma la n s1.1 s1.2 (by omega)
   rw [serRes, if_pos hc] at g1 g2 g3
   have htl := ht.1
   have hq := Nat.div_mul_le_self (t.length - 1) n.toNat
   have hnm : ∀ i, (nmS (frS m t la n.toNat) n.toNat).c (i * n.toNat) = (frS m t la n.toNat).c i := fun i => by
     show (if i * n.toNat % n.toNat = 0 then _ else _) = _
     rw [if_pos (Nat.mul_mod_left _ _), Nat.mul_div_cancel _ (by omega)]
   obtain ⟨n', rfl⟩ : ∃ n' : Nat, n = n' := ⟨n.toNat, by omega⟩
   simp only [Int.toNat_natCast] at g1 g2 g3 hq hnm
   generalize nmS (frS m t la n') n' = NM at *
   generalize frS m t la n' = FR at *
   obtain ⟨q, hqq⟩ : ∃ q, q = (t.length - 1) / n' := ⟨_, rfl⟩
   rw [← hqq] at g1 g2 g3 hq
   have hn5 : 2 ≤ n' ∧ n' ≤ 5 := by omega
   have hq10 : q ≤ 10 := by
     have := Nat.le_mul_of_pos_right q (show 0 < n' by omega)
     omega
   have hov : ∀ x : Nat, x ≤ 20 → 0 ≤ ((x : Int) * n') ∧ ((x : Int) * n') ≤ 100 := fun x hx => by
     have : x * n' ≤ 20 * 5 := Nat.mul_le_mul hx hn5.2
     constructor
     · exact Int.mul_nonneg (by omega) (by omega)
     · rw [← Int.natCast_mul]; omega
   have hov2 := hov q (by omega)
   have hcn : (((cnt 1 (ints (L (q + 1) FR)) : Nat) : Int) - 1) * (n' : Int) = ((q * n' : Nat) : Int) := by
     simp only [cnt1, ints_length, L_length]
     rw [show ((q + 1 : Nat) : Int) - 1 = (q : Int) by omega]
     push_cast; rfl
   have hcn2 : (((q + 1 : Nat) : Int) - 1) * (n' : Int) = ((q * n' : Nat) : Int) := by
     rw [show ((q + 1 : Nat) : Int) - 1 = (q : Int) by omega]
     push_cast; rfl
   have hcl : ((cnt 1 (ints (L (q * n' + 1) NM)) : Nat) : Int) = ((q * n' + 1 : Nat) : Int) := by simp only [cnt1, ints_length, L_length]
   repeat' first | ((first | refine z0 ?_ | (apply zI; refine zP (g1 _ _ _) ?_) | (apply zI; refine zP (g2 _ _ _) ?_) | (apply zI; refine zP (g3 _ _ _) ?_) | (apply zI; refine zP (c_series5 _ _ _ _ _ _ (by first | omega | (simp; omega)) (by first | omega | (simp; omega))) ?_) | (refine And.intro (fun h => ?_) (fun h => ?_) <;> (try simp only [cnt1, ints_length, rows_length, Tb_length, L_length, byts_length] at h) <;> first | (exfalso; first | omega | exact h trivial | (cases h; done)) | skip) | refine zS ?_ | refine zV ?_ | (apply zI; refine zP vObt ?_) | (apply zI; refine zP vObx ?_) | refine zA ?_ | refine And.intro ((inR64 (by omega) (by omega))) ?_ | (refine And.intro ((by rw [hcn]; exact inR64 (by omega) (by omega))) ?_) | refine Alt.fst ?_ | refine Or.inl ?_) <;> conv => whnf) | fail
   all_goals first | (exfalso; simp only [hcn2, hcn, hcl] at h; omega) | (exfalso; rename_i h; simp only [hcn2, hcn, hcl] at h; omega) | skip
   refine loop_cutR Tryz.tabOk mixOrd 42 (α := Nat) (fun i => [(28, dint i)]) (fun i => []) (fun i => i ≤ q + 1) (fun i => q + 1 - i) (0) ?_ ?_ ?_
   · omega
   · conv => whnf
     first | refine WeakS.autoR ?_ | refine Weak.autoR ?_
     conv => whnf
     repeat' ((first | refine z1 ?_ | refine z2 ?_ | refine zV ?_ | refine And.intro vRepl ?_ | refine And.intro vReplL ?_ | refine And.intro ?_ ?_ | exact trivial) <;> try (conv => whnf))
   intro i hi
   conv => whnf
   by_cases hiq : i < q + 1
   · have hin : i * n' ≤ q * n' := Nat.mul_le_mul_right n' (by omega)
     have hic : (i : Int) * (n' : Int) = ((i * n' : Nat) : Int) := by push_cast; rfl
     have hnmi := hnm i
     repeat' first | ((first | refine z0 ?_ | (refine And.intro (fun h => ?_) (fun h => ?_) <;> (try simp only [cnt1, ints_length, rows_length, Tb_length, L_length, byts_length] at h) <;> first | (exfalso; first | omega | exact h trivial | (cases h; done)) | skip) | refine zS ?_ | refine zV ?_ | (apply zI; refine zP vObt ?_) | (apply zI; refine zP vObx ?_) | refine zA ?_ | (refine And.intro ((by rw [hic]; exact inR64 (by omega) (by omega))) ?_) | refine Alt.fst ?_ | refine Or.inl ?_) <;> conv => whnf) | fail
     all_goals first | (exfalso; apply h; rw [hic, Int.toNat_natCast, hnmi]; done) | skip
     refine Exists.intro (i + 1) (And.intro (by omega) (And.intro (by omega) ?_))
     first | refine WeakS.autoR ?_ | refine Weak.autoR ?_
     conv => whnf
     repeat' ((first | refine z1 ?_ | refine z2 ?_ | refine zV ?_ | refine And.intro vRepl ?_ | refine And.intro vReplL ?_ | refine And.intro ?_ ?_ | exact trivial) <;> try (conv => whnf))
   · repeat' first | ((first | refine z0 ?_ | (refine And.intro (fun h => ?_) (fun h => ?_) <;> (try simp only [cnt1, ints_length, rows_length, Tb_length, L_length, byts_length] at h) <;> first | (exfalso; first | omega | exact h trivial | (cases h; done)) | skip) | refine zS ?_ | refine zV ?_ | (apply zI; refine zP vObt ?_) | (apply zI; refine zP vObx ?_) | refine zA ?_ | refine Alt.fst ?_ | refine Or.inl ?_) <;> conv => whnf) | fail
     all_goals first | (refine Stg.weak (crd_D hW l hb hl h0) (wkA (kp := 0) []))
 · rw [serRes, if_neg hc] at g1 g2
   repeat' first | ((first | refine z0 ?_ | (apply zI; refine zP (g1 _ _ _) ?_) | (apply zI; refine zP (g2 _ _ _) ?_) | (apply zI; refine zP (c_series5Nil) ?_) | (refine And.intro (fun h => ?_) (fun h => ?_) <;> (try simp only [cnt1, ints_length, rows_length, Tb_length, L_length, byts_length] at h) <;> first | (exfalso; first | omega | exact h trivial | (cases h; done)) | skip) | refine zS ?_ | refine zV ?_ | (apply zI; refine zP vObt ?_) | (apply zI; refine zP vObx ?_) | refine zA ?_ | refine Alt.fst ?_ | refine Or.inl ?_) <;> conv => whnf) | fail
   all_goals first | (refine Stg.weak (crd_D hW l hb hl h0) (wkA (kp := 0) []))
theorem crd_B (hW : Wei) (l : List Nat) (hb : ∀ b ∈ l, b < 256) (hl : l.length ≤ 9223372036854775807) (h0 : ¬ 4096 < l.length) : Stg Tryz.prog 0 Tryz.f11 10 (retQ Tryz.tab Tryz.f11 (dbool true)) (fewS Tryz.f11.ntmps [(0, .list false 1 (byts l))] []) := by
 refine stg_cut Tryz.tabOk mixOrd _ 10 7 ?_
 conv => whnf
 repeat' first | (refine borA [] (c_DrawCurveOfCoordinates hW false l hb (by omega)) (fun d rt' hd => ?_)) | ((first | refine z0 ?_ | (refine And.intro (fun h => ?_) (fun h => ?_) <;> (try simp only [cnt1, ints_length, rows_length, Tb_length, L_length, byts_length] at h) <;> first | (exfalso; first | omega | exact h trivial | (cases h; done)) | skip) | refine zS ?_ | refine zV ?_ | (apply zI; refine zP vObt ?_) | (apply zI; refine zP vObx ?_) | refine zA ?_ | refine Alt.fst ?_ | refine Or.inl ?_) <;> conv => whnf) | fail
 obtain ⟨m, t, la, ⟨hm, ht⟩, hla, rfl, rfl⟩ := hd
 refine ⟨rfl, by simp, ?_⟩
 conv => whnf
 have s1 := smT_lens ht
 have g1 := fun o p o1 => c_implCurveOfCoordinates o p o1 m t s1.1 s1.2 la (by omega)
 have g2 := fun o p o1 => c_specCurveOfCoordinates o p o1 m t s1.1 s1.2 la (by omega)
 by_cases hc : ccC m t la = 0
 · obtain ⟨hA, hlen, hnum⟩ := ccC_0 hc
   obtain ⟨⟨hmd, hn⟩, eT, hL⟩ := lawB_Tb hA
   have hLw := lwN_of hn.1 hL
   rw [serRes, if_pos hc] at g1 g2
   have hC0 : (cuP t.length (rd2 m t) (rd m la).c (t.length - 1)).c 0 = 0 := hLw.cuP_0 _ _
   have g3 := fun o p o1 => c_implCoordinatesUnder o p o1 m t s1.1 s1.2 m (L t.length (cuP t.length (rd2 m t) (rd m la).c (t.length - 1))) (by first | omega | (simp; omega))
   have hcu : cuC m t m (L t.length (cuP t.length (rd2 m t) (rd m la).c (t.length - 1))) = 0 := by
     unfold cuC
     rw [if_pos hA, if_pos (serB_LX hmd hn _), if_pos]
     simp only [fitB, decide_true, Bool.true_and, L_length]
     rw [L_getD _ (by omega), hC0]; simp [Zm.val_zero]
   have hback : L (t.length - 1) (⟨coo t.length (rd2 m t) (rd m (L t.length (cuP t.length (rd2 m t) (rd m la).c (t.length - 1))))⟩ : PS (Zm m)) = la := by
     have e := L_rd (numsB_iff.1 hnum)
     rw [hlen] at e
     refine (L_congr (fun k hk => ?_)).trans e
     show coo t.length (rd2 m t) _ k = _
     rw [coo_congr (rd2 m t) (rd_L t.length _) (by omega), hLw.coo_cuP _ (by omega) k hk]
   rw [coRes, if_pos hcu, hback] at g3
   simp only [SerD] at g1 g2 g3
   have hZl : (L t.length (cuP t.length (rd2 m t) (rd m la).c (t.length - 1))).length ≤ 12 := by rw [L_length]; omega
   generalize L t.length (cuP t.length (rd2 m t) (rd m la).c (t.length - 1)) = Z at *
   repeat' first | ((first | refine z0 ?_ | (apply zI; refine zP (g1 _ _ _) ?_) | (apply zI; refine zP (g2 _ _ _) ?_) | (apply zI; refine zP (g3 _ _ _) ?_) | (apply zI; refine zP (c_series5 _ _ _ _ _ _ (by omega) (by omega)) ?_) | (apply zI; refine zP (c_likeInts _ _ _ _ (by omega) (by omega)) ?_) | (refine And.intro (fun h => ?_) (fun h => ?_) <;> (try simp only [cnt1, ints_length, rows_length, Tb_length, L_length, byts_length] at h) <;> first | (exfalso; first | omega | exact h trivial | (cases h; done)) | skip) | refine zS ?_ | refine zV ?_ | (apply zI; refine zP vObt ?_) | (apply zI; refine zP vObx ?_) | refine zA ?_ | refine Alt.fst ?_ | refine Or.inl ?_) <;> conv => whnf) | fail
   all_goals first | (refine Stg.weak (crd_C hW l hb hl h0) (wkA (kp := 0) []))
 · rw [serRes, if_neg hc] at g1 g2
   repeat' first | ((first | refine z0 ?_ | (apply zI; refine zP (g1 _ _ _) ?_) | (apply zI; refine zP (g2 _ _ _) ?_) | (apply zI; refine zP (c_series5Nil) ?_) | (refine And.intro (fun h => ?_) (fun h => ?_) <;> (try simp only [cnt1, ints_length, rows_length, Tb_length, L_length, byts_length] at h) <;> first | (exfalso; first | omega | exact h trivial | (cases h; done)) | skip) | refine zS ?_ | refine zV ?_ | (apply zI; refine zP vObt ?_) | (apply zI; refine zP vObx ?_) | refine zA ?_ | refine Alt.fst ?_ | refine Or.inl ?_) <;> conv => whnf) | fail
   all_goals first | (refine Stg.weak (crd_C hW l hb hl h0) (wkA (kp := 0) []))
theorem c_FnCoordinates (hW : Wei) (l : List Nat) (hb : ∀ b ∈ l, b < 256) (hl : l.length ≤ 9223372036854775807) : PureCall Tryz.prog 11 [.list false 1 (byts l)] (dbool true) := by
 have hbig := c_big false l hl
 by_cases h0 : 4096 < l.length
 · rw [show decide (4096 < l.length) = true by simp [h0]] at hbig
   refine pure_of_stg Tryz.f11 Tryz.func11 rfl rfl Tryz.tabOk ?_
   refine stg_cut Tryz.tabOk mixOrd _ 0 10 ?_
   conv => whnf
   repeat' first | ((first | refine z0 ?_ | (apply zI; refine zP (hbig) ?_) | (refine And.intro (fun h => ?_) (fun h => ?_) <;> (try simp only [cnt1, ints_length, rows_length, Tb_length, L_length, byts_length] at h) <;> first | (exfalso; first | omega | exact h trivial | (cases h; done)) | skip) | refine zS ?_ | refine zV ?_ | (apply zI; refine zP vObt ?_) | (apply zI; refine zP vObx ?_) | refine zA ?_ | refine Alt.fst ?_ | refine Or.inl ?_) <;> conv => whnf) | fail
 · rw [show decide (4096 < l.length) = false by simp [h0]] at hbig
   refine pure_of_stg Tryz.f11 Tryz.func11 rfl rfl Tryz.tabOk ?_
   refine stg_cut Tryz.tabOk mixOrd _ 0 10 ?_
   conv => whnf
   repeat' first | (refine borA [] (c_DrawCoordinatesUnder hW false l hb (by omega)) (fun d rt' hd => ?_)) | ((first | refine z0 ?_ | (apply zI; refine zP (hbig) ?_) | (refine And.intro (fun h => ?_) (fun h => ?_) <;> (try simp only [cnt1, ints_length, rows_length, Tb_length, L_length, byts_length] at h) <;> first | (exfalso; first | omega | exact h trivial | (cases h; done)) | skip) | refine zS ?_ | refine zV ?_ | (apply zI; refine zP vObt ?_) | (apply zI; refine zP vObx ?_) | refine zA ?_ | refine Alt.fst ?_ | refine Or.inl ?_) <;> conv => whnf) | fail
   obtain ⟨m, t, ma, la, ⟨hm, ht⟩, hla, rfl, rfl⟩ := hd
   refine ⟨rfl, by simp, ?_⟩
   conv => whnf
   have s1 := smT_lens ht
   have g1 := fun o p o1 => c_implCoordinatesUnder o p o1 m t s1.1 s1.2 ma la (by omega)
   have g2 := fun o p o1 => c_specCoordinatesUnder o p o1 m t s1.1 s1.2 ma la (by omega)
   by_cases hc : cuC m t ma la = 0
   · obtain ⟨hA, hB2, rfl, hC, hD⟩ := cuC_0 hc
     obtain ⟨⟨hmd, hn⟩, eT, hL⟩ := lawB_Tb hA
     have hLw := lwN_of hn.1 hL
     have eL := (serB_L' hB2).symm
     rw [← hC] at eL
     have hD2 : (rd m la).c 0 = 0 := by rw [rd_c, hD]; rfl
     rw [coRes, if_pos hc] at g1 g2
     have g3 := fun o p o1 => c_implCurveOfCoordinates o p o1 m t s1.1 s1.2 (L (t.length - 1) (⟨coo t.length (rd2 m t) (rd m la)⟩ : PS (Zm m))) (by first | omega | (simp; omega))
     have hcc : ccC m t (L (t.length - 1) (⟨coo t.length (rd2 m t) (rd m la)⟩ : PS (Zm m))) = 0 := by
       unfold ccC
       rw [if_pos hA, if_pos]
       rw [L_length, numsB_iff.2 (nums_L hmd _ _)]; simp
     have hcur : L t.length (cuP t.length (rd2 m t) (rd m (L (t.length - 1) (⟨coo t.length (rd2 m t) (rd m la)⟩ : PS (Zm m)))).c (t.length - 1)) = la := by
       rw [cuP_congr (d := coo t.length (rd2 m t) (rd m la)) t.length (rd2 m t) (fun i hi => rd_L (t.length - 1) _ i hi), cuP_coo]
       refine (L_congr ?_).trans eL
       have := hLw.cur_ag hD2 (k := t.length - 1) (by omega)
       rwa [show t.length - 1 + 1 = t.length by omega] at this
     rw [serRes, if_pos hcc, SerD, hcur] at g3
     have hZl : (L (t.length - 1) (⟨coo t.length (rd2 m t) (rd m la)⟩ : PS (Zm m))).length ≤ 12 := by rw [L_length]; omega
     generalize L (t.length - 1) (⟨coo t.length (rd2 m t) (rd m la)⟩ : PS (Zm m)) = Z at *
     repeat' first | ((first | refine z0 ?_ | (apply zI; refine zP (g1 _ _ _) ?_) | (apply zI; refine zP (g2 _ _ _) ?_) | (apply zI; refine zP (g3 _ _ _) ?_) | (apply zI; refine zP (c_series5 _ _ _ _ _ _ (by omega) (by omega)) ?_) | (apply zI; refine zP (c_likeInts _ _ _ _ (by omega) (by omega)) ?_) | (refine And.intro (fun h => ?_) (fun h => ?_) <;> (try simp only [cnt1, ints_length, rows_length, Tb_length, L_length, byts_length] at h) <;> first | (exfalso; first | omega | exact h trivial | (cases h; done)) | skip) | refine zS ?_ | refine zV ?_ | (apply zI; refine zP vObt ?_) | (apply zI; refine zP vObx ?_) | refine zA ?_ | refine Alt.fst ?_ | refine Or.inl ?_) <;> conv => whnf) | fail
     all_goals first | (refine Stg.weak (crd_B hW l hb hl h0) (wkA (kp := 0) []))
   · rw [coRes, if_neg hc] at g1 g2
     repeat' first | ((first | refine z0 ?_ | (apply zI; refine zP (g1 _ _ _) ?_) | (apply zI; refine zP (g2 _ _ _) ?_) | (apply zI; refine zP (c_likeNil) ?_) | (refine And.intro (fun h => ?_) (fun h => ?_) <;> (try simp only [cnt1, ints_length, rows_length, Tb_length, L_length, byts_length] at h) <;> first | (exfalso; first | omega | exact h trivial | (cases h; done)) | skip) | refine zS ?_ | refine zV ?_ | (apply zI; refine zP vObt ?_) | (apply zI; refine zP vObx ?_) | refine zA ?_ | refine Alt.fst ?_ | refine Or.inl ?_) <;> conv => whnf) | fail
     all_goals first | (refine Stg.weak (crd_B hW l hb hl h0) (wkA (kp := 0) []))
end Go.Proofs
