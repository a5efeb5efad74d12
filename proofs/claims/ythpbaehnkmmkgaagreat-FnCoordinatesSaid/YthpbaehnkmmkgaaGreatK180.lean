import Derived.Test.YthpbaehnkmmkgaaGreatK142
import Derived.Test.YthpbaehnkmmkgaaGreatK149
import Derived.Test.YthpbaehnkmmkgaaGreatK79
import Derived.Test.YthpbaehnkmmkgaaGreatAlg23
namespace Go.Proofs
open Go Go.Vm Go.Fg Go.Fg.PS
set_option maxRecDepth 100000
set_option maxHeartbeats 4000000
set_option linter.unusedSimpArgs false
set_option linter.unusedVariables false
variable {m : Int}
theorem L_mono2 {N k n k' : Nat} {x : Int} (c : Zm m) (hn : n = N) (hk : k' = k) (hx : x = c.val) : (List.replicate n (0 : Int)).set k' x = L N (mono k c) := by
 subst hn; subst hk; subst hx
 rw [← L_zero (m := m)]
 exact L_set_eq c rfl (fun j hj => by rw [upd_c, mono_c]; rfl)
theorem c_l12Curve (hm : Md m) (o p o1 : Bool) (N : Nat) (hN : 2 ≤ N ∧ N ≤ 11) (f : PS (PS (Zm m))) (c : PS (Zm m)) (k : Nat) (hk : k < N) : PureCall Tryz.prog 332 [dint m, TbD o p N f, LD o1 k c] (LD true N (cuP N f c.c k)) := by
 have hm1 := hm.1
 have hm2 := hm.2
 refine pure_of_vcR Tryz.tabOk mixOrd Tryz.func332 rfl rfl ?_
 conv => whnf
 repeat' first | ((first | refine z0 ?_ | (refine And.intro (fun h => ?_) (fun h => ?_) <;> (try simp only [cnt1, ints_length] at h)) | refine zS ?_ | refine zV ?_ | (apply zI; refine zP vObt ?_) | (apply zI; refine zP vObx ?_) | refine zA ?_ | refine Alt.fst ?_ | refine Or.inl ?_) <;> conv => whnf) | fail
 refine loop_atR Tryz.tabOk mixOrd (α := Nat) (fun i => [(7, .ref 0 [] 1 0 N), (8, dint i), (9, .undef), (12, .undef)]) (fun i => [(0, some ⟨false, 1, ints (L N (cuP N f c.c i))⟩)]) (fun i => i ≤ k) (fun i => k - i) (0) ?_ ?_ ?_
 · omega
 · conv => whnf
   first | refine WeakS.autoR ?_ | refine Weak.autoR ?_
   conv => whnf
   repeat' ((first | refine z1 ?_ | refine z2 ?_ | refine zV ?_ | refine And.intro vRepl ?_ | refine And.intro vReplL ?_ | refine And.intro ?_ ?_ | exact trivial) <;> try (conv => whnf))
   all_goals first | (rw [show cuP N f c.c 0 = 0 from rfl, L_zero]; done) | (simp [cnt1]; done) | skip
 intro i hi
 conv => whnf
 by_cases hik : i < k
 · have key : ∀ (o o2 o3 : Bool) (own : List Int), own = L N (mono (i + 1) (c.c i)) → PureCall Tryz.prog 382 [dint m, TbD o p N f, LD o2 N (cuP N f c.c i), .list o3 1 (ints own)] (LD true N (cuP N f c.c (i + 1))) := fun o o2 o3 own e => by
     rw [e, show cuP N f c.c (i + 1) = putS f (cuP N f c.c i) (mono (i + 1) (c.c i)) N by rw [putS_ev]; rfl]
     exact c_l03Put hm o p o2 o3 N (by omega) f _ _
   repeat' first | ((first | refine z0 ?_ | (apply zI; refine zP (key _ _ _ _ (L_mono2 _ (by simp [cnt1]) (by omega) rfl)) ?_) | (refine And.intro (fun h => ?_) (fun h => ?_) <;> (try simp only [cnt1, ints_length, rows_length, Tb_length, L_length, byts_length] at h) <;> first | (exfalso; first | omega | exact h trivial | (cases h; done)) | skip) | refine zS ?_ | refine zV ?_ | (apply zI; refine zP vObt ?_) | (apply zI; refine zP vObx ?_) | refine zA ?_ | refine Alt.fst ?_ | refine Or.inl ?_) <;> conv => whnf) | fail
   all_goals first | (exfalso; simp only [cnt1, ints_length, L_length] at *; omega) | skip
   first | (refine Exists.intro (i + 1) (And.intro (by omega) (And.intro (by omega) ?_))) | skip
   first | refine WeakS.autoR ?_ | refine Weak.autoR ?_
   conv => whnf
   repeat' ((first | refine z1 ?_ | refine z2 ?_ | refine zV ?_ | refine And.intro vRepl ?_ | refine And.intro vReplL ?_ | refine And.intro ?_ ?_ | exact trivial) <;> try (conv => whnf))
 · repeat' first | ((first | refine z0 ?_ | (refine And.intro (fun h => ?_) (fun h => ?_) <;> (try simp only [cnt1, ints_length, rows_length, Tb_length, L_length, byts_length] at h) <;> first | (exfalso; first | omega | exact h trivial | (cases h; done)) | skip) | refine zS ?_ | refine zV ?_ | (apply zI; refine zP vObt ?_) | (apply zI; refine zP vObx ?_) | refine zA ?_ | refine Alt.fst ?_ | refine Or.inl ?_) <;> conv => whnf) | fail
   all_goals first | (exfalso; simp only [cnt1, ints_length, L_length] at *; omega) | skip
   rw [show i = k by omega]
open Classical in
noncomputable def coRes (m : Int) (t : List (List Int)) (ma : Int) (l : List Int) : D := if cuC m t ma l = 0 then .tup [.list true 1 (ints (L (t.length - 1) (⟨coo t.length (rd2 m t) (rd m l)⟩ : PS (Zm m)))), dint 0] else .tup [.lit (.slice none 0 0), dint (cuC m t ma l)]
def lft2 (N : Nat) (f : PS (PS (Zm m))) (a : PS (Zm m)) : Nat → PS (Zm m)
 | 0 => a
 | k + 1 => putS f (lft2 N f a k) (compN (ivS N f) (mono (k + 1) ((lft2 N f a k).c (k + 1))) 0 N) N
theorem lft2_ok {f : PS (PS (Zm m))} {N : Nat} (L : LwN f N) {a : PS (Zm m)} (ha : a.c 0 = 0) : ∀ k, k < N → (lft2 N f a k).c 0 = 0 ∧ (∀ i, i ≤ k → (lft2 N f a k).c i = 0) ∧ Ag N (evT N f (cur N f a k) (lft2 N f a k)) a
 | 0, _ => ⟨ha, fun i hi => by rw [Nat.le_zero.1 hi]; exact ha, (L.comm (show (cur N f a 0).c 0 = 0 from rfl) ha).trans (L.zero_left ha)⟩
 | k + 1, hk => by
   obtain ⟨h0, h1, h2⟩ := lft2_ok L ha k (by omega)
   have m0 := mono_0 k ((lft2 N f a k).c (k + 1))
   have x0 := op_c0 L m0
   have hs : Ag N (evT N f (mono (k + 1) ((lft2 N f a k).c (k + 1))) (compN (ivS N f) (mono (k + 1) ((lft2 N f a k).c (k + 1))) 0 N)) 0 :=
     (evT_congr (fun _ _ _ => rfl) Ag.rfl (op_ag L m0)).trans (L.op m0)
   have e : lft2 N f a (k + 1) = evT N f (lft2 N f a k) (compN (ivS N f) (mono (k + 1) ((lft2 N f a k).c (k + 1))) 0 N) := putS_ev _ _ _ _
   rw [e]
   exact ⟨L.e0 h0 x0, L.left_step h0 x0 hk h1 hs, L.left_sum ha h0 x0 hk h1 h2 hs⟩
theorem lft2_coo {f : PS (PS (Zm m))} {N : Nat} (L : LwN f N) {a : PS (Zm m)} (ha : a.c 0 = 0) {k : Nat} (hk : k + 1 < N) : (lft2 N f a k).c (k + 1) = coo N f a k := by
 obtain ⟨h0, h1, h2⟩ := lft2_ok L ha k (by omega)
 exact L.left_coo ha h0 hk h1 h2
theorem c_implCoordinatesUnder (o p o1 : Bool) (m : Int) (t : List (List Int)) (hl : t.length ≤ 1048576) (hr : lensOk t) (ma : Int) (l : List Int) (h1 : l.length ≤ 1048576) :
   PureCall Tryz.prog 132 [.agg [dint m, .list o 1 (rows p t)], .agg [dint ma, .list o1 1 (ints l)]] (coRes m t ma l) := by
 have h0 := fun o1 o2 => c_curved1 o p o1 o2 m t ma l hl hr h1
 by_cases hc : cuC m t ma l = 0
 · obtain ⟨hA, hB, rfl, hC, hD⟩ := cuC_0 hc
   obtain ⟨⟨hm, hn⟩, eT, hL⟩ := lawB_Tb hA
   have hLw := lwN_of hn.1 hL
   have eL := (serB_L' hB).symm
   rw [← hC] at eL
   have hD2 : (rd m l).c 0 = 0 := by rw [rd_c, hD]; rfl
   rw [coRes, if_pos hc]
   rw [hc] at h0
   generalize hN : t.length = N at *
   generalize rd2 m t = F at *
   generalize rd m l = A at *
   subst eT
   subst eL
   have hm1 := hm.1
   have hm2 := hm.2
   have hdg := fun o p => c_degreeP o p N (by omega) F
   simp only [PlD] at hdg
   refine pure_of_vcR Tryz.tabOk mixOrd Tryz.func132 rfl rfl ?_
   conv => whnf
   repeat' first | ((first | refine z0 ?_ | (apply zI; refine zP (h0 _ _) ?_) | (apply zI; refine zP ((show sub [dint m, D.list false 1 (ints (L N A))] 2 0 1 = [dint m, D.list false 1 (ints (L N A))] from rfl)) ?_) | (refine And.intro (fun h => ?_) (fun h => ?_) <;> (try simp only [cnt1, ints_length, rows_length, Tb_length, L_length, byts_length] at h) <;> first | (exfalso; first | omega | exact h trivial | (cases h; done)) | skip) | refine zS ?_ | refine zV ?_ | (apply zI; refine zP vObt ?_) | (apply zI; refine zP vObx ?_) | refine zA ?_ | refine And.intro ((show 1 * 2 ≤ 2 by omega)) ?_ | refine Alt.fst ?_ | refine Or.inl ?_) <;> conv => whnf) | fail
   refine loop_atR Tryz.tabOk mixOrd (α := Nat × Bool) (fun u => [(7, .ref 4 [] 1 0 u.1), (8, dint ((u.1 : Int) + 1)), (9, .undef), (12, .undef), (17, .undef)]) (fun u => [(1, some ⟨true, 1, [dint m, .list u.2 1 (ints (L N (lft2 N F A u.1)))]⟩), (4, some ⟨false, 1, ints (L u.1 (⟨coo N F A⟩ : PS (Zm m)))⟩)]) (fun u => u.1 + 1 ≤ N) (fun u => N - u.1) ((0, o1)) ?_ ?_ ?_
   · omega
   · conv => whnf
     first | refine WeakS.autoR ?_ | refine Weak.autoR ?_
     conv => whnf
     repeat' ((first | refine z1 ?_ | refine z2 ?_ | refine zV ?_ | refine And.intro vRepl ?_ | refine And.intro vReplL ?_ | refine And.intro ?_ ?_ | exact trivial) <;> try (conv => whnf))
     all_goals first | rfl | (simp; done) | skip
   intro u hk
   obtain ⟨k, fl⟩ := u
   simp only at hk
   conv => whnf
   by_cases hkN : k + 1 < N
   · have key1 := fun o p o1 => c_oppositeP hm o p o1 N (by omega) F (mono (k + 1) ((lft2 N F A k).c (k + 1)))
     have key2 := fun o p o1 o2 => c_curves hm o p o1 o2 N (by omega) F (lft2 N F A k) (compN (ivS N F) (mono (k + 1) ((lft2 N F A k).c (k + 1))) 0 N)
     repeat' first | ((first | refine z0 ?_ | (apply zI; refine zP (hdg _ _) ?_) | (apply zI; refine zP (c_monomial hm N (k + 1) ((lft2 N F A k).c (k + 1)) (by omega) (by omega) (by omega) (by omega)) ?_) | (apply zI; refine zP (key1 _ _ _) ?_) | (apply zI; refine zP (key2 _ _ _ _) ?_) | (refine And.intro (fun h => ?_) (fun h => ?_) <;> (try simp only [cnt1, ints_length, rows_length, Tb_length, L_length, byts_length] at h) <;> first | (exfalso; first | omega | exact h trivial | (cases h; done)) | skip) | refine zS ?_ | refine zV ?_ | (apply zI; refine zP vObt ?_) | (apply zI; refine zP vObx ?_) | refine zA ?_ | refine Alt.fst ?_ | refine Or.inl ?_) <;> conv => whnf) | fail
     refine Exists.intro (k + 1, false) (And.intro (by show k + 1 + 1 ≤ N; omega) (And.intro (by show N - (k + 1) < N - k; omega) ?_))
     refine Weak.trans (Weak.freezeB (kp := 0) (r := 14) (q := 1) (j := 1) (sz := 1) (n := _) (by omega) (by omega) rfl rfl rfl (by simp [cnt1]) false) ?_
     first | refine WeakS.autoR ?_ | refine Weak.autoR ?_
     conv => whnf
     repeat' ((first | refine z1 ?_ | refine z2 ?_ | refine zV ?_ | refine And.intro vRepl ?_ | refine And.intro vReplL ?_ | refine And.intro ?_ ?_ | exact trivial) <;> try (conv => whnf))
     show ints (L k (⟨coo N F A⟩ : PS (Zm m)) ++ [((lft2 N F A k).c (k + 1)).val]) = ints (L (k + 1) (⟨coo N F A⟩ : PS (Zm m)))
     rw [← L_snoc, lft2_coo hLw hD2 hkN]
   · repeat' first | ((first | refine z0 ?_ | (apply zI; refine zP (hdg _ _) ?_) | (refine And.intro (fun h => ?_) (fun h => ?_) <;> (try simp only [cnt1, ints_length, rows_length, Tb_length, L_length, byts_length] at h) <;> first | (exfalso; first | omega | exact h trivial | (cases h; done)) | skip) | refine zS ?_ | refine zV ?_ | (apply zI; refine zP vObt ?_) | (apply zI; refine zP vObx ?_) | refine zA ?_ | refine Alt.fst ?_ | refine Or.inl ?_) <;> conv => whnf) | fail
     all_goals first | (exfalso; rename_i h; simp only [cnt1, rows_length] at h; omega) | skip
     rw [show k = N - 1 by omega]
 · rw [coRes, if_neg hc]
   have hrg := cuC_rng m t ma l
   refine pure_of_vcR Tryz.tabOk mixOrd Tryz.func132 rfl rfl ?_
   conv => whnf
   repeat' first | ((first | refine z0 ?_ | (apply zI; refine zP (h0 _ _) ?_) | (apply zI; refine zP ((show sub [dint ma, D.list false 1 (ints l)] 2 0 1 = [dint ma, D.list false 1 (ints l)] from rfl)) ?_) | (refine And.intro (fun h => ?_) (fun h => ?_) <;> (try simp only [cnt1, ints_length, rows_length, Tb_length, L_length, byts_length] at h) <;> first | (exfalso; first | omega | exact h trivial | (cases h; done)) | skip) | refine zS ?_ | refine zV ?_ | (apply zI; refine zP vObt ?_) | (apply zI; refine zP vObx ?_) | refine zA ?_ | refine And.intro ((show 1 * 2 ≤ 2 by omega)) ?_ | refine Alt.fst ?_ | refine Or.inl ?_) <;> conv => whnf) | fail
   all_goals first | rfl | (exfalso; omega) | (exfalso; simp_all; done)
theorem c_specCoordinatesUnder (o p o1 : Bool) (m : Int) (t : List (List Int)) (hl : t.length ≤ 1048576) (hr : lensOk t) (ma : Int) (l : List Int) (h1 : l.length ≤ 1048576) :
   PureCall Tryz.prog 133 [.agg [dint m, .list o 1 (rows p t)], .agg [dint ma, .list o1 1 (ints l)]] (coRes m t ma l) := by
 have h0 := fun o1 o2 => c_l04Code1 o p o1 o2 m t ma l hl hr h1
 by_cases hc : cuC m t ma l = 0
 · obtain ⟨hA, hB, rfl, hC, hD⟩ := cuC_0 hc
   obtain ⟨⟨hm, hn⟩, eT, hL⟩ := lawB_Tb hA
   have hLw := lwN_of hn.1 hL
   have eL := (serB_L' hB).symm
   rw [← hC] at eL
   rw [coRes, if_pos hc]
   rw [hc] at h0
   generalize hN : t.length = N at *
   generalize rd2 m t = F at *
   generalize rd m l = A at *
   subst eT
   subst eL
   have hm1 := hm.1
   have hm2 := hm.2
   have key := fun (o p o2 : Bool) (k : Nat) (hk : k < N) => c_l12Curve hm o p o2 N hn F (⟨coo N F A⟩ : PS (Zm m)) k hk
   simp only [cuP_coo] at key
   refine pure_of_vcR Tryz.tabOk mixOrd Tryz.func133 rfl rfl ?_
   conv => whnf
   repeat' first | ((first | refine z0 ?_ | (apply zI; refine zP (h0 _ _) ?_) | (apply zI; refine zP ((show sub [dint m, D.list false 1 (ints (L N A))] 2 0 1 = [dint m, D.list false 1 (ints (L N A))] from rfl)) ?_) | (refine And.intro (fun h => ?_) (fun h => ?_) <;> (try simp only [cnt1, ints_length, rows_length, Tb_length, L_length, byts_length] at h) <;> first | (exfalso; first | omega | exact h trivial | (cases h; done)) | skip) | refine zS ?_ | refine zV ?_ | (apply zI; refine zP vObt ?_) | (apply zI; refine zP vObx ?_) | refine zA ?_ | refine And.intro ((show 1 * 2 ≤ 2 by omega)) ?_ | refine Alt.fst ?_ | refine Or.inl ?_) <;> conv => whnf) | fail
   refine loop_atR Tryz.tabOk mixOrd (α := Nat) (fun k => [(7, .ref 4 [] 1 0 k), (8, dint ((k : Int) + 1)), (9, .undef), (12, .undef), (17, .undef)]) (fun k => [(4, some ⟨false, 1, ints (L k (⟨coo N F A⟩ : PS (Zm m)))⟩)]) (fun k => k + 1 ≤ N) (fun k => N - k) (0) ?_ ?_ ?_
   · omega
   · conv => whnf
     first | refine WeakS.autoR ?_ | refine Weak.autoR ?_
     conv => whnf
     repeat' ((first | refine z1 ?_ | refine z2 ?_ | refine zV ?_ | refine And.intro vRepl ?_ | refine And.intro vReplL ?_ | refine And.intro ?_ ?_ | exact trivial) <;> try (conv => whnf))
   intro k hk
   conv => whnf
   by_cases hkN : k + 1 < N
   · have key2 := fun o p o2 => key o p o2 k (by omega)
     have hv1 := Zm.val_range hm.pos (A.c (k + 1))
     have hv2 := Zm.val_range hm.pos ((cur N F A k).c (k + 1))
     repeat' first | ((first | refine z0 ?_ | (apply zI; refine zP (key2 _ _ _) ?_) | (apply zI; refine zP (c_l01Mod _ _ hm.pos (by omega)) ?_) | (refine And.intro (fun h => ?_) (fun h => ?_) <;> (try simp only [cnt1, ints_length, rows_length, Tb_length, L_length, byts_length] at h) <;> first | (exfalso; first | omega | exact h trivial | (cases h; done)) | skip) | refine zS ?_ | refine zV ?_ | (apply zI; refine zP vObt ?_) | (apply zI; refine zP vObx ?_) | refine zA ?_ | refine And.intro ((inR64 (by omega) (by omega))) ?_ | refine Alt.fst ?_ | refine Or.inl ?_) <;> conv => whnf) | fail
     all_goals first | (exfalso; rename_i h; simp only [cnt1, rows_length] at h; omega) | skip
     refine Exists.intro (k + 1) (And.intro (by omega) (And.intro (by omega) ?_))
     first | refine WeakS.autoR ?_ | refine Weak.autoR ?_
     conv => whnf
     repeat' ((first | refine z1 ?_ | refine z2 ?_ | refine zV ?_ | refine And.intro vRepl ?_ | refine And.intro vReplL ?_ | refine And.intro ?_ ?_ | exact trivial) <;> try (conv => whnf))
     rw [← L_snoc]
     refine congrArg (fun x => ints (L k (⟨coo N F A⟩ : PS (Zm m)) ++ [x])) (Zm.emod_val ?_)
     rw [Zm.mk_sub, Zm.mk_val, Zm.mk_val]
     rfl
   · repeat' first | ((first | refine z0 ?_ | (refine And.intro (fun h => ?_) (fun h => ?_) <;> (try simp only [cnt1, ints_length, rows_length, Tb_length, L_length, byts_length] at h) <;> first | (exfalso; first | omega | exact h trivial | (cases h; done)) | skip) | refine zS ?_ | refine zV ?_ | (apply zI; refine zP vObt ?_) | (apply zI; refine zP vObx ?_) | refine zA ?_ | refine Alt.fst ?_ | refine Or.inl ?_) <;> conv => whnf) | fail
     all_goals first | (exfalso; rename_i h; simp only [cnt1, rows_length] at h; omega) | skip
     rw [show k = N - 1 by omega]
 · rw [coRes, if_neg hc]
   have hrg := cuC_rng m t ma l
   refine pure_of_vcR Tryz.tabOk mixOrd Tryz.func133 rfl rfl ?_
   conv => whnf
   repeat' first | ((first | refine z0 ?_ | (apply zI; refine zP (h0 _ _) ?_) | (apply zI; refine zP ((show sub [dint ma, D.list false 1 (ints l)] 2 0 1 = [dint ma, D.list false 1 (ints l)] from rfl)) ?_) | (refine And.intro (fun h => ?_) (fun h => ?_) <;> (try simp only [cnt1, ints_length, rows_length, Tb_length, L_length, byts_length] at h) <;> first | (exfalso; first | omega | exact h trivial | (cases h; done)) | skip) | refine zS ?_ | refine zV ?_ | (apply zI; refine zP vObt ?_) | (apply zI; refine zP vObx ?_) | refine zA ?_ | refine And.intro ((show 1 * 2 ≤ 2 by omega)) ?_ | refine Alt.fst ?_ | refine Or.inl ?_) <;> conv => whnf) | fail
   all_goals first | rfl | (exfalso; omega) | (exfalso; simp_all; done)
noncomputable def ccC (m : Int) (t : List (List Int)) (l : List Int) : Int := if lawB m t = true then (if (decide (l.length = t.length - 1) && numsB m l) = true then 0 else 2) else 1
theorem ccC_0 {m : Int} {t : List (List Int)} {l : List Int} (h : ccC m t l = 0) : lawB m t = true ∧ l.length = t.length - 1 ∧ numsB m l = true := by
 unfold ccC at h
 split at h
 · split at h
   · rename_i h1 h2
     simp only [Bool.and_eq_true, decide_eq_true_eq] at h2
     exact ⟨h1, h2.1, h2.2⟩
   · omega
 · omega
theorem c_implCurveOfCoordinates (o p o1 : Bool) (m : Int) (t : List (List Int)) (hl : t.length ≤ 1048576) (hr : lensOk t) (l : List Int) (h1 : l.length ≤ 1048576) :
   PureCall Tryz.prog 134 [.agg [dint m, .list o 1 (rows p t)], .list o1 1 (ints l)] (serRes m t.length (cuP t.length (rd2 m t) (rd m l).c (t.length - 1)) (ccC m t l)) := by
 have h0 := c_IsLaw o p m t hl hr
 cases hA : lawB m t with
 | false =>
   rw [hA] at h0
   have e : ccC m t l = 1 := by unfold ccC; rw [if_neg (by simp [hA])]
   rw [serRes, if_neg (by omega), e]
   refine pure_of_vcR Tryz.tabOk mixOrd Tryz.func134 rfl rfl ?_
   conv => whnf
   repeat' first | ((first | refine z0 ?_ | (apply zI; refine zP (h0) ?_) | (refine And.intro (fun h => ?_) (fun h => ?_) <;> (try simp only [cnt1, ints_length, rows_length, Tb_length, L_length, byts_length] at h) <;> first | (exfalso; first | omega | exact h trivial | (cases h; done)) | skip) | refine zS ?_ | refine zV ?_ | (apply zI; refine zP vObt ?_) | (apply zI; refine zP vObx ?_) | refine zA ?_ | refine Alt.fst ?_ | refine Or.inl ?_) <;> conv => whnf) | fail
   all_goals first | rfl | (exfalso; simp_all; done)
 | true =>
   rw [hA] at h0
   obtain ⟨⟨hm, hn⟩, eT, hL⟩ := lawB_Tb hA
   have hm1 := hm.1
   have hm2 := hm.2
   have hdg := fun o p => c_degreeP o p t.length (by omega) (rd2 m t)
   simp only [PlD, eT] at hdg
   have hcl : ∀ a : Int, PureCall Tryz.prog 333 [dint a, .cptr [dint m, .list o 1 (rows p t)] 0] (dbool (inB a 0 (m - 1))) := fun a => by
     refine pure_of_vcR Tryz.tabOk mixOrd Tryz.func333 rfl rfl ?_
     conv => whnf
     repeat' first | ((first | refine z0 ?_ | (apply zI; refine zP (c_isNumber _ _ (inR64 (by omega) (by omega))) ?_) | (refine And.intro (fun h => ?_) (fun h => ?_) <;> (try simp only [cnt1, ints_length] at h)) | refine zS ?_ | refine zV ?_ | (apply zI; refine zP vObt ?_) | (apply zI; refine zP vObx ?_) | refine zA ?_ | refine Alt.fst ?_ | refine Or.inl ?_) <;> conv => whnf) | fail
     all_goals (refine dbool_congr ?_; first | rfl | (simp_all []; done) | (simp_all []; omega) | (simp_all []; intros; omega))
   have hall : PureCall Tryz.prog 203 [.list o1 1 (ints l), .fn (.func 333) [] [.cptr [dint m, .list o 1 (rows p t)] 0]] (dbool (numsB m l)) := c_allA 333 [dint m, .list o 1 (rows p t)] (fun a => inB a 0 (m - 1)) hcl o1 l h1
   by_cases hlen : l.length = t.length - 1
   · cases hB : numsB m l with
     | false =>
       rw [hB] at hall
       have e : ccC m t l = 2 := by unfold ccC; rw [if_pos hA, if_neg (by simp [hB])]
       rw [serRes, if_neg (by omega), e]
       refine pure_of_vcR Tryz.tabOk mixOrd Tryz.func134 rfl rfl ?_
       conv => whnf
       repeat' first | ((first | refine z0 ?_ | (apply zI; refine zP (h0) ?_) | (apply zI; refine zP (hdg _ _) ?_) | (apply zI; refine zP (hall) ?_) | (refine And.intro (fun h => ?_) (fun h => ?_) <;> (try simp only [cnt1, ints_length, rows_length, Tb_length, L_length, byts_length] at h) <;> first | (exfalso; first | omega | exact h trivial | (cases h; done)) | skip) | refine zS ?_ | refine zV ?_ | (apply zI; refine zP vObt ?_) | (apply zI; refine zP vObx ?_) | refine zA ?_ | refine Alt.fst ?_ | refine Or.inl ?_) <;> conv => whnf) | fail
       all_goals first | rfl | (exfalso; simp only [cnt1, ints_length] at *; omega)
     | true =>
       rw [hB] at hall
       have e : ccC m t l = 0 := by unfold ccC; rw [if_pos hA, if_pos (by simp [hB, hlen])]
       have eL : l = L (t.length - 1) (rd m l) := by rw [← hlen]; exact (L_rd (numsB_iff.1 hB)).symm
       rw [serRes, if_pos e]
       clear e hB
       have key2 := fun o p o1 o2 b => c_curves hm o p o1 o2 t.length (by omega) (rd2 m t) b
       simp only [PlD, eT] at key2
       generalize hC : rd m l = C at *
       generalize hN : t.length = N at *
       generalize rd2 m t = F at *
       subst eL
       refine pure_of_vcR Tryz.tabOk mixOrd Tryz.func134 rfl rfl ?_
       conv => whnf
       repeat' first | ((first | refine z0 ?_ | (apply zI; refine zP (h0) ?_) | (apply zI; refine zP (hdg _ _) ?_) | (apply zI; refine zP (hall) ?_) | (apply zI; refine zP (c_zero N (by omega) (by omega)) ?_) | (refine And.intro (fun h => ?_) (fun h => ?_) <;> (try simp only [cnt1, ints_length, rows_length, Tb_length, L_length, byts_length] at h) <;> first | (exfalso; first | omega | exact h trivial | (cases h; done)) | skip) | refine zS ?_ | refine zV ?_ | (apply zI; refine zP vObt ?_) | (apply zI; refine zP vObx ?_) | refine zA ?_ | refine Alt.fst ?_ | refine Or.inl ?_) <;> conv => whnf) | fail
       all_goals first | (exfalso; simp only [cnt1, ints_length, L_length] at *; omega) | skip
       refine loop_atR Tryz.tabOk mixOrd (α := Nat) (fun i => [(34, dint i), (31, .undef), (7, .undef), (8, .undef)]) (fun i => [(8, some ⟨true, 1, [dint m, .ref 7 [] 1 0 N]⟩), (7, some ⟨false, 1, ints (L N (cuP N F C.c i))⟩)]) (fun i => i ≤ N - 1) (fun i => N - 1 - i) (0) ?_ ?_ ?_
       · omega
       · conv => whnf
         first | refine WeakS.autoR ?_ | refine Weak.autoR ?_
         conv => whnf
         repeat' ((first | refine z1 ?_ | refine z2 ?_ | refine zV ?_ | refine And.intro vRepl ?_ | refine And.intro vReplL ?_ | refine And.intro ?_ ?_ | exact trivial) <;> try (conv => whnf))
         all_goals first | rfl | (simp [cnt1]; done) | skip
       intro i hi
       conv => whnf
       by_cases hik : i < N - 1
       · have key3 : ∀ o p o1 o2, PureCall Tryz.prog 260 [PlD m o p N F, SerD m o1 N (cuP N F C.c i), SerD m o2 N (mono (i + 1) (C.c i))] (SerD m true N (cuP N F C.c (i + 1))) := fun o p o1 o2 => by
           rw [show cuP N F C.c (i + 1) = putS F (cuP N F C.c i) (mono (i + 1) (C.c i)) N by rw [putS_ev]; rfl]
           exact c_curves hm o p o1 o2 N (by omega) F _ _
         simp only [PlD, eT] at key3
         repeat' first | ((first | refine z0 ?_ | (apply zI; refine zP (hdg _ _) ?_) | (apply zI; refine zP (c_monomial hm N (i + 1) (C.c i) (by omega) (by omega) (by omega) (by omega)) ?_) | (apply zI; refine zP (key3 _ _ _ _) ?_) | (refine And.intro (fun h => ?_) (fun h => ?_) <;> (try simp only [cnt1, ints_length, rows_length, Tb_length, L_length, byts_length] at h) <;> first | (exfalso; first | omega | exact h trivial | (cases h; done)) | skip) | refine zS ?_ | refine zV ?_ | (apply zI; refine zP vObt ?_) | (apply zI; refine zP vObx ?_) | refine zA ?_ | refine Alt.fst ?_ | refine Or.inl ?_) <;> conv => whnf) | fail
         all_goals first | (exfalso; simp only [cnt1, ints_length, L_length] at *; omega) | skip
         refine Exists.intro (i + 1) (And.intro (by omega) (And.intro (by omega) ?_))
         first | refine WeakS.autoR ?_ | refine Weak.autoR ?_
         conv => whnf
         repeat' ((first | refine z1 ?_ | refine z2 ?_ | refine zV ?_ | refine And.intro vRepl ?_ | refine And.intro vReplL ?_ | refine And.intro ?_ ?_ | exact trivial) <;> try (conv => whnf))
         all_goals first | rfl | (simp [cnt1]; done) | skip
       · repeat' first | ((first | refine z0 ?_ | (refine And.intro (fun h => ?_) (fun h => ?_) <;> (try simp only [cnt1, ints_length, rows_length, Tb_length, L_length, byts_length] at h) <;> first | (exfalso; first | omega | exact h trivial | (cases h; done)) | skip) | refine zS ?_ | refine zV ?_ | (apply zI; refine zP vObt ?_) | (apply zI; refine zP vObx ?_) | refine zA ?_ | refine Alt.fst ?_ | refine Or.inl ?_) <;> conv => whnf) | fail
         all_goals first | (exfalso; simp only [cnt1, ints_length, L_length] at *; omega) | skip
         rw [show i = N - 1 by omega]
   · have e : ccC m t l = 2 := by unfold ccC; rw [if_pos hA, if_neg (by simp [hlen])]
     rw [serRes, if_neg (by omega), e]
     refine pure_of_vcR Tryz.tabOk mixOrd Tryz.func134 rfl rfl ?_
     conv => whnf
     repeat' first | ((first | refine z0 ?_ | (apply zI; refine zP (h0) ?_) | (apply zI; refine zP (hdg _ _) ?_) | (apply zI; refine zP (hall) ?_) | (refine And.intro (fun h => ?_) (fun h => ?_) <;> (try simp only [cnt1, ints_length, rows_length, Tb_length, L_length, byts_length] at h) <;> first | (exfalso; first | omega | exact h trivial | (cases h; done)) | skip) | refine zS ?_ | refine zV ?_ | (apply zI; refine zP vObt ?_) | (apply zI; refine zP vObx ?_) | refine zA ?_ | refine Alt.fst ?_ | refine Or.inl ?_) <;> conv => whnf) | fail
     all_goals first | rfl | (exfalso; simp only [cnt1, ints_length] at *; omega)
theorem c_specCurveOfCoordinates (o p o1 : Bool) (m : Int) (t : List (List Int)) (hl : t.length ≤ 1048576) (hr : lensOk t) (l : List Int) (h1 : l.length ≤ 1048576) :
   PureCall Tryz.prog 136 [.agg [dint m, .list o 1 (rows p t)], .list o1 1 (ints l)] (serRes m t.length (cuP t.length (rd2 m t) (rd m l).c (t.length - 1)) (ccC m t l)) := by
 have h0 := c_l04Is o p m t hl hr
 cases hA : lawB m t with
 | false =>
   rw [hA] at h0
   have e : ccC m t l = 1 := by unfold ccC; rw [if_neg (by simp [hA])]
   rw [serRes, if_neg (by omega), e]
   refine pure_of_vcR Tryz.tabOk mixOrd Tryz.func136 rfl rfl ?_
   conv => whnf
   repeat' first | ((first | refine z0 ?_ | (apply zI; refine zP (h0) ?_) | (refine And.intro (fun h => ?_) (fun h => ?_) <;> (try simp only [cnt1, ints_length, rows_length, Tb_length, L_length, byts_length] at h) <;> first | (exfalso; first | omega | exact h trivial | (cases h; done)) | skip) | refine zS ?_ | refine zV ?_ | (apply zI; refine zP vObt ?_) | (apply zI; refine zP vObx ?_) | refine zA ?_ | refine Alt.fst ?_ | refine Or.inl ?_) <;> conv => whnf) | fail
   all_goals first | rfl | (exfalso; simp_all; done)
 | true =>
   rw [hA] at h0
   obtain ⟨⟨hm, hn⟩, eT, hL⟩ := lawB_Tb hA
   have hm1 := hm.1
   have hm2 := hm.2
   have hB0 := c_l01Numbers o1 m l (inR64 (by omega) (by omega)) (by omega)
   by_cases hlen : l.length = t.length - 1
   · cases hB : numsB m l with
     | false =>
       rw [hB] at hB0
       have e : ccC m t l = 2 := by unfold ccC; rw [if_pos hA, if_neg (by simp [hB])]
       rw [serRes, if_neg (by omega), e]
       refine pure_of_vcR Tryz.tabOk mixOrd Tryz.func136 rfl rfl ?_
       conv => whnf
       repeat' first | ((first | refine z0 ?_ | (apply zI; refine zP (h0) ?_) | (apply zI; refine zP (hB0) ?_) | (refine And.intro (fun h => ?_) (fun h => ?_) <;> (try simp only [cnt1, ints_length, rows_length, Tb_length, L_length, byts_length] at h) <;> first | (exfalso; first | omega | exact h trivial | (cases h; done)) | skip) | refine zS ?_ | refine zV ?_ | (apply zI; refine zP vObt ?_) | (apply zI; refine zP vObx ?_) | refine zA ?_ | refine Alt.fst ?_ | refine Or.inl ?_) <;> conv => whnf) | fail
       all_goals first | rfl | (exfalso; simp only [cnt1, ints_length, rows_length] at *; omega)
     | true =>
       rw [hB] at hB0
       have e : ccC m t l = 0 := by unfold ccC; rw [if_pos hA, if_pos (by simp [hB, hlen])]
       have eL : l = L (t.length - 1) (rd m l) := by rw [← hlen]; exact (L_rd (numsB_iff.1 hB)).symm
       rw [serRes, if_pos e]
       have key := fun o p o1 => c_l12Curve hm o p o1 t.length hn (rd2 m t) (rd m l) (t.length - 1) (by omega)
       simp only [TbD, LD] at key
       rw [← eL, eT] at key
       refine pure_of_vcR Tryz.tabOk mixOrd Tryz.func136 rfl rfl ?_
       conv => whnf
       repeat' first | ((first | refine z0 ?_ | (apply zI; refine zP (h0) ?_) | (apply zI; refine zP (hB0) ?_) | (apply zI; refine zP (key _ _ _) ?_) | refine Or.inl (Or.inr (And.intro (mk_l02Make) ?_)) | refine Or.inr (And.intro (mk_l02Make) ?_) | (refine And.intro (fun h => ?_) (fun h => ?_) <;> (try simp only [cnt1, ints_length, rows_length, Tb_length, L_length, byts_length] at h) <;> first | (exfalso; first | omega | exact h trivial | (cases h; done)) | skip) | refine zS ?_ | refine zV ?_ | (apply zI; refine zP vObt ?_) | (apply zI; refine zP vObx ?_) | refine zA ?_ | refine Alt.fst ?_ | refine Or.inl ?_) <;> conv => whnf) | fail
       all_goals first | rfl | (exfalso; simp only [cnt1, ints_length, rows_length] at *; omega)
   · have e : ccC m t l = 2 := by unfold ccC; rw [if_pos hA, if_neg (by simp [hlen])]
     rw [serRes, if_neg (by omega), e]
     refine pure_of_vcR Tryz.tabOk mixOrd Tryz.func136 rfl rfl ?_
     conv => whnf
     repeat' first | ((first | refine z0 ?_ | (apply zI; refine zP (h0) ?_) | (apply zI; refine zP (hB0) ?_) | (refine And.intro (fun h => ?_) (fun h => ?_) <;> (try simp only [cnt1, ints_length, rows_length, Tb_length, L_length, byts_length] at h) <;> first | (exfalso; first | omega | exact h trivial | (cases h; done)) | skip) | refine zS ?_ | refine zV ?_ | (apply zI; refine zP vObt ?_) | (apply zI; refine zP vObx ?_) | refine zA ?_ | refine Alt.fst ?_ | refine Or.inl ?_) <;> conv => whnf) | fail
     all_goals first | rfl | (exfalso; simp only [cnt1, ints_length, rows_length] at *; omega)
end Go.Proofs
