import Derived.Test.YtndhpcigpghejaaGreatK40
namespace Go.Proofs
open Go Go.Vm Go.Fg Go.Fg.PS
set_option maxRecDepth 100000
set_option maxHeartbeats 4000000
set_option linter.unusedSimpArgs false
set_option linter.unusedVariables false
theorem c_specMultiplyDual (o p o1 o2 : Bool) (m : Int) (t : List (List Int)) (u v : List Int) (hl : t.length ≤ 1048576) (hr : lensOk t) (hu : u.length ≤ 1048576) (hv : v.length ≤ 1048576) :
   PureCall Tryz.prog 86 [.agg [dint m, .list o 1 (rows p t)], .list o1 1 (ints u), .list o2 1 (ints v)] (mdRes m t u v) := by
 have key := c_l17Code o p m t hl hr
 by_cases h4 : kC m t = 0
 · obtain ⟨hk, hht, hq1, hq2⟩ := kC_0 h4
   obtain ⟨hb, hpr⟩ := htC_0 hht
   obtain ⟨hp, hlw⟩ := lawB_pl hb
   obtain ⟨hm, h2, h3, _⟩ := plB_md hp
   have hm1 := hm.1
   have hm2 := hm.2
   have hlt : rkT m t < t.length := rkOf_lt (by omega)
   rw [h4, if_pos rfl] at key
   have hmB : inR .i64 (m - 1) := h1of (by simpa [inB, Md] using hm)
   have hno : (elB (rkT m t) m u && elB (rkT m t) m v) = false → D.tup [.lit (.slice none 0 0), dint 2] = mdRes m t u v := fun e => by
     have h5 : elC2 m t u v = 2 := by unfold elC2; rw [if_pos h4, e]; rfl
     rw [mdRes, h5, if_neg (by omega)]
   refine pure_of_vcR Tryz.tabOk mixOrd Tryz.func86 rfl rfl ?_
   conv => whnf
   repeat' first | ((first | refine z0 ?_ | refine Or.inr (inl_ofR Tryz.tabOk mixOrd _ Tryz.func272 rfl rfl ?_) | (apply zI; refine zP (key) ?_) | (refine And.intro (fun h => ?_) (fun h => ?_) <;> (try simp only [cnt1, ints_length] at h) <;> first | (exfalso; omega) | skip) | refine Or.inl ?_) <;> conv => whnf) | fail
   refine loop_peelV Tryz.tabOk mixOrd ?_
   conv => whnf
   repeat' first | ((first | refine z0 ?_ | (apply zI; refine zP (⟨_, rfl, rfl⟩) ?_) | (apply zI; refine zP (c_l01Numbers _ m u hmB (by omega)) ?_) | (refine And.intro (fun h => ?_) (fun h => ?_) <;> (try simp only [cnt1, ints_length] at h) <;> first | (exfalso; omega) | skip) | refine zS ?_ | refine zV ?_ | refine Alt.fst ?_ | refine Or.inl ?_) <;> conv => whnf) | fail
   · have hne : (u.length : Int) ≠ (rkT m t : Int) := by assumption
     exact hno (by simp [elB]; intro e; exfalso; omega)
   · have hul : u.length = rkT m t := by
       have : ¬ (u.length : Int) ≠ (rkT m t : Int) := by assumption
       omega
     have hun : numsB m u = true := by assumption
     refine loop_peelV Tryz.tabOk mixOrd ?_
     conv => whnf
     repeat' first | ((first | refine z0 ?_ | (apply zI; refine zP (⟨_, rfl, rfl⟩) ?_) | (apply zI; refine zP (c_l01Numbers _ m v hmB (by omega)) ?_) | (refine And.intro (fun h => ?_) (fun h => ?_) <;> (try simp only [cnt1, ints_length] at h) <;> first | (exfalso; omega) | skip) | refine zS ?_ | refine zV ?_ | refine Alt.fst ?_ | refine Or.inl ?_) <;> conv => whnf) | fail
     · have hne : (v.length : Int) ≠ (rkT m t : Int) := by assumption
       exact hno (by simp [elB]; intro _ _ e; exfalso; omega)
     · have hvl : v.length = rkT m t := by
         have : ¬ (v.length : Int) ≠ (rkT m t : Int) := by assumption
         omega
       have hvn : numsB m v = true := by assumption
       have hyes : D.tup [LD true (rkT m t) (duS (rd2 m t) (rd m u) (rd m v) (rkT m t)), dint 0] = mdRes m t u v := by
         have h5 : elC2 m t u v = 0 := by unfold elC2; rw [if_pos h4]; simp [elB, hul, hvl, hun, hvn]
         rw [mdRes, if_pos h5]
       have hlu : ints u = ints (L (rkT m t) (rd m u)) := by rw [← hul, L_rd (numsB_iff.1 hun)]
       have hlv : ints v = ints (L (rkT m t) (rd m v)) := by rw [← hvl, L_rd (numsB_iff.1 hvn)]
       refine loop_peelV Tryz.tabOk mixOrd ?_
       conv => whnf
       rw [hlu, hlv]
       have kp := c_l17Powers hm o p t.length (rkT m t) ⟨by omega, by omega, by omega⟩ (rd2 m t) (rfl : ((rkT m t : Nat) : Int) = rkT m t)
       simp only [PlD, plB_T hp] at kp
       generalize rkT m t = q at *
       generalize rd2 m t = f at *
       repeat' first | ((first | refine z0 ?_ | (apply zI; refine zP (kp) ?_) | (apply zI; refine zP (c_l17Dual hm q vAr _ _ _ f _ _) ?_) | (apply zI; refine zP (sub_tbq vDA) ?_) | (refine And.intro (fun h => ?_) (fun h => ?_) <;> (try simp only [cnt1, ints_length] at h) <;> first | (exfalso; omega) | skip) | refine zS ?_ | refine zV ?_ | (apply zI; refine zP vObx ?_) | refine Alt.fst ?_ | refine Or.inl ?_) <;> conv => whnf) | fail
       exact hyes
     · have hvn : numsB m v = false := by assumption
       exact hno (by simp [elB, hvn])
   · have hun : numsB m u = false := by assumption
     exact hno (by simp [elB, hun])
 · have h5 : elC2 m t u v = kC m t := by unfold elC2; rw [if_neg h4]
   rw [if_neg h4] at key
   refine pure_of_vcR Tryz.tabOk mixOrd Tryz.func86 rfl rfl ?_
   conv => whnf
   repeat' first | ((first | refine z0 ?_ | refine Or.inr (inl_ofR Tryz.tabOk mixOrd _ Tryz.func272 rfl rfl ?_) | (apply zI; refine zP (key) ?_) | (refine And.intro (fun h => ?_) (fun h => ?_) <;> (try simp only [cnt1, ints_length] at h) <;> first | (exfalso; omega) | skip) | refine Or.inl ?_) <;> conv => whnf) | fail
   rw [mdRes, h5, if_neg h4]
end Go.Proofs
namespace Go.Proofs
open Go Go.Vm Go.Fg Go.Fg.PS
set_option maxRecDepth 100000
set_option maxHeartbeats 4000000
set_option linter.unusedSimpArgs false
set_option linter.unusedVariables false
variable {m : Int}
theorem sq_mixrow (f g : PS (PS (Zm m))) {q i j : Nat} (h : q ≤ j) : AgS q (mixP f g i j) (mixP f g (i + 1) 0) := fun a b ha hb => by
 rw [mixP_cc, mixP_cc]
 by_cases h1 : a < i + 1
 · rw [if_pos (by omega), if_pos (by omega)]
 · rw [if_neg (by omega), if_neg (by omega)]
theorem sq_mixfull (f g : PS (PS (Zm m))) {q i : Nat} (h : q ≤ i) : AgS q (mixP f g i 0) f := fun a b ha hb => by
 rw [mixP_cc, if_pos (by omega)]
theorem el_next (a : PS (Zm m)) (f : PS (PS (Zm m))) (n i j : Nat) : ((comp2N a f 0 (n + 1)).c i).c j = ((comp2N a f 0 n).c i).c j + a.c n * ((pw f n).c i).c j := by
 rw [comp2_cc, comp2_cc, sm_succ]
def elN (a : PS (Zm m)) (f : PS (PS (Zm m))) (q i j k : Nat) : PS (Zm m) := (mix j ((comp2N a f 0 q).c i) 0).upd j (((comp2N a f 0 k).c i).c j)
theorem elN_zero (a : PS (Zm m)) (f : PS (PS (Zm m))) (q i j : Nat) : elN a f q i j 0 = mix j ((comp2N a f 0 q).c i) 0 := by
 ext k
 unfold elN
 rw [upd_c]
 split
 · rename_i h; rw [h, comp2_cc, sm_zero', mix_c, if_neg (by omega)]; rfl
 · rfl
theorem elN_end (a : PS (Zm m)) (f : PS (PS (Zm m))) (q i j : Nat) : elN a f q i j q = mix (j + 1) ((comp2N a f 0 q).c i) 0 := (mix_succ j _ 0).symm
theorem elN_step (a : PS (Zm m)) (f : PS (PS (Zm m))) (q i j k : Nat) : (elN a f q i j k).upd j ((elN a f q i j k).c j + a.c k * ((pw f k).c i).c j) = elN a f q i j (k + 1) := by
 ext l
 unfold elN
 rw [upd_c, upd_c, upd_c, upd_c, if_pos rfl]
 split
 · exact (el_next _ _ _ _ _).symm
 · rfl
theorem c_coproduct (hm : Md m) (q : Nat) (hq : 1 ≤ q ∧ q ≤ 100) (oo o1 : Bool) (d3 d4 : D) (f : PS (PS (Zm m))) (a : PS (Zm m)) : PureCall Tryz.prog 276 [.cptr [dint m, dint q, .list oo 1 (tbq q f q), d3, d4] 0, LD o1 q a] (SqD true true q (comp2N a f 0 q)) := by
 have hm1 := hm.1
 have hm2 := hm.2
 refine pure_of_vcR Tryz.tabOk mixOrd Tryz.func276 rfl rfl ?_
 conv => whnf
 repeat' first | ((first | (apply zI; refine zP (c_square (m := m) q vAr vAr) ?_) | (apply zI; refine zP vObx ?_) | refine Or.inl ?_) <;> conv => whnf) | fail
 refine loop_atR Tryz.tabOk mixOrd (α := Nat) (fun n => [(19, dint n), (9, .undef), (16, .undef)]) (fun n => [(0, some ⟨false, 1, rows true (sqT q (comp2N a f 0 n))⟩)]) (fun n => n ≤ q) (fun n => q - n) (0) ?_ ?_ ?_
 · omega
 · conv => whnf
   first | refine WeakS.autoR ?_ | refine Weak.autoR ?_
   conv => whnf
   repeat' ((first | refine z1 ?_ | refine And.intro ?_ ?_ | exact trivial) <;> try (conv => whnf))
   all_goals rfl
 intro n hn
 conv => whnf
 repeat' first | ((first | refine z0 ?_ | (apply zI; refine zP (vQC n vIx vDA) ?_) | (refine And.intro (fun h => ?_) (fun h => ?_) <;> (try simp only [cnt1, ints_length] at h)) | refine zV ?_ | (apply zI; refine zP vObx ?_) | refine And.intro (vQIx vDA) ?_ | refine And.intro (vDA) ?_) <;> conv => whnf) | fail
 · have hn' : n < q := vDA
   refine loop_atR Tryz.tabOk mixOrd (α := Nat) (fun i => [(32, dint i), (9, .undef)]) (fun i => [(0, some ⟨false, 1, rows true (sqT q (mixP (comp2N a f 0 (n + 1)) (comp2N a f 0 n) i 0))⟩)]) (fun i => i ≤ q) (fun i => q - i) (0) ?_ ?_ ?_
   · omega
   · conv => whnf
     first | refine WeakS.autoR ?_ | refine Weak.autoR ?_
     conv => whnf
     repeat' ((first | refine z1 ?_ | refine And.intro ?_ ?_ | exact trivial) <;> try (conv => whnf))
     all_goals rw [mixP_zero]
   intro i hi
   conv => whnf
   repeat' first | ((first | (apply zI; refine zP (vSqC (i := i) vIx vDA) ?_) | (refine And.intro (fun h => ?_) (fun h => ?_) <;> (try simp only [cnt1, ints_length] at h)) | refine zV ?_) <;> conv => whnf) | fail
   · have hi' : i < q := vDA
     refine loop_atR Tryz.tabOk mixOrd (α := Nat) (fun j => [(39, dint j)]) (fun j => [(0, some ⟨false, 1, rows true (sqT q (mixP (comp2N a f 0 (n + 1)) (comp2N a f 0 n) i j))⟩)]) (fun j => j ≤ q) (fun j => q - j) (0) ?_ ?_ ?_
     · omega
     · conv => whnf
       first | refine WeakS.autoR ?_ | refine Weak.autoR ?_
       conv => whnf
       repeat' ((first | refine z1 ?_ | refine And.intro ?_ ?_ | exact trivial) <;> try (conv => whnf))
     intro j hj
     conv => whnf
     have x1 := hm.mul (a.c n) (((pw f n).c i).c j)
     have x2 := Zm.val_range hm.pos (((mixP (comp2N a f 0 (n + 1)) (comp2N a f 0 n) i j).c i).c j)
     repeat' first | ((first | (apply zI; refine zP (vSqL (i := i) vIx vDA) ?_) | (apply zI; refine zP (vSqLL (i := i) (j := j) vIx vIx vDA vDA) ?_) | (apply zI; refine zP (vSqStore (i := i) (j := j) _ vIx vIx vDA vDA) ?_) | (refine And.intro (fun h => ?_) (fun h => ?_) <;> (try simp only [cnt1, ints_length] at h)) | refine zS ?_ | refine zV ?_ | (apply zI; refine zP vObx ?_) | refine And.intro (vDA) ?_) <;> conv => whnf) | fail
     · refine Exists.intro (j + 1) (And.intro vDA (And.intro vDA ?_))
       first | refine WeakS.autoR ?_ | refine Weak.autoR ?_
       conv => whnf
       repeat' ((first | refine z1 ?_ | refine And.intro ?_ ?_ | exact trivial) <;> try (conv => whnf))
       refine rows_congr (sq_setT_eq _ (tm_mulA hm _ _ _) vDA (AgS.of_eq ?_))
       rw [mixP_step, el_next, mixP_c]
     · have hj' : q ≤ j := vDA
       refine Exists.intro (i + 1) (And.intro vDA (And.intro vDA ?_))
       first | refine WeakS.autoR ?_ | refine Weak.autoR ?_
       conv => whnf
       repeat' ((first | refine z1 ?_ | refine And.intro ?_ ?_ | exact trivial) <;> try (conv => whnf))
       exact rows_congr (sqT_congr (sq_mixrow _ _ hj'))
   · have hi' : q ≤ i := vDA
     refine Exists.intro (n + 1) (And.intro vDA (And.intro vDA ?_))
     first | refine WeakS.autoR ?_ | refine Weak.autoR ?_
     conv => whnf
     repeat' ((first | refine z1 ?_ | refine And.intro ?_ ?_ | exact trivial) <;> try (conv => whnf))
     exact rows_congr (sqT_congr (sq_mixfull _ _ hi'))
 · rw [show n = q from vDA]
theorem c_l17Element (hm : Md m) (q : Nat) (hq : 1 ≤ q ∧ q ≤ 100) (oo o1 : Bool) (f : PS (PS (Zm m))) (a : PS (Zm m)) : PureCall Tryz.prog 277 [dint m, .list oo 1 (tbq q f q), LD o1 q a] (SqD true true q (comp2N a f 0 q)) := by
 have hm1 := hm.1
 have hm2 := hm.2
 refine pure_of_vcR Tryz.tabOk mixOrd Tryz.func277 rfl rfl ?_
 conv => whnf
 repeat' first | ((first | refine z0 ?_ | (refine And.intro (fun h => ?_) (fun h => ?_) <;> (try simp only [cnt1, ints_length] at h)) | refine zS ?_ | refine zV ?_ | (apply zI; refine zP vObt ?_) | (apply zI; refine zP vObx ?_) | refine zA ?_ | refine Alt.fst ?_ | refine Or.inl ?_) <;> conv => whnf) | fail
 refine loop_atR Tryz.tabOk mixOrd (α := Nat) (fun i => [(8, dint i), (7, .ref 0 [] 1 0 i), (9, .undef), (12, .undef)]) (fun i => [(0, some ⟨false, 1, rows true (sqP q i (comp2N a f 0 q))⟩)]) (fun i => i ≤ q) (fun i => q - i) (0) ?_ ?_ ?_
 · omega
 · conv => whnf
   first | refine WeakS.autoR ?_ | refine Weak.autoR ?_
   conv => whnf
   repeat' ((first | refine z1 ?_ | refine And.intro ?_ ?_ | exact trivial) <;> try (conv => whnf))
 intro i hi
 conv => whnf
 repeat' first | ((first | refine z0 ?_ | (refine And.intro (fun h => ?_) (fun h => ?_) <;> (try simp only [cnt1, ints_length] at h)) | refine zV ?_ | (apply zI; refine zP vObx ?_) | refine And.intro (vDA) ?_) <;> conv => whnf) | fail
 · have hi' : i < q := vDA
   refine loop_atR Tryz.tabOk mixOrd (α := Nat) (fun j => [(10, dint j)]) (fun j => [(1, some ⟨false, 1, ints (L q (mix j ((comp2N a f 0 q).c i) 0))⟩)]) (fun j => j ≤ q) (fun j => q - j) (0) ?_ ?_ ?_
   · omega
   · conv => whnf
     first | refine WeakS.autoR ?_ | refine Weak.autoR ?_
     conv => whnf
     repeat' ((first | refine z1 ?_ | refine And.intro ?_ ?_ | exact trivial) <;> try (conv => whnf))
     all_goals rw [mix_zero, L_zero]
   intro j hj
   conv => whnf
   repeat' first | ((first | (refine And.intro (fun h => ?_) (fun h => ?_) <;> (try simp only [cnt1, ints_length] at h)) | refine zV ?_ | (apply zI; refine zP vObx ?_) | refine And.intro (vDA) ?_) <;> conv => whnf) | fail
   · have hj' : j < q := vDA
     refine loop_atR Tryz.tabOk mixOrd (α := Nat) (fun k => [(11, dint k)]) (fun k => [(1, some ⟨false, 1, ints (L q (elN a f q i j k))⟩)]) (fun k => k ≤ q) (fun k => q - k) (0) ?_ ?_ ?_
     · omega
     · conv => whnf
       first | refine WeakS.autoR ?_ | refine Weak.autoR ?_
       conv => whnf
       repeat' ((first | refine z1 ?_ | refine And.intro ?_ ?_ | exact trivial) <;> try (conv => whnf))
       all_goals rw [elN_zero]
     intro k hk
     conv => whnf
     have x1 := hm.mul (a.c k) (((pw f k).c i).c j)
     have x2 := Zm.val_range hm.pos ((elN a f q i j k).c j)
     repeat' first | ((first | (apply zI; refine zP (vQC k vIx vDA) ?_) | (apply zI; refine zP (vSqC (i := i) vIx vDA) ?_) | (apply zI; refine zP (vIntsC (l := j) vIx vDA) ?_) | (refine And.intro (fun h => ?_) (fun h => ?_) <;> (try simp only [cnt1, ints_length] at h)) | refine zS ?_ | refine zV ?_ | (apply zI; refine zP vObx ?_) | refine And.intro (vQIx vDA) ?_ | refine And.intro (sqIx vDA) ?_) <;> conv => whnf) | fail
     · refine Exists.intro (k + 1) (And.intro vDA (And.intro vDA ?_))
       first | refine WeakS.autoR ?_ | refine Weak.autoR ?_
       conv => whnf
       repeat' ((first | refine z1 ?_ | refine And.intro ?_ ?_ | exact trivial) <;> try (conv => whnf))
       exact ints_congr' (L_set_eq _ (tm_mulA hm _ _ _) (Ag.of_eq (elN_step a f q i j k)))
     · have hk' : k = q := vDA
       refine Exists.intro (j + 1) (And.intro vDA (And.intro vDA ?_))
       first | refine WeakS.autoR ?_ | refine Weak.autoR ?_
       conv => whnf
       repeat' ((first | refine z1 ?_ | refine And.intro ?_ ?_ | exact trivial) <;> try (conv => whnf))
       rw [hk', elN_end]
   · have hj' : q ≤ j := vDA
     refine Exists.intro (i + 1) (And.intro vDA (And.intro vDA ?_))
     first | refine WeakS.autoR ?_ | refine Weak.autoR ?_
     conv => whnf
     repeat' ((first | refine z1 ?_ | refine And.intro ?_ ?_ | exact trivial) <;> try (conv => whnf))
     exact rows_congr (sqP_push (L_congr (fun k hk => by rw [mix_c, if_pos (by omega)])))
 · rw [show i = q from vDA, sqP_full]
end Go.Proofs
