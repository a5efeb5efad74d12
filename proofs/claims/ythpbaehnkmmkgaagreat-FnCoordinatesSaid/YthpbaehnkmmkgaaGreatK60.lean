import Derived.Test.YthpbaehnkmmkgaaGreatK57
namespace Go.Proofs
open Go Go.Vm Go.Fg Go.Fg.PS
set_option maxRecDepth 100000
set_option maxHeartbeats 4000000
set_option linter.unusedSimpArgs false
set_option linter.unusedVariables false
variable {m : Int}
def FlP (k : Nat) (φ ρ : PS (Zm m)) : Prop := ∀ (a b : PS (Zm m)) j, j < k → (rdI k φ (fuP k a b k 0) k).c j = (rtM k ρ a b).c j
theorem FlP_n {n : Nat} (hn : 2 ≤ n ∧ n ≤ 5) : FlP (m := m) (kN n) (rd m (flN n)) (rd m (rlN n)) := fun a b j hj => rd_eq hn a b hj
theorem flN_L (hm : Md m) {n : Nat} (hn : 2 ≤ n ∧ n ≤ 5) : flN n = L (kN n) (rd m (flN n)) := by
 have h2 := hm.1
 have key : ∀ l : List Int, (∀ x ∈ l, 0 ≤ x ∧ x ≤ 1) → L l.length (rd m l) = l := fun l hl => L_rd (fun x hx => by have := hl x hx; omega)
 rcases (show n = 2 ∨ n = 3 ∨ n = 4 ∨ n = 5 by omega) with rfl | rfl | rfl | rfl
 · exact (key [1] (by simp)).symm
 · exact (key [1, 1] (by simp)).symm
 · exact (key [1, 0] (by simp)).symm
 · exact (key [1, 1, 1, 1] (by simp)).symm
theorem kN_le {n : Nat} (hn : 2 ≤ n ∧ n ≤ 5) : 1 ≤ kN n ∧ kN n ≤ 4 := ⟨(rlN_ok hn).2.1, (rlN_ok hn).2.2.1⟩
theorem fuP_skipj (k : Nat) (a b : PS (Zm m)) (i j : Nat) (h : a.c i = 0) : fuP k a b i j = fuP k a b (i + 1) 0 := by
 rw [← fuP_row]
 ext n
 rw [fuP_c, fuP_c, h, Go.Fg.zero_mul]
 split <;> split <;> rfl
theorem rdI_succ (k : Nat) (φ g : PS (Zm m)) (r : Nat) : rdI k φ g (r + 1) = rdP k φ (rdI k φ g r) (2 * k - 1 - r) k := rfl
theorem c_l12Field (n : Nat) (hn : 2 ≤ n ∧ n ≤ 5) (hm : Md m) : PureCall Tryz.prog 416 [dint n] (LD true (kN n) (rd m (flN n))) := by
 rw [show (LD true (kN n) (rd m (flN n)) : D) = .list true 1 (ints (flN n)) from congrArg (fun x => D.list true 1 (ints x)) (flN_L hm hn).symm]
 rcases (show n = 2 ∨ n = 3 ∨ n = 4 ∨ n = 5 by omega) with rfl | rfl | rfl | rfl
 all_goals
   refine pure_of_vcR Tryz.tabOk mixOrd Tryz.func416 rfl rfl ?_
   conv => whnf
   repeat' first | ((first | refine z0 ?_ | (refine And.intro (fun h => ?_) (fun h => ?_) <;> (try simp only [cnt1, ints_length] at h) <;> first | (exfalso; omega) | skip) | refine zS ?_ | refine zV ?_ | (apply zI; refine zP vObt ?_) | (apply zI; refine zP vObx ?_) | refine zA ?_ | refine And.intro (ints_plain [1]) ?_ | refine And.intro (ints_plain [1, 1]) ?_ | refine And.intro (ints_plain [1, 0]) ?_ | refine And.intro (ints_plain [1, 1, 1, 1]) ?_ | refine Alt.fst ?_ | refine Or.inl ?_) <;> conv => whnf) | fail
   all_goals rfl
theorem c_l12Product (hm : Md m) (o o1 o2 : Bool) (k : Nat) (hk : 1 ≤ k ∧ k ≤ 4) (φ ρ a b : PS (Zm m)) (hf : FlP k φ ρ) : PureCall Tryz.prog 461 [dint m, LD o k φ, LD o1 k a, LD o2 k b] (LD true k (rtM k ρ a b)) := by
 have hm1 := hm.1
 have hm2 := hm.2
 refine pure_of_vcR Tryz.tabOk mixOrd Tryz.func461 rfl rfl ?_
 conv => whnf
 repeat' first | ((first | refine z0 ?_ | (refine And.intro (fun h => ?_) (fun h => ?_) <;> (try simp only [cnt1, ints_length] at h)) | refine zS ?_ | refine zV ?_ | (apply zI; refine zP vObt ?_) | (apply zI; refine zP vObx ?_) | refine zA ?_ | refine Alt.fst ?_ | refine Or.inl ?_) <;> conv => whnf) | fail
 refine loop_atR Tryz.tabOk mixOrd (α := Nat) (fun i => [(11, dint i)]) (fun i => [(0, some ⟨false, 1, ints (L (2 * k) (fuP k a b i 0))⟩)]) (fun i => i ≤ k) (fun i => k - i) (0) ?_ ?_ ?_
 · omega
 · conv => whnf
   first | refine WeakS.autoR ?_ | refine Weak.autoR ?_
   conv => whnf
   repeat' ((first | refine z1 ?_ | refine z2 ?_ | refine zV ?_ | refine And.intro vRepl ?_ | refine And.intro vReplL ?_ | refine And.intro ?_ ?_ | exact trivial) <;> try (conv => whnf))
   all_goals
     rw [fuP_zero, L_zero]
     try rw [show (2 * (k : Int)).toNat = 2 * k by omega]
 intro i hi
 conv => whnf
 repeat' first | ((first | refine z0 ?_ | (refine And.intro (fun h => ?_) (fun h => ?_) <;> (try simp only [cnt1, ints_length] at h)) | refine zS ?_ | refine zV ?_ | (apply zI; refine zP vObt ?_) | (apply zI; refine zP vObx ?_) | refine zA ?_ | refine Alt.fst ?_ | refine Or.inl ?_) <;> conv => whnf) | fail
 · have hi' : i < k := vAr
   refine loop_atR Tryz.tabOk mixOrd (α := Nat) (fun j => [(12, dint j)]) (fun j => [(0, some ⟨false, 1, ints (L (2 * k) (fuP k a b i j))⟩)]) (fun j => j ≤ k) (fun j => k - j) (0) ?_ ?_ ?_
   · omega
   · conv => whnf
     first | refine WeakS.autoR ?_ | refine Weak.autoR ?_
     conv => whnf
     repeat' ((first | refine z1 ?_ | refine z2 ?_ | refine zV ?_ | refine And.intro vRepl ?_ | refine And.intro vReplL ?_ | refine And.intro ?_ ?_ | exact trivial) <;> try (conv => whnf))
   intro j hj
   conv => whnf
   have x1 := hm.mul (a.c i) (b.c j)
   have x2 := Zm.val_range hm.pos ((fuP k a b i j).c (i + j))
   repeat' first | ((first | refine z0 ?_ | (refine And.intro (fun h => ?_) (fun h => ?_) <;> (try simp only [cnt1, ints_length] at h)) | refine zS ?_ | refine zV ?_ | (apply zI; refine zP vObt ?_) | (apply zI; refine zP vObx ?_) | refine zA ?_ | refine Alt.fst ?_ | refine Or.inl ?_) <;> conv => whnf) | fail
   · have hj' : j < k := vAr
     refine Exists.intro (j + 1) (And.intro vAr (And.intro vAr ?_))
     first | refine WeakS.autoR ?_ | refine Weak.autoR ?_
     conv => whnf
     repeat' ((first | refine z1 ?_ | refine z2 ?_ | refine zV ?_ | refine And.intro vRepl ?_ | refine And.intro vReplL ?_ | refine And.intro ?_ ?_ | exact trivial) <;> try (conv => whnf))
     exact ints_congr' (L_set_eq _ (tm_mulA hm _ _ _) (Ag.of_eq (fuP_step k a b i j).symm))
   · have he := Zm.val_eq_zero.1 (Classical.not_not.1 h)
     refine Exists.intro (i + 1) (And.intro vAr (And.intro vAr ?_))
     first | refine WeakS.autoR ?_ | refine Weak.autoR ?_
     conv => whnf
     repeat' ((first | refine z1 ?_ | refine z2 ?_ | refine zV ?_ | refine And.intro vRepl ?_ | refine And.intro vReplL ?_ | refine And.intro ?_ ?_ | exact trivial) <;> try (conv => whnf))
     rw [fuP_skipj k a b i j he]
   · refine Exists.intro (i + 1) (And.intro vAr (And.intro vAr ?_))
     first | refine WeakS.autoR ?_ | refine Weak.autoR ?_
     conv => whnf
     repeat' ((first | refine z1 ?_ | refine z2 ?_ | refine zV ?_ | refine And.intro vRepl ?_ | refine And.intro vReplL ?_ | refine And.intro ?_ ?_ | exact trivial) <;> try (conv => whnf))
     rw [show j = k from vAr, fuP_row]
 · rw [show i = k from vAr]
   repeat' first | ((first | refine z0 ?_ | (refine And.intro (fun h => ?_) (fun h => ?_) <;> (try simp only [cnt1, ints_length] at h)) | refine zS ?_ | refine zV ?_ | (apply zI; refine zP vObt ?_) | (apply zI; refine zP vObx ?_) | refine zA ?_ | refine Alt.fst ?_ | refine Or.inl ?_) <;> conv => whnf) | fail
   refine loop_atR Tryz.tabOk mixOrd (α := Nat) (fun r => [(13, dint (2 * (k : Int) - 1 - r))]) (fun r => [(0, some ⟨false, 1, ints (L (2 * k) (rdI k φ (fuP k a b k 0) r))⟩)]) (fun r => r ≤ k) (fun r => k - r) (0) ?_ ?_ ?_
   · omega
   · conv => whnf
     first | refine WeakS.autoR ?_ | refine Weak.autoR ?_
     conv => whnf
     repeat' ((first | refine z1 ?_ | refine z2 ?_ | refine zV ?_ | refine And.intro vRepl ?_ | refine And.intro vReplL ?_ | refine And.intro ?_ ?_ | exact trivial) <;> try (conv => whnf))
     all_goals first
       | rfl
       | (exact eqV_int (by omega))
       | skip
   intro r hr
   conv => whnf
   repeat' first | ((first | refine z0 ?_ | (apply zI; refine zP (c_l01Own _ (L k (rdI k φ (fuP k a b k 0) r)) (by rw [L_length]; omega)) ?_) | (refine And.intro (fun h => ?_) (fun h => ?_) <;> (try simp only [cnt1, ints_length] at h)) | refine zS ?_ | refine zV ?_ | (apply zI; refine zP vObt ?_) | (apply zI; refine zP vObx ?_) | refine zA ?_ | refine Alt.fst ?_ | refine Or.inl ?_) <;> conv => whnf) | fail
   · have hr' : r < k := vAr
     generalize hg : rdI k φ (fuP k a b k 0) r = g at *
     refine loop_atR Tryz.tabOk mixOrd (α := Nat) (fun j => [(14, dint j)]) (fun j => [(0, some ⟨false, 1, ints (L (2 * k) (rdP k φ g (2 * k - 1 - r) j))⟩)]) (fun j => j ≤ k) (fun j => k - j) (0) ?_ ?_ ?_
     · omega
     · conv => whnf
       first | refine WeakS.autoR ?_ | refine Weak.autoR ?_
       conv => whnf
       repeat' ((first | refine z1 ?_ | refine z2 ?_ | refine zV ?_ | refine And.intro vRepl ?_ | refine And.intro vReplL ?_ | refine And.intro ?_ ?_ | exact trivial) <;> try (conv => whnf))
       all_goals rw [rdP_zero]
     intro j hj
     conv => whnf
     have y1 := Zm.val_range hm.pos ((rdP k φ g (2 * k - 1 - r) j).c (2 * k - 1 - r - k + j))
     have y2 := hm.mul ((rdP k φ g (2 * k - 1 - r) j).c (2 * k - 1 - r)) (φ.c j)
     have y3 := tm_mul hm ((rdP k φ g (2 * k - 1 - r) j).c (2 * k - 1 - r)) (φ.c j)
     have y4 := Zm.val_range hm.pos ((rdP k φ g (2 * k - 1 - r) j).c (2 * k - 1 - r) * φ.c j)
     have z1 : (2 * (k : Int) - 1 - r - k + j).toNat = 2 * k - 1 - r - k + j := by omega
     have z2 : (2 * (k : Int) - 1 - r).toNat = 2 * k - 1 - r := by omega
     have y5 := Zm.val_range hm.pos ((rdP k φ g (2 * k - 1 - r) j).c (2 * (k : Int) - 1 - r - k + j).toNat)
     repeat' first | ((first | refine z0 ?_ | (apply zI; refine zP (c_l01Mod _ _ hm.pos (by omega)) ?_) | (apply zI; refine zP (vLoadL (i := 2 * k - 1 - r - k + j) (by simp only [place1, Nat.zero_add]; exact z1) (by omega)) ?_) | (apply zI; refine zP (vLoadL (i := 2 * k - 1 - r) (by simp only [place1, Nat.zero_add]; exact z2) (by omega)) ?_) | (apply zI; refine zP (vStore (i := 2 * k - 1 - r - k + j) _ (by simp only [place1, Nat.zero_add]; exact z1) (by rw [L_length]; omega)) ?_) | (refine And.intro (fun h => ?_) (fun h => ?_) <;> (try simp only [cnt1, ints_length] at h)) | refine zS ?_ | refine zV ?_ | (apply zI; refine zP vObt ?_) | (apply zI; refine zP vObx ?_) | refine zA ?_ | (refine And.intro (inR64 (by rw [y3]; omega) (by rw [y3]; omega)) ?_) | refine Alt.fst ?_ | refine Or.inl ?_) <;> conv => whnf) | fail
     · have hj' : j < k := vAr
       refine Exists.intro (j + 1) (And.intro vAr (And.intro vAr ?_))
       first | refine WeakS.autoR ?_ | refine Weak.autoR ?_
       conv => whnf
       repeat' ((first | refine z1 ?_ | refine z2 ?_ | refine zV ?_ | refine And.intro vRepl ?_ | refine And.intro vReplL ?_ | refine And.intro ?_ ?_ | exact trivial) <;> try (conv => whnf))
       all_goals
         rw [y3, em_sub]
         refine ints_congr' ?_
         simp only [z1]
         rw [show 2 * k - 1 - r - k + j = 2 * k - 1 - r - k + j from rfl]
         exact L_set_eq _ rfl (Ag.of_eq (rdP_step k φ g (by omega) hj').symm)
     · refine Exists.intro (r + 1) (And.intro vAr (And.intro vAr ?_))
       first | refine WeakS.autoR ?_ | refine Weak.autoR ?_
       conv => whnf
       repeat' ((first | refine z1 ?_ | refine z2 ?_ | refine zV ?_ | refine And.intro vRepl ?_ | refine And.intro vReplL ?_ | refine And.intro ?_ ?_ | exact trivial) <;> try (conv => whnf))
       all_goals first
         | (rw [show j = k from vAr, ← hg, ← rdI_succ]; done)
         | (exact eqV_int (by omega))
         | omega
         | skip
   · rw [show r = k from vAr]
     exact congrArg (fun x => D.list true 1 (ints x)) (L_congr (fun j hj => hf a b j hj))
theorem c_l12Zero (o : Bool) (k : Nat) (hk : 1 ≤ k ∧ k ≤ 4) (φ : PS (Zm m)) (N : Nat) (hN : 1 ≤ N ∧ N ≤ 100) {d : Int} (hd : d + 1 = N) : PureCall Tryz.prog 417 [LD o k φ, dint d] (RtD true true k N (0 : PS (PS (Zm m)))) := by
 refine pure_of_vcR Tryz.tabOk mixOrd Tryz.func417 rfl rfl ?_
 conv => whnf
 repeat' first | ((first | refine z0 ?_ | (refine And.intro (fun h => ?_) (fun h => ?_) <;> (try simp only [cnt1, ints_length] at h)) | refine zS ?_ | refine zV ?_ | (apply zI; refine zP vObt ?_) | (apply zI; refine zP vObx ?_) | refine zA ?_ | refine Alt.fst ?_ | refine Or.inl ?_) <;> conv => whnf) | fail
 refine loop_atR Tryz.tabOk mixOrd (α := Nat) (fun i => [(6, dint i), (5, .ref 0 [] 1 0 i), (7, .undef)]) (fun i => [(0, some ⟨false, 1, rows true (sqP k i (0 : PS (PS (Zm m))))⟩)]) (fun i => i ≤ N) (fun i => N - i) (0) ?_ ?_ ?_
 · omega
 · conv => whnf
   first | refine WeakS.autoR ?_ | refine Weak.autoR ?_
   conv => whnf
   repeat' ((first | refine z1 ?_ | refine z2 ?_ | refine zV ?_ | refine And.intro vRepl ?_ | refine And.intro vReplL ?_ | refine And.intro ?_ ?_ | exact trivial) <;> try (conv => whnf))
 intro i hi
 conv => whnf
 repeat' first | ((first | refine z0 ?_ | (refine And.intro (fun h => ?_) (fun h => ?_) <;> (try simp only [cnt1, ints_length] at h)) | refine zS ?_ | refine zV ?_ | (apply zI; refine zP vObt ?_) | (apply zI; refine zP vObx ?_) | refine zA ?_ | refine And.intro (vRA) ?_ | refine And.intro (one_in _) ?_ | refine And.intro (rows_plain _) ?_ | refine Alt.fst ?_ | refine Or.inl ?_) <;> conv => whnf) | fail
 · refine Exists.intro (i + 1) (And.intro vRA (And.intro vRA ?_))
   first | refine WeakS.autoR ?_ | refine Weak.autoR ?_
   conv => whnf
   repeat' ((first | refine z1 ?_ | refine z2 ?_ | refine zV ?_ | refine And.intro vRepl ?_ | refine And.intro vReplL ?_ | refine And.intro ?_ ?_ | exact trivial) <;> try (conv => whnf))
   all_goals exact rows_congr (sqP_push (show _ = L k ((0 : PS (PS (Zm m))).c i) from (L_zero k).symm))
 · rw [show i = N from vRA]
theorem c_l12Times (hm : Md m) (o o1 o2 p1 p2 : Bool) (k : Nat) (hk : 1 ≤ k ∧ k ≤ 4) (φ ρ : PS (Zm m)) (hf : FlP k φ ρ) (N : Nat) (hN : 1 ≤ N ∧ N ≤ 100) (f g : PS (PS (Zm m))) : PureCall Tryz.prog 460 [dint m, LD o k φ, RtD o1 p1 k N f, RtD o2 p2 k N g] (RtD true true k N (prM k ρ N f g)) := by
 have hm1 := hm.1
 have hm2 := hm.2
 refine pure_of_vcR Tryz.tabOk mixOrd Tryz.func460 rfl rfl ?_
 conv => whnf
 repeat' first | ((first | refine z0 ?_ | (apply zI; refine zP (c_l12Zero _ k hk φ N hN vRA) ?_) | (refine And.intro (fun h => ?_) (fun h => ?_) <;> (try simp only [cnt1, ints_length] at h)) | refine zS ?_ | refine zV ?_ | (apply zI; refine zP vObt ?_) | (apply zI; refine zP vObx ?_) | refine zA ?_ | refine And.intro (inR64 vRA vRA) ?_ | refine Alt.fst ?_ | refine Or.inl ?_) <;> conv => whnf) | fail
 refine loop_atR Tryz.tabOk mixOrd (α := Nat) (fun i => [(11, dint i), (10, .ref 0 [] 1 0 N)]) (fun i => [(0, some ⟨false, 1, rows true (sqP k N (prP k ρ f g i 0))⟩)]) (fun i => i ≤ N) (fun i => N - i) (0) ?_ ?_ ?_
 · omega
 · conv => whnf
   first | refine WeakS.autoR ?_ | refine Weak.autoR ?_
   conv => whnf
   repeat' ((first | refine z1 ?_ | refine z2 ?_ | refine zV ?_ | refine And.intro vRepl ?_ | refine And.intro vReplL ?_ | refine And.intro ?_ ?_ | exact trivial) <;> try (conv => whnf))
   all_goals first
     | (rw [prP_zero]; done)
     | (rw [cnt1, rows_length, sqP_length]; done)
     | skip
 intro i hi
 conv => whnf
 repeat' first | ((first | refine z0 ?_ | (refine And.intro (fun h => ?_) (fun h => ?_) <;> (try simp only [cnt1, ints_length] at h)) | refine zS ?_ | refine zV ?_ | (apply zI; refine zP vObt ?_) | (apply zI; refine zP vObx ?_) | refine zA ?_ | refine And.intro (vRA) ?_ | refine And.intro (rows_plain _) ?_ | refine Alt.fst ?_ | refine Or.inl ?_) <;> conv => whnf) | fail
 · have hi' : i < N := vRA
   refine loop_atR Tryz.tabOk mixOrd (α := Nat) (fun j => [(12, dint j), (10, .ref 0 [] 1 0 N), (41, .undef), (53, .undef), (52, .undef)]) (fun j => [(0, some ⟨false, 1, rows true (sqP k N (prP k ρ f g i j))⟩)]) (fun j => j ≤ N - i) (fun j => N - j) (0) ?_ ?_ ?_
   · omega
   · conv => whnf
     first | refine WeakS.autoR ?_ | refine Weak.autoR ?_
     conv => whnf
     repeat' ((first | refine z1 ?_ | refine z2 ?_ | refine zV ?_ | refine And.intro vRepl ?_ | refine And.intro vReplL ?_ | refine And.intro ?_ ?_ | exact trivial) <;> try (conv => whnf))
   intro j hj
   conv => whnf
   repeat' first | ((first | refine z0 ?_ | (apply zI; refine zP (vRtC (i := i) vIx vRA) ?_) | (apply zI; refine zP (vRtC (i := j) vIx vRA) ?_) | (apply zI; refine zP (vRtL (i := i + j) vIx vRA) ?_) | (apply zI; refine zP (vRtG (i := i + j) vIx vRA) ?_) | (apply zI; refine zP (c_l12Product hm _ _ _ k hk φ ρ (f.c i) (g.c j) hf) ?_) | (apply zI; refine zP (c_l02Add hm _ _ k vRA _ _) ?_) | refine move_of ?_ | (apply zI; refine zP (rows_set _ _ _ _) ?_) | (refine And.intro (fun h => ?_) (fun h => ?_) <;> (try simp only [cnt1, ints_length] at h)) | refine zS ?_ | refine zV ?_ | (apply zI; refine zP vObt ?_) | (apply zI; refine zP vObx ?_) | refine zA ?_ | refine And.intro (rtIx vRA) ?_ | refine And.intro (vRA) ?_ | refine Alt.fst ?_ | refine Or.inl ?_) <;> conv => whnf) | fail
   · refine Exists.intro (j + 1) (And.intro vRA (And.intro vRA ?_))
     first | refine WeakS.autoR ?_ | refine Weak.autoR ?_
     conv => whnf
     repeat' ((first | refine z1 ?_ | refine z2 ?_ | refine zV ?_ | refine And.intro vRepl ?_ | refine And.intro vReplL ?_ | refine And.intro ?_ ?_ | exact trivial) <;> try (conv => whnf))
     refine rows_congr ?_
     rw [show place 1 0 ((i : Int) + (j : Int)).toNat = i + j from vIx, rt_set _ _ (show i + j < N from vRA), ← prP_step]
   · have hj' : j = N - i := vRA
     refine Exists.intro (i + 1) (And.intro vRA (And.intro vRA ?_))
     first | refine WeakS.autoR ?_ | refine Weak.autoR ?_
     conv => whnf
     repeat' ((first | refine z1 ?_ | refine z2 ?_ | refine zV ?_ | refine And.intro vRepl ?_ | refine And.intro vReplL ?_ | refine And.intro ?_ ?_ | exact trivial) <;> try (conv => whnf))
     refine rows_congr (rt_congr (fun n hn => Ag.of_eq (prP_row _ _ _ _ (by omega) n hn)))
 · rw [show i = N from vRA]
   rfl
theorem c_l12Powers (hm : Md m) (o o1 p1 : Bool) (k : Nat) (hk : 1 ≤ k ∧ k ≤ 4) (φ ρ : PS (Zm m)) (hf : FlP k φ ρ) (N : Nat) (hN : 1 ≤ N ∧ N ≤ 100) (a : PS (PS (Zm m))) : PureCall Tryz.prog 459 [dint m, LD o k φ, RtD o1 p1 k N a] (.list true 1 (tbg (pwG k ρ N a) N)) := by
 have hm1 := hm.1
 have hm2 := hm.2
 refine pure_of_vcR Tryz.tabOk mixOrd Tryz.func459 rfl rfl ?_
 conv => whnf
 repeat' first | ((first | refine z0 ?_ | (apply zI; refine zP (c_l12Zero _ k hk φ N hN vRA) ?_) | (apply zI; refine zP (vRtL (i := 0) vIx vRA) ?_) | (apply zI; refine zP (vRtG (i := 0) vIx vRA) ?_) | (apply zI; refine zP (vRtStore (i := 0) (j := 0) _ vIx vIx vRA vRA) ?_) | (refine And.intro (fun h => ?_) (fun h => ?_) <;> (try simp only [cnt1, ints_length] at h)) | refine zS ?_ | refine zV ?_ | (apply zI; refine zP vObt ?_) | (apply zI; refine zP vObx ?_) | refine zA ?_ | refine And.intro (inR64 vRA vRA) ?_ | refine And.intro (vRA) ?_ | refine Alt.fst ?_ | refine Or.inl ?_) <;> conv => whnf) | fail
 refine loop_atR Tryz.tabOk mixOrd (α := Nat) (fun i => [(10, dint ((i : Int) + 1)), (9, .ref 1 [] 1 0 (i + 1)), (7, .undef), (8, .undef), (15, .undef), (16, .undef), (17, .undef), (18, .undef), (19, .undef), (20, .undef), (21, .undef), (22, .undef)]) (fun i => [(1, some ⟨false, 1, tbg (pwG k ρ N a) (i + 1)⟩)]) (fun i => i + 1 ≤ N) (fun i => N - i) (0) ?_ ?_ ?_
 · omega
 · conv => whnf
   first | refine WeakS.autoR ?_ | refine Weak.autoR ?_
   conv => whnf
   repeat' ((first | refine z1 ?_ | refine z2 ?_ | refine zV ?_ | refine And.intro vRepl ?_ | refine And.intro vReplL ?_ | refine And.intro ?_ ?_ | exact trivial) <;> try (conv => whnf))
   all_goals
     refine congrArg (fun x => [D.list true 1 (rows true x)]) ?_
     refine (?_ : setT (sqP k N 0) 0 0 1 = sqP k N 1)
     unfold setT
     rw [rt_getD _ (by omega), L_set_eq (1 : Zm m) (Zm.val_one (by omega)).symm (b := 1) (fun j hj => by rw [upd_c, PS.one_c]; split <;> rfl), rt_set _ _ (by omega)]
     exact rt_congr (fun i hi => Ag.of_eq (by rw [upd_c, PS.one_c]; split <;> rfl))
 intro i hi
 conv => whnf
 have hi1 : place 1 0 ((i : Int) + 1 - 1).toNat = i := by rw [place1]; omega
 repeat' first | ((first | refine z0 ?_ | (apply zI; refine zP (vTgL i hi1 vRA) ?_) | (apply zI; refine zP (vTgG i hi1 vRA) ?_) | (apply zI; refine zP (sub_rt vRA (Nat.le_refl _)) ?_) | (apply zI; refine zP (c_l12Times hm _ _ _ _ _ k hk φ ρ hf N hN (pwR k ρ N a i) a) ?_) | (refine And.intro (fun h => ?_) (fun h => ?_) <;> (try simp only [cnt1, ints_length] at h)) | refine zS ?_ | refine zV ?_ | (apply zI; refine zP vObt ?_) | (apply zI; refine zP vObx ?_) | refine zA ?_ | refine And.intro (inR64 vRA vRA) ?_ | refine And.intro (vTgLen vRA) ?_ | refine And.intro (one_lg _) ?_ | refine And.intro (tbg_plain _ _) ?_ | refine And.intro (vTgIx vRA) ?_ | refine And.intro (vRA) ?_ | refine Alt.fst ?_ | refine Or.inl ?_) <;> conv => whnf) | fail
 · refine Exists.intro (i + 1) (And.intro vRA (And.intro vRA ?_))
   first | refine WeakS.autoR ?_ | refine Weak.autoR ?_
   conv => whnf
   repeat' ((first | refine z1 ?_ | refine z2 ?_ | refine zV ?_ | refine And.intro vRepl ?_ | refine And.intro vReplL ?_ | refine And.intro ?_ ?_ | exact trivial) <;> try (conv => whnf))
   exact tbg_push rfl
 · rw [show i + 1 = N from vRA]
end Go.Proofs
