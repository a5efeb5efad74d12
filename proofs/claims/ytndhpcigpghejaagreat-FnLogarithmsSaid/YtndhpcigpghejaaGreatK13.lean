import Derived.Test.YtndhpcigpghejaaGreatK10
import Derived.Test.YtndhpcigpghejaaGreatKN
import Derived.Test.YtndhpcigpghejaaGreatAlg7
namespace Go.Proofs
open Go Go.Vm Go.Fg Go.Fg.PS
set_option maxRecDepth 100000
set_option maxHeartbeats 4000000
set_option linter.unusedSimpArgs false
set_option linter.unusedVariables false
variable {m : Int}
theorem c_onAxis0 (hm : Md m) (o : Bool) (n : Nat) (hn : 1 ≤ n ∧ n ≤ 100) (a : PS (Zm m)) : PureCall Tryz.prog 176 [SerD m o n a, dint 0] (PlD m true true n (axX a)) := by
 have := c_onAxis hm o n hn a 0
 rwa [if_pos rfl] at this
theorem c_onAxis1 (hm : Md m) (o : Bool) (n : Nat) (hn : 1 ≤ n ∧ n ≤ 100) (a : PS (Zm m)) : PureCall Tryz.prog 176 [SerD m o n a, dint 1] (PlD m true true n (axY a)) := by
 have := c_onAxis hm o n hn a 1
 rwa [if_neg (by omega)] at this
theorem c_mapped1 (hm : Md m) (g : Nat) (ds1 : List D) (n : Nat) (hn : 1 ≤ n ∧ n ≤ 100) (v : Nat → Nat → Int) (hg : ∀ i j : Nat, i + j < n → PureCall Tryz.prog g ([dint i, dint j] ++ [.cptr ds1 0]) (dint (v i j))) (o p : Bool) (f : PS (PS (Zm m))) :
   PureCall Tryz.prog 335 [PlD m o p n f, .fn (.func g) [] [.cptr ds1 0]] (PlD m true true n (pl fun i j => Zm.mk m (v i j))) := by
 have hm1 := hm.1
 have hm2 := hm.2
 refine pure_of_vc Tryz.tabOk mixOrd Tryz.func335 rfl rfl ?_
 conv => whnf
 repeat' first | ((first | refine z0 ?_ | (apply zI; refine zP (c_degreeP _ _ _ vAr _) ?_) | (apply zI; refine zP (c_emptyPlane n vAr vAr) ?_) | (refine And.intro (fun h => ?_) (fun h => ?_) <;> (try simp only [cnt1, ints_length] at h)) | refine zS ?_ | refine zV ?_ | (apply zI; refine zP vObt ?_) | (apply zI; refine zP vObx ?_) | refine zA ?_ | refine Alt.fst ?_ | refine Or.inl ?_) <;> conv => whnf) | fail
 refine loop_at Tryz.tabOk mixOrd (α := Nat) (fun i => [(17, dint i)]) (fun i => [(4, some ⟨false, 1, rows true (Tb n (mixP (pl fun i j => Zm.mk m (v i j)) 0 i 0))⟩)]) (fun i => i ≤ n) (fun i => n - i) (0) ?_ ?_ ?_
 · omega
 · conv => whnf
   first | refine WeakS.auto ?_ | refine Weak.auto ?_
   conv => whnf
   repeat' ((first | refine z1 ?_ | refine z2 ?_ | refine zV ?_ | refine And.intro vRepl ?_ | refine And.intro vReplL ?_ | refine And.intro ?_ ?_ | exact trivial) <;> try (conv => whnf))
   all_goals rw [mixP_zero]
 intro i hi
 conv => whnf
 repeat' first | ((first | refine z0 ?_ | (refine And.intro (fun h => ?_) (fun h => ?_) <;> (try simp only [cnt1, ints_length] at h)) | refine zS ?_ | refine zV ?_ | (apply zI; refine zP vObt ?_) | (apply zI; refine zP vObx ?_) | refine zA ?_ | refine Alt.fst ?_ | refine Or.inl ?_) <;> conv => whnf) | fail
 · refine loop_at Tryz.tabOk mixOrd (α := Nat) (fun j => [(24, dint j)]) (fun j => [(4, some ⟨false, 1, rows true (Tb n (mixP (pl fun i j => Zm.mk m (v i j)) 0 i j))⟩)]) (fun j => j ≤ n - i) (fun j => n - j) (0) ?_ ?_ ?_
   · omega
   · conv => whnf
     first | refine WeakS.auto ?_ | refine Weak.auto ?_
     conv => whnf
     repeat' ((first | refine z1 ?_ | refine z2 ?_ | refine zV ?_ | refine And.intro vRepl ?_ | refine And.intro vReplL ?_ | refine And.intro ?_ ?_ | exact trivial) <;> try (conv => whnf))
   intro j hj
   conv => whnf
   repeat' first | ((first | refine z0 ?_ | (apply zI; refine zP (c_mod _ _ hm.pos (by omega)) ?_) | (apply zI; refine zP (hg i j vAr) ?_) | (refine And.intro (fun h => ?_) (fun h => ?_) <;> (try simp only [cnt1, ints_length] at h)) | refine zS ?_ | refine zV ?_ | (apply zI; refine zP vObt ?_) | (apply zI; refine zP vObx ?_) | refine zA ?_ | refine Alt.fst ?_ | refine Or.inl ?_) <;> conv => whnf) | fail
   · refine Exists.intro (j + 1) (And.intro vAr (And.intro vAr ?_))
     first | refine WeakS.auto ?_ | refine Weak.auto ?_
     conv => whnf
     repeat' ((first | refine z1 ?_ | refine z2 ?_ | refine zV ?_ | refine And.intro vRepl ?_ | refine And.intro vReplL ?_ | refine And.intro ?_ ?_ | exact trivial) <;> try (conv => whnf))
     exact rows_congr (setT_eq (Zm.mk m (v i j)) rfl vAr (Ag2.of_eq (mixP_step _ _ i j).symm))
   · refine Exists.intro (i + 1) (And.intro vAr (And.intro vAr ?_))
     first | refine WeakS.auto ?_ | refine Weak.auto ?_
     conv => whnf
     repeat' ((first | refine z1 ?_ | refine z2 ?_ | refine zV ?_ | refine And.intro vRepl ?_ | refine And.intro vReplL ?_ | refine And.intro ?_ ?_ | exact trivial) <;> try (conv => whnf))
     exact rows_congr (Tb_congr (mixP_row _ _ vAr))
 · exact plD_congr (Tb_congr (mixP_full _ _ vAr))
theorem c_mapped2 (hm : Md m) (g : Nat) (ds1 ds2 : List D) (n : Nat) (hn : 1 ≤ n ∧ n ≤ 100) (v : Nat → Nat → Int) (hg : ∀ i j : Nat, i + j < n → PureCall Tryz.prog g ([dint i, dint j] ++ [.cptr ds1 0, .cptr ds2 0]) (dint (v i j))) (o p : Bool) (f : PS (PS (Zm m))) :
   PureCall Tryz.prog 335 [PlD m o p n f, .fn (.func g) [] [.cptr ds1 0, .cptr ds2 0]] (PlD m true true n (pl fun i j => Zm.mk m (v i j))) := by
 have hm1 := hm.1
 have hm2 := hm.2
 refine pure_of_vc Tryz.tabOk mixOrd Tryz.func335 rfl rfl ?_
 conv => whnf
 repeat' first | ((first | refine z0 ?_ | (apply zI; refine zP (c_degreeP _ _ _ vAr _) ?_) | (apply zI; refine zP (c_emptyPlane n vAr vAr) ?_) | (refine And.intro (fun h => ?_) (fun h => ?_) <;> (try simp only [cnt1, ints_length] at h)) | refine zS ?_ | refine zV ?_ | (apply zI; refine zP vObt ?_) | (apply zI; refine zP vObx ?_) | refine zA ?_ | refine Alt.fst ?_ | refine Or.inl ?_) <;> conv => whnf) | fail
 refine loop_at Tryz.tabOk mixOrd (α := Nat) (fun i => [(17, dint i)]) (fun i => [(4, some ⟨false, 1, rows true (Tb n (mixP (pl fun i j => Zm.mk m (v i j)) 0 i 0))⟩)]) (fun i => i ≤ n) (fun i => n - i) (0) ?_ ?_ ?_
 · omega
 · conv => whnf
   first | refine WeakS.auto ?_ | refine Weak.auto ?_
   conv => whnf
   repeat' ((first | refine z1 ?_ | refine z2 ?_ | refine zV ?_ | refine And.intro vRepl ?_ | refine And.intro vReplL ?_ | refine And.intro ?_ ?_ | exact trivial) <;> try (conv => whnf))
   all_goals rw [mixP_zero]
 intro i hi
 conv => whnf
 repeat' first | ((first | refine z0 ?_ | (refine And.intro (fun h => ?_) (fun h => ?_) <;> (try simp only [cnt1, ints_length] at h)) | refine zS ?_ | refine zV ?_ | (apply zI; refine zP vObt ?_) | (apply zI; refine zP vObx ?_) | refine zA ?_ | refine Alt.fst ?_ | refine Or.inl ?_) <;> conv => whnf) | fail
 · refine loop_at Tryz.tabOk mixOrd (α := Nat) (fun j => [(24, dint j)]) (fun j => [(4, some ⟨false, 1, rows true (Tb n (mixP (pl fun i j => Zm.mk m (v i j)) 0 i j))⟩)]) (fun j => j ≤ n - i) (fun j => n - j) (0) ?_ ?_ ?_
   · omega
   · conv => whnf
     first | refine WeakS.auto ?_ | refine Weak.auto ?_
     conv => whnf
     repeat' ((first | refine z1 ?_ | refine z2 ?_ | refine zV ?_ | refine And.intro vRepl ?_ | refine And.intro vReplL ?_ | refine And.intro ?_ ?_ | exact trivial) <;> try (conv => whnf))
   intro j hj
   conv => whnf
   repeat' first | ((first | refine z0 ?_ | (apply zI; refine zP (c_mod _ _ hm.pos (by omega)) ?_) | (apply zI; refine zP (hg i j vAr) ?_) | (refine And.intro (fun h => ?_) (fun h => ?_) <;> (try simp only [cnt1, ints_length] at h)) | refine zS ?_ | refine zV ?_ | (apply zI; refine zP vObt ?_) | (apply zI; refine zP vObx ?_) | refine zA ?_ | refine Alt.fst ?_ | refine Or.inl ?_) <;> conv => whnf) | fail
   · refine Exists.intro (j + 1) (And.intro vAr (And.intro vAr ?_))
     first | refine WeakS.auto ?_ | refine Weak.auto ?_
     conv => whnf
     repeat' ((first | refine z1 ?_ | refine z2 ?_ | refine zV ?_ | refine And.intro vRepl ?_ | refine And.intro vReplL ?_ | refine And.intro ?_ ?_ | exact trivial) <;> try (conv => whnf))
     exact rows_congr (setT_eq (Zm.mk m (v i j)) rfl vAr (Ag2.of_eq (mixP_step _ _ i j).symm))
   · refine Exists.intro (i + 1) (And.intro vAr (And.intro vAr ?_))
     first | refine WeakS.auto ?_ | refine Weak.auto ?_
     conv => whnf
     repeat' ((first | refine z1 ?_ | refine z2 ?_ | refine zV ?_ | refine And.intro vRepl ?_ | refine And.intro vReplL ?_ | refine And.intro ?_ ?_ | exact trivial) <;> try (conv => whnf))
     exact rows_congr (Tb_congr (mixP_row _ _ vAr))
 · exact plD_congr (Tb_congr (mixP_full _ _ vAr))
theorem c_plusP1 (hm : Md m) (o p o' p' : Bool) (n : Nat) (hn : 1 ≤ n ∧ n ≤ 100) (f g : PS (PS (Zm m))) (i j : Nat) (h : i + j < n) : PureCall Tryz.prog 336 [dint i, dint j, .cptr [dint m, .list o 1 (rows p (Tb n f))] 0, .cptr [dint m, .list o' 1 (rows p' (Tb n g))] 0] (dint (((f.c i).c j).val + ((g.c i).c j).val)) := by
 have hm1 := hm.1
 have hm2 := hm.2
 have h1 := Zm.val_range hm.pos ((f.c i).c j)
 have h2 := Zm.val_range hm.pos ((g.c i).c j)
 refine pure_of_vc Tryz.tabOk mixOrd Tryz.func336 rfl rfl ?_
 conv => whnf
 repeat' first | ((first | refine z0 ?_ | (refine And.intro (fun h => ?_) (fun h => ?_) <;> (try simp only [cnt1, ints_length] at h)) | refine zS ?_ | refine zV ?_ | (apply zI; refine zP vObt ?_) | (apply zI; refine zP vObx ?_) | refine zA ?_ | refine Alt.fst ?_ | refine Or.inl ?_) <;> conv => whnf) | fail
 all_goals rfl
theorem c_plusP (hm : Md m) (o p o' p' : Bool) (n : Nat) (hn : 1 ≤ n ∧ n ≤ 100) (f g : PS (PS (Zm m))) : PureCall Tryz.prog 160 [PlD m o p n f, PlD m o' p' n g] (PlD m true true n (f + g)) := by
 have hm1 := hm.1
 have hm2 := hm.2
 refine pure_of_vc Tryz.tabOk mixOrd Tryz.func160 rfl rfl ?_
 conv => whnf
 repeat' first | ((first | refine z0 ?_ | (apply zI; refine zP (c_mapped2 hm _ _ _ n hn (fun i j => ((f.c i).c j).val + ((g.c i).c j).val) (fun i j h => c_plusP1 hm _ _ _ _ n hn f g i j h) _ _ f) ?_) | (refine And.intro (fun h => ?_) (fun h => ?_) <;> (try simp only [cnt1, ints_length] at h)) | refine zS ?_ | refine zV ?_ | (apply zI; refine zP vObt ?_) | (apply zI; refine zP vObx ?_) | refine zA ?_ | refine Alt.fst ?_ | refine Or.inl ?_) <;> conv => whnf) | fail
 refine plD_congr (Tb_congr (fun i j hij => ?_))
 rw [pl_c, Zm.mk_add, Zm.mk_val, Zm.mk_val]; rfl
theorem c_of (hm : Md m) (o o' p : Bool) (n : Nat) (hn : 1 ≤ n ∧ n ≤ 100) (a : PS (Zm m)) (f : PS (PS (Zm m))) : PureCall Tryz.prog 234 [SerD m o n a, PlD m o' p n f] (PlD m true true n (comp2N a f 0 n)) := by
 have hm1 := hm.1
 have hm2 := hm.2
 refine pure_of_vc Tryz.tabOk mixOrd Tryz.func234 rfl rfl ?_
 conv => whnf
 repeat' first | ((first | refine z0 ?_ | (apply zI; refine zP (c_number hm _ _ n hn _ _) ?_) | (apply zI; refine zP (c_degreeS _ _ vAr _) ?_) | (refine And.intro (fun h => ?_) (fun h => ?_) <;> (try simp only [cnt1, ints_length] at h)) | refine zS ?_ | refine zV ?_ | (apply zI; refine zP vObt ?_) | (apply zI; refine zP vObx ?_) | refine zA ?_ | refine Alt.fst ?_ | refine Or.inl ?_) <;> conv => whnf) | fail
 refine loop_at Tryz.tabOk mixOrd (α := Nat) (fun t => [(6, dint ((n : Int) - 1 - t)), (8, .undef)]) (fun t => [(4, some ⟨false, 1, rows true (Tb n (comp2N a f (n - t) t))⟩), (5, some ⟨true, 1, [dint m, .ref 4 [] 1 0 n]⟩)]) (fun t => t ≤ n) (fun t => n - t) (0) ?_ ?_ ?_
 · omega
 · conv => whnf
   first | refine WeakS.auto ?_ | refine Weak.auto ?_
   conv => whnf
   repeat' ((first | refine z1 ?_ | refine z2 ?_ | refine zV ?_ | refine And.intro vRepl ?_ | refine And.intro vReplL ?_ | refine And.intro ?_ ?_ | exact trivial) <;> try (conv => whnf))
   exact rows_congr (Tb_congr (fun i j hij => by rw [C_c]; split; rw [C_c]; split <;> rfl; rfl))
 intro t ht
 conv => whnf
 repeat' first | ((first | refine z0 ?_ | (apply zI; refine zP (c_number hm _ _ n hn _ _) ?_) | (apply zI; refine zP (c_timesP hm _ _ _ _ n hn _ _) ?_) | (apply zI; refine zP (c_plusP hm _ _ _ _ n hn _ _) ?_) | (refine And.intro (fun h => ?_) (fun h => ?_) <;> (try simp only [cnt1, ints_length] at h)) | refine zS ?_ | refine zV ?_ | (apply zI; refine zP vObt ?_) | (apply zI; refine zP vObx ?_) | refine zA ?_ | refine Alt.fst ?_ | refine Or.inl ?_) <;> conv => whnf) | fail
 · refine Exists.intro (t + 1) (And.intro vAr (And.intro vAr ?_))
   first | refine WeakS.auto ?_ | refine Weak.auto ?_
   conv => whnf
   repeat' ((first | refine z1 ?_ | refine z2 ?_ | refine zV ?_ | refine And.intro vRepl ?_ | refine And.intro vReplL ?_ | refine And.intro ?_ ?_ | exact trivial) <;> try (conv => whnf))
   refine rows_congr (Tb_congr (Ag2.of_eq ?_))
   have e : ((n : Int) - 1 - t).toNat = n - (t + 1) := by omega
   rw [e, Zm.mk_val, ← comp2N_step, show n - (t + 1) + 1 = n - t by omega]
 · exact plD_congr (by rw [show n = t from vAr]; simp)
theorem c_variables (hm : Md m) (n : Nat) {d : Int} (hd : d + 1 = n) (hn : 2 ≤ n ∧ n ≤ 100) : PureCall Tryz.prog 159 [dint m, dint d] (.tup [PlD m true true n (axX (PS.X : PS (Zm m))), PlD m true true n (axY (PS.X : PS (Zm m)))]) := by
 have hm1 := hm.1
 refine pure_of_vc Tryz.tabOk mixOrd Tryz.func159 rfl rfl ?_
 conv => whnf
 repeat' first | ((first | refine z0 ?_ | (apply zI; refine zP (c_variable n hd hn hm) ?_) | (apply zI; refine zP (c_onAxis0 hm _ n vAr _) ?_) | (apply zI; refine zP (c_onAxis1 hm _ n vAr _) ?_) | (refine And.intro (fun h => ?_) (fun h => ?_) <;> (try simp only [cnt1, ints_length] at h)) | refine zS ?_ | refine zV ?_ | (apply zI; refine zP vObt ?_) | (apply zI; refine zP vObx ?_) | refine zA ?_ | refine Alt.fst ?_ | refine Or.inl ?_) <;> conv => whnf) | fail
end Go.Proofs
