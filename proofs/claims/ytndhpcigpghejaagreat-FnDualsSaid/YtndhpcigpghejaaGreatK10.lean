import Derived.Test.YtndhpcigpghejaaGreatK3
import Derived.Test.YtndhpcigpghejaaGreatVm32
namespace Go.Proofs
open Go Go.Vm Go.Fg Go.Fg.PS
set_option maxRecDepth 100000
set_option maxHeartbeats 4000000
set_option linter.unusedSimpArgs false
set_option linter.unusedVariables false
variable {m : Int}
abbrev PlD (m : Int) (o p : Bool) (n : Nat) (f : PS (PS (Zm m))) : D := .agg [dint m, .list o 1 (rows p (Tb n f))]
abbrev TbD (o p : Bool) (n : Nat) (f : PS (PS (Zm m))) : D := .list o 1 (rows p (Tb n f))
theorem plD_congr {t : List (List Int)} {o p : Bool} {n : Nat} {f : PS (PS (Zm m))} (h : t = Tb n f) : D.agg [dint m, .list o 1 (rows p t)] = PlD m o p n f := by rw [h]
theorem tbD_congr {t : List (List Int)} {o p : Bool} {n : Nat} {f : PS (PS (Zm m))} (h : t = Tb n f) : D.list o 1 (rows p t) = TbD o p n f := by rw [h]
theorem c_degreeP (o p : Bool) (n : Nat) (hn : n ≤ 100) (f : PS (PS (Zm m))) : PureCall Tryz.prog 191 [PlD m o p n f] (dint (n - 1)) := by
 refine pure_of_vc Tryz.tabOk mixOrd Tryz.func191 rfl rfl ?_
 conv => whnf
 repeat' first | ((first | refine z0 ?_ | (refine And.intro (fun h => ?_) (fun h => ?_) <;> (try simp only [cnt1, ints_length] at h)) | refine zS ?_ | refine zV ?_ | (apply zI; refine zP vObt ?_) | (apply zI; refine zP vObx ?_) | refine zA ?_ | refine Alt.fst ?_ | refine Or.inl ?_) <;> conv => whnf) | fail
 simp [cnt1]
theorem repl_zero (n : Nat) : List.replicate n 0 = L n (0 : PS (Zm m)) := (L_zero n).symm
theorem c_emptyPlane {d : Int} (n : Nat) (hd : d + 1 = n) (hn : n ≤ 100) : PureCall Tryz.prog 337 [dint m, dint d] (PlD m true true n (0 : PS (PS (Zm m)))) := by
 refine pure_of_vc Tryz.tabOk mixOrd Tryz.func337 rfl rfl ?_
 conv => whnf
 repeat' first | ((first | refine z0 ?_ | (refine And.intro (fun h => ?_) (fun h => ?_) <;> (try simp only [cnt1, ints_length] at h)) | refine zS ?_ | refine zV ?_ | (apply zI; refine zP vObt ?_) | (apply zI; refine zP vObx ?_) | refine zA ?_ | refine Alt.fst ?_ | refine Or.inl ?_) <;> conv => whnf) | fail
 refine loop_at Tryz.tabOk mixOrd (α := Nat) (fun i => [(11, dint i)]) (fun i => [(1, some ⟨true, 1, [dint m, .ref 2 [] 1 0 i]⟩), (2, some ⟨false, 1, rows true (TbP n i (0 : PS (PS (Zm m))))⟩)]) (fun i => i ≤ n) (fun i => n - i) (0) ?_ ?_ ?_
 · omega
 · conv => whnf
   first | refine WeakS.auto ?_ | refine Weak.auto ?_
   conv => whnf
   repeat' ((first | refine z1 ?_ | refine And.intro ?_ ?_ | exact trivial) <;> try (conv => whnf))
 intro i hi
 conv => whnf
 repeat' first | ((first | refine z0 ?_ | (refine And.intro (fun h => ?_) (fun h => ?_) <;> (try simp only [cnt1, ints_length] at h)) | refine zS ?_ | refine zV ?_ | (apply zI; refine zP vObt ?_) | (apply zI; refine zP vObx ?_) | refine zA ?_ | refine Alt.fst ?_ | refine Or.inl ?_) <;> conv => whnf) | fail
 · refine Exists.intro (i + 1) (And.intro (by omega) (And.intro (by omega) ?_))
   first | refine WeakS.auto ?_ | refine Weak.auto ?_
   conv => whnf
   repeat' ((first | refine z1 ?_ | refine And.intro ?_ ?_ | exact trivial) <;> try (conv => whnf))
   exact rows_congr (TbP_push (by rw [repl_zero, show (d + 1 - (i : Int)).toNat = n - i by omega]; rfl))
 · exact plD_congr (by rw [show i = n by omega, TbP_full])
theorem c_l03Zero {d : Int} (n : Nat) (hd : d + 1 = n) (hn : n ≤ 100) : PureCall Tryz.prog 340 [dint d] (TbD true true n (0 : PS (PS (Zm m)))) := by
 refine pure_of_vc Tryz.tabOk mixOrd Tryz.func340 rfl rfl ?_
 conv => whnf
 repeat' first | ((first | refine z0 ?_ | (refine And.intro (fun h => ?_) (fun h => ?_) <;> (try simp only [cnt1, ints_length] at h)) | refine zS ?_ | refine zV ?_ | (apply zI; refine zP vObt ?_) | (apply zI; refine zP vObx ?_) | refine zA ?_ | refine Alt.fst ?_ | refine Or.inl ?_) <;> conv => whnf) | fail
 refine loop_at Tryz.tabOk mixOrd (α := Nat) (fun i => [(3, .ref 0 [] 1 0 i), (4, dint i), (5, .undef)]) (fun i => [(0, some ⟨false, 1, rows true (TbP n i (0 : PS (PS (Zm m))))⟩)]) (fun i => i ≤ n) (fun i => n - i) (0) ?_ ?_ ?_
 · omega
 · conv => whnf
   first | refine WeakS.auto ?_ | refine Weak.auto ?_
   conv => whnf
   repeat' ((first | refine z1 ?_ | refine And.intro ?_ ?_ | exact trivial) <;> try (conv => whnf))
 intro i hi
 conv => whnf
 repeat' first | ((first | refine z0 ?_ | (refine And.intro (fun h => ?_) (fun h => ?_) <;> (try simp only [cnt1, ints_length] at h)) | refine zS ?_ | refine zV ?_ | (apply zI; refine zP vObt ?_) | (apply zI; refine zP vObx ?_) | refine zA ?_ | refine Alt.fst ?_ | refine Or.inl ?_) <;> conv => whnf) | fail
 · refine Exists.intro (i + 1) (And.intro (by omega) (And.intro (by omega) ?_))
   first | refine WeakS.auto ?_ | refine Weak.auto ?_
   conv => whnf
   repeat' ((first | refine z1 ?_ | refine And.intro ?_ ?_ | exact trivial) <;> try (conv => whnf))
   exact rows_congr (TbP_push (by rw [repl_zero, show (d - (i : Int) + 1).toNat = n - i by omega]; rfl))
 · exact tbD_congr (by rw [show i = n by omega, TbP_full])
theorem c_number (hm : Md m) (o p : Bool) (n : Nat) (hn : 1 ≤ n ∧ n ≤ 100) (f : PS (PS (Zm m))) (c : Int) : PureCall Tryz.prog 169 [PlD m o p n f, dint c] (PlD m true true n (PS.C (PS.C (Zm.mk m c)))) := by
 have hm1 := hm.1
 have hm2 := hm.2
 refine pure_of_vc Tryz.tabOk mixOrd Tryz.func169 rfl rfl ?_
 conv => whnf
 repeat' first | ((first | refine z0 ?_ | (apply zI; refine zP (c_degreeP _ _ _ vAr _) ?_) | (apply zI; refine zP (c_emptyPlane n vAr vAr) ?_) | (apply zI; refine zP (c_mod _ _ hm.pos (by omega)) ?_) | refine zS ?_ | refine zV ?_ | (apply zI; refine zP vObt ?_) | (apply zI; refine zP vObx ?_) | refine zA ?_ | refine Alt.fst ?_ | refine Or.inl ?_) <;> conv => whnf) | fail
 refine plD_congr (setT_eq (Zm.mk m c) rfl (by omega) (fun i j hij => ?_))
 rw [upd2_cc, C_c]
 by_cases h : i = 0
 · rw [if_pos h, C_c]
   by_cases h2 : j = 0
   · rw [if_pos ⟨h, h2⟩, if_pos h2]
   · rw [if_neg (fun x => h2 x.2), if_neg h2]; rfl
 · rw [if_neg (fun x => h x.1), if_neg h]; rfl
theorem c_timesP (hm : Md m) (o p o' p' : Bool) (n : Nat) (hn : 1 ≤ n ∧ n ≤ 100) (f g : PS (PS (Zm m))) : PureCall Tryz.prog 161 [PlD m o p n f, PlD m o' p' n g] (PlD m true true n (f * g)) := by
 have hm1 := hm.1
 have hm2 := hm.2
 refine pure_of_vc Tryz.tabOk mixOrd Tryz.func161 rfl rfl ?_
 conv => whnf
 repeat' first | ((first | (apply zI; refine zP (c_degreeP _ _ _ vAr _) ?_) | (apply zI; refine zP (c_emptyPlane n vAr vAr) ?_) | refine zS ?_ | refine Alt.fst ?_ | refine Or.inl ?_) <;> conv => whnf) | fail
 refine loop_at Tryz.tabOk mixOrd (α := Nat) (fun i => [(24, dint i)]) (fun i => [(5, some ⟨false, 1, rows true (Tb n (pP f g i 0))⟩)]) (fun i => i ≤ n) (fun i => n - i) (0) ?_ ?_ ?_
 · omega
 · conv => whnf
   first | refine WeakS.auto ?_ | refine Weak.auto ?_
   conv => whnf
   repeat' ((first | refine z1 ?_ | refine And.intro ?_ ?_ | exact trivial) <;> try (conv => whnf))
   all_goals rw [pP_zero]
 intro i hi
 conv => whnf
 repeat' first | ((first | refine z0 ?_ | (refine And.intro (fun h => ?_) (fun h => ?_) <;> (try simp only [cnt1, ints_length] at h)) | refine zS ?_ | refine zV ?_ | (apply zI; refine zP vObt ?_) | (apply zI; refine zP vObx ?_) | refine zA ?_ | refine Alt.fst ?_ | refine Or.inl ?_) <;> conv => whnf) | fail
 · refine loop_at Tryz.tabOk mixOrd (α := Nat) (fun j => [(31, dint j)]) (fun j => [(5, some ⟨false, 1, rows true (Tb n (pP f g i j))⟩)]) (fun j => j ≤ n - i) (fun j => n - j) (0) ?_ ?_ ?_
   · omega
   · conv => whnf
     first | refine WeakS.auto ?_ | refine Weak.auto ?_
     conv => whnf
     repeat' ((first | refine z1 ?_ | refine And.intro ?_ ?_ | exact trivial) <;> try (conv => whnf))
   intro j hj
   conv => whnf
   repeat' first | ((first | refine z0 ?_ | (refine And.intro (fun h => ?_) (fun h => ?_) <;> (try simp only [cnt1, ints_length] at h)) | refine zS ?_ | refine zV ?_ | (apply zI; refine zP vObt ?_) | (apply zI; refine zP vObx ?_) | refine zA ?_ | refine Alt.fst ?_ | refine Or.inl ?_) <;> conv => whnf) | fail
   · refine Exists.intro (j + 1) (And.intro vAr (And.intro vAr ?_))
     first | refine WeakS.auto ?_ | refine Weak.auto ?_
     conv => whnf
     repeat' ((first | refine z1 ?_ | refine And.intro ?_ ?_ | exact trivial) <;> try (conv => whnf))
     rw [pP_skip f g i j (Zm.val_eq_zero.1 (by assumption))]
   · refine loop_at Tryz.tabOk mixOrd (α := Nat) (fun k => [(11, dint k)]) (fun k => [(5, some ⟨false, 1, rows true (Tb n (pQ f g i j k 0))⟩)]) (fun k => i + j + k ≤ n) (fun k => n - k) (0) ?_ ?_ ?_
     · exact vAr
     · conv => whnf
       first | refine WeakS.auto ?_ | refine Weak.auto ?_
       conv => whnf
       repeat' ((first | refine z1 ?_ | refine And.intro ?_ ?_ | exact trivial) <;> try (conv => whnf))
       all_goals rw [pQ_zero]
     intro k hk
     conv => whnf
     repeat' first | ((first | refine z0 ?_ | (refine And.intro (fun h => ?_) (fun h => ?_) <;> (try simp only [cnt1, ints_length] at h)) | refine zS ?_ | refine zV ?_ | (apply zI; refine zP vObt ?_) | (apply zI; refine zP vObx ?_) | refine zA ?_ | refine Alt.fst ?_ | refine Or.inl ?_) <;> conv => whnf) | fail
     · refine loop_at Tryz.tabOk mixOrd (α := Nat) (fun l => [(62, dint l)]) (fun l => [(5, some ⟨false, 1, rows true (Tb n (pQ f g i j k l))⟩)]) (fun l => i + j + k + l ≤ n) (fun l => n - l) (0) ?_ ?_ ?_
       · exact vAr
       · conv => whnf
         first | refine WeakS.auto ?_ | refine Weak.auto ?_
         conv => whnf
         repeat' ((first | refine z1 ?_ | refine And.intro ?_ ?_ | exact trivial) <;> try (conv => whnf))
       intro l hll
       conv => whnf
       have hx1 := Zm.val_range hm.pos (((pQ f g i j k l).c (i + k)).c (j + l))
       have hx2 := Zm.val_range hm.pos ((f.c i).c j * (g.c k).c l)
       repeat' first | ((first | (apply zI; refine zP (c_mul hm _ _) ?_) | (refine And.intro (fun h => ?_) (fun h => ?_) <;> (try simp only [cnt1, ints_length] at h)) | refine zS ?_ | refine zV ?_ | (apply zI; refine zP vObt ?_) | (apply zI; refine zP vObx ?_) | refine Alt.fst ?_ | refine Or.inl ?_) <;> conv => whnf) | fail
       · refine Exists.intro (l + 1) (And.intro vAr (And.intro vAr ?_))
         first | refine WeakS.auto ?_ | refine Weak.auto ?_
         conv => whnf
         repeat' ((first | refine z1 ?_ | refine And.intro ?_ ?_ | exact trivial) <;> try (conv => whnf))
         exact rows_congr (setT_eq _ (tm_add hm _ _) vAr (Ag2.of_eq (pQ_step f g i j k l).symm))
       · refine Exists.intro (k + 1) (And.intro vAr (And.intro vAr ?_))
         first | refine WeakS.auto ?_ | refine Weak.auto ?_
         conv => whnf
         repeat' ((first | refine z1 ?_ | refine And.intro ?_ ?_ | exact trivial) <;> try (conv => whnf))
         exact rows_congr (Tb_congr (pQ_row f g vAr))
     · refine Exists.intro (j + 1) (And.intro vAr (And.intro vAr ?_))
       first | refine WeakS.auto ?_ | refine Weak.auto ?_
       conv => whnf
       repeat' ((first | refine z1 ?_ | refine And.intro ?_ ?_ | exact trivial) <;> try (conv => whnf))
       exact rows_congr (Tb_congr (pQ_end f g vAr))
   · refine Exists.intro (i + 1) (And.intro vAr (And.intro vAr ?_))
     first | refine WeakS.auto ?_ | refine Weak.auto ?_
     conv => whnf
     repeat' ((first | refine z1 ?_ | refine And.intro ?_ ?_ | exact trivial) <;> try (conv => whnf))
     exact rows_congr (Tb_congr (pP_row f g vAr))
 · exact plD_congr (Tb_congr (pP_full f g vAr))
end Go.Proofs
