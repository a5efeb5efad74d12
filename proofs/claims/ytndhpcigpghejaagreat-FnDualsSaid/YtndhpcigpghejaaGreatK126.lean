import Derived.Test.YtndhpcigpghejaaGreatK22
import Derived.Test.YtndhpcigpghejaaGreatK32
namespace Go.Proofs
open Go Go.Vm Go.Fg Go.Fg.PS
set_option maxRecDepth 100000
set_option maxHeartbeats 4000000
set_option linter.unusedSimpArgs false
set_option linter.unusedVariables false
variable {m : Int}
def turn (f : PS (PS (Zm m))) : PS (PS (Zm m)) := pl fun p q => (f.c q).c p
def turnN (f : PS (PS (Zm m))) (i j : Nat) : PS (PS (Zm m)) := pl fun p q => if q < i ∨ (q = i ∧ p < j) then (f.c q).c p else 0
theorem turnN_zero (f : PS (PS (Zm m))) : turnN f 0 0 = 0 := ext2 (fun p q => by
 show (if _ then _ else _) = _
 rw [if_neg (by omega)]; rfl)
theorem turnN_step (f : PS (PS (Zm m))) (i j : Nat) : upd2 (turnN f i j) j i ((f.c i).c j) = turnN f i (j + 1) := ext2 (fun p q => by
 rw [upd2_cc]
 show (if _ then _ else if _ then _ else _) = (if _ then _ else _)
 by_cases h : p = j ∧ q = i
 · rw [if_pos h, if_pos (by omega), h.1, h.2]
 · rw [if_neg h]
   by_cases h2 : q < i ∨ (q = i ∧ p < j)
   · rw [if_pos h2, if_pos (by omega)]
   · rw [if_neg h2, if_neg (by omega)])
theorem turnN_row (f : PS (PS (Zm m))) {n i j : Nat} (h : n ≤ i + j) : Ag2 n (turnN f i j) (turnN f (i + 1) 0) := fun p q hpq => by
 show (if _ then _ else _) = (if _ then _ else _)
 by_cases h2 : q < i ∨ (q = i ∧ p < j)
 · rw [if_pos h2, if_pos (by omega)]
 · rw [if_neg h2, if_neg (by omega)]
theorem turnN_full (f : PS (PS (Zm m))) {n i : Nat} (h : n ≤ i) : Ag2 n (turnN f i 0) (turn f) := fun p q hpq => by
 show (if _ then _ else _) = _
 rw [if_pos (by omega)]; rfl
theorem c_l03Turn (o p : Bool) (n : Nat) (hn : 1 ≤ n ∧ n ≤ 100) (f : PS (PS (Zm m))) : PureCall Tryz.prog 351 [TbD o p n f] (TbD true true n (turn f)) := by
 refine pure_of_vcR Tryz.tabOk mixOrd Tryz.func351 rfl rfl ?_
 conv => whnf
 repeat' first | ((first | (apply zI; refine zP (c_l03Zero (m := m) n vAr vAr) ?_) | (refine And.intro (fun h => ?_) (fun h => ?_) <;> (try simp only [cnt1, ints_length] at h)) | refine zV ?_ | (apply zI; refine zP vObt ?_) | (apply zI; refine zP vObx ?_) | refine Or.inl ?_) <;> conv => whnf) | fail
 refine loop_atR Tryz.tabOk mixOrd (α := Nat) (fun i => [(4, dint i), (6, .undef)]) (fun i => [(0, some ⟨false, 1, rows true (Tb n (turnN f i 0))⟩)]) (fun i => i ≤ n) (fun i => n - i) (0) ?_ ?_ ?_
 · omega
 · conv => whnf
   first | refine WeakS.autoR ?_ | refine Weak.autoR ?_
   conv => whnf
   repeat' ((first | refine z1 ?_ | refine And.intro ?_ ?_ | exact trivial) <;> try (conv => whnf))
   all_goals rw [turnN_zero]
 intro i hi
 conv => whnf
 repeat' first | ((first | refine z0 ?_ | (refine And.intro (fun h => ?_) (fun h => ?_) <;> (try simp only [cnt1, ints_length] at h)) | refine zS ?_ | refine zV ?_ | (apply zI; refine zP vObt ?_) | (apply zI; refine zP vObx ?_) | refine zA ?_ | refine Alt.fst ?_ | refine Or.inl ?_) <;> conv => whnf) | fail
 · refine loop_atR Tryz.tabOk mixOrd (α := Nat) (fun j => [(5, dint j), (6, .undef)]) (fun j => [(0, some ⟨false, 1, rows true (Tb n (turnN f i j))⟩)]) (fun j => j ≤ n - i) (fun j => n - j) (0) ?_ ?_ ?_
   · omega
   · conv => whnf
     first | refine WeakS.autoR ?_ | refine Weak.autoR ?_
     conv => whnf
     repeat' ((first | refine z1 ?_ | refine And.intro ?_ ?_ | exact trivial) <;> try (conv => whnf))
   intro j hj
   conv => whnf
   repeat' first | ((first | refine z0 ?_ | (refine And.intro (fun h => ?_) (fun h => ?_) <;> (try simp only [cnt1, ints_length] at h)) | refine zS ?_ | refine zV ?_ | (apply zI; refine zP vObt ?_) | (apply zI; refine zP vObx ?_) | refine zA ?_ | refine Alt.fst ?_ | refine Or.inl ?_) <;> conv => whnf) | fail
   · refine Exists.intro (j + 1) (And.intro vAr (And.intro vAr ?_))
     first | refine WeakS.autoR ?_ | refine Weak.autoR ?_
     conv => whnf
     repeat' ((first | refine z1 ?_ | refine And.intro ?_ ?_ | exact trivial) <;> try (conv => whnf))
     exact rows_congr (setT_eq ((f.c i).c j) rfl vAr (Ag2.of_eq (turnN_step f i j)))
   · refine Exists.intro (i + 1) (And.intro vAr (And.intro vAr ?_))
     first | refine WeakS.autoR ?_ | refine Weak.autoR ?_
     conv => whnf
     repeat' ((first | refine z1 ?_ | refine And.intro ?_ ?_ | exact trivial) <;> try (conv => whnf))
     exact rows_congr (Tb_congr (turnN_row f vAr))
 · exact tbD_congr (Tb_congr (turnN_full f vAr))
def bL (f : PS (PS (Zm m))) (a b : PS (Zm m)) (G : PS (PS (Zm m))) (i j k : Nat) : Nat → PS (PS (Zm m))
 | 0 => G
 | t + 1 => upd2 (bL f a b G i j k t) k (j + t) (((bL f a b G i j k t).c k).c (j + t) + (f.c i).c j * (pw a i).c k * (pw b j).c (j + t))
def bK (f : PS (PS (Zm m))) (a b : PS (Zm m)) (n : Nat) (G : PS (PS (Zm m))) (i j : Nat) : Nat → PS (PS (Zm m))
 | 0 => G
 | t + 1 => bL f a b (bK f a b n G i j t) i j (i + t) (n - (i + t) - j)
open Classical in
noncomputable def bJ (f : PS (PS (Zm m))) (a b : PS (Zm m)) (n : Nat) (G : PS (PS (Zm m))) (i : Nat) : Nat → PS (PS (Zm m))
 | 0 => G
 | j + 1 => if (f.c i).c j = 0 then bJ f a b n G i j else bK f a b n (bJ f a b n G i j) i j (n - i)
noncomputable def bI (f : PS (PS (Zm m))) (a b : PS (Zm m)) (n : Nat) : Nat → PS (PS (Zm m))
 | 0 => 0
 | i + 1 => bJ f a b n (bI f a b n i) i (n - i)
theorem vPwLL {n k q l' i l : Nat} {a : PS (Zm m)} (e : q = i) (e2 : l' = l) (h : i < k) (h2 : l < n) : LoadRow (rows true (pwr n a k)) ([] ++ [q]) l' (dint ((pw a i).c l).val) := by
 subst e; subst e2
 refine ⟨ints (L n (pw a q)), ?_, ?_⟩
 · rw [List.nil_append, getB_rows (by simpa using h), pwr_getD h]
 · simp [ints, L, h2]
theorem c_l03Both (hm : Md m) (o p o1 o2 : Bool) (n : Nat) (hn : 2 ≤ n ∧ n ≤ 100) (f : PS (PS (Zm m))) (a b : PS (Zm m)) : PureCall Tryz.prog 451 [dint m, TbD o p n f, LD o1 n a, LD o2 n b] (TbD true true n (bI f a b n n)) := by
 have hm1 := hm.1
 have hm2 := hm.2
 refine pure_of_vcR Tryz.tabOk mixOrd Tryz.func451 rfl rfl ?_
 conv => whnf
 repeat' first | ((first | (apply zI; refine zP (c_l03Zero (m := m) n vAr vAr) ?_) | (apply zI; refine zP (c_l03Powers hm _ n vAr _) ?_) | refine zV ?_ | refine Or.inl ?_) <;> conv => whnf) | fail
 refine loop_atR Tryz.tabOk mixOrd (α := Nat) (fun i => [(13, dint i), (16, .undef)]) (fun i => [(2, some ⟨false, 1, rows true (Tb n (bI f a b n i))⟩)]) (fun i => i ≤ n) (fun i => n - i) (0) ?_ ?_ ?_
 · omega
 · conv => whnf
   first | refine WeakS.autoR ?_ | refine Weak.autoR ?_
   conv => whnf
   repeat' ((first | refine z1 ?_ | refine And.intro ?_ ?_ | exact trivial) <;> try (conv => whnf))
 intro i hi
 conv => whnf
 repeat' first | ((first | refine z0 ?_ | (refine And.intro (fun h => ?_) (fun h => ?_) <;> (try simp only [cnt1, ints_length] at h)) | refine zS ?_ | refine zV ?_ | (apply zI; refine zP vObt ?_) | (apply zI; refine zP vObx ?_) | refine zA ?_ | refine Alt.fst ?_ | refine Or.inl ?_) <;> conv => whnf) | fail
 · have hin : i < n := vAr
   refine loop_atR Tryz.tabOk mixOrd (α := Nat) (fun j => [(14, dint j), (16, .undef)]) (fun j => [(2, some ⟨false, 1, rows true (Tb n (bJ f a b n (bI f a b n i) i j))⟩)]) (fun j => j ≤ n - i) (fun j => n - j) (0) ?_ ?_ ?_
   · omega
   · conv => whnf
     first | refine WeakS.autoR ?_ | refine Weak.autoR ?_
     conv => whnf
     repeat' ((first | refine z1 ?_ | refine And.intro ?_ ?_ | exact trivial) <;> try (conv => whnf))
     all_goals rfl
   intro j hj
   conv => whnf
   repeat' first | ((first | refine z0 ?_ | (refine And.intro (fun h => ?_) (fun h => ?_) <;> (try simp only [cnt1, ints_length] at h)) | refine zS ?_ | refine zV ?_ | (apply zI; refine zP vObt ?_) | (apply zI; refine zP vObx ?_) | refine zA ?_ | refine Alt.fst ?_ | refine Or.inl ?_) <;> conv => whnf) | fail
   · have hjn : i + j < n := vAr
     refine loop_atR Tryz.tabOk mixOrd (α := Nat) (fun t => [(15, dint ((i : Int) + t)), (16, .undef)]) (fun t => [(2, some ⟨false, 1, rows true (Tb n (bK f a b n (bJ f a b n (bI f a b n i) i j) i j t))⟩)]) (fun t => t ≤ n - i ∧ ((f.c i).c j = 0 → t = 0)) (fun t => n - t) (0) ?_ ?_ ?_
     · exact ⟨by omega, fun _ => rfl⟩
     · conv => whnf
       first | refine WeakS.autoR ?_ | refine Weak.autoR ?_
       conv => whnf
       repeat' ((first | refine z1 ?_ | refine And.intro ?_ ?_ | exact trivial) <;> try (conv => whnf))
       all_goals first | rfl | omega
     intro t ht
     obtain ⟨ht, ht0⟩ := ht
     conv => whnf
     repeat' first | ((first | refine z0 ?_ | (refine And.intro (fun h => ?_) (fun h => ?_) <;> (try simp only [cnt1, ints_length] at h)) | refine zS ?_ | refine zV ?_ | (apply zI; refine zP vObt ?_) | (apply zI; refine zP vObx ?_) | refine zA ?_ | refine Alt.fst ?_ | refine Or.inl ?_) <;> conv => whnf) | fail
     · have hkn : i + t < n := vAr
       have hne : (f.c i).c j ≠ 0 := fun e => absurd (Zm.val_eq_zero.2 e) (by assumption)
       refine loop_atR Tryz.tabOk mixOrd (α := Nat) (fun s => [(17, dint ((j : Int) + s))]) (fun s => [(2, some ⟨false, 1, rows true (Tb n (bL f a b (bK f a b n (bJ f a b n (bI f a b n i) i j) i j t) i j (i + t) s))⟩)]) (fun s => s ≤ n - (i + t) - j) (fun s => n - s) (0) ?_ ?_ ?_
       · omega
       · conv => whnf
         first | refine WeakS.autoR ?_ | refine Weak.autoR ?_
         conv => whnf
         repeat' ((first | refine z1 ?_ | refine And.intro ?_ ?_ | exact trivial) <;> try (conv => whnf))
         all_goals first | rfl | omega
       intro s hs
       conv => whnf
       have hx1 := Zm.val_range hm.pos (((bL f a b (bK f a b n (bJ f a b n (bI f a b n i) i j) i j t) i j (i + t) s).c (i + t)).c (j + s))
       have hx2 := hm.mul ((f.c i).c j) ((pw a i).c (i + t))
       have hx3 := hm.mul ((f.c i).c j * (pw a i).c (i + t)) ((pw b j).c (j + s))
       repeat' first | ((first | (apply zI; refine zP (vPwL i vIx vAr) ?_) | (apply zI; refine zP (vPwL j vIx vAr) ?_) | (apply zI; refine zP (vPwLL (i := i) (l := i + t) vIx vIx vAr vAr) ?_) | (apply zI; refine zP (vPwLL (i := j) (l := j + s) vIx vIx vAr vAr) ?_) | (refine And.intro (fun h => ?_) (fun h => ?_) <;> (try simp only [cnt1, ints_length] at h)) | refine zS ?_ | refine zV ?_ | (apply zI; refine zP vObt ?_) | (apply zI; refine zP vObx ?_) | refine And.intro (vPwIx vAr) ?_) <;> conv => whnf) | fail
       · rw [tm_mul hm]
         repeat' first | ((first | (apply zI; refine zP (vPwL i vIx vAr) ?_) | (apply zI; refine zP (vPwL j vIx vAr) ?_) | (apply zI; refine zP (vPwLL (i := i) (l := i + t) vIx vIx vAr vAr) ?_) | (apply zI; refine zP (vPwLL (i := j) (l := j + s) vIx vIx vAr vAr) ?_) | (refine And.intro (fun h => ?_) (fun h => ?_) <;> (try simp only [cnt1, ints_length] at h)) | refine zS ?_ | refine zV ?_ | (apply zI; refine zP vObt ?_) | (apply zI; refine zP vObx ?_) | refine And.intro (vPwIx vAr) ?_) <;> conv => whnf) | fail
         refine Exists.intro (s + 1) (And.intro vAr (And.intro vAr ?_))
         first | refine WeakS.autoR ?_ | refine Weak.autoR ?_
         conv => whnf
         repeat' ((first | refine z1 ?_ | refine And.intro ?_ ?_ | exact trivial) <;> try (conv => whnf))
         all_goals first
           | exact rows_congr (setT_eq _ (tm_mulA hm _ _ _) vAr (Ag2.of_eq rfl))
           | omega
       · refine Exists.intro (t + 1) (And.intro ⟨vAr, fun e => absurd e hne⟩ (And.intro vAr ?_))
         first | refine WeakS.autoR ?_ | refine Weak.autoR ?_
         conv => whnf
         repeat' ((first | refine z1 ?_ | refine And.intro ?_ ?_ | exact trivial) <;> try (conv => whnf))
         all_goals first
           | (rw [show s = n - (i + t) - j from vAr]; rfl)
           | omega
     · have he : (f.c i).c j = 0 := Zm.val_eq_zero.1 (Classical.not_not.1 (by assumption))
       refine Exists.intro (j + 1) (And.intro vAr (And.intro vAr ?_))
       first | refine WeakS.autoR ?_ | refine Weak.autoR ?_
       conv => whnf
       repeat' ((first | refine z1 ?_ | refine And.intro ?_ ?_ | exact trivial) <;> try (conv => whnf))
       have h0 := ht0 he
       subst h0
       show rows true (Tb n (bJ f a b n (bI f a b n i) i j)) = rows true (Tb n (bJ f a b n (bI f a b n i) i (j + 1)))
       rw [show bJ f a b n (bI f a b n i) i (j + 1) = bJ f a b n (bI f a b n i) i j from if_pos he]
     · have htn : t = n - i := vAr
       have he : ¬ (f.c i).c j = 0 := fun e => by have := ht0 e; omega
       refine Exists.intro (j + 1) (And.intro vAr (And.intro vAr ?_))
       first | refine WeakS.autoR ?_ | refine Weak.autoR ?_
       conv => whnf
       repeat' ((first | refine z1 ?_ | refine And.intro ?_ ?_ | exact trivial) <;> try (conv => whnf))
       subst htn
       rw [show bJ f a b n (bI f a b n i) i (j + 1) = bK f a b n (bJ f a b n (bI f a b n i) i j) i j (n - i) from if_neg he]
   · have hjn : j = n - i := vAr
     subst hjn
     refine Exists.intro (i + 1) (And.intro vAr (And.intro vAr ?_))
     first | refine WeakS.autoR ?_ | refine Weak.autoR ?_
     conv => whnf
     repeat' ((first | refine z1 ?_ | refine And.intro ?_ ?_ | exact trivial) <;> try (conv => whnf))
     all_goals rfl
 · rw [show i = n from vAr]
end Go.Proofs
