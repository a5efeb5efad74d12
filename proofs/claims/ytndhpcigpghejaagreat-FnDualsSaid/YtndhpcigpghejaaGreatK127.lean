import Derived.Test.YtndhpcigpghejaaGreatK126
import Derived.Test.YtndhpcigpghejaaGreatK154
namespace Go.Proofs
open Go Go.Vm Go.Fg Go.Fg.PS
set_option maxRecDepth 100000
set_option maxHeartbeats 4000000
set_option linter.unusedSimpArgs false
set_option linter.unusedVariables false
variable {m : Int}
def mulT (n : Nat) (z : Zm m) : PS (PS (Zm m)) := if 2 < n then upd2 (upd2 (upd2 0 1 0 1) 0 1 1) 1 1 z else upd2 (upd2 0 1 0 1) 0 1 1
def tgP (c : Zm m) : Nat → Zm m
 | 0 => 1
 | k + 1 => tgP c k * -c
def tgT (c : Zm m) : Nat → PS (PS (Zm m))
 | 0 => 0
 | k + 1 => upd2 (upd2 (tgT c k) (k + 1) k (tgP c k)) k (k + 1) (tgP c k)
theorem tm_one (hm : Md m) : (1 : Int).tmod m = (1 : Zm m).val := by
 rw [Zm.val_one (by have := hm.1; omega)]
 have := hm.1
 rw [Int.tmod_eq_of_lt (by omega) (by omega)]
theorem tm_mk (hm : Md m) {x : Int} (hx : 0 ≤ x) : x.tmod m = (Zm.mk m x).val := by
 rw [Int.tmod_eq_emod_of_nonneg hx]; rfl
theorem tm_mulneg (hm : Md m) (x c : Zm m) : (x.val * (m - c.val)).tmod m = (x * -c).val := by
 rw [Int.mul_comm, tm_negmul hm, CR.mul_comm c x]
 congr 1
 exact (Go.Fg.mul_neg x c).symm
theorem mul_bd {x y : Int} (hx : 0 ≤ x ∧ x ≤ 10000) (hy : 0 ≤ y ∧ y ≤ 10000) : 0 ≤ x * y ∧ x * y ≤ 100000000 :=
 ⟨Int.mul_nonneg hx.1 hy.1, by have := Int.mul_le_mul hx.2 hy.2 hy.1 (by omega : (0 : Int) ≤ 10000); omega⟩
theorem tm_Anegmul (hm : Md m) (w x y : Zm m) : (w.val + (m - x.val) * y.val).tmod m = (w + -x * y).val := by
 have h1 := subM_bd hm x y
 have h2 := Zm.val_range hm.pos w
 exact Zm.tmod_val (by omega) (by rw [Zm.mk_add, Zm.mk_mul, Zm.mk_sub, Zm.mk_val, Zm.mk_val, Zm.mk_val, Zm.mk_self, Go.Fg.sub_def, CR.zero_add])
theorem vLdL {n q i : Nat} {a : PS (Zm m)} (e : q = i) (h : i < n) : LoadRow (ints (L n a)) [] q (dint (a.c i).val) := by
 subst e; exact ⟨_, rfl, by simp [ints, L, h]⟩
theorem c_l08Multiplicative (hm : Md m) (n : Nat) (hn : 2 ≤ n ∧ n ≤ 11) {d : Int} (hd : d + 1 = n) (z : Zm m) : PureCall Tryz.prog 165 [dint m, dint d, dint z.val] (TbD true true n (mulT n z)) := by
 have hm1 := hm.1
 have hm2 := hm.2
 refine pure_of_vcR Tryz.tabOk mixOrd Tryz.func165 rfl rfl ?_
 conv => whnf
 repeat' first | ((first | (apply zI; refine zP (c_l03Zero (m := m) n vAr vAr) ?_) | (refine And.intro (fun h => ?_) (fun h => ?_) <;> (try simp only [cnt1, ints_length] at h)) | refine zV ?_ | (apply zI; refine zP vObt ?_) | (apply zI; refine zP vObx ?_) | refine Or.inl ?_) <;> conv => whnf) | fail
 have h1 : (1 : Int) = (1 : Zm m).val := (Zm.val_one (by omega)).symm
 rw [show setT (Tb n (0 : PS (PS (Zm m)))) 1 0 1 = Tb n (upd2 0 1 0 1) from setT_eq (1 : Zm m) h1 (by omega) (Ag2.of_eq rfl)]
 repeat' first | ((first | refine z0 ?_ | (refine And.intro (fun h => ?_) (fun h => ?_) <;> (try simp only [cnt1, ints_length] at h)) | refine zS ?_ | refine zV ?_ | (apply zI; refine zP vObt ?_) | (apply zI; refine zP vObx ?_) | refine zA ?_ | refine Alt.fst ?_ | refine Or.inl ?_) <;> conv => whnf) | fail
 · rw [show setT (Tb n (upd2 (0 : PS (PS (Zm m))) 1 0 1)) 0 1 1 = Tb n (upd2 (upd2 0 1 0 1) 0 1 1) from setT_eq (1 : Zm m) h1 (by omega) (Ag2.of_eq rfl)]
   repeat' first | ((first | refine z0 ?_ | (refine And.intro (fun h => ?_) (fun h => ?_) <;> (try simp only [cnt1, ints_length] at h)) | refine zS ?_ | refine zV ?_ | (apply zI; refine zP vObt ?_) | (apply zI; refine zP vObx ?_) | refine zA ?_ | refine Alt.fst ?_ | refine Or.inl ?_) <;> conv => whnf) | fail
   have h2 : 2 < n := by omega
   exact tbD_congr (setT_eq z rfl (by omega) (Ag2.of_eq (by rw [mulT, if_pos h2])))
 · have h2 : ¬ 2 < n := by omega
   exact tbD_congr (setT_eq (1 : Zm m) h1 (by omega) (Ag2.of_eq (by rw [mulT, if_neg h2])))
theorem c_l08Tangent (hm : Md m) (n : Nat) (hn : 2 ≤ n ∧ n ≤ 11) {d : Int} (hd : d + 1 = n) (c : Zm m) : PureCall Tryz.prog 171 [dint m, dint d, dint c.val] (TbD true true n (tgT c (n / 2))) := by
 have hm1 := hm.1
 have hm2 := hm.2
 refine pure_of_vcR Tryz.tabOk mixOrd Tryz.func171 rfl rfl ?_
 conv => whnf
 repeat' first | ((first | (apply zI; refine zP (c_l03Zero (m := m) n vAr vAr) ?_) | (refine And.intro (fun h => ?_) (fun h => ?_) <;> (try simp only [cnt1, ints_length] at h)) | refine zV ?_ | (apply zI; refine zP vObt ?_) | (apply zI; refine zP vObx ?_) | refine Or.inl ?_) <;> conv => whnf) | fail
 refine loop_atR Tryz.tabOk mixOrd (α := Nat) (fun k => [(8, dint (tgP c k).val), (9, dint k)]) (fun k => [(0, some ⟨false, 1, rows true (Tb n (tgT c k))⟩)]) (fun k => k ≤ n / 2) (fun k => n - k) (0) ?_ ?_ ?_
 · omega
 · conv => whnf
   first | refine WeakS.autoR ?_ | refine Weak.autoR ?_
   conv => whnf
   repeat' ((first | refine z1 ?_ | refine zV ?_ | refine And.intro ?_ ?_ | exact trivial) <;> try (conv => whnf))
   all_goals first | exact tm_one hm | (rw [tm_one hm]; rfl) | (simp [tm_one hm, tgP]; done)
 intro k hk
 conv => whnf
 have hx1 := Zm.val_range hm.pos (tgP c k)
 have hx2 := Zm.val_range hm.pos c
 have hx3 := mul_bd (x := (tgP c k).val) (y := m - c.val) (by omega) (by omega)
 repeat' first | ((first | refine z0 ?_ | (refine And.intro (fun h => ?_) (fun h => ?_) <;> (try simp only [cnt1, ints_length] at h)) | refine zS ?_ | refine zV ?_ | (apply zI; refine zP vObt ?_) | (apply zI; refine zP vObx ?_) | refine zA ?_ | refine Alt.fst ?_ | refine Or.inl ?_) <;> conv => whnf) | fail
 · have hk2 : 2 * k + 1 < n := by omega
   rw [show setT (Tb n (tgT c k)) (k + 1) k (tgP c k).val = Tb n (upd2 (tgT c k) (k + 1) k (tgP c k)) from setT_eq _ rfl (by omega) (Ag2.of_eq rfl)]
   repeat' first | ((first | refine z0 ?_ | (refine And.intro (fun h => ?_) (fun h => ?_) <;> (try simp only [cnt1, ints_length] at h)) | refine zS ?_ | refine zV ?_ | (apply zI; refine zP vObt ?_) | (apply zI; refine zP vObx ?_) | refine zA ?_ | refine Alt.fst ?_ | refine Or.inl ?_) <;> conv => whnf) | fail
   refine Exists.intro (k + 1) (And.intro vAr (And.intro vAr ?_))
   first | refine WeakS.autoR ?_ | refine Weak.autoR ?_
   conv => whnf
   repeat' ((first | refine z1 ?_ | refine zV ?_ | refine And.intro ?_ ?_ | exact trivial) <;> try (conv => whnf))
   all_goals first
     | exact congrArg dint (tm_mulneg hm _ _)
     | exact rows_congr (setT_eq _ rfl (by omega) (Ag2.of_eq rfl))
     | exact tm_mulneg hm _ _
 · have hk2 : k = n / 2 := by omega
   rw [hk2]
def rW (a e : Zm m) (s : PS (Zm m)) (k : Nat) : Nat → Zm m
 | 0 => if k = 4 then e else if k = 2 then Zm.mk m (2 * m - 2 * a.val) else 0
 | i + 1 => rW a e s k i + -(s.c (i + 1)) * s.c (k - (i + 1))
def rS (a e h : Zm m) : Nat → PS (Zm m)
 | 0 => (0 : PS (Zm m)).upd 0 1
 | t + 1 => (rS a e h t).upd (t + 1) (rW a e (rS a e h t) (t + 1) t * h)
theorem c_l08Root (hm : Md m) (n : Nat) (hn : 2 ≤ n ∧ n ≤ 11) {d : Int} (hd : d + 1 = n) (a e : Zm m) : PureCall Tryz.prog 345 [dint m, dint d, dint a.val, dint e.val] (LD true n (rS a e (invN m 2) (n - 1))) := by
 have hm1 := hm.1
 have hm2 := hm.2
 refine pure_of_vcR Tryz.tabOk mixOrd Tryz.func345 rfl rfl ?_
 conv => whnf
 repeat' first | ((first | (apply zI; refine zP (c_l01Inv hm 2) ?_) | refine zS ?_ | refine zV ?_ | (apply zI; refine zP vObx ?_) | refine Alt.fst ?_ | refine Or.inl ?_) <;> conv => whnf) | fail
 refine loop_atR Tryz.tabOk mixOrd (α := Nat) (fun t => [(11, dint ((t : Int) + 1)), (10, .ref 1 [] 1 0 n), (18, .undef), (19, .undef), (20, .undef)]) (fun t => [(1, some ⟨false, 1, ints (L n (rS a e (invN m 2) t))⟩)]) (fun t => t + 1 ≤ n) (fun t => n - t) (0) ?_ ?_ ?_
 · omega
 · conv => whnf
   first | refine WeakS.autoR ?_ | refine Weak.autoR ?_
   conv => whnf
   repeat' ((first | refine z1 ?_ | refine zV ?_ | refine And.intro ?_ ?_ | exact trivial) <;> try (conv => whnf))
   all_goals first
     | omega
     | exact ints_congr' (by rw [show (d + 1).toNat = n by omega, ← L_zero (m := m)]; exact L_set_eq (1 : Zm m) (Zm.val_one (by omega)).symm (fun k hk => by rw [upd_c]; rfl))
 intro t ht
 conv => whnf
 have hx1 := Zm.val_range hm.pos a
 have hx2 := Zm.val_range hm.pos e
 by_cases htn : t + 1 < n
 · repeat' first | ((first | refine z0 ?_ | (refine And.intro (fun h => ?_) (fun h => ?_) <;> (try simp only [cnt1, ints_length] at h) <;> first | (exfalso; omega) | skip) | refine zS ?_ | refine zV ?_ | (apply zI; refine zP vObt ?_) | (apply zI; refine zP vObx ?_)) <;> conv => whnf) | fail
   · refine loop_atR Tryz.tabOk mixOrd (α := Nat) (fun i => [(12, dint (rW a e (rS a e (invN m 2) t) (t + 1) i).val), (13, dint ((i : Int) + 1))]) (fun i => []) (fun i => i ≤ t) (fun i => t - i) (0) ?_ ?_ ?_
     · omega
     · conv => whnf
       first | refine WeakS.autoR ?_ | refine Weak.autoR ?_
       conv => whnf
       repeat' ((first | refine z1 ?_ | refine zV ?_ | refine And.intro ?_ ?_ | exact trivial) <;> try (conv => whnf))
       all_goals first
         | (rw [rW, if_pos (by omega)]; done)
         | (rw [rW, if_neg (by omega), if_pos (by omega)]; exact tm_mk hm (by omega))
         | (rw [rW, if_neg (by omega), if_neg (by omega)]; exact Zm.val_zero.symm)
         | (rw [rW, if_neg (by omega), if_neg (by omega)]; rfl)
     intro i hi
     conv => whnf
     have hx3 := Zm.val_range hm.pos ((rS a e (invN m 2) t).c (i + 1))
     have hx4 := Zm.val_range hm.pos ((rS a e (invN m 2) t).c (t - i))
     have hx5 := subM_bd hm ((rS a e (invN m 2) t).c (i + 1)) ((rS a e (invN m 2) t).c (t - i))
     have hx6 := Zm.val_range hm.pos (rW a e (rS a e (invN m 2) t) (t + 1) i)
     have hx7 := hm.mul (rW a e (rS a e (invN m 2) t) (t + 1) i) (invN m 2)
     repeat' first | ((first | (apply zI; refine zP (vLdL (i := i + 1) vIx vAr) ?_) | (apply zI; refine zP (vLdL (i := t - i) (by simp only [place1] at *; omega) vAr) ?_) | (refine And.intro (fun h => ?_) (fun h => ?_) <;> (try simp only [cnt1, ints_length] at h)) | refine zS ?_ | refine zV ?_ | (apply zI; refine zP vObx ?_)) <;> conv => whnf) | fail
     · refine Exists.intro (i + 1) (And.intro vAr (And.intro vAr ?_))
       first | refine WeakS.autoR ?_ | refine Weak.autoR ?_
       conv => whnf
       repeat' ((first | refine z1 ?_ | refine zV ?_ | refine And.intro ?_ ?_ | exact trivial) <;> try (conv => whnf))
       all_goals first
         | exact congrArg dint (tm_Anegmul hm _ _ _)
         | exact tm_Anegmul hm _ _ _
         | (rw [show rW a e (rS a e (invN m 2) t) (t + 1) (i + 1) = rW a e (rS a e (invN m 2) t) (t + 1) i + -((rS a e (invN m 2) t).c (i + 1)) * (rS a e (invN m 2) t).c (t - i) by rw [rW, show t + 1 - (i + 1) = t - i by omega]]; exact tm_Anegmul hm _ _ _)
     · have hit : i = t := by omega
       refine Exists.intro (t + 1) (And.intro vAr (And.intro vAr ?_))
       first | refine WeakS.autoR ?_ | refine Weak.autoR ?_
       conv => whnf
       repeat' ((first | refine z1 ?_ | refine zV ?_ | refine And.intro ?_ ?_ | exact trivial) <;> try (conv => whnf))
       all_goals first
         | omega
         | exact ints_congr' (L_set_eq _ (by rw [tm_mul hm, hit]) (fun k hk => rfl))
   · refine loop_atR Tryz.tabOk mixOrd (α := Nat) (fun i => [(12, dint (rW a e (rS a e (invN m 2) t) (t + 1) i).val), (13, dint ((i : Int) + 1))]) (fun i => []) (fun i => i ≤ t) (fun i => t - i) (0) ?_ ?_ ?_
     · omega
     · conv => whnf
       first | refine WeakS.autoR ?_ | refine Weak.autoR ?_
       conv => whnf
       repeat' ((first | refine z1 ?_ | refine zV ?_ | refine And.intro ?_ ?_ | exact trivial) <;> try (conv => whnf))
       all_goals first
         | (rw [rW, if_pos (by omega)]; done)
         | (rw [rW, if_neg (by omega), if_pos (by omega)]; exact tm_mk hm (by omega))
         | (rw [rW, if_neg (by omega), if_neg (by omega)]; exact Zm.val_zero.symm)
         | (rw [rW, if_neg (by omega), if_neg (by omega)]; rfl)
     intro i hi
     conv => whnf
     have hx3 := Zm.val_range hm.pos ((rS a e (invN m 2) t).c (i + 1))
     have hx4 := Zm.val_range hm.pos ((rS a e (invN m 2) t).c (t - i))
     have hx5 := subM_bd hm ((rS a e (invN m 2) t).c (i + 1)) ((rS a e (invN m 2) t).c (t - i))
     have hx6 := Zm.val_range hm.pos (rW a e (rS a e (invN m 2) t) (t + 1) i)
     have hx7 := hm.mul (rW a e (rS a e (invN m 2) t) (t + 1) i) (invN m 2)
     repeat' first | ((first | (apply zI; refine zP (vLdL (i := i + 1) vIx vAr) ?_) | (apply zI; refine zP (vLdL (i := t - i) (by simp only [place1] at *; omega) vAr) ?_) | (refine And.intro (fun h => ?_) (fun h => ?_) <;> (try simp only [cnt1, ints_length] at h)) | refine zS ?_ | refine zV ?_ | (apply zI; refine zP vObx ?_)) <;> conv => whnf) | fail
     · refine Exists.intro (i + 1) (And.intro vAr (And.intro vAr ?_))
       first | refine WeakS.autoR ?_ | refine Weak.autoR ?_
       conv => whnf
       repeat' ((first | refine z1 ?_ | refine zV ?_ | refine And.intro ?_ ?_ | exact trivial) <;> try (conv => whnf))
       all_goals first
         | exact congrArg dint (tm_Anegmul hm _ _ _)
         | exact tm_Anegmul hm _ _ _
         | (rw [show rW a e (rS a e (invN m 2) t) (t + 1) (i + 1) = rW a e (rS a e (invN m 2) t) (t + 1) i + -((rS a e (invN m 2) t).c (i + 1)) * (rS a e (invN m 2) t).c (t - i) by rw [rW, show t + 1 - (i + 1) = t - i by omega]]; exact tm_Anegmul hm _ _ _)
     · have hit : i = t := by omega
       refine Exists.intro (t + 1) (And.intro vAr (And.intro vAr ?_))
       first | refine WeakS.autoR ?_ | refine Weak.autoR ?_
       conv => whnf
       repeat' ((first | refine z1 ?_ | refine zV ?_ | refine And.intro ?_ ?_ | exact trivial) <;> try (conv => whnf))
       all_goals first
         | omega
         | exact ints_congr' (L_set_eq _ (by rw [tm_mul hm, hit]) (fun k hk => rfl))
   · refine loop_atR Tryz.tabOk mixOrd (α := Nat) (fun i => [(12, dint (rW a e (rS a e (invN m 2) t) (t + 1) i).val), (13, dint ((i : Int) + 1))]) (fun i => []) (fun i => i ≤ t) (fun i => t - i) (0) ?_ ?_ ?_
     · omega
     · conv => whnf
       first | refine WeakS.autoR ?_ | refine Weak.autoR ?_
       conv => whnf
       repeat' ((first | refine z1 ?_ | refine zV ?_ | refine And.intro ?_ ?_ | exact trivial) <;> try (conv => whnf))
       all_goals first
         | (rw [rW, if_pos (by omega)]; done)
         | (rw [rW, if_neg (by omega), if_pos (by omega)]; exact tm_mk hm (by omega))
         | (rw [rW, if_neg (by omega), if_neg (by omega)]; exact Zm.val_zero.symm)
         | (rw [rW, if_neg (by omega), if_neg (by omega)]; rfl)
     intro i hi
     conv => whnf
     have hx3 := Zm.val_range hm.pos ((rS a e (invN m 2) t).c (i + 1))
     have hx4 := Zm.val_range hm.pos ((rS a e (invN m 2) t).c (t - i))
     have hx5 := subM_bd hm ((rS a e (invN m 2) t).c (i + 1)) ((rS a e (invN m 2) t).c (t - i))
     have hx6 := Zm.val_range hm.pos (rW a e (rS a e (invN m 2) t) (t + 1) i)
     have hx7 := hm.mul (rW a e (rS a e (invN m 2) t) (t + 1) i) (invN m 2)
     repeat' first | ((first | (apply zI; refine zP (vLdL (i := i + 1) vIx vAr) ?_) | (apply zI; refine zP (vLdL (i := t - i) (by simp only [place1] at *; omega) vAr) ?_) | (refine And.intro (fun h => ?_) (fun h => ?_) <;> (try simp only [cnt1, ints_length] at h)) | refine zS ?_ | refine zV ?_ | (apply zI; refine zP vObx ?_)) <;> conv => whnf) | fail
     · refine Exists.intro (i + 1) (And.intro vAr (And.intro vAr ?_))
       first | refine WeakS.autoR ?_ | refine Weak.autoR ?_
       conv => whnf
       repeat' ((first | refine z1 ?_ | refine zV ?_ | refine And.intro ?_ ?_ | exact trivial) <;> try (conv => whnf))
       all_goals first
         | exact congrArg dint (tm_Anegmul hm _ _ _)
         | exact tm_Anegmul hm _ _ _
         | (rw [show rW a e (rS a e (invN m 2) t) (t + 1) (i + 1) = rW a e (rS a e (invN m 2) t) (t + 1) i + -((rS a e (invN m 2) t).c (i + 1)) * (rS a e (invN m 2) t).c (t - i) by rw [rW, show t + 1 - (i + 1) = t - i by omega]]; exact tm_Anegmul hm _ _ _)
     · have hit : i = t := by omega
       refine Exists.intro (t + 1) (And.intro vAr (And.intro vAr ?_))
       first | refine WeakS.autoR ?_ | refine Weak.autoR ?_
       conv => whnf
       repeat' ((first | refine z1 ?_ | refine zV ?_ | refine And.intro ?_ ?_ | exact trivial) <;> try (conv => whnf))
       all_goals first
         | omega
         | exact ints_congr' (L_set_eq _ (by rw [tm_mul hm, hit]) (fun k hk => rfl))
 · repeat' first | ((first | refine z0 ?_ | (refine And.intro (fun h => ?_) (fun h => ?_) <;> (try simp only [cnt1, ints_length] at h) <;> first | (exfalso; omega) | skip) | refine zS ?_ | refine zV ?_ | (apply zI; refine zP vObt ?_) | (apply zI; refine zP vObx ?_)) <;> conv => whnf) | fail
   have htn2 : t = n - 1 := by omega
   rw [htn2]
def eT1 (r : PS (Zm m)) : Nat → PS (PS (Zm m))
 | 0 => 0
 | i + 1 => upd2 (eT1 r i) 1 i (r.c i)
def eT2 (r : PS (Zm m)) (d : Nat) : Nat → PS (PS (Zm m))
 | 0 => eT1 r d
 | i + 1 => upd2 (eT2 r d i) i 1 (((eT2 r d i).c i).c 1 + r.c i)
def eP (e : Zm m) : Nat → Zm m
 | 0 => 1
 | k + 1 => eP e k * e
def eF (e : Zm m) : Nat → PS (PS (Zm m))
 | 0 => 0
 | k + 1 => upd2 (eF e k) (2 * k) (2 * k) (eP e k)
theorem c_l08Euler (hm : Md m) (n : Nat) (hn : 2 ≤ n ∧ n ≤ 11) {d : Int} (hd : d + 1 = n) (a e : Zm m) : PureCall Tryz.prog 179 [dint m, dint d, dint a.val, dint e.val] (TbD true true n (eT2 (rS a e (invN m 2) (n - 1)) (n - 1) (n - 1) * eF e ((n + 3) / 4))) := by
 have hm1 := hm.1
 have hm2 := hm.2
 refine pure_of_vcR Tryz.tabOk mixOrd Tryz.func179 rfl rfl ?_
 conv => whnf
 repeat' first | ((first | (apply zI; refine zP (c_l03Zero (m := m) n vAr vAr) ?_) | (apply zI; refine zP (c_l08Root hm n hn hd a e) ?_) | refine Or.inl ?_) <;> conv => whnf) | fail
 generalize rS a e (invN m 2) (n - 1) = r
 refine loop_atR Tryz.tabOk mixOrd (α := Nat) (fun i => [(12, dint i)]) (fun i => [(1, some ⟨false, 1, rows true (Tb n (eT1 r i))⟩)]) (fun i => i + 1 ≤ n) (fun i => n - i) (0) ?_ ?_ ?_
 · omega
 · conv => whnf
   first | refine WeakS.autoR ?_ | refine Weak.autoR ?_
   conv => whnf
   repeat' ((first | refine z1 ?_ | refine zV ?_ | refine And.intro ?_ ?_ | exact trivial) <;> try (conv => whnf))
   all_goals rfl
 intro i hi
 conv => whnf
 repeat' first | ((first | refine z0 ?_ | (refine And.intro (fun h => ?_) (fun h => ?_) <;> (try simp only [cnt1, ints_length] at h)) | refine zS ?_ | refine zV ?_ | (apply zI; refine zP vObt ?_) | (apply zI; refine zP vObx ?_) | refine zA ?_ | refine Alt.fst ?_ | refine Or.inl ?_) <;> conv => whnf) | fail
 · refine Exists.intro (i + 1) (And.intro vAr (And.intro vAr ?_))
   first | refine WeakS.autoR ?_ | refine Weak.autoR ?_
   conv => whnf
   repeat' ((first | refine z1 ?_ | refine zV ?_ | refine And.intro ?_ ?_ | exact trivial) <;> try (conv => whnf))
   exact rows_congr (setT_eq (r.c i) rfl vAr (Ag2.of_eq rfl))
 have hin : i = n - 1 := by omega
 subst hin
 refine loop_atR Tryz.tabOk mixOrd (α := Nat) (fun i => [(13, dint i), (14, .undef)]) (fun i => [(1, some ⟨false, 1, rows true (Tb n (eT2 r (n - 1) i))⟩)]) (fun i => i + 1 ≤ n) (fun i => n - i) (0) ?_ ?_ ?_
 · omega
 · conv => whnf
   first | refine WeakS.autoR ?_ | refine Weak.autoR ?_
   conv => whnf
   repeat' ((first | refine z1 ?_ | refine zV ?_ | refine And.intro ?_ ?_ | exact trivial) <;> try (conv => whnf))
   all_goals rfl
 intro i hi2
 conv => whnf
 have hx1 := Zm.val_range hm.pos (((eT2 r (n - 1) i).c i).c 1)
 have hx2 := Zm.val_range hm.pos (r.c i)
 repeat' first | ((first | refine z0 ?_ | (refine And.intro (fun h => ?_) (fun h => ?_) <;> (try simp only [cnt1, ints_length] at h)) | refine zS ?_ | refine zV ?_ | (apply zI; refine zP vObt ?_) | (apply zI; refine zP vObx ?_) | refine zA ?_ | refine Alt.fst ?_ | refine Or.inl ?_) <;> conv => whnf) | fail
 · refine Exists.intro (i + 1) (And.intro vAr (And.intro vAr ?_))
   first | refine WeakS.autoR ?_ | refine Weak.autoR ?_
   conv => whnf
   repeat' ((first | refine z1 ?_ | refine zV ?_ | refine And.intro ?_ ?_ | exact trivial) <;> try (conv => whnf))
   exact rows_congr (setT_eq _ (tm_add hm _ _) vAr (Ag2.of_eq rfl))
 have hin : i = n - 1 := by omega
 subst hin
 repeat' first | ((first | refine z0 ?_ | (refine And.intro (fun h => ?_) (fun h => ?_) <;> (try simp only [cnt1, ints_length] at h)) | refine zS ?_ | refine zV ?_ | (apply zI; refine zP vObt ?_) | (apply zI; refine zP vObx ?_) | refine zA ?_ | refine Alt.fst ?_ | refine Or.inl ?_) <;> conv => whnf) | fail
 refine loop_atR Tryz.tabOk mixOrd (α := Nat) (fun k => [(15, dint (eP e k).val), (16, dint k)]) (fun k => [(2, some ⟨false, 1, rows true (Tb n (eF e k))⟩)]) (fun k => k ≤ (n + 3) / 4) (fun k => n - k) (0) ?_ ?_ ?_
 · omega
 · conv => whnf
   first | refine WeakS.autoR ?_ | refine Weak.autoR ?_
   conv => whnf
   repeat' ((first | refine z1 ?_ | refine zV ?_ | refine And.intro ?_ ?_ | exact trivial) <;> try (conv => whnf))
   all_goals first | rfl | exact tm_one hm | (rw [tm_one hm]; rfl)
 intro k hk
 conv => whnf
 have hx3 := hm.mul (eP e k) e
 repeat' first | ((first | refine z0 ?_ | (apply zI; refine zP (c_l03Times hm _ _ _ _ n vAr _ _) ?_) | (refine And.intro (fun h => ?_) (fun h => ?_) <;> (try simp only [cnt1, ints_length] at h)) | refine zS ?_ | refine zV ?_ | (apply zI; refine zP vObt ?_) | (apply zI; refine zP vObx ?_) | refine Or.inl ?_) <;> conv => whnf) | fail
 · refine Exists.intro (k + 1) (And.intro vAr (And.intro vAr ?_))
   first | refine WeakS.autoR ?_ | refine Weak.autoR ?_
   conv => whnf
   repeat' ((first | refine z1 ?_ | refine zV ?_ | refine And.intro ?_ ?_ | exact trivial) <;> try (conv => whnf))
   all_goals first
     | exact tm_mul hm _ _
     | exact rows_congr (setT_eq _ rfl vAr (Ag2.of_eq rfl))
     | exact congrArg dint (tm_mul hm _ _)
 have hkn : k = (n + 3) / 4 := by omega
 rw [hkn]
end Go.Proofs
