import Derived.Test.YtndhpcigpghejaaGreatK127
import Derived.Test.YtndhpcigpghejaaGreatK154
import Derived.Test.YtndhpcigpghejaaGreatK22
import Derived.Test.YtndhpcigpghejaaGreatK181
import Derived.Test.YtndhpcigpghejaaGreatK33
namespace Go.Proofs
open Go Go.Vm Go.Fg Go.Fg.PS
set_option maxRecDepth 100000
set_option maxHeartbeats 4000000
set_option linter.unusedSimpArgs false
set_option linter.unusedVariables false
variable {m : Int}
def kM (p d : Int) : Nat := if p * p * p ≤ d then 3 else if p * p ≤ d then 2 else if p ≤ d then 1 else 0
def qP (p : Int) (k : Nat) : Int := if k = 0 then 1 else if k = 1 then p else if k = 2 then p * p else p * p * p
theorem c_l09Most (p dg : Int) (hp : p = 2 ∨ p = 3 ∨ p = 5 ∨ p = 7) (hd : 1 ≤ dg ∧ dg ≤ 10) :
   PureCall Tryz.prog 417 [dint p, dint dg] (.tup [dint (kM p dg), dint (qP p (kM p dg))]) := by
 have key : ∀ k : Nat, k ≤ kM p dg → (qP p k * p ≤ dg ↔ k + 1 ≤ kM p dg) ∧ (1 ≤ qP p k ∧ qP p k ≤ 10) ∧ (k + 1 ≤ kM p dg → qP p (k + 1) = qP p k * p) := by
   intro k hk
   have hk3 : k = 0 ∨ k = 1 ∨ k = 2 ∨ k = 3 := by
     unfold kM at hk
     split at hk <;> (try split at hk) <;> (try split at hk) <;> omega
   unfold kM at hk ⊢
   unfold qP
   rcases hp with rfl | rfl | rfl | rfl <;> rcases hk3 with rfl | rfl | rfl | rfl <;> simp at hk ⊢ <;> (repeat' split) <;> (try split at hk) <;> (try split at hk) <;> (try split at hk) <;> omega
 have hp7 : 2 ≤ p ∧ p ≤ 7 := by omega
 have hk3 : kM p dg ≤ 3 := by
   unfold kM
   split <;> (try split) <;> (try split) <;> omega
 refine pure_of_vcR Tryz.tabOk mixOrd Tryz.func417 rfl rfl ?_
 conv => whnf
 repeat' first | ((first | refine z0 ?_ | (refine And.intro (fun h => ?_) (fun h => ?_) <;> (try simp only [cnt1, ints_length] at h)) | refine zS ?_ | refine zV ?_ | (apply zI; refine zP vObt ?_) | (apply zI; refine zP vObx ?_) | refine zA ?_ | refine Alt.fst ?_ | refine Or.inl ?_) <;> conv => whnf) | fail
 refine loop_atR Tryz.tabOk mixOrd (α := Nat) (fun k => [(6, dint k), (7, dint (qP p k))]) (fun k => []) (fun k => k ≤ kM p dg) (fun k => kM p dg - k) (0) ?_ ?_ ?_
 · omega
 · conv => whnf
   first | refine WeakS.autoR ?_ | refine Weak.autoR ?_
   conv => whnf
   repeat' ((first | refine z1 ?_ | refine z2 ?_ | refine zV ?_ | refine And.intro ?_ ?_ | exact trivial) <;> try (conv => whnf))
 intro k hk
 obtain ⟨k1, k2, k3⟩ := key k hk
 have k4 : 0 ≤ qP p k * p ∧ qP p k * p ≤ 70 := ⟨Int.mul_nonneg (by omega) (by omega), by have := Int.mul_le_mul k2.2 hp7.2 (by omega) (by omega : (0 : Int) ≤ 10); omega⟩
 conv => whnf
 repeat' first | ((first | refine z0 ?_ | (refine And.intro (fun h => ?_) (fun h => ?_) <;> (try simp only [cnt1, ints_length] at h)) | refine zV ?_) <;> conv => whnf) | fail
 · have h : k + 1 ≤ kM p dg := k1.1 vAr
   refine Exists.intro (k + 1) ⟨?_, ?_, ?_⟩
   · exact h
   · omega
   first | refine WeakS.autoR ?_ | refine Weak.autoR ?_
   conv => whnf
   repeat' ((first | refine z1 ?_ | refine z2 ?_ | refine zV ?_ | refine And.intro ?_ ?_ | exact trivial) <;> try (conv => whnf))
   all_goals first | (rw [k3 h]; done) | (simp; done)
 · have h : ¬ qP p k * p ≤ dg := vAr
   have h2 : k = kM p dg := by
     rcases Nat.lt_or_ge k (kM p dg) with h3 | h3
     · exact absurd (k1.2 h3) h
     · omega
   rw [h2]
theorem c_l09Three (o : Bool) (l : List Int) (hl : l.length ≤ 3) : PureCall Tryz.prog 419 [.list o 1 (ints l)] (.list true 1 (ints (l ++ List.replicate (3 - l.length) 0))) := by
 refine pure_of_vcR Tryz.tabOk mixOrd Tryz.func419 rfl rfl ?_
 conv => whnf
 repeat' first | ((first | (apply zI; refine zP (c_l01OwnB _ _ (by omega)) ?_) | refine Or.inl ?_) <;> conv => whnf) | fail
 refine loop_atR Tryz.tabOk mixOrd (α := Nat) (fun j => [(3, .ref 0 [] 1 0 (l.length + j)), (5, .undef)]) (fun j => [(0, some ⟨false, 1, ints (l ++ List.replicate j 0)⟩)]) (fun j => j ≤ 3 - l.length) (fun j => 3 - l.length - j) (0) ?_ ?_ ?_
 · omega
 · conv => whnf
   first | refine WeakS.autoR ?_ | refine Weak.autoR ?_
   conv => whnf
   repeat' ((first | refine z1 ?_ | refine z2 ?_ | refine zV ?_ | refine And.intro ?_ ?_ | exact trivial) <;> try (conv => whnf))
   all_goals simp
 intro j hj
 conv => whnf
 repeat' first | ((first | refine z0 ?_ | (refine And.intro (fun h => ?_) (fun h => ?_) <;> (try simp only [cnt1, ints_length, rows_length, Tb_length, L_length, byts_length] at h) <;> first | (exfalso; first | omega | exact h trivial | (cases h; done)) | skip) | refine zV ?_ | (apply zI; refine zP vObt ?_) | (apply zI; refine zP vObx ?_)) <;> conv => whnf) | fail
 · refine Exists.intro (j + 1) (And.intro (by omega) (And.intro (by omega) ?_))
   first | refine WeakS.autoR ?_ | refine Weak.autoR ?_
   conv => whnf
   repeat' ((first | refine z1 ?_ | refine z2 ?_ | refine zV ?_ | refine And.intro ?_ ?_ | exact trivial) <;> try (conv => whnf))
   all_goals first | omega | (simp [ints, List.replicate_succ']; done)
 · rw [show j = 3 - l.length by omega]
def nuR (P : Zm m) (p : Nat) (v A : PS (Zm m)) (k : Nat) : Nat → Zm m
 | 0 => 0
 | i + 1 => nuR P p v A k i + pw P (k - i) * A.c i * pw (v.c (k - i)) (p ^ i)
def nuA (P : Zm m) (p : Nat) (v : PS (Zm m)) : Nat → PS (Zm m)
 | 0 => (0 : PS (Zm m)).upd 0 1
 | k + 1 => (nuA P p v k).upd (k + 1) (nuR P p v (nuA P p v k) k (k + 1))
theorem c_l09Numerators (hm : Md m) (p : Nat) (hp : 2 ≤ p ∧ p ≤ 7) (o : Bool) (v : PS (Zm m)) : PureCall Tryz.prog 418 [dint p, dint m, LD o 3 v] (LD true 4 (nuA (Zm.mk m p) p v 3)) := by
 have hm1 := hm.1
 have hm2 := hm.2
 have hpe : ∀ i, i ≤ 3 → 1 ≤ p ^ i ∧ p ^ i ≤ 343 := fun i hi => by
   refine ⟨Nat.one_le_pow _ _ (by omega), ?_⟩
   exact Nat.le_trans (Nat.pow_le_pow_left hp.2 i) (Nat.le_trans (Nat.pow_le_pow_right (by omega) hi) (by decide))
 refine pure_of_vcR Tryz.tabOk mixOrd Tryz.func418 rfl rfl ?_
 conv => whnf
 repeat' first | ((first | refine z0 ?_ | (refine And.intro (fun h => ?_) (fun h => ?_) <;> (try simp only [cnt1, ints_length] at h)) | refine zS ?_ | refine zV ?_ | (apply zI; refine zP vObt ?_) | (apply zI; refine zP vObx ?_) | refine zA ?_ | refine Alt.fst ?_ | refine Or.inl ?_) <;> conv => whnf) | fail
 refine loop_atR Tryz.tabOk mixOrd (α := Nat) (fun k => [(8, dint ((k : Int) + 1)), (7, .ref 0 [] 1 0 (k + 1)), (15, .undef)]) (fun k => [(0, some ⟨false, 1, ints (L (k + 1) (nuA (Zm.mk m p) p v k))⟩)]) (fun k => k ≤ 3) (fun k => 3 - k) (0) ?_ ?_ ?_
 · omega
 · conv => whnf
   first | refine WeakS.autoR ?_ | refine Weak.autoR ?_
   conv => whnf
   repeat' ((first | refine z1 ?_ | refine z2 ?_ | refine zV ?_ | refine And.intro ?_ ?_ | exact trivial) <;> try (conv => whnf))
   all_goals first | (rw [tm_one hm]; rfl)
 intro k hk
 conv => whnf
 by_cases hk3 : k < 3
 · repeat' first | ((first | refine z0 ?_ | (refine And.intro (fun h => ?_) (fun h => ?_) <;> (try simp only [cnt1, ints_length, rows_length, Tb_length, L_length, byts_length] at h) <;> first | (exfalso; first | omega | exact h trivial | (cases h; done)) | skip) | refine zV ?_ | (apply zI; refine zP vObt ?_) | (apply zI; refine zP vObx ?_)) <;> conv => whnf) | fail
   refine loop_atR Tryz.tabOk mixOrd (α := Nat) (fun i => [(11, dint i), (9, dint (nuR (Zm.mk m p) p v (nuA (Zm.mk m p) p v k) k i).val), (10, dint ((p ^ i : Nat) : Int))]) (fun i => []) (fun i => i ≤ k + 1) (fun i => k + 1 - i) (0) ?_ ?_ ?_
   · omega
   · conv => whnf
     first | refine WeakS.autoR ?_ | refine Weak.autoR ?_
     conv => whnf
     repeat' ((first | refine z1 ?_ | refine z2 ?_ | refine zV ?_ | refine And.intro ?_ ?_ | exact trivial) <;> try (conv => whnf))
     all_goals first | rfl | (simp [nuR, Zm.val_zero]; done)
   intro i hi
   conv => whnf
   by_cases hik : i < k + 1
   · have h1 := hm.mul (pw (Zm.mk m p) (k - i)) ((nuA (Zm.mk m p) p v k).c i)
     have h2 := hm.mul (pw (Zm.mk m p) (k - i) * (nuA (Zm.mk m p) p v k).c i) (pw (v.c (k - i)) (p ^ i))
     have e1 : ((k : Int) + 1 - i - 1).toNat = k - i := by omega
     have e2 : pw (Zm.mk m (v.c ((k : Int) + 1 - i - 1).toNat).val) (p ^ i) = pw (v.c (k - i)) (p ^ i) := by rw [e1, Zm.mk_val]
     rw [← tm_mul hm, ← e2] at h2
     have h3 := Zm.val_range hm.pos (nuR (Zm.mk m p) p v (nuA (Zm.mk m p) p v k) k i)
     have h4 := hpe i (by omega)
     have h5 : (0 : Int) ≤ ((p ^ i : Nat) : Int) * p ∧ ((p ^ i : Nat) : Int) * p ≤ 2401 := ⟨Int.mul_nonneg (by omega) (by omega), by have := Int.mul_le_mul (show ((p ^ i : Nat) : Int) ≤ 343 by omega) (show (p : Int) ≤ 7 by omega) (by omega) (by omega); omega⟩
     repeat' first | ((first | (apply zI; refine zP (c_l01Pow hm _ (k - i) (by omega) (by omega)) ?_) | (apply zI; refine zP (vLdL (i := i) vIx vAr) ?_) | (apply zI; refine zP (c_l01Pow hm _ (p ^ i) (by omega) rfl) ?_) | (refine And.intro (fun h => ?_) (fun h => ?_) <;> (try simp only [cnt1, ints_length, rows_length, Tb_length, L_length, byts_length] at h) <;> first | (exfalso; first | omega | exact h trivial | (cases h; done)) | skip) | refine zS ?_ | refine zV ?_ | (apply zI; refine zP vObx ?_) | refine Alt.fst ?_ | refine Or.inl ?_) <;> conv => whnf) | fail
     refine Exists.intro (i + 1) ⟨?_, ?_, ?_⟩
     · omega
     · omega
     first | refine WeakS.autoR ?_ | refine Weak.autoR ?_
     conv => whnf
     repeat' ((first | refine z1 ?_ | refine z2 ?_ | refine zV ?_ | refine And.intro ?_ ?_ | exact trivial) <;> try (conv => whnf))
     all_goals first
       | (rw [e2, tm_mul hm, tm_mulA hm]; rfl)
       | (rw [Nat.pow_succ]; simp; done)
   · repeat' first | ((first | refine z0 ?_ | (refine And.intro (fun h => ?_) (fun h => ?_) <;> (try simp only [cnt1, ints_length, rows_length, Tb_length, L_length, byts_length] at h) <;> first | (exfalso; first | omega | exact h trivial | (cases h; done)) | skip) | refine zV ?_ | (apply zI; refine zP vObt ?_) | (apply zI; refine zP vObx ?_)) <;> conv => whnf) | fail
     obtain rfl : i = k + 1 := by omega
     refine Exists.intro (k + 1) ⟨?_, ?_, ?_⟩
     · omega
     · omega
     first | refine WeakS.autoR ?_ | refine Weak.autoR ?_
     conv => whnf
     repeat' ((first | refine z1 ?_ | refine z2 ?_ | refine zV ?_ | refine And.intro ?_ ?_ | exact trivial) <;> try (conv => whnf))
     all_goals first
       | exact ints_congr' (L_push' (fun i hi => by show _ = ((nuA (Zm.mk m p) p v k).upd (k + 1) _).c i; rw [upd_c, if_neg (by omega)]) (by show _ = (((nuA (Zm.mk m p) p v k).upd (k + 1) _).c (k + 1)).val; rw [upd_c, if_pos rfl]))
 · repeat' first | ((first | refine z0 ?_ | (refine And.intro (fun h => ?_) (fun h => ?_) <;> (try simp only [cnt1, ints_length, rows_length, Tb_length, L_length, byts_length] at h) <;> first | (exfalso; first | omega | exact h trivial | (cases h; done)) | skip) | refine zV ?_ | (apply zI; refine zP vObt ?_) | (apply zI; refine zP vObx ?_)) <;> conv => whnf) | fail
   rw [show k = 3 by omega]
theorem c_l01Own2 (hm : Md m) (o p : Bool) (n : Nat) (hn : n ≤ 100) (f : PS (PS (Zm m))) : PureCall Tryz.prog 462 [TbD o p n f] (TbD true true n f) := by
 have hT : ∀ i, i < n → (Tb n f).take i ++ [L (n - i) (f.c i)] = (Tb n f).take (i + 1) := fun i hi => Tb_take_push _ hi rfl
 refine pure_of_vcR Tryz.tabOk mixOrd Tryz.func462 rfl rfl ?_
 conv => whnf
 repeat' first | ((first | refine z0 ?_ | (refine And.intro (fun h => ?_) (fun h => ?_) <;> (try simp only [cnt1, ints_length] at h)) | refine zS ?_ | refine zV ?_ | (apply zI; refine zP vObt ?_) | (apply zI; refine zP vObx ?_) | refine zA ?_ | refine Alt.fst ?_ | refine Or.inl ?_) <;> conv => whnf) | fail
 refine loop_atR Tryz.tabOk mixOrd (α := Nat) (fun i => [(4, dint i), (3, .ref 0 [] 1 0 i), (5, .undef)]) (fun i => [(0, some ⟨false, 1, rows true ((Tb n f).take i)⟩)]) (fun i => i ≤ n) (fun i => n - i) (0) ?_ ?_ ?_
 · omega
 · conv => whnf
   first | refine WeakS.autoR ?_ | refine Weak.autoR ?_
   conv => whnf
   repeat' ((first | refine z1 ?_ | refine z2 ?_ | refine zV ?_ | refine And.intro ?_ ?_ | exact trivial) <;> try (conv => whnf))
 intro i hi
 conv => whnf
 repeat' first | ((first | refine z0 ?_ | (apply zI; refine zP (c_l01OwnB _ _ (by rw [L_length]; omega)) ?_) | (refine And.intro (fun h => ?_) (fun h => ?_) <;> (try simp only [cnt1, ints_length, rows_length, Tb_length, L_length, byts_length] at h) <;> first | (exfalso; first | omega | exact h trivial | (cases h; done)) | skip) | refine zV ?_ | (apply zI; refine zP vObx ?_) | (refine And.intro ((by simp; omega)) ?_) | refine Or.inl ?_) <;> conv => whnf) | fail
 · have hik : i < n := by omega
   refine Exists.intro (i + 1) (And.intro (by omega) (And.intro (by omega) ?_))
   first | refine WeakS.autoR ?_ | refine Weak.autoR ?_
   conv => whnf
   repeat' ((first | refine z1 ?_ | refine z2 ?_ | refine zV ?_ | refine And.intro ?_ ?_ | exact trivial) <;> try (conv => whnf))
   exact rows_congr (hT i hik)
 · have e : i = n := by omega
   subst e
   exact congrArg (D.list true 1) (rows_congr (List.take_of_length_le (by simp)))
theorem c_l09Power (hm : Md m) (o p : Bool) (n : Nat) (hn : 1 ≤ n ∧ n ≤ 100) (f : PS (PS (Zm m))) (K : Nat) (hK : 2 ≤ K ∧ K ≤ 1000) {Z : Int} (hZ : Z = K) : PureCall Tryz.prog 463 [dint m, TbD o p n f, dint Z] (TbD true true n (pw f K)) := by
 subst hZ
 refine pure_of_vcR Tryz.tabOk mixOrd Tryz.func463 rfl rfl ?_
 conv => whnf
 repeat' first | ((first | refine z0 ?_ | (refine And.intro (fun h => ?_) (fun h => ?_) <;> (try simp only [cnt1, ints_length] at h)) | refine zS ?_ | refine zV ?_ | (apply zI; refine zP vObt ?_) | (apply zI; refine zP vObx ?_) | refine zA ?_ | refine Alt.fst ?_ | refine Or.inl ?_) <;> conv => whnf) | fail
 refine loop_peelV Tryz.tabOk mixOrd ?_
 conv => whnf
 repeat' first | ((first | refine z0 ?_ | (apply zI; refine zP (c_l03Times hm _ _ _ _ n vAr _ _) ?_) | (refine And.intro (fun h => ?_) (fun h => ?_) <;> (try simp only [cnt1, ints_length, rows_length, Tb_length, L_length, byts_length] at h) <;> first | (exfalso; first | omega | exact h trivial | (cases h; done)) | skip) | refine zV ?_ | (apply zI; refine zP vObt ?_) | (apply zI; refine zP vObx ?_) | refine Or.inl ?_) <;> conv => whnf) | fail
 refine loop_atR Tryz.tabOk mixOrd (α := Nat) (fun j => [(2, dint ((K : Int) - 1 - j)), (7, .ref 0 [] 1 0 n), (16, .undef)]) (fun j => [(0, some ⟨false, 1, rows true (Tb n (pw f (j + 2)))⟩)]) (fun j => j + 2 ≤ K) (fun j => K - j) (0) ?_ ?_ ?_
 · omega
 · conv => whnf
   first | refine WeakS.autoR ?_ | refine Weak.autoR ?_
   conv => whnf
   repeat' ((first | refine z1 ?_ | refine z2 ?_ | refine zV ?_ | refine And.intro ?_ ?_ | exact trivial) <;> try (conv => whnf))
   all_goals first | (rw [pw_succ, pw_one]; done) | (rw [cnt1, rows_length, Tb_length]; done) | omega
 intro j hj
 conv => whnf
 repeat' first | ((first | refine z0 ?_ | (apply zI; refine zP (c_l03Times hm _ _ _ _ n vAr _ _) ?_) | (refine And.intro (fun h => ?_) (fun h => ?_) <;> (try simp only [cnt1, ints_length, rows_length, Tb_length, L_length, byts_length] at h) <;> first | (exfalso; first | omega | exact h trivial | (cases h; done)) | skip) | refine zV ?_ | (apply zI; refine zP vObt ?_) | (apply zI; refine zP vObx ?_) | refine Or.inl ?_) <;> conv => whnf) | fail
 · refine Exists.intro (j + 1) ⟨?_, ?_, ?_⟩
   · omega
   · omega
   first | refine WeakS.autoR ?_ | refine Weak.autoR ?_
   conv => whnf
   repeat' ((first | refine z1 ?_ | refine z2 ?_ | refine zV ?_ | refine And.intro ?_ ?_ | exact trivial) <;> try (conv => whnf))
 · rw [show j + 2 = K by omega]
def dfE (e : Nat) (H : PS (PS (Zm m))) : PS (PS (Zm m)) := upd2 (upd2 H e 0 ((H.c e).c 0 - 1)) 0 e ((H.c 0).c e - 1)
def rsS (p most : Nat) (P : Zm m) (A : PS (Zm m)) (F : PS (PS (Zm m))) : Nat → PS (PS (Zm m))
 | 0 => 0
 | k + 1 => rsS p most P A F k + PS.C (PS.C (pw P (most - k) * A.c k)) * dfE (p ^ k) (pw F (p ^ k))
theorem c_l09Rest (hm : Md m) (p : Nat) (hp : 2 ≤ p ∧ p ≤ 7) (most : Nat) (hmo : most ≤ 3) (hpm : p ^ most ≤ 10) (n : Nat) (hn : 2 ≤ n ∧ n ≤ 11) (o1 o2 p2 : Bool) (A : PS (Zm m)) (F : PS (PS (Zm m))) :
   PureCall Tryz.prog 420 [dint p, dint m, dint most, LD o1 4 A, TbD o2 p2 n F] (TbD true true n (rsS p most (Zm.mk m p) A F (most + 1))) := by
 have hm1 := hm.1
 have hm2 := hm.2
 have hpe : ∀ i, i ≤ most → 1 ≤ p ^ i ∧ p ^ i ≤ 10 := fun i hi => ⟨Nat.one_le_pow _ _ (by omega), Nat.le_trans (Nat.pow_le_pow_right (by omega) hi) hpm⟩
 refine pure_of_vcR Tryz.tabOk mixOrd Tryz.func420 rfl rfl ?_
 conv => whnf
 repeat' first | ((first | (apply zI; refine zP (c_l03Zero (m := m) n vAr vAr) ?_) | (refine And.intro (fun h => ?_) (fun h => ?_) <;> (try simp only [cnt1, ints_length] at h)) | refine zV ?_ | (apply zI; refine zP vObt ?_) | (apply zI; refine zP vObx ?_) | refine Or.inl ?_) <;> conv => whnf) | fail
 refine loop_peelV Tryz.tabOk mixOrd ?_
 conv => whnf
 repeat' first | ((first | refine Or.inr (inl_ofR Tryz.tabOk mixOrd _ Tryz.func463 rfl rfl ?_) | (refine And.intro (fun h => ?_) (fun h => ?_) <;> (try simp only [cnt1, ints_length, rows_length, Tb_length, L_length, byts_length] at h) <;> first | (exfalso; first | omega | exact h trivial | (cases h; done)) | skip) | refine Or.inl ?_) <;> conv => whnf) | fail
 refine loop_peelV Tryz.tabOk mixOrd ?_
 conv => whnf
 have hx1 := Zm.val_range hm.pos ((F.c 1).c 0)
 have hx2 := Zm.val_range hm.pos ((F.c 0).c 1)
 repeat' first | ((first | refine z0 ?_ | (apply zI; refine zP (c_l01Own2 hm _ _ n (by omega) _) ?_) | (apply zI; refine zP (c_l01Mod _ _ hm.pos (by omega)) ?_) | (refine And.intro (fun h => ?_) (fun h => ?_) <;> (try simp only [cnt1, ints_length, rows_length, Tb_length, L_length, byts_length] at h) <;> first | (exfalso; first | omega | exact h trivial | (cases h; done)) | skip) | refine zS ?_ | refine zV ?_ | (apply zI; refine zP vObt ?_) | (apply zI; refine zP vObx ?_) | refine Or.inl ?_) <;> conv => whnf) | fail
 rw [show setT (Tb n F) 1 0 ((((F.c 1).c 0).val - 1) % m) = Tb n (upd2 F 1 0 ((F.c 1).c 0 - 1)) from setT_eq _ (Zm.emod_val (by rw [Zm.mk_sub, Zm.mk_val]; rfl)) (by omega) Ag2.rfl]
 have e01 : ((upd2 F 1 0 ((F.c 1).c 0 - 1)).c 0).c 1 = (F.c 0).c 1 := by rw [upd2_cc, if_neg (by omega)]
 have hx3 := hx2
 rw [← e01] at hx3
 have hT2 : setT (Tb n (upd2 F 1 0 ((F.c 1).c 0 - 1))) 0 1 (((((upd2 F 1 0 ((F.c 1).c 0 - 1)).c 0).c 1).val - 1) % m) = Tb n (dfE 1 F) := setT_eq _ (Zm.emod_val (by rw [Zm.mk_sub, Zm.mk_val]; try rfl)) (by omega) (Ag2.of_eq (by rw [e01]; try rfl))
 have hx4 := hm.mul (pw (Zm.mk m p) most) (A.c 0)
 repeat' first | ((first | (apply zI; refine zP (c_l01Mod _ _ hm.pos (by omega)) ?_) | (apply zI; refine zP (c_l01Pow hm _ most (by omega) (by omega)) ?_) | (refine And.intro (fun h => ?_) (fun h => ?_) <;> (try simp only [cnt1, ints_length, rows_length, Tb_length, L_length, byts_length] at h) <;> first | (exfalso; first | omega | exact h trivial | (cases h; done)) | skip) | refine zV ?_ | (apply zI; refine zP vObt ?_) | (apply zI; refine zP vObx ?_) | refine zA ?_ | refine Or.inl ?_) <;> conv => whnf) | fail
 rw [hT2]
 have hsc : PureCall Tryz.prog 350 [dint m, dint (((pw (Zm.mk m p) most).val * (A.c 0).val).tmod m), .list false 1 (sub (rows true (Tb n (dfE 1 F))) 1 0 (cnt 1 (rows true (Tb n F))))] (TbD true true n (PS.C (PS.C (pw (Zm.mk m p) most * A.c 0)) * dfE 1 F)) := by
   rw [sub_rows (by simp [cnt1])]
   exact c_l03Scale hm _ _ n (by omega) _ (tm_mul hm _ _) _
 repeat' first | ((first | (apply zI; refine zP (hsc) ?_) | (apply zI; refine zP (c_l03Add hm _ _ _ _ n (by omega) _ _) ?_) | refine zV ?_ | (apply zI; refine zP vObt ?_) | (apply zI; refine zP vObx ?_) | refine Or.inl ?_) <;> conv => whnf) | fail
 refine loop_atR Tryz.tabOk mixOrd (α := Nat) (fun k => [(14, dint ((k : Int) + 1)), (13, dint ((p ^ (k + 1) : Nat) : Int)), (12, .ref 0 [] 1 0 n), (15, .undef), (16, .undef), (17, .undef), (23, .undef)]) (fun k => [(0, some ⟨false, 1, rows true (Tb n (rsS p most (Zm.mk m p) A F (k + 1)))⟩), (1, none), (2, none), (3, none), (4, none), (5, none), (6, none)]) (fun k => k ≤ most) (fun k => most - k) (0) ?_ ?_ ?_
 · omega
 · conv => whnf
   first | refine WeakS.autoR ?_ | refine Weak.autoR ?_
   conv => whnf
   repeat' ((first | refine z1 ?_ | refine z2 ?_ | refine zV ?_ | refine And.intro ?_ ?_ | exact trivial) <;> try (conv => whnf))
   all_goals first
     | exact rows_congr (congrArg (Tb n) (by show _ = 0 + PS.C (PS.C (pw (Zm.mk m p) (most - 0) * A.c 0)) * dfE (p ^ 0) (pw F (p ^ 0)); rw [Nat.pow_zero, pw_one, Nat.sub_zero]))
 intro k hk
 conv => whnf
 by_cases hkm : k + 1 ≤ most
 · have he1 := hpe (k + 1) hkm
   have he2 : 2 ≤ p ^ (k + 1) := by
     rw [Nat.pow_succ]
     exact Nat.le_trans hp.1 (Nat.le_mul_of_pos_left _ (Nat.pow_pos (by omega)))
   have he3 : ((p ^ (k + 1) : Nat) : Int) * p = ((p ^ (k + 1 + 1) : Nat) : Int) := by rw [← Int.natCast_mul, ← Nat.pow_succ]
   have he4 : p ^ (k + 1 + 1) ≤ 70 := by
     rw [Nat.pow_succ]
     exact Nat.mul_le_mul he1.2 hp.2
   have hrs : rsS p most (Zm.mk m p) A F (k + 1 + 1) = rsS p most (Zm.mk m p) A F (k + 1) + PS.C (PS.C (pw (Zm.mk m p) (most - (k + 1)) * A.c (k + 1))) * dfE (p ^ (k + 1)) (pw F (p ^ (k + 1))) := rfl
   generalize hE2 : p ^ (k + 1 + 1) = e2 at *
   generalize p ^ (k + 1) = e at *
   generalize hH : pw F e = H at *
   have hpo := fun o p => c_l09Power hm o p n (by omega) F e (by omega) rfl
   rw [hH] at hpo
   have hx1 := Zm.val_range hm.pos ((H.c e).c 0)
   have hx2 := Zm.val_range hm.pos ((H.c 0).c e)
   have hx7 := hm.mul (pw (Zm.mk m p) (most - (k + 1))) (A.c (k + 1))
   have hkk : (k : Int) + 1 = ((k + 1 : Nat) : Int) := by omega
   repeat' first | ((first | (apply zI; refine zP (hpo _ _) ?_) | (apply zI; refine zP (c_l01Own2 hm _ _ n (by omega) _) ?_) | (apply zI; refine zP (c_l01Mod _ _ hm.pos (by omega)) ?_) | (apply zI; refine zP (c_l01Pow hm _ (most - (k + 1)) (by omega) (by omega)) ?_) | (refine And.intro (fun h => ?_) (fun h => ?_) <;> (try simp only [cnt1, ints_length, rows_length, Tb_length, L_length, byts_length] at h) <;> first | (exfalso; first | omega | exact h trivial | (cases h; done)) | skip) | refine zS ?_ | refine zV ?_ | (apply zI; refine zP vObt ?_) | (apply zI; refine zP vObx ?_) | refine Or.inl ?_) <;> conv => whnf) | fail
   · rw [show setT (Tb n H) e 0 ((((H.c e).c 0).val - 1) % m) = Tb n (upd2 H e 0 ((H.c e).c 0 - 1)) from setT_eq _ (Zm.emod_val (by rw [Zm.mk_sub, Zm.mk_val]; rfl)) (by omega) Ag2.rfl]
     have e01 : ((upd2 H e 0 ((H.c e).c 0 - 1)).c 0).c e = (H.c 0).c e := by rw [upd2_cc, if_neg (by omega)]
     have hx3 := hx2
     rw [← e01] at hx3
     have hT2 : setT (Tb n (upd2 H e 0 ((H.c e).c 0 - 1))) 0 e (((((upd2 H e 0 ((H.c e).c 0 - 1)).c 0).c e).val - 1) % m) = Tb n (dfE e H) := setT_eq _ (Zm.emod_val (by rw [Zm.mk_sub, Zm.mk_val]; try rfl)) (by omega) (Ag2.of_eq (by rw [e01]; try rfl))
     repeat' first | ((first | (apply zI; refine zP (c_l01Mod _ _ hm.pos (by omega)) ?_) | (apply zI; refine zP (c_l01Pow hm _ (most - (k + 1)) (by omega) (by omega)) ?_) | (refine And.intro (fun h => ?_) (fun h => ?_) <;> (try simp only [cnt1, ints_length, rows_length, Tb_length, L_length, byts_length] at h) <;> first | (exfalso; first | omega | exact h trivial | (cases h; done)) | skip) | refine zV ?_ | (apply zI; refine zP vObt ?_) | (apply zI; refine zP vObx ?_) | refine zA ?_ | refine Or.inl ?_) <;> conv => whnf) | fail
     rw [hT2]
     have hsc : PureCall Tryz.prog 350 [dint m, dint (((pw (Zm.mk m p) (most - (k + 1))).val * (A.c (k + 1)).val).tmod m), .list false 1 (sub (rows true (Tb n (dfE e H))) 1 0 (cnt 1 (rows true (Tb n H))))] (TbD true true n (PS.C (PS.C (pw (Zm.mk m p) (most - (k + 1)) * A.c (k + 1))) * dfE e H)) := by
       rw [sub_rows (by simp [cnt1])]
       exact c_l03Scale hm _ _ n (by omega) _ (tm_mul hm _ _) _
     repeat' first | ((first | (apply zI; refine zP (hsc) ?_) | (apply zI; refine zP (c_l03Add hm _ _ _ _ n (by omega) _ _) ?_) | refine zV ?_ | (apply zI; refine zP vObt ?_) | (apply zI; refine zP vObx ?_) | refine Or.inl ?_) <;> conv => whnf) | fail
     refine Exists.intro (k + 1) ⟨?_, ?_, ?_⟩
     · omega
     · omega
     first | refine WeakS.autoR ?_ | refine Weak.autoR ?_
     conv => whnf
     repeat' ((first | refine z1 ?_ | refine z2 ?_ | refine zV ?_ | refine And.intro ?_ ?_ | exact trivial) <;> try (conv => whnf))
     all_goals first
       | rfl
       | exact rows_congr (congrArg (Tb n) hrs.symm)
       | (rw [he3, hE2]; done)
       | (simp only [he3]; done)
       | (simp; done)
       | omega
   · have hag : Tb n H = Tb n (dfE e H) := Tb_congr (fun i j hij => by
       unfold dfE
       rw [upd2_cc, if_neg (by omega), upd2_cc, if_neg (by omega)])
     have hsc : PureCall Tryz.prog 350 [dint m, dint (((pw (Zm.mk m p) (most - (k + 1))).val * (A.c (k + 1)).val).tmod m), .list false 1 (rows true (Tb n H))] (TbD true true n (PS.C (PS.C (pw (Zm.mk m p) (most - (k + 1)) * A.c (k + 1))) * dfE e H)) := by
       rw [hag]
       exact c_l03Scale hm _ _ n (by omega) _ (tm_mul hm _ _) _
     repeat' first | ((first | (apply zI; refine zP (hsc) ?_) | (apply zI; refine zP (c_l03Add hm _ _ _ _ n (by omega) _ _) ?_) | refine zV ?_ | (apply zI; refine zP vObt ?_) | (apply zI; refine zP vObx ?_) | refine Or.inl ?_) <;> conv => whnf) | fail
     refine Exists.intro (k + 1) ⟨?_, ?_, ?_⟩
     · omega
     · omega
     first | refine WeakS.autoR ?_ | refine Weak.autoR ?_
     conv => whnf
     repeat' ((first | refine z1 ?_ | refine z2 ?_ | refine zV ?_ | refine And.intro ?_ ?_ | exact trivial) <;> try (conv => whnf))
     all_goals first
       | rfl
       | exact rows_congr (congrArg (Tb n) hrs.symm)
       | (rw [he3, hE2]; done)
       | (simp only [he3]; done)
       | (simp; done)
       | omega
 · repeat' first | ((first | refine z0 ?_ | (refine And.intro (fun h => ?_) (fun h => ?_) <;> (try simp only [cnt1, ints_length, rows_length, Tb_length, L_length, byts_length] at h) <;> first | (exfalso; first | omega | exact h trivial | (cases h; done)) | skip) | refine zV ?_ | (apply zI; refine zP vObt ?_) | (apply zI; refine zP vObx ?_)) <;> conv => whnf) | fail
   rw [show k = most by omega]
end Go.Proofs
