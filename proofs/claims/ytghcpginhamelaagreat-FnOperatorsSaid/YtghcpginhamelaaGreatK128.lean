/- Parts of the proof. -/
import Derived.Test.YtghcpginhamelaaGreatK154
import Derived.Test.YtghcpginhamelaaGreatK112
namespace Go.Proofs
open Go Go.Vm Go.Fg Go.Fg.PS
set_option maxRecDepth 100000
set_option maxHeartbeats 4000000
set_option linter.unusedSimpArgs false
set_option linter.unusedVariables false
variable {m : Int}
def cS (n : Nat) (z : Zm m) : PS (PS (Zm m)) := if 2 < n then cY (cY (cY 0 1 0 1) 0 1 1) 1 1 z else cY (cY 0 1 0 1) 0 1 1
def nH (c : Zm m) : Nat → Zm m
 | 0 => 1
 | k + 1 => nH c k * -c
def hO (c : Zm m) : Nat → PS (PS (Zm m))
 | 0 => 0
 | k + 1 => cY (cY (hO c k) (k + 1) k (nH c k)) k (k + 1) (nH c k)
theorem vH (hm : Md m) : (1 : Int).tmod m = (1 : Zm m).val := by
 rw [Zm.val_one (by have := hm.1; omega)]
 have := hm.1
 rw [Int.tmod_eq_of_lt (by omega) (by omega)]
theorem nN (hm : Md m) {x : Int} (hx : 0 ≤ x) : x.tmod m = (Zm.mk m x).val := by
 rw [Int.tmod_eq_emod_of_nonneg hx]; rfl
theorem Agj (hm : Md m) (x c : Zm m) : (x.val * (m - c.val)).tmod m = (x * -c).val := by
 rw [Int.mul_comm, N0 hm, CR.mul_comm c x]
 congr 1
 exact (Go.Fg.mul_neg x c).symm
theorem Ank {x y : Int} (hx : 0 ≤ x ∧ x ≤ 10000) (hy : 0 ≤ y ∧ y ≤ 10000) : 0 ≤ x * y ∧ x * y ≤ 100000000 :=
 ⟨Int.mul_nonneg hx.1 hy.1, by have := Int.mul_le_mul hx.2 hy.2 hy.1 (by omega : (0 : Int) ≤ 10000); omega⟩
theorem nR (hm : Md m) (w x y : Zm m) : (w.val + (m - x.val) * y.val).tmod m = (w + -x * y).val := by
 have h1 := sP hm x y
 have h2 := Zm.val_range hm.pos w
 exact Zm.tmod_val (by omega) (by rw [Zm.mk_add, Zm.mk_mul, Zm.mk_sub, Zm.mk_val, Zm.mk_val, Zm.mk_val, Zm.mk_self, Go.Fg.sub_def, CR.zero_add])
theorem tH {n q i : Nat} {a : PS (Zm m)} (e : q = i) (h : i < n) : eW (ints (L n a)) [] q (aA (a.c i).val) := by
 subst e; exact ⟨_, rfl, by simp [ints, L, h]⟩
theorem W1 (hm : Md m) (n : Nat) (hn : 2 ≤ n ∧ n ≤ 11) {d : Int} (hd : d + 1 = n) (z : Zm m) : aI Tryz.prog 98 [aA m, aA d, aA z.val] (dK true true n (cS n z)) := by
 have hm1 := hm.1
 have hm2 := hm.2
 refine aU Tryz.tabOk aF Tryz.func98 rfl rfl ?_
 conv => whnf
 repeat' first | ((first | (apply zI; refine zP (mZ (m := m) n aD aD) ?_) | (refine zP (fun h => ?_) (fun h => ?_) <;> (try simp only [aB, aE] at h)) | refine zV ?_ | (apply zI; refine zP aM ?_) | (apply zI; refine zP aG ?_) | refine Or.inl ?_) <;> conv => whnf) | fail
 have h1 : (1 : Int) = (1 : Zm m).val := (Zm.val_one (by omega)).symm
 rw [show eG (Tb n (0 : PS (PS (Zm m)))) 1 0 1 = Tb n (cY 0 1 0 1) from fM (1 : Zm m) h1 (by omega) (aW.of_eq rfl)]
 repeat' first | ((first | refine z0 ?_ | (refine zP (fun h => ?_) (fun h => ?_) <;> (try simp only [aB, aE] at h)) | refine zS ?_ | refine zV ?_ | (apply zI; refine zP aM ?_) | (apply zI; refine zP aG ?_) | refine zA ?_ | refine Alt.fst ?_ | refine Or.inl ?_) <;> conv => whnf) | fail
 · rw [show eG (Tb n (cY (0 : PS (PS (Zm m))) 1 0 1)) 0 1 1 = Tb n (cY (cY 0 1 0 1) 0 1 1) from fM (1 : Zm m) h1 (by omega) (aW.of_eq rfl)]
   repeat' first | ((first | refine z0 ?_ | (refine zP (fun h => ?_) (fun h => ?_) <;> (try simp only [aB, aE] at h)) | refine zS ?_ | refine zV ?_ | (apply zI; refine zP aM ?_) | (apply zI; refine zP aG ?_) | refine zA ?_ | refine Alt.fst ?_ | refine Or.inl ?_) <;> conv => whnf) | fail
   have h2 : 2 < n := by omega
   exact sI (fM z rfl (by omega) (aW.of_eq (by rw [cS, if_pos h2])))
 · have h2 : ¬ 2 < n := by omega
   exact sI (fM (1 : Zm m) h1 (by omega) (aW.of_eq (by rw [cS, if_neg h2])))
theorem Aoe (hm : Md m) (n : Nat) (hn : 2 ≤ n ∧ n ≤ 11) {d : Int} (hd : d + 1 = n) (c : Zm m) : aI Tryz.prog 104 [aA m, aA d, aA c.val] (dK true true n (hO c (n / 2))) := by
 have hm1 := hm.1
 have hm2 := hm.2
 refine aU Tryz.tabOk aF Tryz.func104 rfl rfl ?_
 conv => whnf
 repeat' first | ((first | (apply zI; refine zP (mZ (m := m) n aD aD) ?_) | (refine zP (fun h => ?_) (fun h => ?_) <;> (try simp only [aB, aE] at h)) | refine zV ?_ | (apply zI; refine zP aM ?_) | (apply zI; refine zP aG ?_) | refine Or.inl ?_) <;> conv => whnf) | fail
 refine aZ Tryz.tabOk aF (α := Nat) (fun k => [(8, aA (nH c k).val), (9, aA k)]) (fun k => [(0, some ⟨false, 1, rows true (Tb n (hO c k))⟩)]) (fun k => k ≤ n / 2) (fun k => n - k) (0) ?_ ?_ ?_
 · omega
 · conv => whnf
   first | refine aH.autoR ?_ | refine aC.autoR ?_
   conv => whnf
   repeat' ((first | refine z1 ?_ | refine zV ?_ | refine zP ?_ ?_ | exact trivial) <;> try (conv => whnf))
   all_goals first | exact vH hm | (rw [vH hm]; rfl) | (simp [vH hm, nH]; done)
 intro k hk
 conv => whnf
 have hx1 := Zm.val_range hm.pos (nH c k)
 have hx2 := Zm.val_range hm.pos c
 have hx3 := Ank (x := (nH c k).val) (y := m - c.val) (by omega) (by omega)
 repeat' first | ((first | refine z0 ?_ | (refine zP (fun h => ?_) (fun h => ?_) <;> (try simp only [aB, aE] at h)) | refine zS ?_ | refine zV ?_ | (apply zI; refine zP aM ?_) | (apply zI; refine zP aG ?_) | refine zA ?_ | refine Alt.fst ?_ | refine Or.inl ?_) <;> conv => whnf) | fail
 · have hk2 : 2 * k + 1 < n := by omega
   rw [show eG (Tb n (hO c k)) (k + 1) k (nH c k).val = Tb n (cY (hO c k) (k + 1) k (nH c k)) from fM _ rfl (by omega) (aW.of_eq rfl)]
   repeat' first | ((first | refine z0 ?_ | (refine zP (fun h => ?_) (fun h => ?_) <;> (try simp only [aB, aE] at h)) | refine zS ?_ | refine zV ?_ | (apply zI; refine zP aM ?_) | (apply zI; refine zP aG ?_) | refine zA ?_ | refine Alt.fst ?_ | refine Or.inl ?_) <;> conv => whnf) | fail
   refine Exists.intro (k + 1) (zP aD (zP aD ?_))
   first | refine aH.autoR ?_ | refine aC.autoR ?_
   conv => whnf
   repeat' ((first | refine z1 ?_ | refine zV ?_ | refine zP ?_ ?_ | exact trivial) <;> try (conv => whnf))
   all_goals first
     | exact congrArg aA (Agj hm _ _)
     | exact cC (fM _ rfl (by omega) (aW.of_eq rfl))
     | exact Agj hm _ _
 · have hk2 : k = n / 2 := by omega
   rw [hk2]
def rW (a e : Zm m) (s : PS (Zm m)) (k : Nat) : Nat → Zm m
 | 0 => if k = 4 then e else if k = 2 then Zm.mk m (2 * m - 2 * a.val) else 0
 | i + 1 => rW a e s k i + -(s.c (i + 1)) * s.c (k - (i + 1))
def rS (a e h : Zm m) : Nat → PS (Zm m)
 | 0 => (0 : PS (Zm m)).upd 0 1
 | t + 1 => (rS a e h t).upd (t + 1) (rW a e (rS a e h t) (t + 1) t * h)
theorem Ak2 (hm : Md m) (n : Nat) (hn : 2 ≤ n ∧ n ≤ 11) {d : Int} (hd : d + 1 = n) (a e : Zm m) : aI Tryz.prog 222 [aA m, aA d, aA a.val, aA e.val] (LD true n (rS a e (bA m 2) (n - 1))) := by
 have hm1 := hm.1
 have hm2 := hm.2
 refine aU Tryz.tabOk aF Tryz.func222 rfl rfl ?_
 conv => whnf
 repeat' first | ((first | (apply zI; refine zP (I9 hm 2) ?_) | refine zS ?_ | refine zV ?_ | (apply zI; refine zP aG ?_) | refine Alt.fst ?_ | refine Or.inl ?_) <;> conv => whnf) | fail
 refine aZ Tryz.tabOk aF (α := Nat) (fun t => [(11, aA ((t : Int) + 1)), (10, .ref 1 [] 1 0 n), (18, .undef), (19, .undef), (20, .undef)]) (fun t => [(1, some ⟨false, 1, ints (L n (rS a e (bA m 2) t))⟩)]) (fun t => t + 1 ≤ n) (fun t => n - t) (0) ?_ ?_ ?_
 · omega
 · conv => whnf
   first | refine aH.autoR ?_ | refine aC.autoR ?_
   conv => whnf
   repeat' ((first | refine z1 ?_ | refine zV ?_ | refine zP ?_ ?_ | exact trivial) <;> try (conv => whnf))
   all_goals first
     | omega
     | exact cJ (by rw [show (d + 1).toNat = n by omega, ← fU (m := m)]; exact dX (1 : Zm m) (Zm.val_one (by omega)).symm (fun k hk => by rw [bY]; rfl))
 intro t ht
 conv => whnf
 have hx1 := Zm.val_range hm.pos a
 have hx2 := Zm.val_range hm.pos e
 by_cases htn : t + 1 < n
 · repeat' first | ((first | refine z0 ?_ | (refine zP (fun h => ?_) (fun h => ?_) <;> (try simp only [aB, aE] at h) <;> first | (exfalso; omega) | skip) | refine zS ?_ | refine zV ?_ | (apply zI; refine zP aM ?_) | (apply zI; refine zP aG ?_)) <;> conv => whnf) | fail
   · refine aZ Tryz.tabOk aF (α := Nat) (fun i => [(12, aA (rW a e (rS a e (bA m 2) t) (t + 1) i).val), (13, aA ((i : Int) + 1))]) (fun i => []) (fun i => i ≤ t) (fun i => t - i) (0) ?_ ?_ ?_
     · omega
     · conv => whnf
       first | refine aH.autoR ?_ | refine aC.autoR ?_
       conv => whnf
       repeat' ((first | refine z1 ?_ | refine zV ?_ | refine zP ?_ ?_ | exact trivial) <;> try (conv => whnf))
       all_goals first
         | (rw [rW, if_pos (by omega)]; done)
         | (rw [rW, if_neg (by omega), if_pos (by omega)]; exact nN hm (by omega))
         | (rw [rW, if_neg (by omega), if_neg (by omega)]; exact Zm.val_zero.symm)
         | (rw [rW, if_neg (by omega), if_neg (by omega)]; rfl)
     intro i hi
     conv => whnf
     have hx3 := Zm.val_range hm.pos ((rS a e (bA m 2) t).c (i + 1))
     have hx4 := Zm.val_range hm.pos ((rS a e (bA m 2) t).c (t - i))
     have hx5 := sP hm ((rS a e (bA m 2) t).c (i + 1)) ((rS a e (bA m 2) t).c (t - i))
     have hx6 := Zm.val_range hm.pos (rW a e (rS a e (bA m 2) t) (t + 1) i)
     have hx7 := hm.mul (rW a e (rS a e (bA m 2) t) (t + 1) i) (bA m 2)
     repeat' first | ((first | (apply zI; refine zP (tH (i := i + 1) aY aD) ?_) | (apply zI; refine zP (tH (i := t - i) (by simp only [kR] at *; omega) aD) ?_) | (refine zP (fun h => ?_) (fun h => ?_) <;> (try simp only [aB, aE] at h)) | refine zS ?_ | refine zV ?_ | (apply zI; refine zP aG ?_)) <;> conv => whnf) | fail
     · refine Exists.intro (i + 1) (zP aD (zP aD ?_))
       first | refine aH.autoR ?_ | refine aC.autoR ?_
       conv => whnf
       repeat' ((first | refine z1 ?_ | refine zV ?_ | refine zP ?_ ?_ | exact trivial) <;> try (conv => whnf))
       all_goals first
         | exact congrArg aA (nR hm _ _ _)
         | exact nR hm _ _ _
         | (rw [show rW a e (rS a e (bA m 2) t) (t + 1) (i + 1) = rW a e (rS a e (bA m 2) t) (t + 1) i + -((rS a e (bA m 2) t).c (i + 1)) * (rS a e (bA m 2) t).c (t - i) by rw [rW, show t + 1 - (i + 1) = t - i by omega]]; exact nR hm _ _ _)
     · have hit : i = t := by omega
       refine Exists.intro (t + 1) (zP aD (zP aD ?_))
       first | refine aH.autoR ?_ | refine aC.autoR ?_
       conv => whnf
       repeat' ((first | refine z1 ?_ | refine zV ?_ | refine zP ?_ ?_ | exact trivial) <;> try (conv => whnf))
       all_goals first
         | omega
         | exact cJ (dX _ (by rw [mR hm, hit]) (fun k hk => rfl))
   · refine aZ Tryz.tabOk aF (α := Nat) (fun i => [(12, aA (rW a e (rS a e (bA m 2) t) (t + 1) i).val), (13, aA ((i : Int) + 1))]) (fun i => []) (fun i => i ≤ t) (fun i => t - i) (0) ?_ ?_ ?_
     · omega
     · conv => whnf
       first | refine aH.autoR ?_ | refine aC.autoR ?_
       conv => whnf
       repeat' ((first | refine z1 ?_ | refine zV ?_ | refine zP ?_ ?_ | exact trivial) <;> try (conv => whnf))
       all_goals first
         | (rw [rW, if_pos (by omega)]; done)
         | (rw [rW, if_neg (by omega), if_pos (by omega)]; exact nN hm (by omega))
         | (rw [rW, if_neg (by omega), if_neg (by omega)]; exact Zm.val_zero.symm)
         | (rw [rW, if_neg (by omega), if_neg (by omega)]; rfl)
     intro i hi
     conv => whnf
     have hx3 := Zm.val_range hm.pos ((rS a e (bA m 2) t).c (i + 1))
     have hx4 := Zm.val_range hm.pos ((rS a e (bA m 2) t).c (t - i))
     have hx5 := sP hm ((rS a e (bA m 2) t).c (i + 1)) ((rS a e (bA m 2) t).c (t - i))
     have hx6 := Zm.val_range hm.pos (rW a e (rS a e (bA m 2) t) (t + 1) i)
     have hx7 := hm.mul (rW a e (rS a e (bA m 2) t) (t + 1) i) (bA m 2)
     repeat' first | ((first | (apply zI; refine zP (tH (i := i + 1) aY aD) ?_) | (apply zI; refine zP (tH (i := t - i) (by simp only [kR] at *; omega) aD) ?_) | (refine zP (fun h => ?_) (fun h => ?_) <;> (try simp only [aB, aE] at h)) | refine zS ?_ | refine zV ?_ | (apply zI; refine zP aG ?_)) <;> conv => whnf) | fail
     · refine Exists.intro (i + 1) (zP aD (zP aD ?_))
       first | refine aH.autoR ?_ | refine aC.autoR ?_
       conv => whnf
       repeat' ((first | refine z1 ?_ | refine zV ?_ | refine zP ?_ ?_ | exact trivial) <;> try (conv => whnf))
       all_goals first
         | exact congrArg aA (nR hm _ _ _)
         | exact nR hm _ _ _
         | (rw [show rW a e (rS a e (bA m 2) t) (t + 1) (i + 1) = rW a e (rS a e (bA m 2) t) (t + 1) i + -((rS a e (bA m 2) t).c (i + 1)) * (rS a e (bA m 2) t).c (t - i) by rw [rW, show t + 1 - (i + 1) = t - i by omega]]; exact nR hm _ _ _)
     · have hit : i = t := by omega
       refine Exists.intro (t + 1) (zP aD (zP aD ?_))
       first | refine aH.autoR ?_ | refine aC.autoR ?_
       conv => whnf
       repeat' ((first | refine z1 ?_ | refine zV ?_ | refine zP ?_ ?_ | exact trivial) <;> try (conv => whnf))
       all_goals first
         | omega
         | exact cJ (dX _ (by rw [mR hm, hit]) (fun k hk => rfl))
   · refine aZ Tryz.tabOk aF (α := Nat) (fun i => [(12, aA (rW a e (rS a e (bA m 2) t) (t + 1) i).val), (13, aA ((i : Int) + 1))]) (fun i => []) (fun i => i ≤ t) (fun i => t - i) (0) ?_ ?_ ?_
     · omega
     · conv => whnf
       first | refine aH.autoR ?_ | refine aC.autoR ?_
       conv => whnf
       repeat' ((first | refine z1 ?_ | refine zV ?_ | refine zP ?_ ?_ | exact trivial) <;> try (conv => whnf))
       all_goals first
         | (rw [rW, if_pos (by omega)]; done)
         | (rw [rW, if_neg (by omega), if_pos (by omega)]; exact nN hm (by omega))
         | (rw [rW, if_neg (by omega), if_neg (by omega)]; exact Zm.val_zero.symm)
         | (rw [rW, if_neg (by omega), if_neg (by omega)]; rfl)
     intro i hi
     conv => whnf
     have hx3 := Zm.val_range hm.pos ((rS a e (bA m 2) t).c (i + 1))
     have hx4 := Zm.val_range hm.pos ((rS a e (bA m 2) t).c (t - i))
     have hx5 := sP hm ((rS a e (bA m 2) t).c (i + 1)) ((rS a e (bA m 2) t).c (t - i))
     have hx6 := Zm.val_range hm.pos (rW a e (rS a e (bA m 2) t) (t + 1) i)
     have hx7 := hm.mul (rW a e (rS a e (bA m 2) t) (t + 1) i) (bA m 2)
     repeat' first | ((first | (apply zI; refine zP (tH (i := i + 1) aY aD) ?_) | (apply zI; refine zP (tH (i := t - i) (by simp only [kR] at *; omega) aD) ?_) | (refine zP (fun h => ?_) (fun h => ?_) <;> (try simp only [aB, aE] at h)) | refine zS ?_ | refine zV ?_ | (apply zI; refine zP aG ?_)) <;> conv => whnf) | fail
     · refine Exists.intro (i + 1) (zP aD (zP aD ?_))
       first | refine aH.autoR ?_ | refine aC.autoR ?_
       conv => whnf
       repeat' ((first | refine z1 ?_ | refine zV ?_ | refine zP ?_ ?_ | exact trivial) <;> try (conv => whnf))
       all_goals first
         | exact congrArg aA (nR hm _ _ _)
         | exact nR hm _ _ _
         | (rw [show rW a e (rS a e (bA m 2) t) (t + 1) (i + 1) = rW a e (rS a e (bA m 2) t) (t + 1) i + -((rS a e (bA m 2) t).c (i + 1)) * (rS a e (bA m 2) t).c (t - i) by rw [rW, show t + 1 - (i + 1) = t - i by omega]]; exact nR hm _ _ _)
     · have hit : i = t := by omega
       refine Exists.intro (t + 1) (zP aD (zP aD ?_))
       first | refine aH.autoR ?_ | refine aC.autoR ?_
       conv => whnf
       repeat' ((first | refine z1 ?_ | refine zV ?_ | refine zP ?_ ?_ | exact trivial) <;> try (conv => whnf))
       all_goals first
         | omega
         | exact cJ (dX _ (by rw [mR hm, hit]) (fun k hk => rfl))
 · repeat' first | ((first | refine z0 ?_ | (refine zP (fun h => ?_) (fun h => ?_) <;> (try simp only [aB, aE] at h) <;> first | (exfalso; omega) | skip) | refine zS ?_ | refine zV ?_ | (apply zI; refine zP aM ?_) | (apply zI; refine zP aG ?_)) <;> conv => whnf) | fail
   have htn2 : t = n - 1 := by omega
   rw [htn2]
def S7 (r : PS (Zm m)) : Nat → PS (PS (Zm m))
 | 0 => 0
 | i + 1 => cY (S7 r i) 1 i (r.c i)
def gZ (r : PS (Zm m)) (d : Nat) : Nat → PS (PS (Zm m))
 | 0 => S7 r d
 | i + 1 => cY (gZ r d i) i 1 (((gZ r d i).c i).c 1 + r.c i)
def eP (e : Zm m) : Nat → Zm m
 | 0 => 1
 | k + 1 => eP e k * e
def eF (e : Zm m) : Nat → PS (PS (Zm m))
 | 0 => 0
 | k + 1 => cY (eF e k) (2 * k) (2 * k) (eP e k)
theorem Ao5 (hm : Md m) (n : Nat) (hn : 2 ≤ n ∧ n ≤ 11) {d : Int} (hd : d + 1 = n) (a e : Zm m) : aI Tryz.prog 112 [aA m, aA d, aA a.val, aA e.val] (dK true true n (gZ (rS a e (bA m 2) (n - 1)) (n - 1) (n - 1) * eF e ((n + 3) / 4))) := by
 have hm1 := hm.1
 have hm2 := hm.2
 refine aU Tryz.tabOk aF Tryz.func112 rfl rfl ?_
 conv => whnf
 repeat' first | ((first | (apply zI; refine zP (mZ (m := m) n aD aD) ?_) | (apply zI; refine zP (Ak2 hm n hn hd a e) ?_) | refine Or.inl ?_) <;> conv => whnf) | fail
 generalize rS a e (bA m 2) (n - 1) = r
 refine aZ Tryz.tabOk aF (α := Nat) (fun i => [(12, aA i)]) (fun i => [(1, some ⟨false, 1, rows true (Tb n (S7 r i))⟩)]) (fun i => i + 1 ≤ n) (fun i => n - i) (0) ?_ ?_ ?_
 · omega
 · conv => whnf
   first | refine aH.autoR ?_ | refine aC.autoR ?_
   conv => whnf
   repeat' ((first | refine z1 ?_ | refine zV ?_ | refine zP ?_ ?_ | exact trivial) <;> try (conv => whnf))
   all_goals rfl
 intro i hi
 conv => whnf
 repeat' first | ((first | refine z0 ?_ | (refine zP (fun h => ?_) (fun h => ?_) <;> (try simp only [aB, aE] at h)) | refine zS ?_ | refine zV ?_ | (apply zI; refine zP aM ?_) | (apply zI; refine zP aG ?_) | refine zA ?_ | refine Alt.fst ?_ | refine Or.inl ?_) <;> conv => whnf) | fail
 · refine Exists.intro (i + 1) (zP aD (zP aD ?_))
   first | refine aH.autoR ?_ | refine aC.autoR ?_
   conv => whnf
   repeat' ((first | refine z1 ?_ | refine zV ?_ | refine zP ?_ ?_ | exact trivial) <;> try (conv => whnf))
   exact cC (fM (r.c i) rfl aD (aW.of_eq rfl))
 have hin : i = n - 1 := by omega
 subst hin
 refine aZ Tryz.tabOk aF (α := Nat) (fun i => [(13, aA i), (14, .undef)]) (fun i => [(1, some ⟨false, 1, rows true (Tb n (gZ r (n - 1) i))⟩)]) (fun i => i + 1 ≤ n) (fun i => n - i) (0) ?_ ?_ ?_
 · omega
 · conv => whnf
   first | refine aH.autoR ?_ | refine aC.autoR ?_
   conv => whnf
   repeat' ((first | refine z1 ?_ | refine zV ?_ | refine zP ?_ ?_ | exact trivial) <;> try (conv => whnf))
   all_goals rfl
 intro i hi2
 conv => whnf
 have hx1 := Zm.val_range hm.pos (((gZ r (n - 1) i).c i).c 1)
 have hx2 := Zm.val_range hm.pos (r.c i)
 repeat' first | ((first | refine z0 ?_ | (refine zP (fun h => ?_) (fun h => ?_) <;> (try simp only [aB, aE] at h)) | refine zS ?_ | refine zV ?_ | (apply zI; refine zP aM ?_) | (apply zI; refine zP aG ?_) | refine zA ?_ | refine Alt.fst ?_ | refine Or.inl ?_) <;> conv => whnf) | fail
 · refine Exists.intro (i + 1) (zP aD (zP aD ?_))
   first | refine aH.autoR ?_ | refine aC.autoR ?_
   conv => whnf
   repeat' ((first | refine z1 ?_ | refine zV ?_ | refine zP ?_ ?_ | exact trivial) <;> try (conv => whnf))
   exact cC (fM _ (vK hm _ _) aD (aW.of_eq rfl))
 have hin : i = n - 1 := by omega
 subst hin
 repeat' first | ((first | refine z0 ?_ | (refine zP (fun h => ?_) (fun h => ?_) <;> (try simp only [aB, aE] at h)) | refine zS ?_ | refine zV ?_ | (apply zI; refine zP aM ?_) | (apply zI; refine zP aG ?_) | refine zA ?_ | refine Alt.fst ?_ | refine Or.inl ?_) <;> conv => whnf) | fail
 refine aZ Tryz.tabOk aF (α := Nat) (fun k => [(15, aA (eP e k).val), (16, aA k)]) (fun k => [(2, some ⟨false, 1, rows true (Tb n (eF e k))⟩)]) (fun k => k ≤ (n + 3) / 4) (fun k => n - k) (0) ?_ ?_ ?_
 · omega
 · conv => whnf
   first | refine aH.autoR ?_ | refine aC.autoR ?_
   conv => whnf
   repeat' ((first | refine z1 ?_ | refine zV ?_ | refine zP ?_ ?_ | exact trivial) <;> try (conv => whnf))
   all_goals first | rfl | exact vH hm | (rw [vH hm]; rfl)
 intro k hk
 conv => whnf
 have hx3 := hm.mul (eP e k) e
 repeat' first | ((first | refine z0 ?_ | (apply zI; refine zP (qT hm _ _ _ _ n aD _ _) ?_) | (refine zP (fun h => ?_) (fun h => ?_) <;> (try simp only [aB, aE] at h)) | refine zS ?_ | refine zV ?_ | (apply zI; refine zP aM ?_) | (apply zI; refine zP aG ?_) | refine Or.inl ?_) <;> conv => whnf) | fail
 · refine Exists.intro (k + 1) (zP aD (zP aD ?_))
   first | refine aH.autoR ?_ | refine aC.autoR ?_
   conv => whnf
   repeat' ((first | refine z1 ?_ | refine zV ?_ | refine zP ?_ ?_ | exact trivial) <;> try (conv => whnf))
   all_goals first
     | exact mR hm _ _
     | exact cC (fM _ rfl aD (aW.of_eq rfl))
     | exact congrArg aA (mR hm _ _)
 have hkn : k = (n + 3) / 4 := by omega
 rw [hkn]
theorem Anl {n i a : Nat} {F : PS (PS (Zm m))} {g : PS (Zm m)} (hi : i < n) (ha : n - i ≤ a) : updB (rows true (Tb n F)) [i] (fun l => l.take 0 ++ ((ints (L a g)).take (min a (n - i)) ++ l.drop (min a (n - i)))) = rows true (Tb n (F.upd i g)) := by
 rw [Ahb _ (by simpa using hi) _ (L (n - i) g), Agz F g hi]
 rw [gA F hi, Nat.min_eq_right ha, List.take_zero, List.nil_append, Asw, Aw7, Amo, Y6 g ha]
 rw [show (L (n - i) (F.c i)).drop (n - i) = [] from List.drop_eq_nil_of_le (by simp), List.append_nil]
theorem Awh {n q : Nat} {F : PS (PS (Zm m))} (h : q < n) : bE (rows true (Tb n F)) ([] ++ [q]) = some (ints (L (n - q) (F.c q))) := by
 rw [List.nil_append, sE (by simpa using h), gA F h]
theorem Amd (o p : Bool) (n k : Nat) {d : Int} (hd : d + 1 = k) (hk : k ≤ n) (hn : n ≤ 100) (f : PS (PS (Zm m))) : aI Tryz.prog 129 [dO m o p n f, aA d] (dO m true true k f) := by
 refine bZ Tryz.tabOk aF Tryz.func129 rfl rfl ?_
 conv => whnf
 repeat' first | ((first | (apply zI; refine zP (P7 k aD aD) ?_) | refine Or.inl ?_) <;> conv => whnf) | fail
 refine dR Tryz.tabOk aF (α := Nat) (fun i => [(15, aA i)]) (fun i => [(3, some ⟨false, 1, rows true (Tb k (mix i f 0))⟩)]) (fun i => i ≤ k) (fun i => k - i) (0) ?_ ?_ ?_
 · omega
 · conv => whnf
   first | refine aH.auto ?_ | refine aC.auto ?_
   conv => whnf
   repeat' ((first | refine z1 ?_ | refine zV ?_ | refine zP ?_ ?_ | exact trivial) <;> try (conv => whnf))
   all_goals rw [kU]
 intro i hi
 conv => whnf
 repeat' first | ((first | refine z0 ?_ | (apply zI; refine zP (Awh aD) ?_) | (refine zP (fun h => ?_) (fun h => ?_) <;> (try simp only [aB, aE] at h)) | refine zV ?_ | (apply zI; refine zP aG ?_)) <;> conv => whnf) | fail
 · refine Exists.intro (i + 1) (zP aD (zP aD ?_))
   first | refine aH.auto ?_ | refine aC.auto ?_
   conv => whnf
   repeat' ((first | refine z1 ?_ | refine zV ?_ | refine zP ?_ ?_ | exact trivial) <;> try (conv => whnf))
   simp only [aB, aE, aT, kR, Int.toNat_natCast, Nat.zero_add, List.nil_append]
   rw [← Aqm]
   exact Anl aD aD
 · refine wY (jW (fun a b hab => ?_))
   have : k ≤ i := by simp only [aQ, aV] at *; omega
   rw [eV, if_pos (by omega)]
def Ahs (n : Nat) : List Int := (List.range (n + 1)).map fun i => (dE n i : Int)
theorem Acm : J4 Tryz.prog 97 := fun m b n c => by
 refine bZ Tryz.tabOk aF Tryz.func97 rfl rfl ?_
 conv => whnf
 repeat' first | ((first | refine z0 ?_ | (refine zP (fun h => ?_) (fun h => ?_) <;> (try simp only [aB, aE] at h)) | refine zS ?_ | refine zV ?_ | (apply zI; refine zP aM ?_) | (apply zI; refine zP aG ?_) | refine zA ?_ | refine Alt.fst ?_ | refine Or.inl ?_) <;> conv => whnf) | fail
theorem Akv (hm : Md m) (o p o1 : Bool) (n : Nat) (hn : 2 ≤ n ∧ n ≤ 100) (f : PS (PS (Zm m))) (a : PS (Zm m)) : aI Tryz.prog 247 [aA m, dK o p n f, LD o1 n a] (dK true true n (bI f a a n n)) := by
 refine aU Tryz.tabOk aF Tryz.func247 rfl rfl ?_
 conv => whnf
 repeat' first | ((first | refine z0 ?_ | (apply zI; refine zP (Aqf hm _ _ _ _ n hn f a a) ?_) | refine zV ?_ | refine Or.inl ?_) <;> conv => whnf) | fail
theorem Av3 (hm : Md m) (o p o1 : Bool) (n : Nat) (hn : 2 ≤ n ∧ n ≤ 11) (f : PS (PS (Zm m))) (a : PS (Zm m)) : aI Tryz.prog 151 [aA m, dK o p n f, LD o1 n a] (dK true true n (comp2N a (bI f (rev (bA m (a.c 1).val) a) (rev (bA m (a.c 1).val) a) n n) 0 n)) := by
 have hm1 := hm.1
 have hm2 := hm.2
 refine aU Tryz.tabOk aF Tryz.func151 rfl rfl ?_
 conv => whnf
 repeat' first | ((first | refine z0 ?_ | (apply zI; refine zP (Ams hm _ n n (by simp [aB]) (by omega) (by omega) (by omega) a _ (I9 hm _)) ?_) | (apply zI; refine zP (Akv hm _ _ _ n (by omega) f _) ?_) | (apply zI; refine zP (zN hm _ _ _ n (by omega) n (by omega) a _) ?_) | refine zV ?_ | (apply zI; refine zP aM ?_) | (apply zI; refine zP aG ?_) | refine Or.inl ?_) <;> conv => whnf) | fail
theorem uR {x : Int} (h : 0 ≤ x ∧ x < m) : ∃ z : Zm m, x = z.val := ⟨Zm.mk m x, (Int.emod_eq_of_lt h.1 h.2).symm⟩
theorem Ar1 (hm : Md m) (o : Bool) (l : List Nat) (hb : ∀ b ∈ l, b < 256) (hl : l.length ≤ 4611686018427387904) (a : Nat) (ha : a ≤ l.length) (hs : Int) (n : Nat) (hn : 2 ≤ n ∧ n ≤ 11) {d : Int} (hd : d + 1 = n) (hW : ∀ (o : Bool) (a : PS (Zm m)), ∃ F : PS (PS (Zm m)), aI Tryz.prog 117 [aA m, aA d, LD o 5 a] (dK true true n F)) :
   cN Tryz.prog 315 2 [.ptr 1 [] 0, aA m, aA d] [none, some (aN o l a hs)]
     (fun d rt => ∃ (f : PS (PS (Zm m))) (a' : Nat) (h' : Int), a' ≤ l.length ∧ d = .ref 2 [] 1 0 n ∧ rt = [none, some (aN o l a' h'), some ⟨false, 1, rows true (Tb n f)⟩]) := by
 have hm1 := hm.1
 have hm2 := hm.2
 refine dY Tryz.tabOk aF 2 _ Tryz.func315 rfl rfl ?_
 conv => whnf
 repeat' first | (refine bD [1] (cW o l hb hl a ha hs 6) (fun d rt' hd => ?_)) | fail
 obtain ⟨x, a1, h1, hx, ha1, rfl, rfl⟩ := hd
 refine ⟨rfl, by simp, ?_⟩
 conv => whnf
 have hx2 := hx.2 (by omega)
 have k0 := W1 hm n hn hd 0
 rw [Zm.val_zero] at k0
 repeat' first | (refine bD [1] (cW o l hb hl a1 ha1 h1 m) (fun d rt' hd => ?_)) | (refine bD [1] (Arr hm o l hb hl a1 ha1 h1) (fun d rt' hd => ?_)) | ((first | refine z0 ?_ | (apply zI; refine zP (k0) ?_) | (refine zP (fun h => ?_) (fun h => ?_) <;> (try simp only [aB, aE] at h) <;> first | (exfalso; omega) | skip) | refine zV ?_ | refine Or.inl ?_) <;> conv => whnf) | fail
 · first
     | (refine ⟨.ref 2 [] 1 0 n, [none, some (aN o l a1 h1), some ⟨false, 1, rows true (Tb n (cS n 0))⟩], ⟨cS n 0, a1, h1, ha1, rfl, rfl⟩, aC.of (kp := 2) [none, some 1, some 2] ?_⟩
        (conv => whnf)
        repeat' ((first | refine zP rfl ?_ | refine zP bM ?_ | exact trivial) <;> try (conv => whnf))
        all_goals first | omega | (simp [aB]; done)
        done)
     | (refine ⟨.ref 2 [] 1 0 n, [none, some (aN o l a1 h1), some ⟨false, 1, rows true (Tb n (cS n 0))⟩], ⟨cS n 0, a1, h1, ha1, rfl, rfl⟩, aC.of (kp := 2) [none, some 1, some 3] ?_⟩
        (conv => whnf)
        repeat' ((first | refine zP rfl ?_ | refine zP bM ?_ | exact trivial) <;> try (conv => whnf))
        all_goals first | omega | (simp [aB]; done)
        done)
     | (refine ⟨.ref 2 [] 1 0 n, [none, some (aN o l a1 h1), some ⟨false, 1, rows true (Tb n (cS n 0))⟩], ⟨cS n 0, a1, h1, ha1, rfl, rfl⟩, aC.of (kp := 2) [none, some 1, some 4] ?_⟩
        (conv => whnf)
        repeat' ((first | refine zP rfl ?_ | refine zP bM ?_ | exact trivial) <;> try (conv => whnf))
        all_goals first | omega | (simp [aB]; done)
        done)
     | (refine ⟨.ref 2 [] 1 0 n, [none, some (aN o l a1 h1), some ⟨false, 1, rows true (Tb n (cS n 0))⟩], ⟨cS n 0, a1, h1, ha1, rfl, rfl⟩, aC.of (kp := 2) [none, some 1, some 5] ?_⟩
        (conv => whnf)
        repeat' ((first | refine zP rfl ?_ | refine zP bM ?_ | exact trivial) <;> try (conv => whnf))
        all_goals first | omega | (simp [aB]; done)
        done)
     | (refine ⟨.ref 2 [] 1 0 n, [none, some (aN o l a1 h1), some ⟨false, 1, rows true (Tb n (cS n 0))⟩], ⟨cS n 0, a1, h1, ha1, rfl, rfl⟩, aC.of (kp := 2) [none, some 1, some 6] ?_⟩
        (conv => whnf)
        repeat' ((first | refine zP rfl ?_ | refine zP bM ?_ | exact trivial) <;> try (conv => whnf))
        all_goals first | omega | (simp [aB]; done)
        done)
 · obtain ⟨yz, a2, h2, hy, ha2, rfl, rfl⟩ := hd
   refine ⟨rfl, by simp, ?_⟩
   conv => whnf
   obtain ⟨z, rfl⟩ := uR (hy.2 (by omega))
   repeat' first | ((first | refine z0 ?_ | (apply zI; refine zP (W1 hm n hn hd z) ?_) | refine Or.inl ?_) <;> conv => whnf) | fail
   first
     | (refine ⟨.ref 2 [] 1 0 n, [none, some (aN o l a2 h2), some ⟨false, 1, rows true (Tb n (cS n z))⟩], ⟨cS n z, a2, h2, ha2, rfl, rfl⟩, aC.of (kp := 2) [none, some 1, some 2] ?_⟩
        (conv => whnf)
        repeat' ((first | refine zP rfl ?_ | refine zP bM ?_ | exact trivial) <;> try (conv => whnf))
        all_goals first | omega | (simp [aB]; done)
        done)
     | (refine ⟨.ref 2 [] 1 0 n, [none, some (aN o l a2 h2), some ⟨false, 1, rows true (Tb n (cS n z))⟩], ⟨cS n z, a2, h2, ha2, rfl, rfl⟩, aC.of (kp := 2) [none, some 1, some 3] ?_⟩
        (conv => whnf)
        repeat' ((first | refine zP rfl ?_ | refine zP bM ?_ | exact trivial) <;> try (conv => whnf))
        all_goals first | omega | (simp [aB]; done)
        done)
     | (refine ⟨.ref 2 [] 1 0 n, [none, some (aN o l a2 h2), some ⟨false, 1, rows true (Tb n (cS n z))⟩], ⟨cS n z, a2, h2, ha2, rfl, rfl⟩, aC.of (kp := 2) [none, some 1, some 4] ?_⟩
        (conv => whnf)
        repeat' ((first | refine zP rfl ?_ | refine zP bM ?_ | exact trivial) <;> try (conv => whnf))
        all_goals first | omega | (simp [aB]; done)
        done)
     | (refine ⟨.ref 2 [] 1 0 n, [none, some (aN o l a2 h2), some ⟨false, 1, rows true (Tb n (cS n z))⟩], ⟨cS n z, a2, h2, ha2, rfl, rfl⟩, aC.of (kp := 2) [none, some 1, some 5] ?_⟩
        (conv => whnf)
        repeat' ((first | refine zP rfl ?_ | refine zP bM ?_ | exact trivial) <;> try (conv => whnf))
        all_goals first | omega | (simp [aB]; done)
        done)
     | (refine ⟨.ref 2 [] 1 0 n, [none, some (aN o l a2 h2), some ⟨false, 1, rows true (Tb n (cS n z))⟩], ⟨cS n z, a2, h2, ha2, rfl, rfl⟩, aC.of (kp := 2) [none, some 1, some 6] ?_⟩
        (conv => whnf)
        repeat' ((first | refine zP rfl ?_ | refine zP bM ?_ | exact trivial) <;> try (conv => whnf))
        all_goals first | omega | (simp [aB]; done)
        done)
 · obtain ⟨yz, a2, h2, hy, ha2, rfl, rfl⟩ := hd
   refine ⟨rfl, by simp, ?_⟩
   conv => whnf
   obtain ⟨z, rfl⟩ := uR (hy.2 (by omega))
   repeat' first | ((first | refine z0 ?_ | (apply zI; refine zP (W1 hm n hn hd z) ?_) | refine Or.inl ?_) <;> conv => whnf) | fail
   first
     | (refine ⟨.ref 2 [] 1 0 n, [none, some (aN o l a2 h2), some ⟨false, 1, rows true (Tb n (cS n z))⟩], ⟨cS n z, a2, h2, ha2, rfl, rfl⟩, aC.of (kp := 2) [none, some 1, some 2] ?_⟩
        (conv => whnf)
        repeat' ((first | refine zP rfl ?_ | refine zP bM ?_ | exact trivial) <;> try (conv => whnf))
        all_goals first | omega | (simp [aB]; done)
        done)
     | (refine ⟨.ref 2 [] 1 0 n, [none, some (aN o l a2 h2), some ⟨false, 1, rows true (Tb n (cS n z))⟩], ⟨cS n z, a2, h2, ha2, rfl, rfl⟩, aC.of (kp := 2) [none, some 1, some 3] ?_⟩
        (conv => whnf)
        repeat' ((first | refine zP rfl ?_ | refine zP bM ?_ | exact trivial) <;> try (conv => whnf))
        all_goals first | omega | (simp [aB]; done)
        done)
     | (refine ⟨.ref 2 [] 1 0 n, [none, some (aN o l a2 h2), some ⟨false, 1, rows true (Tb n (cS n z))⟩], ⟨cS n z, a2, h2, ha2, rfl, rfl⟩, aC.of (kp := 2) [none, some 1, some 4] ?_⟩
        (conv => whnf)
        repeat' ((first | refine zP rfl ?_ | refine zP bM ?_ | exact trivial) <;> try (conv => whnf))
        all_goals first | omega | (simp [aB]; done)
        done)
     | (refine ⟨.ref 2 [] 1 0 n, [none, some (aN o l a2 h2), some ⟨false, 1, rows true (Tb n (cS n z))⟩], ⟨cS n z, a2, h2, ha2, rfl, rfl⟩, aC.of (kp := 2) [none, some 1, some 5] ?_⟩
        (conv => whnf)
        repeat' ((first | refine zP rfl ?_ | refine zP bM ?_ | exact trivial) <;> try (conv => whnf))
        all_goals first | omega | (simp [aB]; done)
        done)
     | (refine ⟨.ref 2 [] 1 0 n, [none, some (aN o l a2 h2), some ⟨false, 1, rows true (Tb n (cS n z))⟩], ⟨cS n z, a2, h2, ha2, rfl, rfl⟩, aC.of (kp := 2) [none, some 1, some 6] ?_⟩
        (conv => whnf)
        repeat' ((first | refine zP rfl ?_ | refine zP bM ?_ | exact trivial) <;> try (conv => whnf))
        all_goals first | omega | (simp [aB]; done)
        done)
 · obtain ⟨yz, a2, h2, hy, ha2, rfl, rfl⟩ := hd
   refine ⟨rfl, by simp, ?_⟩
   conv => whnf
   obtain ⟨z, rfl⟩ := uR (hy.2 (by omega))
   repeat' first | ((first | refine z0 ?_ | (apply zI; refine zP (Aoe hm n hn hd z) ?_) | refine Or.inl ?_) <;> conv => whnf) | fail
   first
     | (refine ⟨.ref 2 [] 1 0 n, [none, some (aN o l a2 h2), some ⟨false, 1, rows true (Tb n (hO z (n / 2)))⟩], ⟨hO z (n / 2), a2, h2, ha2, rfl, rfl⟩, aC.of (kp := 2) [none, some 1, some 2] ?_⟩
        (conv => whnf)
        repeat' ((first | refine zP rfl ?_ | refine zP bM ?_ | exact trivial) <;> try (conv => whnf))
        all_goals first | omega | (simp [aB]; done)
        done)
     | (refine ⟨.ref 2 [] 1 0 n, [none, some (aN o l a2 h2), some ⟨false, 1, rows true (Tb n (hO z (n / 2)))⟩], ⟨hO z (n / 2), a2, h2, ha2, rfl, rfl⟩, aC.of (kp := 2) [none, some 1, some 3] ?_⟩
        (conv => whnf)
        repeat' ((first | refine zP rfl ?_ | refine zP bM ?_ | exact trivial) <;> try (conv => whnf))
        all_goals first | omega | (simp [aB]; done)
        done)
     | (refine ⟨.ref 2 [] 1 0 n, [none, some (aN o l a2 h2), some ⟨false, 1, rows true (Tb n (hO z (n / 2)))⟩], ⟨hO z (n / 2), a2, h2, ha2, rfl, rfl⟩, aC.of (kp := 2) [none, some 1, some 4] ?_⟩
        (conv => whnf)
        repeat' ((first | refine zP rfl ?_ | refine zP bM ?_ | exact trivial) <;> try (conv => whnf))
        all_goals first | omega | (simp [aB]; done)
        done)
     | (refine ⟨.ref 2 [] 1 0 n, [none, some (aN o l a2 h2), some ⟨false, 1, rows true (Tb n (hO z (n / 2)))⟩], ⟨hO z (n / 2), a2, h2, ha2, rfl, rfl⟩, aC.of (kp := 2) [none, some 1, some 5] ?_⟩
        (conv => whnf)
        repeat' ((first | refine zP rfl ?_ | refine zP bM ?_ | exact trivial) <;> try (conv => whnf))
        all_goals first | omega | (simp [aB]; done)
        done)
     | (refine ⟨.ref 2 [] 1 0 n, [none, some (aN o l a2 h2), some ⟨false, 1, rows true (Tb n (hO z (n / 2)))⟩], ⟨hO z (n / 2), a2, h2, ha2, rfl, rfl⟩, aC.of (kp := 2) [none, some 1, some 6] ?_⟩
        (conv => whnf)
        repeat' ((first | refine zP rfl ?_ | refine zP bM ?_ | exact trivial) <;> try (conv => whnf))
        all_goals first | omega | (simp [aB]; done)
        done)
 · obtain ⟨yz, a2, h2, hy, ha2, rfl, rfl⟩ := hd
   refine ⟨rfl, by simp, ?_⟩
   conv => whnf
   obtain ⟨z, rfl⟩ := uR (hy.2 (by omega))
   repeat' first | (refine bD [1] (cW o l hb hl a2 ha2 h2 m) (fun d rt' hd => ?_)) | fail
   obtain ⟨yu, a3, h3, hy, ha3, rfl, rfl⟩ := hd
   refine ⟨rfl, by simp, ?_⟩
   conv => whnf
   obtain ⟨u, rfl⟩ := uR (hy.2 (by omega))
   repeat' first | ((first | refine z0 ?_ | (apply zI; refine zP (Ao5 hm n hn hd z u) ?_) | refine Or.inl ?_) <;> conv => whnf) | fail
   first
     | (refine ⟨.ref 2 [] 1 0 n, [none, some (aN o l a3 h3), some ⟨false, 1, rows true (Tb n (gZ (rS z u (bA m 2) (n - 1)) (n - 1) (n - 1) * eF u ((n + 3) / 4)))⟩], ⟨gZ (rS z u (bA m 2) (n - 1)) (n - 1) (n - 1) * eF u ((n + 3) / 4), a3, h3, ha3, rfl, rfl⟩, aC.of (kp := 2) [none, some 1, some 2] ?_⟩
        (conv => whnf)
        repeat' ((first | refine zP rfl ?_ | refine zP bM ?_ | exact trivial) <;> try (conv => whnf))
        all_goals first | omega | (simp [aB]; done)
        done)
     | (refine ⟨.ref 2 [] 1 0 n, [none, some (aN o l a3 h3), some ⟨false, 1, rows true (Tb n (gZ (rS z u (bA m 2) (n - 1)) (n - 1) (n - 1) * eF u ((n + 3) / 4)))⟩], ⟨gZ (rS z u (bA m 2) (n - 1)) (n - 1) (n - 1) * eF u ((n + 3) / 4), a3, h3, ha3, rfl, rfl⟩, aC.of (kp := 2) [none, some 1, some 3] ?_⟩
        (conv => whnf)
        repeat' ((first | refine zP rfl ?_ | refine zP bM ?_ | exact trivial) <;> try (conv => whnf))
        all_goals first | omega | (simp [aB]; done)
        done)
     | (refine ⟨.ref 2 [] 1 0 n, [none, some (aN o l a3 h3), some ⟨false, 1, rows true (Tb n (gZ (rS z u (bA m 2) (n - 1)) (n - 1) (n - 1) * eF u ((n + 3) / 4)))⟩], ⟨gZ (rS z u (bA m 2) (n - 1)) (n - 1) (n - 1) * eF u ((n + 3) / 4), a3, h3, ha3, rfl, rfl⟩, aC.of (kp := 2) [none, some 1, some 4] ?_⟩
        (conv => whnf)
        repeat' ((first | refine zP rfl ?_ | refine zP bM ?_ | exact trivial) <;> try (conv => whnf))
        all_goals first | omega | (simp [aB]; done)
        done)
     | (refine ⟨.ref 2 [] 1 0 n, [none, some (aN o l a3 h3), some ⟨false, 1, rows true (Tb n (gZ (rS z u (bA m 2) (n - 1)) (n - 1) (n - 1) * eF u ((n + 3) / 4)))⟩], ⟨gZ (rS z u (bA m 2) (n - 1)) (n - 1) (n - 1) * eF u ((n + 3) / 4), a3, h3, ha3, rfl, rfl⟩, aC.of (kp := 2) [none, some 1, some 5] ?_⟩
        (conv => whnf)
        repeat' ((first | refine zP rfl ?_ | refine zP bM ?_ | exact trivial) <;> try (conv => whnf))
        all_goals first | omega | (simp [aB]; done)
        done)
     | (refine ⟨.ref 2 [] 1 0 n, [none, some (aN o l a3 h3), some ⟨false, 1, rows true (Tb n (gZ (rS z u (bA m 2) (n - 1)) (n - 1) (n - 1) * eF u ((n + 3) / 4)))⟩], ⟨gZ (rS z u (bA m 2) (n - 1)) (n - 1) (n - 1) * eF u ((n + 3) / 4), a3, h3, ha3, rfl, rfl⟩, aC.of (kp := 2) [none, some 1, some 6] ?_⟩
        (conv => whnf)
        repeat' ((first | refine zP rfl ?_ | refine zP bM ?_ | exact trivial) <;> try (conv => whnf))
        all_goals first | omega | (simp [aB]; done)
        done)
 · obtain ⟨f, a2, h2, ha2, rfl, rfl⟩ := hd
   refine ⟨rfl, by simp, ?_⟩
   conv => whnf
   obtain ⟨F, hF⟩ := hW false f
   repeat' first | ((first | refine z0 ?_ | (apply zI; refine zP (hF) ?_) | refine zV ?_ | (apply zI; refine zP aG ?_) | refine Or.inl ?_) <;> conv => whnf) | fail
   first
     | (refine ⟨.ref 2 [] 1 0 n, [none, some (aN o l a2 h2), some ⟨false, 1, rows true (Tb n (F))⟩], ⟨F, a2, h2, ha2, rfl, rfl⟩, aC.of (kp := 2) [none, some 1, some 2] ?_⟩
        (conv => whnf)
        repeat' ((first | refine zP rfl ?_ | refine zP bM ?_ | exact trivial) <;> try (conv => whnf))
        all_goals first | omega | (simp [aB]; done)
        done)
     | (refine ⟨.ref 2 [] 1 0 n, [none, some (aN o l a2 h2), some ⟨false, 1, rows true (Tb n (F))⟩], ⟨F, a2, h2, ha2, rfl, rfl⟩, aC.of (kp := 2) [none, some 1, some 3] ?_⟩
        (conv => whnf)
        repeat' ((first | refine zP rfl ?_ | refine zP bM ?_ | exact trivial) <;> try (conv => whnf))
        all_goals first | omega | (simp [aB]; done)
        done)
     | (refine ⟨.ref 2 [] 1 0 n, [none, some (aN o l a2 h2), some ⟨false, 1, rows true (Tb n (F))⟩], ⟨F, a2, h2, ha2, rfl, rfl⟩, aC.of (kp := 2) [none, some 1, some 4] ?_⟩
        (conv => whnf)
        repeat' ((first | refine zP rfl ?_ | refine zP bM ?_ | exact trivial) <;> try (conv => whnf))
        all_goals first | omega | (simp [aB]; done)
        done)
     | (refine ⟨.ref 2 [] 1 0 n, [none, some (aN o l a2 h2), some ⟨false, 1, rows true (Tb n (F))⟩], ⟨F, a2, h2, ha2, rfl, rfl⟩, aC.of (kp := 2) [none, some 1, some 5] ?_⟩
        (conv => whnf)
        repeat' ((first | refine zP rfl ?_ | refine zP bM ?_ | exact trivial) <;> try (conv => whnf))
        all_goals first | omega | (simp [aB]; done)
        done)
     | (refine ⟨.ref 2 [] 1 0 n, [none, some (aN o l a2 h2), some ⟨false, 1, rows true (Tb n (F))⟩], ⟨F, a2, h2, ha2, rfl, rfl⟩, aC.of (kp := 2) [none, some 1, some 6] ?_⟩
        (conv => whnf)
        repeat' ((first | refine zP rfl ?_ | refine zP bM ?_ | exact trivial) <;> try (conv => whnf))
        all_goals first | omega | (simp [aB]; done)
        done)
 · obtain ⟨f, a2, h2, ha2, rfl, rfl⟩ := hd
   refine ⟨rfl, by simp, ?_⟩
   conv => whnf
   obtain ⟨F, hF⟩ := hW false f
   repeat' first | ((first | refine z0 ?_ | (apply zI; refine zP (hF) ?_) | refine zV ?_ | (apply zI; refine zP aG ?_) | refine Or.inl ?_) <;> conv => whnf) | fail
   first
     | (refine ⟨.ref 2 [] 1 0 n, [none, some (aN o l a2 h2), some ⟨false, 1, rows true (Tb n (F))⟩], ⟨F, a2, h2, ha2, rfl, rfl⟩, aC.of (kp := 2) [none, some 1, some 2] ?_⟩
        (conv => whnf)
        repeat' ((first | refine zP rfl ?_ | refine zP bM ?_ | exact trivial) <;> try (conv => whnf))
        all_goals first | omega | (simp [aB]; done)
        done)
     | (refine ⟨.ref 2 [] 1 0 n, [none, some (aN o l a2 h2), some ⟨false, 1, rows true (Tb n (F))⟩], ⟨F, a2, h2, ha2, rfl, rfl⟩, aC.of (kp := 2) [none, some 1, some 3] ?_⟩
        (conv => whnf)
        repeat' ((first | refine zP rfl ?_ | refine zP bM ?_ | exact trivial) <;> try (conv => whnf))
        all_goals first | omega | (simp [aB]; done)
        done)
     | (refine ⟨.ref 2 [] 1 0 n, [none, some (aN o l a2 h2), some ⟨false, 1, rows true (Tb n (F))⟩], ⟨F, a2, h2, ha2, rfl, rfl⟩, aC.of (kp := 2) [none, some 1, some 4] ?_⟩
        (conv => whnf)
        repeat' ((first | refine zP rfl ?_ | refine zP bM ?_ | exact trivial) <;> try (conv => whnf))
        all_goals first | omega | (simp [aB]; done)
        done)
     | (refine ⟨.ref 2 [] 1 0 n, [none, some (aN o l a2 h2), some ⟨false, 1, rows true (Tb n (F))⟩], ⟨F, a2, h2, ha2, rfl, rfl⟩, aC.of (kp := 2) [none, some 1, some 5] ?_⟩
        (conv => whnf)
        repeat' ((first | refine zP rfl ?_ | refine zP bM ?_ | exact trivial) <;> try (conv => whnf))
        all_goals first | omega | (simp [aB]; done)
        done)
     | (refine ⟨.ref 2 [] 1 0 n, [none, some (aN o l a2 h2), some ⟨false, 1, rows true (Tb n (F))⟩], ⟨F, a2, h2, ha2, rfl, rfl⟩, aC.of (kp := 2) [none, some 1, some 6] ?_⟩
        (conv => whnf)
        repeat' ((first | refine zP rfl ?_ | refine zP bM ?_ | exact trivial) <;> try (conv => whnf))
        all_goals first | omega | (simp [aB]; done)
        done)
theorem Auw (hm : Md m) (o : Bool) (l : List Nat) (hb : ∀ b ∈ l, b < 256) (hl : l.length ≤ 4611686018427387904) (a : Nat) (ha : a ≤ l.length) (hs : Int) (n : Nat) (hn : 2 ≤ n ∧ n ≤ 11) {d : Int} (hd : d + 1 = n) (hW : ∀ (o : Bool) (a : PS (Zm m)), ∃ F : PS (PS (Zm m)), aI Tryz.prog 117 [aA m, aA d, LD o 5 a] (dK true true n F)) :
   cN Tryz.prog 260 2 [.ptr 1 [] 0, aA m, aA d] [none, some (aN o l a hs)]
     (fun d rt => ∃ (f : PS (PS (Zm m))) (a' : Nat) (h' : Int), a' ≤ l.length ∧ d = .agg [aA m, .ref 2 [] 1 0 n] ∧ rt = [none, some (aN o l a' h'), some ⟨false, 1, rows true (Tb n f)⟩]) := by
 have hm1 := hm.1
 have hd0 := hd
 have hm2 := hm.2
 refine dY Tryz.tabOk aF 2 _ Tryz.func260 rfl rfl ?_
 conv => whnf
 repeat' first | (refine bD [1] (Ar1 hm o l hb hl a ha hs n hn hd hW) (fun d rt' hd => ?_)) | fail
 obtain ⟨F, a1, h1, ha1, rfl, rfl⟩ := hd
 refine ⟨rfl, by simp, ?_⟩
 conv => whnf
 repeat' first | (refine bD [1] (cW o l hb hl a1 ha1 h1 3) (fun d rt' hd => ?_)) | fail
 obtain ⟨x, a2, h2, hx, ha2, rfl, rfl⟩ := hd
 refine ⟨rfl, by simp, ?_⟩
 conv => whnf
 have hx2 := hx.2 (by omega)
 repeat' first | (refine bD [1] (Akq hm o l hb hl a2 ha2 h2 n hn hd0) (fun d rt' hd => ?_)) | ((first | refine z0 ?_ | refine Or.inl (Or.inr (zP (Acm) ?_)) | (refine zP (fun h => ?_) (fun h => ?_) <;> (try simp only [aB, aE] at h) <;> first | (exfalso; omega) | skip) | refine Or.inl ?_) <;> conv => whnf) | fail
 · obtain ⟨b, a3, h3, hb3, ha3, rfl, rfl⟩ := hd
   refine ⟨rfl, by simp, ?_⟩
   conv => whnf
   repeat' first | ((first | refine z0 ?_ | (apply zI; refine zP (Av3 hm _ _ _ n hn F b) ?_) | refine Or.inl (Or.inr (zP (Acm) ?_)) | refine zV ?_ | (apply zI; refine zP aM ?_) | (apply zI; refine zP aG ?_) | refine Or.inl ?_) <;> conv => whnf) | fail
   first
     | (refine ⟨.agg [aA m, .ref 2 [] 1 0 n], [none, some (aN o l a3 h3), some ⟨false, 1, rows true (Tb n (comp2N b (bI F (rev (bA m (b.c 1).val) b) (rev (bA m (b.c 1).val) b) n n) 0 n))⟩], ⟨comp2N b (bI F (rev (bA m (b.c 1).val) b) (rev (bA m (b.c 1).val) b) n n) 0 n, a3, h3, ha3, rfl, rfl⟩, aC.of (kp := 2) [none, some 1, some 2] ?_⟩
        (conv => whnf)
        repeat' ((first | refine zP rfl ?_ | refine zP bM ?_ | exact trivial) <;> try (conv => whnf))
        all_goals first | omega | (simp [aB]; done)
        done)
     | (refine ⟨.agg [aA m, .ref 2 [] 1 0 n], [none, some (aN o l a3 h3), some ⟨false, 1, rows true (Tb n (comp2N b (bI F (rev (bA m (b.c 1).val) b) (rev (bA m (b.c 1).val) b) n n) 0 n))⟩], ⟨comp2N b (bI F (rev (bA m (b.c 1).val) b) (rev (bA m (b.c 1).val) b) n n) 0 n, a3, h3, ha3, rfl, rfl⟩, aC.of (kp := 2) [none, some 1, some 3] ?_⟩
        (conv => whnf)
        repeat' ((first | refine zP rfl ?_ | refine zP bM ?_ | exact trivial) <;> try (conv => whnf))
        all_goals first | omega | (simp [aB]; done)
        done)
     | (refine ⟨.agg [aA m, .ref 2 [] 1 0 n], [none, some (aN o l a3 h3), some ⟨false, 1, rows true (Tb n (comp2N b (bI F (rev (bA m (b.c 1).val) b) (rev (bA m (b.c 1).val) b) n n) 0 n))⟩], ⟨comp2N b (bI F (rev (bA m (b.c 1).val) b) (rev (bA m (b.c 1).val) b) n n) 0 n, a3, h3, ha3, rfl, rfl⟩, aC.of (kp := 2) [none, some 1, some 4] ?_⟩
        (conv => whnf)
        repeat' ((first | refine zP rfl ?_ | refine zP bM ?_ | exact trivial) <;> try (conv => whnf))
        all_goals first | omega | (simp [aB]; done)
        done)
     | (refine ⟨.agg [aA m, .ref 2 [] 1 0 n], [none, some (aN o l a3 h3), some ⟨false, 1, rows true (Tb n (comp2N b (bI F (rev (bA m (b.c 1).val) b) (rev (bA m (b.c 1).val) b) n n) 0 n))⟩], ⟨comp2N b (bI F (rev (bA m (b.c 1).val) b) (rev (bA m (b.c 1).val) b) n n) 0 n, a3, h3, ha3, rfl, rfl⟩, aC.of (kp := 2) [none, some 1, some 5] ?_⟩
        (conv => whnf)
        repeat' ((first | refine zP rfl ?_ | refine zP bM ?_ | exact trivial) <;> try (conv => whnf))
        all_goals first | omega | (simp [aB]; done)
        done)
     | (refine ⟨.agg [aA m, .ref 2 [] 1 0 n], [none, some (aN o l a3 h3), some ⟨false, 1, rows true (Tb n (comp2N b (bI F (rev (bA m (b.c 1).val) b) (rev (bA m (b.c 1).val) b) n n) 0 n))⟩], ⟨comp2N b (bI F (rev (bA m (b.c 1).val) b) (rev (bA m (b.c 1).val) b) n n) 0 n, a3, h3, ha3, rfl, rfl⟩, aC.of (kp := 2) [none, some 1, some 6] ?_⟩
        (conv => whnf)
        repeat' ((first | refine zP rfl ?_ | refine zP bM ?_ | exact trivial) <;> try (conv => whnf))
        all_goals first | omega | (simp [aB]; done)
        done)
     | (refine ⟨.agg [aA m, .ref 2 [] 1 0 n], [none, some (aN o l a3 h3), some ⟨false, 1, rows true (Tb n (comp2N b (bI F (rev (bA m (b.c 1).val) b) (rev (bA m (b.c 1).val) b) n n) 0 n))⟩], ⟨comp2N b (bI F (rev (bA m (b.c 1).val) b) (rev (bA m (b.c 1).val) b) n n) 0 n, a3, h3, ha3, rfl, rfl⟩, aC.of (kp := 2) [none, some 1, some 7] ?_⟩
        (conv => whnf)
        repeat' ((first | refine zP rfl ?_ | refine zP bM ?_ | exact trivial) <;> try (conv => whnf))
        all_goals first | omega | (simp [aB]; done)
        done)
     | (refine ⟨.agg [aA m, .ref 2 [] 1 0 n], [none, some (aN o l a3 h3), some ⟨false, 1, rows true (Tb n (comp2N b (bI F (rev (bA m (b.c 1).val) b) (rev (bA m (b.c 1).val) b) n n) 0 n))⟩], ⟨comp2N b (bI F (rev (bA m (b.c 1).val) b) (rev (bA m (b.c 1).val) b) n n) 0 n, a3, h3, ha3, rfl, rfl⟩, aC.of (kp := 2) [none, some 1, some 8] ?_⟩
        (conv => whnf)
        repeat' ((first | refine zP rfl ?_ | refine zP bM ?_ | exact trivial) <;> try (conv => whnf))
        all_goals first | omega | (simp [aB]; done)
        done)
     | (refine ⟨.agg [aA m, .ref 2 [] 1 0 n], [none, some (aN o l a3 h3), some ⟨false, 1, rows true (Tb n (comp2N b (bI F (rev (bA m (b.c 1).val) b) (rev (bA m (b.c 1).val) b) n n) 0 n))⟩], ⟨comp2N b (bI F (rev (bA m (b.c 1).val) b) (rev (bA m (b.c 1).val) b) n n) 0 n, a3, h3, ha3, rfl, rfl⟩, aC.of (kp := 2) [none, some 1, some 9] ?_⟩
        (conv => whnf)
        repeat' ((first | refine zP rfl ?_ | refine zP bM ?_ | exact trivial) <;> try (conv => whnf))
        all_goals first | omega | (simp [aB]; done)
        done)
 · first
     | (refine ⟨.agg [aA m, .ref 2 [] 1 0 n], [none, some (aN o l a2 h2), some ⟨false, 1, rows true (Tb n (F))⟩], ⟨F, a2, h2, ha2, rfl, rfl⟩, aC.of (kp := 2) [none, some 1, some 2] ?_⟩
        (conv => whnf)
        repeat' ((first | refine zP rfl ?_ | refine zP bM ?_ | exact trivial) <;> try (conv => whnf))
        all_goals first | omega | (simp [aB]; done)
        done)
     | (refine ⟨.agg [aA m, .ref 2 [] 1 0 n], [none, some (aN o l a2 h2), some ⟨false, 1, rows true (Tb n (F))⟩], ⟨F, a2, h2, ha2, rfl, rfl⟩, aC.of (kp := 2) [none, some 1, some 3] ?_⟩
        (conv => whnf)
        repeat' ((first | refine zP rfl ?_ | refine zP bM ?_ | exact trivial) <;> try (conv => whnf))
        all_goals first | omega | (simp [aB]; done)
        done)
     | (refine ⟨.agg [aA m, .ref 2 [] 1 0 n], [none, some (aN o l a2 h2), some ⟨false, 1, rows true (Tb n (F))⟩], ⟨F, a2, h2, ha2, rfl, rfl⟩, aC.of (kp := 2) [none, some 1, some 4] ?_⟩
        (conv => whnf)
        repeat' ((first | refine zP rfl ?_ | refine zP bM ?_ | exact trivial) <;> try (conv => whnf))
        all_goals first | omega | (simp [aB]; done)
        done)
     | (refine ⟨.agg [aA m, .ref 2 [] 1 0 n], [none, some (aN o l a2 h2), some ⟨false, 1, rows true (Tb n (F))⟩], ⟨F, a2, h2, ha2, rfl, rfl⟩, aC.of (kp := 2) [none, some 1, some 5] ?_⟩
        (conv => whnf)
        repeat' ((first | refine zP rfl ?_ | refine zP bM ?_ | exact trivial) <;> try (conv => whnf))
        all_goals first | omega | (simp [aB]; done)
        done)
     | (refine ⟨.agg [aA m, .ref 2 [] 1 0 n], [none, some (aN o l a2 h2), some ⟨false, 1, rows true (Tb n (F))⟩], ⟨F, a2, h2, ha2, rfl, rfl⟩, aC.of (kp := 2) [none, some 1, some 6] ?_⟩
        (conv => whnf)
        repeat' ((first | refine zP rfl ?_ | refine zP bM ?_ | exact trivial) <;> try (conv => whnf))
        all_goals first | omega | (simp [aB]; done)
        done)
     | (refine ⟨.agg [aA m, .ref 2 [] 1 0 n], [none, some (aN o l a2 h2), some ⟨false, 1, rows true (Tb n (F))⟩], ⟨F, a2, h2, ha2, rfl, rfl⟩, aC.of (kp := 2) [none, some 1, some 7] ?_⟩
        (conv => whnf)
        repeat' ((first | refine zP rfl ?_ | refine zP bM ?_ | exact trivial) <;> try (conv => whnf))
        all_goals first | omega | (simp [aB]; done)
        done)
     | (refine ⟨.agg [aA m, .ref 2 [] 1 0 n], [none, some (aN o l a2 h2), some ⟨false, 1, rows true (Tb n (F))⟩], ⟨F, a2, h2, ha2, rfl, rfl⟩, aC.of (kp := 2) [none, some 1, some 8] ?_⟩
        (conv => whnf)
        repeat' ((first | refine zP rfl ?_ | refine zP bM ?_ | exact trivial) <;> try (conv => whnf))
        all_goals first | omega | (simp [aB]; done)
        done)
     | (refine ⟨.agg [aA m, .ref 2 [] 1 0 n], [none, some (aN o l a2 h2), some ⟨false, 1, rows true (Tb n (F))⟩], ⟨F, a2, h2, ha2, rfl, rfl⟩, aC.of (kp := 2) [none, some 1, some 9] ?_⟩
        (conv => whnf)
        repeat' ((first | refine zP rfl ?_ | refine zP bM ?_ | exact trivial) <;> try (conv => whnf))
        all_goals first | omega | (simp [aB]; done)
        done)
end Go.Proofs
