import Derived.Test.YtndhpcigpghejaaGreatK127
namespace Go.Proofs
open Go Go.Vm Go.Fg Go.Fg.PS
set_option maxRecDepth 100000
set_option maxHeartbeats 4000000
set_option linter.unusedSimpArgs false
set_option linter.unusedVariables false
variable {m : Int}
def wV (z : Nat → Zm m) (w : PS (Zm m)) (k : Nat) : Int := (z 0).val * (w.c (k - 1)).val + (z 1).val * (w.c (k - 2)).val + (z 2).val * ((w * w).c k).val + (z 3).val * ((w * w).c (k - 1)).val + (z 4).val * ((w * w * w).c k).val + (if k = 3 then 1 else 0)
def wS (z : Nat → Zm m) : Nat → PS (Zm m)
 | 0 => 0
 | t + 1 => (wS z t).upd (t + 3) (Zm.mk m (wV z (wS z t) (t + 3)))
theorem wS_set (hm : Md m) {z : Nat → Zm m} {n t : Nat} {X : Int} (h : 0 ≤ X) (e : X = wV z (wS z t) (t + 3)) : (L n (wS z t)).set (t + 3) (X.tmod m) = L n (wS z (t + 1)) :=
 L_set_eq _ (by rw [tm_mk hm h, e]) (fun k hk => rfl)
theorem c_l08Series (hm : Md m) (o : Bool) (n : Nat) (hn : 3 ≤ n ∧ n ≤ 12) {d : Int} (hd : d + 1 = n) (a : PS (Zm m)) : PureCall Tryz.prog 187 [dint m, dint d, LD o 5 a] (LD true n (wS a.c (n - 3))) := by
 have hm1 := hm.1
 have hm2 := hm.2
 refine pure_of_vcR Tryz.tabOk mixOrd Tryz.func187 rfl rfl ?_
 conv => whnf
 repeat' first | ((first | refine z0 ?_ | (refine And.intro (fun h => ?_) (fun h => ?_) <;> (try simp only [cnt1, ints_length] at h)) | refine zS ?_ | refine zV ?_ | (apply zI; refine zP vObt ?_) | (apply zI; refine zP vObx ?_) | refine zA ?_ | refine Alt.fst ?_ | refine Or.inl ?_) <;> conv => whnf) | fail
 refine loop_atR Tryz.tabOk mixOrd (α := Nat) (fun t => [(8, dint ((t : Int) + 3)), (7, .ref 0 [] 1 0 n), (14, .undef), (9, .undef), (10, .undef)]) (fun t => [(0, some ⟨false, 1, ints (L n (wS a.c t))⟩)]) (fun t => t + 3 ≤ n) (fun t => n - t) (0) ?_ ?_ ?_
 · omega
 · conv => whnf
   first | refine WeakS.autoR ?_ | refine Weak.autoR ?_
   conv => whnf
   repeat' ((first | refine z1 ?_ | refine z2 ?_ | refine zV ?_ | refine And.intro vRepl ?_ | refine And.intro vReplL ?_ | refine And.intro ?_ ?_ | exact trivial) <;> try (conv => whnf))
   all_goals first
     | omega
     | exact ints_congr' (by rw [show (d + 1).toNat = n by omega, ← L_zero (m := m)]; rfl)
 intro t ht
 conv => whnf
 by_cases htn : t + 3 < n
 · have hx0 := hm.mul (a.c 0) ((wS a.c t).c (t + 2))
   have hx1 := hm.mul (a.c 1) ((wS a.c t).c (t + 1))
   have hx2 := hm.mul (a.c (Int.toNat 2)) ((wS a.c t * wS a.c t).c (t + 3))
   have hx3 := hm.mul (a.c (Int.toNat 3)) ((wS a.c t * wS a.c t).c (t + 2))
   have hx4 := hm.mul (a.c (Int.toNat 4)) ((wS a.c t * wS a.c t * wS a.c t).c (t + 3))
   repeat' first | ((first | refine z0 ?_ | (apply zI; refine zP (c_l02Times hm _ _ (t + 4) n n (by omega) (by omega) (by omega) (by omega) (by omega) (by omega) (wS a.c t) (wS a.c t)) ?_) | (apply zI; refine zP (c_l02Times hm _ _ (t + 4) (t + 4) n (by omega) (by omega) (by omega) (by omega) (by omega) (by omega) (wS a.c t * wS a.c t) (wS a.c t)) ?_) | (refine And.intro (fun h => ?_) (fun h => ?_) <;> (try simp only [cnt1, ints_length] at h) <;> first | (exfalso; omega) | skip) | refine zS ?_ | refine zV ?_ | (apply zI; refine zP vObt ?_) | (apply zI; refine zP vObx ?_) | refine zA ?_ | refine Alt.fst ?_ | refine Or.inl ?_) <;> conv => whnf) | fail
   have e1 : ((t : Int) + 3 - 1).toNat = t + 2 := by omega
   have e2 : ((t : Int) + 3 - 2).toNat = t + 1 := by omega
   have e3 : ((t : Int) + 3).toNat = t + 3 := by omega
   rw [e1, e2]
   repeat' first | ((first | refine z0 ?_ | (refine And.intro (fun h => ?_) (fun h => ?_) <;> (try simp only [cnt1, ints_length] at h) <;> first | (exfalso; omega) | skip) | refine zS ?_ | refine zV ?_ | (apply zI; refine zP vObt ?_) | (apply zI; refine zP vObx ?_) | refine zA ?_ | refine And.intro ((inR64 (by omega) (by omega))) ?_ | refine Alt.fst ?_ | refine Or.inl ?_) <;> conv => whnf) | fail
   rw [e3]
   repeat' first | ((first | refine z0 ?_ | (refine And.intro (fun h => ?_) (fun h => ?_) <;> (try simp only [cnt1, ints_length] at h) <;> first | (exfalso; omega) | skip) | refine zS ?_ | refine zV ?_ | (apply zI; refine zP vObt ?_) | (apply zI; refine zP vObx ?_) | refine zA ?_ | refine And.intro ((inR64 (by omega) (by omega))) ?_ | refine Alt.fst ?_ | refine Or.inl ?_) <;> conv => whnf) | fail
   rw [e1]
   repeat' first | ((first | refine z0 ?_ | (refine And.intro (fun h => ?_) (fun h => ?_) <;> (try simp only [cnt1, ints_length] at h) <;> first | (exfalso; omega) | skip) | refine zS ?_ | refine zV ?_ | (apply zI; refine zP vObt ?_) | (apply zI; refine zP vObx ?_) | refine zA ?_ | refine And.intro ((inR64 (by omega) (by omega))) ?_ | refine Alt.fst ?_ | refine Or.inl ?_) <;> conv => whnf) | fail
   rw [e3]
   repeat' first | ((first | refine z0 ?_ | (refine And.intro (fun h => ?_) (fun h => ?_) <;> (try simp only [cnt1, ints_length] at h) <;> first | (exfalso; omega) | skip) | refine zS ?_ | refine zV ?_ | (apply zI; refine zP vObt ?_) | (apply zI; refine zP vObx ?_) | refine zA ?_ | refine And.intro ((inR64 (by omega) (by omega))) ?_ | refine Alt.fst ?_ | refine Or.inl ?_) <;> conv => whnf) | fail
   · refine Exists.intro (t + 1) (And.intro vAr (And.intro vAr ?_))
     first | refine WeakS.autoR ?_ | refine Weak.autoR ?_
     conv => whnf
     repeat' ((first | refine z1 ?_ | refine z2 ?_ | refine zV ?_ | refine And.intro vRepl ?_ | refine And.intro vReplL ?_ | refine And.intro ?_ ?_ | exact trivial) <;> try (conv => whnf))
     all_goals first
       | omega
       | exact ints_congr' (wS_set hm (by omega) (by unfold wV; rw [if_pos (by omega)]; rfl))
   · refine Exists.intro (t + 1) (And.intro vAr (And.intro vAr ?_))
     first | refine WeakS.autoR ?_ | refine Weak.autoR ?_
     conv => whnf
     repeat' ((first | refine z1 ?_ | refine z2 ?_ | refine zV ?_ | refine And.intro vRepl ?_ | refine And.intro vReplL ?_ | refine And.intro ?_ ?_ | exact trivial) <;> try (conv => whnf))
     all_goals first
       | omega
       | exact ints_congr' (wS_set hm (by omega) (by unfold wV; rw [if_neg (by omega), Int.add_zero]; rfl))
 · repeat' first | ((first | refine z0 ?_ | (refine And.intro (fun h => ?_) (fun h => ?_) <;> (try simp only [cnt1, ints_length] at h) <;> first | (exfalso; omega) | skip) | refine zS ?_ | refine zV ?_ | (apply zI; refine zP vObt ?_) | (apply zI; refine zP vObx ?_) | refine zA ?_ | refine Alt.fst ?_ | refine Or.inl ?_) <;> conv => whnf) | fail
   have htn2 : t = n - 3 := by omega
   rw [htn2]
end Go.Proofs
