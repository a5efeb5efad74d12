import Derived.Test.YtndhpcigpghejaaGreatK135C
import Derived.Test.YtndhpcigpghejaaGreatK133
import Derived.Test.YtndhpcigpghejaaGreatK132
import Derived.Test.YtndhpcigpghejaaGreatVm32
import Derived.Test.YtndhpcigpghejaaGreatK134
namespace Go.Proofs
open Go Go.Vm Go.Fg Go.Fg.PS
set_option maxRecDepth 100000
set_option maxHeartbeats 4000000
set_option linter.unusedSimpArgs false
set_option linter.unusedVariables false
variable {m : Int}
theorem tm_rng (hm : Md m) {x : Int} (h : 0 ≤ x) : 0 ≤ x.tmod m ∧ x.tmod m < m := by
 have := hm.pos
 rw [Int.tmod_eq_emod_of_nonneg h]
 exact ⟨Int.emod_nonneg _ (by omega), Int.emod_lt_of_pos _ (by omega)⟩
theorem bl_one (hm : Md m) {n : Nat} {a : PS (Zm m)} : [dint 1] = ints (L (0 + 1) (wBl n a)) := by
 have h1 : (1 : Int) = (1 : Zm m).val := (Zm.val_one (by have := hm.1; omega)).symm
 show _ = [dint (1 : Zm m).val]
 rw [← h1]
def tS : PS (Zm m) := ⟨fun k => if k = 1 then -1 else 0⟩
theorem tS_list (hm : Md m) {n : Nat} (hn : 2 ≤ n ∧ n ≤ 11) {d : Int} (hd : d + 1 = n) : (List.replicate (d + 1).toNat (0 : Int)).set 1 (m - 1) = L n (tS : PS (Zm m)) := by
 rw [show (d + 1).toNat = n by omega]
 refine List.ext_getElem (by simp) (fun i h1 h2 => ?_)
 rw [List.getElem_set, L_getElem]
 unfold tS
 by_cases h : 1 = i
 · rw [if_pos h]; simp only [if_pos h.symm]; exact neg_one_val hm
 · rw [if_neg h]; simp only [if_neg (Ne.symm h), List.getElem_replicate]; rfl
theorem c_l08Weierstrass (hm : Md m) (o : Bool) (n : Nat) (hn : 2 ≤ n ∧ n ≤ 11) {d : Int} (hd : d + 1 = n) (a : PS (Zm m)) : PureCall Tryz.prog 184 [dint m, dint d, LD o 5 a] (TbD true true n (wF n a)) := by
 have hm1 := hm.1
 have hm2 := hm.2
 refine (wstA hm o n hn hd a (wF n a)).2 ⟨(wstB hm o n hn hd a (wF n a)).2 ⟨(wstC hm o n hn hd a (wF n a)).2 ⟨?_⟩⟩⟩
 conv => whnf
 refine loop_cutR Tryz.tabOk mixOrd 26 (α := Nat) (fun k => [(7, .ref 0 [] 1 0 (n + 1)), (11, .undef), (16, .undef), (17, .undef), (18, .undef), (19, .undef), (20, .undef), (21, .ref 31 [] 1 0 n), (22, .ref 32 [] 1 0 (k + 1)), (23, dint ((k : Int) + 1)), (24, .undef)]) (fun k => [(32, some ⟨false, 1, ints (L (k + 1) (wBl n a))⟩)]) (fun k => k + 1 ≤ n) (fun k => n - k) (0) ?_ ?_ ?_
 · omega
 · conv => whnf
   first | refine WeakS.autoR ?_ | refine Weak.autoR ?_
   conv => whnf
   repeat' ((first | refine z1 ?_ | refine z2 ?_ | refine zV ?_ | refine And.intro vRepl ?_ | refine And.intro vReplL ?_ | refine And.intro ?_ ?_ | exact trivial) <;> try (conv => whnf))
   all_goals first | rfl | exact bl_one hm
 intro k hk
 conv => whnf
 have hx2 := hm.mul (a.c (Int.toNat 2)) ((w0 n a).c (k + 1))
 have hx0 := Zm.val_range hm.pos (a.c 0)
 have e1 : ((k : Int) + 1).toNat = k + 1 := by omega
 by_cases hk9 : k + 1 < n
 · have hy1 := tm_rng hm (x := (a.c (Int.toNat 2)).val * ((w0 n a).c (k + 1)).val + (a.c 0).val) (by omega)
   have hy2 := tm_rng hm (x := (a.c (Int.toNat 2)).val * ((w0 n a).c (k + 1)).val) (by omega)
   repeat' first | ((first | refine z0 ?_ | (refine And.intro (fun h => ?_) (fun h => ?_) <;> (try simp only [cnt1, ints_length] at h) <;> first | (exfalso; omega) | skip) | refine zS ?_ | refine zV ?_ | (apply zI; refine zP vObt ?_) | (apply zI; refine zP vObx ?_) | refine zA ?_ | refine And.intro ((inR64 (by omega) (by omega))) ?_ | refine Alt.fst ?_ | refine Or.inl ?_) <;> conv => whnf) | fail
   · refine Exists.intro (k + 1) (And.intro vAr (And.intro vAr ?_))
     first | refine WeakS.autoR ?_ | refine Weak.autoR ?_
     conv => whnf
     repeat' ((first | refine z1 ?_ | refine z2 ?_ | refine zV ?_ | refine And.intro vRepl ?_ | refine And.intro vReplL ?_ | refine And.intro ?_ ?_ | exact trivial) <;> try (conv => whnf))
     all_goals first
       | omega
       | exact ints_congr' (L_push (by unfold wBl blS; simp only [if_neg (show ¬k + 1 = 0 by omega), if_pos (show k + 1 = 1 by omega)]; exact tm_mk hm (by omega)))
   · refine Exists.intro (k + 1) (And.intro vAr (And.intro vAr ?_))
     first | refine WeakS.autoR ?_ | refine Weak.autoR ?_
     conv => whnf
     repeat' ((first | refine z1 ?_ | refine z2 ?_ | refine zV ?_ | refine And.intro vRepl ?_ | refine And.intro vReplL ?_ | refine And.intro ?_ ?_ | exact trivial) <;> try (conv => whnf))
     all_goals first
       | omega
       | exact ints_congr' (L_push (by unfold wBl blS; simp only [if_neg (show ¬k + 1 = 0 by omega), if_neg (show ¬k + 1 = 1 by omega), Int.add_zero]; exact tm_mk hm (by omega)))
 have hkn : n = k + 1 := by omega
 repeat' first | ((first | refine z0 ?_ | (apply zI; refine zP (c_l02Inverse hm _ n (k + 1) hd (by omega) (by omega) (by omega) (wBl n a) _ (c_l01Inv hm _)) ?_) | (refine And.intro (fun h => ?_) (fun h => ?_) <;> (try simp only [cnt1, ints_length] at h) <;> first | (exfalso; omega) | skip) | refine zS ?_ | refine zV ?_ | (apply zI; refine zP vObt ?_) | (apply zI; refine zP vObx ?_) | refine zA ?_ | refine Alt.fst ?_ | refine Or.inl ?_) <;> conv => whnf) | fail
 rw [tS_list hm hn hd]
 repeat' first | ((first | refine z0 ?_ | (apply zI; refine zP (c_l02Times hm _ _ n n n hd (by omega) (by omega) (by omega) (by omega) (by omega) (tS : PS (Zm m)) (inv (invN m ((wBl n a).c 0).val) (wBl n a))) ?_) | (apply zI; refine zP (c_l03After hm _ _ _ n (by omega) n (by omega) (tS * inv (invN m ((wBl n a).c 0).val) (wBl n a)) (wU n a)) ?_) | (refine And.intro (fun h => ?_) (fun h => ?_) <;> (try simp only [cnt1, ints_length] at h) <;> first | (exfalso; omega) | skip) | refine zS ?_ | refine zV ?_ | (apply zI; refine zP vObt ?_) | (apply zI; refine zP vObx ?_) | refine zA ?_ | refine Alt.fst ?_ | refine Or.inl ?_) <;> conv => whnf) | fail
 all_goals rfl
abbrev plF (m : Int) (t : List (List Int)) : D := .agg [dint m, .list false 1 (rows false t)]
theorem fz_tup2 {r : Nat} {cs : List D} {a a' b b' : D} (h1 : Fz r cs a a') (h2 : Fz r cs b b') : Fz r cs (.tup [a, b]) (.tup [a', b']) :=
 .tup _ _ rfl (fun i d d' hd hd' => by
   match i, hd, hd' with
   | 0, hd, hd' => simp at hd hd'; subst hd; subst hd'; exact h1
   | 1, hd, hd' => simp at hd hd'; subst hd; subst hd'; exact h2
   | i + 2, hd, hd' => simp at hd)
end Go.Proofs
namespace Go.Proofs
open Go Go.Vm Go.Fg Go.Fg.PS
set_option maxRecDepth 100000
set_option maxHeartbeats 4000000
set_option linter.unusedSimpArgs false
set_option linter.unusedVariables false
end Go.Proofs
namespace Go.Proofs
open Go Go.Vm Go.Fg Go.Fg.PS
set_option maxRecDepth 100000
set_option linter.unusedSimpArgs false
set_option linter.unusedVariables false
variable {m : Int}
end Go.Proofs
namespace Go.Proofs
open Go Go.Vm Go.Fg Go.Fg.PS
set_option maxRecDepth 100000
set_option maxHeartbeats 4000000
set_option linter.unusedSimpArgs false
set_option linter.unusedVariables false
end Go.Proofs
