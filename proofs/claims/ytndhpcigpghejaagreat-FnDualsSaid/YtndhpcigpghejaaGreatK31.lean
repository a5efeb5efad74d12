import Derived.Test.YtndhpcigpghejaaGreatK135A
import Derived.Test.YtndhpcigpghejaaGreatK133
import Derived.Test.YtndhpcigpghejaaGreatK132
namespace Go.Proofs
open Go Go.Vm Go.Fg Go.Fg.PS
set_option maxRecDepth 100000
set_option maxHeartbeats 4000000
set_option linter.unusedSimpArgs false
set_option linter.unusedVariables false
variable {m : Int}
noncomputable def wstB (hm : Md m) (o : Bool) (n : Nat) (hn : 2 ≤ n ∧ n ≤ 11) {d : Int} (hd : d + 1 = n) (a : PS (Zm m)) (F : PS (PS (Zm m))) : (R : Prop) ×' (Hold R → (wstA hm o n hn hd a F).1) := by
 have hm1 := hm.1
 have hm2 := hm.2
 apply PSigma.mk
 intro h0
 conv => whnf
 intro i hi
 conv => whnf
 have hZ1 : m - 1 = (-1 : Zm m).val := neg_one_val hm
 have hx3 := Zm.val_range hm.pos (a.c (Int.toNat 3))
 have hx4 := Zm.val_range hm.pos (a.c (Int.toNat 4))
 repeat' first | ((first | (apply zI; refine zP (c_l03Times hm _ _ _ _ n vAr _ _) ?_) | (apply zI; refine zP (c_l03Add hm _ _ _ _ n vAr _ _) ?_) | (apply zI; refine zP (c_l03Scale hm _ _ n vAr (-1) hZ1 _) ?_) | (refine And.intro (fun h => ?_) (fun h => ?_) <;> (try simp only [cnt1, ints_length] at h)) | refine zS ?_ | refine zV ?_ | (apply zI; refine zP vObt ?_) | (apply zI; refine zP vObx ?_) | refine Alt.fst ?_ | refine Or.inl ?_) <;> conv => whnf) | fail
 · have hin : i < n := vAr
   refine Exists.intro (i + 1) (And.intro vAr (And.intro vAr ?_))
   first | refine WeakS.autoR ?_ | refine Weak.autoR ?_
   conv => whnf
   repeat' ((first | refine z1 ?_ | refine zV ?_ | refine And.intro ?_ ?_ | exact trivial) <;> try (conv => whnf))
   all_goals first
     | exact rows_congr (setT_eq ((w0 n a).c i) rfl (by omega) (Ag2.of_eq rfl))
 have hin : n = i := by omega
 subst hin
 rw [show frWv (w0 n a) n + PS.C (PS.C (-1)) * (wLN n a * upd2 0 1 0 1) = wVv n a from rfl]
 rw [show wLN n a * wLN n a = wSQ n a from rfl]
 repeat' first | ((first | (apply zI; refine zP (c_l03Scale hm _ _ n vAr (a.c 0) rfl _) ?_) | (apply zI; refine zP (c_l03Scale hm _ _ n vAr (a.c 1) rfl _) ?_) | (apply zI; refine zP (c_l03Add hm _ _ _ _ n vAr _ _) ?_) | refine zV ?_ | (apply zI; refine zP vObt ?_) | (apply zI; refine zP vObx ?_) | refine Or.inl ?_) <;> conv => whnf) | fail
 rw [show PS.C (PS.C (a.c 0)) * wLN n a + PS.C (PS.C (a.c 1)) * wVv n a = wT1 n a from rfl]
 repeat' first | ((first | (apply zI; refine zP (c_l03Scale hm _ _ n vAr (a.c 2) rfl _) ?_) | (apply zI; refine zP (c_l03Add hm _ _ _ _ n vAr _ _) ?_) | (apply zI; refine zP (c_l03Times hm _ _ _ _ n vAr _ _) ?_) | refine zS ?_ | refine zV ?_ | (apply zI; refine zP vObt ?_) | (apply zI; refine zP vObx ?_) | refine Alt.fst ?_ | refine Or.inl ?_) <;> conv => whnf) | fail
 rw [show wT1 n a + PS.C (PS.C (a.c 2)) * wSQ n a = wT2 n a from rfl]
 rw [show wLN n a * wVv n a = wLV n a from rfl]
 repeat' first | ((first | (apply zI; refine zP (c_l03Scale hm _ _ n vAr (Zm.mk m (2 * (a.c (Int.toNat 3)).val)) (tm_mk hm (by omega)) _) ?_) | (apply zI; refine zP (c_l03Add hm _ _ _ _ n vAr _ _) ?_) | (apply zI; refine zP (c_l03Times hm _ _ _ _ n vAr _ _) ?_) | refine zS ?_ | refine zV ?_ | (apply zI; refine zP vObt ?_) | (apply zI; refine zP vObx ?_) | refine Alt.fst ?_ | refine Or.inl ?_) <;> conv => whnf) | fail
 rw [show wT2 n a + PS.C (PS.C (Zm.mk m (2 * (a.c (Int.toNat 3)).val))) * wLV n a = wT3 n a from rfl]
 rw [show wSQ n a * wVv n a = wSV n a from rfl]
 repeat' first | ((first | (apply zI; refine zP (c_l03Scale hm _ _ n vAr (Zm.mk m (3 * (a.c (Int.toNat 4)).val)) (tm_mk hm (by omega)) _) ?_) | (apply zI; refine zP (c_l03Add hm _ _ _ _ n vAr _ _) ?_) | refine zS ?_ | refine zV ?_ | (apply zI; refine zP vObt ?_) | (apply zI; refine zP vObx ?_) | refine Alt.fst ?_ | refine Or.inl ?_) <;> conv => whnf) | fail
 rw [show wT3 n a + PS.C (PS.C (Zm.mk m (3 * (a.c (Int.toNat 4)).val))) * wSV n a = wT4 n a from rfl]
 repeat' first | ((first | (apply zI; refine zP (c_l03Scale hm _ _ n vAr (a.c 1) rfl _) ?_) | (apply zI; refine zP (c_l03Scale hm _ _ n vAr (a.c 3) rfl _) ?_) | (apply zI; refine zP (c_l03Add hm _ _ _ _ n vAr _ _) ?_) | (apply zI; refine zP (c_l03Times hm _ _ _ _ n vAr _ _) ?_) | refine zS ?_ | refine zV ?_ | (apply zI; refine zP vObt ?_) | (apply zI; refine zP vObx ?_) | refine Alt.fst ?_ | refine Or.inl ?_) <;> conv => whnf) | fail
 rw [show PS.C (PS.C (a.c 1)) * wLN n a + PS.C (PS.C (a.c 3)) * wSQ n a = wB1 n a from rfl]
 rw [show wSQ n a * wLN n a = wSL n a from rfl]
 repeat' first | ((first | (apply zI; refine zP (c_l03Scale hm _ _ n vAr (a.c 4) rfl _) ?_) | (apply zI; refine zP (c_l03Add hm _ _ _ _ n vAr _ _) ?_) | refine zV ?_ | (apply zI; refine zP vObt ?_) | (apply zI; refine zP vObx ?_) | refine Or.inl ?_) <;> conv => whnf) | fail
 rw [show wB1 n a + PS.C (PS.C (a.c 4)) * wSL n a = wB2 n a from rfl]
 exact h0.out
theorem sgLd (hm : Md m) (i : Nat) : LoadRow [dint 1, dint (m - 1)] [] (place 1 0 ((i : Int).tmod 2).toNat) (dint ((sgS : PS (Zm m)).c i).val) := by
 have h1 : (1 : Int) = (1 : Zm m).val := (Zm.val_one (by have := hm.1; omega)).symm
 have e : ((i : Int).tmod 2).toNat = i % 2 := by rw [Int.tmod_eq_emod_of_nonneg (by omega)]; omega
 refine ⟨_, rfl, ?_⟩
 unfold place sgS
 rw [e]
 rcases Nat.mod_two_eq_zero_or_one i with h | h
 · rw [h]; simp only [if_pos h, ← h1]; rfl
 · rw [h]; simp only [if_neg (show ¬i % 2 = 0 by omega), ← neg_one_val hm]; rfl
noncomputable def wstC (hm : Md m) (o : Bool) (n : Nat) (hn : 2 ≤ n ∧ n ≤ 11) {d : Int} (hd : d + 1 = n) (a : PS (Zm m)) (F : PS (PS (Zm m))) : (R : Prop) ×' (Hold R → (wstB hm o n hn hd a F).1) := by
 have hm1 := hm.1
 have hm2 := hm.2
 apply PSigma.mk
 intro h0
 conv => whnf
 refine loop_cutR Tryz.tabOk mixOrd 26 (α := Nat) (fun i => [(7, .ref 0 [] 1 0 (n + 1)), (8, .undef), (11, .ref 2 [] 1 0 n), (12, .undef), (13, .undef), (14, .undef), (15, .undef), (16, .ref 18 [] 1 0 n), (17, .ref 24 [] 1 0 n), (18, .ref 25 [] 1 0 i), (19, dint i)]) (fun i => [(25, some ⟨false, 1, ints (L i (sgS : PS (Zm m)))⟩)]) (fun i => i ≤ n) (fun i => n - i) (0) ?_ ?_ ?_
 · omega
 · conv => whnf
   first | refine WeakS.autoR ?_ | refine Weak.autoR ?_
   conv => whnf
   repeat' ((first | refine z1 ?_ | refine zV ?_ | refine And.intro ?_ ?_ | exact trivial) <;> try (conv => whnf))
   all_goals first | rfl
 intro i hi
 conv => whnf
 repeat' first | ((refine Exists.intro (dint ((sgS : PS (Zm m)).c i).val) (And.intro (sgLd hm i) ?_); conv => whnf)) | ((first | (refine And.intro (fun h => ?_) (fun h => ?_) <;> (try simp only [cnt1, ints_length] at h) <;> first | (exfalso; omega) | skip) | refine zV ?_ | (apply zI; refine zP vObt ?_) | (apply zI; refine zP vObx ?_) | refine Or.inl ?_) <;> conv => whnf) | fail
 · have hin : i < n := vAr
   refine Exists.intro (i + 1) (And.intro vAr (And.intro vAr ?_))
   first | refine WeakS.autoR ?_ | refine Weak.autoR ?_
   conv => whnf
   repeat' ((first | refine z1 ?_ | refine zV ?_ | refine And.intro ?_ ?_ | exact trivial) <;> try (conv => whnf))
   all_goals first
     | omega
     | exact ints_congr' (L_push rfl)
 have hin : n = i := by omega
 subst hin
 repeat' first | ((first | (apply zI; refine zP (c_l03After hm _ _ _ n (by omega) n (by omega) sgS (wB2 n a)) ?_) | (apply zI; refine zP (c_l03Times hm _ _ _ _ n vAr (wT4 n a) (comp2N sgS (wB2 n a) 0 n)) ?_) | (apply zI; refine zP (c_l03Turn _ _ n (by omega) (upd2 0 1 0 1)) ?_) | (apply zI; refine zP (c_l03Add hm _ _ _ _ n vAr _ _) ?_) | (apply zI; refine zP (c_l03Scale hm _ _ n vAr (-1) (neg_one_val hm) _) ?_) | refine zV ?_ | (apply zI; refine zP vObt ?_) | (apply zI; refine zP vObx ?_) | refine Or.inl ?_) <;> conv => whnf) | fail
 rw [show wT4 n a * comp2N sgS (wB2 n a) 0 n = wQ n a from rfl]
 rw [show PS.C (PS.C (-1)) * (upd2 0 1 0 1 + turn (upd2 0 1 0 1) + wQ n a) = wU n a from rfl]
 exact h0.out
theorem tm_rng (hm : Md m) {x : Int} (h : 0 ≤ x) : 0 ≤ x.tmod m ∧ x.tmod m < m := by
 have := hm.pos
 rw [Int.tmod_eq_emod_of_nonneg h]
 exact ⟨Int.emod_nonneg _ (by omega), Int.emod_lt_of_pos _ (by omega)⟩
theorem bl_one (hm : Md m) {n : Nat} {a : PS (Zm m)} : [dint 1] = ints (L (0 + 1) (wBl n a)) := by
 have h1 : (1 : Int) = (1 : Zm m).val := (Zm.val_one (by have := hm.1; omega)).symm
 show _ = [dint (1 : Zm m).val]
 rw [← h1]
def tS : PS (Zm m) := ⟨fun k => if k = 1 then -1 else 0⟩
theorem tS_list (hm : Md m) {n : Nat} (hn : 2 ≤ n ∧ n ≤ 11) {d : Int} (hd : d + 1 = n) : (List.replicate (d + 1).toNat (0 : Int)).set 1 (m - 1) = L n (tS : PS (Zm m)) := by
 rw [show (d + 1).toNat = n by omega]
 refine List.ext_getElem (by simp) (fun i h1 h2 => ?_)
 rw [List.getElem_set, L_getElem]
 unfold tS
 by_cases h : 1 = i
 · rw [if_pos h]; simp only [if_pos h.symm]; exact neg_one_val hm
 · rw [if_neg h]; simp only [if_neg (Ne.symm h), List.getElem_replicate]; rfl
theorem c_l08Weierstrass (hm : Md m) (o : Bool) (n : Nat) (hn : 2 ≤ n ∧ n ≤ 11) {d : Int} (hd : d + 1 = n) (a : PS (Zm m)) : PureCall Tryz.prog 184 [dint m, dint d, LD o 5 a] (TbD true true n (wF n a)) := by
 have hm1 := hm.1
 have hm2 := hm.2
 refine (wstA hm o n hn hd a (wF n a)).2 ⟨(wstB hm o n hn hd a (wF n a)).2 ⟨(wstC hm o n hn hd a (wF n a)).2 ⟨?_⟩⟩⟩
 conv => whnf
 refine loop_cutR Tryz.tabOk mixOrd 26 (α := Nat) (fun k => [(7, .ref 0 [] 1 0 (n + 1)), (11, .undef), (16, .undef), (17, .undef), (18, .undef), (19, .undef), (20, .undef), (21, .ref 31 [] 1 0 n), (22, .ref 32 [] 1 0 (k + 1)), (23, dint ((k : Int) + 1)), (24, .undef)]) (fun k => [(32, some ⟨false, 1, ints (L (k + 1) (wBl n a))⟩)]) (fun k => k + 1 ≤ n) (fun k => n - k) (0) ?_ ?_ ?_
 · omega
 · conv => whnf
   first | refine WeakS.autoR ?_ | refine Weak.autoR ?_
   conv => whnf
   repeat' ((first | refine z1 ?_ | refine zV ?_ | refine And.intro ?_ ?_ | exact trivial) <;> try (conv => whnf))
   all_goals first | rfl | exact bl_one hm
 intro k hk
 conv => whnf
 have hx2 := hm.mul (a.c (Int.toNat 2)) ((w0 n a).c (k + 1))
 have hx0 := Zm.val_range hm.pos (a.c 0)
 have e1 : ((k : Int) + 1).toNat = k + 1 := by omega
 by_cases hk9 : k + 1 < n
 · have hy1 := tm_rng hm (x := (a.c (Int.toNat 2)).val * ((w0 n a).c (k + 1)).val + (a.c 0).val) (by omega)
   have hy2 := tm_rng hm (x := (a.c (Int.toNat 2)).val * ((w0 n a).c (k + 1)).val) (by omega)
   repeat' first | ((first | (refine And.intro (fun h => ?_) (fun h => ?_) <;> (try simp only [cnt1, ints_length] at h) <;> first | (exfalso; omega) | skip) | refine zS ?_ | refine zV ?_ | (apply zI; refine zP vObt ?_) | (apply zI; refine zP vObx ?_)) <;> conv => whnf) | fail
   · refine Exists.intro (k + 1) (And.intro vAr (And.intro vAr ?_))
     first | refine WeakS.autoR ?_ | refine Weak.autoR ?_
     conv => whnf
     repeat' ((first | refine z1 ?_ | refine zV ?_ | refine And.intro ?_ ?_ | exact trivial) <;> try (conv => whnf))
     all_goals first
       | omega
       | exact ints_congr' (L_push (by unfold wBl blS; simp only [if_neg (show ¬k + 1 = 0 by omega), if_pos (show k + 1 = 1 by omega)]; exact tm_mk hm (by omega)))
   · refine Exists.intro (k + 1) (And.intro vAr (And.intro vAr ?_))
     first | refine WeakS.autoR ?_ | refine Weak.autoR ?_
     conv => whnf
     repeat' ((first | refine z1 ?_ | refine zV ?_ | refine And.intro ?_ ?_ | exact trivial) <;> try (conv => whnf))
     all_goals first
       | omega
       | exact ints_congr' (L_push (by unfold wBl blS; simp only [if_neg (show ¬k + 1 = 0 by omega), if_neg (show ¬k + 1 = 1 by omega), Int.add_zero]; exact tm_mk hm (by omega)))
 have hkn : n = k + 1 := by omega
 repeat' first | ((first | (apply zI; refine zP (c_l02Inverse hm _ n (k + 1) hd (by omega) (by omega) (by omega) (wBl n a) _ (c_l01Inv hm _)) ?_) | (refine And.intro (fun h => ?_) (fun h => ?_) <;> (try simp only [cnt1, ints_length] at h) <;> first | (exfalso; omega) | skip) | refine zV ?_ | (apply zI; refine zP vObx ?_) | refine Or.inl ?_) <;> conv => whnf) | fail
 rw [tS_list hm hn hd]
 repeat' first | ((first | refine z0 ?_ | (apply zI; refine zP (c_l02Times hm _ _ n n n hd (by omega) (by omega) (by omega) (by omega) (by omega) (tS : PS (Zm m)) (inv (invN m ((wBl n a).c 0).val) (wBl n a))) ?_) | (apply zI; refine zP (c_l03After hm _ _ _ n (by omega) n (by omega) (tS * inv (invN m ((wBl n a).c 0).val) (wBl n a)) (wU n a)) ?_) | refine zV ?_ | (apply zI; refine zP vObt ?_) | (apply zI; refine zP vObx ?_) | refine Or.inl ?_) <;> conv => whnf) | fail
 all_goals rfl
abbrev plF (m : Int) (t : List (List Int)) : D := .agg [dint m, .list false 1 (rows false t)]
theorem fz_tup2 {r : Nat} {cs : List D} {a a' b b' : D} (h1 : Fz r cs a a') (h2 : Fz r cs b b') : Fz r cs (.tup [a, b]) (.tup [a', b']) :=
 .tup _ _ rfl (fun i d d' hd hd' => by
   match i, hd, hd' with
   | 0, hd, hd' => simp at hd hd'; subst hd; subst hd'; exact h1
   | 1, hd, hd' => simp at hd hd'; subst hd; subst hd'; exact h2
   | i + 2, hd, hd' => simp at hd)
end Go.Proofs
namespace Go.Proofs
open Go Go.Vm Go.Fg Go.Fg.PS
set_option maxRecDepth 100000
set_option maxHeartbeats 4000000
set_option linter.unusedSimpArgs false
set_option linter.unusedVariables false
def primB (p : Int) : Bool := decide (p = 2) || (decide (p = 3) || (decide (p = 5) || decide (p = 7)))
theorem c_isTypicalPrime (p : Int) : PureCall Tryz.prog 319 [dint p] (dbool (primB p)) := by
 refine pure_of_vcR Tryz.tabOk mixOrd Tryz.func319 rfl rfl ?_
 conv => whnf
 repeat' first | ((first | refine z0 ?_ | (refine And.intro (fun h => ?_) (fun h => ?_) <;> (try simp only [cnt1, ints_length] at h)) | refine zS ?_ | refine zV ?_ | (apply zI; refine zP vObt ?_) | (apply zI; refine zP vObx ?_) | refine zA ?_ | refine Alt.fst ?_ | refine Or.inl ?_) <;> conv => whnf) | fail
 all_goals (refine dbool_congr ?_; first | rfl | (simp_all [primB]; done) | (simp_all [primB]; omega) | (simp_all [primB]; intros; omega))
end Go.Proofs
