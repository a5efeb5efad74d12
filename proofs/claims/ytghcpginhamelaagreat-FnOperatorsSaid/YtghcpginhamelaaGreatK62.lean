/- Parts of the proof. -/
import Derived.Test.YtghcpginhamelaaGreatK135B
import Derived.Test.YtghcpginhamelaaGreatVm32
import Derived.Test.YtghcpginhamelaaGreatK154
import Derived.Test.YtghcpginhamelaaGreatK112
import Derived.Test.YtghcpginhamelaaGreatAlg21
namespace Go.Proofs
open Go Go.Vm Go.Fg Go.Fg.PS
set_option maxRecDepth 100000
set_option maxHeartbeats 4000000
set_option linter.unusedSimpArgs false
set_option linter.unusedVariables false
variable {m : Int}
theorem Aj5 (hm : Md m) (i : Nat) : eW [aA 1, aA (m - 1)] [] (place 1 0 ((i : Int).tmod 2).toNat) (aA ((pK : PS (Zm m)).c i).val) := by
 have h1 : (1 : Int) = (1 : Zm m).val := (Zm.val_one (by have := hm.1; omega)).symm
 have e : ((i : Int).tmod 2).toNat = i % 2 := by rw [Int.tmod_eq_emod_of_nonneg (by omega)]; omega
 refine ⟨_, rfl, ?_⟩
 unfold place pK
 rw [e]
 rcases Nat.mod_two_eq_zero_or_one i with h | h
 · rw [h]; simp only [if_pos h, ← h1]; rfl
 · rw [h]; simp only [if_neg (show ¬i % 2 = 0 by omega), ← E2 hm]; rfl
noncomputable def Aqs (hm : Md m) (o : Bool) (n : Nat) (hn : 2 ≤ n ∧ n ≤ 11) {d : Int} (hd : d + 1 = n) (a : PS (Zm m)) (F : PS (PS (Zm m))) : (R : Prop) ×' (Hold R → (Z2 hm o n hn hd a F).1) := by
 have hm1 := hm.1
 have hm2 := hm.2
 apply PSigma.mk
 intro h0
 conv => whnf
 refine I0 Tryz.tabOk aF 26 (α := Nat) (fun i => [(7, .ref 0 [] 1 0 (n + 1)), (8, .undef), (11, .ref 2 [] 1 0 n), (12, .undef), (13, .undef), (14, .undef), (15, .undef), (16, .ref 18 [] 1 0 n), (17, .ref 24 [] 1 0 n), (18, .ref 25 [] 1 0 i), (19, aA i)]) (fun i => [(25, some ⟨false, 1, ints (L i (pK : PS (Zm m)))⟩)]) (fun i => i ≤ n) (fun i => n - i) (0) ?_ ?_ ?_
 · omega
 · conv => whnf
   first | refine aH.autoR ?_ | refine aC.autoR ?_
   conv => whnf
   repeat' ((first | refine z1 ?_ | refine zV ?_ | refine zP ?_ ?_ | exact trivial) <;> try (conv => whnf))
   all_goals first | rfl
 intro i hi
 conv => whnf
 repeat' first | ((refine Exists.intro (aA ((pK : PS (Zm m)).c i).val) (zP (Aj5 hm i) ?_); conv => whnf)) | ((first | (refine zP (fun h => ?_) (fun h => ?_) <;> (try simp only [aB, aE] at h) <;> first | (exfalso; omega) | skip) | refine zV ?_ | (apply zI; refine zP aM ?_) | (apply zI; refine zP aG ?_) | refine Or.inl ?_) <;> conv => whnf) | fail
 · have hin : i < n := aD
   refine Exists.intro (i + 1) (zP aD (zP aD ?_))
   first | refine aH.autoR ?_ | refine aC.autoR ?_
   conv => whnf
   repeat' ((first | refine z1 ?_ | refine zV ?_ | refine zP ?_ ?_ | exact trivial) <;> try (conv => whnf))
   all_goals first
     | omega
     | exact cJ (oJ rfl)
 have hin : n = i := by omega
 subst hin
 repeat' first | ((first | (apply zI; refine zP (zN hm _ _ _ n (by omega) n (by omega) pK (uH n a)) ?_) | (apply zI; refine zP (qT hm _ _ _ _ n aD (zE n a) (comp2N pK (uH n a) 0 n)) ?_) | (apply zI; refine zP (Am7 _ _ n (by omega) (cY 0 1 0 1)) ?_) | (apply zI; refine zP (oS hm _ _ _ _ n aD _ _) ?_) | (apply zI; refine zP (mS hm _ _ n aD (-1) (E2 hm) _) ?_) | refine zV ?_ | (apply zI; refine zP aM ?_) | (apply zI; refine zP aG ?_) | refine Or.inl ?_) <;> conv => whnf) | fail
 rw [show zE n a * comp2N pK (uH n a) 0 n = wQ n a from rfl]
 rw [show PS.C (PS.C (-1)) * (cY 0 1 0 1 + turn (cY 0 1 0 1) + wQ n a) = wU n a from rfl]
 exact h0.out
theorem Aa6 (hm : Md m) {x : Int} (h : 0 ≤ x) : 0 ≤ x.tmod m ∧ x.tmod m < m := by
 have := hm.pos
 rw [Int.tmod_eq_emod_of_nonneg h]
 exact ⟨Int.emod_nonneg _ (by omega), Int.emod_lt_of_pos _ (by omega)⟩
theorem Ave (hm : Md m) {n : Nat} {a : PS (Zm m)} : [aA 1] = ints (L (0 + 1) (lL n a)) := by
 have h1 : (1 : Int) = (1 : Zm m).val := (Zm.val_one (by have := hm.1; omega)).symm
 show _ = [aA (1 : Zm m).val]
 rw [← h1]
def tS : PS (Zm m) := ⟨fun k => if k = 1 then -1 else 0⟩
theorem Aub (hm : Md m) {n : Nat} (hn : 2 ≤ n ∧ n ≤ 11) {d : Int} (hd : d + 1 = n) : (List.replicate (d + 1).toNat (0 : Int)).set 1 (m - 1) = L n (tS : PS (Zm m)) := by
 rw [show (d + 1).toNat = n by omega]
 refine List.ext_getElem (by simp) (fun i h1 h2 => ?_)
 rw [List.getElem_set, oB]
 unfold tS
 by_cases h : 1 = i
 · rw [if_pos h]; simp only [if_pos h.symm]; exact E2 hm
 · rw [if_neg h]; simp only [if_neg (Ne.symm h), List.getElem_replicate]; rfl
theorem Ato (hm : Md m) (o : Bool) (n : Nat) (hn : 2 ≤ n ∧ n ≤ 11) {d : Int} (hd : d + 1 = n) (a : PS (Zm m)) : aI Tryz.prog 117 [aA m, aA d, LD o 5 a] (dK true true n (wF n a)) := by
 have hm1 := hm.1
 have hm2 := hm.2
 refine (Agx hm o n hn hd a (wF n a)).2 ⟨(Z2 hm o n hn hd a (wF n a)).2 ⟨(Aqs hm o n hn hd a (wF n a)).2 ⟨?_⟩⟩⟩
 conv => whnf
 refine I0 Tryz.tabOk aF 26 (α := Nat) (fun k => [(7, .ref 0 [] 1 0 (n + 1)), (11, .undef), (16, .undef), (17, .undef), (18, .undef), (19, .undef), (20, .undef), (21, .ref 31 [] 1 0 n), (22, .ref 32 [] 1 0 (k + 1)), (23, aA ((k : Int) + 1)), (24, .undef)]) (fun k => [(32, some ⟨false, 1, ints (L (k + 1) (lL n a))⟩)]) (fun k => k + 1 ≤ n) (fun k => n - k) (0) ?_ ?_ ?_
 · omega
 · conv => whnf
   first | refine aH.autoR ?_ | refine aC.autoR ?_
   conv => whnf
   repeat' ((first | refine z1 ?_ | refine zV ?_ | refine zP ?_ ?_ | exact trivial) <;> try (conv => whnf))
   all_goals first | rfl | exact Ave hm
 intro k hk
 conv => whnf
 have hx2 := hm.mul (a.c (Int.toNat 2)) ((w0 n a).c (k + 1))
 have hx0 := Zm.val_range hm.pos (a.c 0)
 have e1 : ((k : Int) + 1).toNat = k + 1 := by omega
 by_cases hk9 : k + 1 < n
 · have hy1 := Aa6 hm (x := (a.c (Int.toNat 2)).val * ((w0 n a).c (k + 1)).val + (a.c 0).val) (by omega)
   have hy2 := Aa6 hm (x := (a.c (Int.toNat 2)).val * ((w0 n a).c (k + 1)).val) (by omega)
   repeat' first | ((first | (refine zP (fun h => ?_) (fun h => ?_) <;> (try simp only [aB, aE] at h) <;> first | (exfalso; omega) | skip) | refine zS ?_ | refine zV ?_ | (apply zI; refine zP aM ?_) | (apply zI; refine zP aG ?_)) <;> conv => whnf) | fail
   · refine Exists.intro (k + 1) (zP aD (zP aD ?_))
     first | refine aH.autoR ?_ | refine aC.autoR ?_
     conv => whnf
     repeat' ((first | refine z1 ?_ | refine zV ?_ | refine zP ?_ ?_ | exact trivial) <;> try (conv => whnf))
     all_goals first
       | omega
       | exact cJ (oJ (by unfold lL Q7; simp only [if_neg (show ¬k + 1 = 0 by omega), if_pos (show k + 1 = 1 by omega)]; exact nN hm (by omega)))
   · refine Exists.intro (k + 1) (zP aD (zP aD ?_))
     first | refine aH.autoR ?_ | refine aC.autoR ?_
     conv => whnf
     repeat' ((first | refine z1 ?_ | refine zV ?_ | refine zP ?_ ?_ | exact trivial) <;> try (conv => whnf))
     all_goals first
       | omega
       | exact cJ (oJ (by unfold lL Q7; simp only [if_neg (show ¬k + 1 = 0 by omega), if_neg (show ¬k + 1 = 1 by omega), Int.add_zero]; exact nN hm (by omega)))
 have hkn : n = k + 1 := by omega
 repeat' first | ((first | (apply zI; refine zP (Aq8 hm _ n (k + 1) hd (by omega) (by omega) (by omega) (lL n a) _ (I9 hm _)) ?_) | (refine zP (fun h => ?_) (fun h => ?_) <;> (try simp only [aB, aE] at h) <;> first | (exfalso; omega) | skip) | refine zV ?_ | (apply zI; refine zP aG ?_) | refine Or.inl ?_) <;> conv => whnf) | fail
 rw [Aub hm hn hd]
 repeat' first | ((first | refine z0 ?_ | (apply zI; refine zP (wH hm _ _ n n n hd (by omega) (by omega) (by omega) (by omega) (by omega) (tS : PS (Zm m)) (inv (bA m ((lL n a).c 0).val) (lL n a))) ?_) | (apply zI; refine zP (zN hm _ _ _ n (by omega) n (by omega) (tS * inv (bA m ((lL n a).c 0).val) (lL n a)) (wU n a)) ?_) | refine zV ?_ | (apply zI; refine zP aM ?_) | (apply zI; refine zP aG ?_) | refine Or.inl ?_) <;> conv => whnf) | fail
 all_goals rfl
abbrev jJ (m : Int) (t : List (List Int)) : D := .agg [aA m, .list false 1 (rows false t)]
def cutS (b : PS (Zm m)) (i : Nat) : PS (Zm m) := ⟨fun j => if 2 ≤ j ∧ j < i then 0 else b.c j⟩
theorem A8 {r : Nat} {cs : List D} {a a' b b' : D} (h1 : Fz r cs a a') (h2 : Fz r cs b b') : Fz r cs (.tup [a, b]) (.tup [a', b']) :=
 .tup _ _ rfl (fun i d d' hd hd' => by
   match i, hd, hd' with
   | 0, hd, hd' => simp at hd hd'; subst hd; subst hd'; exact h1
   | 1, hd, hd' => simp at hd hd'; subst hd; subst hd'; exact h2
   | i + 2, hd, hd' => simp at hd)
end Go.Proofs
namespace Go.Proofs
open Go Go.Vm Go.Fg Go.Fg.PS
set_option maxRecDepth 100000
set_option maxHeartbeats 4000000
set_option linter.unusedSimpArgs false
set_option linter.unusedVariables false
end Go.Proofs
namespace Go.Proofs
open Go Go.Vm Go.Fg Go.Fg.PS
set_option maxRecDepth 100000
set_option linter.unusedSimpArgs false
set_option linter.unusedVariables false
variable {m : Int}
theorem As9 {N i j : Nat} (f : PS (PS (Zm m))) (h : i + j < N) : ((cM m (Tb N f)).c i).c j = (f.c i).c j := by
 show Zm.mk m (((Tb N f).getD i []).getD j 0) = _
 rw [gA f (by omega), lA _ (by omega), Zm.mk_val]
theorem Auk (hm : Md m) (n : Nat) (a : PS (Zm m)) : gR m (L n a) = true := L4 (fun j hj => by
 rw [lA _ (by simpa using hj)]
 have := Zm.val_range hm.pos (a.c j)
 simp [bB]; omega)
theorem Adw (hm : Md m) {N : Nat} (hN : 2 ≤ N ∧ N ≤ 11) (f : PS (PS (Zm m))) : eH m (Tb N f) = true :=
 G8 (by simpa [bB, Md] using hm) (by simpa using hN) (fun j hj => by
   have hj2 : j < N := by simpa using hj
   unfold rowOk
   rw [gA f hj2]
   simp only [aT, aV, decide_true, Bool.true_and]
   exact Auk hm _ _)
end Go.Proofs
namespace Go.Proofs
open Go Go.Vm Go.Fg Go.Fg.PS
set_option maxRecDepth 100000
set_option maxHeartbeats 4000000
set_option linter.unusedSimpArgs false
set_option linter.unusedVariables false
end Go.Proofs
namespace Go.Proofs
open Go Go.Vm Go.Fg Go.Fg.PS
set_option maxRecDepth 100000
set_option maxHeartbeats 4000000
set_option linter.unusedSimpArgs false
set_option linter.unusedVariables false
variable {m : Int}
inductive Mul (f : PS (PS (Zm m))) (n : Nat) : Nat → PS (Zm m) → PS (Zm m) → PS (Zm m) → Prop
 | zero (out a : PS (Zm m)) : Mul f n 0 out a out
 | odd (k : Nat) (out a r : PS (Zm m)) (h2 : k % 2 = 1) (h : Mul f n (k / 2) (cT f out a n) (cT f a a n) r) : Mul f n k out a r
 | even (k : Nat) (out a r : PS (Zm m)) (h1 : k ≠ 0) (h2 : k % 2 = 0) (h : Mul f n (k / 2) out (cT f a a n) r) : Mul f n k out a r
theorem Aad (f : PS (PS (Zm m))) (n : Nat) (k : Nat) : ∀ out a, ∃ r, Mul f n k out a r := by
 induction k using Nat.strongRecOn with
 | ind k ih =>
   intro out a
   by_cases h0 : k = 0
   · subst h0; exact ⟨out, .zero _ _⟩
   · rcases (show k % 2 = 1 ∨ k % 2 = 0 by omega) with h | h
     · obtain ⟨r, hr⟩ := ih (k / 2) (by omega) (cT f out a n) (cT f a a n)
       exact ⟨r, .odd _ _ _ _ h hr⟩
     · obtain ⟨r, hr⟩ := ih (k / 2) (by omega) out (cT f a a n)
       exact ⟨r, .even _ _ _ _ h0 h hr⟩
theorem Mul.inv {f : PS (PS (Zm m))} {n k : Nat} {out a r : PS (Zm m)} (h : Mul f n k out a r) : (k = 0 → r = out) ∧ (k % 2 = 1 → Mul f n (k / 2) (cT f out a n) (cT f a a n) r) ∧ (k ≠ 0 → k % 2 = 0 → Mul f n (k / 2) out (cT f a a n) r) := by
 cases h with
 | zero => exact ⟨fun _ => rfl, fun h => by omega, fun h => absurd rfl h⟩
 | odd _ _ _ _ h2 h => exact ⟨fun e => by omega, fun _ => h, fun _ e => by omega⟩
 | even _ _ _ _ h1 h2 h => exact ⟨fun e => absurd e h1, fun e => by omega, fun _ _ => h⟩
theorem fY {P : Program} {T : Tab} {kp : Nat} (hT : TabOk P T) (hm : P.follows .mixedOrders = true) {body : Code} {Q : Exit → St → Prop} {st : St}
   (h : iM P T kp body (fun e st' => match e with
     | .normal => cG st' (iI P kp body Q)
     | e => Q e st') st) : iI P kp body Q st := Auj hT hm (by rw [← qR]; exact h)
theorem Ad8 (hm : Md m) (o p o' : Bool) (n : Nat) (hn : 1 ≤ n ∧ n ≤ 100) (f : PS (PS (Zm m))) (a : PS (Zm m)) (k : Nat) (hk : k ≤ 1000000000000) (r : PS (Zm m)) (hr : Mul f n k 0 a r) {K : Int} (hK : K = k) : aI Tryz.prog 122 [dO m o p n f, aA K, bQ m o' n a] (bQ m true n r) := by
 subst hK
 have hm1 := hm.1
 have hm2 := hm.2
 refine aU Tryz.tabOk aF Tryz.func122 rfl rfl ?_
 conv => whnf
 repeat' first | ((first | (apply zI; refine zP (nW _ _ _ aD _) ?_) | (apply zI; refine zP (mG n aD aD) ?_) | (refine zP (fun h => ?_) (fun h => ?_) <;> (try simp only [aB, aE] at h) <;> first | (exfalso; omega) | skip) | refine zS ?_ | refine Alt.fst ?_ | refine Or.inl ?_) <;> conv => whnf) | fail
 refine fY Tryz.tabOk aF ?_
 conv => whnf
 repeat' first | ((first | refine z0 ?_ | (apply zI; refine zP (uB hm _ _ _ _ n hn f _ _) ?_) | (refine zP (fun h => ?_) (fun h => ?_) <;> (try simp only [aB, aE] at h) <;> first | (exfalso; omega) | skip) | refine zV ?_ | (apply zI; refine zP aG ?_) | refine Or.inl ?_) <;> conv => whnf) | fail
 · rw [kH] at h
   refine aZ Tryz.tabOk aF (α := PS (Zm m) × PS (Zm m) × Nat) (fun x => [(1, aA x.2.2), (21, .undef), (30, .undef), (32, .undef), (34, .undef), (35, .undef), (36, .undef)]) (fun x => [(10, some ⟨false, 1, ints (L n x.2.1)⟩), (8, some ⟨false, 1, ints (L n x.1)⟩), (1, some ⟨true, 1, [aA m, .ref 10 [] 1 0 n]⟩), (6, some ⟨true, 1, [aA m, .ref 8 [] 1 0 n]⟩)]) (fun x => Mul f n x.2.2 x.1 x.2.1 r ∧ x.2.2 ≤ 1000000000000) (fun x => x.2.2) (cT f 0 a n, cT f a a n, k / 2) ?_ ?_ ?_
   · exact ⟨hr.inv.2.1 (by omega), by simp only; omega⟩
   · conv => whnf
     first | refine aH.autoR ?_ | refine aC.autoR ?_
     conv => whnf
     repeat' ((first | refine z1 ?_ | refine z2 ?_ | refine zV ?_ | refine zP cA ?_ | refine zP cB ?_ | refine zP ?_ ?_ | exact trivial) <;> try (conv => whnf))
   intro ⟨x, y, q⟩ ⟨hx, hq⟩
   simp only at hx hq
   conv => whnf
   repeat' first | ((first | refine z0 ?_ | (apply zI; refine zP (uB hm _ _ _ _ n hn f _ _) ?_) | (refine zP (fun h => ?_) (fun h => ?_) <;> (try simp only [aB, aE] at h) <;> first | (exfalso; omega) | skip) | refine zV ?_ | (apply zI; refine zP aG ?_) | refine Or.inl ?_) <;> conv => whnf) | fail
   · rw [kH] at h
     refine Exists.intro (cT f x y n, cT f y y n, q / 2) (zP ⟨hx.inv.2.1 (by omega), by simp only; omega⟩ (zP (by simp only; omega) ?_))
     first | refine aH.autoR ?_ | refine aC.autoR ?_
     conv => whnf
     repeat' ((first | refine z1 ?_ | refine z2 ?_ | refine zV ?_ | refine zP cA ?_ | refine zP cB ?_ | refine zP ?_ ?_ | exact trivial) <;> try (conv => whnf))
   · rw [kH] at h
     refine Exists.intro (x, cT f y y n, q / 2) (zP ⟨hx.inv.2.2 (by omega) (by omega), by simp only; omega⟩ (zP (by simp only; omega) ?_))
     first | refine aH.autoR ?_ | refine aC.autoR ?_
     conv => whnf
     repeat' ((first | refine z1 ?_ | refine z2 ?_ | refine zV ?_ | refine zP cA ?_ | refine zP cB ?_ | refine zP ?_ ?_ | exact trivial) <;> try (conv => whnf))
   · have hq0 : q = 0 := by omega
     subst hq0
     rw [hx.inv.1 rfl]
 · rw [kH] at h
   refine aZ Tryz.tabOk aF (α := PS (Zm m) × PS (Zm m) × Nat) (fun x => [(1, aA x.2.2), (21, .undef), (30, .undef), (32, .undef), (34, .undef), (35, .undef), (36, .undef)]) (fun x => [(8, some ⟨false, 1, ints (L n x.2.1)⟩), (5, some ⟨false, 1, ints (L n x.1)⟩), (1, some ⟨true, 1, [aA m, .ref 8 [] 1 0 n]⟩), (6, some ⟨true, 1, [aA m, .ref 5 [] 1 0 n]⟩)]) (fun x => Mul f n x.2.2 x.1 x.2.1 r ∧ x.2.2 ≤ 1000000000000) (fun x => x.2.2) (0, cT f a a n, k / 2) ?_ ?_ ?_
   · exact ⟨hr.inv.2.2 (by omega) (by omega), by simp only; omega⟩
   · conv => whnf
     first | refine aH.autoR ?_ | refine aC.autoR ?_
     conv => whnf
     repeat' ((first | refine z1 ?_ | refine z2 ?_ | refine zV ?_ | refine zP cA ?_ | refine zP cB ?_ | refine zP ?_ ?_ | exact trivial) <;> try (conv => whnf))
   intro ⟨x, y, q⟩ ⟨hx, hq⟩
   simp only at hx hq
   conv => whnf
   repeat' first | ((first | refine z0 ?_ | (apply zI; refine zP (uB hm _ _ _ _ n hn f _ _) ?_) | (refine zP (fun h => ?_) (fun h => ?_) <;> (try simp only [aB, aE] at h) <;> first | (exfalso; omega) | skip) | refine zV ?_ | (apply zI; refine zP aG ?_) | refine Or.inl ?_) <;> conv => whnf) | fail
   · rw [kH] at h
     refine Exists.intro (cT f x y n, cT f y y n, q / 2) (zP ⟨hx.inv.2.1 (by omega), by simp only; omega⟩ (zP (by simp only; omega) ?_))
     first | refine aH.autoR ?_ | refine aC.autoR ?_
     conv => whnf
     repeat' ((first | refine z1 ?_ | refine z2 ?_ | refine zV ?_ | refine zP cA ?_ | refine zP cB ?_ | refine zP ?_ ?_ | exact trivial) <;> try (conv => whnf))
   · rw [kH] at h
     refine Exists.intro (x, cT f y y n, q / 2) (zP ⟨hx.inv.2.2 (by omega) (by omega), by simp only; omega⟩ (zP (by simp only; omega) ?_))
     first | refine aH.autoR ?_ | refine aC.autoR ?_
     conv => whnf
     repeat' ((first | refine z1 ?_ | refine z2 ?_ | refine zV ?_ | refine zP cA ?_ | refine zP cB ?_ | refine zP ?_ ?_ | exact trivial) <;> try (conv => whnf))
   · have hq0 : q = 0 := by omega
     subst hq0
     rw [hx.inv.1 rfl]
 · have hk0 : k = 0 := by omega
   subst hk0
   rw [hr.inv.1 rfl]
theorem sA (f : PS (PS (Zm m))) (a b : PS (Zm m)) (n : Nat) : cT f a b n = evT n f a b := by
 unfold cT hY evT
 exact Go.Fg.add_zero _
theorem Akc (hm : Md m) (z : Zm m) : (0 - z.val) % m = (-z).val := by rw [Int.zero_sub]; exact (Zm.val_neg z).symm
def nB (f : PS (PS (Zm m))) (n : Nat) (k : Int) (a r : PS (Zm m)) : Prop := if 0 ≤ k then Mul f n k.toNat 0 a r else ∃ s, Mul f n (-k).toNat 0 a s ∧ r = compN (lX n f) s 0 n
theorem Aqw (f : PS (PS (Zm m))) (n : Nat) (k : Int) (a : PS (Zm m)) : ∃ r, nB f n k a r := by
 unfold nB
 by_cases h : 0 ≤ k
 · obtain ⟨r, hr⟩ := Aad f n k.toNat 0 a
   exact ⟨r, by rw [if_pos h]; exact hr⟩
 · obtain ⟨s, hs⟩ := Aad f n (-k).toNat 0 a
   exact ⟨_, by rw [if_neg h]; exact ⟨s, hs, rfl⟩⟩
theorem An9 (hm : Md m) (o p : Bool) (n : Nat) (hn : 2 ≤ n ∧ n ≤ 100) (f : PS (PS (Zm m))) : aI Tryz.prog 207 [dO m o p n f] (bQ m true n (lX n f)) := by
 have hm1 := hm.1
 have hm2 := hm.2
 refine aU Tryz.tabOk aF Tryz.func207 rfl rfl ?_
 conv => whnf
 repeat' first | ((first | (apply zI; refine zP (nW _ _ n aD _) ?_) | (apply zI; refine zP (Am3 n aD aD hm) ?_) | (apply zI; refine zP (mG n aD aD) ?_) | refine zS ?_ | refine Alt.fst ?_ | refine Or.inl ?_) <;> conv => whnf) | fail
 refine aZ Tryz.tabOk aF (α := Nat) (fun k => [(5, aA ((k : Int) + 1))]) (fun k => [(8, some ⟨false, 1, ints (L n (gQ n f k))⟩)]) (fun k => k + 1 ≤ n) (fun k => n - k) (0) ?_ ?_ ?_
 · omega
 · conv => whnf
   first | refine aH.autoR ?_ | refine aC.autoR ?_
   conv => whnf
   repeat' ((first | refine z1 ?_ | refine z2 ?_ | refine zV ?_ | refine zP cA ?_ | refine zP cB ?_ | refine zP ?_ ?_ | exact trivial) <;> try (conv => whnf))
   all_goals first | rfl
 intro k hk
 conv => whnf
 have hr := Zm.val_range hm.pos ((cT f PS.X (gQ n f k) n).c (k + 1))
 repeat' first | ((first | refine z0 ?_ | (apply zI; refine zP (nW _ _ n aD _) ?_) | (apply zI; refine zP (uB hm _ _ _ _ n aD f _ _) ?_) | (apply zI; refine zP (jZ _ _ hm.pos (by omega)) ?_) | (refine zP (fun h => ?_) (fun h => ?_) <;> (try simp only [aB, aE] at h)) | refine zS ?_ | refine zV ?_ | (apply zI; refine zP aG ?_) | refine Alt.fst ?_ | refine Or.inl ?_) <;> conv => whnf) | fail
 · refine Exists.intro (k + 1) (zP (by omega) (zP (by omega) ?_))
   first | refine aH.autoR ?_ | refine aC.autoR ?_
   conv => whnf
   repeat' ((first | refine z1 ?_ | refine z2 ?_ | refine zV ?_ | refine zP cA ?_ | refine zP cB ?_ | refine zP ?_ ?_ | exact trivial) <;> try (conv => whnf))
   all_goals (refine cJ (dX _ (Akc hm _) ?_); rw [sA]; exact Ag.rfl)
 · rw [lX, show n - 1 = k by omega]
theorem Aor (hm : Md m) (o p o1 : Bool) (n : Nat) (hn : 2 ≤ n ∧ n ≤ 100) (f : PS (PS (Zm m))) (a : PS (Zm m)) : aI Tryz.prog 235 [dO m o p n f, bQ m o1 n a] (bQ m true n (compN (lX n f) a 0 n)) := by
 have hm1 := hm.1
 have hm2 := hm.2
 refine aU Tryz.tabOk aF Tryz.func235 rfl rfl ?_
 conv => whnf
 repeat' first | ((first | refine z0 ?_ | (apply zI; refine zP (An9 hm _ _ n hn f) ?_) | (apply zI; refine zP (Aqy hm _ _ n aD _ _) ?_) | refine zS ?_ | refine zV ?_ | (apply zI; refine zP aG ?_) | refine Alt.fst ?_ | refine Or.inl ?_) <;> conv => whnf) | fail
theorem Apq (hm : Md m) (o p o' : Bool) (n : Nat) (hn : 2 ≤ n ∧ n ≤ 100) (f : PS (PS (Zm m))) (a : PS (Zm m)) (k : Int) (hk : -1000000000000 ≤ k ∧ k ≤ 1000000000000) (r : PS (Zm m)) (hr : nB f n k a r) : aI Tryz.prog 122 [dO m o p n f, aA k, bQ m o' n a] (bQ m true n r) := by
 have hm1 := hm.1
 have hm2 := hm.2
 unfold nB at hr
 by_cases h0 : 0 ≤ k
 · rw [if_pos h0] at hr
   exact Ad8 hm o p o' n (by omega) f a k.toNat (by omega) r hr (by omega)
 · rw [if_neg h0] at hr
   obtain ⟨s, hs, rfl⟩ := hr
   refine aU Tryz.tabOk aF Tryz.func122 rfl rfl ?_
   conv => whnf
   repeat' first | ((first | refine z0 ?_ | (apply zI; refine zP (Ad8 hm _ _ _ n (by omega) f a (-k).toNat (by omega) s hs (by omega)) ?_) | (apply zI; refine zP (Aor hm _ _ _ n hn f s) ?_) | (refine zP (fun h => ?_) (fun h => ?_) <;> (try simp only [aB, aE] at h) <;> first | (exfalso; omega) | skip) | refine zS ?_ | refine zV ?_ | (apply zI; refine zP aG ?_) | refine Alt.fst ?_ | refine Or.inl ?_) <;> conv => whnf) | fail
theorem Awv (hm : Md m) (o p o' : Bool) (n : Nat) (hn : 2 ≤ n ∧ n ≤ 100) (f : PS (PS (Zm m))) (a : PS (Zm m)) (k : Int) (hk : -1000000 ≤ k ∧ k ≤ 1000000) (r : PS (Zm m)) (hr : nB f n k a r) : aI Tryz.prog 122 [dO m o p n f, aA k, bQ m o' n a] (bQ m true n r) :=
 Apq hm o p o' n hn f a k (by omega) r hr
end Go.Proofs
namespace Go.Proofs
open Go Go.Vm Go.Fg Go.Fg.PS
set_option maxRecDepth 100000
set_option maxHeartbeats 4000000
set_option linter.unusedSimpArgs false
set_option linter.unusedVariables false
def jK (m : Int) (t : List (List Int)) (ma : Int) (l : List Int) : Bool := decide (m = ma) && (decide (t.length = l.length) && decide (l.getD 0 0 = 0))
noncomputable def eS (m : Int) (t : List (List Int)) (ma : Int) (l : List Int) : Int := if dN m t = true then (if cX ma l = true then (if jK m t ma l = true then 0 else 2) else 1) else 1
theorem rI {m : Int} {l : List Int} (h : cX m l = true) : 2 ≤ l.length ∧ l.length ≤ 11 := by
 simp only [cX, Bool.and_eq_true, bB, decide_eq_true_eq] at h; omega
theorem pF {m : Int} {l : List Int} (h : cX m l = true) : l = L l.length (rd m l) := by
 simp only [cX, Bool.and_eq_true] at h; exact (uE (Adf.1 h.2)).symm
theorem P5 (g : Nat) (o1 : Bool) (ma : Int) (l : List Int)  (b : Bool) (hp : aI Tryz.prog g [.agg [aA ma, .list o1 1 (ints l)]] (bH b)) :
   aI Tryz.prog 313 [.agg [aA ma, .list o1 1 (ints l)], .cptr [(.fn (.func g) [] [])] 0] (bH (!b)) := by
 refine aU Tryz.tabOk aF Tryz.func313 rfl rfl ?_
 conv => whnf
 repeat' first | ((first | refine z0 ?_ | (apply zI; refine zP (hp) ?_) | (refine zP (fun h => ?_) (fun h => ?_) <;> (try simp only [aB, aE] at h)) | (apply zI; refine zP aG ?_) | refine Or.inl ?_) <;> conv => whnf) | fail
 all_goals (refine cD ?_; first | rfl | (simp_all []; done) | (simp_all []; omega) | (simp_all []; intros; omega))
theorem Arx (g : Nat) (o o1 : Bool) (ma : Int) (l : List Int)  (b : Bool) (hp : aI Tryz.prog g [.agg [aA ma, .list o1 1 (ints l)]] (bH b)) :
   aI Tryz.prog 256 [.list o 2 [aA ma, .list o1 1 (ints l)], (.fn (.func g) [] [])] (bH b) := by
 have h1 : aI Tryz.prog 313 [.agg [aA ma, .list o1 1 (ints l)], .cptr [(.fn (.func g) [] [])] 0] (bH (!b)) := P5 g o1 ma l  b hp
 have h2 : aI Tryz.prog 334 [.list o 2 [aA ma, .list o1 1 (ints l)], .fn (.func 313) [] [.cptr [(.fn (.func g) [] [])] 0]] (aA (if b then -1 else 0)) := by
   have hc2 : cnt 2 [aA ma, .list o1 1 (ints l)] = 1 := by simp [cnt]
   refine aU Tryz.tabOk aF Tryz.func334 rfl rfl ?_
   conv => whnf
   repeat' first | ((first | refine z0 ?_ | (refine zP (fun h => ?_) (fun h => ?_) <;> (try simp only [aB, aE] at h)) | refine zS ?_ | refine zV ?_ | (apply zI; refine zP aM ?_) | (apply zI; refine zP aG ?_) | refine zA ?_ | refine Alt.fst ?_ | refine Or.inl ?_) <;> conv => whnf) | fail
   refine fY Tryz.tabOk aF ?_
   conv => whnf
   repeat' first | ((first | refine z0 ?_ | (apply zI; refine zP (h1) ?_) | (refine zP (fun h => ?_) (fun h => ?_) <;> (try simp only [aB, aE] at h)) | refine zV ?_ | (apply zI; refine zP aG ?_) | refine Or.inl ?_) <;> conv => whnf) | fail
   · cases b
     · rfl
     · exact absurd (by assumption) (by simp)
   · refine fY Tryz.tabOk aF ?_
     conv => whnf
     repeat' first | ((first | refine z0 ?_ | (refine zP (fun h => ?_) (fun h => ?_) <;> (try simp only [aB, aE] at h)) | refine zS ?_ | refine zV ?_ | (apply zI; refine zP aM ?_) | (apply zI; refine zP aG ?_) | refine zA ?_ | refine Alt.fst ?_ | refine Or.inl ?_) <;> conv => whnf) | fail
     all_goals first
       | (exfalso; have hx : 1 < ((cnt 2 [aA ma, .list o1 1 (ints l)] : Nat) : Int) := (by assumption); rw [hc2] at hx; omega)
       | (cases b <;> first | rfl | (exfalso; simp_all; done))
   · exfalso
     have hx : ¬ 0 < ((cnt 2 [aA ma, .list o1 1 (ints l)] : Nat) : Int) := (by assumption)
     rw [hc2] at hx
     omega
 cases b
 · rw [if_neg (by decide)] at h2
   refine aU Tryz.tabOk aF Tryz.func256 rfl rfl ?_
   conv => whnf
   repeat' first | ((first | refine z0 ?_ | refine Or.inr (iJ Tryz.tabOk aF _ Tryz.func312 rfl rfl ?_) | (apply zI; refine zP (h2) ?_) | (refine zP (fun h => ?_) (fun h => ?_) <;> (try simp only [aB, aE] at h)) | refine zV ?_ | refine Or.inl ?_) <;> conv => whnf) | fail
   all_goals first | rfl | (exfalso; omega)
 · rw [if_pos rfl] at h2
   refine aU Tryz.tabOk aF Tryz.func256 rfl rfl ?_
   conv => whnf
   repeat' first | ((first | refine z0 ?_ | refine Or.inr (iJ Tryz.tabOk aF _ Tryz.func312 rfl rfl ?_) | (apply zI; refine zP (h2) ?_) | (refine zP (fun h => ?_) (fun h => ?_) <;> (try simp only [aB, aE] at h)) | refine zV ?_ | refine Or.inl ?_) <;> conv => whnf) | fail
   all_goals first | rfl | (exfalso; omega)
theorem H4 (g : Nat) (o1 : Bool) (ma : Int) (l : List Int) (m : Int) (o2 p2 : Bool) (t : List (List Int)) (b : Bool) (hp : aI Tryz.prog g [.agg [aA m, .list o2 1 (rows p2 t)], .agg [aA ma, .list o1 1 (ints l)]] (bH b)) :
   aI Tryz.prog 313 [.agg [aA ma, .list o1 1 (ints l)], .cptr [(.fn (.func g) [.agg [aA m, .list o2 1 (rows p2 t)]] [])] 0] (bH (!b)) := by
 refine aU Tryz.tabOk aF Tryz.func313 rfl rfl ?_
 conv => whnf
 repeat' first | ((first | refine z0 ?_ | (apply zI; refine zP (hp) ?_) | (refine zP (fun h => ?_) (fun h => ?_) <;> (try simp only [aB, aE] at h)) | (apply zI; refine zP aG ?_) | refine Or.inl ?_) <;> conv => whnf) | fail
 all_goals (refine cD ?_; first | rfl | (simp_all []; done) | (simp_all []; omega) | (simp_all []; intros; omega))
theorem Ao8 (g : Nat) (o o1 : Bool) (ma : Int) (l : List Int) (m : Int) (o2 p2 : Bool) (t : List (List Int)) (b : Bool) (hp : aI Tryz.prog g [.agg [aA m, .list o2 1 (rows p2 t)], .agg [aA ma, .list o1 1 (ints l)]] (bH b)) :
   aI Tryz.prog 256 [.list o 2 [aA ma, .list o1 1 (ints l)], (.fn (.func g) [.agg [aA m, .list o2 1 (rows p2 t)]] [])] (bH b) := by
 have h1 : aI Tryz.prog 313 [.agg [aA ma, .list o1 1 (ints l)], .cptr [(.fn (.func g) [.agg [aA m, .list o2 1 (rows p2 t)]] [])] 0] (bH (!b)) := H4 g o1 ma l m o2 p2 t b hp
 have h2 : aI Tryz.prog 334 [.list o 2 [aA ma, .list o1 1 (ints l)], .fn (.func 313) [] [.cptr [(.fn (.func g) [.agg [aA m, .list o2 1 (rows p2 t)]] [])] 0]] (aA (if b then -1 else 0)) := by
   have hc2 : cnt 2 [aA ma, .list o1 1 (ints l)] = 1 := by simp [cnt]
   refine aU Tryz.tabOk aF Tryz.func334 rfl rfl ?_
   conv => whnf
   repeat' first | ((first | refine z0 ?_ | (refine zP (fun h => ?_) (fun h => ?_) <;> (try simp only [aB, aE] at h)) | refine zS ?_ | refine zV ?_ | (apply zI; refine zP aM ?_) | (apply zI; refine zP aG ?_) | refine zA ?_ | refine Alt.fst ?_ | refine Or.inl ?_) <;> conv => whnf) | fail
   refine fY Tryz.tabOk aF ?_
   conv => whnf
   repeat' first | ((first | refine z0 ?_ | (apply zI; refine zP (h1) ?_) | (refine zP (fun h => ?_) (fun h => ?_) <;> (try simp only [aB, aE] at h)) | refine zV ?_ | (apply zI; refine zP aG ?_) | refine Or.inl ?_) <;> conv => whnf) | fail
   · cases b
     · rfl
     · exact absurd (by assumption) (by simp)
   · refine fY Tryz.tabOk aF ?_
     conv => whnf
     repeat' first | ((first | refine z0 ?_ | (refine zP (fun h => ?_) (fun h => ?_) <;> (try simp only [aB, aE] at h)) | refine zS ?_ | refine zV ?_ | (apply zI; refine zP aM ?_) | (apply zI; refine zP aG ?_) | refine zA ?_ | refine Alt.fst ?_ | refine Or.inl ?_) <;> conv => whnf) | fail
     all_goals first
       | (exfalso; have hx : 1 < ((cnt 2 [aA ma, .list o1 1 (ints l)] : Nat) : Int) := (by assumption); rw [hc2] at hx; omega)
       | (cases b <;> first | rfl | (exfalso; simp_all; done))
   · exfalso
     have hx : ¬ 0 < ((cnt 2 [aA ma, .list o1 1 (ints l)] : Nat) : Int) := (by assumption)
     rw [hc2] at hx
     omega
 cases b
 · rw [if_neg (by decide)] at h2
   refine aU Tryz.tabOk aF Tryz.func256 rfl rfl ?_
   conv => whnf
   repeat' first | ((first | refine z0 ?_ | refine Or.inr (iJ Tryz.tabOk aF _ Tryz.func312 rfl rfl ?_) | (apply zI; refine zP (h2) ?_) | (refine zP (fun h => ?_) (fun h => ?_) <;> (try simp only [aB, aE] at h)) | refine zV ?_ | refine Or.inl ?_) <;> conv => whnf) | fail
   all_goals first | rfl | (exfalso; omega)
 · rw [if_pos rfl] at h2
   refine aU Tryz.tabOk aF Tryz.func256 rfl rfl ?_
   conv => whnf
   repeat' first | ((first | refine z0 ?_ | refine Or.inr (iJ Tryz.tabOk aF _ Tryz.func312 rfl rfl ?_) | (apply zI; refine zP (h2) ?_) | (refine zP (fun h => ?_) (fun h => ?_) <;> (try simp only [aB, aE] at h)) | refine zV ?_ | refine Or.inl ?_) <;> conv => whnf) | fail
   all_goals first | rfl | (exfalso; omega)
theorem G1 (o p o1 : Bool) (m : Int) (t : List (List Int)) (ma : Int) (l : List Int) (hs : cX ma l = true) (ht : t.length ≤ 1048576) :
   aI Tryz.prog 155 [.agg [aA m, .list o 1 (rows p t)], .agg [aA ma, .list o1 1 (ints l)]] (bH (jK m t ma l)) := by
 have hl := rI hs
 have hd : aI Tryz.prog 124 [.agg [aA m, .list o 1 (rows p t)]] (aA (t.length - 1)) := by
   refine aU Tryz.tabOk aF Tryz.func124 rfl rfl ?_
   conv => whnf
   repeat' first | ((first | refine z0 ?_ | refine zV ?_) <;> conv => whnf) | fail
   rw [aB, aQ]
 refine aU Tryz.tabOk aF Tryz.func155 rfl rfl ?_
 conv => whnf
 repeat' first | ((first | refine z0 ?_ | refine Or.inr (iJ Tryz.tabOk aF _ Tryz.func250 rfl rfl ?_) | (apply zI; refine zP (hd) ?_) | (apply zI; refine zP (A5 _ _ _ aD) ?_) | (apply zI; refine zP (sV (i := 0) aY aD) ?_) | (refine zP (fun h => ?_) (fun h => ?_) <;> (try simp only [aB, aE] at h)) | refine zS ?_ | refine zV ?_ | refine Alt.fst ?_ | refine Or.inl ?_) <;> conv => whnf) | fail
 all_goals (refine cD ?_; first | rfl | (simp_all [jK]; done) | (simp_all [jK]; omega) | (simp_all [jK]; intros; omega))
theorem Ad9 (o p o1 o2 : Bool) (m : Int) (t : List (List Int)) (ma : Int) (l : List Int) (hl : t.length ≤ 1048576) (hr : kO t) (h1 : l.length ≤ 1048576) :
   aI Tryz.prog 162 [.agg [aA m, .list o 1 (rows p t)], .list o2 2 [aA ma, .list o1 1 (ints l)]] (aA (eS m t ma l)) := by
 have hA := Arx 153 o2 o1 ma l (cX ma l) (wT _ _ _ h1)
 by_cases hs : cX ma l = true
 · have hB := Ao8 155 o2 o1 ma l m o p t (jK m t ma l) (G1 _ _ _ _ _ _ _ hs hl)
   refine aU Tryz.tabOk aF Tryz.func162 rfl rfl ?_
   conv => whnf
   repeat' first | ((first | refine z0 ?_ | (apply zI; refine zP (J5 _ _ _ _ hl hr) ?_) | (apply zI; refine zP (hA) ?_) | (apply zI; refine zP (hB) ?_) | (refine zP (fun h => ?_) (fun h => ?_) <;> (try simp only [aB, aE] at h)) | refine Or.inl ?_) <;> conv => whnf) | fail
   all_goals (refine congrArg aA ?_; unfold eS; simp_all)
 · refine aU Tryz.tabOk aF Tryz.func162 rfl rfl ?_
   conv => whnf
   repeat' first | ((first | refine z0 ?_ | (apply zI; refine zP (J5 _ _ _ _ hl hr) ?_) | (apply zI; refine zP (hA) ?_) | (refine zP (fun h => ?_) (fun h => ?_) <;> (try simp only [aB, aE] at h) <;> first | (exfalso; omega) | skip) | refine Or.inl ?_) <;> conv => whnf) | fail
   all_goals first
     | (refine congrArg aA ?_; unfold eS; simp_all; done)
     | (exfalso; simp_all; done)
     | skip
theorem Ap1 (o p o1 o2 : Bool) (m : Int) (t : List (List Int)) (ma : Int) (l : List Int) (hl : t.length ≤ 1048576) (hr : kO t) (h1 : l.length ≤ 1048576) :
   aI Tryz.prog 159 [.agg [aA m, .list o 1 (rows p t)], .list o2 2 [aA ma, .list o1 1 (ints l)]] (aA (eS m t ma l)) := by
 have hc2 : cnt 2 [aA ma, .list o1 1 (ints l)] = 1 := by simp [cnt]
 have hcv : cX ma l = true → aI Tryz.prog 183 [.agg [aA ma, .list o1 1 (ints l)]] (bH (decide (l.getD 0 0 = 0))) := fun hs => by
   have hl := rI hs
   refine aU Tryz.tabOk aF Tryz.func183 rfl rfl ?_
   conv => whnf
   repeat' first | ((first | refine z0 ?_ | (apply zI; refine zP (wE _ _ _ h1) ?_) | (apply zI; refine zP (sV (i := 0) aY aD) ?_) | (refine zP (fun h => ?_) (fun h => ?_) <;> (try simp only [aB, aE] at h)) | refine zV ?_ | refine Or.inl ?_) <;> conv => whnf) | fail
   all_goals (refine cD ?_; first | rfl | (simp_all []; done) | (simp_all []; omega) | (simp_all []; intros; omega))
 refine aU Tryz.tabOk aF Tryz.func159 rfl rfl ?_
 conv => whnf
 have hno : ∀ {p : Prop}, ¬ 0 < ((cnt 2 [aA ma, .list o1 1 (ints l)] : Nat) : Int) → p := fun hx => by
   rw [hc2] at hx; omega
 have hno2 : ∀ {p : Prop}, 0 + 1 < ((cnt 2 [aA ma, .list o1 1 (ints l)] : Nat) : Int) → p := fun hx => by
   rw [hc2] at hx; omega
 repeat' first | ((first | refine z0 ?_ | (apply zI; refine zP (Ass _ _ _ _ hl hr) ?_) | (refine zP (fun h => ?_) (fun h => ?_) <;> (try simp only [aB, aE] at h)) | refine Or.inl ?_) <;> conv => whnf) | fail
 · have hlw : dN m t = true := by assumption
   refine fY Tryz.tabOk aF ?_
   conv => whnf
   repeat' first | ((first | refine z0 ?_ | (apply zI; refine zP (wE _ _ _ h1) ?_) | (refine zP (fun h => ?_) (fun h => ?_) <;> (try simp only [aB, aE] at h)) | refine zV ?_ | (apply zI; refine zP aG ?_) | refine Or.inl ?_) <;> conv => whnf) | fail
   · have hs : cX ma l = true := by assumption
     have hln := rI hs
     refine fY Tryz.tabOk aF ?_
     conv => whnf
     repeat' first | ((first | refine z0 ?_ | (refine zP (fun h => ?_) (fun h => ?_) <;> (try simp only [aB, aE] at h)) | refine zS ?_ | refine zV ?_ | (apply zI; refine zP aM ?_) | (apply zI; refine zP aG ?_) | refine zA ?_ | refine Alt.fst ?_ | refine Or.inl ?_) <;> conv => whnf) | fail
     · exact hno2 (by assumption)
     · refine fY Tryz.tabOk aF ?_
       conv => whnf
       repeat' first | ((first | refine z0 ?_ | (apply zI; refine zP (hcv hs) ?_) | (refine zP (fun h => ?_) (fun h => ?_) <;> (try simp only [aB, aE] at h)) | refine zS ?_ | refine zV ?_ | (apply zI; refine zP aG ?_) | refine Alt.fst ?_ | refine Or.inl ?_) <;> conv => whnf) | fail
       all_goals first
         | (exact hno (by assumption))
         | (refine congrArg aA ?_; simp [eS, jK, hlw, hs]; intros; first | omega | (simp_all; done) | (simp_all; omega))
         | skip
       all_goals first
         | (refine fY Tryz.tabOk aF ?_
            conv => whnf
            repeat' first | ((first | refine z0 ?_ | (refine zP (fun h => ?_) (fun h => ?_) <;> (try simp only [aB, aE] at h)) | refine zS ?_ | refine zV ?_ | (apply zI; refine zP aM ?_) | (apply zI; refine zP aG ?_) | refine zA ?_ | refine Alt.fst ?_ | refine Or.inl ?_) <;> conv => whnf) | fail
            all_goals first
              | (exact hno2 (by assumption))
              | (refine congrArg aA ?_; simp [eS, jK, hlw, hs]; intros; first | omega | (simp_all; done) | (simp_all; omega))
              | skip)
         | skip
   · have hs : cX ma l = false := by assumption
     refine congrArg aA ?_
     simp [eS, hlw, hs]
   · exact hno (by assumption)
 · have hlw : dN m t = false := by assumption
   refine congrArg aA ?_
   simp [eS, hlw]
end Go.Proofs
