/- Parts of the proof. -/
import Derived.Test.YtghcpginhamelaaGreatK135A
import Derived.Test.YtghcpginhamelaaGreatK33
import Derived.Test.YtghcpginhamelaaGreatK16
import Derived.Test.YtghcpginhamelaaGreatAlg21
import Derived.Test.YtghcpginhamelaaGreatK10
import Derived.Test.YtghcpginhamelaaGreatK127
import Derived.Test.YtghcpginhamelaaGreatAlg23
import Derived.Test.YtghcpginhamelaaGreatK119
import Derived.Test.YtghcpginhamelaaGreatAlg27
import Derived.Test.YtghcpginhamelaaGreatAlg33
namespace Go.Proofs
open Go Go.Vm Go.Fg Go.Fg.PS
set_option maxRecDepth 100000
set_option maxHeartbeats 4000000
set_option linter.unusedSimpArgs false
set_option linter.unusedVariables false
variable {m : Int}
noncomputable def Acb (hm : Md m) (o : Bool) (n : Nat) (hn : 2 ≤ n ∧ n ≤ 11) {d : Int} (hd : d + 1 = n) (a : PS (Zm m)) (F : PS (PS (Zm m))) : (R : Prop) ×' (Hold R → (X6 hm o n hn hd a F).1) := by
 have hm1 := hm.1
 have hm2 := hm.2
 apply PSigma.mk
 intro h0
 conv => whnf
 intro i hi
 conv => whnf
 have hZ1 : m - 1 = (-1 : Zm m).val := xU hm
 have hx3 := Zm.val_range hm.pos (a.c (Int.toNat 3))
 have hx4 := Zm.val_range hm.pos (a.c (Int.toNat 4))
 repeat' first | ((first | (apply zI; refine zP (nM hm _ _ _ _ n aF _ _) ?_) | (apply zI; refine zP (lE hm _ _ _ _ n aF _ _) ?_) | (apply zI; refine zP (jM hm _ _ n aF (-1) hZ1 _) ?_) | (refine zP (fun h => ?_) (fun h => ?_) <;> (try simp only [aB, aD] at h)) | refine zS ?_ | refine zV ?_ | (apply zI; refine zP aK ?_) | (apply zI; refine zP aH ?_) | refine Alt.fst ?_ | refine Or.inl ?_) <;> conv => whnf) | fail
 · have hin : i < n := aF
   refine Exists.intro (i + 1) (zP aF (zP aF ?_))
   first | refine aG.autoR ?_ | refine aC.autoR ?_
   conv => whnf
   repeat' ((first | refine z1 ?_ | refine z2 ?_ | refine zV ?_ | refine zP bQ ?_ | refine zP bR ?_ | refine zP ?_ ?_ | exact trivial) <;> try (conv => whnf))
   all_goals first
     | exact bV (dX ((w0 n a).c i) rfl (by omega) (cC.of_eq rfl))
 have hin : n = i := by omega
 subst hin
 rw [show yD (w0 n a) n + PS.C (PS.C (-1)) * (iE n a * bT 0 1 0 1) = qM n a from rfl]
 rw [show iE n a * iE n a = oJ n a from rfl]
 repeat' first | ((first | (apply zI; refine zP (jM hm _ _ n aF (a.c 0) rfl _) ?_) | (apply zI; refine zP (jM hm _ _ n aF (a.c 1) rfl _) ?_) | (apply zI; refine zP (lE hm _ _ _ _ n aF _ _) ?_) | refine zV ?_ | (apply zI; refine zP aK ?_) | (apply zI; refine zP aH ?_) | refine Or.inl ?_) <;> conv => whnf) | fail
 rw [show PS.C (PS.C (a.c 0)) * iE n a + PS.C (PS.C (a.c 1)) * qM n a = D3 n a from rfl]
 repeat' first | ((first | (apply zI; refine zP (jM hm _ _ n aF (a.c 2) rfl _) ?_) | (apply zI; refine zP (lE hm _ _ _ _ n aF _ _) ?_) | (apply zI; refine zP (nM hm _ _ _ _ n aF _ _) ?_) | refine zS ?_ | refine zV ?_ | (apply zI; refine zP aK ?_) | (apply zI; refine zP aH ?_) | refine Alt.fst ?_ | refine Or.inl ?_) <;> conv => whnf) | fail
 rw [show D3 n a + PS.C (PS.C (a.c 2)) * oJ n a = I8 n a from rfl]
 rw [show iE n a * qM n a = H7 n a from rfl]
 repeat' first | ((first | (apply zI; refine zP (jM hm _ _ n aF (Zm.mk m (2 * (a.c (Int.toNat 3)).val)) (oH hm (by omega)) _) ?_) | (apply zI; refine zP (lE hm _ _ _ _ n aF _ _) ?_) | (apply zI; refine zP (nM hm _ _ _ _ n aF _ _) ?_) | refine zS ?_ | refine zV ?_ | (apply zI; refine zP aK ?_) | (apply zI; refine zP aH ?_) | refine Alt.fst ?_ | refine Or.inl ?_) <;> conv => whnf) | fail
 rw [show I8 n a + PS.C (PS.C (Zm.mk m (2 * (a.c (Int.toNat 3)).val))) * H7 n a = M7 n a from rfl]
 rw [show oJ n a * qM n a = P6 n a from rfl]
 repeat' first | ((first | (apply zI; refine zP (jM hm _ _ n aF (Zm.mk m (3 * (a.c (Int.toNat 4)).val)) (oH hm (by omega)) _) ?_) | (apply zI; refine zP (lE hm _ _ _ _ n aF _ _) ?_) | refine zS ?_ | refine zV ?_ | (apply zI; refine zP aK ?_) | (apply zI; refine zP aH ?_) | refine Alt.fst ?_ | refine Or.inl ?_) <;> conv => whnf) | fail
 rw [show M7 n a + PS.C (PS.C (Zm.mk m (3 * (a.c (Int.toNat 4)).val))) * P6 n a = xK n a from rfl]
 repeat' first | ((first | (apply zI; refine zP (jM hm _ _ n aF (a.c 1) rfl _) ?_) | (apply zI; refine zP (jM hm _ _ n aF (a.c 3) rfl _) ?_) | (apply zI; refine zP (lE hm _ _ _ _ n aF _ _) ?_) | (apply zI; refine zP (nM hm _ _ _ _ n aF _ _) ?_) | refine zS ?_ | refine zV ?_ | (apply zI; refine zP aK ?_) | (apply zI; refine zP aH ?_) | refine Alt.fst ?_ | refine Or.inl ?_) <;> conv => whnf) | fail
 rw [show PS.C (PS.C (a.c 1)) * iE n a + PS.C (PS.C (a.c 3)) * oJ n a = J7 n a from rfl]
 rw [show oJ n a * iE n a = Q5 n a from rfl]
 repeat' first | ((first | (apply zI; refine zP (jM hm _ _ n aF (a.c 4) rfl _) ?_) | (apply zI; refine zP (lE hm _ _ _ _ n aF _ _) ?_) | refine zV ?_ | (apply zI; refine zP aK ?_) | (apply zI; refine zP aH ?_) | refine Or.inl ?_) <;> conv => whnf) | fail
 rw [show J7 n a + PS.C (PS.C (a.c 4)) * Q5 n a = vY n a from rfl]
 exact h0.out
theorem Ape (hm : Md m) (i : Nat) : eK [aA 1, aA (m - 1)] [] (place 1 0 ((i : Int).tmod 2).toNat) (aA ((oK : PS (Zm m)).c i).val) := by
 have h1 : (1 : Int) = (1 : Zm m).val := (Zm.val_one (by have := hm.1; omega)).symm
 have e : ((i : Int).tmod 2).toNat = i % 2 := by rw [Int.tmod_eq_emod_of_nonneg (by omega)]; omega
 refine ⟨_, rfl, ?_⟩
 unfold place oK
 rw [e]
 rcases Nat.mod_two_eq_zero_or_one i with h | h
 · rw [h]; simp only [if_pos h, ← h1]; rfl
 · rw [h]; simp only [if_neg (show ¬i % 2 = 0 by omega), ← xU hm]; rfl
noncomputable def Aq6 (hm : Md m) (o : Bool) (n : Nat) (hn : 2 ≤ n ∧ n ≤ 11) {d : Int} (hd : d + 1 = n) (a : PS (Zm m)) (F : PS (PS (Zm m))) : (R : Prop) ×' (Hold R → (Acb hm o n hn hd a F).1) := by
 have hm1 := hm.1
 have hm2 := hm.2
 apply PSigma.mk
 intro h0
 conv => whnf
 refine P5 Tryz.tabOk aE 26 (α := Nat) (fun i => [(7, .ref 0 [] 1 0 (n + 1)), (8, .undef), (11, .ref 2 [] 1 0 n), (12, .undef), (13, .undef), (14, .undef), (15, .undef), (16, .ref 18 [] 1 0 n), (17, .ref 24 [] 1 0 n), (18, .ref 25 [] 1 0 i), (19, aA i)]) (fun i => [(25, some ⟨false, 1, ints (L i (oK : PS (Zm m)))⟩)]) (fun i => i ≤ n) (fun i => n - i) (0) ?_ ?_ ?_
 · omega
 · conv => whnf
   first | refine aG.autoR ?_ | refine aC.autoR ?_
   conv => whnf
   repeat' ((first | refine z1 ?_ | refine z2 ?_ | refine zV ?_ | refine zP bQ ?_ | refine zP bR ?_ | refine zP ?_ ?_ | exact trivial) <;> try (conv => whnf))
   all_goals first | rfl
 intro i hi
 conv => whnf
 repeat' first | ((refine Exists.intro (aA ((oK : PS (Zm m)).c i).val) (zP (Ape hm i) ?_); conv => whnf)) | ((first | (refine zP (fun h => ?_) (fun h => ?_) <;> (try simp only [aB, aD] at h) <;> first | (exfalso; omega) | skip) | refine zV ?_ | (apply zI; refine zP aK ?_) | (apply zI; refine zP aH ?_) | refine Or.inl ?_) <;> conv => whnf) | fail
 · have hin : i < n := aF
   refine Exists.intro (i + 1) (zP aF (zP aF ?_))
   first | refine aG.autoR ?_ | refine aC.autoR ?_
   conv => whnf
   repeat' ((first | refine z1 ?_ | refine z2 ?_ | refine zV ?_ | refine zP bQ ?_ | refine zP bR ?_ | refine zP ?_ ?_ | exact trivial) <;> try (conv => whnf))
   all_goals first
     | omega
     | exact cQ (nU rfl)
 have hin : n = i := by omega
 subst hin
 repeat' first | ((first | (apply zI; refine zP (zE hm _ _ _ n (by omega) n (by omega) oK (vY n a)) ?_) | (apply zI; refine zP (nM hm _ _ _ _ n aF (xK n a) (bC oK (vY n a) 0 n)) ?_) | (apply zI; refine zP (Apj _ _ n (by omega) (bT 0 1 0 1)) ?_) | (apply zI; refine zP (lE hm _ _ _ _ n aF _ _) ?_) | (apply zI; refine zP (jM hm _ _ n aF (-1) (xU hm) _) ?_) | refine zV ?_ | (apply zI; refine zP aK ?_) | (apply zI; refine zP aH ?_) | refine Or.inl ?_) <;> conv => whnf) | fail
 rw [show xK n a * bC oK (vY n a) 0 n = wQ n a from rfl]
 rw [show PS.C (PS.C (-1)) * (bT 0 1 0 1 + turn (bT 0 1 0 1) + wQ n a) = wU n a from rfl]
 exact h0.out
theorem W5 (hm : Md m) {x : Int} (h : 0 ≤ x) : 0 ≤ x.tmod m ∧ x.tmod m < m := by
 have := hm.pos
 rw [Int.tmod_eq_emod_of_nonneg h]
 exact ⟨Int.emod_nonneg _ (by omega), Int.emod_lt_of_pos _ (by omega)⟩
theorem Amf (hm : Md m) {n : Nat} {a : PS (Zm m)} : [aA 1] = ints (L (0 + 1) (lN n a)) := by
 have h1 : (1 : Int) = (1 : Zm m).val := (Zm.val_one (by have := hm.1; omega)).symm
 show _ = [aA (1 : Zm m).val]
 rw [← h1]
def tS : PS (Zm m) := ⟨fun k => if k = 1 then -1 else 0⟩
theorem Ake (hm : Md m) {n : Nat} (hn : 2 ≤ n ∧ n ≤ 11) {d : Int} (hd : d + 1 = n) : (List.replicate (d + 1).toNat (0 : Int)).set 1 (m - 1) = L n (tS : PS (Zm m)) := by
 rw [show (d + 1).toNat = n by omega]
 refine List.ext_getElem (by simp) (fun i h1 h2 => ?_)
 rw [List.getElem_set, lU]
 unfold tS
 by_cases h : 1 = i
 · rw [if_pos h]; simp only [if_pos h.symm]; exact xU hm
 · rw [if_neg h]; simp only [if_neg (Ne.symm h), List.getElem_replicate]; rfl
theorem Alv (hm : Md m) (o : Bool) (n : Nat) (hn : 2 ≤ n ∧ n ≤ 11) {d : Int} (hd : d + 1 = n) (a : PS (Zm m)) : aL Tryz.prog 117 [aA m, aA d, LD o 5 a] (cH true true n (wF n a)) := by
 have hm1 := hm.1
 have hm2 := hm.2
 refine (X6 hm o n hn hd a (wF n a)).2 ⟨(Acb hm o n hn hd a (wF n a)).2 ⟨(Aq6 hm o n hn hd a (wF n a)).2 ⟨?_⟩⟩⟩
 conv => whnf
 refine P5 Tryz.tabOk aE 26 (α := Nat) (fun k => [(7, .ref 0 [] 1 0 (n + 1)), (11, .undef), (16, .undef), (17, .undef), (18, .undef), (19, .undef), (20, .undef), (21, .ref 31 [] 1 0 n), (22, .ref 32 [] 1 0 (k + 1)), (23, aA ((k : Int) + 1)), (24, .undef)]) (fun k => [(32, some ⟨false, 1, ints (L (k + 1) (lN n a))⟩)]) (fun k => k + 1 ≤ n) (fun k => n - k) (0) ?_ ?_ ?_
 · omega
 · conv => whnf
   first | refine aG.autoR ?_ | refine aC.autoR ?_
   conv => whnf
   repeat' ((first | refine z1 ?_ | refine z2 ?_ | refine zV ?_ | refine zP bQ ?_ | refine zP bR ?_ | refine zP ?_ ?_ | exact trivial) <;> try (conv => whnf))
   all_goals first | rfl | exact Amf hm
 intro k hk
 conv => whnf
 have hx2 := hm.mul (a.c (Int.toNat 2)) ((w0 n a).c (k + 1))
 have hx0 := Zm.val_range hm.pos (a.c 0)
 have e1 : ((k : Int) + 1).toNat = k + 1 := by omega
 by_cases hk9 : k + 1 < n
 · have hy1 := W5 hm (x := (a.c (Int.toNat 2)).val * ((w0 n a).c (k + 1)).val + (a.c 0).val) (by omega)
   have hy2 := W5 hm (x := (a.c (Int.toNat 2)).val * ((w0 n a).c (k + 1)).val) (by omega)
   repeat' first | ((first | (refine zP (fun h => ?_) (fun h => ?_) <;> (try simp only [aB, aD] at h) <;> first | (exfalso; omega) | skip) | refine zS ?_ | refine zV ?_ | (apply zI; refine zP aK ?_) | (apply zI; refine zP aH ?_)) <;> conv => whnf) | fail
   · refine Exists.intro (k + 1) (zP aF (zP aF ?_))
     first | refine aG.autoR ?_ | refine aC.autoR ?_
     conv => whnf
     repeat' ((first | refine z1 ?_ | refine z2 ?_ | refine zV ?_ | refine zP bQ ?_ | refine zP bR ?_ | refine zP ?_ ?_ | exact trivial) <;> try (conv => whnf))
     all_goals first
       | omega
       | exact cQ (nU (by unfold lN G4; simp only [if_neg (show ¬k + 1 = 0 by omega), if_pos (show k + 1 = 1 by omega)]; exact oH hm (by omega)))
   · refine Exists.intro (k + 1) (zP aF (zP aF ?_))
     first | refine aG.autoR ?_ | refine aC.autoR ?_
     conv => whnf
     repeat' ((first | refine z1 ?_ | refine z2 ?_ | refine zV ?_ | refine zP bQ ?_ | refine zP bR ?_ | refine zP ?_ ?_ | exact trivial) <;> try (conv => whnf))
     all_goals first
       | omega
       | exact cQ (nU (by unfold lN G4; simp only [if_neg (show ¬k + 1 = 0 by omega), if_neg (show ¬k + 1 = 1 by omega), Int.add_zero]; exact oH hm (by omega)))
 have hkn : n = k + 1 := by omega
 repeat' first | ((first | (apply zI; refine zP (Ai2 hm _ n (k + 1) hd (by omega) (by omega) (by omega) (lN n a) _ (D2 hm _)) ?_) | (refine zP (fun h => ?_) (fun h => ?_) <;> (try simp only [aB, aD] at h) <;> first | (exfalso; omega) | skip) | refine zV ?_ | (apply zI; refine zP aH ?_) | refine Or.inl ?_) <;> conv => whnf) | fail
 rw [Ake hm hn hd]
 repeat' first | ((first | refine z0 ?_ | (apply zI; refine zP (sF hm _ _ n n n hd (by omega) (by omega) (by omega) (by omega) (by omega) (tS : PS (Zm m)) (inv (aY m ((lN n a).c 0).val) (lN n a))) ?_) | (apply zI; refine zP (zE hm _ _ _ n (by omega) n (by omega) (tS * inv (aY m ((lN n a).c 0).val) (lN n a)) (wU n a)) ?_) | refine zV ?_ | (apply zI; refine zP aK ?_) | (apply zI; refine zP aH ?_) | refine Or.inl ?_) <;> conv => whnf) | fail
 all_goals rfl
abbrev dO (m : Int) (t : List (List Int)) : D := .agg [aA m, .list false 1 (rows false t)]
theorem uU (f : PS (PS (Zm m))) (a b : PS (Zm m)) (n : Nat) : cO f a b n = bG n f a b := by
 unfold cO fU bG
 exact Go.Fg.add_zero _
theorem L_X (hm : Md m) (n : Nat) : (List.replicate n (0 : Int)).set 1 1 = L n (PS.X : PS (Zm m)) := by
 rw [← fT (m := m)]; exact eW (1 : Zm m) (Zm.val_one (by have := hm.1; omega)).symm (Ag.of_eq (by ext k; rw [cL, qN]; split <;> rfl))
theorem Ar9 (hm : Md m) (z : Zm m) : (0 - z.val) % m = (-z).val := by rw [Int.zero_sub]; exact (Zm.val_neg z).symm
theorem Am0 (hm : Md m) (z : Zm m) : (m - z.val).tmod m = (-z).val := by
 have h1 := Zm.val_range hm.pos z
 exact Zm.tmod_val (by omega) (by rw [Zm.mk_sub, Zm.mk_self, Zm.mk_val, Go.Fg.sub_def, CR.zero_add])
theorem Amo (hm : Md m) (o p : Bool) (n : Nat) (hn : 2 ≤ n ∧ n ≤ 100) (f : PS (PS (Zm m))) : aL Tryz.prog 207 [cI m o p n f] (eI m true n (kF n f)) := by
 have hm1 := hm.1
 have hm2 := hm.2
 refine aX Tryz.tabOk aE Tryz.func207 rfl rfl ?_
 conv => whnf
 repeat' first | ((first | (apply zI; refine zP (iM _ _ n aF _) ?_) | (apply zI; refine zP (Y7 n aF aF hm) ?_) | (apply zI; refine zP (qW n aF aF) ?_) | refine zS ?_ | refine Alt.fst ?_ | refine Or.inl ?_) <;> conv => whnf) | fail
 refine aR Tryz.tabOk aE (α := Nat) (fun k => [(5, aA ((k : Int) + 1))]) (fun k => [(8, some ⟨false, 1, ints (L n (fO n f k))⟩)]) (fun k => k + 1 ≤ n) (fun k => n - k) (0) ?_ ?_ ?_
 · omega
 · conv => whnf
   first | refine aG.autoR ?_ | refine aC.autoR ?_
   conv => whnf
   repeat' ((first | refine z1 ?_ | refine z2 ?_ | refine zV ?_ | refine zP bQ ?_ | refine zP bR ?_ | refine zP ?_ ?_ | exact trivial) <;> try (conv => whnf))
   all_goals first | rfl
 intro k hk
 conv => whnf
 have hr := Zm.val_range hm.pos ((cO f PS.X (fO n f k) n).c (k + 1))
 repeat' first | ((first | refine z0 ?_ | (apply zI; refine zP (iM _ _ n aF _) ?_) | (apply zI; refine zP (xX hm _ _ _ _ n aF f _ _) ?_) | (apply zI; refine zP (oV _ _ hm.pos (by omega)) ?_) | (refine zP (fun h => ?_) (fun h => ?_) <;> (try simp only [aB, aD] at h)) | refine zS ?_ | refine zV ?_ | (apply zI; refine zP aH ?_) | refine Alt.fst ?_ | refine Or.inl ?_) <;> conv => whnf) | fail
 · refine Exists.intro (k + 1) (zP (by omega) (zP (by omega) ?_))
   first | refine aG.autoR ?_ | refine aC.autoR ?_
   conv => whnf
   repeat' ((first | refine z1 ?_ | refine z2 ?_ | refine zV ?_ | refine zP bQ ?_ | refine zP bR ?_ | refine zP ?_ ?_ | exact trivial) <;> try (conv => whnf))
   all_goals (refine cQ (eW _ (Ar9 hm _) ?_); rw [uU]; exact Ag.rfl)
 · rw [kF, show n - 1 = k by omega]
theorem Als (hm : Md m) (o p : Bool) (n : Nat) (hn : 2 ≤ n ∧ n ≤ 100) (f : PS (PS (Zm m))) : aL Tryz.prog 208 [cI m o p n f] (LD true n (kF n f)) := by
 have hm1 := hm.1
 have hm2 := hm.2
 refine aX Tryz.tabOk aE Tryz.func208 rfl rfl ?_
 conv => whnf
 repeat' first | ((first | refine z0 ?_ | (refine zP (fun h => ?_) (fun h => ?_) <;> (try simp only [aB, aD] at h)) | refine zS ?_ | refine zV ?_ | (apply zI; refine zP aK ?_) | (apply zI; refine zP aH ?_) | refine zA ?_ | refine Alt.fst ?_ | refine Or.inl ?_) <;> conv => whnf) | fail
 refine aR Tryz.tabOk aE (α := Nat) (fun k => [(6, aA ((k : Int) + 1)), (3, aA ((n : Int) - 1)), (4, .ref 1 [] 1 0 n), (5, .ref 2 [] 1 0 n), (7, .undef)]) (fun k => [(1, some ⟨false, 1, ints (L n (fO n f k))⟩), (2, some ⟨false, 1, ints (L n (PS.X : PS (Zm m)))⟩)]) (fun k => k + 1 ≤ n) (fun k => n - k) (0) ?_ ?_ ?_
 · omega
 · conv => whnf
   first | refine aG.autoR ?_ | refine aC.autoR ?_
   conv => whnf
   repeat' ((first | refine z1 ?_ | refine z2 ?_ | refine zV ?_ | refine zP bQ ?_ | refine zP bR ?_ | refine zP ?_ ?_ | exact trivial) <;> try (conv => whnf))
   all_goals (rw [show ((n : Int) - 1 + 1).toNat = n by omega]; first | exact congrArg ints (fT n).symm | exact congrArg ints (L_X hm n))
 intro k hk
 conv => whnf
 have hr := Zm.val_range hm.pos ((cO f PS.X (fO n f k) n).c (k + 1))
 repeat' first | ((first | refine z0 ?_ | (apply zI; refine zP (C0 hm _ _ _ _ n aF f _ _) ?_) | (refine zP (fun h => ?_) (fun h => ?_) <;> (try simp only [aB, aD] at h)) | refine zS ?_ | refine zV ?_ | (apply zI; refine zP aH ?_) | refine Or.inl ?_) <;> conv => whnf) | fail
 · refine Exists.intro (k + 1) (zP (by omega) (zP (by omega) ?_))
   first | refine aG.autoR ?_ | refine aC.autoR ?_
   conv => whnf
   repeat' ((first | refine z1 ?_ | refine z2 ?_ | refine zV ?_ | refine zP bQ ?_ | refine zP bR ?_ | refine zP ?_ ?_ | exact trivial) <;> try (conv => whnf))
   all_goals (refine cQ (eW _ (Am0 hm _) ?_); rw [uU]; exact Ag.rfl)
 · rw [kF, show n - 1 = k by omega]
end Go.Proofs
namespace Go.Proofs
open Go Go.Vm Go.Fg Go.Fg.PS
set_option maxRecDepth 100000
set_option maxHeartbeats 4000000
set_option linter.unusedSimpArgs false
set_option linter.unusedVariables false
end Go.Proofs
namespace Go.Proofs
open Go Go.Vm Go.Fg Go.Fg.PS
set_option maxRecDepth 100000
set_option maxHeartbeats 4000000
set_option linter.unusedSimpArgs false
set_option linter.unusedVariables false
variable {m : Int}
set_option linter.unusedSectionVars false
theorem Acv {f : PS (PS (Zm m))} {n : Nat} (hn : 2 ≤ n) (L : mL f n) : LwN f n :=
 ⟨hn, by rw [L.1 0 (by omega)]; exact if_neg (by omega), by rw [L.1 1 (by omega)]; exact if_pos rfl, fun i hi hne => by rw [L.1 i hi]; exact if_neg hne, L.2.1, fun p q k h => L.2.2 p q k h⟩
section
variable {f : PS (PS (Zm m))} {n : Nat} (hL : LwN f n)
include hL
theorem Ase {k : Nat} {out a r : PS (Zm m)} (h : Mul f n k out a r) (ho : out.c 0 = 0) (ha : a.c 0 = 0) : cv n r = hL.G.ad (cv n out) (hL.G.nm k (cv n a)) ∧ r.c 0 = 0 := by
 induction h with
 | zero out a => exact ⟨(hL.G.adz _).symm, ho⟩
 | odd k out a r hk h ih =>
   obtain ⟨h1, h2⟩ := ih (nF hL.z0 ho ha) (nF hL.z0 ha ha)
   refine ⟨?_, h2⟩
   rw [h1, uU, uU, ← hL.ad_cv ho ha, ← hL.ad_cv ha ha, hL.G.nm_ad, ← hL.G.nm_add, hL.G.assoc, hL.G.comm (cv n a)]
   have e : hL.G.nm k (cv n a) = hL.G.ad (hL.G.nm (k / 2 + k / 2) (cv n a)) (cv n a) := by
     conv => lhs; rw [show k = (k / 2 + k / 2) + 1 by omega]
     rfl
   rw [e]
 | even k out a r hk hk2 h ih =>
   obtain ⟨h1, h2⟩ := ih ho (nF hL.z0 ha ha)
   refine ⟨?_, h2⟩
   rw [h1, uU, ← hL.ad_cv ha ha, hL.G.nm_ad, ← hL.G.nm_add, show k / 2 + k / 2 = k by omega]
end
theorem yS (o : Bool) (l : List Nat) (hb : ∀ b ∈ l, b < 256) (hl : l.length ≤ 4611686018427387904) (a : Nat) (ha : a ≤ l.length) (hs : Int) (n : Int) :
   cM Tryz.prog 29 2 [.ptr 1 [] 0, aA n] [none, some (aU o l a hs)]
     (fun d rt => ∃ (x : Int) (a' : Nat) (h' : Int), ((n < 1 → x = 0) ∧ (1 ≤ n → 0 ≤ x ∧ x < n)) ∧ a' ≤ l.length ∧ d = aA x ∧ rt = [none, some (aU o l a' h')]) := by
 have hbyte : a < l.length → l.getD a 0 < 256 := fun h => hb _ (by rw [List.getD_eq_getElem?_getD, List.getElem?_eq_getElem h]; exact List.getElem_mem h)
 refine eR Tryz.tabOk aE 2 _ Tryz.func29 rfl rfl ?_
 conv => whnf
 repeat' first | ((first | refine z0 ?_ | (refine zP (fun h => ?_) (fun h => ?_) <;> (try simp only [aB, aD] at h)) | refine zS ?_ | refine zV ?_ | (apply zI; refine zP aK ?_) | (apply zI; refine zP aH ?_) | refine zA ?_ | refine Alt.fst ?_ | refine Or.inl ?_) <;> conv => whnf) | fail
 · have hn1 : n < 1 := by assumption
   have hwk := fun st => aC.autoR (kp := 2) (st := st) (st2 := ⟨[aA 0], [none, some (aU o l a hs)]⟩)
   refine ⟨aA 0, [none, some (aU o l a hs)], ⟨0, a, hs, ⟨fun _ => rfl, fun h => by omega⟩, ha, rfl, rfl⟩, hwk _ ?_⟩
   conv => whnf
   repeat' ((first | refine z1 ?_ | refine z2 ?_ | refine zV ?_ | refine zP ?_ ?_ | exact trivial) <;> try (conv => whnf))
 · have hn1 : ¬ n < 1 := by assumption
   generalize IntKind.u64.wrap (IntKind.u64.wrap (hs * 6364136223846793005) + 1442695040888963407) = H
   have hx := Af7 (H.fdiv (2 ^ min (Int.toNat 33) IntKind.u64.bits))
   generalize IntKind.u64.wrap ((BitVec.ofInt IntKind.u64.bits (H.fdiv (2 ^ min (Int.toNat 33) IntKind.u64.bits)) &&& BitVec.ofInt IntKind.u64.bits 16777215).toNat : Nat) = X at hx ⊢
   repeat' first | ((first | refine z0 ?_ | (apply zI; refine zP (sX (i := a) aN (by simp only [aB, bB] at *; omega)) ?_) | (refine zP (fun h => ?_) (fun h => ?_) <;> (try simp only [aB, aD] at h)) | refine zS ?_ | refine zV ?_) <;> conv => whnf) | fail
   · have hal : a < l.length := by simp only [bB] at *; omega
     have hby := hbyte hal
     repeat' first | ((first | refine z0 ?_ | (apply zI; refine zP (sX (i := a) aN (by simp only [aB, bB] at *; omega)) ?_) | (refine zP (fun h => ?_) (fun h => ?_) <;> (try simp only [aB, aD] at h)) | refine zS ?_ | refine zV ?_) <;> conv => whnf) | fail
     have hwk := fun st => aC.autoR (kp := 2) (st := st) (st2 := ⟨[aA ((X + ((l.getD a 0 : Nat) : Int)).tmod n)], [none, some (aU o l (a + 1) H)]⟩)
     refine ⟨aA ((X + ((l.getD a 0 : Nat) : Int)).tmod n), [none, some (aU o l (a + 1) H)], ⟨_, a + 1, H, ⟨fun h => by omega, fun h => ⟨Int.tmod_nonneg _ (by omega), Int.tmod_lt_of_pos _ (by omega)⟩⟩, hal, rfl, rfl⟩, hwk _ ?_⟩
     conv => whnf
     repeat' ((first | refine z1 ?_ | refine z2 ?_ | refine zV ?_ | refine zP ?_ ?_ | exact trivial) <;> try (conv => whnf))
   · have hwk := fun st => aC.autoR (kp := 2) (st := st) (st2 := ⟨[aA (X.tmod n)], [none, some (aU o l a H)]⟩)
     refine ⟨aA (X.tmod n), [none, some (aU o l a H)], ⟨_, a, H, ⟨fun h => by omega, fun h => ⟨Int.tmod_nonneg _ (by omega), Int.tmod_lt_of_pos _ (by omega)⟩⟩, ha, rfl, rfl⟩, hwk _ ?_⟩
     conv => whnf
     repeat' ((first | refine z1 ?_ | refine z2 ?_ | refine zV ?_ | refine zP ?_ ?_ | exact trivial) <;> try (conv => whnf))
theorem Anc (o : Bool) (l : List Nat) (hb : ∀ b ∈ l, b < 256) (hl : l.length ≤ 4611686018427387904) (z : Int) :
   cM Tryz.prog 28 1 [.list o 1 (dR l), .lit (.int .u64 z)] [none]
     (fun d rt => ∃ h' : Int, d = .ptr 1 [] 0 ∧ rt = [none, some (aU o l 0 h')]) := by
 refine eR Tryz.tabOk aE 1 _ Tryz.func28 rfl rfl ?_
 conv => whnf
 repeat' first | ((first | refine z0 ?_ | (refine zP (fun h => ?_) (fun h => ?_) <;> (try simp only [aB, aD] at h)) | refine zS ?_ | refine zV ?_ | (apply zI; refine zP aK ?_) | (apply zI; refine zP aH ?_) | refine zA ?_ | refine Alt.fst ?_ | refine Or.inl ?_) <;> conv => whnf) | fail
 refine aR Tryz.tabOk aE (α := Nat × Int) (fun x => [(6, aA x.1)]) (fun x => [(1, some (aU o l 0 x.2))]) (fun x => x.1 ≤ l.length) (fun x => l.length - x.1) ((0, IntKind.u64.wrap (IntKind.u64.wrap (z * 6257) + IntKind.u64.wrap (l.length : Nat)))) ?_ ?_ ?_
 · omega
 · conv => whnf
   first | refine aG.autoR ?_ | refine aC.autoR ?_
   conv => whnf
   repeat' ((first | refine z1 ?_ | refine z2 ?_ | refine zV ?_ | refine zP bQ ?_ | refine zP bR ?_ | refine zP ?_ ?_ | exact trivial) <;> try (conv => whnf))
   rw [show cnt 1 (dR l) = l.length by rw [aB, bB]]
 intro ⟨i, hh⟩ hi
 simp only at hi
 conv => whnf
 repeat' first | ((first | refine z0 ?_ | (apply zI; refine zP (sX (i := i) aN (by simp only [aB, bB] at *; omega)) ?_) | (refine zP (fun h => ?_) (fun h => ?_) <;> (try simp only [aB, aD] at h)) | refine zS ?_ | refine zV ?_) <;> conv => whnf) | fail
 · have hil : i < l.length := by simp only [bB] at *; omega
   refine Exists.intro (i + 1, IntKind.u64.wrap (IntKind.u64.wrap (IntKind.u64.wrap (hh * 1099511628211) + IntKind.u64.wrap ((l.getD i 0 : Nat) : Int)) + 5)) (zP hil (zP (by simp only; omega) ?_))
   first | refine aG.autoR ?_ | refine aC.autoR ?_
   conv => whnf
   repeat' ((first | refine z1 ?_ | refine z2 ?_ | refine zV ?_ | refine zP bQ ?_ | refine zP bR ?_ | refine zP ?_ ?_ | exact trivial) <;> try (conv => whnf))
 · have hwk := fun st => aC.autoR (kp := 1) (st := st) (st2 := ⟨[.ptr 1 [] 0], [none, some (aU o l 0 hh)]⟩)
   refine ⟨.ptr 1 [] 0, [none, some (aU o l 0 hh)], ⟨hh, rfl, rfl⟩, hwk _ ?_⟩
   conv => whnf
   repeat' ((first | refine z1 ?_ | refine z2 ?_ | refine zV ?_ | refine zP ?_ ?_ | exact trivial) <;> try (conv => whnf))
end Go.Proofs
namespace Go.Proofs
open Go Go.Vm Go.Fg Go.Fg.PS
set_option linter.unusedVariables false
theorem wei : Wei := fun _ hm n hn _ hd o a => ⟨wF n a, Alv hm o n hn hd a⟩
end Go.Proofs
namespace Go.Proofs
open Go Go.Vm Go.Fg Go.Fg.PS
set_option maxRecDepth 100000
set_option maxHeartbeats 4000000
set_option linter.unusedSimpArgs false
set_option linter.unusedVariables false
variable {m : Int}
end Go.Proofs
namespace Go.Proofs
open Go Go.Vm Go.Fg Go.Fg.PS
set_option maxRecDepth 100000
set_option maxHeartbeats 4000000
set_option linter.unusedSimpArgs false
set_option linter.unusedVariables false
end Go.Proofs
namespace Go.Proofs
open Go Go.Vm Go.Fg Go.Fg.PS
set_option maxRecDepth 100000
set_option maxHeartbeats 4000000
set_option linter.unusedSimpArgs false
set_option linter.unusedVariables false
variable {m : Int}
def kM (p d : Int) : Nat := if p * p * p ≤ d then 3 else if p * p ≤ d then 2 else if p ≤ d then 1 else 0
def qP (p : Int) (k : Nat) : Int := if k = 0 then 1 else if k = 1 then p else if k = 2 then p * p else p * p * p
theorem Aon (p dg : Int) (hp : p = 2 ∨ p = 3 ∨ p = 5 ∨ p = 7) (hd : 1 ≤ dg ∧ dg ≤ 10) :
   aL Tryz.prog 323 [aA p, aA dg] (.tup [aA (kM p dg), aA (qP p (kM p dg))]) := by
 have key : ∀ k : Nat, k ≤ kM p dg → (qP p k * p ≤ dg ↔ k + 1 ≤ kM p dg) ∧ (1 ≤ qP p k ∧ qP p k ≤ 10) ∧ (k + 1 ≤ kM p dg → qP p (k + 1) = qP p k * p) := by
   intro k hk
   have hk3 : k = 0 ∨ k = 1 ∨ k = 2 ∨ k = 3 := by
     unfold kM at hk
     split at hk <;> (try split at hk) <;> (try split at hk) <;> omega
   unfold kM at hk ⊢
   unfold qP
   rcases hp with rfl | rfl | rfl | rfl <;> rcases hk3 with rfl | rfl | rfl | rfl <;> simp at hk ⊢ <;> (repeat' split) <;> (try split at hk) <;> (try split at hk) <;> (try split at hk) <;> omega
 have hp7 : 2 ≤ p ∧ p ≤ 7 := by omega
 have hk3 : kM p dg ≤ 3 := by
   unfold kM
   split <;> (try split) <;> (try split) <;> omega
 refine aX Tryz.tabOk aE Tryz.func323 rfl rfl ?_
 conv => whnf
 repeat' first | ((first | refine z0 ?_ | (refine zP (fun h => ?_) (fun h => ?_) <;> (try simp only [aB, aD] at h)) | refine zS ?_ | refine zV ?_ | (apply zI; refine zP aK ?_) | (apply zI; refine zP aH ?_) | refine zA ?_ | refine Alt.fst ?_ | refine Or.inl ?_) <;> conv => whnf) | fail
 refine aR Tryz.tabOk aE (α := Nat) (fun k => [(6, aA k), (7, aA (qP p k))]) (fun k => []) (fun k => k ≤ kM p dg) (fun k => kM p dg - k) (0) ?_ ?_ ?_
 · omega
 · conv => whnf
   first | refine aG.autoR ?_ | refine aC.autoR ?_
   conv => whnf
   repeat' ((first | refine z1 ?_ | refine z2 ?_ | refine zV ?_ | refine zP ?_ ?_ | exact trivial) <;> try (conv => whnf))
 intro k hk
 obtain ⟨k1, k2, k3⟩ := key k hk
 have k4 : 0 ≤ qP p k * p ∧ qP p k * p ≤ 70 := ⟨Int.mul_nonneg (by omega) (by omega), by have := Int.mul_le_mul k2.2 hp7.2 (by omega) (by omega : (0 : Int) ≤ 10); omega⟩
 conv => whnf
 repeat' first | ((first | refine z0 ?_ | (refine zP (fun h => ?_) (fun h => ?_) <;> (try simp only [aB, aD] at h)) | refine zV ?_ | (apply zI; refine zP aH ?_)) <;> conv => whnf) | fail
 · have h : k + 1 ≤ kM p dg := k1.1 aF
   refine Exists.intro (k + 1) ⟨?_, ?_, ?_⟩
   · exact h
   · omega
   first | refine aG.autoR ?_ | refine aC.autoR ?_
   conv => whnf
   repeat' ((first | refine z1 ?_ | refine z2 ?_ | refine zV ?_ | refine zP ?_ ?_ | exact trivial) <;> try (conv => whnf))
   all_goals first | (rw [k3 h]; done) | (simp; done)
 · have h : ¬ qP p k * p ≤ dg := aF
   have h2 : k = kM p dg := by
     rcases Nat.lt_or_ge k (kM p dg) with h3 | h3
     · exact absurd (k1.2 h3) h
     · omega
   rw [h2]
theorem Aqo (o : Bool) (l : List Int) (hl : l.length ≤ 3) : aL Tryz.prog 325 [.list o 1 (ints l)] (.list true 1 (ints (l ++ List.replicate (3 - l.length) 0))) := by
 refine aX Tryz.tabOk aE Tryz.func325 rfl rfl ?_
 conv => whnf
 repeat' first | ((first | (apply zI; refine zP (zJ _ _ (by omega)) ?_) | refine Or.inl ?_) <;> conv => whnf) | fail
 refine aR Tryz.tabOk aE (α := Nat) (fun j => [(3, .ref 0 [] 1 0 (l.length + j)), (5, .undef)]) (fun j => [(0, some ⟨false, 1, ints (l ++ List.replicate j 0)⟩)]) (fun j => j ≤ 3 - l.length) (fun j => 3 - l.length - j) (0) ?_ ?_ ?_
 · omega
 · conv => whnf
   first | refine aG.autoR ?_ | refine aC.autoR ?_
   conv => whnf
   repeat' ((first | refine z1 ?_ | refine z2 ?_ | refine zV ?_ | refine zP ?_ ?_ | exact trivial) <;> try (conv => whnf))
   all_goals simp
 intro j hj
 conv => whnf
 repeat' first | ((first | refine z0 ?_ | (refine zP (fun h => ?_) (fun h => ?_) <;> (try simp only [aB, aD, aP, aT, aV, bB] at h) <;> first | (exfalso; first | omega | exact h trivial | (cases h; done)) | skip) | refine zV ?_ | (apply zI; refine zP aK ?_) | (apply zI; refine zP aH ?_)) <;> conv => whnf) | fail
 · refine Exists.intro (j + 1) (zP (by omega) (zP (by omega) ?_))
   first | refine aG.autoR ?_ | refine aC.autoR ?_
   conv => whnf
   repeat' ((first | refine z1 ?_ | refine z2 ?_ | refine zV ?_ | refine zP ?_ ?_ | exact trivial) <;> try (conv => whnf))
   all_goals first | omega | (simp [ints, List.replicate_succ']; done)
 · rw [show j = 3 - l.length by omega]
def wA (P : Zm m) (p : Nat) (v A : PS (Zm m)) (k : Nat) : Nat → Zm m
 | 0 => 0
 | i + 1 => wA P p v A k i + pw P (k - i) * A.c i * pw (v.c (k - i)) (p ^ i)
def kQ (P : Zm m) (p : Nat) (v : PS (Zm m)) : Nat → PS (Zm m)
 | 0 => (0 : PS (Zm m)).upd 0 1
 | k + 1 => (kQ P p v k).upd (k + 1) (wA P p v (kQ P p v k) k (k + 1))
theorem Afa (hm : Md m) (p : Nat) (hp : 2 ≤ p ∧ p ≤ 7) (o : Bool) (v : PS (Zm m)) : aL Tryz.prog 324 [aA p, aA m, LD o 3 v] (LD true 4 (kQ (Zm.mk m p) p v 3)) := by
 have hm1 := hm.1
 have hm2 := hm.2
 have hpe : ∀ i, i ≤ 3 → 1 ≤ p ^ i ∧ p ^ i ≤ 343 := fun i hi => by
   refine ⟨Nat.one_le_pow _ _ (by omega), ?_⟩
   exact Nat.le_trans (Nat.pow_le_pow_left hp.2 i) (Nat.le_trans (Nat.pow_le_pow_right (by omega) hi) (by decide))
 refine aX Tryz.tabOk aE Tryz.func324 rfl rfl ?_
 conv => whnf
 repeat' first | ((first | refine z0 ?_ | (refine zP (fun h => ?_) (fun h => ?_) <;> (try simp only [aB, aD] at h)) | refine zS ?_ | refine zV ?_ | (apply zI; refine zP aK ?_) | (apply zI; refine zP aH ?_) | refine zA ?_ | refine Alt.fst ?_ | refine Or.inl ?_) <;> conv => whnf) | fail
 refine aR Tryz.tabOk aE (α := Nat) (fun k => [(8, aA ((k : Int) + 1)), (7, .ref 0 [] 1 0 (k + 1)), (15, .undef)]) (fun k => [(0, some ⟨false, 1, ints (L (k + 1) (kQ (Zm.mk m p) p v k))⟩)]) (fun k => k ≤ 3) (fun k => 3 - k) (0) ?_ ?_ ?_
 · omega
 · conv => whnf
   first | refine aG.autoR ?_ | refine aC.autoR ?_
   conv => whnf
   repeat' ((first | refine z1 ?_ | refine z2 ?_ | refine zV ?_ | refine zP ?_ ?_ | exact trivial) <;> try (conv => whnf))
   all_goals first | (rw [tJ hm]; rfl)
 intro k hk
 conv => whnf
 by_cases hk3 : k < 3
 · repeat' first | ((first | refine z0 ?_ | (refine zP (fun h => ?_) (fun h => ?_) <;> (try simp only [aB, aD, aP, aT, aV, bB] at h) <;> first | (exfalso; first | omega | exact h trivial | (cases h; done)) | skip) | refine zV ?_ | (apply zI; refine zP aK ?_) | (apply zI; refine zP aH ?_)) <;> conv => whnf) | fail
   refine aR Tryz.tabOk aE (α := Nat) (fun i => [(11, aA i), (9, aA (wA (Zm.mk m p) p v (kQ (Zm.mk m p) p v k) k i).val), (10, aA ((p ^ i : Nat) : Int))]) (fun i => []) (fun i => i ≤ k + 1) (fun i => k + 1 - i) (0) ?_ ?_ ?_
   · omega
   · conv => whnf
     first | refine aG.autoR ?_ | refine aC.autoR ?_
     conv => whnf
     repeat' ((first | refine z1 ?_ | refine z2 ?_ | refine zV ?_ | refine zP ?_ ?_ | exact trivial) <;> try (conv => whnf))
     all_goals first | rfl | (simp [wA, Zm.val_zero]; done)
   intro i hi
   conv => whnf
   by_cases hik : i < k + 1
   · have h1 := hm.mul (pw (Zm.mk m p) (k - i)) ((kQ (Zm.mk m p) p v k).c i)
     have h2 := hm.mul (pw (Zm.mk m p) (k - i) * (kQ (Zm.mk m p) p v k).c i) (pw (v.c (k - i)) (p ^ i))
     have e1 : ((k : Int) + 1 - i - 1).toNat = k - i := by omega
     have e2 : pw (Zm.mk m (v.c ((k : Int) + 1 - i - 1).toNat).val) (p ^ i) = pw (v.c (k - i)) (p ^ i) := by rw [e1, Zm.mk_val]
     rw [← fF hm, ← e2] at h2
     have h3 := Zm.val_range hm.pos (wA (Zm.mk m p) p v (kQ (Zm.mk m p) p v k) k i)
     have h4 := hpe i (by omega)
     have h5 : (0 : Int) ≤ ((p ^ i : Nat) : Int) * p ∧ ((p ^ i : Nat) : Int) * p ≤ 2401 := ⟨Int.mul_nonneg (by omega) (by omega), by have := Int.mul_le_mul (show ((p ^ i : Nat) : Int) ≤ 343 by omega) (show (p : Int) ≤ 7 by omega) (by omega) (by omega); omega⟩
     repeat' first | ((first | (apply zI; refine zP (xC hm _ (k - i) (by omega) (by omega)) ?_) | (apply zI; refine zP (sB (i := i) aN aF) ?_) | (apply zI; refine zP (xC hm _ (p ^ i) (by omega) rfl) ?_) | (refine zP (fun h => ?_) (fun h => ?_) <;> (try simp only [aB, aD, aP, aT, aV, bB] at h) <;> first | (exfalso; first | omega | exact h trivial | (cases h; done)) | skip) | refine zS ?_ | refine zV ?_ | (apply zI; refine zP aH ?_) | refine Alt.fst ?_ | refine Or.inl ?_) <;> conv => whnf) | fail
     refine Exists.intro (i + 1) ⟨?_, ?_, ?_⟩
     · omega
     · omega
     first | refine aG.autoR ?_ | refine aC.autoR ?_
     conv => whnf
     repeat' ((first | refine z1 ?_ | refine z2 ?_ | refine zV ?_ | refine zP ?_ ?_ | exact trivial) <;> try (conv => whnf))
     all_goals first
       | (rw [e2, fF hm, kO hm]; rfl)
       | (rw [Nat.pow_succ]; simp; done)
   · repeat' first | ((first | refine z0 ?_ | (refine zP (fun h => ?_) (fun h => ?_) <;> (try simp only [aB, aD, aP, aT, aV, bB] at h) <;> first | (exfalso; first | omega | exact h trivial | (cases h; done)) | skip) | refine zV ?_ | (apply zI; refine zP aK ?_) | (apply zI; refine zP aH ?_)) <;> conv => whnf) | fail
     obtain rfl : i = k + 1 := by omega
     refine Exists.intro (k + 1) ⟨?_, ?_, ?_⟩
     · omega
     · omega
     first | refine aG.autoR ?_ | refine aC.autoR ?_
     conv => whnf
     repeat' ((first | refine z1 ?_ | refine z2 ?_ | refine zV ?_ | refine zP ?_ ?_ | exact trivial) <;> try (conv => whnf))
     all_goals first
       | exact cQ (Ap8 (fun i hi => by show _ = ((kQ (Zm.mk m p) p v k).upd (k + 1) _).c i; rw [cL, if_neg (by omega)]) (by show _ = (((kQ (Zm.mk m p) p v k).upd (k + 1) _).c (k + 1)).val; rw [cL, if_pos rfl]))
 · repeat' first | ((first | refine z0 ?_ | (refine zP (fun h => ?_) (fun h => ?_) <;> (try simp only [aB, aD, aP, aT, aV, bB] at h) <;> first | (exfalso; first | omega | exact h trivial | (cases h; done)) | skip) | refine zV ?_ | (apply zI; refine zP aK ?_) | (apply zI; refine zP aH ?_)) <;> conv => whnf) | fail
   rw [show k = 3 by omega]
theorem Ae6 (hm : Md m) (o p : Bool) (n : Nat) (hn : n ≤ 100) (f : PS (PS (Zm m))) : aL Tryz.prog 338 [cH o p n f] (cH true true n f) := by
 have hT : ∀ i, i < n → (Tb n f).take i ++ [L (n - i) (f.c i)] = (Tb n f).take (i + 1) := fun i hi => zN _ hi rfl
 refine aX Tryz.tabOk aE Tryz.func338 rfl rfl ?_
 conv => whnf
 repeat' first | ((first | refine z0 ?_ | (refine zP (fun h => ?_) (fun h => ?_) <;> (try simp only [aB, aD] at h)) | refine zS ?_ | refine zV ?_ | (apply zI; refine zP aK ?_) | (apply zI; refine zP aH ?_) | refine zA ?_ | refine Alt.fst ?_ | refine Or.inl ?_) <;> conv => whnf) | fail
 refine aR Tryz.tabOk aE (α := Nat) (fun i => [(4, aA i), (3, .ref 0 [] 1 0 i), (5, .undef)]) (fun i => [(0, some ⟨false, 1, rows true ((Tb n f).take i)⟩)]) (fun i => i ≤ n) (fun i => n - i) (0) ?_ ?_ ?_
 · omega
 · conv => whnf
   first | refine aG.autoR ?_ | refine aC.autoR ?_
   conv => whnf
   repeat' ((first | refine z1 ?_ | refine z2 ?_ | refine zV ?_ | refine zP ?_ ?_ | exact trivial) <;> try (conv => whnf))
 intro i hi
 conv => whnf
 repeat' first | ((first | refine z0 ?_ | (apply zI; refine zP (zJ _ _ (by rw [aV]; omega)) ?_) | (refine zP (fun h => ?_) (fun h => ?_) <;> (try simp only [aB, aD, aP, aT, aV, bB] at h) <;> first | (exfalso; first | omega | exact h trivial | (cases h; done)) | skip) | refine zV ?_ | (apply zI; refine zP aH ?_) | (refine zP ((by simp; omega)) ?_) | refine Or.inl ?_) <;> conv => whnf) | fail
 · have hik : i < n := by omega
   refine Exists.intro (i + 1) (zP (by omega) (zP (by omega) ?_))
   first | refine aG.autoR ?_ | refine aC.autoR ?_
   conv => whnf
   repeat' ((first | refine z1 ?_ | refine z2 ?_ | refine zV ?_ | refine zP ?_ ?_ | exact trivial) <;> try (conv => whnf))
   exact bV (hT i hik)
 · have e : i = n := by omega
   subst e
   exact congrArg (D.list true 1) (bV (List.take_of_length_le (by simp)))
theorem Ap0 (hm : Md m) (o p : Bool) (n : Nat) (hn : 1 ≤ n ∧ n ≤ 100) (f : PS (PS (Zm m))) (K : Nat) (hK : 2 ≤ K ∧ K ≤ 1000) {Z : Int} (hZ : Z = K) : aL Tryz.prog 339 [aA m, cH o p n f, aA Z] (cH true true n (pw f K)) := by
 subst hZ
 refine aX Tryz.tabOk aE Tryz.func339 rfl rfl ?_
 conv => whnf
 repeat' first | ((first | refine z0 ?_ | (refine zP (fun h => ?_) (fun h => ?_) <;> (try simp only [aB, aD] at h)) | refine zS ?_ | refine zV ?_ | (apply zI; refine zP aK ?_) | (apply zI; refine zP aH ?_) | refine zA ?_ | refine Alt.fst ?_ | refine Or.inl ?_) <;> conv => whnf) | fail
 refine iQ Tryz.tabOk aE ?_
 conv => whnf
 repeat' first | ((first | refine z0 ?_ | (apply zI; refine zP (nM hm _ _ _ _ n aF _ _) ?_) | (refine zP (fun h => ?_) (fun h => ?_) <;> (try simp only [aB, aD, aP, aT, aV, bB] at h) <;> first | (exfalso; first | omega | exact h trivial | (cases h; done)) | skip) | refine zV ?_ | (apply zI; refine zP aK ?_) | (apply zI; refine zP aH ?_) | refine Or.inl ?_) <;> conv => whnf) | fail
 refine aR Tryz.tabOk aE (α := Nat) (fun j => [(2, aA ((K : Int) - 1 - j)), (7, .ref 0 [] 1 0 n), (16, .undef)]) (fun j => [(0, some ⟨false, 1, rows true (Tb n (pw f (j + 2)))⟩)]) (fun j => j + 2 ≤ K) (fun j => K - j) (0) ?_ ?_ ?_
 · omega
 · conv => whnf
   first | refine aG.autoR ?_ | refine aC.autoR ?_
   conv => whnf
   repeat' ((first | refine z1 ?_ | refine z2 ?_ | refine zV ?_ | refine zP ?_ ?_ | exact trivial) <;> try (conv => whnf))
   all_goals first | (rw [cV, pw_one]; done) | (rw [aB, aP, aT]; done) | omega
 intro j hj
 conv => whnf
 repeat' first | ((first | refine z0 ?_ | (apply zI; refine zP (nM hm _ _ _ _ n aF _ _) ?_) | (refine zP (fun h => ?_) (fun h => ?_) <;> (try simp only [aB, aD, aP, aT, aV, bB] at h) <;> first | (exfalso; first | omega | exact h trivial | (cases h; done)) | skip) | refine zV ?_ | (apply zI; refine zP aK ?_) | (apply zI; refine zP aH ?_) | refine Or.inl ?_) <;> conv => whnf) | fail
 · refine Exists.intro (j + 1) ⟨?_, ?_, ?_⟩
   · omega
   · omega
   first | refine aG.autoR ?_ | refine aC.autoR ?_
   conv => whnf
   repeat' ((first | refine z1 ?_ | refine z2 ?_ | refine zV ?_ | refine zP ?_ ?_ | exact trivial) <;> try (conv => whnf))
 · rw [show j + 2 = K by omega]
def kJ (e : Nat) (H : PS (PS (Zm m))) : PS (PS (Zm m)) := bT (bT H e 0 ((H.c e).c 0 - 1)) 0 e ((H.c 0).c e - 1)
def rV (p most : Nat) (P : Zm m) (A : PS (Zm m)) (F : PS (PS (Zm m))) : Nat → PS (PS (Zm m))
 | 0 => 0
 | k + 1 => rV p most P A F k + PS.C (PS.C (pw P (most - k) * A.c k)) * kJ (p ^ k) (pw F (p ^ k))
theorem Aep (hm : Md m) (p : Nat) (hp : 2 ≤ p ∧ p ≤ 7) (most : Nat) (hmo : most ≤ 3) (hpm : p ^ most ≤ 10) (n : Nat) (hn : 2 ≤ n ∧ n ≤ 11) (o1 o2 p2 : Bool) (A : PS (Zm m)) (F : PS (PS (Zm m))) :
   aL Tryz.prog 326 [aA p, aA m, aA most, LD o1 4 A, cH o2 p2 n F] (cH true true n (rV p most (Zm.mk m p) A F (most + 1))) := by
 have hm1 := hm.1
 have hm2 := hm.2
 have hpe : ∀ i, i ≤ most → 1 ≤ p ^ i ∧ p ^ i ≤ 10 := fun i hi => ⟨Nat.one_le_pow _ _ (by omega), Nat.le_trans (Nat.pow_le_pow_right (by omega) hi) hpm⟩
 refine aX Tryz.tabOk aE Tryz.func326 rfl rfl ?_
 conv => whnf
 repeat' first | ((first | (apply zI; refine zP (kT (m := m) n aF aF) ?_) | (refine zP (fun h => ?_) (fun h => ?_) <;> (try simp only [aB, aD] at h)) | refine zV ?_ | (apply zI; refine zP aK ?_) | (apply zI; refine zP aH ?_) | refine Or.inl ?_) <;> conv => whnf) | fail
 refine iQ Tryz.tabOk aE ?_
 conv => whnf
 repeat' first | ((first | refine Or.inr (gN Tryz.tabOk aE _ Tryz.func339 rfl rfl ?_) | (refine zP (fun h => ?_) (fun h => ?_) <;> (try simp only [aB, aD, aP, aT, aV, bB] at h) <;> first | (exfalso; first | omega | exact h trivial | (cases h; done)) | skip) | refine Or.inl ?_) <;> conv => whnf) | fail
 refine iQ Tryz.tabOk aE ?_
 conv => whnf
 have hx1 := Zm.val_range hm.pos ((F.c 1).c 0)
 have hx2 := Zm.val_range hm.pos ((F.c 0).c 1)
 repeat' first | ((first | refine z0 ?_ | (apply zI; refine zP (Ae6 hm _ _ n (by omega) _) ?_) | (apply zI; refine zP (nI _ _ hm.pos (by omega)) ?_) | (refine zP (fun h => ?_) (fun h => ?_) <;> (try simp only [aB, aD, aP, aT, aV, bB] at h) <;> first | (exfalso; first | omega | exact h trivial | (cases h; done)) | skip) | refine zS ?_ | refine zV ?_ | (apply zI; refine zP aK ?_) | (apply zI; refine zP aH ?_) | refine Or.inl ?_) <;> conv => whnf) | fail
 rw [show cR (Tb n F) 1 0 ((((F.c 1).c 0).val - 1) % m) = Tb n (bT F 1 0 ((F.c 1).c 0 - 1)) from dX _ (Zm.emod_val (by rw [Zm.mk_sub, Zm.mk_val]; rfl)) (by omega) cC.rfl]
 have e01 : ((bT F 1 0 ((F.c 1).c 0 - 1)).c 0).c 1 = (F.c 0).c 1 := by rw [fP, if_neg (by omega)]
 have hx3 := hx2
 rw [← e01] at hx3
 have hT2 : cR (Tb n (bT F 1 0 ((F.c 1).c 0 - 1))) 0 1 (((((bT F 1 0 ((F.c 1).c 0 - 1)).c 0).c 1).val - 1) % m) = Tb n (kJ 1 F) := dX _ (Zm.emod_val (by rw [Zm.mk_sub, Zm.mk_val]; try rfl)) (by omega) (cC.of_eq (by rw [e01]; try rfl))
 have hx4 := hm.mul (pw (Zm.mk m p) most) (A.c 0)
 repeat' first | ((first | (apply zI; refine zP (nI _ _ hm.pos (by omega)) ?_) | (apply zI; refine zP (xC hm _ most (by omega) (by omega)) ?_) | (refine zP (fun h => ?_) (fun h => ?_) <;> (try simp only [aB, aD, aP, aT, aV, bB] at h) <;> first | (exfalso; first | omega | exact h trivial | (cases h; done)) | skip) | refine zV ?_ | (apply zI; refine zP aK ?_) | (apply zI; refine zP aH ?_) | refine zA ?_ | refine Or.inl ?_) <;> conv => whnf) | fail
 rw [hT2]
 have hsc : aL Tryz.prog 228 [aA m, aA (((pw (Zm.mk m p) most).val * (A.c 0).val).tmod m), .list false 1 (sub (rows true (Tb n (kJ 1 F))) 1 0 (cnt 1 (rows true (Tb n F))))] (cH true true n (PS.C (PS.C (pw (Zm.mk m p) most * A.c 0)) * kJ 1 F)) := by
   rw [kW (by simp [aB])]
   exact jM hm _ _ n (by omega) _ (fF hm _ _) _
 repeat' first | ((first | (apply zI; refine zP (hsc) ?_) | (apply zI; refine zP (lE hm _ _ _ _ n (by omega) _ _) ?_) | refine zV ?_ | (apply zI; refine zP aK ?_) | (apply zI; refine zP aH ?_) | refine Or.inl ?_) <;> conv => whnf) | fail
 refine aR Tryz.tabOk aE (α := Nat) (fun k => [(14, aA ((k : Int) + 1)), (13, aA ((p ^ (k + 1) : Nat) : Int)), (12, .ref 0 [] 1 0 n), (15, .undef), (16, .undef), (17, .undef), (23, .undef)]) (fun k => [(0, some ⟨false, 1, rows true (Tb n (rV p most (Zm.mk m p) A F (k + 1)))⟩), (1, none), (2, none), (3, none), (4, none), (5, none), (6, none)]) (fun k => k ≤ most) (fun k => most - k) (0) ?_ ?_ ?_
 · omega
 · conv => whnf
   first | refine aG.autoR ?_ | refine aC.autoR ?_
   conv => whnf
   repeat' ((first | refine z1 ?_ | refine z2 ?_ | refine zV ?_ | refine zP ?_ ?_ | exact trivial) <;> try (conv => whnf))
   all_goals first
     | exact bV (congrArg (Tb n) (by show _ = 0 + PS.C (PS.C (pw (Zm.mk m p) (most - 0) * A.c 0)) * kJ (p ^ 0) (pw F (p ^ 0)); rw [Nat.pow_zero, pw_one, Nat.sub_zero]))
 intro k hk
 conv => whnf
 by_cases hkm : k + 1 ≤ most
 · have he1 := hpe (k + 1) hkm
   have he2 : 2 ≤ p ^ (k + 1) := by
     rw [Nat.pow_succ]
     exact Nat.le_trans hp.1 (Nat.le_mul_of_pos_left _ (Nat.pow_pos (by omega)))
   have he3 : ((p ^ (k + 1) : Nat) : Int) * p = ((p ^ (k + 1 + 1) : Nat) : Int) := by rw [← Int.natCast_mul, ← Nat.pow_succ]
   have he4 : p ^ (k + 1 + 1) ≤ 70 := by
     rw [Nat.pow_succ]
     exact Nat.mul_le_mul he1.2 hp.2
   have hrs : rV p most (Zm.mk m p) A F (k + 1 + 1) = rV p most (Zm.mk m p) A F (k + 1) + PS.C (PS.C (pw (Zm.mk m p) (most - (k + 1)) * A.c (k + 1))) * kJ (p ^ (k + 1)) (pw F (p ^ (k + 1))) := rfl
   generalize hE2 : p ^ (k + 1 + 1) = e2 at *
   generalize p ^ (k + 1) = e at *
   generalize hH : pw F e = H at *
   have hpo := fun o p => Ap0 hm o p n (by omega) F e (by omega) rfl
   rw [hH] at hpo
   have hx1 := Zm.val_range hm.pos ((H.c e).c 0)
   have hx2 := Zm.val_range hm.pos ((H.c 0).c e)
   have hx7 := hm.mul (pw (Zm.mk m p) (most - (k + 1))) (A.c (k + 1))
   have hkk : (k : Int) + 1 = ((k + 1 : Nat) : Int) := by omega
   repeat' first | ((first | (apply zI; refine zP (hpo _ _) ?_) | (apply zI; refine zP (Ae6 hm _ _ n (by omega) _) ?_) | (apply zI; refine zP (nI _ _ hm.pos (by omega)) ?_) | (apply zI; refine zP (xC hm _ (most - (k + 1)) (by omega) (by omega)) ?_) | (refine zP (fun h => ?_) (fun h => ?_) <;> (try simp only [aB, aD, aP, aT, aV, bB] at h) <;> first | (exfalso; first | omega | exact h trivial | (cases h; done)) | skip) | refine zS ?_ | refine zV ?_ | (apply zI; refine zP aK ?_) | (apply zI; refine zP aH ?_) | refine Or.inl ?_) <;> conv => whnf) | fail
   · rw [show cR (Tb n H) e 0 ((((H.c e).c 0).val - 1) % m) = Tb n (bT H e 0 ((H.c e).c 0 - 1)) from dX _ (Zm.emod_val (by rw [Zm.mk_sub, Zm.mk_val]; rfl)) (by omega) cC.rfl]
     have e01 : ((bT H e 0 ((H.c e).c 0 - 1)).c 0).c e = (H.c 0).c e := by rw [fP, if_neg (by omega)]
     have hx3 := hx2
     rw [← e01] at hx3
     have hT2 : cR (Tb n (bT H e 0 ((H.c e).c 0 - 1))) 0 e (((((bT H e 0 ((H.c e).c 0 - 1)).c 0).c e).val - 1) % m) = Tb n (kJ e H) := dX _ (Zm.emod_val (by rw [Zm.mk_sub, Zm.mk_val]; try rfl)) (by omega) (cC.of_eq (by rw [e01]; try rfl))
     repeat' first | ((first | (apply zI; refine zP (nI _ _ hm.pos (by omega)) ?_) | (apply zI; refine zP (xC hm _ (most - (k + 1)) (by omega) (by omega)) ?_) | (refine zP (fun h => ?_) (fun h => ?_) <;> (try simp only [aB, aD, aP, aT, aV, bB] at h) <;> first | (exfalso; first | omega | exact h trivial | (cases h; done)) | skip) | refine zV ?_ | (apply zI; refine zP aK ?_) | (apply zI; refine zP aH ?_) | refine zA ?_ | refine Or.inl ?_) <;> conv => whnf) | fail
     rw [hT2]
     have hsc : aL Tryz.prog 228 [aA m, aA (((pw (Zm.mk m p) (most - (k + 1))).val * (A.c (k + 1)).val).tmod m), .list false 1 (sub (rows true (Tb n (kJ e H))) 1 0 (cnt 1 (rows true (Tb n H))))] (cH true true n (PS.C (PS.C (pw (Zm.mk m p) (most - (k + 1)) * A.c (k + 1))) * kJ e H)) := by
       rw [kW (by simp [aB])]
       exact jM hm _ _ n (by omega) _ (fF hm _ _) _
     repeat' first | ((first | (apply zI; refine zP (hsc) ?_) | (apply zI; refine zP (lE hm _ _ _ _ n (by omega) _ _) ?_) | refine zV ?_ | (apply zI; refine zP aK ?_) | (apply zI; refine zP aH ?_) | refine Or.inl ?_) <;> conv => whnf) | fail
     refine Exists.intro (k + 1) ⟨?_, ?_, ?_⟩
     · omega
     · omega
     first | refine aG.autoR ?_ | refine aC.autoR ?_
     conv => whnf
     repeat' ((first | refine z1 ?_ | refine z2 ?_ | refine zV ?_ | refine zP ?_ ?_ | exact trivial) <;> try (conv => whnf))
     all_goals first
       | rfl
       | exact bV (congrArg (Tb n) hrs.symm)
       | (rw [he3, hE2]; done)
       | (simp only [he3]; done)
       | (simp; done)
       | omega
   · have hag : Tb n H = Tb n (kJ e H) := kA (fun i j hij => by
       unfold kJ
       rw [fP, if_neg (by omega), fP, if_neg (by omega)])
     have hsc : aL Tryz.prog 228 [aA m, aA (((pw (Zm.mk m p) (most - (k + 1))).val * (A.c (k + 1)).val).tmod m), .list false 1 (rows true (Tb n H))] (cH true true n (PS.C (PS.C (pw (Zm.mk m p) (most - (k + 1)) * A.c (k + 1))) * kJ e H)) := by
       rw [hag]
       exact jM hm _ _ n (by omega) _ (fF hm _ _) _
     repeat' first | ((first | (apply zI; refine zP (hsc) ?_) | (apply zI; refine zP (lE hm _ _ _ _ n (by omega) _ _) ?_) | refine zV ?_ | (apply zI; refine zP aK ?_) | (apply zI; refine zP aH ?_) | refine Or.inl ?_) <;> conv => whnf) | fail
     refine Exists.intro (k + 1) ⟨?_, ?_, ?_⟩
     · omega
     · omega
     first | refine aG.autoR ?_ | refine aC.autoR ?_
     conv => whnf
     repeat' ((first | refine z1 ?_ | refine z2 ?_ | refine zV ?_ | refine zP ?_ ?_ | exact trivial) <;> try (conv => whnf))
     all_goals first
       | rfl
       | exact bV (congrArg (Tb n) hrs.symm)
       | (rw [he3, hE2]; done)
       | (simp only [he3]; done)
       | (simp; done)
       | omega
 · repeat' first | ((first | refine z0 ?_ | (refine zP (fun h => ?_) (fun h => ?_) <;> (try simp only [aB, aD, aP, aT, aV, bB] at h) <;> first | (exfalso; first | omega | exact h trivial | (cases h; done)) | skip) | refine zV ?_ | (apply zI; refine zP aK ?_) | (apply zI; refine zP aH ?_)) <;> conv => whnf) | fail
   rw [show k = most by omega]
end Go.Proofs
namespace Go.Proofs
open Go Go.Vm Go.Fg Go.Fg.PS
set_option maxRecDepth 100000
set_option maxHeartbeats 4000000
set_option linter.unusedSimpArgs false
set_option linter.unusedVariables false
end Go.Proofs
namespace Go.Proofs
open Go Go.Vm Go.Fg Go.Fg.PS
set_option maxRecDepth 100000
set_option maxHeartbeats 4000000
set_option linter.unusedSimpArgs false
set_option linter.unusedVariables false
variable {m : Int}
theorem As9 (hp : dU m = true) {a b : Zm m} (ha : a ≠ 0) (h : a * b = 0) : b = 0 := by
 have hm : m = 2 ∨ m = 3 ∨ m = 5 ∨ m = 7 := by
   unfold dU at hp
   simp only [Bool.or_eq_true, decide_eq_true_eq] at hp
   exact hp
 have hm0 : 0 < m := by omega
 have h1 := Zm.val_range hm0 a
 have h2 := Zm.val_range hm0 b
 have h3 : a.val ≠ 0 := fun e => ha (Zm.val_eq_zero.1 e)
 have h4 : (a.val * b.val) % m = 0 := by
   have e : Zm.mk m (a.val * b.val) = 0 := by rw [Zm.mk_mul, Zm.mk_val, Zm.mk_val, h]
   have := Zm.val_eq_zero.2 e
   rwa [Zm.val_mk] at this
 refine Zm.val_eq_zero.1 ?_
 generalize a.val = x at h1 h3 h4
 generalize b.val = y at h2 h4
 rcases hm with rfl | rfl | rfl | rfl
 · have : x = 1 := by omega
   subst this; omega
 · have : x = 1 ∨ x = 2 := by omega
   rcases this with rfl | rfl <;> omega
 · have : x = 1 ∨ x = 2 ∨ x = 3 ∨ x = 4 := by omega
   rcases this with rfl | rfl | rfl | rfl <;> omega
 · have : x = 1 ∨ x = 2 ∨ x = 3 ∨ x = 4 ∨ x = 5 ∨ x = 6 := by omega
   rcases this with rfl | rfl | rfl | rfl | rfl | rfl <;> omega
theorem Abx {t : List (List Int)} (hA : gF m t = true) (hq : aI m t ≠ 0) : aI m t < t.length ∧ (∀ i, i < aI m t → (iF (aZ m t) t.length).c i = 0) ∧ (iF (aZ m t) t.length).c (aI m t) ≠ 0 := by
 have h : aI m t = gY t.length (iF (aZ m t) t.length) := rfl
 cases e : (L t.length (iF (aZ m t) t.length)).findIdx? (fun x => decide (x ≠ 0)) with
 | none => rw [h] at hq; unfold gY at hq; simp only [e] at hq; exact absurd rfl hq
 | some i =>
   have h2 : aI m t = i := by rw [h]; unfold gY; simp only [e]
   rw [h2]
   exact tD e
theorem Af5 {t : List (List Int)} (h : cT m t = 0) (hq : aI m t ≠ 0) : ∀ i, 0 < i → i < aI m t → nc (Zm m) (cX (aI m t) i) = 0 := by
 obtain ⟨hA, hpr⟩ := fN h
 obtain ⟨⟨hmd, hn⟩, eT, hL⟩ := L0 hA
 obtain ⟨k1, k2, k3⟩ := Abx hA hq
 have L := Acv hn.1 hL
 obtain ⟨h1, h2⟩ := Ase L (uZ (aZ m t) t.length) rfl rfl
 have h3 : cv t.length (iF (aZ m t) t.length) = L.G.nm m.toNat (cv t.length X) := by
   rw [h1]; exact L.G.zad _
 intro i hi hi2
 exact As9 hpr k3 (Ak0 L h2 h3 ⟨by omega, k1⟩ k2 ⟨hi, hi2⟩)
theorem pI {t : List (List Int)} (h : kC m t = 0) : Md m ∧ (2 ≤ aI m t ∧ 2 * aI m t ≤ t.length + 1 ∧ t.length ≤ 11) ∧ LwN (aZ m t) t.length ∧ (∀ i, 0 < i → i < aI m t → nc (Zm m) (cX (aI m t) i) = 0) := by
 obtain ⟨hk, hht, hq1, hq2⟩ := fJ h
 obtain ⟨hA, hpr⟩ := fN hht
 obtain ⟨⟨hmd, hn⟩, eT, hL⟩ := L0 hA
 have h2 := mB hk hht
 exact ⟨hmd, ⟨h2, by omega, hn.2⟩, Acv hn.1 hL, Af5 hht hq1⟩
theorem Asx {t : List (List Int)} {u v : List Int} (h : jB m t u v = 0) : kC m t = 0 ∧ (u.length = aI m t ∧ Nums m u) ∧ v.length = aI m t ∧ Nums m v := by
 unfold jB at h
 split at h
 · rename_i h1
   split at h
   · rename_i h2
     simp only [lP, Bool.and_eq_true, decide_eq_true_eq, wZ] at h2
     exact ⟨h1, h2⟩
   · omega
 · omega
theorem Ana {t : List (List Int)} {u v : List Int} (h : kC m t = 0) (hu : u.length = aI m t) (hu2 : Nums m u) (hv : v.length = aI m t) (hv2 : Nums m v) : jB m t u v = 0 := by
 unfold jB
 rw [if_pos h, if_pos]
 simp only [lP, Bool.and_eq_true, decide_eq_true_eq, wZ]
 exact ⟨⟨hu, hu2⟩, hv, hv2⟩
theorem xZ (hm : Md m) (n : Nat) (a : PS (Zm m)) : Nums m (L n a) := fun x hx => by
 obtain ⟨i, hi, rfl⟩ := List.getElem_of_mem hx
 have h2 : i < n := by simpa using hi
 have : (L n a)[i] = (a.c i).val := by simp [L]
 rw [this]; exact Zm.val_range hm.pos _
section
variable {t : List (List Int)} {u v : List Int}
end
def N5 (q : Int) (R G : PS (PS (Zm m))) (n : Nat) : Nat → PS (PS (Zm m))
 | 0 => G
 | i + 1 => bT (N5 q R G n i) (i + 1) (n - (i + 1)) (Zm.mk m (0 - ((R.c (i + 1)).c (n - (i + 1))).val.tdiv q))
def qL (p most : Nat) (q : Int) (P : Zm m) (A : PS (Zm m)) : Nat → PS (PS (Zm m))
 | 0 => bT (bT 0 0 1 1) 1 0 1
 | s + 1 => N5 q (rV p most P A (qL p most q P A s) (most + 1)) (qL p most q P A s) (s + 2) (s + 1)
theorem Af2 {p : Nat} (hp : p = 2 ∨ p = 3 ∨ p = 5 ∨ p = 7) {d : Int} (hd : 1 ≤ d ∧ d ≤ 10) : qP p (kM p d) = ((p ^ kM p d : Nat) : Int) ∧ p ^ kM p d ≤ 10 ∧ kM p d ≤ 3 ∧ 1 ≤ p ^ kM p d := by
 unfold kM qP
 rcases hp with rfl | rfl | rfl | rfl <;> (repeat' split) <;> simp at * <;> omega
theorem Arr {w : Int} {l : List Int} (hl : l.length ≤ 3) (h : Nums w l) (hw : 0 < w) : l ++ List.replicate (3 - l.length) 0 = L 3 (rd w l) := by
 refine List.ext_getElem (by simp; omega) (fun i h1 h2 => ?_)
 rw [lU, rd_c]
 by_cases hi : i < l.length
 · rw [List.getElem_append_left hi, show l.getD i 0 = l[i] by simp [hi], Zm.val_of_range (h _ (List.getElem_mem hi))]
 · rw [List.getElem_append_right (by omega), List.getElem_replicate, show l.getD i 0 = 0 by simp [List.getElem?_eq_none (show l.length ≤ i by omega)]]
   exact (Zm.val_of_range ⟨by omega, hw⟩).symm
def uY {w : Int} (m : Int) (a : PS (Zm w)) : PS (Zm m) := ⟨fun i => Zm.mk m (a.c i).val⟩
def Ac7 {w : Int} (m : Int) (f : PS (PS (Zm w))) : PS (PS (Zm m)) := ⟨fun i => uY m (f.c i)⟩
def iW {w : Int} (m : Int) (G : PS (PS (Zm w))) (N i : Nat) : List (List Int) := (List.range N).map fun k => if k < i then L (N - k) (uY m (G.c k)) else L (N - k) (G.c k)
theorem yB {w : Int} (m : Int) (G : PS (PS (Zm w))) (N i : Nat) : (iW m G N i).length = N := by simp [iW]
theorem Amt {w : Int} (m : Int) (G : PS (PS (Zm w))) (N : Nat) : iW m G N 0 = Tb N G := List.map_congr_left (fun k _ => if_neg (by omega))
theorem Aiu {w : Int} (m : Int) (G : PS (PS (Zm w))) (N : Nat) : iW m G N N = Tb N (Ac7 m G) := List.map_congr_left (fun k hk => by rw [if_pos (by simpa using hk)]; rfl)
theorem Aal {w : Int} (m : Int) (G : PS (PS (Zm w))) {N i : Nat} (h : i < N) : (iW m G N i).getD i [] = L (N - i) (G.c i) := by simp [iW, h]
theorem Asg {w : Int} (m : Int) (G : PS (PS (Zm w))) {N i : Nat} (h : i < N) : (iW m G N i).set i (L (N - i) (uY m (G.c i))) = iW m G N (i + 1) := by
 refine List.ext_getElem (by simp [iW]) (fun k h1 h2 => ?_)
 rw [List.getElem_set]
 simp only [iW, List.getElem_map, List.getElem_range]
 by_cases e : i = k
 · subst e; rw [if_pos rfl, if_pos (by omega)]
 · rw [if_neg e]
   by_cases e2 : k < i
   · rw [if_pos e2, if_pos (by omega)]
   · rw [if_neg e2, if_neg (by omega)]
theorem Amb {w : Int} {m : Int} {G : PS (PS (Zm w))} {N i q : Nat} (e : q = i) (h : i < N) : eK (rows true (iW m G N i)) [] q (.list true 1 (ints (L (N - i) (G.c i)))) := by
 subst e
 rw [← Aal m G h]
 exact Q8 (by rw [yB]; exact h)
theorem Aiv {w : Int} {m : Int} {G : PS (PS (Zm w))} {N i q : Nat} (e : q = i) (h : i < N) : bE (rows true (iW m G N i)) [q] = some (ints (L (N - i) (G.c i))) := by
 subst e
 rw [← Aal m G h]
 exact rL (by rw [yB]; exact h)
theorem Ant {w : Int} (hm : Md m) (hw : Md w) (o : Bool) (n : Nat) (hn : n ≤ 100) (a : PS (Zm w)) : aL Tryz.prog 328 [aA m, LD o n a] (LD true n (uY m a)) := by
 have hm1 := hm.1
 have hm2 := hm.2
 refine aX Tryz.tabOk aE Tryz.func328 rfl rfl ?_
 conv => whnf
 repeat' first | ((first | refine z0 ?_ | (refine zP (fun h => ?_) (fun h => ?_) <;> (try simp only [aB, aD] at h)) | refine zS ?_ | refine zV ?_ | (apply zI; refine zP aK ?_) | (apply zI; refine zP aH ?_) | refine zA ?_ | refine Alt.fst ?_ | refine Or.inl ?_) <;> conv => whnf) | fail
 refine aR Tryz.tabOk aE (α := Nat) (fun i => [(6, aA i), (5, .ref 0 [] 1 0 i), (7, .undef)]) (fun i => [(0, some ⟨false, 1, ints (L i (uY m a))⟩)]) (fun i => i ≤ n) (fun i => n - i) (0) ?_ ?_ ?_
 · omega
 · conv => whnf
   first | refine aG.autoR ?_ | refine aC.autoR ?_
   conv => whnf
   repeat' ((first | refine z1 ?_ | refine z2 ?_ | refine zV ?_ | refine zP bQ ?_ | refine zP bR ?_ | refine zP ?_ ?_ | exact trivial) <;> try (conv => whnf))
 intro i hi
 conv => whnf
 by_cases hin : i < n
 · have hx := Zm.val_range hw.pos (a.c i)
   repeat' first | ((first | refine z0 ?_ | (refine zP (fun h => ?_) (fun h => ?_) <;> (try simp only [aB, aD, aP, aT, aV, bB] at h) <;> first | (exfalso; first | omega | exact h trivial | (cases h; done)) | skip) | refine zV ?_ | (apply zI; refine zP aK ?_) | (apply zI; refine zP aH ?_)) <;> conv => whnf) | fail
   refine Exists.intro (i + 1) ⟨?_, ?_, ?_⟩
   · omega
   · omega
   first | refine aG.autoR ?_ | refine aC.autoR ?_
   conv => whnf
   repeat' ((first | refine z1 ?_ | refine z2 ?_ | refine zV ?_ | refine zP bQ ?_ | refine zP bR ?_ | refine zP ?_ ?_ | exact trivial) <;> try (conv => whnf))
   all_goals first
     | exact cQ (nU (by rw [Int.tmod_eq_emod_of_nonneg hx.1]; rfl))
 · repeat' first | ((first | refine z0 ?_ | (refine zP (fun h => ?_) (fun h => ?_) <;> (try simp only [aB, aD, aP, aT, aV, bB] at h) <;> first | (exfalso; first | omega | exact h trivial | (cases h; done)) | skip) | refine zV ?_ | (apply zI; refine zP aK ?_) | (apply zI; refine zP aH ?_)) <;> conv => whnf) | fail
   rw [show i = n by omega]
theorem M4 (hm : Md m) (p : Nat) (hp : p = 2 ∨ p = 3 ∨ p = 5 ∨ p = 7) (n : Nat) (hn : 2 ≤ n ∧ n ≤ 11) {d : Int} (hd : d + 1 = n) (hw : Md (m * qP p (kM p d) * p)) (o : Bool) (l : List Int) (hl : l.length ≤ 3) (hnum : Nums m l) :
   ∃ F : PS (PS (Zm m)), aL Tryz.prog 279 [aA p, aA m, aA d, .list o 1 (ints l)] (cH true true n F) := by
 have hm1 := hm.1
 have hm2 := hm.2
 have hmost := Aon p d (by omega) (by omega)
 obtain ⟨q1, q2, q3, q4⟩ := Af2 hp (d := d) (by omega)
 generalize kM p d = most at *
 generalize hq : qP p most = q at *
 have b1 : 0 ≤ m * q ∧ m * q ≤ m * q * p := ⟨Int.mul_nonneg (by omega) (by omega), by
   have := Int.mul_le_mul_of_nonneg_left (show (1 : Int) ≤ p by omega) (show 0 ≤ m * q from Int.mul_nonneg (by omega) (by omega))
   rwa [Int.mul_one] at this⟩
 have b2 : m ≤ m * q := by
   have := Int.mul_le_mul_of_nonneg_left (show (1 : Int) ≤ q by omega) (show 0 ≤ m by omega)
   rwa [Int.mul_one] at this
 generalize hwd : m * q * p = w at *
 have hw1 := hw.1
 have hw2 := hw.2
 have hnw : Nums w l := fun x hx => ⟨(hnum x hx).1, by have := (hnum x hx).2; omega⟩
 have h3 := Aqo o l hl
 rw [Arr hl hnw (by omega)] at h3
 have e1 : (1 : Int) = (1 : Zm w).val := (Zm.val_one (by omega)).symm
 refine ⟨Ac7 m (qL p most q (Zm.mk w p) (kQ (Zm.mk w p) p (rd w l) 3) (n - 2)), ?_⟩
 · refine aX Tryz.tabOk aE Tryz.func279 rfl rfl ?_
   conv => whnf
   repeat' first | ((first | (apply zI; refine zP (hmost) ?_) | (apply zI; refine zP (h3) ?_) | (apply zI; refine zP (Afa hw p (by omega) _ _) ?_) | (apply zI; refine zP (kT (m := w) n aF aF) ?_) | refine zS ?_ | refine zV ?_ | (apply zI; refine zP aK ?_) | (apply zI; refine zP aH ?_) | refine Or.inl ?_) <;> conv => whnf) | fail
   rw [hwd]
   repeat' first | ((first | (apply zI; refine zP (hmost) ?_) | (apply zI; refine zP (h3) ?_) | (apply zI; refine zP (Afa hw p (by omega) _ _) ?_) | (apply zI; refine zP (kT (m := w) n aF aF) ?_) | refine zS ?_ | refine zV ?_ | (apply zI; refine zP aK ?_) | (apply zI; refine zP aH ?_) | refine Or.inl ?_) <;> conv => whnf) | fail
   rw [show cR (Tb n (0 : PS (PS (Zm w)))) 0 1 1 = Tb n (bT 0 0 1 1) from dX (1 : Zm w) e1 (by omega) (cC.of_eq rfl)]
   repeat' first | ((first | refine z0 ?_ | (refine zP (fun h => ?_) (fun h => ?_) <;> (try simp only [aB, aD, aP, aT, aV, bB] at h) <;> first | (exfalso; first | omega | exact h trivial | (cases h; done)) | skip) | refine zV ?_ | (apply zI; refine zP aK ?_) | (apply zI; refine zP aH ?_)) <;> conv => whnf) | fail
   rw [show cR (Tb n (bT (0 : PS (PS (Zm w))) 0 1 1)) 1 0 1 = Tb n (bT (bT 0 0 1 1) 1 0 1) from dX (1 : Zm w) e1 (by omega) (cC.of_eq rfl)]
   repeat' first | ((first | refine z0 ?_ | (refine zP (fun h => ?_) (fun h => ?_) <;> (try simp only [aB, aD, aP, aT, aV, bB] at h) <;> first | (exfalso; first | omega | exact h trivial | (cases h; done)) | skip) | refine zV ?_ | (apply zI; refine zP aK ?_) | (apply zI; refine zP aH ?_)) <;> conv => whnf) | fail
   generalize hA : kQ (Zm.mk w p) p (rd w l) 3 = A at *
   refine aR Tryz.tabOk aE (α := Nat) (fun s => [(16, aA ((s : Int) + 2)), (17, .undef), (19, .undef)]) (fun s => [(4, some ⟨false, 1, rows true (Tb n (qL p most q (Zm.mk w p) A s))⟩)]) (fun s => s + 2 ≤ n) (fun s => n - s) (0) ?_ ?_ ?_
   · omega
   · conv => whnf
     first | refine aG.autoR ?_ | refine aC.autoR ?_
     conv => whnf
     repeat' ((first | refine z1 ?_ | refine z2 ?_ | refine zV ?_ | refine zP bQ ?_ | refine zP bR ?_ | refine zP ?_ ?_ | exact trivial) <;> try (conv => whnf))
   intro s hs
   conv => whnf
   by_cases hsn : s + 2 < n
   · generalize hG : qL p most q (Zm.mk w p) A s = G at *
     generalize hR : rV p most (Zm.mk w p) A G (most + 1) = R at *
     have hre := Aep hw p (by omega) most (by omega) q2 (s + 3) (by omega) true true true A G
     have hre2 := Aep hw p (by omega) most (by omega) q2 (s + 3) (by omega) false false true A G
     rw [hR] at hre hre2
     repeat' first | ((first | (apply zI; refine zP (Aoa _ _ n (s + 3) (by omega) (by omega) (by omega) G) ?_) | (apply zI; refine zP (hre2) ?_) | (refine zP (fun h => ?_) (fun h => ?_) <;> (try simp only [aB, aD, aP, aT, aV, bB] at h) <;> first | (exfalso; first | omega | exact h trivial | (cases h; done)) | skip) | refine zV ?_ | (apply zI; refine zP aK ?_) | (apply zI; refine zP aH ?_) | refine Or.inl ?_) <;> conv => whnf) | fail
     refine aR Tryz.tabOk aE (α := Nat) (fun i => [(18, aA ((i : Int) + 1)), (19, .undef)]) (fun i => [(4, some ⟨false, 1, rows true (Tb n (N5 q R G (s + 2) i))⟩)]) (fun i => i ≤ s + 1) (fun i => s + 1 - i) (0) ?_ ?_ ?_
     · omega
     · conv => whnf
       first | refine aG.autoR ?_ | refine aC.autoR ?_
       conv => whnf
       repeat' ((first | refine z1 ?_ | refine z2 ?_ | refine zV ?_ | refine zP bQ ?_ | refine zP bR ?_ | refine zP ?_ ?_ | exact trivial) <;> try (conv => whnf))
     intro i hi
     conv => whnf
     by_cases hin : i < s + 1
     · have hx := Zm.val_range hw.pos ((R.c (i + 1)).c ((s : Int) + 2 - (i + 1)).toNat)
       have hx2 : 0 ≤ (((R.c (i + 1)).c ((s : Int) + 2 - (i + 1)).toNat).val).tdiv q ∧ (((R.c (i + 1)).c ((s : Int) + 2 - (i + 1)).toNat).val).tdiv q ≤ w := by
         rw [Int.tdiv_eq_ediv_of_nonneg hx.1]
         exact ⟨Int.ediv_nonneg hx.1 (by omega), Int.le_trans (Int.ediv_le_self _ hx.1) (by omega)⟩
       repeat' first | ((first | (apply zI; refine zP (nI _ _ hw.pos (by omega)) ?_) | (refine zP (fun h => ?_) (fun h => ?_) <;> (try simp only [aB, aD, aP, aT, aV, bB] at h) <;> first | (exfalso; first | omega | exact h trivial | (cases h; done)) | skip) | refine zV ?_ | (apply zI; refine zP aK ?_) | (apply zI; refine zP aH ?_) | refine Or.inl ?_) <;> conv => whnf) | fail
       have ec : ((s : Int) + 2 - ((i : Int) + 1)).toNat = s + 2 - (i + 1) := by omega
       refine Exists.intro (i + 1) ⟨?_, ?_, ?_⟩
       · omega
       · omega
       first | refine aG.autoR ?_ | refine aC.autoR ?_
       conv => whnf
       repeat' ((first | refine z1 ?_ | refine z2 ?_ | refine zV ?_ | refine zP bQ ?_ | refine zP bR ?_ | refine zP ?_ ?_ | exact trivial) <;> try (conv => whnf))
       all_goals first
         | exact bV (dX (Zm.mk w (0 - ((R.c (i + 1)).c ((s : Int) + 2 - (i + 1)).toNat).val.tdiv q)) (Zm.val_mk _).symm (by omega) (cC.of_eq (by rw [ec]; rfl)))
     · repeat' first | ((first | refine z0 ?_ | (refine zP (fun h => ?_) (fun h => ?_) <;> (try simp only [aB, aD, aP, aT, aV, bB] at h) <;> first | (exfalso; first | omega | exact h trivial | (cases h; done)) | skip) | refine zV ?_ | (apply zI; refine zP aK ?_) | (apply zI; refine zP aH ?_)) <;> conv => whnf) | fail
       obtain rfl : i = s + 1 := by omega
       refine Exists.intro (s + 1) ⟨?_, ?_, ?_⟩
       · omega
       · omega
       first | refine aG.autoR ?_ | refine aC.autoR ?_
       conv => whnf
       repeat' ((first | refine z1 ?_ | refine z2 ?_ | refine zV ?_ | refine zP bQ ?_ | refine zP bR ?_ | refine zP ?_ ?_ | exact trivial) <;> try (conv => whnf))
       all_goals first
         | exact bV (congrArg (Tb n) (by rw [qL, hG, hR]))
   · repeat' first | ((first | refine z0 ?_ | (refine zP (fun h => ?_) (fun h => ?_) <;> (try simp only [aB, aD, aP, aT, aV, bB] at h) <;> first | (exfalso; first | omega | exact h trivial | (cases h; done)) | skip) | refine zV ?_ | (apply zI; refine zP aK ?_) | (apply zI; refine zP aH ?_)) <;> conv => whnf) | fail
     obtain rfl : n = s + 2 := by omega
     generalize hG : qL p most q (Zm.mk w p) A s = G at *
     refine aR Tryz.tabOk aE (α := Nat) (fun i => [(20, aA i), (14, .undef), (15, .undef), (40, .undef), (41, .undef), (43, .undef), (44, .undef), (45, .undef), (46, .undef), (47, .undef), (48, .undef)]) (fun i => [(4, some ⟨false, 1, rows true (iW m G (s + 2) i)⟩)]) (fun i => i ≤ s + 2) (fun i => s + 2 - i) (0) ?_ ?_ ?_
     · omega
     · conv => whnf
       first | refine aG.autoR ?_ | refine aC.autoR ?_
       conv => whnf
       repeat' ((first | refine z1 ?_ | refine z2 ?_ | refine zV ?_ | refine zP bQ ?_ | refine zP bR ?_ | refine zP ?_ ?_ | exact trivial) <;> try (conv => whnf))
       all_goals first | exact bV (Amt m G (s + 2)).symm
     intro i hi
     conv => whnf
     by_cases hin : i < s + 2
     · repeat' first | ((first | (apply zI; refine zP (Amb (i := i) aN hin) ?_) | (apply zI; refine zP (Ant hm hw _ (s + 2 - i) (by omega) (G.c i)) ?_) | (apply zI; refine zP (Aiv (i := i) aN hin) ?_) | refine Akj ?_ | (apply zI; refine zP (Abg _ _ _ _) ?_) | (refine zP (fun h => ?_) (fun h => ?_) <;> (try simp only [aB, aD, aP, aT, aV, bB] at h) <;> first | (exfalso; first | omega | exact h trivial | (cases h; done)) | skip) | refine zV ?_ | (apply zI; refine zP aH ?_) | (refine zP ((by rw [aP, yB]; first | (simp [aB]; done) | (simp only [eY, Int.toNat_natCast]; omega) | omega)) ?_) | refine Or.inl ?_) <;> conv => whnf) | fail
       refine Exists.intro (i + 1) ⟨?_, ?_, ?_⟩
       · omega
       · omega
       first | refine aG.autoR ?_ | refine aC.autoR ?_
       conv => whnf
       repeat' ((first | refine z1 ?_ | refine z2 ?_ | refine zV ?_ | refine zP bQ ?_ | refine zP bR ?_ | refine zP ?_ ?_ | exact trivial) <;> try (conv => whnf))
       all_goals first
         | exact bV ((congrArg (fun k => (iW m G (s + 2) i).set k _) aN).trans (Asg m G hin))
     · repeat' first | ((first | refine z0 ?_ | (refine zP (fun h => ?_) (fun h => ?_) <;> (try simp only [aB, aD, aP, aT, aV, bB] at h) <;> first | (exfalso; first | omega | exact h trivial | (cases h; done)) | skip) | refine zV ?_ | (refine zP ((by rw [aP, yB]; simp [aB])) ?_)) <;> conv => whnf) | fail
       obtain rfl : i = s + 2 := by omega
       exact congrArg (D.list true 1) (bV (by rw [Aiu, Nat.add_sub_cancel, hG]))
end Go.Proofs
namespace Go.Proofs
open Go Go.Vm Go.Fg Go.Fg.PS
set_option maxRecDepth 100000
set_option maxHeartbeats 4000000
set_option linter.unusedSimpArgs false
set_option linter.unusedVariables false
theorem Af6 {p : Nat} (hp : 0 < p) : ∀ (n : Nat) (u : List Int), u.length = n → (∀ x ∈ u, 0 ≤ x ∧ x < (p : Int)) → ∃ N, N < p ^ n ∧ bH p n N = u
 | 0, u, h, _ => ⟨0, by simp, by rw [List.length_eq_zero_iff.1 h]; rfl⟩
 | n + 1, [], h, _ => by simp at h
 | n + 1, x :: u, h, hr => by
   have hP : 0 < p ^ n := Nat.pow_pos hp
   obtain ⟨N, hN, rfl⟩ := Af6 hp n u (by simpa using h) (fun y hy => hr y (by simp [hy]))
   obtain ⟨h0, h1⟩ := hr x (by simp)
   obtain ⟨y, rfl⟩ : ∃ y : Nat, x = y := ⟨x.toNat, by omega⟩
   have hy : y < p := by omega
   refine ⟨y * p ^ n + N, ?_, ?_⟩
   · have h2 : (y + 1) * p ^ n ≤ p * p ^ n := Nat.mul_le_mul_right _ hy
     rw [Nat.pow_succ, Nat.mul_comm (p ^ n) p]
     rw [Nat.add_mul, Nat.one_mul] at h2
     omega
   · simp only [bH]
     rw [Nat.mul_comm y, Nat.mul_add_div hP, Nat.mul_add_mod, Nat.div_eq_of_lt hN, Nat.mod_eq_of_lt hN, Nat.add_zero]
theorem V3 {p : Nat} (hp : 0 < p) : ∀ (n a b : Nat), a < p ^ n → b < p ^ n → bH p n a = bH p n b → a = b
 | 0, a, b, ha, hb, _ => by simp at ha hb; omega
 | n + 1, a, b, ha, hb, h => by
   have hP : 0 < p ^ n := Nat.pow_pos hp
   simp only [bH, List.cons.injEq] at h
   have h1 := V3 hp n _ _ (Nat.mod_lt _ hP) (Nat.mod_lt _ hP) h.2
   have h2 : a / p ^ n = b / p ^ n := by have := h.1; omega
   have e1 := Nat.div_add_mod a (p ^ n)
   have e2 := Nat.div_add_mod b (p ^ n)
   rw [h1, h2] at e1
   omega
theorem mZ {p : Nat} (hp : 0 < p) (good : List Int → Bool) (n : Nat) (u : List Int) : u ∈ ext p good n [] ↔ (u.length = n ∧ ∀ x ∈ u, 0 ≤ x ∧ x < (p : Int)) ∧ good u = true := by
 rw [ext_eq hp, List.mem_filter]
 refine ⟨fun ⟨h1, h2⟩ => ⟨?_, h2⟩, fun ⟨⟨h1, h3⟩, h2⟩ => ⟨?_, h2⟩⟩
 · obtain ⟨N, hN, rfl⟩ := List.mem_map.1 h1
   simp only [List.nil_append]
   exact ⟨yI _ _ _, uJ hp n N (List.mem_range.1 hN)⟩
 · obtain ⟨N, hN, rfl⟩ := Af6 hp n u h1 h3
   exact List.mem_map.2 ⟨N, List.mem_range.2 hN, rfl⟩
theorem Are {p : Nat} (hp : 0 < p) (good : List Int → Bool) (n : Nat) : (ext p good n []).Nodup := by
 rw [ext_eq hp]
 refine List.Pairwise.filter _ ?_
 refine List.pairwise_map.2 ?_
 refine (List.pairwise_lt_range (n := p ^ n)).imp_of_mem (fun {a b} ha hb hlt e => ?_)
 have := V3 hp n a b (List.mem_range.1 ha) (List.mem_range.1 hb) e
 omega
variable {m : Int}
theorem E8 {q : Nat} {f g : PS (PS (Zm m))} : bA q f = bA q g ↔ bF q f g := by
 refine ⟨fun h i j hi hj => ?_, eS⟩
 have h1 := congrArg (fun l => l.getD i []) h
 simp only [iU _ hi] at h1
 exact Ar3 h1 j hj
theorem S9 (a : PS (Zm m)) (q : Nat) : bF q (dM true a) (dA a * kH a) := fun i j _ _ => by
 rw [N8]; rfl
theorem Y0 (a : PS (Zm m)) (h0 : a.c 0 = 0) (q : Nat) : bF q (dM false a) (dA a + kH a) := fun i j _ _ => by
 rw [add_c, add_c]
 show (if j = 0 then a.c i else if i = 0 then a.c j else 0) = (C (a.c i)).c j + ((C a : PS (PS (Zm m))).c i).c j
 rw [dN, dN]
 by_cases hj : j = 0
 · rw [if_pos hj, if_pos hj, hj]
   split
   · rw [h0]; exact (Go.Fg.add_zero _).symm
   · exact (Go.Fg.add_zero _).symm
 · rw [if_neg hj, if_neg hj, CR.zero_add]
   split <;> rfl
theorem vC {p q : Nat} (hp : 2 ≤ p) (hq : 1 ≤ q) (f : PS (PS (Zm (p : Int)))) {u : List Int} (hr : ∀ x ∈ u, 0 ≤ x ∧ x < (p : Int)) (hl : u.length = q) : bU true q f u = true ↔ eZ f q (rd (p : Int) u) := by
 unfold bU jY eZ
 simp only [Bool.and_eq_true, decide_eq_true_eq]
 have h0 : 0 ≤ u.getD 0 0 ∧ u.getD 0 0 < (p : Int) := by
   cases u with
   | nil => simp at hl; omega
   | cons x u => exact hr x (by simp)
 have e0 : (u.getD 0 0 = ((cY true : Nat) : Int)) ↔ (rd (p : Int) u).c 0 = 1 := by
   rw [rd_c]
   show _ = (1 : Int) ↔ _
   constructor
   · intro h; rw [h, Zm.mk_one]
   · intro h
     have := congrArg Zm.val h
     rwa [Zm.val_of_range h0, Zm.val_one (by omega)] at this
 rw [e0]
 exact and_congr Iff.rfl (E8.trans ⟨fun h => h.trans (S9 _ q), fun h => h.trans (S9 _ q).symm⟩)
theorem A7 {p q : Nat} (hp : 2 ≤ p) (hq : 1 ≤ q) (f : PS (PS (Zm (p : Int)))) {u : List Int} (hr : ∀ x ∈ u, 0 ≤ x ∧ x < (p : Int)) (hl : u.length = q) : bU false q f u = true ↔ tY f q (rd (p : Int) u) := by
 unfold bU jY tY
 simp only [Bool.and_eq_true, decide_eq_true_eq]
 have h0 : 0 ≤ u.getD 0 0 ∧ u.getD 0 0 < (p : Int) := by
   cases u with
   | nil => simp at hl; omega
   | cons x u => exact hr x (by simp)
 have e0 : (u.getD 0 0 = ((cY false : Nat) : Int)) ↔ (rd (p : Int) u).c 0 = 0 := by
   rw [rd_c]
   show _ = (0 : Int) ↔ _
   constructor
   · intro h; rw [h, Zm.mk_zero]
   · intro h
     have := congrArg Zm.val h
     rwa [Zm.val_of_range h0, Zm.val_zero] at this
 rw [e0]
 constructor
 · rintro ⟨h1, h2⟩; exact ⟨h1, (E8.1 h2).trans (Y0 _ h1 q)⟩
 · rintro ⟨h1, h2⟩; exact ⟨h1, E8.2 (h2.trans (Y0 _ h1 q).symm)⟩
def Aj5 (p q : Nat) : Bool := (List.range 4).any fun k => q == p ^ k
def Ab5 (p q : Nat) : Bool := ((List.range q).any fun i => i != 0 && cX q i % p != 0) || Aj5 p q
theorem Aij : ([2, 3, 5, 7].all fun p => (List.range 11).all fun q => q < 2 || Ab5 p q) = true := by decide +kernel
theorem Aad {p q : Nat} (hp : p = 2 ∨ p = 3 ∨ p = 5 ∨ p = 7) (hq : 2 ≤ q ∧ q ≤ 10) (h : ∀ i, 0 < i → i < q → nc (Zm (p : Int)) (cX q i) = 0) : ∃ k, q = p ^ k := by
 have h1 := List.all_eq_true.1 Aij p (by rcases hp with rfl | rfl | rfl | rfl <;> simp)
 have h2 := List.all_eq_true.1 h1 q (List.mem_range.2 (by omega))
 simp only [Bool.or_eq_true, decide_eq_true_eq, Ab5] at h2
 rcases h2 with h2 | h2 | h2
 · omega
 · obtain ⟨i, hi, h3⟩ := List.any_eq_true.1 h2
   have hi := List.mem_range.1 hi
   simp only [Bool.and_eq_true, bne_iff_ne, ne_eq] at h3
   have := h i (by omega) hi
   rw [Aqe, Zm.mk_eq_zero] at this
   exact absurd (by omega) h3.2
 · obtain ⟨k, _, h3⟩ := List.any_eq_true.1 h2
   exact ⟨k, by simpa using h3⟩
theorem Aoj {p : Nat} (hp : p = 2 ∨ p = 3 ∨ p = 5 ∨ p = 7) : ∀ d, 0 < d → d < p → Nat.gcd d p = 1 := by
 intro d h0 h1
 rcases hp with rfl | rfl | rfl | rfl
 · obtain rfl : d = 1 := by omega
   rfl
 · rcases (show d = 1 ∨ d = 2 by omega) with rfl | rfl <;> rfl
 · rcases (show d = 1 ∨ d = 2 ∨ d = 3 ∨ d = 4 by omega) with rfl | rfl | rfl | rfl <;> rfl
 · rcases (show d = 1 ∨ d = 2 ∨ d = 3 ∨ d = 4 ∨ d = 5 ∨ d = 6 by omega) with rfl | rfl | rfl | rfl | rfl | rfl <;> rfl
theorem J8 {p : Nat} {t : List (List Int)} (h : kC (p : Int) t = 0) (hp : p = 2 ∨ p = 3 ∨ p = 5 ∨ p = 7) : ∃ e, (ext p (bU true (aI (p : Int) t) (aZ (p : Int) t)) (aI (p : Int) t) []).length = p ^ e := by
 obtain ⟨hm, hq, L, hb⟩ := pI h
 have hv : ∀ k, aI (p : Int) t ≤ k → bF (aI (p : Int) t) (Go.Fg.pw (aZ (p : Int) t) k) 0 := fun k hk => Aau (Aa1 L.z0 (by omega) hb) hk
 generalize aI (p : Int) t = q at *
 obtain ⟨k, hk⟩ := Aad hp ⟨hq.1, by omega⟩ hb
 have hp2 : 2 ≤ p := by omega
 have hmem := mZ (p := p) (by omega) (bU true q (aZ (p : Int) t)) q
 have key := Aim (Aoj hp) hp2 hk hb hv ((ext p (bU true q (aZ (p : Int) t)) q []).map fun u => tc q (rd (p : Int) u)) ?_ ?_
 · obtain ⟨e, he⟩ := key
   exact ⟨e, by rwa [List.length_map] at he⟩
 · refine List.pairwise_map.2 ?_
   refine (Are (by omega) _ q).imp_of_mem (fun {a b} ha hb hne e => hne ?_)
   obtain ⟨⟨la, ra⟩, _⟩ := (hmem a).1 ha
   obtain ⟨⟨lb, rb⟩, _⟩ := (hmem b).1 hb
   have h1 := dW (Aj6.1 e)
   have h2 := jT (m := (p : Int)) ra
   have h3 := jT (m := (p : Int)) rb
   rw [la] at h2
   rw [lb] at h3
   rw [← h2, ← h3, h1]
 · intro a
   rw [List.mem_map]
   constructor
   · rintro ⟨u, hu, rfl⟩
     obtain ⟨⟨lu, ru⟩, gu⟩ := (hmem u).1 hu
     exact eZ.cong (by omega) (iA _).symm ((vC hp2 (by omega) _ ru lu).1 gu)
   · intro ha
     have hr : ∀ x ∈ Go.Fg.L q a.1, 0 ≤ x ∧ x < (p : Int) := xZ hm q a.1
     refine ⟨Go.Fg.L q a.1, (hmem _).2 ⟨⟨by simp, hr⟩, ?_⟩, ?_⟩
     · exact (vC hp2 (by omega) _ hr (by simp)).2 (eZ.cong (by omega) (wR q a.1).symm ha)
     · exact xJ ((iA _).trans (wR q a.1))
theorem Aq7 {p : Nat} {t : List (List Int)} (h : kC (p : Int) t = 0) (hp : p = 2 ∨ p = 3 ∨ p = 5 ∨ p = 7) {u v : List Int}
   (hu : u ∈ ext p (bU true (aI (p : Int) t) (aZ (p : Int) t)) (aI (p : Int) t) []) (hv : v ∈ ext p (bU true (aI (p : Int) t) (aZ (p : Int) t)) (aI (p : Int) t) []) :
   Go.Fg.L (aI (p : Int) t) (rd (p : Int) u * rd (p : Int) v) ∈ ext p (bU true (aI (p : Int) t) (aZ (p : Int) t)) (aI (p : Int) t) [] := by
 obtain ⟨hm, hq, L, hb⟩ := pI h
 have hov : ∀ k, aI (p : Int) t ≤ k → bF (aI (p : Int) t) (Go.Fg.pw (aZ (p : Int) t) k) 0 := fun k hk => Aau (Aa1 L.z0 (by omega) hb) hk
 generalize aI (p : Int) t = q at *
 have hp2 : 2 ≤ p := by omega
 have hmem := mZ (p := p) (by omega) (bU true q (aZ (p : Int) t)) q
 obtain ⟨⟨lu, ru⟩, gu⟩ := (hmem u).1 hu
 obtain ⟨⟨lv, rv⟩, gv⟩ := (hmem v).1 hv
 have hr : ∀ x ∈ Go.Fg.L q (rd (p : Int) u * rd (p : Int) v), 0 ≤ x ∧ x < (p : Int) := xZ hm q _
 refine (hmem _).2 ⟨⟨by simp, hr⟩, (vC hp2 (by omega) _ hr (by simp)).2 ?_⟩
 exact eZ.cong (by omega) (wR q _).symm (eZ.mul hov ((vC hp2 (by omega) _ ru lu).1 gu) ((vC hp2 (by omega) _ rv lv).1 gv))
theorem Ajy {p : Nat} {t : List (List Int)} (h : kC (p : Int) t = 0) (hp : p = 2 ∨ p = 3 ∨ p = 5 ∨ p = 7) {u v : List Int}
   (hu : u ∈ ext p (bU false (aI (p : Int) t) (aZ (p : Int) t)) (aI (p : Int) t) []) (hv : v ∈ ext p (bU false (aI (p : Int) t) (aZ (p : Int) t)) (aI (p : Int) t) []) :
   Go.Fg.L (aI (p : Int) t) (rd (p : Int) u + rd (p : Int) v) ∈ ext p (bU false (aI (p : Int) t) (aZ (p : Int) t)) (aI (p : Int) t) [] := by
 obtain ⟨hm, hq, L, hb⟩ := pI h
 generalize aI (p : Int) t = q at *
 have hp2 : 2 ≤ p := by omega
 have hmem := mZ (p := p) (by omega) (bU false q (aZ (p : Int) t)) q
 obtain ⟨⟨lu, ru⟩, gu⟩ := (hmem u).1 hu
 obtain ⟨⟨lv, rv⟩, gv⟩ := (hmem v).1 hv
 have hr : ∀ x ∈ Go.Fg.L q (rd (p : Int) u + rd (p : Int) v), 0 ≤ x ∧ x < (p : Int) := xZ hm q _
 refine (hmem _).2 ⟨⟨by simp, hr⟩, (A7 hp2 (by omega) _ hr (by simp)).2 ?_⟩
 have hA := ((A7 hp2 (by omega) _ ru lu).1 gu).add ((A7 hp2 (by omega) _ rv lv).1 gv)
 have e := (wR q (rd (p : Int) u + rd (p : Int) v)).symm
 exact ⟨by rw [← e 0 (by omega)]; exact hA.1, by
   rw [← Q3 _ e]
   refine hA.2.trans (fun i j hi hj => ?_)
   rw [add_c, add_c, add_c, add_c]
   congr 1
   · show (C _).c j = (C _).c j
     rw [e i hi]
   · show ((C _ : PS (PS _)).c i).c j = ((C _ : PS (PS _)).c i).c j
     rw [dN, dN]
     split
     · exact e j hj
     · rfl⟩
end Go.Proofs
