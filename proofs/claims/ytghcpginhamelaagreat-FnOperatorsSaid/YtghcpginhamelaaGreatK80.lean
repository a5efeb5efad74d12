/- Parts of the proof. -/
import Derived.Test.YtghcpginhamelaaGreatK57
import Derived.Test.YtghcpginhamelaaGreatK62
import Derived.Test.YtghcpginhamelaaGreatK112
import Derived.Test.YtghcpginhamelaaGreatAlg11
namespace Go.Proofs
open Go Go.Vm Go.Fg Go.Fg.PS
set_option maxRecDepth 100000
set_option maxHeartbeats 4000000
set_option linter.unusedSimpArgs false
set_option linter.unusedVariables false
variable {m : Int}
theorem Ava (hm : Md m) (o o1 o2 o3 p1 p2 p3 : Bool) (rl : List Int) {k : Nat} (hk : qJ rl k) (N : Nat) (hN : 1 ≤ N ∧ N ≤ 100) (f : PS (PS (Zm m))) (a b : PS (PS (Zm m))) :
   aI Tryz.prog 269 [vB m o rl, .agg [aA m, .list o1 1 (rows p1 (Tb N f))], gF o2 p2 k N a, gF o3 p3 k N b] (gF true true k N (gE k (rd m rl) N f a b)) := by
 have hk0 := hk
 obtain ⟨hl, hk1, hk4, hr⟩ := hk
 have hm1 := hm.1
 have hm2 := hm.2
 refine aU Tryz.tabOk aF Tryz.func269 rfl rfl ?_
 conv => whnf
 repeat' first | ((first | (apply zI; refine zP (Aro hm _ _ _ _ _ rl hk0 N hN f _) ?_) | refine zV ?_ | refine Or.inl ?_) <;> conv => whnf) | fail
 refine aZ Tryz.tabOk aF (α := Nat) (fun i => [(29, aA i), (12, .ref 4 [] 1 0 i), (26, .undef), (9, .undef), (19, .undef), (20, .undef), (23, .undef)]) (fun i => [(4, some ⟨false, 1, rows true (bN k i (0 : PS (PS (Zm m))))⟩)]) (fun i => i ≤ N) (fun i => N - i) (0) ?_ ?_ ?_
 · omega
 · conv => whnf
   first | refine aH.autoR ?_ | refine aC.autoR ?_
   conv => whnf
   repeat' ((first | refine z1 ?_ | refine zV ?_ | refine zP ?_ ?_ | exact trivial) <;> try (conv => whnf))
 intro i hi
 conv => whnf
 repeat' first | ((first | (apply zI; refine zP (rE hm _ rl hk0 0 (by rw [Zm.val_zero])) ?_) | (refine zP (fun h => ?_) (fun h => ?_) <;> (try simp only [aB, aE] at h)) | refine zV ?_ | (apply zI; refine zP aG ?_) | refine zP (aK) ?_ | refine Or.inl ?_) <;> conv => whnf) | fail
 · refine Exists.intro (i + 1) (zP aK (zP aK ?_))
   first | refine aH.autoR ?_ | refine aC.autoR ?_
   conv => whnf
   repeat' ((first | refine z1 ?_ | refine zV ?_ | refine zP ?_ ?_ | exact trivial) <;> try (conv => whnf))
   exact cC (qW (by rw [PS.C_zero]; rfl))
 · have hiN : i = N := aK
   rw [hiN]
   refine aZ Tryz.tabOk aF (α := Nat) (fun i => [(40, aA i), (13, .undef), (14, .undef)]) (fun i => [(4, some ⟨false, 1, rows true (bN k N (dP k (rd m rl) N f a b i 0))⟩)]) (fun i => i ≤ N) (fun i => N - i) (0) ?_ ?_ ?_
   · omega
   · conv => whnf
     first | refine aH.autoR ?_ | refine aC.autoR ?_
     conv => whnf
     repeat' ((first | refine z1 ?_ | refine zV ?_ | refine zP ?_ ?_ | exact trivial) <;> try (conv => whnf))
     all_goals rw [Agv]
   intro i hi
   conv => whnf
   repeat' first | ((first | refine z0 ?_ | (refine zP (fun h => ?_) (fun h => ?_) <;> (try simp only [aB, aE] at h)) | refine zV ?_ | (apply zI; refine zP aG ?_) | refine zP (aK) ?_) <;> conv => whnf) | fail
   · have hi' : i < N := aK
     refine aZ Tryz.tabOk aF (α := Nat) (fun j => [(47, aA j), (15, .undef), (16, .undef), (17, .undef), (18, .undef)]) (fun j => [(4, some ⟨false, 1, rows true (bN k N (dP k (rd m rl) N f a b i j))⟩)]) (fun j => j ≤ N - i) (fun j => N - j) (0) ?_ ?_ ?_
     · omega
     · conv => whnf
       first | refine aH.autoR ?_ | refine aC.autoR ?_
       conv => whnf
       repeat' ((first | refine z1 ?_ | refine zV ?_ | refine zP ?_ ?_ | exact trivial) <;> try (conv => whnf))
     intro j hj
     conv => whnf
     repeat' first | ((first | (apply zI; refine zP (sZ i aY aK) ?_) | (apply zI; refine zP (rF i aY aK) ?_) | (apply zI; refine zP (sZ j aY aK) ?_) | (apply zI; refine zP (rF j aY aK) ?_) | (apply zI; refine zP (Aa3 hm _ _ _ _ _ rl hk0 N hN (dV k (rd m rl) N a i) (dV k (rd m rl) N b j)) ?_) | (refine zP (fun h => ?_) (fun h => ?_) <;> (try simp only [aB, aE] at h)) | refine zS ?_ | refine zV ?_ | (apply zI; refine zP aM ?_) | (apply zI; refine zP aG ?_) | refine zP (Ack aK) ?_ | refine Alt.fst ?_ | refine Or.inl ?_) <;> conv => whnf) | fail
     · have he := Zm.val_eq_zero.1 h
       refine Exists.intro (j + 1) (zP aK (zP aK ?_))
       first | refine aH.autoR ?_ | refine aC.autoR ?_
       conv => whnf
       repeat' ((first | refine z1 ?_ | refine zV ?_ | refine zP ?_ ?_ | exact trivial) <;> try (conv => whnf))
       rw [Aci _ _ _ _ _ _ _ _ he]
     · have hj' : j < N - i := aK
       refine aZ Tryz.tabOk aF (α := Nat) (fun q => [(65, aA q), (17, .undef), (18, .undef)]) (fun q => [(4, some ⟨false, 1, rows true (bN k N (mix q (dP k (rd m rl) N f a b i (j + 1)) (dP k (rd m rl) N f a b i j)))⟩)]) (fun q => q ≤ N) (fun q => N - q) (0) ?_ ?_ ?_
       · omega
       · conv => whnf
         first | refine aH.autoR ?_ | refine aC.autoR ?_
         conv => whnf
         repeat' ((first | refine z1 ?_ | refine zV ?_ | refine zP ?_ ?_ | exact trivial) <;> try (conv => whnf))
         all_goals rw [kU]
       intro q hq
       conv => whnf
       repeat' first | ((first | (apply zI; refine zP (qM (i := q) aY aK) ?_) | refine Or.inr (iJ Tryz.tabOk aF _ Tryz.func316 rfl rfl ?_) | (refine zP (fun h => ?_) (fun h => ?_) <;> (try simp only [aB, aE] at h)) | refine zS ?_ | refine zV ?_ | refine zP (aK) ?_ | refine Alt.fst ?_ | refine Or.inl ?_) <;> conv => whnf) | fail
       · have hq' : q < N := aK
         refine aZ Tryz.tabOk aF (α := Nat) (fun l => [(12, aA l)]) (fun l => [(4, some ⟨false, 1, rows true (bN k N (jU (mix q (dP k (rd m rl) N f a b i (j + 1)) (dP k (rd m rl) N f a b i j)) q l ((dP k (rd m rl) N f a b i (j + 1)).c q)))⟩)]) (fun l => l ≤ k) (fun l => k - l) (0) ?_ ?_ ?_
         · omega
         · conv => whnf
           first | refine aH.autoR ?_ | refine aC.autoR ?_
           conv => whnf
           repeat' ((first | refine z1 ?_ | refine zV ?_ | refine zP ?_ ?_ | exact trivial) <;> try (conv => whnf))
           all_goals rw [Aag]
         intro l hll
         conv => whnf
         have x1 := hm.mul ((f.c i).c j) (((fJ k (rd m rl) N (dV k (rd m rl) N a i) (dV k (rd m rl) N b j)).c q).c l)
         have x2 := Zm.val_range hm.pos (((jU (mix q (dP k (rd m rl) N f a b i (j + 1)) (dP k (rd m rl) N f a b i j)) q l ((dP k (rd m rl) N f a b i (j + 1)).c q)).c q).c l)
         repeat' first | ((first | (apply zI; refine zP (C3 (i := q) (j := l) aY aY aK aK) ?_) | (apply zI; refine zP (V2 (i := q) (j := l) _ aY aY aK aK) ?_) | (apply zI; refine zP (jZ _ _ hm.pos (by omega)) ?_) | (refine zP (fun h => ?_) (fun h => ?_) <;> (try simp only [aB, aE] at h)) | refine zS ?_ | refine zV ?_ | refine Alt.fst ?_ | refine Or.inl ?_) <;> conv => whnf) | fail
         · have hl' : l < k := aK
           refine Exists.intro (l + 1) (zP aK (zP aK ?_))
           first | refine aH.autoR ?_ | refine aC.autoR ?_
           conv => whnf
           repeat' ((first | refine z1 ?_ | refine zV ?_ | refine zP ?_ ?_ | exact trivial) <;> try (conv => whnf))
           refine cC (Afr _ _ aK hl' ?_)
           rw [Q6, yV, Ab8, eV, if_neg (by omega), N7, add_c, add_c, Go.Fg.mD]
         · refine Exists.intro (q + 1) (zP aK (zP aK ?_))
           first | refine aH.autoR ?_ | refine aC.autoR ?_
           conv => whnf
           repeat' ((first | refine z1 ?_ | refine zV ?_ | refine zP ?_ ?_ | exact trivial) <;> try (conv => whnf))
           refine cC ?_
           rw [Aei _ _ _ aK, ← nS]
       · refine Exists.intro (j + 1) (zP aK (zP aK ?_))
         first | refine aH.autoR ?_ | refine aC.autoR ?_
         conv => whnf
         repeat' ((first | refine z1 ?_ | refine zV ?_ | refine zP ?_ ?_ | exact trivial) <;> try (conv => whnf))
         exact cC (qI (fun n hn => Ag.of_eq (by rw [eV, if_pos aK])))
     · refine Exists.intro (i + 1) (zP aK (zP aK ?_))
       first | refine aH.autoR ?_ | refine aC.autoR ?_
       conv => whnf
       repeat' ((first | refine z1 ?_ | refine zV ?_ | refine zP ?_ ?_ | exact trivial) <;> try (conv => whnf))
       rw [Y5 _ _ _ _ _ _ (show j = N - i from aK)]
   · rw [show i = N from aK]
     rfl
theorem Air (k : Nat) (ρ : PS (Zm m)) (N : Nat) (f : PS (PS (Zm m))) (a : PS (Zm m)) (i : Nat) : dF k ρ N f a (i + 1) = gE k ρ N f (dF k ρ N f a i) (jN k ρ (bP k ρ i 1) a) := rfl
theorem Alc (k : Nat) (ρ b : PS (Zm m)) (i : Nat) : bP k ρ (i + 1) b = cZ k ρ (bP k ρ i b) := rfl
theorem Ate (hm : Md m) (o o1 p1 : Bool) (n : Nat) (hn : 2 ≤ n ∧ n ≤ 5) (N : Nat) (hN : 1 ≤ N ∧ N ≤ 100) (f : PS (PS (Zm m))) (a : PS (Zm m)) :
   aI Tryz.prog 176 [.agg [aA m, .list o1 1 (rows p1 (Tb N f))], bQ m o N a, aA n] (bQ m true ((N - 1) / n + 1) ⟨fun i => ((dF (kN n) (rd m (bR n)) N f a n).c (i * n)).c 0⟩) := by
 have hm1 := hm.1
 have hm2 := hm.2
 have hk0 := M2 hn
 have hcy : aI Tryz.prog 266 [aA n] (.list true 1 (ints (bR n))) := by
   rcases (show n = 2 ∨ n = 3 ∨ n = 4 ∨ n = 5 by omega) with rfl | rfl | rfl | rfl
   all_goals
     refine aU Tryz.tabOk aF Tryz.func266 rfl rfl ?_
     conv => whnf
     repeat' first | ((first | refine z0 ?_ | (refine zP (fun h => ?_) (fun h => ?_) <;> (try simp only [aB, aE] at h) <;> first | (exfalso; omega) | skip) | refine zV ?_ | refine zP (kD [-1]) ?_ | refine zP (kD [-1, -1]) ?_ | refine zP (kD [-1, 0]) ?_ | refine zP (kD [-1, -1, -1, -1]) ?_) <;> conv => whnf) | fail
     all_goals rfl
 obtain ⟨hrl, hk1, hk4, hr⟩ := id hk0
 generalize hkk : kN n = k at *
 generalize hrr : bR n = rl at *
 refine aU Tryz.tabOk aF Tryz.func176 rfl rfl ?_
 conv => whnf
 repeat' first | ((first | (apply zI; refine zP (hcy) ?_) | refine zS ?_ | refine Alt.fst ?_ | refine Or.inl ?_) <;> conv => whnf) | fail
 refine aZ Tryz.tabOk aF (α := Nat) (fun i => [(25, aA i), (8, .ref 5 [] 1 0 i), (21, .undef)]) (fun i => [(5, some ⟨false, 1, rows true (bN k i (0 : PS (PS (Zm m))))⟩)]) (fun i => i ≤ N) (fun i => N - i) (0) ?_ ?_ ?_
 · omega
 · conv => whnf
   first | refine aH.autoR ?_ | refine aC.autoR ?_
   conv => whnf
   repeat' ((first | refine z1 ?_ | refine zV ?_ | refine zP ?_ ?_ | exact trivial) <;> try (conv => whnf))
 intro i hi
 conv => whnf
 repeat' first | ((first | (apply zI; refine zP (rE hm _ rl hk0 0 (C := 0) (by rw [Zm.val_zero])) ?_) | (apply zI; refine zP (rE hm _ rl hk0 1 (C := 1) (by rw [Zm.val_one (by omega)])) ?_) | (refine zP (fun h => ?_) (fun h => ?_) <;> (try simp only [aB, aE] at h)) | refine zV ?_ | (apply zI; refine zP aG ?_) | refine zP (aK) ?_ | refine Or.inl ?_) <;> conv => whnf) | fail
 · refine Exists.intro (i + 1) (zP aK (zP aK ?_))
   first | refine aH.autoR ?_ | refine aC.autoR ?_
   conv => whnf
   repeat' ((first | refine z1 ?_ | refine zV ?_ | refine zP ?_ ?_ | exact trivial) <;> try (conv => whnf))
   exact cC (qW (by rw [PS.C_zero]; rfl))
 · have hiN : i = N := aK
   rw [hiN]
   have hT : aI Tryz.prog 181 [bQ m o N a] (aA (N - 1)) := nG _ _ aD _
   refine aZ Tryz.tabOk aF (α := Nat) (fun q => [(36, aA q), (8, .ref 5 [] 1 0 N), (9, .ref 6 [] 1 0 k), (34, .undef), (10, .undef), (11, .undef), (13, .undef)]) (fun q => [(5, some ⟨false, 1, rows true (bN k N (dF k (rd m rl) N f a q))⟩), (6, some ⟨false, 1, ints (L k (bP k (rd m rl) q 1))⟩)]) (fun q => q ≤ n) (fun q => n - q) (0) ?_ ?_ ?_
   · omega
   · conv => whnf
     first | refine aH.autoR ?_ | refine aC.autoR ?_
     conv => whnf
     repeat' ((first | refine z1 ?_ | refine zV ?_ | refine zP ?_ ?_ | exact trivial) <;> try (conv => whnf))
     all_goals first
       | rfl
       | (rw [aB, aE, aT]; done)
       | skip
   intro q hq
   conv => whnf
   repeat' first | ((first | (apply zI; refine zP (rE hm _ rl hk0 1 (C := 1) (by rw [Zm.val_one (by omega)])) ?_) | (refine zP (fun h => ?_) (fun h => ?_) <;> (try simp only [aB, aE] at h)) | refine zS ?_ | refine zV ?_ | (apply zI; refine zP aG ?_) | refine Alt.fst ?_ | refine Or.inl ?_) <;> conv => whnf) | fail
   · have hq' : q < n := aK
     generalize hs : bP k (rd m rl) q 1 = s at *
     refine aZ Tryz.tabOk aF (α := Nat) (fun j => [(44, aA j), (10, .ref 7 [] 1 0 j), (11, .ref 8 [] 1 0 k), (38, .undef), (40, .undef), (13, .undef)]) (fun j => [(7, some ⟨false, 1, rows true (bN k j (jN k (rd m rl) s a))⟩), (8, some ⟨false, 1, ints (L k (iD k (rd m rl) s j))⟩)]) (fun j => j ≤ N) (fun j => N - j) (0) ?_ ?_ ?_
     · omega
     · conv => whnf
       first | refine aH.autoR ?_ | refine aC.autoR ?_
       conv => whnf
       repeat' ((first | refine z1 ?_ | refine zV ?_ | refine zP ?_ ?_ | exact trivial) <;> try (conv => whnf))
       all_goals first
         | rfl
         | (rw [aB, aE, aT]; done)
         | skip
     intro j hj
     conv => whnf
     repeat' first | ((first | (apply zI; refine zP (rE hm _ rl hk0 (a.c j) rfl) ?_) | (apply zI; refine zP (V7 hm _ _ _ rl hk0 (iD k (rd m rl) s j) (PS.C (a.c j))) ?_) | (apply zI; refine zP (V7 hm _ _ _ rl hk0 (iD k (rd m rl) s j) s) ?_) | (apply zI; refine zP (J8 aK (Nat.le_refl _)) ?_) | (refine zP (fun h => ?_) (fun h => ?_) <;> (try simp only [aB, aE] at h)) | refine zS ?_ | refine zV ?_ | (apply zI; refine zP aG ?_) | refine zP (aK) ?_ | refine Alt.fst ?_ | refine Or.inl ?_) <;> conv => whnf) | fail
     · have hj' : j < N := aK
       refine Exists.intro (j + 1) (zP aK (zP aK ?_))
       first | refine aH.autoR ?_ | refine aC.autoR ?_
       conv => whnf
       repeat' ((first | refine z1 ?_ | refine zV ?_ | refine zP ?_ ?_ | exact trivial) <;> try (conv => whnf))
       all_goals first
         | (exact cC (qW (cV (fun l hl => J7 _ _ _ _ hl))))
         | (rw [aB, aE, aT]; done)
         | rfl
         | skip
     · rw [show j = N from aK]
       repeat' first | ((first | (apply zI; refine zP (Ava hm _ _ _ _ _ _ _ rl hk0 N hN f (dF k (rd m rl) N f a q) (jN k (rd m rl) s a)) ?_) | (apply zI; refine zP (Acn hm _ _ rl hk0 s) ?_) | refine zV ?_ | (apply zI; refine zP aG ?_) | refine Or.inl ?_) <;> conv => whnf) | fail
       refine Exists.intro (q + 1) (zP aK (zP aK ?_))
       first | refine aH.autoR ?_ | refine aC.autoR ?_
       conv => whnf
       repeat' ((first | refine z1 ?_ | refine zV ?_ | refine zP ?_ ?_ | exact trivial) <;> try (conv => whnf))
       all_goals first
         | (rw [aB, aE, aT]; done)
         | (rw [aB, aQ, nM]; done)
         | exact cC (congrArg (bN k N) (by rw [← hs]; exact (Air _ _ _ _ _ _).symm))
         | exact cJ (congrArg (L k) (by rw [← hs]; exact (Alc _ _ _ _).symm))
   · have hqn : q = n := aK
     rw [hqn]
     have hz : ((N : Int) - 1).tdiv n = (((N - 1) / n : Nat) : Int) := by
       rw [Int.tdiv_eq_ediv_of_nonneg (by omega), show (N : Int) - 1 = ((N - 1 : Nat) : Int) by omega]
       exact (Int.natCast_ediv _ _).symm
     have hlt : (N - 1) / n ≤ N - 1 := Nat.div_le_self (N - 1) n
     have hKn : (N - 1) / n * n ≤ N - 1 := Nat.div_mul_le_self _ _
     generalize (N - 1) / n = K at *
     have hc0 : aI Tryz.prog 105 [aA m, aA (((N : Int) - 1).tdiv n)] (bQ m true (K + 1) (0 : PS (Zm m))) := mG (K + 1) (by rw [hz]; omega) (by omega)
     have hir : dQ .i64 (((N : Int) - 1).tdiv n) := eJ (by rw [hz]; omega) (by rw [hz]; omega)
     have hn0 : (n : Int) ≠ 0 := by omega
     generalize dF k (rd m rl) N f a n = F at *
     repeat' first | ((first | (apply zI; refine zP (hT) ?_) | (apply zI; refine zP (hc0) ?_) | refine zV ?_ | refine Or.inl ?_) <;> conv => whnf) | fail
     refine aZ Tryz.tabOk aF (α := Nat) (fun i => [(81, aA i)]) (fun i => [(9, some ⟨false, 1, ints (L (K + 1) (mix i (⟨fun i => (F.c (i * n)).c 0⟩ : PS (Zm m)) 0))⟩)]) (fun i => i ≤ K + 1) (fun i => K + 1 - i) (0) ?_ ?_ ?_
     · omega
     · conv => whnf
       first | refine aH.autoR ?_ | refine aC.autoR ?_
       conv => whnf
       repeat' ((first | refine z1 ?_ | refine zV ?_ | refine zP ?_ ?_ | exact trivial) <;> try (conv => whnf))
       all_goals rw [kU]
     intro i hi
     conv => whnf
     have hin : i ≤ K → i * n < N := fun h => by
       have := Nat.mul_le_mul_right n h
       omega
     have hcast : (i : Int) * (n : Int) = ((i * n : Nat) : Int) := (Int.natCast_mul i n).symm
     have htn : ((i : Int) * (n : Int)).toNat = i * n := by rw [hcast]; rfl
     have hrng : i ≤ K → dQ .i64 ((i : Int) * (n : Int)) := fun h => by
       have := hin h
       rw [hcast]
       exact eJ (by omega) (by omega)
     have hix : i ≤ K → 0 ≤ (i : Int) * (n : Int) ∧ (i : Int) * (n : Int) < (cnt 1 (rows true (bN k N F)) : Nat) := fun h => by
       have := hin h
       rw [hcast, aB, aQ, nM]; omega
     repeat' first | ((first | refine z0 ?_ | (apply zI; refine zP (qM (i := i * n) (by rw [htn]; exact aY) (hin aK)) ?_) | (apply zI; refine zP (C3 (i := i * n) (j := 0) (by rw [htn]; exact aY) aY (hin aK) aK) ?_) | (refine zP (fun h => ?_) (fun h => ?_) <;> (try simp only [aB, aE] at h)) | refine zS ?_ | refine zV ?_ | (apply zI; refine zP aG ?_)) <;> conv => whnf) | fail
     · refine Exists.intro (i + 1) (zP aK (zP aK ?_))
       first | refine aH.autoR ?_ | refine aC.autoR ?_
       conv => whnf
       repeat' ((first | refine z1 ?_ | refine zV ?_ | refine zP ?_ ?_ | exact trivial) <;> try (conv => whnf))
       exact cJ (F0 hm _ _ rfl)
     · rw [I8 _ _ (show K + 1 ≤ i from aK)]
def qU (k : Nat) (φ ρ : PS (Zm m)) : Prop := ∀ (a b : PS (Zm m)) j, j < k → (kK k φ (fZ k a b k 0) k).c j = (dC k ρ a b).c j
theorem Ap8 {n : Nat} (hn : 2 ≤ n ∧ n ≤ 5) : qU (m := m) (kN n) (rd m (jB n)) (rd m (bR n)) := fun a b j hj => Aqz hn a b hj
theorem Aio (hm : Md m) {n : Nat} (hn : 2 ≤ n ∧ n ≤ 5) : jB n = L (kN n) (rd m (jB n)) := by
 have h2 := hm.1
 have key : ∀ l : List Int, (∀ x ∈ l, 0 ≤ x ∧ x ≤ 1) → L l.length (rd m l) = l := fun l hl => uE (fun x hx => by have := hl x hx; omega)
 rcases (show n = 2 ∨ n = 3 ∨ n = 4 ∨ n = 5 by omega) with rfl | rfl | rfl | rfl
 · exact (key [1] (by simp)).symm
 · exact (key [1, 1] (by simp)).symm
 · exact (key [1, 0] (by simp)).symm
 · exact (key [1, 1, 1, 1] (by simp)).symm
theorem Ari {n : Nat} (hn : 2 ≤ n ∧ n ≤ 5) : 1 ≤ kN n ∧ kN n ≤ 4 := ⟨(M2 hn).2.1, (M2 hn).2.2.1⟩
theorem Aih (k : Nat) (a b : PS (Zm m)) (i j : Nat) (h : a.c i = 0) : fZ k a b i j = fZ k a b (i + 1) 0 := by
 rw [← X7]
 ext n
 rw [kB, kB, h, Go.Fg.zero_mul]
 split <;> split <;> rfl
theorem Ake (k : Nat) (φ g : PS (Zm m)) (r : Nat) : kK k φ g (r + 1) = iS k φ (kK k φ g r) (2 * k - 1 - r) k := rfl
theorem Asv (n : Nat) (hn : 2 ≤ n ∧ n ≤ 5) (hm : Md m) : aI Tryz.prog 272 [aA n] (LD true (kN n) (rd m (jB n))) := by
 rw [show (LD true (kN n) (rd m (jB n)) : D) = .list true 1 (ints (jB n)) from congrArg (fun x => D.list true 1 (ints x)) (Aio hm hn).symm]
 rcases (show n = 2 ∨ n = 3 ∨ n = 4 ∨ n = 5 by omega) with rfl | rfl | rfl | rfl
 all_goals
   refine aU Tryz.tabOk aF Tryz.func272 rfl rfl ?_
   conv => whnf
   repeat' first | ((first | refine z0 ?_ | (refine zP (fun h => ?_) (fun h => ?_) <;> (try simp only [aB, aE] at h) <;> first | (exfalso; omega) | skip) | refine zV ?_ | refine zP (kD [1]) ?_ | refine zP (kD [1, 1]) ?_ | refine zP (kD [1, 0]) ?_ | refine zP (kD [1, 1, 1, 1]) ?_) <;> conv => whnf) | fail
   all_goals rfl
theorem W0 (hm : Md m) (o o1 o2 : Bool) (k : Nat) (hk : 1 ≤ k ∧ k ≤ 4) (φ ρ a b : PS (Zm m)) (hf : qU k φ ρ) : aI Tryz.prog 321 [aA m, LD o k φ, LD o1 k a, LD o2 k b] (LD true k (dC k ρ a b)) := by
 have hm1 := hm.1
 have hm2 := hm.2
 refine aU Tryz.tabOk aF Tryz.func321 rfl rfl ?_
 conv => whnf
 repeat' first | ((first | refine z0 ?_ | (refine zP (fun h => ?_) (fun h => ?_) <;> (try simp only [aB, aE] at h)) | refine zS ?_ | refine zV ?_ | (apply zI; refine zP aM ?_) | (apply zI; refine zP aG ?_) | refine zA ?_ | refine Alt.fst ?_ | refine Or.inl ?_) <;> conv => whnf) | fail
 refine aZ Tryz.tabOk aF (α := Nat) (fun i => [(11, aA i)]) (fun i => [(0, some ⟨false, 1, ints (L (2 * k) (fZ k a b i 0))⟩)]) (fun i => i ≤ k) (fun i => k - i) (0) ?_ ?_ ?_
 · omega
 · conv => whnf
   first | refine aH.autoR ?_ | refine aC.autoR ?_
   conv => whnf
   repeat' ((first | refine z1 ?_ | refine z2 ?_ | refine zV ?_ | refine zP ?_ ?_ | exact trivial) <;> try (conv => whnf))
   all_goals
     rw [Aqo, fU]
     try rw [show (2 * (k : Int)).toNat = 2 * k by omega]
 intro i hi
 conv => whnf
 repeat' first | ((first | refine z0 ?_ | (refine zP (fun h => ?_) (fun h => ?_) <;> (try simp only [aB, aE] at h)) | refine zS ?_ | refine zV ?_ | (apply zI; refine zP aM ?_) | (apply zI; refine zP aG ?_) | refine zA ?_ | refine Alt.fst ?_ | refine Or.inl ?_) <;> conv => whnf) | fail
 · have hi' : i < k := aD
   refine aZ Tryz.tabOk aF (α := Nat) (fun j => [(12, aA j)]) (fun j => [(0, some ⟨false, 1, ints (L (2 * k) (fZ k a b i j))⟩)]) (fun j => j ≤ k) (fun j => k - j) (0) ?_ ?_ ?_
   · omega
   · conv => whnf
     first | refine aH.autoR ?_ | refine aC.autoR ?_
     conv => whnf
     repeat' ((first | refine z1 ?_ | refine z2 ?_ | refine zV ?_ | refine zP ?_ ?_ | exact trivial) <;> try (conv => whnf))
   intro j hj
   conv => whnf
   have x1 := hm.mul (a.c i) (b.c j)
   have x2 := Zm.val_range hm.pos ((fZ k a b i j).c (i + j))
   repeat' first | ((first | refine z0 ?_ | (refine zP (fun h => ?_) (fun h => ?_) <;> (try simp only [aB, aE] at h)) | refine zS ?_ | refine zV ?_ | (apply zI; refine zP aM ?_) | (apply zI; refine zP aG ?_) | refine zA ?_ | refine Alt.fst ?_ | refine Or.inl ?_) <;> conv => whnf) | fail
   · have hj' : j < k := aD
     refine Exists.intro (j + 1) (zP aD (zP aD ?_))
     first | refine aH.autoR ?_ | refine aC.autoR ?_
     conv => whnf
     repeat' ((first | refine z1 ?_ | refine z2 ?_ | refine zV ?_ | refine zP ?_ ?_ | exact trivial) <;> try (conv => whnf))
     exact cJ (dX _ (uU hm _ _ _) (Ag.of_eq (Awg k a b i j).symm))
   · have he := Zm.val_eq_zero.1 (Classical.not_not.1 h)
     refine Exists.intro (i + 1) (zP aD (zP aD ?_))
     first | refine aH.autoR ?_ | refine aC.autoR ?_
     conv => whnf
     repeat' ((first | refine z1 ?_ | refine z2 ?_ | refine zV ?_ | refine zP ?_ ?_ | exact trivial) <;> try (conv => whnf))
     rw [Aih k a b i j he]
   · refine Exists.intro (i + 1) (zP aD (zP aD ?_))
     first | refine aH.autoR ?_ | refine aC.autoR ?_
     conv => whnf
     repeat' ((first | refine z1 ?_ | refine z2 ?_ | refine zV ?_ | refine zP ?_ ?_ | exact trivial) <;> try (conv => whnf))
     rw [show j = k from aD, X7]
 · rw [show i = k from aD]
   repeat' first | ((first | refine z0 ?_ | (refine zP (fun h => ?_) (fun h => ?_) <;> (try simp only [aB, aE] at h)) | refine zS ?_ | refine zV ?_ | (apply zI; refine zP aM ?_) | (apply zI; refine zP aG ?_) | refine zA ?_ | refine Alt.fst ?_ | refine Or.inl ?_) <;> conv => whnf) | fail
   refine aZ Tryz.tabOk aF (α := Nat) (fun r => [(13, aA (2 * (k : Int) - 1 - r))]) (fun r => [(0, some ⟨false, 1, ints (L (2 * k) (kK k φ (fZ k a b k 0) r))⟩)]) (fun r => r ≤ k) (fun r => k - r) (0) ?_ ?_ ?_
   · omega
   · conv => whnf
     first | refine aH.autoR ?_ | refine aC.autoR ?_
     conv => whnf
     repeat' ((first | refine z1 ?_ | refine z2 ?_ | refine zV ?_ | refine zP ?_ ?_ | exact trivial) <;> try (conv => whnf))
     all_goals first
       | rfl
       | (exact kP (by omega))
       | skip
   intro r hr
   conv => whnf
   repeat' first | ((first | refine z0 ?_ | (apply zI; refine zP (Ac1 _ (L k (kK k φ (fZ k a b k 0) r)) (by rw [aT]; omega)) ?_) | (refine zP (fun h => ?_) (fun h => ?_) <;> (try simp only [aB, aE] at h)) | refine zV ?_ | (apply zI; refine zP aG ?_) | refine Or.inl ?_) <;> conv => whnf) | fail
   · have hr' : r < k := aD
     generalize hg : kK k φ (fZ k a b k 0) r = g at *
     refine aZ Tryz.tabOk aF (α := Nat) (fun j => [(14, aA j)]) (fun j => [(0, some ⟨false, 1, ints (L (2 * k) (iS k φ g (2 * k - 1 - r) j))⟩)]) (fun j => j ≤ k) (fun j => k - j) (0) ?_ ?_ ?_
     · omega
     · conv => whnf
       first | refine aH.autoR ?_ | refine aC.autoR ?_
       conv => whnf
       repeat' ((first | refine z1 ?_ | refine z2 ?_ | refine zV ?_ | refine zP ?_ ?_ | exact trivial) <;> try (conv => whnf))
       all_goals rw [Awr]
     intro j hj
     conv => whnf
     have y1 := Zm.val_range hm.pos ((iS k φ g (2 * k - 1 - r) j).c (2 * k - 1 - r - k + j))
     have y2 := hm.mul ((iS k φ g (2 * k - 1 - r) j).c (2 * k - 1 - r)) (φ.c j)
     have y3 := mR hm ((iS k φ g (2 * k - 1 - r) j).c (2 * k - 1 - r)) (φ.c j)
     have y4 := Zm.val_range hm.pos ((iS k φ g (2 * k - 1 - r) j).c (2 * k - 1 - r) * φ.c j)
     have z1 : (2 * (k : Int) - 1 - r - k + j).toNat = 2 * k - 1 - r - k + j := by omega
     have z2 : (2 * (k : Int) - 1 - r).toNat = 2 * k - 1 - r := by omega
     have y5 := Zm.val_range hm.pos ((iS k φ g (2 * k - 1 - r) j).c (2 * (k : Int) - 1 - r - k + j).toNat)
     repeat' first | ((first | (apply zI; refine zP (D9 _ _ hm.pos (by omega)) ?_) | (apply zI; refine zP (Ai8 (i := 2 * k - 1 - r) (by simp only [kR, Nat.zero_add]; exact z2) (by omega)) ?_) | (refine zP (fun h => ?_) (fun h => ?_) <;> (try simp only [aB, aE] at h)) | refine zS ?_ | refine zV ?_ | (apply zI; refine zP aG ?_) | refine Alt.fst ?_ | refine Or.inl ?_) <;> conv => whnf) | fail
     · have hj' : j < k := aD
       refine Exists.intro (j + 1) (zP aD (zP aD ?_))
       first | refine aH.autoR ?_ | refine aC.autoR ?_
       conv => whnf
       repeat' ((first | refine z1 ?_ | refine z2 ?_ | refine zV ?_ | refine zP ?_ ?_ | exact trivial) <;> try (conv => whnf))
       all_goals
         rw [y3, Amr]
         refine cJ ?_
         simp only [z1]
         rw [show 2 * k - 1 - r - k + j = 2 * k - 1 - r - k + j from rfl]
         exact dX _ rfl (Ag.of_eq (Atj k φ g (by omega) hj').symm)
     · refine Exists.intro (r + 1) (zP aD (zP aD ?_))
       first | refine aH.autoR ?_ | refine aC.autoR ?_
       conv => whnf
       repeat' ((first | refine z1 ?_ | refine z2 ?_ | refine zV ?_ | refine zP ?_ ?_ | exact trivial) <;> try (conv => whnf))
       all_goals first
         | (rw [show j = k from aD, ← hg, ← Ake]; done)
         | (exact kP (by omega))
         | omega
         | skip
   · rw [show r = k from aD]
     exact congrArg (fun x => D.list true 1 (ints x)) (cV (fun j hj => hf a b j hj))
theorem xQ (o : Bool) (k : Nat) (hk : 1 ≤ k ∧ k ≤ 4) (φ : PS (Zm m)) (N : Nat) (hN : 1 ≤ N ∧ N ≤ 100) {d : Int} (hd : d + 1 = N) : aI Tryz.prog 273 [LD o k φ, aA d] (gF true true k N (0 : PS (PS (Zm m)))) := by
 refine aU Tryz.tabOk aF Tryz.func273 rfl rfl ?_
 conv => whnf
 repeat' first | ((first | refine z0 ?_ | (refine zP (fun h => ?_) (fun h => ?_) <;> (try simp only [aB, aE] at h)) | refine zS ?_ | refine zV ?_ | (apply zI; refine zP aM ?_) | (apply zI; refine zP aG ?_) | refine zA ?_ | refine Alt.fst ?_ | refine Or.inl ?_) <;> conv => whnf) | fail
 refine aZ Tryz.tabOk aF (α := Nat) (fun i => [(6, aA i), (5, .ref 0 [] 1 0 i), (7, .undef)]) (fun i => [(0, some ⟨false, 1, rows true (bN k i (0 : PS (PS (Zm m))))⟩)]) (fun i => i ≤ N) (fun i => N - i) (0) ?_ ?_ ?_
 · omega
 · conv => whnf
   first | refine aH.autoR ?_ | refine aC.autoR ?_
   conv => whnf
   repeat' ((first | refine z1 ?_ | refine z2 ?_ | refine zV ?_ | refine zP ?_ ?_ | exact trivial) <;> try (conv => whnf))
 intro i hi
 conv => whnf
 repeat' first | ((first | refine z0 ?_ | (refine zP (fun h => ?_) (fun h => ?_) <;> (try simp only [aB, aE] at h)) | refine zV ?_ | (apply zI; refine zP aG ?_) | refine zP (aK) ?_) <;> conv => whnf) | fail
 · refine Exists.intro (i + 1) (zP aK (zP aK ?_))
   first | refine aH.autoR ?_ | refine aC.autoR ?_
   conv => whnf
   repeat' ((first | refine z1 ?_ | refine z2 ?_ | refine zV ?_ | refine zP ?_ ?_ | exact trivial) <;> try (conv => whnf))
   all_goals exact cC (qW (show _ = L k ((0 : PS (PS (Zm m))).c i) from (fU k).symm))
 · rw [show i = N from aK]
theorem Ah1 (hm : Md m) (o o1 o2 p1 p2 : Bool) (k : Nat) (hk : 1 ≤ k ∧ k ≤ 4) (φ ρ : PS (Zm m)) (hf : qU k φ ρ) (N : Nat) (hN : 1 ≤ N ∧ N ≤ 100) (f g : PS (PS (Zm m))) : aI Tryz.prog 320 [aA m, LD o k φ, gF o1 p1 k N f, gF o2 p2 k N g] (gF true true k N (fJ k ρ N f g)) := by
 have hm1 := hm.1
 have hm2 := hm.2
 refine aU Tryz.tabOk aF Tryz.func320 rfl rfl ?_
 conv => whnf
 repeat' first | ((first | (apply zI; refine zP (xQ _ k hk φ N hN aK) ?_) | refine zP (eJ aK aK) ?_ | refine Or.inl ?_) <;> conv => whnf) | fail
 refine aZ Tryz.tabOk aF (α := Nat) (fun i => [(11, aA i), (10, .ref 0 [] 1 0 N)]) (fun i => [(0, some ⟨false, 1, rows true (bN k N (gH k ρ f g i 0))⟩)]) (fun i => i ≤ N) (fun i => N - i) (0) ?_ ?_ ?_
 · omega
 · conv => whnf
   first | refine aH.autoR ?_ | refine aC.autoR ?_
   conv => whnf
   repeat' ((first | refine z1 ?_ | refine z2 ?_ | refine zV ?_ | refine zP ?_ ?_ | exact trivial) <;> try (conv => whnf))
   all_goals first
     | (rw [Ae6]; done)
     | (rw [aB, aQ, nM]; done)
     | skip
 intro i hi
 conv => whnf
 repeat' first | ((first | refine z0 ?_ | (refine zP (fun h => ?_) (fun h => ?_) <;> (try simp only [aB, aE] at h)) | refine zV ?_ | refine zP (aK) ?_) <;> conv => whnf) | fail
 · have hi' : i < N := aK
   refine aZ Tryz.tabOk aF (α := Nat) (fun j => [(12, aA j), (10, .ref 0 [] 1 0 N), (41, .undef), (53, .undef), (52, .undef)]) (fun j => [(0, some ⟨false, 1, rows true (bN k N (gH k ρ f g i j))⟩)]) (fun j => j ≤ N - i) (fun j => N - j) (0) ?_ ?_ ?_
   · omega
   · conv => whnf
     first | refine aH.autoR ?_ | refine aC.autoR ?_
     conv => whnf
     repeat' ((first | refine z1 ?_ | refine z2 ?_ | refine zV ?_ | refine zP ?_ ?_ | exact trivial) <;> try (conv => whnf))
   intro j hj
   conv => whnf
   repeat' first | ((first | (apply zI; refine zP (xS (i := i) aY aK) ?_) | (apply zI; refine zP (xS (i := j) aY aK) ?_) | (apply zI; refine zP (qM (i := i + j) aY aK) ?_) | (apply zI; refine zP (G9 (i := i + j) aY aK) ?_) | (apply zI; refine zP (W0 hm _ _ _ k hk φ ρ (f.c i) (g.c j) hf) ?_) | (apply zI; refine zP (U5 hm _ _ k aK _ _) ?_) | refine Ag8 ?_ | (apply zI; refine zP (G5 _ _ _ _) ?_) | (refine zP (fun h => ?_) (fun h => ?_) <;> (try simp only [aB, aE] at h)) | refine zS ?_ | refine zV ?_ | (apply zI; refine zP aG ?_) | refine zP (Ai2 aK) ?_ | refine zP (aK) ?_ | refine Alt.fst ?_ | refine Or.inl ?_) <;> conv => whnf) | fail
   · refine Exists.intro (j + 1) (zP aK (zP aK ?_))
     first | refine aH.autoR ?_ | refine aC.autoR ?_
     conv => whnf
     repeat' ((first | refine z1 ?_ | refine z2 ?_ | refine zV ?_ | refine zP ?_ ?_ | exact trivial) <;> try (conv => whnf))
     refine cC ?_
     rw [show place 1 0 ((i : Int) + (j : Int)).toNat = i + j from aY, zT _ _ (show i + j < N from aK), ← Agf]
   · have hj' : j = N - i := aK
     refine Exists.intro (i + 1) (zP aK (zP aK ?_))
     first | refine aH.autoR ?_ | refine aC.autoR ?_
     conv => whnf
     repeat' ((first | refine z1 ?_ | refine z2 ?_ | refine zV ?_ | refine zP ?_ ?_ | exact trivial) <;> try (conv => whnf))
     refine cC (qI (fun n hn => Ag.of_eq (Abo _ _ _ _ (by omega) n hn)))
 · rw [show i = N from aK]
   rfl
theorem Acs (hm : Md m) (o o1 p1 : Bool) (k : Nat) (hk : 1 ≤ k ∧ k ≤ 4) (φ ρ : PS (Zm m)) (hf : qU k φ ρ) (N : Nat) (hN : 1 ≤ N ∧ N ≤ 100) (a : PS (PS (Zm m))) : aI Tryz.prog 319 [aA m, LD o k φ, gF o1 p1 k N a] (.list true 1 (fO (xZ k ρ N a) N)) := by
 have hm1 := hm.1
 have hm2 := hm.2
 refine aU Tryz.tabOk aF Tryz.func319 rfl rfl ?_
 conv => whnf
 repeat' first | ((first | (apply zI; refine zP (xQ _ k hk φ N hN aK) ?_) | (apply zI; refine zP (qM (i := 0) aY aK) ?_) | (apply zI; refine zP (V2 (i := 0) (j := 0) _ aY aY aK aK) ?_) | refine zV ?_ | refine zA ?_ | refine zP (eJ aK aK) ?_ | refine zP (aK) ?_ | refine Or.inl ?_) <;> conv => whnf) | fail
 refine aZ Tryz.tabOk aF (α := Nat) (fun i => [(10, aA ((i : Int) + 1)), (9, .ref 1 [] 1 0 (i + 1)), (7, .undef), (8, .undef), (15, .undef), (16, .undef), (17, .undef), (18, .undef), (19, .undef), (20, .undef), (21, .undef), (22, .undef)]) (fun i => [(1, some ⟨false, 1, fO (xZ k ρ N a) (i + 1)⟩)]) (fun i => i + 1 ≤ N) (fun i => N - i) (0) ?_ ?_ ?_
 · omega
 · conv => whnf
   first | refine aH.autoR ?_ | refine aC.autoR ?_
   conv => whnf
   repeat' ((first | refine z1 ?_ | refine z2 ?_ | refine zV ?_ | refine zP ?_ ?_ | exact trivial) <;> try (conv => whnf))
   all_goals
     refine congrArg (fun x => [D.list true 1 (rows true x)]) ?_
     refine (?_ : eG (bN k N 0) 0 0 1 = bN k N 1)
     unfold eG
     rw [tB _ (by omega), dX (1 : Zm m) (Zm.val_one (by omega)).symm (b := 1) (fun j hj => by rw [bY, PS.one_c]; split <;> rfl), zT _ _ (by omega)]
     exact qI (fun i hi => Ag.of_eq (by rw [bY, PS.one_c]; split <;> rfl))
 intro i hi
 conv => whnf
 have hi1 : place 1 0 ((i : Int) + 1 - 1).toNat = i := by rw [kR]; omega
 repeat' first | ((first | refine z0 ?_ | (apply zI; refine zP (sZ i hi1 aK) ?_) | (apply zI; refine zP (rF i hi1 aK) ?_) | (apply zI; refine zP (Ah1 hm _ _ _ _ _ k hk φ ρ hf N hN (dV k ρ N a i) a) ?_) | (refine zP (fun h => ?_) (fun h => ?_) <;> (try simp only [aB, aE] at h)) | refine zV ?_ | (apply zI; refine zP aM ?_) | (apply zI; refine zP aG ?_) | refine zP (Aeo aK) ?_ | refine zP (X0 _) ?_ | refine zP (Afc _ _) ?_ | refine Or.inl ?_) <;> conv => whnf) | fail
 · refine Exists.intro (i + 1) (zP aK (zP aK ?_))
   first | refine aH.autoR ?_ | refine aC.autoR ?_
   conv => whnf
   repeat' ((first | refine z1 ?_ | refine z2 ?_ | refine zV ?_ | refine zP ?_ ?_ | exact trivial) <;> try (conv => whnf))
   exact Ah3 rfl
 · rw [show i + 1 = N from aK]
theorem Ajo (hm : Md m) (o o1 o2 o3 p1 p2 p3 : Bool) (k : Nat) (hk : 1 ≤ k ∧ k ≤ 4) (φ ρ : PS (Zm m)) (hf : qU k φ ρ) (N : Nat) (hN : 1 ≤ N ∧ N ≤ 100) (f a b : PS (PS (Zm m))) :
   aI Tryz.prog 274 [aA m, LD o k φ, .list o1 1 (rows p1 (Tb N f)), gF o2 p2 k N a, gF o3 p3 k N b] (gF true true k N (gE k ρ N f a b)) := by
 have hm1 := hm.1
 have hm2 := hm.2
 refine aU Tryz.tabOk aF Tryz.func274 rfl rfl ?_
 conv => whnf
 repeat' first | ((first | (apply zI; refine zP (Acs hm _ _ _ k hk φ ρ hf N hN a) ?_) | (apply zI; refine zP (Acs hm _ _ _ k hk φ ρ hf N hN b) ?_) | (apply zI; refine zP (xQ _ k hk φ N hN aK) ?_) | refine zV ?_ | refine Or.inl ?_) <;> conv => whnf) | fail
 refine aZ Tryz.tabOk aF (α := Nat) (fun i => [(15, aA i), (17, .undef), (42, .undef), (50, .undef), (60, .undef), (64, .undef), (65, .undef)]) (fun i => [(2, some ⟨false, 1, rows true (bN k N (dP k ρ N f a b i 0))⟩)]) (fun i => i ≤ N) (fun i => N - i) (0) ?_ ?_ ?_
 · omega
 · conv => whnf
   first | refine aH.autoR ?_ | refine aC.autoR ?_
   conv => whnf
   repeat' ((first | refine z1 ?_ | refine z2 ?_ | refine zV ?_ | refine zP ?_ ?_ | exact trivial) <;> try (conv => whnf))
   all_goals rw [Agv]
 intro i hi
 conv => whnf
 repeat' first | ((first | refine z0 ?_ | (refine zP (fun h => ?_) (fun h => ?_) <;> (try simp only [aB, aE] at h)) | refine zV ?_ | (apply zI; refine zP aG ?_) | refine zP (aK) ?_) <;> conv => whnf) | fail
 · have hi' : i < N := aK
   refine aZ Tryz.tabOk aF (α := Nat) (fun j => [(16, aA j), (17, .undef), (42, .undef), (50, .undef), (60, .undef), (64, .undef), (65, .undef)]) (fun j => [(2, some ⟨false, 1, rows true (bN k N (dP k ρ N f a b i j))⟩)]) (fun j => j ≤ N - i) (fun j => N - j) (0) ?_ ?_ ?_
   · omega
   · conv => whnf
     first | refine aH.autoR ?_ | refine aC.autoR ?_
     conv => whnf
     repeat' ((first | refine z1 ?_ | refine z2 ?_ | refine zV ?_ | refine zP ?_ ?_ | exact trivial) <;> try (conv => whnf))
   intro j hj
   conv => whnf
   repeat' first | ((first | (apply zI; refine zP (sZ i aY aK) ?_) | (apply zI; refine zP (rF i aY aK) ?_) | (apply zI; refine zP (sZ j aY aK) ?_) | (apply zI; refine zP (rF j aY aK) ?_) | (apply zI; refine zP (Ah1 hm _ _ _ _ _ k hk φ ρ hf N hN (dV k ρ N a i) (dV k ρ N b j)) ?_) | (refine zP (fun h => ?_) (fun h => ?_) <;> (try simp only [aB, aE] at h)) | refine zS ?_ | refine zV ?_ | (apply zI; refine zP aM ?_) | (apply zI; refine zP aG ?_) | refine zP (Ack aK) ?_ | refine Alt.fst ?_ | refine Or.inl ?_) <;> conv => whnf) | fail
   · have he := Zm.val_eq_zero.1 h
     refine Exists.intro (j + 1) (zP aK (zP aK ?_))
     first | refine aH.autoR ?_ | refine aC.autoR ?_
     conv => whnf
     repeat' ((first | refine z1 ?_ | refine z2 ?_ | refine zV ?_ | refine zP ?_ ?_ | exact trivial) <;> try (conv => whnf))
     rw [Aci _ _ _ _ _ _ _ _ he]
   · have hj' : j < N - i := aK
     refine aZ Tryz.tabOk aF (α := Nat) (fun q => [(18, aA q), (77, .undef), (91, .undef), (90, .undef)]) (fun q => [(2, some ⟨false, 1, rows true (bN k N (mix q (dP k ρ N f a b i (j + 1)) (dP k ρ N f a b i j)))⟩)]) (fun q => q ≤ N) (fun q => N - q) (0) ?_ ?_ ?_
     · omega
     · conv => whnf
       first | refine aH.autoR ?_ | refine aC.autoR ?_
       conv => whnf
       repeat' ((first | refine z1 ?_ | refine z2 ?_ | refine zV ?_ | refine zP ?_ ?_ | exact trivial) <;> try (conv => whnf))
       all_goals rw [kU]
     intro q hq
     conv => whnf
     repeat' first | ((first | (apply zI; refine zP (qM (i := q) aY aK) ?_) | (apply zI; refine zP (G9 (i := q) aY aK) ?_) | (apply zI; refine zP (N2 hm _ k aK ((f.c i).c j) _) ?_) | (apply zI; refine zP (U5 hm _ _ k aK _ _) ?_) | refine Ag8 ?_ | (apply zI; refine zP (G5 _ _ _ _) ?_) | (refine zP (fun h => ?_) (fun h => ?_) <;> (try simp only [aB, aE] at h)) | refine zS ?_ | refine zV ?_ | (apply zI; refine zP aG ?_) | refine zP (Ai2 aK) ?_ | refine zP (aK) ?_ | refine Alt.fst ?_ | refine Or.inl ?_) <;> conv => whnf) | fail
     · have hq' : q < N := aK
       refine Exists.intro (q + 1) (zP aK (zP aK ?_))
       first | refine aH.autoR ?_ | refine aC.autoR ?_
       conv => whnf
       repeat' ((first | refine z1 ?_ | refine z2 ?_ | refine zV ?_ | refine zP ?_ ?_ | exact trivial) <;> try (conv => whnf))
       refine cC ?_
       rw [show place 1 0 ((q : Int)).toNat = q from aY, zT _ _ hq', eV, if_neg (by omega), nS, N7]
       refine qI (fun n hn l hl => ?_)
       rw [bY, bY]
       split
       · rename_i e
         subst e
         rw [add_c, add_c, add_c, Go.Fg.mD, C_mul]
       · rfl
     · refine Exists.intro (j + 1) (zP aK (zP aK ?_))
       first | refine aH.autoR ?_ | refine aC.autoR ?_
       conv => whnf
       repeat' ((first | refine z1 ?_ | refine z2 ?_ | refine zV ?_ | refine zP ?_ ?_ | exact trivial) <;> try (conv => whnf))
       exact cC (qI (fun n hn => Ag.of_eq (by rw [eV, if_pos aK])))
   · refine Exists.intro (i + 1) (zP aK (zP aK ?_))
     first | refine aH.autoR ?_ | refine aC.autoR ?_
     conv => whnf
     repeat' ((first | refine z1 ?_ | refine z2 ?_ | refine zV ?_ | refine zP ?_ ?_ | exact trivial) <;> try (conv => whnf))
     rw [Y5 _ _ _ _ _ _ (show j = N - i from aK)]
 · rw [show i = N from aK]
   rfl
theorem Ar0 (hm : Md m) (o o1 : Bool) (k : Nat) (hk : 1 ≤ k ∧ k ≤ 4) (φ ρ : PS (Zm m)) (hf : qU k φ ρ) (hρ : k = 1 → ρ.c 0 = -1) (N : Nat) (hN : 1 ≤ N ∧ N ≤ 100) (a : PS (Zm m)) (q : Nat) (hq : q ≤ 5) {Q : Int} (hQ : Q = q) :
   aI Tryz.prog 275 [aA m, LD o k φ, LD o1 N a, aA Q] (gF true true k N (jN k ρ (bP k ρ q 1) a)) := by
 have hm1 := hm.1
 have hm2 := hm.2
 subst hQ
 refine aU Tryz.tabOk aF Tryz.func275 rfl rfl ?_
 conv => whnf
 have hL1 : (List.replicate k (0 : Int)).set 0 1 = L k (1 : PS (Zm m)) := by
   rw [← fU (m := m)]
   exact dX (1 : Zm m) (Zm.val_one (by omega)).symm (fun j hj => by rw [bY, PS.one_c]; split <;> rfl)
 have hR1 : k = 1 → (List.replicate k (0 : Int)).set 0 (m - 1) = L k (cZ k ρ 1) := fun hk1 => by
   rw [← fU (m := m)]
   refine dX (-1 : Zm m) ?_ (fun j hj => ?_)
   · rw [← Atq, Zm.val_one (by omega), show (0 : Int) - 1 = (m - 1) + m * (-1) by omega, Int.add_mul_emod_self_left, Int.emod_eq_of_lt (by omega) (by omega)]
   · rw [bY, if_pos (by omega), dI, if_pos hj, if_pos (by omega), PS.one_c, if_pos (by omega), show j = 0 by omega, hρ hk1, CR.one_mul, CR.zero_add]
 have hR2 : k ≠ 1 → (List.replicate k (0 : Int)).set 1 1 = L k (cZ k ρ 1) := fun hk1 => by
   rw [← fU (m := m)]
   refine dX (1 : Zm m) (Zm.val_one (by omega)).symm (fun j hj => ?_)
   rw [bY, dI, if_pos hj, PS.one_c, PS.one_c, if_neg (show ¬ k - 1 = 0 by omega), Go.Fg.zero_mul, Go.Fg.add_zero]
   by_cases h0 : j = 0
   · rw [if_pos h0, if_neg (by omega)]; rfl
   · rw [if_neg h0]
     by_cases h1 : j = 1
     · rw [if_pos h1, if_pos (by omega)]
     · rw [if_neg h1, if_neg (by omega)]; rfl
 repeat' first | ((first | refine z0 ?_ | (refine zP (fun h => ?_) (fun h => ?_) <;> (try simp only [aB, aE] at h) <;> first | (exfalso; omega) | skip) | refine zS ?_ | refine zV ?_ | (apply zI; refine zP aM ?_) | (apply zI; refine zP aG ?_)) <;> conv => whnf) | fail
 all_goals
   refine aZ Tryz.tabOk aF (α := Nat) (fun r => [(3, aA ((q : Int) - r)), (10, .ref 1 [] 1 0 k), (17, .undef), (23, .undef), (24, .undef), (43, .undef), (45, .undef)]) (fun r => [(1, some ⟨false, 1, ints (L k (bP k ρ r 1))⟩), (2, some ⟨false, 1, ints (L k (1 : PS (Zm m)))⟩), (3, some ⟨false, 1, ints (L k (cZ k ρ 1))⟩)]) (fun r => r ≤ q) (fun r => q - r) (0) ?_ ?_ ?_
   · omega
   · conv => whnf
     first | refine aH.autoR ?_ | refine aC.autoR ?_
     conv => whnf
     repeat' ((first | refine z1 ?_ | refine z2 ?_ | refine zV ?_ | refine zP ?_ ?_ | exact trivial) <;> try (conv => whnf))
     all_goals first
       | (rw [hL1]; done)
       | (exact congrArg (fun x => [D.list true 1 (ints x)]) (hR1 (by simp only [aT] at h; omega)))
       | (exact congrArg (fun x => [D.list true 1 (ints x)]) (hR2 (by simp only [aT] at h; omega)))
       | (exact cJ hL1)
       | (exact cJ (hR1 (by simp only [aT] at h; omega)))
       | (exact cJ (hR2 (by simp only [aT] at h; omega)))
       | skip
   intro r hr
   conv => whnf
   repeat' first | ((first | (apply zI; refine zP (W0 hm _ _ _ k hk φ ρ (bP k ρ r 1) (cZ k ρ 1) hf) ?_) | (refine zP (fun h => ?_) (fun h => ?_) <;> (try simp only [aB, aE] at h)) | refine zV ?_ | (apply zI; refine zP aG ?_) | refine Or.inl ?_) <;> conv => whnf) | fail
   · have hr' : r < q := by omega
     refine Exists.intro (r + 1) (zP aK (zP aK ?_))
     first | refine aH.autoR ?_ | refine aC.autoR ?_
     conv => whnf
     repeat' ((first | refine z1 ?_ | refine z2 ?_ | refine zV ?_ | refine zP ?_ ?_ | exact trivial) <;> try (conv => whnf))
     all_goals first
       | (exact cJ (cV (fun j hj => (Adb k ρ _ hj))))
       | (exact kP (by omega))
       | skip
   · have hrq : r = q := by omega
     rw [hrq]
     generalize bP k ρ q 1 = s at *
     repeat' first | ((first | refine z0 ?_ | (refine zP (fun h => ?_) (fun h => ?_) <;> (try simp only [aB, aE] at h)) | refine zS ?_ | refine zV ?_ | (apply zI; refine zP aM ?_) | (apply zI; refine zP aG ?_) | refine zA ?_ | refine Alt.fst ?_ | refine Or.inl ?_) <;> conv => whnf) | fail
     refine aZ Tryz.tabOk aF (α := Nat) (fun j => [(13, aA j), (9, .ref 0 [] 1 0 j), (11, .ref 2 [] 1 0 k), (14, .undef), (20, .undef), (21, .undef), (22, .undef), (58, .undef), (59, .undef), (60, .undef), (64, .undef), (66, .undef)]) (fun j => [(0, some ⟨false, 1, rows true (bN k j (jN k ρ s a))⟩), (2, some ⟨false, 1, ints (L k (iD k ρ s j))⟩)]) (fun j => j ≤ N) (fun j => N - j) (0) ?_ ?_ ?_
     · omega
     · conv => whnf
       first | refine aH.autoR ?_ | refine aC.autoR ?_
       conv => whnf
       repeat' ((first | refine z1 ?_ | refine z2 ?_ | refine zV ?_ | refine zP ?_ ?_ | exact trivial) <;> try (conv => whnf))
     intro j hj
     conv => whnf
     repeat' first | ((first | refine z0 ?_ | (apply zI; refine zP (N2 hm _ k aK (a.c j) _) ?_) | (apply zI; refine zP (W0 hm _ _ _ k hk φ ρ (iD k ρ s j) s hf) ?_) | (refine zP (fun h => ?_) (fun h => ?_) <;> (try simp only [aB, aE] at h)) | refine zV ?_ | (apply zI; refine zP aG ?_) | refine zP (aK) ?_ | refine Or.inl ?_) <;> conv => whnf) | fail
     · have hj' : j < N := aK
       refine Exists.intro (j + 1) (zP aK (zP aK ?_))
       first | refine aH.autoR ?_ | refine aC.autoR ?_
       conv => whnf
       repeat' ((first | refine z1 ?_ | refine z2 ?_ | refine zV ?_ | refine zP ?_ ?_ | exact trivial) <;> try (conv => whnf))
       all_goals first
         | (exact cC (qW rfl))
         | rfl
         | skip
     · rw [show j = N from aK]
theorem Aqd (hm : Md m) (o o1 p1 : Bool) (n : Nat) (hn : 2 ≤ n ∧ n ≤ 5) (N : Nat) (hN : 1 ≤ N ∧ N ≤ 100) (f : PS (PS (Zm m))) (a : PS (Zm m)) {Q : Int} (hQ : Q = n) :
   aI Tryz.prog 178 [aA m, .list o1 1 (rows p1 (Tb N f)), LD o N a, aA Q] (LD true ((N - 1) / n + 1) ⟨fun i => ((dF (kN n) (rd m (bR n)) N f a n).c (i * n)).c 0⟩) := by
 subst hQ
 have hm1 := hm.1
 have hm2 := hm.2
 have hk := Ari hn
 have hf : qU (m := m) (kN n) (rd m (jB n)) (rd m (bR n)) := Ap8 hn
 have hρ : kN n = 1 → (rd m (bR n)).c 0 = -1 := by
   rcases (show n = 2 ∨ n = 3 ∨ n = 4 ∨ n = 5 by omega) with rfl | rfl | rfl | rfl
   · intro _; rw [rd_c]; exact Zm.mk_neg 1
   all_goals (intro h; simp [kN] at h)
 have hfl := Asv n hn hm
 generalize kN n = k at *
 generalize rd m (bR n) = ρ at *
 generalize rd m (jB n) = φ at *
 refine aU Tryz.tabOk aF Tryz.func178 rfl rfl ?_
 conv => whnf
 repeat' first | ((first | (apply zI; refine zP (hfl) ?_) | (apply zI; refine zP (xQ _ k hk φ N hN aK) ?_) | refine zV ?_ | (apply zI; refine zP aG ?_) | refine Or.inl ?_) <;> conv => whnf) | fail
 refine aZ Tryz.tabOk aF (α := Nat) (fun i => [(11, aA i), (10, .ref 1 [] 1 0 N), (20, .undef), (29, .undef), (34, .undef), (35, .undef)]) (fun i => [(1, some ⟨false, 1, rows true (bN k N (dF k ρ N f a i))⟩)]) (fun i => i ≤ n) (fun i => n - i) (0) ?_ ?_ ?_
 · omega
 · conv => whnf
   first | refine aH.autoR ?_ | refine aC.autoR ?_
   conv => whnf
   repeat' ((first | refine z1 ?_ | refine z2 ?_ | refine zV ?_ | refine zP ?_ ?_ | exact trivial) <;> try (conv => whnf))
   all_goals first
     | rfl
     | (rw [aB, aQ, nM]; done)
     | skip
 intro i hi
 conv => whnf
 repeat' first | ((first | (apply zI; refine zP (Ar0 hm _ _ k hk φ ρ hf hρ N hN a i (by omega) rfl) ?_) | (apply zI; refine zP (Ajo hm _ _ _ _ _ _ _ k hk φ ρ hf N hN f (dF k ρ N f a i) (jN k ρ (bP k ρ i 1) a)) ?_) | (apply zI; refine zP (J8 aK (Nat.le_refl _)) ?_) | (refine zP (fun h => ?_) (fun h => ?_) <;> (try simp only [aB, aE] at h)) | refine zV ?_ | (apply zI; refine zP aG ?_) | refine zP (aK) ?_ | refine Or.inl ?_) <;> conv => whnf) | fail
 · refine Exists.intro (i + 1) (zP aK (zP aK ?_))
   first | refine aH.autoR ?_ | refine aC.autoR ?_
   conv => whnf
   repeat' ((first | refine z1 ?_ | refine z2 ?_ | refine zV ?_ | refine zP ?_ ?_ | exact trivial) <;> try (conv => whnf))
   all_goals first
     | rfl
     | (rw [aB, aQ, nM]; done)
     | skip
 · rw [show i = n from aK]
   have hKn : (N - 1) / n * n ≤ N - 1 := Nat.div_mul_le_self _ _
   have hKn2 : N ≤ ((N - 1) / n + 1) * n := by
     have := Nat.lt_div_mul_add (a := N - 1) (b := n) (by omega)
     rw [Nat.add_mul]; omega
   have hKN : (N - 1) / n ≤ N - 1 := Nat.div_le_self _ _
   generalize (N - 1) / n = K at *
   generalize dF k ρ N f a n = F at *
   repeat' first | ((first | refine z0 ?_ | (refine zP (fun h => ?_) (fun h => ?_) <;> (try simp only [aB, aE] at h)) | refine zS ?_ | refine zV ?_ | (apply zI; refine zP aM ?_) | (apply zI; refine zP aG ?_) | refine zA ?_ | refine Alt.fst ?_ | refine Or.inl ?_) <;> conv => whnf) | fail
   refine aZ Tryz.tabOk aF (α := Nat) (fun j => [(13, aA ((j : Int) * (n : Int))), (12, .ref 2 [] 1 0 j), (36, .undef)]) (fun j => [(2, some ⟨false, 1, ints (L j (⟨fun i => (F.c (i * n)).c 0⟩ : PS (Zm m)))⟩)]) (fun j => j ≤ K + 1) (fun j => K + 1 - j) (0) ?_ ?_ ?_
   · omega
   · conv => whnf
     first | refine aH.autoR ?_ | refine aC.autoR ?_
     conv => whnf
     repeat' ((first | refine z1 ?_ | refine z2 ?_ | refine zV ?_ | refine zP ?_ ?_ | exact trivial) <;> try (conv => whnf))
     all_goals first
       | (exact kP (by simp))
       | rfl
       | skip
   intro j hj
   conv => whnf
   have hcast : (j : Int) * (n : Int) = ((j * n : Nat) : Int) := (Int.natCast_mul j n).symm
   have htn : ((j : Int) * (n : Int)).toNat = j * n := by rw [hcast]; rfl
   have hlt : j ≤ K → j * n < N := fun h => by
     have := Nat.mul_le_mul_right n h
     omega
   have hge : ¬ j ≤ K → N ≤ j * n := fun h => by
     have := Nat.mul_le_mul_right n (show K + 1 ≤ j by omega)
     omega
   have hjN : (j : Int) * (n : Int) < (N : Int) → j ≤ K := fun h => by
     rw [hcast] at h
     rcases Nat.lt_or_ge K j with h1 | h1
     · have := hge (by omega); omega
     · exact h1
   have hcs : ((j + 1 : Nat) : Int) * (n : Int) = (j : Int) * (n : Int) + n := by
     rw [show ((j + 1 : Nat) : Int) = (j : Int) + 1 by omega, Int.add_mul, Int.one_mul]
   have hrng : dQ .i64 ((j : Int) * (n : Int) + n) := by
     rw [hcast]
     have h1 := Nat.mul_le_mul_right n hj
     have h2 : (K + 1) * n = K * n + n := Nat.succ_mul K n
     exact eJ (by omega) (by omega)
   have hix : j ≤ K → 0 ≤ (j : Int) * (n : Int) ∧ (j : Int) * (n : Int) < (cnt 1 (rows true (bN k N F)) : Nat) := fun h => by
     have := hlt h
     rw [hcast, aB, aQ, nM]; omega
   repeat' first | ((first | refine z0 ?_ | (apply zI; refine zP (qM (i := j * n) (by rw [htn]; exact aY) (hlt (hjN (by simp only [aB, aE, aT] at *; assumption)))) ?_) | (apply zI; refine zP (C3 (i := j * n) (j := 0) (by rw [htn]; exact aY) aY (hlt (hjN (by simp only [aB, aE, aT] at *; assumption))) (by omega)) ?_) | (refine zP (fun h => ?_) (fun h => ?_) <;> (try simp only [aB, aE] at h)) | refine zV ?_ | (apply zI; refine zP aM ?_) | (apply zI; refine zP aG ?_)) <;> conv => whnf) | fail
   · have hjK : j ≤ K := hjN (by simp only [aT] at *; assumption)
     refine Exists.intro (j + 1) (zP (by omega) (zP (by omega) ?_))
     first | refine aH.autoR ?_ | refine aC.autoR ?_
     conv => whnf
     repeat' ((first | refine z1 ?_ | refine z2 ?_ | refine zV ?_ | refine zP ?_ ?_ | exact trivial) <;> try (conv => whnf))
     all_goals first
       | (exact cJ (oJ rfl))
       | (exact kP hcs.symm)
       | skip
   · have hjK : ¬ j ≤ K := fun h1 => by
       have h2 := hlt h1
       have h3 : ¬ (j : Int) * (n : Int) < ((L N a).length : Nat) := by assumption
       rw [aT, hcast] at h3
       omega
     rw [show j = K + 1 by omega]
end Go.Proofs
namespace Go.Proofs
open Go Go.Vm Go.Fg Go.Fg.PS
set_option maxRecDepth 100000
set_option maxHeartbeats 4000000
set_option linter.unusedSimpArgs false
set_option linter.unusedVariables false
noncomputable def opC (m : Int) (t : List (List Int)) (ma : Int) (l : List Int) (n : Int) : Int := if eS m t ma l = 0 then (if bB n 2 5 = true then (if n > (t.length : Int) - 1 then 5 else 0) else 2) else eS m t ma l
noncomputable def pA (m : Int) (t : List (List Int)) (l : List Int) (n : Nat) : PS (Zm m) := ⟨fun i => ((dF (kN n) (rd m (bR n)) t.length (cM m t) (rd m l) n).c (i * n)).c 0⟩
def eA {m : Int} (a : PS (Zm m)) (n : Nat) : PS (Zm m) := ⟨fun j => if j % n = 0 then a.c (j / n) else 0⟩
def kJ {m : Int} (a : PS (Zm m)) (n i : Nat) : PS (Zm m) := ⟨fun j => if j % n = 0 ∧ j / n < i then a.c (j / n) else 0⟩
theorem Acg {m : Int} (a : PS (Zm m)) (n : Nat) : kJ a n 0 = 0 := by
 ext j; show (if j % n = 0 ∧ j / n < 0 then a.c (j / n) else 0) = 0; rw [if_neg (fun x => Nat.not_lt_zero _ x.2)]
theorem Aok {m : Int} (a : PS (Zm m)) {n : Nat} (hn : 1 ≤ n) (i : Nat) : (kJ a n i).upd (i * n) (a.c i) = kJ a n (i + 1) := by
 ext j
 rw [bY]
 show (if j = i * n then a.c i else if j % n = 0 ∧ j / n < i then a.c (j / n) else 0) = if j % n = 0 ∧ j / n < i + 1 then a.c (j / n) else 0
 by_cases h : j = i * n
 · subst h
   have h1 : i * n % n = 0 := Nat.mul_mod_left i n
   have h2 : i * n / n = i := Nat.mul_div_cancel i (by omega)
   rw [if_pos rfl, h2, if_pos ⟨h1, by omega⟩]
 · rw [if_neg h]
   by_cases h1 : j % n = 0
   · have h3 : j = j / n * n := by have := Nat.div_add_mod j n; rw [h1, Nat.mul_comm] at this; omega
     have h4 : j / n ≠ i := fun e => h (by rw [← e]; exact h3)
     by_cases h5 : j / n < i
     · rw [if_pos ⟨h1, h5⟩, if_pos ⟨h1, by omega⟩]
     · rw [if_neg (fun x => h5 x.2), if_neg (by omega)]
   · rw [if_neg (fun x => h1 x.1), if_neg (fun x => h1 x.1)]
theorem Agh {m : Int} {t : List (List Int)} {ma : Int} {l : List Int} (h : eS m t ma l = 0) : dN m t = true ∧ cX ma l = true ∧ m = ma ∧ t.length = l.length := by
 unfold eS at h
 split at h
 · split at h
   · split at h
     · rename_i h1 h2 h3
       simp only [jK, Bool.and_eq_true, decide_eq_true_eq] at h3
       exact ⟨h1, h2, h3.1, h3.2.1⟩
     · omega
   · omega
 · omega
theorem E8 {m : Int} {t : List (List Int)} {ma : Int} {l : List Int} {n : Int} (h : opC m t ma l n = 0) : eS m t ma l = 0 ∧ 2 ≤ n ∧ n ≤ 5 := by
 unfold opC at h
 split at h
 · split at h
   · rename_i h1 h2
     have : 2 ≤ n ∧ n ≤ 5 := by simpa [bB] using h2
     exact ⟨h1, this⟩
   · omega
 · rename_i h1; exact absurd h h1
theorem Ahx (o p o1 : Bool) (m : Int) (t : List (List Int)) (ma : Int) (l : List Int) (n : Int) (hl : t.length ≤ 1048576) (hr : kO t) (h1 : l.length ≤ 1048576) :
   aI Tryz.prog 175 [.agg [aA m, .list o 1 (rows p t)], .agg [aA ma, .list o1 1 (ints l)], aA n] (aA (opC m t ma l n)) := by
 have hd : aI Tryz.prog 124 [.agg [aA m, .list o 1 (rows p t)]] (aA (t.length - 1)) := by
   refine aU Tryz.tabOk aF Tryz.func124 rfl rfl ?_
   conv => whnf
   repeat' first | ((first | refine z0 ?_ | refine zV ?_) <;> conv => whnf) | fail
   rw [aB, aQ]
 refine aU Tryz.tabOk aF Tryz.func175 rfl rfl ?_
 conv => whnf
 repeat' first | ((first | refine z0 ?_ | (apply zI; refine zP (Ad9 _ _ _ _ _ _ _ _ hl hr h1) ?_) | (apply zI; refine zP (mT _ _ _) ?_) | (apply zI; refine zP (hd) ?_) | (apply zI; refine zP ((show sub [aA ma, D.list false 1 (ints l)] 2 0 1 = [aA ma, D.list false 1 (ints l)] from rfl)) ?_) | (refine zP (fun h => ?_) (fun h => ?_) <;> (try simp only [aB, aE] at h)) | refine zV ?_ | (apply zI; refine zP aG ?_) | refine zP ((show 1 * 2 ≤ 2 by omega)) ?_ | refine Or.inl ?_) <;> conv => whnf) | fail
 all_goals (refine congrArg aA ?_; simp [opC]; simp_all)
theorem Ap9 (o p o1 : Bool) (m : Int) (t : List (List Int)) (ma : Int) (l : List Int) (hc : eS m t ma l = 0) (n : Nat) (hn : 2 ≤ n ∧ n ≤ 5) {Q : Int} (hQ : Q = n) :
   aI Tryz.prog 176 [.agg [aA m, .list o 1 (rows p t)], .agg [aA ma, .list o1 1 (ints l)], aA Q] (bQ m true ((t.length - 1) / n + 1) (pA m t l n)) := by
 subst hQ
 obtain ⟨hlw, hs, hm, hlen⟩ := Agh hc
 subst hm
 have hp : eH m t = true := by simp only [dN, Bool.and_eq_true] at hlw; exact hlw.1
 obtain ⟨hmd, h2, h3, _⟩ := tK hp
 have key := Ate hmd o1 o p n hn t.length (by omega) (cM m t) (rd m l)
 rw [pY hp] at key
 have e1 : bQ m o1 t.length (rd m l) = .agg [aA m, .list o1 1 (ints l)] := by
   unfold bQ
   rw [hlen, ← pF hs]
 rw [e1] at key
 exact key
theorem R7 (o p o1 : Bool) (m : Int) (t : List (List Int)) (ma : Int) (l : List Int) (n : Int) (hl : t.length ≤ 1048576) (hr : kO t) (h1 : l.length ≤ 1048576) :
   aI Tryz.prog 58 [.agg [aA m, .list o 1 (rows p t)], .agg [aA ma, .list o1 1 (ints l)], aA n] (cP m ((t.length - 1) / n.toNat + 1) (pA m t l n.toNat) (opC m t ma l n)) := by
 by_cases hc : opC m t ma l n = 0
 · obtain ⟨hcu, hn⟩ := E8 hc
   have hop := Ahx o p o1 m t ma l n hl hr h1
   rw [hc] at hop
   rw [cP, if_pos hc]
   refine aU Tryz.tabOk aF Tryz.func58 rfl rfl ?_
   conv => whnf
   repeat' first | ((first | refine z0 ?_ | (apply zI; refine zP (hop) ?_) | (apply zI; refine zP (Ap9 _ _ _ _ _ _ _ hcu n.toNat (by omega) (by omega)) ?_) | (refine zP (fun h => ?_) (fun h => ?_) <;> (try simp only [aB, aE] at h) <;> first | (exfalso; omega) | skip) | refine zV ?_ | refine Or.inl ?_) <;> conv => whnf) | fail
   all_goals first | rfl | (exfalso; simp_all; done)
 · rw [cP, if_neg hc]
   refine aU Tryz.tabOk aF Tryz.func58 rfl rfl ?_
   conv => whnf
   repeat' first | ((first | refine z0 ?_ | (apply zI; refine zP (Ahx _ _ _ _ _ _ _ _ hl hr h1) ?_) | (refine zP (fun h => ?_) (fun h => ?_) <;> (try simp only [aB, aE] at h)) | refine Or.inl ?_) <;> conv => whnf) | fail
   all_goals first | rfl | (exfalso; simp_all; done)
theorem Af1 (o p o1 : Bool) (m : Int) (t : List (List Int)) (ma : Int) (l : List Int) (n : Int) (hl : t.length ≤ 1048576) (hr : kO t) (h1 : l.length ≤ 1048576) :
   aI Tryz.prog 177 [.agg [aA m, .list o 1 (rows p t)], .agg [aA ma, .list o1 1 (ints l)], aA n] (aA (opC m t ma l n)) := by
 have hd : aI Tryz.prog 271 [.agg [aA m, .list o 1 (rows p t)]] (aA (t.length - 1)) := by
   refine aU Tryz.tabOk aF Tryz.func271 rfl rfl ?_
   conv => whnf
   repeat' first | ((first | refine z0 ?_ | refine zV ?_) <;> conv => whnf) | fail
   rw [aB, aQ]
 refine aU Tryz.tabOk aF Tryz.func177 rfl rfl ?_
 conv => whnf
 repeat' first | ((first | refine z0 ?_ | (apply zI; refine zP (Ap1 _ _ _ _ _ _ _ _ hl hr h1) ?_) | (apply zI; refine zP (sW _ _ _) ?_) | (apply zI; refine zP (hd) ?_) | (apply zI; refine zP ((show sub [aA ma, D.list false 1 (ints l)] 2 0 1 = [aA ma, D.list false 1 (ints l)] from rfl)) ?_) | (refine zP (fun h => ?_) (fun h => ?_) <;> (try simp only [aB, aE] at h)) | refine zV ?_ | (apply zI; refine zP aG ?_) | refine zP ((show 1 * 2 ≤ 2 by omega)) ?_ | refine Or.inl ?_) <;> conv => whnf) | fail
 all_goals (refine congrArg aA ?_; simp [opC]; simp_all)
theorem Aux (o p o1 : Bool) (m : Int) (t : List (List Int)) (ma : Int) (l : List Int) (hc : eS m t ma l = 0) (n : Nat) (hn : 2 ≤ n ∧ n ≤ 5) {Q : Int} (hQ : Q = n) :
   aI Tryz.prog 178 [aA m, .list o 1 (rows p t), .list o1 1 (ints l), aA Q] (LD true ((t.length - 1) / n + 1) (pA m t l n)) := by
 obtain ⟨hlw, hs, hm, hlen⟩ := Agh hc
 subst hm
 have hp : eH m t = true := by simp only [dN, Bool.and_eq_true] at hlw; exact hlw.1
 obtain ⟨hmd, h2, h3, _⟩ := tK hp
 have key := Aqd hmd o1 o p n hn t.length (by omega) (cM m t) (rd m l) hQ
 rw [pY hp] at key
 have e1 : LD o1 t.length (rd m l) = .list o1 1 (ints l) := by
   unfold LD
   rw [hlen, ← pF hs]
 rw [e1] at key
 exact key
theorem At2 (o p o1 : Bool) (m : Int) (t : List (List Int)) (ma : Int) (l : List Int) (n : Int) (hl : t.length ≤ 1048576) (hr : kO t) (h1 : l.length ≤ 1048576) :
   aI Tryz.prog 59 [.agg [aA m, .list o 1 (rows p t)], .agg [aA ma, .list o1 1 (ints l)], aA n] (cP m ((t.length - 1) / n.toNat + 1) (pA m t l n.toNat) (opC m t ma l n)) := by
 by_cases hc : opC m t ma l n = 0
 · obtain ⟨hcu, hn⟩ := E8 hc
   have hop := Af1 o p o1 m t ma l n hl hr h1
   rw [hc] at hop
   rw [cP, if_pos hc]
   refine aU Tryz.tabOk aF Tryz.func59 rfl rfl ?_
   conv => whnf
   repeat' first | ((first | refine z0 ?_ | (apply zI; refine zP (hop) ?_) | (apply zI; refine zP (Aux _ _ _ _ _ _ _ hcu n.toNat (by omega) (by omega)) ?_) | refine Or.inr (zP (vX) ?_) | (refine zP (fun h => ?_) (fun h => ?_) <;> (try simp only [aB, aE] at h) <;> first | (exfalso; omega) | skip) | refine zS ?_ | refine zV ?_ | refine Alt.fst ?_ | refine Or.inl ?_) <;> conv => whnf) | fail
   all_goals first | rfl | (exfalso; simp_all; done)
 · rw [cP, if_neg hc]
   refine aU Tryz.tabOk aF Tryz.func59 rfl rfl ?_
   conv => whnf
   repeat' first | ((first | refine z0 ?_ | (apply zI; refine zP (Af1 _ _ _ _ _ _ _ _ hl hr h1) ?_) | (refine zP (fun h => ?_) (fun h => ?_) <;> (try simp only [aB, aE] at h)) | refine zS ?_ | refine Alt.fst ?_ | refine Or.inl ?_) <;> conv => whnf) | fail
   all_goals first | rfl | (exfalso; simp_all; done)
theorem Acy {m : Int} (a : PS (Zm m)) {n : Nat} (hn : 1 ≤ n) (i N : Nat) {x : Int} (hx : x = (a.c i).val) : (L N (kJ a n i)).set (i * n) x = L N (kJ a n (i + 1)) :=
 dX _ hx (Ag.of_eq (Aok a hn i))
end Go.Proofs
namespace Go.Proofs
open Go Go.Vm Go.Fg Go.Fg.PS
set_option maxRecDepth 100000
set_option maxHeartbeats 4000000
set_option linter.unusedSimpArgs false
set_option linter.unusedVariables false
variable {m : Int}
theorem Ara (hm : Md m) (a : Zm m) (k : Nat) (hk : k ≤ 4611686018427387904) {A K : Int} (hA : A = a.val) (hK : K = k) : aI Tryz.prog 187 [aA m, aA A, aA K] (aA (pw a k).val) := by
 subst hK hA
 have hm1 := hm.1
 have hm2 := hm.2
 refine bZ Tryz.tabOk aF Tryz.func187 rfl rfl ?_
 conv => whnf
 repeat' first | ((first | refine z0 ?_ | (refine zP (fun h => ?_) (fun h => ?_) <;> (try simp only [aB, aE] at h)) | refine zS ?_ | refine zV ?_ | (apply zI; refine zP aG ?_) | refine Or.inl ?_) <;> conv => whnf) | fail
 all_goals try (exfalso; omega)
 refine dR Tryz.tabOk aF (α := Zm m × Zm m × Nat) (fun x => [(7, aA x.1.val), (1, aA x.2.1.val), (2, aA x.2.2)]) (fun x => []) (fun x => x.1 * pw x.2.1 x.2.2 = pw a k ∧ x.2.2 ≤ 4611686018427387904) (fun x => x.2.2) ((1, a, k)) ?_ ?_ ?_
 · exact ⟨CR.one_mul _, hk⟩
 · conv => whnf
   first | refine aH.auto ?_ | refine aC.auto ?_
   conv => whnf
   repeat' ((first | refine z1 ?_ | refine zP ?_ ?_ | exact trivial) <;> try (conv => whnf))
   all_goals exact Zm.tmod_val (by omega) rfl
 intro ⟨x, y, q⟩ ⟨hx, hq⟩
 simp only at hx hq
 conv => whnf
 repeat' first | ((first | refine z0 ?_ | (apply zI; refine zP (zJ hm _ _) ?_) | (refine zP (fun h => ?_) (fun h => ?_) <;> (try simp only [aB, aE] at h)) | refine zS ?_ | refine zV ?_ | (apply zI; refine zP aG ?_) | refine Alt.fst ?_ | refine Or.inl ?_) <;> conv => whnf) | fail
 · refine Exists.intro (x * y, y * y, q / 2) (zP ⟨by simp only; rw [Anh x y (by rw [kH] at *; omega)]; exact hx, by simp only; omega⟩ (zP (by simp only; omega) ?_))
   first | refine aH.auto ?_ | refine aC.auto ?_
   conv => whnf
   repeat' ((first | refine z1 ?_ | refine zP ?_ ?_ | exact trivial) <;> try (conv => whnf))
   all_goals exact tG _
 · refine Exists.intro (x, y * y, q / 2) (zP ⟨by simp only; rw [Av5 x y (by rw [kH] at *; omega)]; exact hx, by simp only; omega⟩ (zP (by simp only; omega) ?_))
   first | refine aH.auto ?_ | refine aC.auto ?_
   conv => whnf
   repeat' ((first | refine z1 ?_ | refine zP ?_ ?_ | exact trivial) <;> try (conv => whnf))
   all_goals exact tG _
 · refine congrArg aA ?_
   rw [show q = 0 by omega, pw_zero, Go.Fg.mul_one] at hx
   rw [hx]
end Go.Proofs
