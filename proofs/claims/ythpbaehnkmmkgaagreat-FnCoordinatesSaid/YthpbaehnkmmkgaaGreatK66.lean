import Derived.Test.YthpbaehnkmmkgaaGreatK64
namespace Go.Proofs
open Go Go.Vm Go.Fg Go.Fg.PS
set_option maxRecDepth 100000
set_option maxHeartbeats 4000000
set_option linter.unusedSimpArgs false
set_option linter.unusedVariables false
theorem nmP_set {m : Int} (a : PS (Zm m)) {n : Nat} (hn : 1 ≤ n) (i N : Nat) {x : Int} (hx : x = (a.c i).val) : (L N (nmP a n i)).set (i * n) x = L N (nmP a n (i + 1)) :=
 L_set_eq _ hx (Ag.of_eq (nmP_step a hn i))
theorem c_implNormL (m : Int) (hm : Md m) (K n : Nat) (hK : K + 1 ≤ 100) (hKn : K * n + 1 ≤ 100) (hn : 2 ≤ n ∧ n ≤ 5) (a : PS (Zm m)) (o p o1 : Bool) (t : List (List Int)) (ma : Int) (l : List Int) {Q : Int} (hQ : Q = n) (hop : PureCall Tryz.prog 336 [.agg [dint m, .list o 1 (rows p t)], .agg [dint ma, .list o1 1 (ints l)], dint Q] (dint 0))
   (hfr : PureCall Tryz.prog 337 [.agg [dint m, .list o 1 (rows p t)], .agg [dint ma, .list o1 1 (ints l)], dint Q] (SerD m true (K + 1) a)) :
   PureCall Tryz.prog 138 [.agg [dint m, .list o 1 (rows p t)], .agg [dint ma, .list o1 1 (ints l)], dint Q] (.tup [SerD m true (K * n + 1) (nmS a n), dint 0]) := by
 subst hQ
 have hm1 := hm.1
 have hm2 := hm.2
 have hcast : (K : Int) * (n : Int) = ((K * n : Nat) : Int) := (Int.natCast_mul K n).symm
 have hdeg : PureCall Tryz.prog 167 [.agg [dint m, .list false 1 (ints (L (K + 1) a))]] (dint (((K + 1 : Nat) : Int) - 1)) := c_degreeS _ (K + 1) (by omega) a
 have hz : PureCall Tryz.prog 216 [dint m, dint ((((K + 1 : Nat) : Int) - 1) * (n : Int))] (SerD m true (K * n + 1) (0 : PS (Zm m))) := c_zero (K * n + 1) (by rw [show ((K + 1 : Nat) : Int) - 1 = K by omega, hcast]; omega) (by omega)
 have hr1 : inR .i64 ((((K + 1 : Nat) : Int) - 1) * (n : Int)) := by
   rw [show ((K + 1 : Nat) : Int) - 1 = K by omega, hcast]; exact inR64 (by omega) (by omega)
 refine pure_of_vcR Tryz.tabOk mixOrd Tryz.func138 rfl rfl ?_
 conv => whnf
 repeat' first | ((first | refine z0 ?_ | (apply zI; refine zP (hop) ?_) | (apply zI; refine zP (hfr) ?_) | (apply zI; refine zP (hdeg) ?_) | (apply zI; refine zP (hz) ?_) | (refine And.intro (fun h => ?_) (fun h => ?_) <;> (try simp only [cnt1, ints_length] at h) <;> first | (exfalso; omega) | skip) | refine zS ?_ | refine zV ?_ | (apply zI; refine zP vObt ?_) | (apply zI; refine zP vObx ?_) | refine zA ?_ | refine And.intro (hr1) ?_ | refine Alt.fst ?_ | refine Or.inl ?_) <;> conv => whnf) | fail
 refine loop_atR Tryz.tabOk mixOrd (α := Nat) (fun i => [(35, dint i)]) (fun i => [(9, some ⟨false, 1, ints (L (K * n + 1) (nmP a n i))⟩)]) (fun i => i ≤ K + 1) (fun i => K + 1 - i) (0) ?_ ?_ ?_
 · omega
 · conv => whnf
   first | refine WeakS.autoR ?_ | refine Weak.autoR ?_
   conv => whnf
   repeat' ((first | refine z1 ?_ | refine z2 ?_ | refine zV ?_ | refine And.intro vRepl ?_ | refine And.intro vReplL ?_ | refine And.intro ?_ ?_ | exact trivial) <;> try (conv => whnf))
   all_goals rw [nmP_zero]
 intro i hi
 conv => whnf
 have hlt : i ≤ K → i * n ≤ K * n := fun h => Nat.mul_le_mul_right n h
 have hi5 : i * n ≤ 101 * 5 := Nat.mul_le_mul (by omega) hn.2
 have hci : (i : Int) * (n : Int) = ((i * n : Nat) : Int) := (Int.natCast_mul i n).symm
 have htn : ((i : Int) * (n : Int)).toNat = i * n := by rw [hci]; rfl
 have hrng : inR .i64 ((i : Int) * (n : Int)) := by rw [hci]; exact inR64 (by omega) (by omega)
 have hiK : (i : Int) < ((L (K + 1) a).length : Nat) → i ≤ K := fun h => by rw [L_length] at h; omega
 repeat' first | ((first | refine z0 ?_ | (apply zI; refine zP (vStore (i := i * n) _ (by rw [htn]; exact vIx) (by rw [L_length]; have := hlt (hiK (by assumption)); omega)) ?_) | (refine And.intro (fun h => ?_) (fun h => ?_) <;> (try simp only [cnt1, ints_length] at h)) | refine zS ?_ | refine zV ?_ | (apply zI; refine zP vObt ?_) | (apply zI; refine zP vObx ?_) | refine zA ?_ | refine And.intro (hrng) ?_ | (refine And.intro ((show 0 ≤ (i : Int) * (n : Int) ∧ (i : Int) * (n : Int) < (cnt 1 (ints (L (K * n + 1) (nmP a n i))) : Nat) by (have := hlt (hiK (by assumption)); rw [hci, cnt1, ints_length, L_length]; omega))) ?_) | refine Alt.fst ?_ | refine Or.inl ?_) <;> conv => whnf) | fail
 · refine Exists.intro (i + 1) (And.intro vAr (And.intro vAr ?_))
   first | refine WeakS.autoR ?_ | refine Weak.autoR ?_
   conv => whnf
   repeat' ((first | refine z1 ?_ | refine z2 ?_ | refine zV ?_ | refine And.intro vRepl ?_ | refine And.intro vReplL ?_ | refine And.intro ?_ ?_ | exact trivial) <;> try (conv => whnf))
   exact ints_congr' (nmP_set a (by omega) i _ rfl)
 · have hik : i = K + 1 := by
     have : ¬ (i : Int) < ((L (K + 1) a).length : Nat) := by assumption
     rw [L_length] at this; omega
   rw [hik, nmP_full a (by omega)]
theorem c_l12Spread (m : Int) (hm : Md m) (o : Bool) (K n : Nat) (hK : K + 1 ≤ 100) (hKn : K * n + 1 ≤ 100) (hn : 2 ≤ n ∧ n ≤ 5) (a : PS (Zm m)) {Q D0 : Int} (hQ : Q = n) (hD : D0 = ((K * n : Nat) : Int)) :
   PureCall Tryz.prog 340 [LD o (K + 1) a, dint Q, dint D0] (LD true (K * n + 1) (nmS a n)) := by
 subst hQ
 subst hD
 refine pure_of_vcR Tryz.tabOk mixOrd Tryz.func340 rfl rfl ?_
 conv => whnf
 repeat' first | ((first | refine z0 ?_ | (refine And.intro (fun h => ?_) (fun h => ?_) <;> (try simp only [cnt1, ints_length] at h)) | refine zS ?_ | refine zV ?_ | (apply zI; refine zP vObt ?_) | (apply zI; refine zP vObx ?_) | refine zA ?_ | refine Alt.fst ?_ | refine Or.inl ?_) <;> conv => whnf) | fail
 refine loop_atR Tryz.tabOk mixOrd (α := Nat) (fun i => [(8, dint i)]) (fun i => [(0, some ⟨false, 1, ints (L (K * n + 1) (nmP a n i))⟩)]) (fun i => i ≤ K + 1) (fun i => K + 1 - i) (0) ?_ ?_ ?_
 · omega
 · conv => whnf
   first | refine WeakS.autoR ?_ | refine Weak.autoR ?_
   conv => whnf
   repeat' ((first | refine z1 ?_ | refine z2 ?_ | refine zV ?_ | refine And.intro vRepl ?_ | refine And.intro vReplL ?_ | refine And.intro ?_ ?_ | exact trivial) <;> try (conv => whnf))
   all_goals
     rw [nmP_zero, L_zero]
     try rw [show (((K * n : Nat) : Int) + 1).toNat = K * n + 1 by omega]
 intro i hi
 conv => whnf
 have hlt : i ≤ K → i * n ≤ K * n := fun h => Nat.mul_le_mul_right n h
 have hi5 : i * n ≤ 101 * 5 := Nat.mul_le_mul (by omega) hn.2
 have hci : (i : Int) * (n : Int) = ((i * n : Nat) : Int) := (Int.natCast_mul i n).symm
 have htn : ((i : Int) * (n : Int)).toNat = i * n := by rw [hci]; rfl
 have hrng : inR .i64 ((i : Int) * (n : Int)) := by rw [hci]; exact inR64 (by omega) (by omega)
 have hiK : (i : Int) < ((L (K + 1) a).length : Nat) → i ≤ K := fun h => by rw [L_length] at h; omega
 repeat' first | ((first | refine z0 ?_ | (apply zI; refine zP (vStore (i := i * n) _ (by rw [htn]; exact vIx) (by rw [L_length]; have := hlt (hiK (by assumption)); omega)) ?_) | (refine And.intro (fun h => ?_) (fun h => ?_) <;> (try simp only [cnt1, ints_length] at h)) | refine zS ?_ | refine zV ?_ | (apply zI; refine zP vObt ?_) | (apply zI; refine zP vObx ?_) | refine zA ?_ | refine And.intro (hrng) ?_ | (refine And.intro ((show 0 ≤ (i : Int) * (n : Int) ∧ (i : Int) * (n : Int) < (cnt 1 (ints (L (K * n + 1) (nmP a n i))) : Nat) by (have := hlt (hiK (by assumption)); rw [hci, cnt1, ints_length, L_length]; omega))) ?_) | refine Alt.fst ?_ | refine Or.inl ?_) <;> conv => whnf) | fail
 · refine Exists.intro (i + 1) (And.intro vAr (And.intro vAr ?_))
   first | refine WeakS.autoR ?_ | refine Weak.autoR ?_
   conv => whnf
   repeat' ((first | refine z1 ?_ | refine z2 ?_ | refine zV ?_ | refine And.intro vRepl ?_ | refine And.intro vReplL ?_ | refine And.intro ?_ ?_ | exact trivial) <;> try (conv => whnf))
   exact ints_congr' (nmP_set a (by omega) i _ rfl)
 · exfalso
   have h1 := hlt (hiK (by assumption))
   have h2 : ¬ (i : Int) * (n : Int) ≤ ((K * n : Nat) : Int) := by assumption
   rw [hci] at h2; omega
 · have hik : i = K + 1 := by
     have : ¬ (i : Int) < ((L (K + 1) a).length : Nat) := by assumption
     rw [L_length] at this; omega
   rw [hik, nmP_full a (by omega)]
theorem norm_le {N n : Nat} (hN : 1 ≤ N ∧ N ≤ 11) (hn : 2 ≤ n) : (N - 1) / n + 1 ≤ 100 ∧ (N - 1) / n * n + 1 ≤ 100 := by
 have := Nat.div_le_self (N - 1) n
 have := Nat.div_mul_le_self (N - 1) n
 omega
theorem cuC_N {m : Int} {t : List (List Int)} {ma : Int} {l : List Int} (h : cuC m t ma l = 0) : Md m ∧ 1 ≤ t.length ∧ t.length ≤ 11 := by
 obtain ⟨hlw, hs, hm, hlen⟩ := cuC_four h
 have hp : plB m t = true := by simp only [lawB, Bool.and_eq_true] at hlw; exact hlw.1
 obtain ⟨hmd, h2, h3, _⟩ := plB_md hp
 exact ⟨hmd, by omega, by have := serB_len' hs; omega⟩
theorem c_implNormUnder (o p o1 : Bool) (m : Int) (t : List (List Int)) (ma : Int) (l : List Int) (n : Int) (hl : t.length ≤ 1048576) (hr : lensOk t) (h1 : l.length ≤ 1048576) :
   PureCall Tryz.prog 138 [.agg [dint m, .list o 1 (rows p t)], .agg [dint ma, .list o1 1 (ints l)], dint n] (serRes m ((t.length - 1) / n.toNat * n.toNat + 1) (nmS (frS m t l n.toNat) n.toNat) (opC m t ma l n)) := by
 by_cases hc : opC m t ma l n = 0
 · obtain ⟨hcu, hn⟩ := opC_0 hc
   obtain ⟨hmd, hN⟩ := cuC_N hcu
   have hop := c_operated o p o1 m t ma l n hl hr h1
   rw [hc] at hop
   rw [serRes, if_pos hc]
   have hle := norm_le hN (n := n.toNat) (by omega)
   exact c_implNormL m hmd ((t.length - 1) / n.toNat) n.toNat hle.1 hle.2 (by omega) _ o p o1 t ma l (by omega) hop (c_frob _ _ _ _ _ _ _ hcu n.toNat (by omega) (by omega))
 · rw [serRes, if_neg hc]
   refine pure_of_vcR Tryz.tabOk mixOrd Tryz.func138 rfl rfl ?_
   conv => whnf
   repeat' first | ((first | refine z0 ?_ | (apply zI; refine zP (c_operated _ _ _ _ _ _ _ _ hl hr h1) ?_) | (refine And.intro (fun h => ?_) (fun h => ?_) <;> (try simp only [cnt1, ints_length] at h)) | refine zS ?_ | refine zV ?_ | (apply zI; refine zP vObt ?_) | (apply zI; refine zP vObx ?_) | refine zA ?_ | refine Alt.fst ?_ | refine Or.inl ?_) <;> conv => whnf) | fail
   all_goals first | rfl | (exfalso; simp_all; done)
theorem c_specNormUnder (o p o1 : Bool) (m : Int) (t : List (List Int)) (ma : Int) (l : List Int) (n : Int) (hl : t.length ≤ 1048576) (hr : lensOk t) (h1 : l.length ≤ 1048576) :
   PureCall Tryz.prog 139 [.agg [dint m, .list o 1 (rows p t)], .agg [dint ma, .list o1 1 (ints l)], dint n] (serRes m ((t.length - 1) / n.toNat * n.toNat + 1) (nmS (frS m t l n.toNat) n.toNat) (opC m t ma l n)) := by
 by_cases hc : opC m t ma l n = 0
 · obtain ⟨hcu, hn⟩ := opC_0 hc
   obtain ⟨hmd, hN⟩ := cuC_N hcu
   have hop := c_l12Code o p o1 m t ma l n hl hr h1
   rw [hc] at hop
   rw [serRes, if_pos hc]
   have hle := norm_le hN (n := n.toNat) (by omega)
   have hf := fun o p o1 => c_lfrob o p o1 m t ma l hcu n.toNat (by omega) (Q := n) (by omega)
   have hn1 : n = (n.toNat : Int) := by omega
   generalize (t.length - 1) / n.toNat = K at *
   generalize frS m t l n.toNat = a at *
   have hcast : ((((K + 1 : Nat) : Int)) - 1) * n = ((K * n.toNat : Nat) : Int) := by
     rw [show ((K + 1 : Nat) : Int) - 1 = K by omega, Int.natCast_mul, ← hn1]
   have hr1 : inR .i64 ((((K + 1 : Nat) : Int) - 1) * n) := by rw [hcast]; exact inR64 (by omega) (by omega)
   refine pure_of_vcR Tryz.tabOk mixOrd Tryz.func139 rfl rfl ?_
   conv => whnf
   repeat' first | ((first | refine z0 ?_ | (apply zI; refine zP (hop) ?_) | (apply zI; refine zP (hf _ _ _) ?_) | (apply zI; refine zP (c_l12Spread m hmd _ K n.toNat hle.1 hle.2 (by omega) a hn1 (by rw [cnt1, ints_length, L_length]; exact hcast)) ?_) | refine Or.inl (Or.inr (And.intro (mk_l02Make) ?_)) | refine Or.inr (And.intro (mk_l02Make) ?_) | (refine And.intro (fun h => ?_) (fun h => ?_) <;> (try simp only [cnt1, ints_length] at h) <;> first | (exfalso; omega) | skip) | refine zS ?_ | refine zV ?_ | (apply zI; refine zP vObt ?_) | (apply zI; refine zP vObx ?_) | refine zA ?_ | (refine And.intro ((show inR .i64 _ by (simp only [cnt1, ints_length, L_length]; exact hr1))) ?_) | refine Alt.fst ?_ | refine Or.inl ?_) <;> conv => whnf) | fail
   all_goals first | rfl | (exfalso; simp_all; done)
 · rw [serRes, if_neg hc]
   refine pure_of_vcR Tryz.tabOk mixOrd Tryz.func139 rfl rfl ?_
   conv => whnf
   repeat' first | ((first | refine z0 ?_ | (apply zI; refine zP (c_l12Code _ _ _ _ _ _ _ _ hl hr h1) ?_) | (refine And.intro (fun h => ?_) (fun h => ?_) <;> (try simp only [cnt1, ints_length] at h)) | refine zS ?_ | refine zV ?_ | (apply zI; refine zP vObt ?_) | (apply zI; refine zP vObx ?_) | refine zA ?_ | refine Alt.fst ?_ | refine Or.inl ?_) <;> conv => whnf) | fail
   all_goals first | rfl | (exfalso; simp_all; done)
end Go.Proofs
