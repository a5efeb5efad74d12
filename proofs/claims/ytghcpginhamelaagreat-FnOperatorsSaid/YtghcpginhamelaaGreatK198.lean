/- Parts of the proof. -/
import Derived.Test.YtghcpginhamelaaGreatK80
import Derived.Test.YtghcpginhamelaaGreatK112
import Derived.Test.YtghcpginhamelaaGreatK128
import Derived.Test.YtghcpginhamelaaGreatK57
import Derived.Test.YtghcpginhamelaaGreatAlg36
import Derived.Test.YtghcpginhamelaaGreatK62
import Derived.Test.YtghcpginhamelaaGreatK154
import Derived.Test.YtghcpginhamelaaGreatVm43
namespace Go.Proofs
open Go Go.Vm Go.Fg Go.Fg.PS
set_option maxRecDepth 100000
set_option maxHeartbeats 4000000
set_option linter.unusedSimpArgs false
set_option linter.unusedVariables false
variable {m : Int}
theorem Asb (a : PS (Zm m)) {n i N : Nat} (hn : 1 ≤ n) (h : N ≤ i * n) : Ag N (kJ a n (i + 1)) (kJ a n i) := fun j hj => by
 show (if _ then _ else _) = (if _ then _ else _)
 by_cases h1 : j % n = 0 ∧ j / n < i
 · rw [if_pos h1, if_pos ⟨h1.1, by omega⟩]
 · rw [if_neg h1, if_neg (fun h2 => h1 ⟨h2.1, ?_⟩)]
   have e := Nat.div_add_mod j n
   rw [h2.1, Nat.add_zero] at e
   have : j / n < i := by
     rcases Nat.lt_or_ge (j / n) i with h3 | h3
     · exact h3
     · have := Nat.mul_le_mul_right n h3
       rw [Nat.mul_comm (j / n)] at this
       omega
   exact this
theorem P0 (a : PS (Zm m)) {n N : Nat} (hn : 1 ≤ n) : Ag N (kJ a n N) (eA a n) := fun j hj => by
 show (if _ then _ else _) = (if _ then _ else _)
 have := Nat.div_le_self j n
 by_cases h1 : j % n = 0
 · rw [if_pos ⟨h1, by omega⟩, if_pos h1]
 · rw [if_neg (fun h => h1 h.1), if_neg h1]
theorem yF {a : PS (Zm m)} {n : Nat} (hn : 1 ≤ n) : vs n a = eA a n := PS.ext (fun j => by rw [iK hn]; rfl)
theorem Alb {m : Int} {l : List Int} (o : Bool) (hs : cX m l = true) : D.agg [aA m, .list o 1 (ints l)] = bQ m o l.length (rd m l) := by
 rw [bQ, ← pF hs]
theorem yA (hm : Md m) (a b : Zm m) : 0 ≤ a.val * b.val ∧ a.val * b.val ≤ 100000000 := by
 have h1 := Zm.val_range hm.pos a
 have h2 := Zm.val_range hm.pos b
 have h3 := hm.2
 refine ⟨Int.mul_nonneg h1.1 h2.1, ?_⟩
 have h4 := Int.mul_le_mul (show a.val ≤ 10000 by omega) (show b.val ≤ 10000 by omega) h2.1 (by omega)
 omega
noncomputable def gT (m : Int) (l : List Int) : Int := if cX m l = true then (if l.getD 0 0 = 0 then 0 else 2) else 1
theorem xI {m : Int} {l : List Int} (h : gT m l = 0) : cX m l = true ∧ l.getD 0 0 = 0 := by
 unfold gT at h
 split at h
 · split at h
   · exact ⟨by assumption, by assumption⟩
   · omega
 · omega
theorem wI {m : Int} {l : List Int} (h : cX m l = true) : Md m ∧ 2 ≤ l.length ∧ l.length ≤ 11 := by
 have h2 := rI h
 simp only [cX, Bool.and_eq_true] at h
 refine ⟨?_, by omega, by omega⟩
 have := h.1.1
 simpa [bB, Md] using this
noncomputable def lS (m : Int) (l : List Int) (n : Int) : Int := if gT m l = 0 then (if bB n 1 100 = true then 0 else 2) else gT m l
noncomputable def mE (m : Int) (l : List Int) (x : Int) : Int := if gT m l = 0 then (if bB x 0 (m - 1) = true then 0 else 2) else gT m l
theorem Avt {m : Int} {l : List Int} {n : Int} (h : lS m l n = 0) : cX m l = true ∧ l.getD 0 0 = 0 ∧ 1 ≤ n ∧ n ≤ 100 := by
 unfold lS at h
 split at h
 · split at h
   · obtain ⟨h1, h2⟩ := xI (by assumption)
     have h3 : bB n 1 100 = true := by assumption
     exact ⟨h1, h2, by simpa [bB] using h3⟩
   · omega
 · contradiction
theorem Acb {m : Int} {l : List Int} {n : Int} (hs : cX m l = true) (h0 : l.getD 0 0 = 0) (h1 : 1 ≤ n) (h2 : n ≤ 100) : lS m l n = 0 := by
 unfold lS gT
 rw [if_pos hs, if_pos h0, if_pos rfl, if_pos (by simp [bB]; omega)]
theorem Ax9 {m : Int} {l : List Int} {x : Int} (h : mE m l x = 0) : cX m l = true ∧ l.getD 0 0 = 0 ∧ 0 ≤ x ∧ x < m := by
 unfold mE at h
 split at h
 · split at h
   · obtain ⟨h1, h2⟩ := xI (by assumption)
     have h3 : bB x 0 (m - 1) = true := by assumption
     have h4 : 0 ≤ x ∧ x ≤ m - 1 := by simpa [bB] using h3
     exact ⟨h1, h2, h4.1, by omega⟩
   · omega
 · contradiction
def iH {m : Int} (a : PS (Zm m)) (x : Zm m) : PS (Zm m) := ⟨fun i => a.c i * pw x i⟩
theorem As4 (hm : Md m) (o : Bool) (N : Nat) (hN : 2 ≤ N ∧ N ≤ 11) (a : PS (Zm m)) (n : Nat) (hn : 1 ≤ n ∧ n ≤ 100) {q : Int} (hq : q = n) : aI Tryz.prog 180 [bQ m o N a, aA q] (bQ m true N (eA a n)) := by
 subst hq
 have hdeg := fun o => nG (m := m) o N (by omega) a
 refine aU Tryz.tabOk aF Tryz.func180 rfl rfl ?_
 conv => whnf
 repeat' first | ((first | (apply zI; refine zP (hdeg _) ?_) | (apply zI; refine zP (mG N aD aD) ?_) | refine zS ?_ | refine Alt.fst ?_ | refine Or.inl ?_) <;> conv => whnf) | fail
 refine aZ Tryz.tabOk aF (α := Nat) (fun i => [(16, aA i)]) (fun i => [(4, some ⟨false, 1, ints (L N (kJ a n i))⟩)]) (fun i => i ≤ N) (fun i => N - i) (0) ?_ ?_ ?_
 · omega
 · conv => whnf
   first | refine aH.autoR ?_ | refine aC.autoR ?_
   conv => whnf
   repeat' ((first | refine z1 ?_ | refine zP ?_ ?_ | exact trivial) <;> try (conv => whnf))
   all_goals rw [Acg]
 intro i hi
 conv => whnf
 have hi5 : i * n ≤ 11 * 100 := Nat.mul_le_mul (by omega) hn.2
 have hci : (i : Int) * (n : Int) = ((i * n : Nat) : Int) := (Int.natCast_mul i n).symm
 have htn : ((i : Int) * (n : Int)).toNat = i * n := by rw [hci]; rfl
 have hrng : dQ .i64 ((i : Int) * (n : Int)) := by rw [hci]; exact eJ (by omega) (by omega)
 by_cases hiN : i < N
 · by_cases hin : i * n < N
   · have hle : (i : Int) * (n : Int) ≤ (N : Int) - 1 := by rw [hci]; omega
     repeat' first | ((first | (apply zI; refine zP (hdeg _) ?_) | (apply zI; refine zP (F3 (i := i * n) _ (by rw [htn]; exact aY) (by rw [aT]; exact hin)) ?_) | (refine zP (fun h => ?_) (fun h => ?_) <;> (try simp only [aB, aE, aQ, aV, aT, bC] at h) <;> first | (exfalso; first | omega | exact h trivial | (cases h; done)) | skip) | refine zV ?_ | (apply zI; refine zP aG ?_) | refine Or.inl ?_) <;> conv => whnf) | fail
     all_goals first | (exfalso; simp only [aB, aE, aT] at *; omega) | skip
     refine Exists.intro (i + 1) (zP (by omega) (zP (by omega) ?_))
     first | refine aH.autoR ?_ | refine aC.autoR ?_
     conv => whnf
     repeat' ((first | refine z1 ?_ | refine zP ?_ ?_ | exact trivial) <;> try (conv => whnf))
     exact cJ (Acy a (by omega) i _ rfl)
   · have hle : ¬ (i : Int) * (n : Int) ≤ (N : Int) - 1 := by rw [hci]; omega
     repeat' first | ((first | (apply zI; refine zP (hdeg _) ?_) | (refine zP (fun h => ?_) (fun h => ?_) <;> (try simp only [aB, aE, aQ, aV, aT, bC] at h) <;> first | (exfalso; first | omega | exact h trivial | (cases h; done)) | skip) | refine zV ?_ | (apply zI; refine zP aG ?_) | refine Or.inl ?_) <;> conv => whnf) | fail
     all_goals first | (exfalso; simp only [aB, aE, aT] at *; omega) | skip
     refine Exists.intro (i + 1) (zP (by omega) (zP (by omega) ?_))
     first | refine aH.autoR ?_ | refine aC.autoR ?_
     conv => whnf
     repeat' ((first | refine z1 ?_ | refine zP ?_ ?_ | exact trivial) <;> try (conv => whnf))
     exact congrArg ints (cV (Asb a (by omega) (by omega))).symm
 · obtain rfl : i = N := by omega
   repeat' first | ((first | refine z0 ?_ | (refine zP (fun h => ?_) (fun h => ?_) <;> (try simp only [aB, aE, aQ, aV, aT, bC] at h) <;> first | (exfalso; first | omega | exact h trivial | (cases h; done)) | skip) | refine zV ?_ | (apply zI; refine zP aM ?_) | (apply zI; refine zP aG ?_)) <;> conv => whnf) | fail
   all_goals first | (exfalso; simp only [aB, aE, aT] at *; omega) | skip
   exact qF (cV (P0 a (by omega)))
theorem Amm (hm : Md m) (o : Bool) (N : Nat) (hN : 2 ≤ N ∧ N ≤ 11) (a : PS (Zm m)) (n : Nat) (hn : 1 ≤ n ∧ n ≤ 100) {Q D0 : Int} (hQ : Q = n) (hD : D0 = (N : Int) - 1) :
   aI Tryz.prog 184 [LD o N a, aA Q, aA D0] (LD true N (eA a n)) := by
 subst hQ
 subst hD
 refine aU Tryz.tabOk aF Tryz.func184 rfl rfl ?_
 conv => whnf
 repeat' first | ((first | refine z0 ?_ | (refine zP (fun h => ?_) (fun h => ?_) <;> (try simp only [aB, aE] at h)) | refine zS ?_ | refine zV ?_ | (apply zI; refine zP aM ?_) | (apply zI; refine zP aG ?_) | refine zA ?_ | refine Alt.fst ?_ | refine Or.inl ?_) <;> conv => whnf) | fail
 refine aZ Tryz.tabOk aF (α := Nat) (fun i => [(8, aA i)]) (fun i => [(0, some ⟨false, 1, ints (L N (kJ a n i))⟩)]) (fun i => i ≤ N) (fun i => N - i) (0) ?_ ?_ ?_
 · omega
 · conv => whnf
   first | refine aH.autoR ?_ | refine aC.autoR ?_
   conv => whnf
   repeat' ((first | refine z1 ?_ | refine zP ?_ ?_ | exact trivial) <;> try (conv => whnf))
   all_goals
     rw [Acg, fU]
     try rw [show ((N : Int) - 1 + 1).toNat = N by omega]
 intro i hi
 conv => whnf
 have hi5 : i * n ≤ 11 * 100 := Nat.mul_le_mul (by omega) hn.2
 have hci : (i : Int) * (n : Int) = ((i * n : Nat) : Int) := (Int.natCast_mul i n).symm
 have htn : ((i : Int) * (n : Int)).toNat = i * n := by rw [hci]; rfl
 have hrng : dQ .i64 ((i : Int) * (n : Int)) := by rw [hci]; exact eJ (by omega) (by omega)
 by_cases hiN : i < N
 · by_cases hin : i * n < N
   · have hle : (i : Int) * (n : Int) ≤ (N : Int) - 1 := by rw [hci]; omega
     repeat' first | ((first | (apply zI; refine zP (F3 (i := i * n) _ (by rw [htn]; exact aY) (by rw [aT]; exact hin)) ?_) | (refine zP (fun h => ?_) (fun h => ?_) <;> (try simp only [aB, aE, aQ, aV, aT, bC] at h) <;> first | (exfalso; first | omega | exact h trivial | (cases h; done)) | skip) | refine zV ?_ | (apply zI; refine zP aG ?_)) <;> conv => whnf) | fail
     all_goals first | (exfalso; simp only [aB, aE, aT] at *; omega) | skip
     refine Exists.intro (i + 1) (zP (by omega) (zP (by omega) ?_))
     first | refine aH.autoR ?_ | refine aC.autoR ?_
     conv => whnf
     repeat' ((first | refine z1 ?_ | refine zP ?_ ?_ | exact trivial) <;> try (conv => whnf))
     exact cJ (Acy a (by omega) i _ rfl)
   · have hle : ¬ (i : Int) * (n : Int) ≤ (N : Int) - 1 := by rw [hci]; omega
     have hfin : L N (kJ a n i) = L N (eA a n) := cV (fun j hj => by
       have h1 : Ag N (kJ a n N) (eA a n) := P0 a (by omega)
       rw [← h1 j hj]
       show (if _ then _ else _) = (if _ then _ else _)
       by_cases h2 : j % n = 0 ∧ j / n < i
       · rw [if_pos h2, if_pos ⟨h2.1, by omega⟩]
       · rw [if_neg h2, if_neg (fun h3 => h2 ⟨h3.1, ?_⟩)]
         rcases Nat.lt_or_ge (j / n) i with h4 | h4
         · exact h4
         · have h5 := Nat.mul_le_mul_right n h4
           have h6 := Nat.div_mul_le_self j n
           omega)
     repeat' first | ((first | refine z0 ?_ | (refine zP (fun h => ?_) (fun h => ?_) <;> (try simp only [aB, aE, aQ, aV, aT, bC] at h) <;> first | (exfalso; first | omega | exact h trivial | (cases h; done)) | skip) | refine zV ?_) <;> conv => whnf) | fail
     all_goals first | (exfalso; simp only [aB, aE, aT] at *; omega) | skip
     exact congrArg (fun x => D.list true 1 (ints x)) hfin
 · obtain rfl : i = N := by omega
   repeat' first | ((first | refine z0 ?_ | (refine zP (fun h => ?_) (fun h => ?_) <;> (try simp only [aB, aE, aQ, aV, aT, bC] at h) <;> first | (exfalso; first | omega | exact h trivial | (cases h; done)) | skip) | refine zV ?_ | (apply zI; refine zP aM ?_) | (apply zI; refine zP aG ?_)) <;> conv => whnf) | fail
   all_goals first | (exfalso; simp only [aB, aE, aT] at *; omega) | skip
   exact congrArg (fun x => D.list true 1 (ints x)) (cV (P0 a (by omega)))
theorem Afh (o : Bool) (m : Int) (l : List Int) (hl : l.length ≤ 1048576) : aI Tryz.prog 179 [.agg [aA m, .list o 1 (ints l)]] (aA (gT m l)) := by
 have h1 := fun o => wT o m l hl
 unfold gT
 by_cases hs : cX m l = true
 · have hln := rI hs
   rw [hs] at h1
   rw [if_pos hs]
   by_cases h0 : l.getD 0 0 = 0
   · rw [if_pos h0]
     refine aU Tryz.tabOk aF Tryz.func179 rfl rfl ?_
     conv => whnf
     repeat' first | ((first | refine z0 ?_ | (apply zI; refine zP (h1 _) ?_) | (apply zI; refine zP (sV (i := 0) aY aD) ?_) | (refine zP (fun h => ?_) (fun h => ?_) <;> (try simp only [aB, aE, aQ, aV, aT, bC] at h) <;> first | (exfalso; first | omega | exact h trivial | (cases h; done)) | skip) | refine zV ?_ | refine Or.inl ?_) <;> conv => whnf) | fail
   · rw [if_neg h0]
     refine aU Tryz.tabOk aF Tryz.func179 rfl rfl ?_
     conv => whnf
     repeat' first | ((first | refine z0 ?_ | (apply zI; refine zP (h1 _) ?_) | (apply zI; refine zP (sV (i := 0) aY aD) ?_) | (refine zP (fun h => ?_) (fun h => ?_) <;> (try simp only [aB, aE, aQ, aV, aT, bC] at h) <;> first | (exfalso; first | omega | exact h trivial | (cases h; done)) | skip) | refine zV ?_ | refine Or.inl ?_) <;> conv => whnf) | fail
 · rw [if_neg hs]
   rw [Bool.eq_false_iff.2 hs] at h1
   refine aU Tryz.tabOk aF Tryz.func179 rfl rfl ?_
   conv => whnf
   repeat' first | ((first | refine z0 ?_ | (apply zI; refine zP (h1 _) ?_) | (refine zP (fun h => ?_) (fun h => ?_) <;> (try simp only [aB, aE, aQ, aV, aT, bC] at h) <;> first | (exfalso; first | omega | exact h trivial | (cases h; done)) | skip) | refine zV ?_ | (apply zI; refine zP aG ?_) | refine Or.inl ?_) <;> conv => whnf) | fail
theorem Af0 (o : Bool) (m : Int) (l : List Int) (hl : l.length ≤ 1048576) (hs : cX m l = true) : aI Tryz.prog 183 [.agg [aA m, .list o 1 (ints l)]] (bH (decide (l.getD 0 0 = 0))) := by
 have hln := rI hs
 refine aU Tryz.tabOk aF Tryz.func183 rfl rfl ?_
 conv => whnf
 repeat' first | ((first | refine z0 ?_ | (apply zI; refine zP (wE _ _ _ hl) ?_) | (apply zI; refine zP (sV (i := 0) aY aD) ?_) | (refine zP (fun h => ?_) (fun h => ?_) <;> (try simp only [aB, aE] at h)) | refine zV ?_ | refine Or.inl ?_) <;> conv => whnf) | fail
 all_goals (refine cD ?_; first | rfl | (simp_all []; done) | (simp_all []; omega) | (simp_all []; intros; omega))
theorem J3 (o : Bool) (m : Int) (l : List Int) (hl : l.length ≤ 1048576) (n : Int) : aI Tryz.prog 61 [.agg [aA m, .list o 1 (ints l)], aA n] (cP m l.length (eA (rd m l) n.toNat) (lS m l n)) := by
 have h1 := fun o => Afh o m l hl
 have h2 := mT n 1 100
 unfold lS
 by_cases hc : gT m l = 0
 · obtain ⟨hs, h0⟩ := xI hc
   obtain ⟨hmd, hN⟩ := wI hs
   rw [hc] at h1
   rw [if_pos hc]
   by_cases hn : bB n 1 100 = true
   · have hn2 : 1 ≤ n ∧ n ≤ 100 := by simpa [bB] using hn
     have key := fun o => As4 hmd o l.length hN (rd m l) n.toNat (by omega) (q := n) (by omega)
     simp only [← Alb _ hs] at key
     rw [hn] at h2
     rw [if_pos hn, cP, if_pos rfl]
     refine aU Tryz.tabOk aF Tryz.func61 rfl rfl ?_
     conv => whnf
     repeat' first | ((first | refine z0 ?_ | (apply zI; refine zP (h1 _) ?_) | (apply zI; refine zP (h2) ?_) | (apply zI; refine zP (key _) ?_) | (refine zP (fun h => ?_) (fun h => ?_) <;> (try simp only [aB, aE, aQ, aV, aT, bC] at h) <;> first | (exfalso; first | omega | exact h trivial | (cases h; done)) | skip) | refine zV ?_ | refine Or.inl ?_) <;> conv => whnf) | fail
   · rw [Bool.eq_false_iff.2 hn] at h2
     rw [if_neg hn, cP, if_neg (by omega)]
     refine aU Tryz.tabOk aF Tryz.func61 rfl rfl ?_
     conv => whnf
     repeat' first | ((first | refine z0 ?_ | (apply zI; refine zP (h1 _) ?_) | (apply zI; refine zP (h2) ?_) | (refine zP (fun h => ?_) (fun h => ?_) <;> (try simp only [aB, aE, aQ, aV, aT, bC] at h) <;> first | (exfalso; first | omega | exact h trivial | (cases h; done)) | skip) | refine Or.inl ?_) <;> conv => whnf) | fail
     all_goals first | rfl | skip
 · rw [if_neg hc, cP, if_neg hc]
   generalize gT m l = c at *
   refine aU Tryz.tabOk aF Tryz.func61 rfl rfl ?_
   conv => whnf
   repeat' first | ((first | refine z0 ?_ | (apply zI; refine zP (h1 _) ?_) | (refine zP (fun h => ?_) (fun h => ?_) <;> (try simp only [aB, aE, aQ, aV, aT, bC] at h) <;> first | (exfalso; first | omega | exact h trivial | (cases h; done)) | skip) | refine zV ?_ | (apply zI; refine zP aG ?_) | refine Or.inl ?_) <;> conv => whnf) | fail
   all_goals first | rfl | skip
theorem Arj (o : Bool) (m : Int) (l : List Int) (hl : l.length ≤ 1048576) (n : Int) : aI Tryz.prog 66 [.agg [aA m, .list o 1 (ints l)], aA n] (cP m l.length (eA (rd m l) n.toNat) (lS m l n)) := by
 have h1 := fun o => wE o m l hl
 have h2 := sW n 1 100
 have h4 := fun o => An8 o m l hl
 unfold lS gT
 by_cases hs : cX m l = true
 · obtain ⟨hmd, hN⟩ := wI hs
   have h3 := fun o => Af0 o m l hl hs
   rw [hs] at h1
   rw [if_pos hs]
   by_cases h0 : l.getD 0 0 = 0
   · rw [decide_eq_true h0] at h3
     rw [if_pos h0, if_pos rfl]
     by_cases hn : bB n 1 100 = true
     · have hn2 : 1 ≤ n ∧ n ≤ 100 := by simpa [bB] using hn
       have key := fun o => Amm hmd o l.length hN (rd m l) n.toNat (by omega) (Q := n) (D0 := (l.length : Int) - 1) (by omega) rfl
       simp only [LD, ← pF hs] at key
       rw [hn] at h2
       rw [if_pos hn, cP, if_pos rfl]
       refine aU Tryz.tabOk aF Tryz.func66 rfl rfl ?_
       conv => whnf
       repeat' first | ((first | refine z0 ?_ | (apply zI; refine zP (h1 _) ?_) | (apply zI; refine zP (h3 _) ?_) | (apply zI; refine zP (h2) ?_) | (apply zI; refine zP (h4 _) ?_) | (apply zI; refine zP (key _) ?_) | refine Or.inr (zP (vX) ?_) | (refine zP (fun h => ?_) (fun h => ?_) <;> (try simp only [aB, aE, aQ, aV, aT, bC] at h) <;> first | (exfalso; first | omega | exact h trivial | (cases h; done)) | skip) | refine zS ?_ | refine zV ?_ | refine Alt.fst ?_ | refine Or.inl ?_) <;> conv => whnf) | fail
     · rw [Bool.eq_false_iff.2 hn] at h2
       rw [if_neg hn, cP, if_neg (by omega)]
       refine aU Tryz.tabOk aF Tryz.func66 rfl rfl ?_
       conv => whnf
       repeat' first | ((first | refine z0 ?_ | (apply zI; refine zP (h1 _) ?_) | (apply zI; refine zP (h3 _) ?_) | (apply zI; refine zP (h2) ?_) | (refine zP (fun h => ?_) (fun h => ?_) <;> (try simp only [aB, aE, aQ, aV, aT, bC] at h) <;> first | (exfalso; first | omega | exact h trivial | (cases h; done)) | skip) | refine Or.inl ?_) <;> conv => whnf) | fail
       all_goals first | rfl | skip
   · rw [decide_eq_false h0] at h3
     rw [if_neg h0, if_neg (by omega), cP, if_neg (by omega)]
     refine aU Tryz.tabOk aF Tryz.func66 rfl rfl ?_
     conv => whnf
     repeat' first | ((first | refine z0 ?_ | (apply zI; refine zP (h1 _) ?_) | (apply zI; refine zP (h3 _) ?_) | (refine zP (fun h => ?_) (fun h => ?_) <;> (try simp only [aB, aE, aQ, aV, aT, bC] at h) <;> first | (exfalso; first | omega | exact h trivial | (cases h; done)) | skip) | refine Or.inl ?_) <;> conv => whnf) | fail
     all_goals first | rfl | skip
 · rw [if_neg hs, if_neg (by omega), cP, if_neg (by omega)]
   rw [Bool.eq_false_iff.2 hs] at h1
   refine aU Tryz.tabOk aF Tryz.func66 rfl rfl ?_
   conv => whnf
   repeat' first | ((first | refine z0 ?_ | (apply zI; refine zP (h1 _) ?_) | (refine zP (fun h => ?_) (fun h => ?_) <;> (try simp only [aB, aE, aQ, aV, aT, bC] at h) <;> first | (exfalso; first | omega | exact h trivial | (cases h; done)) | skip) | refine zV ?_ | (apply zI; refine zP aG ?_) | refine Or.inl ?_) <;> conv => whnf) | fail
   all_goals first | rfl | skip
theorem Ab1 (o : Bool) (m : Int) (l : List Int) (hl : l.length ≤ 1048576) (X : Int) : aI Tryz.prog 68 [.agg [aA m, .list o 1 (ints l)], aA X] (cP m l.length (iH (rd m l) (Zm.mk m X)) (mE m l X)) := by
 have h1 := fun o => Afh o m l hl
 unfold mE
 by_cases hc : gT m l = 0
 · obtain ⟨hs, h0⟩ := xI hc
   obtain ⟨hm, hN⟩ := wI hs
   have hm1 := hm.1
   have hm2 := hm.2
   have h2 := yW X m (eJ (by omega) (by omega))
   rw [hc] at h1
   rw [if_pos hc]
   by_cases hX : bB X 0 (m - 1) = true
   · have hX2 : 0 ≤ X ∧ X ≤ m - 1 := by simpa [bB] using hX
     rw [hX] at h2
     rw [if_pos hX, cP, if_pos rfl]
     obtain ⟨x, rfl⟩ : ∃ x : Zm m, X = x.val := ⟨Zm.mk m X, (Zm.val_of_range ⟨hX2.1, by omega⟩).symm⟩
     rw [Zm.mk_val]
     have hdeg := fun o => A5 o m l hl
     have eL := (pF hs).symm
     generalize hNN : l.length = N at *
     generalize rd m l = A at *
     subst eL
     refine aU Tryz.tabOk aF Tryz.func68 rfl rfl ?_
     conv => whnf
     repeat' first | ((first | (apply zI; refine zP (h1 _) ?_) | (apply zI; refine zP (h2) ?_) | (apply zI; refine zP (hdeg _) ?_) | (apply zI; refine zP (mG (m := m) N (by omega) (by omega)) ?_) | (refine zP (fun h => ?_) (fun h => ?_) <;> (try simp only [aB, aE, aQ, aV, aT, bC] at h) <;> first | (exfalso; first | omega | exact h trivial | (cases h; done)) | skip) | refine zS ?_ | refine Alt.fst ?_ | refine Or.inl ?_) <;> conv => whnf) | fail
     refine aZ Tryz.tabOk aF (α := Nat) (fun i => [(33, aA i), (8, aA (pw x i).val)]) (fun i => [(6, some ⟨false, 1, ints (L N (mix i (iH A x) 0))⟩)]) (fun i => i ≤ N) (fun i => N - i) (0) ?_ ?_ ?_
     · omega
     · conv => whnf
       first | refine aH.autoR ?_ | refine aC.autoR ?_
       conv => whnf
       repeat' ((first | refine z1 ?_ | refine zP ?_ ?_ | exact trivial) <;> try (conv => whnf))
       all_goals first | rw [kU] | (rw [pw_zero]; exact (Zm.val_one (m := m) (by omega)).symm)
     intro i hi
     conv => whnf
     have hv1 := Zm.val_range hm.pos (A.c i)
     have hv2 := Zm.val_range hm.pos (pw x i)
     have hb1 := yA hm (A.c i) (pw x i)
     have hb2 := yA hm (pw x i) x
     by_cases hiN : i < N
     · repeat' first | ((first | (refine zP (fun h => ?_) (fun h => ?_) <;> (try simp only [aB, aE, aQ, aV, aT, bC] at h) <;> first | (exfalso; first | omega | exact h trivial | (cases h; done)) | skip) | refine zS ?_ | refine zV ?_ | (apply zI; refine zP aG ?_)) <;> conv => whnf) | fail
       all_goals first | (exfalso; simp only [aB, aE, aT] at *; omega) | skip
       refine Exists.intro (i + 1) (zP (by omega) (zP (by omega) ?_))
       first | refine aH.autoR ?_ | refine aC.autoR ?_
       conv => whnf
       repeat' ((first | refine z1 ?_ | refine zP ?_ ?_ | exact trivial) <;> try (conv => whnf))
       all_goals first | exact Zm.tmod_val (by omega) (by rw [Zm.mk_mul, Zm.mk_val, Zm.mk_val]; rfl) | exact congrArg ints (dX ((iH A x).c i) (Zm.tmod_val (by omega) (by simp only [Zm.mk_mul, Zm.mk_val]; rfl)) (Ag.of_eq (nS _ _ _).symm))
     · obtain rfl : i = N := by omega
       repeat' first | ((first | refine z0 ?_ | (refine zP (fun h => ?_) (fun h => ?_) <;> (try simp only [aB, aE, aQ, aV, aT, bC] at h) <;> first | (exfalso; first | omega | exact h trivial | (cases h; done)) | skip) | refine zV ?_ | (apply zI; refine zP aM ?_) | (apply zI; refine zP aG ?_)) <;> conv => whnf) | fail
       all_goals first | (exfalso; simp only [aB, aE, aT] at *; omega) | skip
       exact congrArg (fun y => D.tup [D.agg [aA m, .list true 1 (ints y)], aA 0]) (cV (fun k hk => by rw [eV, if_pos (by omega)]))
   · rw [Bool.eq_false_iff.2 hX] at h2
     rw [if_neg hX, cP, if_neg (by omega)]
     refine aU Tryz.tabOk aF Tryz.func68 rfl rfl ?_
     conv => whnf
     repeat' first | ((first | refine z0 ?_ | (apply zI; refine zP (h1 _) ?_) | (apply zI; refine zP (h2) ?_) | (refine zP (fun h => ?_) (fun h => ?_) <;> (try simp only [aB, aE, aQ, aV, aT, bC] at h) <;> first | (exfalso; first | omega | exact h trivial | (cases h; done)) | skip) | refine Or.inl ?_) <;> conv => whnf) | fail
     all_goals first | rfl | skip
 · rw [if_neg hc, cP, if_neg hc]
   generalize gT m l = c at *
   refine aU Tryz.tabOk aF Tryz.func68 rfl rfl ?_
   conv => whnf
   repeat' first | ((first | refine z0 ?_ | (apply zI; refine zP (h1 _) ?_) | (refine zP (fun h => ?_) (fun h => ?_) <;> (try simp only [aB, aE, aQ, aV, aT, bC] at h) <;> first | (exfalso; first | omega | exact h trivial | (cases h; done)) | skip) | refine zV ?_ | (apply zI; refine zP aG ?_) | refine Or.inl ?_) <;> conv => whnf) | fail
   all_goals first | rfl | skip
theorem All (o : Bool) (m : Int) (l : List Int) (hl : l.length ≤ 1048576) (X : Int) (hX0 : -9223372036854775808 ≤ m - 1 ∧ m - 1 ≤ 9223372036854775807) : aI Tryz.prog 70 [.agg [aA m, .list o 1 (ints l)], aA X] (cP m l.length (iH (rd m l) (Zm.mk m X)) (mE m l X)) := by
 have h1 := fun o => wE o m l hl
 have h2 := sW X 0 (m - 1)
 unfold mE gT
 by_cases hs : cX m l = true
 · obtain ⟨hm, hN⟩ := wI hs
   have hm1 := hm.1
   have hm2 := hm.2
   have h3 := fun o => Af0 o m l hl hs
   rw [hs] at h1
   rw [if_pos hs]
   by_cases h0 : l.getD 0 0 = 0
   · rw [decide_eq_true h0] at h3
     rw [if_pos h0, if_pos rfl]
     by_cases hX : bB X 0 (m - 1) = true
     · have hX2 : 0 ≤ X ∧ X ≤ m - 1 := by simpa [bB] using hX
       rw [hX] at h2
       rw [if_pos hX, cP, if_pos rfl]
       obtain ⟨x, rfl⟩ : ∃ x : Zm m, X = x.val := ⟨Zm.mk m X, (Zm.val_of_range ⟨hX2.1, by omega⟩).symm⟩
       rw [Zm.mk_val]
       have eL := (pF hs).symm
       generalize hNN : l.length = N at *
       generalize rd m l = A at *
       subst eL
       refine aU Tryz.tabOk aF Tryz.func70 rfl rfl ?_
       conv => whnf
       repeat' first | ((first | refine z0 ?_ | (apply zI; refine zP (h1 _) ?_) | (apply zI; refine zP (h3 _) ?_) | (apply zI; refine zP (h2) ?_) | (refine zP (fun h => ?_) (fun h => ?_) <;> (try simp only [aB, aE, aQ, aV, aT, bC] at h) <;> first | (exfalso; first | omega | exact h trivial | (cases h; done)) | skip) | refine zV ?_ | refine Or.inl ?_) <;> conv => whnf) | fail
       all_goals first | rfl | skip
       refine aZ Tryz.tabOk aF (α := Nat) (fun k => [(6, .ref 5 [] 1 0 k), (27, .undef), (8, aA k), (7, aA (pw x k).val)]) (fun k => [(5, some ⟨false, 1, ints (L k (iH A x))⟩)]) (fun k => k ≤ N) (fun k => N - k) (0) ?_ ?_ ?_
       · omega
       · conv => whnf
         first | refine aH.autoR ?_ | refine aC.autoR ?_
         conv => whnf
         repeat' ((first | refine z1 ?_ | refine zP ?_ ?_ | exact trivial) <;> try (conv => whnf))
         all_goals first | rfl | (rw [pw_zero]; exact (Zm.val_one (m := m) (by omega)).symm)
       intro k hk
       conv => whnf
       have hv1 := Zm.val_range hm.pos (A.c k)
       have hv2 := Zm.val_range hm.pos (pw x k)
       have hb1 := yA hm (A.c k) (pw x k)
       have hb2 := yA hm (pw x k) x
       by_cases hkN : k < N
       · repeat' first | ((first | (refine zP (fun h => ?_) (fun h => ?_) <;> (try simp only [aB, aE, aQ, aV, aT, bC] at h) <;> first | (exfalso; first | omega | exact h trivial | (cases h; done)) | skip) | refine zS ?_ | refine zV ?_ | (apply zI; refine zP aM ?_) | (apply zI; refine zP aG ?_)) <;> conv => whnf) | fail
         all_goals first | (exfalso; simp only [aB, aE, aT] at *; omega) | skip
         refine Exists.intro (k + 1) (zP (by omega) (zP (by omega) ?_))
         first | refine aH.autoR ?_ | refine aC.autoR ?_
         conv => whnf
         repeat' ((first | refine z1 ?_ | refine zP ?_ ?_ | exact trivial) <;> try (conv => whnf))
         all_goals first | exact Zm.tmod_val (by omega) (by rw [Zm.mk_mul, Zm.mk_val, Zm.mk_val]; rfl) | (rw [← Ae7]; exact congrArg (fun x9 => ints (L k (iH A x) ++ [x9])) (Zm.tmod_val (by omega) (by simp only [Zm.mk_mul, Zm.mk_val]; rfl)))
       · obtain rfl : k = N := by omega
         repeat' first | ((first | refine z0 ?_ | refine Or.inl (Or.inr (zP (vX) ?_)) | (refine zP (fun h => ?_) (fun h => ?_) <;> (try simp only [aB, aE, aQ, aV, aT, bC] at h) <;> first | (exfalso; first | omega | exact h trivial | (cases h; done)) | skip) | refine zV ?_ | refine Or.inl ?_) <;> conv => whnf) | fail
         all_goals first | (exfalso; simp only [aB, aE, aT] at *; omega) | rfl | skip
     · rw [Bool.eq_false_iff.2 hX] at h2
       rw [if_neg hX, cP, if_neg (by omega)]
       refine aU Tryz.tabOk aF Tryz.func70 rfl rfl ?_
       conv => whnf
       repeat' first | ((first | refine z0 ?_ | (apply zI; refine zP (h1 _) ?_) | (apply zI; refine zP (h3 _) ?_) | (apply zI; refine zP (h2) ?_) | (refine zP (fun h => ?_) (fun h => ?_) <;> (try simp only [aB, aE, aQ, aV, aT, bC] at h) <;> first | (exfalso; first | omega | exact h trivial | (cases h; done)) | skip) | refine zV ?_ | refine Or.inl ?_) <;> conv => whnf) | fail
       all_goals first | rfl | skip
   · rw [decide_eq_false h0] at h3
     rw [if_neg h0, if_neg (by omega), cP, if_neg (by omega)]
     refine aU Tryz.tabOk aF Tryz.func70 rfl rfl ?_
     conv => whnf
     repeat' first | ((first | refine z0 ?_ | (apply zI; refine zP (h1 _) ?_) | (apply zI; refine zP (h3 _) ?_) | (refine zP (fun h => ?_) (fun h => ?_) <;> (try simp only [aB, aE, aQ, aV, aT, bC] at h) <;> first | (exfalso; first | omega | exact h trivial | (cases h; done)) | skip) | refine Or.inl ?_) <;> conv => whnf) | fail
     all_goals first | rfl | skip
 · rw [if_neg hs, if_neg (by omega), cP, if_neg (by omega)]
   rw [Bool.eq_false_iff.2 hs] at h1
   refine aU Tryz.tabOk aF Tryz.func70 rfl rfl ?_
   conv => whnf
   repeat' first | ((first | refine z0 ?_ | (apply zI; refine zP (h1 _) ?_) | (refine zP (fun h => ?_) (fun h => ?_) <;> (try simp only [aB, aE, aQ, aV, aT, bC] at h) <;> first | (exfalso; first | omega | exact h trivial | (cases h; done)) | skip) | refine zV ?_ | (apply zI; refine zP aG ?_) | refine Or.inl ?_) <;> conv => whnf) | fail
   all_goals first | rfl | skip
theorem Atp (hm : Md m) (a : Zm m) (k : Nat) (hk : k ≤ 1000000000000) {A K : Int} (hA : A = a.val) (hK : K = k) : aI Tryz.prog 67 [aA m, aA A, aA K] (.tup [aA (pw a k).val, aA 0]) := by
 subst hK hA
 have hxv := Zm.val_range hm.pos a
 have h1 := fun o => Auf o m [a.val] (by simp)
 rw [show yP m [a.val] = 0 by
   unfold yP
   rw [if_pos (by simpa [bB, Md] using hm), if_pos (by simp [gR, bB]; omega)]] at h1
 have h2 := mT k 0 1000000000000
 rw [show bB (k : Int) 0 1000000000000 = true by simp [bB]; omega] at h2
 refine aU Tryz.tabOk aF Tryz.func67 rfl rfl ?_
 conv => whnf
 repeat' first | ((first | refine z0 ?_ | (apply zI; refine zP (h1 _) ?_) | (apply zI; refine zP (h2) ?_) | (apply zI; refine zP (Ara hm a k (by omega) rfl rfl) ?_) | (refine zP (fun h => ?_) (fun h => ?_) <;> (try simp only [aB, aE, aQ, aV, aT, bC] at h) <;> first | (exfalso; first | omega | exact h trivial | (cases h; done)) | skip) | refine zV ?_ | (apply zI; refine zP aM ?_) | (apply zI; refine zP aG ?_) | refine Or.inl ?_) <;> conv => whnf) | fail
theorem Ans (hm : Md m) (o : Bool) (n : Nat) (hn : 2 ≤ n ∧ n ≤ 11) (a : PS (Zm m)) (k : Nat) (hk : 2 ≤ k ∧ k ≤ n) {d : Int} (hd : d = (k : Int) - 1) : aI Tryz.prog 62 [bQ m o n a, aA d] (.tup [bQ m true k a, aA 0]) := by
 subst hd
 have h1 := fun o => wT o m (L n a) (by simp; omega)
 rw [nE hm hn a] at h1
 have h3 := mT ((k : Int) - 1) 1 ((n : Int) - 1)
 rw [show bB ((k : Int) - 1) 1 ((n : Int) - 1) = true by simp [bB]; omega] at h3
 refine aU Tryz.tabOk aF Tryz.func62 rfl rfl ?_
 conv => whnf
 have h4 := fun o => Avh o (L ((k : Int) - 1 + 1).toNat a) (by simp; omega)
 repeat' first | ((first | refine z0 ?_ | (apply zI; refine zP (h1 _) ?_) | (apply zI; refine zP (nG _ n aD _) ?_) | (apply zI; refine zP (h3) ?_) | (apply zI; refine zP (h4 _) ?_) | (refine zP (fun h => ?_) (fun h => ?_) <;> (try simp only [aB, aE, aQ, aV, aT, bC] at h) <;> first | (exfalso; first | omega | exact h trivial | (cases h; done)) | skip) | refine zS ?_ | refine zV ?_ | (apply zI; refine zP aG ?_) | refine Alt.fst ?_ | refine Or.inl ?_) <;> conv => whnf) | fail
 all_goals first | rfl | (rw [show ((k : Int) - 1 + 1).toNat = k by omega]; rfl) | (rw [show ((k : Int) - 1 + 1).toNat = k by omega])
theorem At1 (hm : Md m) (o p : Bool) (n : Nat) (hn : 2 ≤ n ∧ n ≤ 11) (f : PS (PS (Zm m))) (k : Nat) (hk : 2 ≤ k ∧ k ≤ n) {d : Int} (hd : d = (k : Int) - 1) : aI Tryz.prog 63 [dO m o p n f, aA d] (.tup [dO m true true k f, aA 0]) := by
 subst hd
 have h1 := fun o p => S9 o p m (Tb n f) (by simp; omega) (tV (by omega) f)
 rw [Adw hm hn f] at h1
 have h3 := mT ((k : Int) - 1) 1 ((n : Int) - 1)
 rw [show bB ((k : Int) - 1) 1 ((n : Int) - 1) = true by simp [bB]; omega] at h3
 have hcut := fun o p => Amd (m := m) o p n k (d := (k : Int) - 1) (by omega) hk.2 (by omega) f
 refine aU Tryz.tabOk aF Tryz.func63 rfl rfl ?_
 conv => whnf
 repeat' first | ((first | refine z0 ?_ | (apply zI; refine zP (h1 _ _) ?_) | (apply zI; refine zP (nW _ _ n aD _) ?_) | (apply zI; refine zP (h3) ?_) | (apply zI; refine zP (hcut _ _) ?_) | (refine zP (fun h => ?_) (fun h => ?_) <;> (try simp only [aB, aE, aQ, aV, aT, bC] at h) <;> first | (exfalso; first | omega | exact h trivial | (cases h; done)) | skip) | refine zV ?_ | refine Or.inl ?_) <;> conv => whnf) | fail
theorem Au7 (o : Bool) (l : List Nat) (hb : ∀ b ∈ l, b < 256) (hl : l.length ≤ 4611686018427387904) (a : Nat) (ha : a ≤ l.length) (hs : Int) (m : Int) (n : Nat) (us : List Int) (hn : 2 ≤ n ∧ n ≤ 21) (hu : n ≤ us.length ∧ us.length ≤ 21) :
   cN Tryz.prog 277 2 [.ptr 1 [] 0, .agg [aA m, .ref 2 [] 1 0 n]] [none, some (aN o l a hs), some ⟨false, 1, ints us⟩]
     (fun d rt => ∃ (vs : List Int) (a' : Nat) (h' : Int), vs.length = n ∧ a' ≤ l.length ∧ d = fG m vs ∧ rt = [none, some (aN o l a' h')]) := by
 refine dY Tryz.tabOk aF 2 _ Tryz.func277 rfl rfl ?_
 conv => whnf
 have hc0 : (0 : Int) ≤ 0 ∧ (0 : Int) < ((cnt 1 (ints (List.take n (List.drop 0 us))) : Nat) : Int) := ⟨by omega, by simp [aB]; omega⟩
 have hc1 : (0 : Int) ≤ 1 ∧ (1 : Int) < ((cnt 1 (ints (List.take n (List.drop 0 us))) : Nat) : Int) := ⟨by omega, by simp [aB]; omega⟩
 repeat' first | (refine bD [1] (cW o l hb hl a ha hs 4) (fun d rt' hd => ?_)) | ((first | (apply zI; refine zP (Ac1 _ _ (by simp; omega)) ?_) | refine zV ?_ | (apply zI; refine zP aG ?_) | refine Or.inl ?_) <;> conv => whnf) | fail
 obtain ⟨x, a2, h2, hx, ha2, rfl, rfl⟩ := hd
 refine ⟨rfl, by simp, ?_⟩
 conv => whnf
 have hx2 := hx.2 (by omega)
 repeat' first | ((first | refine z0 ?_ | refine Or.inl (Or.inr (zP (vX) ?_)) | (refine zP (fun h => ?_) (fun h => ?_) <;> (try simp only [aB, aE, aQ, aV, aT, bC] at h) <;> first | (exfalso; first | omega | exact h trivial | (cases h; done)) | skip) | refine zV ?_ | (apply zI; refine zP aG ?_) | refine Or.inl ?_) <;> conv => whnf) | fail
 · first
     | (refine ⟨fG m (((List.take n (List.drop 0 us)).set 0 0).set 1 1), [none, some (aN o l a2 h2)], ⟨((List.take n (List.drop 0 us)).set 0 0).set 1 1, a2, h2, (by simp only [List.length_set, List.length_take, List.length_drop]; omega), ha2, rfl, rfl⟩, aC.trans (aC.freezeR (kp := 2) (r := 5) (s0 := 1) (env' := [fG m (((List.take n (List.drop 0 us)).set 0 0).set 1 1)]) rfl rfl (jR (E4 (by simp [aB]) (by simp only [List.drop_zero]; rw [List.take_of_length_le (by simp [aB])])))) (eC (kp := 2) [none, some 1])⟩)
 · first
     | (refine ⟨fG m ((List.take n (List.drop 0 us)).set 0 0), [none, some (aN o l a2 h2)], ⟨(List.take n (List.drop 0 us)).set 0 0, a2, h2, (by simp only [List.length_set, List.length_take, List.length_drop]; omega), ha2, rfl, rfl⟩, aC.trans (aC.freezeR (kp := 2) (r := 5) (s0 := 1) (env' := [fG m ((List.take n (List.drop 0 us)).set 0 0)]) rfl rfl (jR (E4 (by simp [aB]) (by simp only [List.drop_zero]; rw [List.take_of_length_le (by simp [aB])])))) (eC (kp := 2) [none, some 1])⟩)
theorem Aie (o : Bool) (l : List Nat) (hb : ∀ b ∈ l, b < 256) (hl : l.length ≤ 4611686018427387904) (a : Nat) (ha : a ≤ l.length) (hs : Int) :
   cN Tryz.prog 182 2 [.ptr 1 [] 0] [none, some (aN o l a hs)]
     (fun d rt => ∃ (m : Int) (us : List Int) (a' : Nat) (h' : Int), (0 ≤ m ∧ m ≤ 10001) ∧ (1 ≤ us.length ∧ us.length ≤ 21) ∧ a' ≤ l.length ∧ d = fG m us ∧ rt = [none, some (aN o l a' h')]) := by
 refine dY Tryz.tabOk aF 2 _ Tryz.func182 rfl rfl ?_
 conv => whnf
 repeat' first | (refine bD [1] (Aur o l hb hl a ha hs) (fun d rt' hd => ?_)) | fail
 obtain ⟨m, n, us, a1, h1, hm, hn, hu, ha1, rfl, rfl⟩ := hd
 refine ⟨rfl, by simp, ?_⟩
 conv => whnf
 by_cases hn1 : 1 < n
 · repeat' first | (refine bD [1] (cW o l hb hl a1 ha1 h1 10) (fun d rt' hd => ?_)) | ((first | (refine zP (fun h => ?_) (fun h => ?_) <;> (try simp only [aB, aE, aQ, aV, aT, bC] at h) <;> first | (exfalso; first | omega | exact h trivial | (cases h; done)) | skip)) <;> conv => whnf) | fail
   obtain ⟨x, a2, h2, hx, ha2, rfl, rfl⟩ := hd
   refine ⟨rfl, by simp, ?_⟩
   conv => whnf
   have hx2 := hx.2 (by omega)
   repeat' first | (refine bD [1, 3] (Au7 o l hb hl a2 ha2 h2 m n us (by omega) (by omega)) (fun d rt' hd => ?_)) | ((first | refine z0 ?_ | (refine zP (fun h => ?_) (fun h => ?_) <;> (try simp only [aB, aE, aQ, aV, aT, bC] at h) <;> first | (exfalso; first | omega | exact h trivial | (cases h; done)) | skip)) <;> conv => whnf) | fail
   · obtain ⟨vs, a3, h3, hv, ha3, rfl, rfl⟩ := hd
     refine ⟨rfl, by simp, ?_⟩
     conv => whnf
     repeat' first | ((first | refine z0 ?_ | refine zP (show (_ : List (Option Root))[_]? = _ from rfl) ?_ | (refine zP (fun h => ?_) (fun h => ?_) <;> (try simp only [aB, aE, aQ, aV, aT, bC] at h) <;> first | (exfalso; first | omega | exact h trivial | (cases h; done)) | skip) | refine zV ?_ | (apply zI; refine zP aM ?_) | (apply zI; refine zP aG ?_)) <;> conv => whnf) | fail
     refine ⟨fG m vs, [none, some (aN o l a3 h3)], ⟨m, vs, a3, h3, hm, by omega, ha3, rfl, rfl⟩, aC.of (kp := 2) [none, some 1] ?_⟩
     conv => whnf
     repeat' ((first | refine z1 ?_ | exact trivial) <;> try (conv => whnf))
   · first
       | (refine ⟨fG m (us.take n), [none, some (aN o l a2 h2)], ⟨m, us.take n, a2, h2, hm, by simp; omega, ha2, rfl, rfl⟩, aC.trans (aC.freezeR (kp := 2) (r := 3) (s0 := 1) (env' := [fG m (us.take n)]) rfl rfl (jR (E4 (by omega) (by simp)))) (eC (kp := 2) [none, some 1])⟩)
 · repeat' first | ((first | refine z0 ?_ | refine zP (show (_ : List (Option Root))[_]? = _ from rfl) ?_ | (refine zP (fun h => ?_) (fun h => ?_) <;> (try simp only [aB, aE, aQ, aV, aT, bC] at h) <;> first | (exfalso; first | omega | exact h trivial | (cases h; done)) | skip) | refine zV ?_ | (apply zI; refine zP aM ?_) | (apply zI; refine zP aG ?_)) <;> conv => whnf) | fail
   first
     | (refine ⟨fG m (us.take n), [none, some (aN o l a1 h1)], ⟨m, us.take n, a1, h1, hm, by simp; omega, ha1, rfl, rfl⟩, aC.trans (aC.freezeR (kp := 2) (r := 3) (s0 := 1) (env' := [fG m (us.take n)]) rfl rfl (jR (E4 (by omega) (by simp)))) (eC (kp := 2) [none, some 1])⟩)
theorem Auq (o : Bool) (l : List Nat) (hb : ∀ b ∈ l, b < 256) (hl : l.length ≤ 4611686018427387904) :
   cN Tryz.prog 65 1 [.list o 1 (fL l)] [none]
     (fun d rt => ∃ (m : Int) (us : List Int) (n : Int), (0 ≤ m ∧ m ≤ 10001) ∧ us.length ≤ 21 ∧ (0 ≤ n ∧ n ≤ 101) ∧ d = .tup [fG m us, aA n] ∧ rt = [none]) := by
 refine dY Tryz.tabOk aF 1 _ Tryz.func65 rfl rfl ?_
 conv => whnf
 repeat' first | (refine bD [] (xG o l hb hl) (fun d rt' hd => ?_)) | fail
 obtain ⟨h0, rfl, rfl⟩ := hd
 refine ⟨rfl, by simp, ?_⟩
 conv => whnf
 repeat' first | (refine bD [2] (Aie o l hb hl 0 (by omega) h0) (fun d rt' hd => ?_)) | fail
 obtain ⟨m, us, a1, h1, hm, hu, ha1, rfl, rfl⟩ := hd
 refine ⟨rfl, by simp, ?_⟩
 conv => whnf
 repeat' first | (refine bD [2] (cW o l hb hl a1 ha1 h1 4) (fun d rt' hd => ?_)) | fail
 obtain ⟨x, a2, h2, hx, ha2, rfl, rfl⟩ := hd
 refine ⟨rfl, by simp, ?_⟩
 conv => whnf
 have hx2 := hx.2 (by omega)
 repeat' first | (refine bD [2] (cW o l hb hl a2 ha2 h2 12) (fun d rt' hd => ?_)) | ((first | refine zV ?_) <;> conv => whnf) | fail
 obtain ⟨y, a3, h3, hy, ha3, rfl, rfl⟩ := hd
 refine ⟨rfl, by simp, ?_⟩
 conv => whnf
 have hy2 := hy.2 (by omega)
 repeat' first | (refine bD [2, 3] (jM o l hb hl a3 ha3 h3 [1 + x, 1 + y, 100, 101, 0] (by simp)) (fun d rt' hd => ?_)) | ((first | refine zV ?_) <;> conv => whnf) | fail
 obtain ⟨v, a4, h4, hv, ha4, rfl, rfl⟩ := hd
 refine ⟨rfl, by simp, ?_⟩
 conv => whnf
 have hv2 : 0 ≤ v ∧ v ≤ 101 := by
   simp only [List.mem_cons, List.not_mem_nil, or_false] at hv
   omega
 repeat' first | ((first | refine z0 ?_ | refine zP (show (_ : List (Option Root))[_]? = _ from rfl) ?_) <;> conv => whnf) | fail
 refine ⟨.tup [fG m us, aA v], [none], ⟨m, us, v, hm, by omega, hv2, rfl, rfl⟩, aC.of (kp := 1) [none] ?_⟩
 conv => whnf
 repeat' ((first | refine z1 ?_ | exact trivial) <;> try (conv => whnf))
theorem Apr (o : Bool) (l : List Nat) (hb : ∀ b ∈ l, b < 256) (hl : l.length ≤ 4611686018427387904) :
   cN Tryz.prog 69 1 [.list o 1 (fL l)] [none]
     (fun d rt => ∃ (m : Int) (us : List Int) (n : Int), (0 ≤ m ∧ m ≤ 10001) ∧ us.length ≤ 21 ∧ (-4611686018427387904 ≤ n ∧ n ≤ 1099511627776) ∧ d = .tup [fG m us, aA n] ∧ rt = [none]) := by
 refine dY Tryz.tabOk aF 1 _ Tryz.func69 rfl rfl ?_
 conv => whnf
 repeat' first | (refine bD [] (xG o l hb hl) (fun d rt' hd => ?_)) | fail
 obtain ⟨h0, rfl, rfl⟩ := hd
 refine ⟨rfl, by simp, ?_⟩
 conv => whnf
 repeat' first | (refine bD [2] (Aie o l hb hl 0 (by omega) h0) (fun d rt' hd => ?_)) | fail
 obtain ⟨m, us, a1, h1, hm, hu, ha1, rfl, rfl⟩ := hd
 refine ⟨rfl, by simp, ?_⟩
 conv => whnf
 repeat' first | (refine bD [2] (Awl o l hb hl a1 ha1 h1 m (by omega)) (fun d rt' hd => ?_)) | ((first | refine Alt.snd (zP (show oC _ _ = true by decide +kernel) ?_) | refine zS ?_) <;> conv => whnf) | fail
 obtain ⟨x, a2, h2, hx, ha2, rfl, rfl⟩ := hd
 refine ⟨rfl, by simp, ?_⟩
 conv => whnf
 repeat' first | ((first | refine z0 ?_ | refine zP (show (_ : List (Option Root))[_]? = _ from rfl) ?_) <;> conv => whnf) | fail
 refine ⟨.tup [fG m us, aA x], [none], ⟨m, us, x, hm, by omega, hx, rfl, rfl⟩, aC.of (kp := 1) [none] ?_⟩
 conv => whnf
 repeat' ((first | refine z1 ?_ | exact trivial) <;> try (conv => whnf))
set_option maxHeartbeats 40000000
theorem Aqp {m : Int} {t : List (List Int)} (hA : dN m t = true) {a : PS (Zm m)} (h0 : a.c 0 = 0) : eS m t m (L t.length a) = 0 := by
 obtain ⟨⟨hmd, hn⟩, eT, hL⟩ := F8 hA
 unfold eS
 rw [if_pos hA, if_pos (nE hmd hn _), if_pos]
 simp only [jK, decide_true, Bool.true_and, aT]
 rw [lA _ (by omega), h0]; simp [Zm.val_zero]
theorem Aft {m : Int} {t : List (List Int)} (hA : dN m t = true) {a : PS (Zm m)} (h0 : a.c 0 = 0) {n : Nat} (hn : 2 ≤ n ∧ n ≤ 5) (hnt : n < t.length) : opC m t m (L t.length a) n = 0 := by
 unfold opC
 rw [if_pos (Aqp hA h0), if_pos (by simp [bB]; omega), if_neg (by omega)]
theorem Aj3 {m : Int} {t : List (List Int)} {ma : Int} {l : List Int} {n : Int} (h : opC m t ma l n = 0) : n < t.length := by
 unfold opC at h
 split at h
 · split at h
   · split at h
     · omega
     · omega
   · omega
 · omega
theorem Akh {m : Int} {t : List (List Int)} (hA : dN m t = true) {K : Nat} (h2 : 2 ≤ K) (h : K ≤ t.length) : dN m (Tb K (cM m t)) = true := by
 obtain ⟨⟨hm, hn⟩, eT, hL⟩ := F8 hA
 have L := (Ago hn.1 hL).le h2 h
 exact Am1 hm ⟨h2, by omega⟩ ⟨fun i hi => hL.1 i (by omega), L.sym, fun p q k h => L.as p q k h⟩
theorem Ah4 {m : Int} {t : List (List Int)} {N : Nat} (hN : t.length = N) (a : PS (Zm m)) (n : Nat) {i : Nat} (hi : i * n < N) : (pA m t (L N a) n).c i = (cK N n (cM m t) a).c i := by
 subst hN
 exact Akj n (cM m t) (N4 t.length a) hi
theorem Al7 {f : PS (PS (Zm m))} {N n q : Nat} (hm : 0 < m) (hN : N ≤ 11) (hn : 2 ≤ n ∧ n ≤ 5) (L : LwN f N) (hq : 1 ≤ q ∧ q * n < N) {a r : PS (Zm m)} (ha : a.c 0 = 0) (hr : nB f (q + 1) n a r) : Ag (q + 1) (cK N n f (eA a n)) r := fun i hi => by
 have hqn : q + 1 ≤ N := by
   have := Nat.le_mul_of_pos_right q (show 0 < n by omega)
   omega
 have hL2 : LwN f (q + 1) := L.le (by omega) hqn
 have hin : i * n < N := Nat.lt_of_le_of_lt (Nat.mul_le_mul_right n (by omega : i ≤ q)) hq.2
 obtain ⟨h1, h2⟩ := Anx hL2 hr ha
 obtain ⟨h3, h4⟩ := H6 hL2 ha n
 rw [← yF (by omega), Ar6 hm hN hn L ha hin, (Aai hqn L.z0 ha n).1 i hi, ← h3 i hi, ← hH h2 i hi, h1]
 rfl
theorem Arf {f : PS (PS (Zm m))} {N n q : Nat} (hm : 0 < m) (hN : N ≤ 11) (hn : 2 ≤ n ∧ n ≤ 5) (L : LwN f N) (hq : 1 ≤ q ∧ q * n < N) {a : PS (Zm m)} (ha : a.c 0 = 0) : Ag (q + 1) (cK N n f (cT f a a N)) (cT f (cK N n f a) (cK N n f a) (q + 1)) := fun i hi => by
 have hqn : q + 1 ≤ N := by
   have := Nat.le_mul_of_pos_right q (show 0 < n by omega)
   omega
 have hin : i * n < N := Nat.lt_of_le_of_lt (Nat.mul_le_mul_right n (by omega : i ≤ q)) hq.2
 have h0 := Af8 hm hN hn L ha
 rw [sA, sA, Akx hm hN hn L ha ha hin, zD hqn f h0 h0 i hi]
theorem Ao7 (a : PS (Zm m)) (x : Zm m) {k : Nat} (hk : 1 ≤ k) : iH (eA a k) x = eA (iH a (pw x k)) k := PS.ext (fun j => by
 show (if j % k = 0 then a.c (j / k) else 0) * pw x j = if j % k = 0 then a.c (j / k) * pw (pw x k) (j / k) else 0
 by_cases h : j % k = 0
 · rw [if_pos h, if_pos h]
   have e := Nat.div_add_mod j k
   rw [h, Nat.add_zero] at e
   rw [J1, e]
 · rw [if_neg h, if_neg h, Go.Fg.zero_mul])
theorem Arm (a : PS (Zm m)) {n k : Nat} (hn : 1 ≤ n) (hk : 1 ≤ k) : eA (eA a k) n = eA a (k * n) := by
 rw [← yF hn, ← yF hk, Aql hn hk, yF (Nat.mul_pos (by omega) (by omega))]
theorem Alz {N n : Nat} (hn : 1 ≤ n) {a b : PS (Zm m)} (h : Ag N a b) : Ag N (eA a n) (eA b n) := fun j hj => by
 show (if _ then _ else _) = (if _ then _ else _)
 have := Nat.div_le_self j n
 rw [h (j / n) (by omega)]
theorem Au6 {N : Nat} (x : Zm m) {a b : PS (Zm m)} (h : Ag N a b) : Ag N (iH a x) (iH b x) := fun j hj => by
 show _ * _ = _ * _
 rw [h j hj]
theorem L_0 {Z : PS (Zm m)} {N : Nat} (hN : 2 ≤ N) (h0 : Z.c 0 = 0) : (L N Z).getD 0 0 = 0 := by
 rw [lA _ (by omega), h0]; exact Zm.val_zero
theorem Agy (hm : Md m) {N : Nat} (hN : 2 ≤ N ∧ N ≤ 11) {Z : PS (Zm m)} (h0 : Z.c 0 = 0) (x : Zm m) (o : Bool) : aI Tryz.prog 68 [.agg [aA m, .list o 1 (ints (L N Z))], aA x.val] (.tup [.agg [aA m, .list true 1 (ints (L N (iH Z x)))], aA 0]) := by
 have hx := Zm.val_range hm.pos x
 have h := Ab1 o m (L N Z) (by simp; omega) x.val
 have hc : mE m (L N Z) x.val = 0 := by
   unfold mE gT
   rw [if_pos (nE hm hN Z), if_pos (L_0 hN.1 h0), if_pos rfl, if_pos (by simp [bB]; omega)]
 rw [cP, if_pos hc, aT, Zm.mk_val, bQ, cV (Au6 x (N4 N Z))] at h
 exact h
theorem U4 (hm : Md m) {N : Nat} (hN : 2 ≤ N ∧ N ≤ 11) {Z : PS (Zm m)} (h0 : Z.c 0 = 0) (n : Nat) (hn : 1 ≤ n ∧ n ≤ 100) {K : Int} (hK : K = n) (o : Bool) : aI Tryz.prog 61 [.agg [aA m, .list o 1 (ints (L N Z))], aA K] (.tup [.agg [aA m, .list true 1 (ints (L N (eA Z n)))], aA 0]) := by
 subst hK
 have h := J3 o m (L N Z) (by simp; omega) n
 rw [cP, if_pos (Acb (nE hm hN Z) (L_0 hN.1 h0) (by omega) (by omega)), aT, Int.toNat_natCast, bQ, cV (Alz (by omega) (N4 N Z))] at h
 exact h
theorem N3 (hW : Wei) (l : List Nat) (hb : ∀ b ∈ l, b < 256) (hl : l.length ≤ 9223372036854775807) (h0 : ¬ 4096 < l.length) : fC Tryz.prog 0 Tryz.f6 17 (C0 Tryz.tab Tryz.f6 (bH true)) (Af7 Tryz.f6.ntmps [(0, .list false 1 (fL l))] []) := by
 refine Apm Tryz.tabOk aF _ 17 ?_
 conv => whnf
 repeat' first | (refine bD [] (Apr false l hb (by omega)) (fun d rt' hd => ?_)) | fail
 obtain ⟨m, la, x, hm, hla, hx, rfl, rfl⟩ := hd
 refine ⟨rfl, by simp, ?_⟩
 conv => whnf
 have g1 := fun o => Ab1 o m la (by omega) x
 have g2 := fun o => All o m la (by omega) x (by omega)
 by_cases hc : mE m la x = 0
 · rw [cP, if_pos hc] at g1 g2
   generalize iH (rd m la) (Zm.mk m x) = Z at *
   repeat' first | ((first | refine z0 ?_ | (apply zI; refine zP (g1 _) ?_) | (apply zI; refine zP (g2 _) ?_) | (apply zI; refine zP (vT _ _ _ _ _ _ (by first | omega | (simp; omega)) (by first | omega | (simp; omega))) ?_) | (refine zP (fun h => ?_) (fun h => ?_) <;> (try simp only [aB, aE, aQ, aV, aT, bC] at h) <;> first | (exfalso; first | omega | exact h trivial | (cases h; done)) | skip) | refine zV ?_ | (apply zI; refine zP aG ?_) | refine Or.inl ?_) <;> conv => whnf) | fail
   all_goals (refine cD ?_; first | rfl | (simp_all []; done) | (simp_all []; omega) | (simp_all []; intros; omega))
 · rw [cP, if_neg hc] at g1 g2
   generalize mE m la x = c at *
   repeat' first | ((first | refine z0 ?_ | (apply zI; refine zP (g1 _) ?_) | (apply zI; refine zP (g2 _) ?_) | (apply zI; refine zP (H5) ?_) | (refine zP (fun h => ?_) (fun h => ?_) <;> (try simp only [aB, aE, aQ, aV, aT, bC] at h) <;> first | (exfalso; first | omega | exact h trivial | (cases h; done)) | skip) | refine Or.inl ?_) <;> conv => whnf) | fail
theorem Z9 (hW : Wei) (l : List Nat) (hb : ∀ b ∈ l, b < 256) (hl : l.length ≤ 9223372036854775807) (h0 : ¬ 4096 < l.length) : fC Tryz.prog 0 Tryz.f6 10 (C0 Tryz.tab Tryz.f6 (bH true)) (Af7 Tryz.f6.ntmps [(0, .list false 1 (fL l))] []) := by
 refine T4 Tryz.tabOk aF _ 10 7 ?_
 conv => whnf
 repeat' first | (refine bD [] (Auq false l hb (by omega)) (fun d rt' hd => ?_)) | fail
 obtain ⟨m, la, k, hm, hla, hk, rfl, rfl⟩ := hd
 refine ⟨rfl, by simp, ?_⟩
 conv => whnf
 have g1 := fun o => J3 o m la (by omega) k
 have g2 := fun o => Arj o m la (by omega) k
 by_cases hc : lS m la k = 0
 · obtain ⟨hs, h00, hk2⟩ := Avt hc
   obtain ⟨hmd, hN⟩ := wI hs
   rw [cP, if_pos hc] at g1 g2
   obtain ⟨k', rfl⟩ : ∃ k' : Nat, k = k' := ⟨k.toNat, by omega⟩
   simp only [Int.toNat_natCast] at g1 g2
   by_cases hk3 : k' ≤ 30
   · have eL := (pF hs).symm
     have ha0 : (rd m la).c 0 = 0 := by rw [rd_c, h00]; rfl
     have hz0 : (eA (rd m la) k').c 0 = 0 := by
       show (if 0 % k' = 0 then (rd m la).c (0 / k') else 0) = 0
       rw [if_pos (Nat.zero_mod _), Nat.zero_div, ha0]
     repeat' first | (refine bD [] (Ama false l hb (by omega) 963) (fun d rt' hd => ?_)) | ((first | (apply zI; refine zP (g1 _) ?_) | (apply zI; refine zP (g2 _) ?_) | (apply zI; refine zP (vT _ _ _ _ _ _ (by first | omega | (simp; omega)) (by first | omega | (simp; omega))) ?_) | (refine zP (fun h => ?_) (fun h => ?_) <;> (try simp only [aB, aE, aQ, aV, aT, bC] at h) <;> first | (exfalso; first | omega | exact h trivial | (cases h; done)) | skip) | refine zV ?_ | (apply zI; refine zP aG ?_) | refine Or.inl ?_) <;> conv => whnf) | fail
     obtain ⟨h9, rfl, rfl⟩ := hd
     refine ⟨rfl, by simp, ?_⟩
     conv => whnf
     repeat' first | (refine bD [10] (Aog false l hb (by omega) 0 (by omega) h9 m) (fun d rt' hd => ?_)) | fail
     obtain ⟨x, a1, h1, hx, ha1, rfl, rfl⟩ := hd
     refine ⟨rfl, by simp, ?_⟩
     conv => whnf
     have hx2 := hx.2 (by have := hmd.1; omega)
     obtain ⟨X, rfl⟩ : ∃ X : Zm m, x = X.val := ⟨Zm.mk m x, (Zm.val_of_range ⟨hx2.1, by omega⟩).symm⟩
     have hZ1 : (iH (rd m la) (pw X k')).c 0 = 0 := by
       show (rd m la).c 0 * _ = 0
       rw [ha0, Go.Fg.zero_mul]
     have v1 := Atp hmd X k' (by omega) rfl rfl
     have v2 := Agy hmd hN hz0 X
     have v3 := Agy hmd hN ha0 (pw X k')
     have v4 := U4 hmd hN hZ1 k' (by omega) rfl
     have v5 := U4 hmd hN hz0 3 (by omega) rfl
     have v6 := U4 hmd hN ha0 (3 * k') (by omega) (K := 3 * (k' : Int)) (by omega)
     rw [Ao7 _ _ (by omega : 1 ≤ k')] at v2
     rw [Arm _ (by omega : 1 ≤ 3) (by omega : 1 ≤ k'), Nat.mul_comm k' 3] at v5
     rw [eL] at v3 v6
     generalize hZZ : L la.length (eA (rd m la) k') = D1 at *
     generalize hYY : L la.length (eA (iH (rd m la) (pw X k')) k') = D2 at *
     generalize hXX : L la.length (eA (rd m la) (3 * k')) = D3 at *
     have hl1 : D1.length = la.length := by rw [← hZZ]; simp
     have hl2 : D2.length = la.length := by rw [← hYY]; simp
     have hl3 : D3.length = la.length := by rw [← hXX]; simp
     repeat' first | ((first | (apply zI; refine zP (v1) ?_) | (apply zI; refine zP (v2 _) ?_) | (apply zI; refine zP (v3 _) ?_) | (apply zI; refine zP (v4 _) ?_) | (apply zI; refine zP (v5 _) ?_) | (apply zI; refine zP (v6 _) ?_) | (apply zI; refine zP (vT _ _ _ _ _ _ (by first | omega | (simp; omega)) (by first | omega | (simp; omega))) ?_) | (refine zP (fun h => ?_) (fun h => ?_) <;> (try simp only [aB, aE, aQ, aV, aT, bC] at h) <;> first | (exfalso; first | omega | exact h trivial | (cases h; done)) | skip) | refine zV ?_ | (apply zI; refine zP aG ?_) | refine Or.inl ?_) <;> conv => whnf) | fail
     all_goals first | (refine fC.weak (N3 hW l hb hl h0) (eC (kp := 0) []))
   · repeat' first | ((first | refine z0 ?_ | (apply zI; refine zP (g1 _) ?_) | (apply zI; refine zP (g2 _) ?_) | (apply zI; refine zP (vT _ _ _ _ _ _ (by first | omega | (simp; omega)) (by first | omega | (simp; omega))) ?_) | (refine zP (fun h => ?_) (fun h => ?_) <;> (try simp only [aB, aE, aQ, aV, aT, bC] at h) <;> first | (exfalso; first | omega | exact h trivial | (cases h; done)) | skip) | refine zV ?_ | (apply zI; refine zP aG ?_) | refine Or.inl ?_) <;> conv => whnf) | fail
     all_goals first | (refine fC.weak (N3 hW l hb hl h0) (eC (kp := 0) []))
 · rw [cP, if_neg hc] at g1 g2
   generalize lS m la k = c at *
   repeat' first | ((first | refine z0 ?_ | (apply zI; refine zP (g1 _) ?_) | (apply zI; refine zP (g2 _) ?_) | (apply zI; refine zP (H5) ?_) | (refine zP (fun h => ?_) (fun h => ?_) <;> (try simp only [aB, aE, aQ, aV, aT, bC] at h) <;> first | (exfalso; first | omega | exact h trivial | (cases h; done)) | skip) | refine Or.inl ?_) <;> conv => whnf) | fail
   all_goals first | (refine fC.weak (N3 hW l hb hl h0) (eC (kp := 0) []))
theorem Avz (hW : Wei) (l : List Nat) (hb : ∀ b ∈ l, b < 256) (hl : l.length ≤ 9223372036854775807) : aI Tryz.prog 6 [.list false 1 (fL l)] (bH true) := by
 have hbig := Aks false l hl
 by_cases h0 : 4096 < l.length
 · rw [show decide (4096 < l.length) = true by simp [h0]] at hbig
   refine Abe Tryz.f6 Tryz.func6 rfl rfl Tryz.tabOk ?_
   refine T4 Tryz.tabOk aF _ 0 10 ?_
   conv => whnf
   repeat' first | ((first | refine z0 ?_ | (apply zI; refine zP (hbig) ?_) | (refine zP (fun h => ?_) (fun h => ?_) <;> (try simp only [aB, aE, aQ, aV, aT, bC] at h) <;> first | (exfalso; first | omega | exact h trivial | (cases h; done)) | skip) | refine Or.inl ?_) <;> conv => whnf) | fail
 · rw [show decide (4096 < l.length) = false by simp [h0]] at hbig
   refine Abe Tryz.f6 Tryz.func6 rfl rfl Tryz.tabOk ?_
   refine T4 Tryz.tabOk aF _ 0 10 ?_
   conv => whnf
   repeat' first | (refine bD [] (At9 hW false l hb (by omega)) (fun d rt' hd => ?_)) | ((first | (apply zI; refine zP (hbig) ?_) | (refine zP (fun h => ?_) (fun h => ?_) <;> (try simp only [aB, aE, aQ, aV, aT, bC] at h) <;> first | (exfalso; first | omega | exact h trivial | (cases h; done)) | skip) | refine Or.inl ?_) <;> conv => whnf) | fail
   obtain ⟨m, t, ma, la, n, ⟨hm, ht⟩, hla, hn, rfl, rfl⟩ := hd
   refine ⟨rfl, by simp, ?_⟩
   conv => whnf
   have s1 := Atg ht
   have htl := ht.1
   have g1 := fun o p o1 => R7 o p o1 m t ma la n s1.1 s1.2 (by omega)
   have g2 := fun o p o1 => At2 o p o1 m t ma la n s1.1 s1.2 (by omega)
   by_cases hc : opC m t ma la n = 0
   · obtain ⟨hcu, hn2⟩ := E8 hc
     have hnt := Aj3 hc
     obtain ⟨hA, hB2, rfl, hC, hD⟩ := Avx hcu
     obtain ⟨⟨hmd, hN⟩, eT, hL⟩ := F8 hA
     have hLw := Ago hN.1 hL
     have eL := (pF hB2).symm
     rw [← hC] at eL
     have hD2 : (rd m la).c 0 = 0 := by rw [rd_c, hD]; rfl
     obtain ⟨n', rfl⟩ : ∃ n' : Nat, n = n' := ⟨n.toNat, by omega⟩
     have hq := Nat.div_mul_le_self (t.length - 1) n'
     have hq1 : 1 ≤ (t.length - 1) / n' := (Nat.one_le_div_iff (by omega)).2 (by omega)
     rw [cP, if_pos hc] at g1 g2
     simp only [Int.toNat_natCast] at g1 g2
     obtain ⟨q, hqq⟩ : ∃ q, q = (t.length - 1) / n' := ⟨_, rfl⟩
     rw [← hqq] at g1 g2 hq hq1
     have hq10 : q ≤ 10 := by
       have := Nat.le_mul_of_pos_right q (show 0 < n' by omega)
       omega
     have hm0 : 0 < m := hmd.pos
     have hqn : q + 1 ≤ t.length := by
       have := Nat.le_mul_of_pos_right q (show 0 < n' by omega)
       omega
     have eFr : pA m t la n' = cK t.length n' (cM m t) (rd m la) := rfl
     rw [eFr] at g1 g2
     have hb0 := Af8 hm0 hN.2 (by omega : 2 ≤ n' ∧ n' ≤ 5) hLw hD2
     have hs0 : (eA (rd m la) n').c 0 = 0 := by
       show (if 0 % n' = 0 then (rd m la).c (0 / n') else 0) = 0
       rw [if_pos (Nat.zero_mod _), Nat.zero_div, hD2]
     have hp0 : (cT (cM m t) (rd m la) (rd m la) t.length).c 0 = 0 := yO hLw.z0 hD2 hD2
     obtain ⟨r, hr⟩ := Aqw (cM m t) (q + 1) n' (rd m la)
     have e1 : L (q + 1) (pA m t (L t.length (eA (rd m la) n')) n') = L (q + 1) r := cV (fun i hi => by
       have hin : i * n' < t.length := Nat.lt_of_le_of_lt (Nat.mul_le_mul_right n' (by omega : i ≤ q)) (by omega)
       rw [Ah4 rfl _ _ hin, Al7 hm0 hN.2 (by omega) hLw ⟨hq1, by omega⟩ hD2 hr i hi])
     have e2 : L (q + 1) (pA m t (L t.length (cT (cM m t) (rd m la) (rd m la) t.length)) n') = L (q + 1) (cT (cM m t) (cK t.length n' (cM m t) (rd m la)) (cK t.length n' (cM m t) (rd m la)) (q + 1)) := cV (fun i hi => by
       have hin : i * n' < t.length := Nat.lt_of_le_of_lt (Nat.mul_le_mul_right n' (by omega : i ≤ q)) (by omega)
       rw [Ah4 rfl _ _ hin, Arf hm0 hN.2 (by omega) hLw ⟨hq1, by omega⟩ hD2 i hi])
     have g3 := fun o => J3 o m la (by omega) n'
     rw [cP, if_pos (Acb hB2 (by rw [hD]) (by omega) (by omega)), Int.toNat_natCast, ← hC] at g3
     have g4 := fun o p o1 => R7 o p o1 m t m (L t.length (eA (rd m la) n')) n' s1.1 s1.2 (by simp; omega)
     rw [cP, if_pos (Aft hA hs0 (by omega) (by omega)), Int.toNat_natCast, ← hqq, bQ, e1] at g4
     have g5 := fun o => Ans hmd o t.length hN (rd m la) (q + 1) (by omega) (d := (q : Int)) (by omega)
     have g6 := fun o p => At1 hmd o p t.length hN (cM m t) (q + 1) (by omega) (d := (q : Int)) (by omega)
     have hL3 := Akh hA (K := q + 1) (by omega) hqn
     have g7 := fun o p o1 => Aju hmd o p o1 (q + 1) (by omega) (cM m t) hL3 (rd m la) hD2 n' (by omega) r hr
     have g8 := fun o p o1 o3 => Ag7 hmd o p o1 o3 t.length hN (cM m t) (by rw [eT]; exact hA) (rd m la) (rd m la) hD2 hD2
     have g9 := fun o p o1 => R7 o p o1 m t m (L t.length (cT (cM m t) (rd m la) (rd m la) t.length)) n' s1.1 s1.2 (by simp; omega)
     rw [cP, if_pos (Aft hA hp0 (by omega) (by omega)), Int.toNat_natCast, ← hqq, bQ, e2] at g9
     have g10 := fun o p o1 o3 => Ag7 hmd o p o1 o3 (q + 1) (by omega) (cM m t) hL3 (cK t.length n' (cM m t) (rd m la)) (cK t.length n' (cM m t) (rd m la)) hb0 hb0
     simp only [bQ, dO, eT, eL] at g1 g2 g3 g4 g5 g6 g7 g8 g9 g10
     generalize hB1 : L (q + 1) (cK t.length n' (cM m t) (rd m la)) = B1 at *
     generalize hB2 : L t.length (eA (rd m la) n') = B2 at *
     generalize hB3 : L t.length (cT (cM m t) (rd m la) (rd m la) t.length) = B3 at *
     generalize hB4 : L (q + 1) (cT (cM m t) (cK t.length n' (cM m t) (rd m la)) (cK t.length n' (cM m t) (rd m la)) (q + 1)) = B4 at *
     generalize hB5 : L (q + 1) r = B5 at *
     generalize hB6 : L (q + 1) (rd m la) = B6 at *
     generalize hT1 : Tb (q + 1) (cM m t) = T1 at *
     have l1 : B1.length = q + 1 := by rw [← hB1]; simp
     have l2 : B2.length = t.length := by rw [← hB2]; simp
     have l3 : B3.length = t.length := by rw [← hB3]; simp
     have l4 : B4.length = q + 1 := by rw [← hB4]; simp
     have l5 : B5.length = q + 1 := by rw [← hB5]; simp
     have l6 : B6.length = q + 1 := by rw [← hB6]; simp
     have hcq : ((cnt 1 (ints B1) : Nat) : Int) - 1 = q := by rw [aB, aE, l1]; omega
     rw [← hcq] at g5 g6
     clear e1 e2 eFr hcq hB1 hB2 hB3 hB4 hB5 hB6 hT1 hr hb0 hs0 hp0 hL3
     repeat' first | ((first | (apply zI; refine zP (g1 _ _ _) ?_) | (apply zI; refine zP (g2 _ _ _) ?_) | (apply zI; refine zP (g3 _) ?_) | (apply zI; refine zP (g4 _ _ _) ?_) | (apply zI; refine zP (g5 _) ?_) | (apply zI; refine zP (g6 _ _) ?_) | (apply zI; refine zP (g7 _ _ _) ?_) | (apply zI; refine zP (g8 _ _ _ _) ?_) | (apply zI; refine zP (g9 _ _ _) ?_) | (apply zI; refine zP (g10 _ _ _ _) ?_) | (apply zI; refine zP (vT _ _ _ _ _ _ (by first | omega | (simp; omega)) (by first | omega | (simp; omega))) ?_) | (refine zP (fun h => ?_) (fun h => ?_) <;> (try simp only [aB, aE, aQ, aV, aT, bC] at h) <;> first | (exfalso; first | omega | exact h trivial | (cases h; done)) | skip) | refine zV ?_ | (apply zI; refine zP aM ?_) | (apply zI; refine zP aG ?_) | refine Or.inl ?_) <;> conv => whnf) | fail
     all_goals first | (refine fC.weak (Z9 hW l hb hl h0) (eC (kp := 0) []))
   · rw [cP, if_neg hc] at g1 g2
     generalize opC m t ma la n = c at *
     repeat' first | ((first | (apply zI; refine zP (g1 _ _ _) ?_) | (apply zI; refine zP (g2 _ _ _) ?_) | (apply zI; refine zP (H5) ?_) | (refine zP (fun h => ?_) (fun h => ?_) <;> (try simp only [aB, aE, aQ, aV, aT, bC] at h) <;> first | (exfalso; first | omega | exact h trivial | (cases h; done)) | skip) | refine Or.inl ?_) <;> conv => whnf) | fail
     all_goals first | (refine fC.weak (Z9 hW l hb hl h0) (eC (kp := 0) []))
end Go.Proofs
