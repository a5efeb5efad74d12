/- Parts of the proof. -/
import Derived.Test.YtghcpginhamelaaGreatK10
import Derived.Test.YtghcpginhamelaaGreatK16
import Derived.Test.YtghcpginhamelaaGreatVm32
namespace Go.Proofs
open Go Go.Vm Go.Fg Go.Fg.PS
set_option maxRecDepth 100000
set_option maxHeartbeats 4000000
set_option linter.unusedSimpArgs false
set_option linter.unusedVariables false
variable {m : Int}
def Af0 (t : List (List Int)) (i : Nat) : List D := rows true (t.take i) ++ List.replicate (t.length - i) (.lit (.slice none 0 0))
@[simp] theorem At5 (t : List (List Int)) {i : Nat} : (Af0 t i).length = min i t.length + (t.length - i) := by simp [Af0]
def rowOk (m : Int) (t : List (List Int)) (i : Nat) : Bool := decide ((t.getD i []).length = t.length - i) && fQ m (t.getD i [])
def eV (m : Int) (t : List (List Int)) : Bool := cD m 2 10000 && cD t.length 2 11 && (List.range t.length).all (rowOk m t)
theorem Aek {m : Int} {t : List (List Int)} (h : cD m 2 10000 = false) : eV m t = false := by simp [eV, h]
theorem F7 {m : Int} {t : List (List Int)} (h : ¬ (2 ≤ t.length ∧ t.length ≤ 11)) : eV m t = false := by
 have : cD t.length 2 11 = false := by simp only [cD, decide_eq_false_iff_not]; omega
 simp [eV, this]
theorem zO {m : Int} {t : List (List Int)} {i : Nat} (hi : i < t.length) (h : rowOk m t i = false) : eV m t = false := by
 have : (List.range t.length).all (rowOk m t) = false := List.all_eq_false.2 ⟨i, by simpa using hi, by simp [h]⟩
 simp [eV, this]
theorem Abu {m : Int} {t : List (List Int)} (h1 : cD m 2 10000 = true) (h2 : 2 ≤ t.length ∧ t.length ≤ 11) (h3 : ∀ j, j < t.length → rowOk m t j = true) : eV m t = true := by
 have e2 : cD t.length 2 11 = true := by simp only [cD, decide_eq_true_eq]; omega
 have e3 : (List.range t.length).all (rowOk m t) = true := List.all_eq_true.2 (fun x hx => h3 x (by simpa using hx))
 simp [eV, h1, e2, e3]
theorem fI {m : Int} {t : List (List Int)} (h : eV m t = true) : Md m ∧ 2 ≤ t.length ∧ t.length ≤ 11 ∧ Ae2 m t := by
 simp only [eV, Bool.and_eq_true, cD, decide_eq_true_eq, List.all_eq_true, List.mem_range] at h
 refine ⟨h.1.1, by omega, by omega, fun i hi => ?_⟩
 have := h.2 i hi
 simp only [rowOk, Bool.and_eq_true, decide_eq_true_eq] at this
 exact ⟨this.1, wZ.1 this.2⟩
theorem dY {m : Int} {t : List (List Int)} (h : eV m t = true) : Tb t.length (aZ m t) = t := Agr (fI h).2.2.2
theorem Ae9 (o p : Bool) (m : Int) (t : List (List Int)) (hl : t.length ≤ 1048576) (hr : dP t) : aL Tryz.prog 244 [.agg [aA m, .list o 1 (rows p t)]] (bD (eV m t)) := by
 refine cF Tryz.tabOk aE Tryz.func244 rfl rfl ?_
 conv => whnf
 repeat' first | ((first | refine z0 ?_ | (apply zI; refine zP (Aih _) ?_) | (refine zP (fun h => ?_) (fun h => ?_) <;> (try simp only [aB, aD] at h)) | refine Or.inl ?_) <;> conv => whnf) | fail
 · exact bO (F7 (by simp only [aP] at *; omega)).symm
 · exact bO (F7 (by simp only [aP] at *; omega)).symm
 · have hm : cD m 2 10000 = true := by assumption
   refine dZ Tryz.tabOk aE (α := Nat) (fun i => [(4, aA i)]) (fun i => []) (fun i => i ≤ t.length ∧ ∀ j, j < i → rowOk m t j = true) (fun i => t.length - i) (0) ?_ ?_ ?_
   · exact ⟨by omega, by omega⟩
   · conv => whnf
     first | refine aG.auto ?_ | refine aC.auto ?_
     conv => whnf
     repeat' ((first | refine z1 ?_ | refine z2 ?_ | refine zV ?_ | refine zP ?_ ?_ | exact trivial) <;> try (conv => whnf))
   intro i ⟨hi, hj⟩
   conv => whnf
   have hri := hr i
   repeat' first | ((first | refine z0 ?_ | (apply zI; refine zP (Ari _ m _ (yG hm) (Nat.le_trans (hr i aF) (by omega))) ?_) | (refine zP (fun h => ?_) (fun h => ?_) <;> (try simp only [aB, aD] at h)) | refine zS ?_ | refine zV ?_ | (apply zI; refine zP aH ?_) | refine Alt.fst ?_ | refine Or.inl ?_) <;> conv => whnf) | fail
   · have hi' : i < t.length := by simp only [aP] at *; omega
     refine bO (zO hi' ?_).symm
     simp only [aP] at *
     have : ¬ (t.getD i []).length = t.length - i := by omega
     unfold rowOk; rw [decide_eq_false this]; rfl
   · have hi' : i < t.length := by simp only [aP] at *; omega
     refine Exists.intro (i + 1) (zP ⟨by omega, kP hj ?_⟩ (zP (by omega) ?_))
     · simp only [aP] at *
       have h8 : (t.getD i []).length = t.length - i := by omega
       have h9 : fQ m (t.getD i []) = true := by assumption
       unfold rowOk; rw [decide_eq_true h8, h9]; rfl
     first | refine aG.auto ?_ | refine aC.auto ?_
     conv => whnf
     repeat' ((first | refine z1 ?_ | refine z2 ?_ | refine zV ?_ | refine zP ?_ ?_ | exact trivial) <;> try (conv => whnf))
   · have hi' : i < t.length := by simp only [aP] at *; omega
     refine bO (zO hi' ?_).symm
     have h9 : fQ m (t.getD i []) = false := by assumption
     unfold rowOk; rw [h9, Bool.and_false]
   · simp only [aP] at *
     exact bO (Abu hm (by omega) (fun j h => hj j (by omega))).symm
 · exact bO (Aek (by assumption)).symm
theorem Anu (a m : Int) (d : D) (h1 : eO .i64 (m - 1)) : aL Tryz.prog 218 [aA a, .cptr [aA m, d] 0] (bD (cD a 0 (m - 1))) := by
 refine cF Tryz.tabOk aE Tryz.func218 rfl rfl ?_
 conv => whnf
 repeat' first | ((first | refine z0 ?_ | (apply zI; refine zP (G9 _ _ h1) ?_) | (refine zP (fun h => ?_) (fun h => ?_) <;> (try simp only [aB, aD] at h)) | (apply zI; refine zP aH ?_) | refine Or.inl ?_) <;> conv => whnf) | fail
 all_goals (refine bO ?_; first | rfl | (simp_all []; done) | (simp_all []; omega) | (simp_all []; intros; omega))
theorem Aat (o p : Bool) (m : Int) (t : List (List Int)) (hl : t.length ≤ 1048576) (hr : dP t) : aL Tryz.prog 100 [.agg [aA m, .list o 1 (rows p t)]] (bD (eV m t)) := by
 have hdeg : aL Tryz.prog 124 [.agg [aA m, .list o 1 (rows p t)]] (aA (t.length - 1)) := by
   refine cF Tryz.tabOk aE Tryz.func124 rfl rfl ?_
   conv => whnf
   repeat' first | ((first | refine z0 ?_ | (refine zP (fun h => ?_) (fun h => ?_) <;> (try simp only [aB, aD] at h)) | refine zS ?_ | refine zV ?_ | (apply zI; refine zP aK ?_) | (apply zI; refine zP aH ?_) | refine zA ?_ | refine Alt.fst ?_ | refine Or.inl ?_) <;> conv => whnf) | fail
   simp [aB]
 refine cF Tryz.tabOk aE Tryz.func100 rfl rfl ?_
 conv => whnf
 repeat' first | ((first | refine z0 ?_ | (apply zI; refine zP (Ad1 _) ?_) | (apply zI; refine zP (yM _ _ _) ?_) | (apply zI; refine zP (hdeg) ?_) | (refine zP (fun h => ?_) (fun h => ?_) <;> (try simp only [aB, aD] at h)) | refine Or.inl ?_) <;> conv => whnf) | fail
 · have hm : cD m 2 10000 = true := by assumption
   have hb : cD ((t.length : Int) - 1) 1 10 = true := by assumption
   simp only [cD, decide_eq_true_eq] at hb
   refine dZ Tryz.tabOk aE (α := Nat) (fun i => [(18, aA i)]) (fun i => []) (fun i => i ≤ t.length ∧ ∀ j, j < i → rowOk m t j = true) (fun i => t.length - i) (0) ?_ ?_ ?_
   · exact ⟨by omega, by omega⟩
   · conv => whnf
     first | refine aG.auto ?_ | refine aC.auto ?_
     conv => whnf
     repeat' ((first | refine z1 ?_ | refine z2 ?_ | refine zV ?_ | refine zP ?_ ?_ | exact trivial) <;> try (conv => whnf))
   intro i ⟨hi, hj⟩
   conv => whnf
   have hri := hr i
   repeat' first | ((first | refine z0 ?_ | (apply zI; refine zP (L3 218 [aA m, .list o 1 (rows p t)] (fun a => cD a 0 (m - 1)) (fun a => Anu a m _ (yG hm)) _ _ (hr i aF)) ?_) | (refine zP (fun h => ?_) (fun h => ?_) <;> (try simp only [aB, aD] at h)) | refine zV ?_ | (apply zI; refine zP aH ?_) | refine Or.inl ?_) <;> conv => whnf) | fail
   · have hi' : i < t.length := by simp only [aP] at *; omega
     refine bO (zO hi' ?_).symm
     simp only [aP] at *
     have : ¬ (t.getD i []).length = t.length - i := by omega
     unfold rowOk; rw [decide_eq_false this]; rfl
   · have hi' : i < t.length := by simp only [aP] at *; omega
     refine Exists.intro (i + 1) (zP ⟨by omega, kP hj ?_⟩ (zP (by omega) ?_))
     · simp only [aP] at *
       have h8 : (t.getD i []).length = t.length - i := by omega
       have h9 : fQ m (t.getD i []) = true := by assumption
       unfold rowOk; rw [decide_eq_true h8, h9]; rfl
     first | refine aG.auto ?_ | refine aC.auto ?_
     conv => whnf
     repeat' ((first | refine z1 ?_ | refine z2 ?_ | refine zV ?_ | refine zP ?_ ?_ | exact trivial) <;> try (conv => whnf))
   · have hi' : i < t.length := by simp only [aP] at *; omega
     refine bO (zO hi' ?_).symm
     have h9 : fQ m (t.getD i []) = false := by assumption
     unfold rowOk; rw [h9, Bool.and_false]
   · simp only [aP] at *
     exact bO (Abu hm (by omega) (fun j h => hj j (by omega))).symm
 · have hb : cD ((t.length : Int) - 1) 1 10 = false := by assumption
   simp only [cD, decide_eq_false_iff_not] at hb
   exact bO (F7 (by omega)).symm
 · exact bO (Aek (by assumption)).symm
theorem Ajh (o o' : Bool) (l l' : List Int) (hl : l.length ≤ 1048576) : aL Tryz.prog 304 [.list o 1 (ints l), .list o' 1 (ints l')] (bD (decide (l = l'))) := by
 refine cF Tryz.tabOk aE Tryz.func304 rfl rfl ?_
 conv => whnf
 repeat' first | ((first | refine z0 ?_ | (refine zP (fun h => ?_) (fun h => ?_) <;> (try simp only [aB, aD] at h)) | refine zS ?_ | refine zV ?_ | (apply zI; refine zP aK ?_) | (apply zI; refine zP aH ?_) | refine zA ?_ | refine Alt.fst ?_ | refine Or.inl ?_) <;> conv => whnf) | fail
 · refine bO ?_
   rw [eq_comm, decide_eq_false_iff_not]
   intro e; subst e; simp_all
 refine dZ Tryz.tabOk aE (α := Nat) (fun i => [(13, aA i)]) (fun i => []) (fun i => i ≤ l.length ∧ ∀ j, j < i → l.getD j 0 = l'.getD j 0) (fun i => l.length - i) (0) ?_ ?_ ?_
 · exact ⟨by omega, by omega⟩
 · conv => whnf
   first | refine aG.auto ?_ | refine aC.auto ?_
   conv => whnf
   repeat' ((first | refine z1 ?_ | refine z2 ?_ | refine zV ?_ | refine zP ?_ ?_ | exact trivial) <;> try (conv => whnf))
 intro i hi
 conv => whnf
 repeat' first | ((first | refine z0 ?_ | (refine zP (fun h => ?_) (fun h => ?_) <;> (try simp only [aB, aD] at h)) | refine zS ?_ | refine zV ?_ | (apply zI; refine zP aK ?_) | (apply zI; refine zP aH ?_) | refine zA ?_ | refine Alt.fst ?_ | refine Or.inl ?_) <;> conv => whnf) | fail
 · exact bO (by rw [eq_comm, decide_eq_false_iff_not]; intro e; subst e; simp_all)
 · refine Exists.intro (i + 1) (zP ⟨by omega, kP hi.2 (by omega)⟩ (zP (by omega) ?_))
   first | refine aG.auto ?_ | refine aC.auto ?_
   conv => whnf
   repeat' ((first | refine z1 ?_ | refine z2 ?_ | refine zV ?_ | refine zP ?_ ?_ | exact trivial) <;> try (conv => whnf))
 · refine bO ?_
   rw [eq_comm, decide_eq_true_iff]
   refine List.ext_getElem (by omega) (fun j k1 k2 => ?_)
   have := hi.2 j (by omega)
   simpa [k1, k2] using this
theorem nM (hm : Md m) (o p o' p' : Bool) (n : Nat) (hn : 1 ≤ n ∧ n ≤ 100) (f g : PS (PS (Zm m))) : aL Tryz.prog 223 [aA m, cH o p n f, cH o' p' n g] (cH true true n (f * g)) := by
 have hm1 := hm.1
 have hm2 := hm.2
 refine aX Tryz.tabOk aE Tryz.func223 rfl rfl ?_
 conv => whnf
 repeat' first | ((first | (apply zI; refine zP (kT (m := m) n aF aF) ?_) | (refine zP (fun h => ?_) (fun h => ?_) <;> (try simp only [aB, aD] at h)) | refine zV ?_ | (apply zI; refine zP aK ?_) | (apply zI; refine zP aH ?_) | refine Or.inl ?_) <;> conv => whnf) | fail
 refine aR Tryz.tabOk aE (α := Nat) (fun i => [(9, aA i), (12, .undef), (13, .undef)]) (fun i => [(0, some ⟨false, 1, rows true (Tb n (pP f g i 0))⟩)]) (fun i => i ≤ n) (fun i => n - i) (0) ?_ ?_ ?_
 · omega
 · conv => whnf
   first | refine aG.autoR ?_ | refine aC.autoR ?_
   conv => whnf
   repeat' ((first | refine z1 ?_ | refine z2 ?_ | refine zV ?_ | refine zP ?_ ?_ | exact trivial) <;> try (conv => whnf))
   all_goals rw [yO]
 intro i hi
 conv => whnf
 repeat' first | ((first | refine z0 ?_ | (refine zP (fun h => ?_) (fun h => ?_) <;> (try simp only [aB, aD] at h)) | refine zS ?_ | refine zV ?_ | (apply zI; refine zP aK ?_) | (apply zI; refine zP aH ?_) | refine zA ?_ | refine Alt.fst ?_ | refine Or.inl ?_) <;> conv => whnf) | fail
 · refine aR Tryz.tabOk aE (α := Nat) (fun j => [(10, aA j), (12, .undef), (13, .undef)]) (fun j => [(0, some ⟨false, 1, rows true (Tb n (pP f g i j))⟩)]) (fun j => j ≤ n - i) (fun j => n - j) (0) ?_ ?_ ?_
   · omega
   · conv => whnf
     first | refine aG.autoR ?_ | refine aC.autoR ?_
     conv => whnf
     repeat' ((first | refine z1 ?_ | refine z2 ?_ | refine zV ?_ | refine zP ?_ ?_ | exact trivial) <;> try (conv => whnf))
   intro j hj
   conv => whnf
   repeat' first | ((first | refine z0 ?_ | (refine zP (fun h => ?_) (fun h => ?_) <;> (try simp only [aB, aD] at h)) | refine zS ?_ | refine zV ?_ | (apply zI; refine zP aK ?_) | (apply zI; refine zP aH ?_) | refine zA ?_ | refine Alt.fst ?_ | refine Or.inl ?_) <;> conv => whnf) | fail
   · refine Exists.intro (j + 1) (zP aF (zP aF ?_))
     first | refine aG.autoR ?_ | refine aC.autoR ?_
     conv => whnf
     repeat' ((first | refine z1 ?_ | refine z2 ?_ | refine zV ?_ | refine zP ?_ ?_ | exact trivial) <;> try (conv => whnf))
     rw [P1 f g i j (Zm.val_eq_zero.1 (by assumption))]
   · refine aR Tryz.tabOk aE (α := Nat) (fun k => [(11, aA k), (12, .undef), (13, .undef)]) (fun k => [(0, some ⟨false, 1, rows true (Tb n (pQ f g i j k 0))⟩)]) (fun k => i + j + k ≤ n) (fun k => n - k) (0) ?_ ?_ ?_
     · exact aF
     · conv => whnf
       first | refine aG.autoR ?_ | refine aC.autoR ?_
       conv => whnf
       repeat' ((first | refine z1 ?_ | refine z2 ?_ | refine zV ?_ | refine zP ?_ ?_ | exact trivial) <;> try (conv => whnf))
       all_goals rw [zY]
     intro k hk
     conv => whnf
     repeat' first | ((first | refine z0 ?_ | (refine zP (fun h => ?_) (fun h => ?_) <;> (try simp only [aB, aD] at h)) | refine zS ?_ | refine zV ?_ | (apply zI; refine zP aK ?_) | (apply zI; refine zP aH ?_) | refine zA ?_ | refine Alt.fst ?_ | refine Or.inl ?_) <;> conv => whnf) | fail
     · refine aR Tryz.tabOk aE (α := Nat) (fun l => [(14, aA l)]) (fun l => [(0, some ⟨false, 1, rows true (Tb n (pQ f g i j k l))⟩)]) (fun l => i + j + k + l ≤ n) (fun l => n - l) (0) ?_ ?_ ?_
       · exact aF
       · conv => whnf
         first | refine aG.autoR ?_ | refine aC.autoR ?_
         conv => whnf
         repeat' ((first | refine z1 ?_ | refine z2 ?_ | refine zV ?_ | refine zP ?_ ?_ | exact trivial) <;> try (conv => whnf))
       intro l hll
       conv => whnf
       have hx1 := Zm.val_range hm.pos (((pQ f g i j k l).c (i + k)).c (j + l))
       have hx2 := hm.mul ((f.c i).c j) ((g.c k).c l)
       repeat' first | ((first | refine z0 ?_ | (refine zP (fun h => ?_) (fun h => ?_) <;> (try simp only [aB, aD] at h)) | refine zS ?_ | refine zV ?_ | (apply zI; refine zP aK ?_) | (apply zI; refine zP aH ?_) | refine zA ?_ | refine Alt.fst ?_ | refine Or.inl ?_) <;> conv => whnf) | fail
       · refine Exists.intro (l + 1) (zP aF (zP aF ?_))
         first | refine aG.autoR ?_ | refine aC.autoR ?_
         conv => whnf
         repeat' ((first | refine z1 ?_ | refine z2 ?_ | refine zV ?_ | refine zP ?_ ?_ | exact trivial) <;> try (conv => whnf))
         exact bV (dX _ (kO hm _ _ _) aF (cC.of_eq (B2 f g i j k l).symm))
       · refine Exists.intro (k + 1) (zP aF (zP aF ?_))
         first | refine aG.autoR ?_ | refine aC.autoR ?_
         conv => whnf
         repeat' ((first | refine z1 ?_ | refine z2 ?_ | refine zV ?_ | refine zP ?_ ?_ | exact trivial) <;> try (conv => whnf))
         exact bV (kA (Adt f g aF))
     · refine Exists.intro (j + 1) (zP aF (zP aF ?_))
       first | refine aG.autoR ?_ | refine aC.autoR ?_
       conv => whnf
       repeat' ((first | refine z1 ?_ | refine z2 ?_ | refine zV ?_ | refine zP ?_ ?_ | exact trivial) <;> try (conv => whnf))
       exact bV (kA (Ada f g aF))
   · refine Exists.intro (i + 1) (zP aF (zP aF ?_))
     first | refine aG.autoR ?_ | refine aC.autoR ?_
     conv => whnf
     repeat' ((first | refine z1 ?_ | refine z2 ?_ | refine zV ?_ | refine zP ?_ ?_ | exact trivial) <;> try (conv => whnf))
     exact bV (kA (Afx f g aF))
 · exact sK (kA (Aee f g aF))
theorem Arc (a : PS (Zm m)) (f : PS (PS (Zm m))) (k t : Nat) : bT (bC a f (k + 1) t * f) 0 0 ((((bC a f (k + 1) t * f).c 0).c 0) + a.c k) = bC a f k (t + 1) := by
 rw [← Ank]
 refine tF (fun i j => ?_)
 rw [fP, add_c, add_c, dN]
 by_cases h : i = 0
 · rw [if_pos h, dN]
   by_cases h2 : j = 0
   · rw [if_pos ⟨h, h2⟩, if_pos h2, h, h2]
   · rw [if_neg (fun x => h2 x.2), if_neg h2]; exact (Go.Fg.add_zero _).symm
 · rw [if_neg (fun x => h x.1), if_neg h]; exact (Go.Fg.add_zero _).symm
theorem zE (hm : Md m) (o o' p : Bool) (n : Nat) (hn : 1 ≤ n ∧ n ≤ 100) (k : Nat) (hk : k ≤ 100) (a : PS (Zm m)) (f : PS (PS (Zm m))) : aL Tryz.prog 229 [aA m, LD o k a, cH o' p n f] (cH true true n (bC a f 0 k)) := by
 have hm1 := hm.1
 have hm2 := hm.2
 refine aX Tryz.tabOk aE Tryz.func229 rfl rfl ?_
 conv => whnf
 repeat' first | ((first | (apply zI; refine zP (kT (m := m) n aF aF) ?_) | (refine zP (fun h => ?_) (fun h => ?_) <;> (try simp only [aB, aD] at h)) | refine zV ?_ | (apply zI; refine zP aK ?_) | (apply zI; refine zP aH ?_) | refine Or.inl ?_) <;> conv => whnf) | fail
 refine aR Tryz.tabOk aE (α := Nat) (fun t => [(8, aA ((k : Int) - 1 - t)), (7, .ref 0 [] 1 0 n), (9, .undef), (13, .undef)]) (fun t => [(0, some ⟨false, 1, rows true (Tb n (bC a f (k - t) t))⟩)]) (fun t => t ≤ k) (fun t => k - t) (0) ?_ ?_ ?_
 · omega
 · conv => whnf
   first | refine aG.autoR ?_ | refine aC.autoR ?_
   conv => whnf
   repeat' ((first | refine z1 ?_ | refine z2 ?_ | refine zV ?_ | refine zP ?_ ?_ | exact trivial) <;> try (conv => whnf))
 intro t ht
 conv => whnf
 have hx1 := Zm.val_range hm.pos (((bC a f (k - t) t * f).c 0).c 0)
 have hx2 := Zm.val_range hm.pos (a.c ((k : Int) - 1 - t).toNat)
 repeat' first | ((first | refine z0 ?_ | (apply zI; refine zP (nM hm _ _ _ _ n aF _ _) ?_) | (refine zP (fun h => ?_) (fun h => ?_) <;> (try simp only [aB, aD] at h)) | refine zS ?_ | refine zV ?_ | (apply zI; refine zP aK ?_) | (apply zI; refine zP aH ?_) | refine Or.inl ?_) <;> conv => whnf) | fail
 · refine Exists.intro (t + 1) (zP aF (zP aF ?_))
   first | refine aG.autoR ?_ | refine aC.autoR ?_
   conv => whnf
   repeat' ((first | refine z1 ?_ | refine z2 ?_ | refine zV ?_ | refine zP ?_ ?_ | exact trivial) <;> try (conv => whnf))
   have e : ((k : Int) - 1 - t).toNat = k - (t + 1) := by omega
   have e2 : k - t = k - (t + 1) + 1 := by omega
   rw [e, e2]
   exact bV (dX _ (rM hm _ _) (by omega) (cC.of_eq (Arc a f (k - (t + 1)) t)))
 · exact sK (by rw [show k = t by omega, Nat.sub_self])
def eA (n : Nat) (f : PS (PS (Zm m))) : Nat → List D
 | 0 => []
 | k + 1 => eA n f k ++ [aA m, .list true 1 (rows true (Tb n (pw f k)))]
@[simp] theorem F1 (n : Nat) (f : PS (PS (Zm m))) (k : Nat) : (eA n f k).length = 2 * k := by
 induction k with
 | zero => rfl
 | succ k ih => simp only [eA, List.length_append, ih, List.length_cons, List.length_nil]; omega
theorem F5 (n : Nat) (f : PS (PS (Zm m))) {k i : Nat} (h : i < k) : (eA n f k)[2 * i]? = some (aA m) ∧ (eA n f k)[2 * i + 1]? = some (.list true 1 (rows true (Tb n (pw f i)))) := by
 induction k with
 | zero => omega
 | succ k ih =>
   rcases Nat.lt_or_ge i k with h' | h'
   · simp only [eA]
     rw [List.getElem?_append_left (by simp; omega), List.getElem?_append_left (by simp; omega)]
     exact ih h'
   · have : i = k := by omega
     subst this
     simp only [eA]
     rw [List.getElem?_append_right (by simp), List.getElem?_append_right (by simp), F1, show 2 * i - 2 * i = 0 by omega, show 2 * i + 1 - 2 * i = 1 by omega]
     exact ⟨rfl, rfl⟩
theorem A4 (n : Nat) (f : PS (PS (Zm m))) (k : Nat) : cnt 2 (eA n f k) = k := by
 simp [cnt]
theorem vPl {n k q : Nat} {f : PS (PS (Zm m))} (i : Nat) (e : q = 2 * i + 1) (h : i < k) : (eA n f k)[q]? = some (.list true 1 (rows true (Tb n (pw f i)))) := by
 subst e; exact (F5 n f h).2
theorem Alq (n : Nat) (f : PS (PS (Zm m))) (k : Nat) : (0 + cnt 2 (eA n f k)) * 2 ≤ (eA n f k).length := by rw [A4, F1]; omega
theorem Am8 (n : Nat) (f : PS (PS (Zm m))) (k : Nat) : sub (eA n f k) 2 0 (cnt 2 (eA n f k)) = eA n f k := by
 rw [A4]
 simp only [sub, Nat.zero_mul, List.drop_zero]
 rw [List.take_of_length_le (by simp; omega)]
def lL (g : Nat → Int) : Nat → Int
 | 0 => 0
 | k + 1 => lL g k + g k
theorem N4 {g : Nat → Int} {B : Int} (h : ∀ i, 0 ≤ g i ∧ g i ≤ B) (k : Nat) : 0 ≤ lL g k ∧ lL g k ≤ k * B := by
 induction k with
 | zero => simp [lL]
 | succ k ih =>
   have := h k
   simp only [lL, Int.natCast_add, Int.natCast_one, Int.add_mul, Int.one_mul]
   omega
theorem Y6 (g : Nat → Zm m) (k : Nat) : Zm.mk m (lL (fun i => (g i).val) k) = sm k g := by
 induction k with
 | zero => rfl
 | succ k ih => simp only [lL, Zm.mk_add, ih, Zm.mk_val, cB]
def nS (f : PS (PS (Zm m))) (n a b c : Nat) : Zm m := sm (n - c) fun i => (f.c i).c c * ((pw f i).c a).c b
def nR (f : PS (PS (Zm m))) (n a b c : Nat) : Zm m := sm (n - a) fun j => (f.c a).c j * ((pw f j).c b).c c
theorem Asl {n k q : Nat} {f : PS (PS (Zm m))} (i : Nat) (e : q = 2 * i) (h : i < k) : C7 (eA n f k) [] q 2 [aA m, .list true 1 (rows true (Tb n (pw f i)))] := by
 subst e
 refine ⟨_, rfl, ?_, rfl⟩
 have h1 := F5 n f h
 have l1 : 2 * i < (eA n f k).length := by simp; omega
 have l2 : 2 * i + 1 < (eA n f k).length := by simp; omega
 rw [List.getElem?_eq_getElem l1, List.getElem?_eq_getElem l2] at h1
 rw [List.drop_eq_getElem_cons l1, List.drop_eq_getElem_cons l2, Option.some.inj h1.1, Option.some.inj h1.2]
 rfl
theorem Akh {n k q : Nat} {f : PS (PS (Zm m))} (i : Nat) (e : q = 2 * i + 1) (h : i < k) : bE (eA n f k) ([] ++ [q]) = some (rows true (Tb n (pw f i))) := by
 subst e
 show (match (eA n f k)[2 * i + 1]? with | some (.list true _ cs') => bE cs' [] | _ => none) = _
 rw [(F5 n f h).2]
 rfl
theorem Aqr {n k q : Nat} {f : PS (PS (Zm m))} (h : q = 2 * k) : q = (eA n f k).length := by rw [F1]; exact h
theorem Alz (x : Value) (cs : List D) (h : D.one (.lit x) = true := by rfl) : ∀ d ∈ [D.lit x, D.list true 1 cs], d.one = true := fun d hd => by
 simp only [List.mem_cons, List.not_mem_nil, or_false] at hd
 rcases hd with rfl | rfl
 · exact h
 · rfl
theorem Akv (n : Nat) (f : PS (PS (Zm m))) (k : Nat) : ∀ x ∈ eA n f k, PlainD x := by
 induction k with
 | zero => intro x hx; simp [eA] at hx
 | succ k ih =>
   intro x hx
   simp only [eA, List.mem_append, List.mem_cons, List.not_mem_nil, or_false] at hx
   rcases hx with hx | rfl | rfl
   · exact ih x hx
   · exact .lit _
   · exact .list _ _ (zM _)
theorem Ajz {n : Nat} (h : n ≤ 1000000) : gA n 32 := ⟨by omega, by omega⟩
theorem Alc (hm : Md m) (o p : Bool) (n : Nat) (hn : 1 ≤ n ∧ n ≤ 100) (f : PS (PS (Zm m))) : aL Tryz.prog 297 [cI m o p n f] (.list true 2 (eA n f n)) := by
 have hm1 := hm.1
 have hm2 := hm.2
 refine aX Tryz.tabOk aE Tryz.func297 rfl rfl ?_
 conv => whnf
 repeat' first | ((first | (apply zI; refine zP (iM _ _ _ aF _) ?_) | (apply zI; refine zP (Aq9 hm _ _ n aF _ _) ?_) | refine zV ?_ | refine Or.inl ?_) <;> conv => whnf) | fail
 refine aR Tryz.tabOk aE (α := Nat) (fun i => [(9, aA i), (3, .ref 3 [] 2 0 (i + 1)), (5, .undef), (6, .undef)]) (fun i => [(3, some ⟨false, 2, eA n f (i + 1)⟩)]) (fun i => i + 1 ≤ n) (fun i => n - i) (0) ?_ ?_ ?_
 · omega
 · conv => whnf
   first | refine aG.autoR ?_ | refine aC.autoR ?_
   conv => whnf
   repeat' ((first | refine z1 ?_ | refine zP ?_ ?_ | exact trivial) <;> try (conv => whnf))
 intro i hi
 conv => whnf
 repeat' first | ((first | refine z0 ?_ | (apply zI; refine zP (Asl i (by simp [place]; try omega) aF) ?_) | (apply zI; refine zP (Akh i (by simp [place]; try omega) aF) ?_) | (apply zI; refine zP (Am9 hm _ _ _ _ n aF (pw f i) f) ?_) | (refine zP (fun h => ?_) (fun h => ?_) <;> (try simp only [aB, aD] at h)) | refine zS ?_ | refine zV ?_ | (apply zI; refine zP aK ?_) | (apply zI; refine zP aH ?_) | refine zP (Ajz aF) ?_ | refine zP (Aqr (by omega)) ?_ | refine zP (Alz _ _) ?_ | refine zP (Akv _ _ _) ?_ | refine Alt.fst ?_ | refine Or.inl ?_) <;> conv => whnf) | fail
 · refine Exists.intro (i + 1) (zP aF (zP aF ?_))
   first | refine aG.autoR ?_ | refine aC.autoR ?_
   conv => whnf
   repeat' ((first | refine z1 ?_ | refine zP ?_ ?_ | exact trivial) <;> try (conv => whnf))
 · rw [show i + 1 = n by omega]
theorem Aki (hm : Md m) (o p o2 : Bool) (n : Nat) (hn : 1 ≤ n ∧ n ≤ 100) (f : PS (PS (Zm m))) (a b c : Nat) (h : a + b + c < n) : aL Tryz.prog 298 [aA a, aA b, aA c, .cptr [aA (n - 1)] 0, .cptr [aA m, .list o 1 (rows p (Tb n f))] 0, .cptr [.list o2 2 (eA n f n)] 0] (aA (nS f n a b c - nR f n a b c).val) := by
 have hm1 := hm.1
 have hm2 := hm.2
 have hB1 : ∀ i, 0 ≤ ((f.c i).c c * ((pw f i).c a).c b).val ∧ ((f.c i).c c * ((pw f i).c a).c b).val ≤ 10000 := fun i => by
   have := Zm.val_range hm.pos ((f.c i).c c * ((pw f i).c a).c b); omega
 have hB2 : ∀ j, 0 ≤ ((f.c a).c j * ((pw f j).c b).c c).val ∧ ((f.c a).c j * ((pw f j).c b).c c).val ≤ 10000 := fun j => by
   have := Zm.val_range hm.pos ((f.c a).c j * ((pw f j).c b).c c); omega
 refine aX Tryz.tabOk aE Tryz.func298 rfl rfl ?_
 conv => whnf
 repeat' first | ((first | refine z0 ?_ | (refine zP (fun h => ?_) (fun h => ?_) <;> (try simp only [aB, aD] at h)) | refine zS ?_ | refine zV ?_ | (apply zI; refine zP aK ?_) | (apply zI; refine zP aH ?_) | refine zA ?_ | refine Alt.fst ?_ | refine Or.inl ?_) <;> conv => whnf) | fail
 refine aR Tryz.tabOk aE (α := Nat) (fun i => [(12, aA i), (10, aA (lL (fun i => ((f.c i).c c * ((pw f i).c a).c b).val) i))]) (fun i => []) (fun i => i + c ≤ n) (fun i => n - i) (0) ?_ ?_ ?_
 · omega
 · conv => whnf
   first | refine aG.autoR ?_ | refine aC.autoR ?_
   conv => whnf
   repeat' ((first | refine z1 ?_ | refine zP ?_ ?_ | exact trivial) <;> try (conv => whnf))
 intro i hi
 conv => whnf
 have hs := N4 hB1 i
 have hs1 := hm.mul ((f.c i).c c) (((pw f i).c a).c b)
 have hs2 := fF hm ((f.c i).c c) (((pw f i).c a).c b)
 have hs3 := hB1 i
 repeat' first | ((first | (apply zI; refine zP (vPl i (by simp [place]; omega) aF) ?_) | (refine zP (fun h => ?_) (fun h => ?_) <;> (try simp only [aB, aD] at h)) | refine zS ?_ | refine zV ?_ | (apply zI; refine zP aH ?_) | (refine zP (⟨aF, by rw [A4]; omega⟩) ?_)) <;> conv => whnf) | fail
 · refine Exists.intro (i + 1) (zP aF (zP aF ?_))
   first | refine aG.autoR ?_ | refine aC.autoR ?_
   conv => whnf
   repeat' ((first | refine z1 ?_ | refine zP ?_ ?_ | exact trivial) <;> try (conv => whnf))
   simp only [lL, hs2]
 · have hic : i + c = n := aF
   refine aR Tryz.tabOk aE (α := Nat) (fun j => [(13, aA j), (11, aA (lL (fun j => ((f.c a).c j * ((pw f j).c b).c c).val) j))]) (fun j => []) (fun j => j + a ≤ n) (fun j => n - j) (0) ?_ ?_ ?_
   · omega
   · conv => whnf
     first | refine aG.autoR ?_ | refine aC.autoR ?_
     conv => whnf
     repeat' ((first | refine z1 ?_ | refine zP ?_ ?_ | exact trivial) <;> try (conv => whnf))
   intro j hj
   conv => whnf
   have ht := N4 hB2 j
   have ht1 := hm.mul ((f.c a).c j) (((pw f j).c b).c c)
   have ht2 := fF hm ((f.c a).c j) (((pw f j).c b).c c)
   have ht3 := hB2 j
   have hs' := N4 hB1 i
   repeat' first | ((first | refine z0 ?_ | (apply zI; refine zP (vPl j (by simp [place]; omega) aF) ?_) | (apply zI; refine zP (oV _ _ hm.pos (by omega)) ?_) | (refine zP (fun h => ?_) (fun h => ?_) <;> (try simp only [aB, aD] at h)) | refine zS ?_ | refine zV ?_ | (apply zI; refine zP aH ?_) | (refine zP (⟨aF, by rw [A4]; omega⟩) ?_) | refine Or.inl ?_) <;> conv => whnf) | fail
   · refine Exists.intro (j + 1) (zP aF (zP aF ?_))
     first | refine aG.autoR ?_ | refine aC.autoR ?_
     conv => whnf
     repeat' ((first | refine z1 ?_ | refine zP ?_ ?_ | exact trivial) <;> try (conv => whnf))
     simp only [lL, ht2]
   · have hja : j + a = n := aF
     refine congrArg aA (Zm.emod_val ?_)
     rw [Zm.mk_sub, Y6, Y6, show i = n - c by omega, show j = n - a by omega]
     rfl
open Classical in
noncomputable def mQ (p : Prop) : Bool := decide p
theorem Ag9 {p : Prop} (h : p) : mQ p = true := by simp [mQ, h]
theorem pD {p : Prop} (h : ¬ p) : mQ p = false := by simp [mQ, h]
def lX (i : Nat) : Zm m := if i = 1 then 1 else 0
def mL (f : PS (PS (Zm m))) (n : Nat) : Prop :=
 (∀ i, i < n → (f.c i).c 0 = lX i) ∧ (∀ i j, i + j < n → (f.c i).c j = (f.c j).c i) ∧ ∀ a b c, a + b + c < n → nS f n a b c = nR f n a b c
theorem Amk (hm : Md m) (o p : Bool) (n : Nat) (hn : 2 ≤ n ∧ n ≤ 11) (f : PS (PS (Zm m))) (hp : eV m (Tb n f) = true) : aL Tryz.prog 13 [cI m o p n f] (bD (mQ (mL f n))) := by
 have hm1 := hm.1
 have hm2 := hm.2
 have hli := Aat o p m (Tb n f) (by simp; omega) (Abi (by omega) f)
 rw [hp] at hli
 refine aX Tryz.tabOk aE Tryz.func13 rfl rfl ?_
 conv => whnf
 repeat' first | ((first | refine z0 ?_ | (apply zI; refine zP (hli) ?_) | refine Or.inr (gN Tryz.tabOk aE _ Tryz.func101 rfl rfl ?_) | (refine zP (fun h => ?_) (fun h => ?_) <;> (try simp only [aB, aD] at h)) | refine Or.inl ?_) <;> conv => whnf) | fail
 · refine aR Tryz.tabOk aE (α := Nat) (fun i => [(16, aA i)]) (fun i => []) (fun i => i ≤ n ∧ ∀ k, k < i → (f.c k).c 0 = lX k) (fun i => n - i) (0) ?_ ?_ ?_
   · exact ⟨by omega, by omega⟩
   · conv => whnf
     first | refine aG.autoR ?_ | refine aC.autoR ?_
     conv => whnf
     repeat' ((first | refine z1 ?_ | refine zP ?_ ?_ | exact trivial) <;> try (conv => whnf))
   intro i ⟨hi, hz⟩
   conv => whnf
   repeat' first | ((first | refine z0 ?_ | (refine zP (fun h => ?_) (fun h => ?_) <;> (try simp only [aB, aD] at h)) | refine zS ?_ | refine zV ?_ | (apply zI; refine zP aK ?_) | (apply zI; refine zP aH ?_) | refine zA ?_ | refine Alt.fst ?_ | refine Or.inl ?_) <;> conv => whnf) | fail
   · have hi' : i < n := by simp only [aP, aT] at *; omega
     exact bO (pD (fun hc => h (by rw [hc.1 i hi', lX, if_pos (by omega)]; exact Zm.val_one (by omega)))).symm
   · have hi' : i < n := by simp only [aP, aT] at *; omega
     have he := Classical.not_not.1 h
     refine Exists.intro (i + 1) (zP ⟨by omega, kP hz (Zm.val_inj (by rw [he, lX, if_pos (by omega)]; exact (Zm.val_one (by omega)).symm))⟩ (zP (by omega) ?_))
     first | refine aG.autoR ?_ | refine aC.autoR ?_
     conv => whnf
     repeat' ((first | refine z1 ?_ | refine zP ?_ ?_ | exact trivial) <;> try (conv => whnf))
   · have hi' : i < n := by simp only [aP, aT] at *; omega
     exact bO (pD (fun hc => h (by rw [hc.1 i hi', lX, if_neg (by omega)]; exact Zm.val_eq_zero.2 rfl))).symm
   · have hi' : i < n := by simp only [aP, aT] at *; omega
     have he := Zm.val_eq_zero.1 (Classical.not_not.1 h)
     refine Exists.intro (i + 1) (zP ⟨by omega, kP hz (by rw [he, lX, if_neg (by omega)])⟩ (zP (by omega) ?_))
     first | refine aG.autoR ?_ | refine aC.autoR ?_
     conv => whnf
     repeat' ((first | refine z1 ?_ | refine zP ?_ ?_ | exact trivial) <;> try (conv => whnf))
   · have hin : i = n := by simp only [aP, aT] at *; omega
     subst hin
     refine aR Tryz.tabOk aE (α := Nat) (fun x => [(36, aA x), (6, .undef)]) (fun x => []) (fun x => x ≤ i ∧ ∀ a b, a < x → a < b → a + b < i → (f.c a).c b = (f.c b).c a) (fun x => i - x) (0) ?_ ?_ ?_
     · exact ⟨by omega, by omega⟩
     · conv => whnf
       first | refine aG.autoR ?_ | refine aC.autoR ?_
       conv => whnf
       repeat' ((first | refine z1 ?_ | refine zP ?_ ?_ | exact trivial) <;> try (conv => whnf))
     intro x ⟨hx, hsy⟩
     conv => whnf
     repeat' first | ((first | refine z0 ?_ | refine Or.inr (gN Tryz.tabOk aE _ Tryz.func219 rfl rfl ?_) | (apply zI; refine zP (Alc hm _ _ i aF _) ?_) | (apply zI; refine zP (iM _ _ _ aF _) ?_) | (refine zP (fun h => ?_) (fun h => ?_) <;> (try simp only [aB, aD] at h)) | refine zS ?_ | refine zV ?_ | (apply zI; refine zP aH ?_) | refine Alt.fst ?_ | refine Or.inl ?_) <;> conv => whnf) | fail
     · refine aR Tryz.tabOk aE (α := Nat) (fun y => [(7, aA ((x : Int) + 1 + y))]) (fun y => []) (fun y => y ≤ i ∧ ∀ b, x < b → b < x + 1 + y → x + b < i → (f.c x).c b = (f.c b).c x) (fun y => i - y) (0) ?_ ?_ ?_
       · exact ⟨by omega, by omega⟩
       · conv => whnf
         first | refine aG.autoR ?_ | refine aC.autoR ?_
         conv => whnf
         repeat' ((first | refine z1 ?_ | refine zP ?_ ?_ | exact trivial) <;> try (conv => whnf))
       intro y ⟨hy, hsx⟩
       conv => whnf
       have e1 : ((x : Int) + 1 + y).toNat = x + 1 + y := by omega
       repeat' first | ((first | refine z0 ?_ | (refine zP (fun h => ?_) (fun h => ?_) <;> (try simp only [aB, aD] at h)) | refine zS ?_ | refine zV ?_ | (apply zI; refine zP aK ?_) | (apply zI; refine zP aH ?_) | refine zA ?_ | refine Alt.fst ?_ | refine Or.inl ?_) <;> conv => whnf) | fail
       · have hy' : x + 1 + y < i - x := by simp only [aV] at *; omega
         rw [e1] at h
         exact bO (pD (fun hc => h (by rw [hc.2.1 x (x + 1 + y) (by omega)]))).symm
       · have hy' : x + 1 + y < i - x := by simp only [aV] at *; omega
         rw [e1] at h
         refine Exists.intro (y + 1) (zP ⟨by omega, fun b h1 h2 h3 => ?_⟩ (zP (by omega) ?_))
         · rcases Nat.lt_or_ge b (x + 1 + y) with h' | h'
           · exact hsx b h1 h' h3
           · rw [show b = x + 1 + y by omega]; exact Zm.val_inj (Classical.not_not.1 h)
         first | refine aG.autoR ?_ | refine aC.autoR ?_
         conv => whnf
         repeat' ((first | refine z1 ?_ | refine zP ?_ ?_ | exact trivial) <;> try (conv => whnf))
       · have hy' : ¬ x + 1 + y < i - x := by simp only [aV] at *; omega
         have hx' : x < i := by simp only [aP, aT] at *; omega
         refine Exists.intro (x + 1) (zP ⟨by omega, fun a b h1 h2 h3 => ?_⟩ (zP (by omega) ?_))
         · rcases Nat.lt_or_ge a x with h' | h'
           · exact hsy a b h' h2 h3
           · have ea : a = x := by omega
             subst ea
             exact hsx b h2 (by omega) h3
         first | refine aG.autoR ?_ | refine aC.autoR ?_
         conv => whnf
         repeat' ((first | refine z1 ?_ | refine zP ?_ ?_ | exact trivial) <;> try (conv => whnf))
     · have hxi : x = i := by simp only [aP, aT] at *; omega
       have hsym : ∀ a b, a + b < i → (f.c a).c b = (f.c b).c a := fun a b hab => by
         rcases Nat.lt_trichotomy a b with h' | h' | h'
         · exact hsy a b (by omega) h' hab
         · rw [h']
         · exact (hsy b a (by omega) h' (by omega)).symm
       clear hsy
       refine aR Tryz.tabOk aE (α := Nat) (fun a => [(10, aA a)]) (fun a => []) (fun a => a ≤ i ∧ ∀ a' b' c', a' < a → a' + b' + c' < i → nS f i a' b' c' = nR f i a' b' c') (fun a => i - a) (0) ?_ ?_ ?_
       · exact ⟨by omega, by omega⟩
       · conv => whnf
         first | refine aG.autoR ?_ | refine aC.autoR ?_
         conv => whnf
         repeat' ((first | refine z1 ?_ | refine zP ?_ ?_ | exact trivial) <;> try (conv => whnf))
       intro a ⟨ha, hal⟩
       conv => whnf
       repeat' first | ((first | refine z0 ?_ | (refine zP (fun h => ?_) (fun h => ?_) <;> (try simp only [aB, aD] at h)) | refine zS ?_ | refine zV ?_ | (apply zI; refine zP aK ?_) | (apply zI; refine zP aH ?_) | refine zA ?_ | refine Alt.fst ?_ | refine Or.inl ?_) <;> conv => whnf) | fail
       · refine aR Tryz.tabOk aE (α := Nat) (fun b => [(11, aA b)]) (fun b => []) (fun b => a + b ≤ i ∧ ∀ b' c', b' < b → a + b' + c' < i → nS f i a b' c' = nR f i a b' c') (fun b => i - b) (0) ?_ ?_ ?_
         · exact ⟨by omega, by omega⟩
         · conv => whnf
           first | refine aG.autoR ?_ | refine aC.autoR ?_
           conv => whnf
           repeat' ((first | refine z1 ?_ | refine zP ?_ ?_ | exact trivial) <;> try (conv => whnf))
         intro b ⟨hb, hbl⟩
         conv => whnf
         repeat' first | ((first | refine z0 ?_ | (refine zP (fun h => ?_) (fun h => ?_) <;> (try simp only [aB, aD] at h)) | refine zS ?_ | refine zV ?_ | (apply zI; refine zP aK ?_) | (apply zI; refine zP aH ?_) | refine zA ?_ | refine Alt.fst ?_ | refine Or.inl ?_) <;> conv => whnf) | fail
         · refine aR Tryz.tabOk aE (α := Nat) (fun c => [(12, aA c)]) (fun c => []) (fun c => a + b + c ≤ i ∧ ∀ c', c' < c → a + b + c' < i → nS f i a b c' = nR f i a b c') (fun c => i - c) (0) ?_ ?_ ?_
           · exact ⟨by omega, by omega⟩
           · conv => whnf
             first | refine aG.autoR ?_ | refine aC.autoR ?_
             conv => whnf
             repeat' ((first | refine z1 ?_ | refine zP ?_ ?_ | exact trivial) <;> try (conv => whnf))
           intro c ⟨hc, hcl⟩
           conv => whnf
           repeat' first | ((first | refine z0 ?_ | (apply zI; refine zP (Aki hm _ _ _ i aF f a b c aF) ?_) | (apply zI; refine zP (Am8 _ _ _) ?_) | (refine zP (fun h => ?_) (fun h => ?_) <;> (try simp only [aB, aD] at h)) | refine zV ?_ | (apply zI; refine zP aH ?_) | refine zP (Alq _ _ _) ?_ | refine Or.inl ?_) <;> conv => whnf) | fail
           · exact bO (pD (fun hc => h (by rw [hc.2.2 a b c (by omega), Go.Fg.sub_self]; exact Zm.val_eq_zero.2 rfl))).symm
           · have he := Go.Fg.sub_eq_zero.1 (Zm.val_eq_zero.1 (Classical.not_not.1 h))
             refine Exists.intro (c + 1) (zP ⟨by omega, fun c' h1 h2 => ?_⟩ (zP (by omega) ?_))
             · rcases Nat.lt_or_ge c' c with h' | h'
               · exact hcl c' h' h2
               · rw [show c' = c by omega]; exact he
             first | refine aG.autoR ?_ | refine aC.autoR ?_
             conv => whnf
             repeat' ((first | refine z1 ?_ | refine zP ?_ ?_ | exact trivial) <;> try (conv => whnf))
           · refine Exists.intro (b + 1) (zP ⟨by omega, fun b' c' h1 h2 => ?_⟩ (zP (by omega) ?_))
             · rcases Nat.lt_or_ge b' b with h' | h'
               · exact hbl b' c' h' h2
               · have eb : b' = b := by omega
                 subst eb
                 exact hcl c' (by omega) h2
             first | refine aG.autoR ?_ | refine aC.autoR ?_
             conv => whnf
             repeat' ((first | refine z1 ?_ | refine zP ?_ ?_ | exact trivial) <;> try (conv => whnf))
         · refine Exists.intro (a + 1) (zP ⟨by omega, fun a' b' c' h1 h2 => ?_⟩ (zP (by omega) ?_))
           · rcases Nat.lt_or_ge a' a with h' | h'
             · exact hal a' b' c' h' h2
             · have ea : a' = a := by omega
               subst ea
               exact hbl b' c' (by omega) h2
           first | refine aG.autoR ?_ | refine aC.autoR ?_
           conv => whnf
           repeat' ((first | refine z1 ?_ | refine zP ?_ ?_ | exact trivial) <;> try (conv => whnf))
       · exact bO (Ag9 ⟨fun k hk => hz k hk, hsym, fun a' b' c' h' => hal a' b' c' (by omega) h'⟩).symm
 · exact absurd (by assumption) (show ¬ true = false by simp)
def gP (n : Nat) (g : Nat → PS (PS (Zm m))) (k : Nat) : List D := (List.range k).map fun c => .list true 1 (rows true (Tb n (g c)))
@[simp] theorem Ak7 (n : Nat) (g : Nat → PS (PS (Zm m))) (k : Nat) : (gP n g k).length = k := by simp [gP]
theorem Arn (cs : List D) : ∀ d ∈ [D.list true 1 cs], d.one = true := fun d hd => by
 simp only [List.mem_cons, List.not_mem_nil, or_false] at hd
 subst hd; rfl
theorem Aha {n q k : Nat} {g : Nat → PS (PS (Zm m))} (e : q = k) : q = (gP n g k).length := by rw [Ak7]; exact e
theorem Ac1 {n k : Nat} {g : Nat → PS (PS (Zm m))} {t : List D} (h : t = rows true (Tb n (g k))) : gP n g k ++ [.list true 1 t] = gP n g (k + 1) := by
 subst h; simp [gP, List.range_succ]
theorem J0 {n k i : Nat} {g : Nat → PS (PS (Zm m))} (h : i < k) : (gP n g k)[i]? = some (.list true 1 (rows true (Tb n (g i)))) := by
 simp [gP, h]
theorem Apd {n k q : Nat} {g : Nat → PS (PS (Zm m))} (c : Nat) (e : q = c) (h : c < k) : bE (gP n g k) ([] ++ [q]) = some (rows true (Tb n (g c))) := by
 subst e
 show (match (gP n g k)[q]? with | some (.list true _ cs') => bE cs' [] | _ => none) = _
 rw [J0 h]; rfl
theorem Aby {n k q : Nat} {g : Nat → PS (PS (Zm m))} (c : Nat) (e : q = c) (h : c < k) : eK (gP n g k) [] q (.list true 1 (rows true (Tb n (g c)))) := by
 subst e; exact ⟨_, rfl, J0 h⟩
theorem Abj {n k q r : Nat} {g : Nat → PS (PS (Zm m))} (c a : Nat) (e : q = c) (e2 : r = a) (h : c < k) (h2 : a < n) : eK (gP n g k) ([] ++ [q]) r (.list true 1 (ints (L (n - a) ((g c).c a)))) := by
 subst e; subst e2
 refine ⟨_, Apd q rfl h, ?_⟩
 have := mJ (o := true) (t := Tb n (g q)) (i := r) (by simpa using h2)
 rw [this, lO _ h2]
theorem Ag3 {n k q r s : Nat} {g : Nat → PS (PS (Zm m))} (c a b : Nat) (e : q = c) (e2 : r = a) (e3 : s = b) (h : c < k) (h2 : a + b < n) : eK (gP n g k) ([] ++ [q] ++ [r]) s (aA ((((g c).c a).c b)).val) := by
 subst e; subst e2; subst e3
 refine ⟨ints (L (n - r) ((g q).c r)), ?_, ?_⟩
 · show (match (gP n g k)[q]? with | some (.list true _ cs') => bE cs' [r] | _ => none) = _
   rw [J0 h]
   show (match (rows true (Tb n (g q)))[r]? with | some (.list true _ cs') => bE cs' [] | _ => none) = _
   rw [mJ (o := true) (t := Tb n (g q)) (i := r) (by simp; omega), lO _ (by omega)]
   rfl
 · simp [ints, L, show s < n - r by omega]
def colS (f : PS (PS (Zm m))) (j : Nat) : PS (Zm m) := ⟨fun i => (f.c i).c j⟩
theorem wX (a : PS (Zm m)) (f : PS (PS (Zm m))) (k p q : Nat) : ((bC a f 0 k).c p).c q = sm k fun i => a.c i * ((pw f i).c p).c q := by
 unfold bC
 rw [sm_c, sm_c]
 refine bS (fun i _ => ?_)
 rw [C_mul, C_mul, Nat.zero_add]
theorem Abh (f : PS (PS (Zm m))) (n a b c : Nat) : ((bC (colS f c) f 0 (n - c)).c a).c b = nS f n a b c := wX _ _ _ _ _
theorem Abk (f : PS (PS (Zm m))) (n a b c : Nat) : ((bC (f.c a) f 0 (n - a)).c b).c c = nR f n a b c := wX _ _ _ _ _
theorem Ap6 (o p : Bool) (n : Nat) (hn : 1 ≤ n ∧ n ≤ 100) (f : PS (PS (Zm m))) (j : Nat) (hj : j ≤ n) : aL Tryz.prog 305 [cH o p n f, aA j] (LD true (n - j) (colS f j)) := by
 refine aX Tryz.tabOk aE Tryz.func305 rfl rfl ?_
 conv => whnf
 repeat' first | ((first | refine z0 ?_ | (refine zP (fun h => ?_) (fun h => ?_) <;> (try simp only [aB, aD] at h)) | refine zS ?_ | refine zV ?_ | (apply zI; refine zP aK ?_) | (apply zI; refine zP aH ?_) | refine zA ?_ | refine Alt.fst ?_ | refine Or.inl ?_) <;> conv => whnf) | fail
 refine aR Tryz.tabOk aE (α := Nat) (fun i => [(6, aA i), (5, .ref 0 [] 1 0 i), (7, .undef)]) (fun i => [(0, some ⟨false, 1, ints (L i (colS f j))⟩)]) (fun i => i + j ≤ n) (fun i => n - i) (0) ?_ ?_ ?_
 · omega
 · conv => whnf
   first | refine aG.autoR ?_ | refine aC.autoR ?_
   conv => whnf
   repeat' ((first | refine z1 ?_ | refine zP ?_ ?_ | exact trivial) <;> try (conv => whnf))
 intro i hi
 conv => whnf
 repeat' first | ((first | refine z0 ?_ | (refine zP (fun h => ?_) (fun h => ?_) <;> (try simp only [aB, aD] at h)) | refine zS ?_ | refine zV ?_ | (apply zI; refine zP aK ?_) | (apply zI; refine zP aH ?_) | refine zA ?_ | refine Alt.fst ?_ | refine Or.inl ?_) <;> conv => whnf) | fail
 · refine Exists.intro (i + 1) (zP aF (zP aF ?_))
   first | refine aG.autoR ?_ | refine aC.autoR ?_
   conv => whnf
   repeat' ((first | refine z1 ?_ | refine zP ?_ ?_ | exact trivial) <;> try (conv => whnf))
   exact G7 (nU rfl)
 · rw [show i = n - j by simp only [aP, aT] at *; omega]
theorem Aqv (hm : Md m) (o p : Bool) (n : Nat) (hn : 2 ≤ n ∧ n ≤ 11) (f : PS (PS (Zm m))) (hp : eV m (Tb n f) = true) : aL Tryz.prog 148 [cI m o p n f] (bD (mQ (mL f n))) := by
 have hm1 := hm.1
 have hm2 := hm.2
 have hli := Ae9 o p m (Tb n f) (by simp; omega) (Abi (by omega) f)
 rw [hp] at hli
 refine aX Tryz.tabOk aE Tryz.func148 rfl rfl ?_
 conv => whnf
 repeat' first | ((first | refine z0 ?_ | (apply zI; refine zP (hli) ?_) | refine Or.inr (gN Tryz.tabOk aE _ Tryz.func245 rfl rfl ?_) | (refine zP (fun h => ?_) (fun h => ?_) <;> (try simp only [aB, aD] at h)) | refine zS ?_ | refine Or.inl ?_) <;> conv => whnf) | fail
 · refine aR Tryz.tabOk aE (α := Nat) (fun i => [(5, aA i)]) (fun i => []) (fun i => i ≤ n ∧ ∀ k, k < i → (f.c k).c 0 = lX k) (fun i => n - i) (0) ?_ ?_ ?_
   · exact ⟨by omega, by omega⟩
   · conv => whnf
     first | refine aG.autoR ?_ | refine aC.autoR ?_
     conv => whnf
     repeat' ((first | refine z1 ?_ | refine zP ?_ ?_ | exact trivial) <;> try (conv => whnf))
   intro i ⟨hi, hz⟩
   conv => whnf
   repeat' first | ((first | refine z0 ?_ | (refine zP (fun h => ?_) (fun h => ?_) <;> (try simp only [aB, aD] at h) <;> first | (exfalso; omega) | skip) | refine zS ?_ | refine zV ?_ | (apply zI; refine zP aK ?_) | (apply zI; refine zP aH ?_)) <;> conv => whnf) | fail
   · have hi' : i < n := by simp only [aP, aT] at *; omega
     have h0 : ((f.c i).c 0).val ≠ 1 := by assumption
     exact bO (pD (fun hc => h0 (by rw [hc.1 i hi', lX, if_pos (by omega)]; exact Zm.val_one (by omega)))).symm
   · have hi' : i < n := by simp only [aP, aT] at *; omega
     have he := Classical.not_not.1 h
     refine Exists.intro (i + 1) (zP ⟨by omega, kP hz (Zm.val_inj (by rw [he, lX, if_pos (by omega)]; exact (Zm.val_one (by omega)).symm))⟩ (zP (by omega) ?_))
     first | refine aG.autoR ?_ | refine aC.autoR ?_
     conv => whnf
     repeat' ((first | refine z1 ?_ | refine zP ?_ ?_ | exact trivial) <;> try (conv => whnf))
   · have hi' : i < n := by simp only [aP, aT] at *; omega
     have h0 : ((f.c i).c 0).val ≠ 0 := by assumption
     exact bO (pD (fun hc => h0 (by rw [hc.1 i hi', lX, if_neg (by omega)]; exact Zm.val_eq_zero.2 rfl))).symm
   · have hi' : i < n := by simp only [aP, aT] at *; omega
     have he := Zm.val_eq_zero.1 (Classical.not_not.1 h)
     refine Exists.intro (i + 1) (zP ⟨by omega, kP hz (by rw [he, lX, if_neg (by omega)])⟩ (zP (by omega) ?_))
     first | refine aG.autoR ?_ | refine aC.autoR ?_
     conv => whnf
     repeat' ((first | refine z1 ?_ | refine zP ?_ ?_ | exact trivial) <;> try (conv => whnf))
   · have hin : i = n := by simp only [aP, aT] at *; omega
     subst hin
     refine aR Tryz.tabOk aE (α := Nat) (fun x => [(7, aA x)]) (fun x => []) (fun x => x ≤ i ∧ ∀ a b, a < x → a < b → a + b < i → (f.c a).c b = (f.c b).c a) (fun x => i - x) (0) ?_ ?_ ?_
     · exact ⟨by omega, by omega⟩
     · conv => whnf
       first | refine aG.autoR ?_ | refine aC.autoR ?_
       conv => whnf
       repeat' ((first | refine z1 ?_ | refine zP ?_ ?_ | exact trivial) <;> try (conv => whnf))
     intro x ⟨hx, hsy⟩
     conv => whnf
     repeat' first | ((first | refine z0 ?_ | (refine zP (fun h => ?_) (fun h => ?_) <;> (try simp only [aB, aD] at h) <;> first | (exfalso; omega) | skip) | refine zS ?_ | refine zV ?_ | (apply zI; refine zP aK ?_) | (apply zI; refine zP aH ?_)) <;> conv => whnf) | fail
     · refine aR Tryz.tabOk aE (α := Nat) (fun y => [(8, aA ((x : Int) + 1 + y))]) (fun y => []) (fun y => y ≤ i ∧ ∀ b, x < b → b < x + 1 + y → x + b < i → (f.c x).c b = (f.c b).c x) (fun y => i - y) (0) ?_ ?_ ?_
       · exact ⟨by omega, by omega⟩
       · conv => whnf
         first | refine aG.autoR ?_ | refine aC.autoR ?_
         conv => whnf
         repeat' ((first | refine z1 ?_ | refine zP ?_ ?_ | exact trivial) <;> try (conv => whnf))
       intro y ⟨hy, hsx⟩
       conv => whnf
       have e1 : ((x : Int) + 1 + y).toNat = x + 1 + y := by omega
       repeat' first | ((first | refine z0 ?_ | (refine zP (fun h => ?_) (fun h => ?_) <;> (try simp only [aB, aD] at h) <;> first | (exfalso; omega) | skip) | refine zS ?_ | refine zV ?_ | (apply zI; refine zP aK ?_) | (apply zI; refine zP aH ?_)) <;> conv => whnf) | fail
       · have hy' : x + 1 + y < i - x := by simp only [aP, aT] at *; omega
         have h0 : ((f.c x).c ((x : Int) + 1 + y).toNat).val ≠ ((f.c ((x : Int) + 1 + y).toNat).c x).val := by assumption
         rw [e1] at h0
         exact bO (pD (fun hc => h0 (by rw [hc.2.1 x (x + 1 + y) (by omega)]))).symm
       · have hy' : x + 1 + y < i - x := by simp only [aP, aT] at *; omega
         rw [e1] at h
         refine Exists.intro (y + 1) (zP ⟨by omega, fun b h1 h2 h3 => ?_⟩ (zP (by omega) ?_))
         · rcases Nat.lt_or_ge b (x + 1 + y) with h' | h'
           · exact hsx b h1 h' h3
           · rw [show b = x + 1 + y by omega]; exact Zm.val_inj (Classical.not_not.1 h)
         first | refine aG.autoR ?_ | refine aC.autoR ?_
         conv => whnf
         repeat' ((first | refine z1 ?_ | refine zP ?_ ?_ | exact trivial) <;> try (conv => whnf))
       · have hx' : x < i := by simp only [aP, aT] at *; omega
         have hy' : ¬ x + 1 + y < i - x := by simp only [aP, aT] at *; omega
         refine Exists.intro (x + 1) (zP ⟨by omega, fun a b h1 h2 h3 => ?_⟩ (zP (by omega) ?_))
         · rcases Nat.lt_or_ge a x with h' | h'
           · exact hsy a b h' h2 h3
           · have ea : a = x := by omega
             subst ea
             exact hsx b h2 (by omega) h3
         first | refine aG.autoR ?_ | refine aC.autoR ?_
         conv => whnf
         repeat' ((first | refine z1 ?_ | refine zP ?_ ?_ | exact trivial) <;> try (conv => whnf))
     · have hxi : x = i := by simp only [aP, aT] at *; omega
       have hsym : ∀ a b, a + b < i → (f.c a).c b = (f.c b).c a := fun a b hab => by
         rcases Nat.lt_trichotomy a b with h' | h' | h'
         · exact hsy a b (by omega) h' hab
         · rw [h']
         · exact (hsy b a (by omega) h' (by omega)).symm
       clear hsy
       refine aR Tryz.tabOk aE (α := Nat) (fun c => [(11, aA c), (9, .ref 3 [] 1 0 c), (10, .ref 4 [] 1 0 c), (69, .undef), (70, .undef)]) (fun c => [(3, some ⟨false, 1, gP i (fun c => bC (colS f c) f 0 (i - c)) c⟩), (4, some ⟨false, 1, gP i (fun a => bC (f.c a) f 0 (i - a)) c⟩)]) (fun c => c ≤ i) (fun c => i - c) (0) ?_ ?_ ?_
       · omega
       · conv => whnf
         first | refine aG.autoR ?_ | refine aC.autoR ?_
         conv => whnf
         repeat' ((first | refine z1 ?_ | refine zP ?_ ?_ | exact trivial) <;> try (conv => whnf))
       intro c hc
       conv => whnf
       repeat' first | ((first | (apply zI; refine zP (Ap6 _ _ i aF f c aF) ?_) | (apply zI; refine zP (zE hm _ _ _ i aF (i - c) aF _ _) ?_) | (refine zP (fun h => ?_) (fun h => ?_) <;> (try simp only [aB, aD] at h) <;> first | (exfalso; omega) | skip) | refine zS ?_ | refine zV ?_ | (apply zI; refine zP aH ?_) | refine zP (Aha (by omega)) ?_ | refine zP (Arn _) ?_ | refine Alt.fst ?_ | refine Or.inl ?_) <;> conv => whnf) | fail
       · refine Exists.intro (c + 1) (zP aF (zP aF ?_))
         first | refine aG.autoR ?_ | refine aC.autoR ?_
         conv => whnf
         repeat' ((first | refine z1 ?_ | refine zP ?_ ?_ | exact trivial) <;> try (conv => whnf))
         · exact Ac1 rfl
         · exact Ac1 rfl
       · have hci : c = i := by simp only [aP, aT] at *; omega
         subst hci
         refine aR Tryz.tabOk aE (α := Nat) (fun a => [(12, aA a)]) (fun a => []) (fun a => a ≤ c ∧ ∀ a' b' c', a' < a → a' + b' + c' < c → nS f c a' b' c' = nR f c a' b' c') (fun a => c - a) (0) ?_ ?_ ?_
         · exact ⟨by omega, by omega⟩
         · conv => whnf
           first | refine aG.autoR ?_ | refine aC.autoR ?_
           conv => whnf
           repeat' ((first | refine z1 ?_ | refine zP ?_ ?_ | exact trivial) <;> try (conv => whnf))
         intro a ⟨ha, hal⟩
         conv => whnf
         repeat' first | ((first | refine z0 ?_ | (refine zP (fun h => ?_) (fun h => ?_) <;> (try simp only [aB, aD] at h) <;> first | (exfalso; omega) | skip) | refine zS ?_ | refine zV ?_ | (apply zI; refine zP aK ?_) | (apply zI; refine zP aH ?_)) <;> conv => whnf) | fail
         · refine aR Tryz.tabOk aE (α := Nat) (fun b => [(13, aA b)]) (fun b => []) (fun b => a + b ≤ c ∧ ∀ b' c', b' < b → a + b' + c' < c → nS f c a b' c' = nR f c a b' c') (fun b => c - b) (0) ?_ ?_ ?_
           · exact ⟨by omega, by omega⟩
           · conv => whnf
             first | refine aG.autoR ?_ | refine aC.autoR ?_
             conv => whnf
             repeat' ((first | refine z1 ?_ | refine zP ?_ ?_ | exact trivial) <;> try (conv => whnf))
           intro b ⟨hb, hbl⟩
           conv => whnf
           repeat' first | ((first | refine z0 ?_ | (refine zP (fun h => ?_) (fun h => ?_) <;> (try simp only [aB, aD] at h) <;> first | (exfalso; omega) | skip) | refine zS ?_ | refine zV ?_ | (apply zI; refine zP aK ?_) | (apply zI; refine zP aH ?_)) <;> conv => whnf) | fail
           · refine aR Tryz.tabOk aE (α := Nat) (fun d => [(14, aA d)]) (fun d => []) (fun d => a + b + d ≤ c ∧ ∀ c', c' < d → a + b + c' < c → nS f c a b c' = nR f c a b c') (fun d => c - d) (0) ?_ ?_ ?_
             · exact ⟨by omega, by omega⟩
             · conv => whnf
               first | refine aG.autoR ?_ | refine aC.autoR ?_
               conv => whnf
               repeat' ((first | refine z1 ?_ | refine zP ?_ ?_ | exact trivial) <;> try (conv => whnf))
             intro d ⟨hd, hdl⟩
             conv => whnf
             repeat' first | ((first | refine z0 ?_ | (apply zI; refine zP (Aby d aN aF) ?_) | (apply zI; refine zP (Aby a aN aF) ?_) | (apply zI; refine zP (Abj d a aN aN aF aF) ?_) | (apply zI; refine zP (Abj a b aN aN aF aF) ?_) | (apply zI; refine zP (Ag3 d a b aN aN aN aF aF) ?_) | (apply zI; refine zP (Ag3 a b d aN aN aN aF aF) ?_) | (refine zP (fun h => ?_) (fun h => ?_) <;> (try simp only [aB, aD] at h) <;> first | (exfalso; omega) | skip) | refine zS ?_ | refine zV ?_) <;> conv => whnf) | fail
             · have h0 : (((bC (colS f d) f 0 (c - d)).c a).c b).val ≠ (((bC (f.c a) f 0 (c - a)).c b).c d).val := by assumption
               exact bO (pD (fun hc => h0 (by rw [Abh, Abk, hc.2.2 a b d (by omega)]))).symm
             · have he := Zm.val_inj (Classical.not_not.1 h)
               rw [Abh, Abk] at he
               refine Exists.intro (d + 1) (zP ⟨by omega, fun c' h1 h2 => ?_⟩ (zP (by omega) ?_))
               · rcases Nat.lt_or_ge c' d with h' | h'
                 · exact hdl c' h' h2
                 · rw [show c' = d by omega]; exact he
               first | refine aG.autoR ?_ | refine aC.autoR ?_
               conv => whnf
               repeat' ((first | refine z1 ?_ | refine zP ?_ ?_ | exact trivial) <;> try (conv => whnf))
             · refine Exists.intro (b + 1) (zP ⟨by simp only [aP, aT] at *; omega, fun b' c' h1 h2 => ?_⟩ (zP (by simp only [aP, aT] at *; omega) ?_))
               · rcases Nat.lt_or_ge b' b with h' | h'
                 · exact hbl b' c' h' h2
                 · have eb : b' = b := by omega
                   subst eb
                   exact hdl c' (by simp only [aP, aT] at *; omega) h2
               first | refine aG.autoR ?_ | refine aC.autoR ?_
               conv => whnf
               repeat' ((first | refine z1 ?_ | refine zP ?_ ?_ | exact trivial) <;> try (conv => whnf))
           · refine Exists.intro (a + 1) (zP ⟨by simp only [aP, aT] at *; omega, fun a' b' c' h1 h2 => ?_⟩ (zP (by simp only [aP, aT] at *; omega) ?_))
             · rcases Nat.lt_or_ge a' a with h' | h'
               · exact hal a' b' c' h' h2
               · have ea : a' = a := by omega
                 subst ea
                 exact hbl b' c' (by simp only [aP, aT] at *; omega) h2
             first | refine aG.autoR ?_ | refine aC.autoR ?_
             conv => whnf
             repeat' ((first | refine z1 ?_ | refine zP ?_ ?_ | exact trivial) <;> try (conv => whnf))
         · exact bO (Ag9 ⟨fun k hk => hz k hk, hsym, fun a' b' c' h' => hal a' b' c' (by simp only [aP, aT] at *; omega) h'⟩).symm
         · exact absurd trivial h
 · exact absurd (by assumption) (show ¬ true = false by simp)
end Go.Proofs
namespace Go.Proofs
open Go Go.Vm Go.Fg Go.Fg.PS
set_option maxRecDepth 100000
set_option maxHeartbeats 4000000
set_option linter.unusedSimpArgs false
set_option linter.unusedVariables false
noncomputable def gF (m : Int) (t : List (List Int)) : Bool := eV m t && mQ (mL (aZ m t) t.length)
theorem Aam {m : Int} {t : List (List Int)} (h : eV m t = false) : gF m t = false := by simp [gF, h]
theorem S6 {m : Int} {t : List (List Int)} (h : eV m t = true) : gF m t = mQ (mL (aZ m t) t.length) := by simp [gF, h]
theorem yN (o p : Bool) (m : Int) (t : List (List Int)) (hl : t.length ≤ 1048576) (hr : dP t) : aL Tryz.prog 148 [.agg [aA m, .list o 1 (rows p t)]] (bD (gF m t)) := by
 cases hp : eV m t with
 | true =>
   obtain ⟨hm, h2, h3, _⟩ := fI hp
   have key := Aqv hm o p t.length ⟨h2, h3⟩ (aZ m t) (by rw [dY hp]; exact hp)
   simp only [cI, dY hp] at key
   rw [S6 hp]
   exact key
 | false =>
   have hli := Ae9 o p m t hl hr
   rw [hp] at hli
   rw [Aam hp]
   refine aX Tryz.tabOk aE Tryz.func148 rfl rfl ?_
   conv => whnf
   repeat' first | ((first | refine z0 ?_ | (apply zI; refine zP (hli) ?_) | (refine zP (fun h => ?_) (fun h => ?_) <;> (try simp only [aB, aD] at h)) | refine Or.inl ?_) <;> conv => whnf) | fail
   all_goals (exfalso; simp_all)
theorem Aid (o p : Bool) (m : Int) (t : List (List Int)) (hl : t.length ≤ 1048576) (hr : dP t) : aL Tryz.prog 13 [.agg [aA m, .list o 1 (rows p t)]] (bD (gF m t)) := by
 cases hp : eV m t with
 | true =>
   obtain ⟨hm, h2, h3, _⟩ := fI hp
   have key := Amk hm o p t.length ⟨h2, h3⟩ (aZ m t) (by rw [dY hp]; exact hp)
   simp only [cI, dY hp] at key
   rw [S6 hp]
   exact key
 | false =>
   have hli := Aat o p m t hl hr
   rw [hp] at hli
   rw [Aam hp]
   refine aX Tryz.tabOk aE Tryz.func13 rfl rfl ?_
   conv => whnf
   repeat' first | ((first | refine z0 ?_ | (apply zI; refine zP (hli) ?_) | (refine zP (fun h => ?_) (fun h => ?_) <;> (try simp only [aB, aD] at h)) | refine Or.inl ?_) <;> conv => whnf) | fail
   all_goals (exfalso; simp_all)
def dU (p : Int) : Bool := decide (p = 2) || (decide (p = 3) || (decide (p = 5) || decide (p = 7)))
theorem Ahy (p : Int) : aL Tryz.prog 331 [aA p] (bD (dU p)) := by
 refine aX Tryz.tabOk aE Tryz.func331 rfl rfl ?_
 conv => whnf
 repeat' first | ((first | refine z0 ?_ | (refine zP (fun h => ?_) (fun h => ?_) <;> (try simp only [aB, aD] at h)) | refine zS ?_ | refine zV ?_ | (apply zI; refine zP aK ?_) | (apply zI; refine zP aH ?_) | refine zA ?_ | refine Alt.fst ?_ | refine Or.inl ?_) <;> conv => whnf) | fail
 all_goals (refine bO ?_; first | rfl | (simp_all [dU]; done) | (simp_all [dU]; omega) | (simp_all [dU]; intros; omega))
end Go.Proofs
namespace Go.Proofs
open Go Go.Vm Go.Fg Go.Fg.PS
set_option maxRecDepth 100000
set_option maxHeartbeats 4000000
set_option linter.unusedSimpArgs false
set_option linter.unusedVariables false
variable {m : Int}
def fE (n : Nat) (a : PS (Zm m)) : Nat → List D
 | 0 => []
 | k + 1 => fE n a k ++ [aA m, .list true 1 (ints (L n (pw a k)))]
@[simp] theorem Abv (n : Nat) (a : PS (Zm m)) (k : Nat) : (fE n a k).length = 2 * k := by
 induction k with
 | zero => rfl
 | succ k ih => simp only [fE, List.length_append, ih, List.length_cons, List.length_nil]; omega
theorem Aen (n : Nat) (a : PS (Zm m)) {k i : Nat} (h : i < k) : (fE n a k)[2 * i]? = some (aA m) ∧ (fE n a k)[2 * i + 1]? = some (.list true 1 (ints (L n (pw a i)))) := by
 induction k with
 | zero => omega
 | succ k ih =>
   rcases Nat.lt_or_ge i k with h' | h'
   · simp only [fE]
     rw [List.getElem?_append_left (by simp; omega), List.getElem?_append_left (by simp; omega)]
     exact ih h'
   · have : i = k := by omega
     subst this
     simp only [fE]
     rw [List.getElem?_append_right (by simp), List.getElem?_append_right (by simp), Abv, show 2 * i - 2 * i = 0 by omega, show 2 * i + 1 - 2 * i = 1 by omega]
     exact ⟨rfl, rfl⟩
theorem Ark (n : Nat) (a : PS (Zm m)) (k : Nat) : cnt 2 (fE n a k) = k := by simp [cnt]
theorem I6 {n k q : Nat} {a : PS (Zm m)} (i : Nat) (e : q = 2 * i) (h : i < k) : C7 (fE n a k) [] q 2 [aA m, .list true 1 (ints (L n (pw a i)))] := by
 subst e
 refine ⟨_, rfl, ?_, rfl⟩
 have h1 := Aen n a h
 have l1 : 2 * i < (fE n a k).length := by simp; omega
 have l2 : 2 * i + 1 < (fE n a k).length := by simp; omega
 rw [List.getElem?_eq_getElem l1, List.getElem?_eq_getElem l2] at h1
 rw [List.drop_eq_getElem_cons l1, List.drop_eq_getElem_cons l2, Option.some.inj h1.1, Option.some.inj h1.2]
 rfl
theorem G5 {n k q : Nat} {a : PS (Zm m)} (i : Nat) (e : q = 2 * i + 1) (h : i < k) : bE (fE n a k) ([] ++ [q]) = some (ints (L n (pw a i))) := by
 subst e
 show (match (fE n a k)[2 * i + 1]? with | some (.list true _ cs') => bE cs' [] | _ => none) = _
 rw [(Aen n a h).2]
 rfl
theorem Akt {n k q : Nat} {a : PS (Zm m)} (h : q = 2 * k) : q = (fE n a k).length := by rw [Abv]; exact h
theorem Ahq {n k i : Nat} {a : PS (Zm m)} (h : i < k) : 0 ≤ (i : Int) ∧ (i : Int) < (cnt 2 (fE n a k) : Nat) := by rw [Ark]; omega
theorem Ar5 (x : Value) (cs : List D) (h : D.one (.lit x) = true := by rfl) : ∀ d ∈ [D.lit x, D.list true 1 cs], d.one = true := fun d hd => by
 simp only [List.mem_cons, List.not_mem_nil, or_false] at hd
 rcases hd with rfl | rfl
 · exact h
 · rfl
theorem Aiq (n : Nat) (a : PS (Zm m)) (k : Nat) : ∀ x ∈ fE n a k, PlainD x := by
 induction k with
 | zero => intro x hx; simp [fE] at hx
 | succ k ih =>
   intro x hx
   simp only [fE, List.mem_append, List.mem_cons, List.not_mem_nil, or_false] at hx
   rcases hx with hx | rfl | rfl
   · exact ih x hx
   · exact .lit _
   · exact .list _ _ (xI _)
theorem Ahw {n : Nat} (h : n ≤ 1000000) : gA n 32 := ⟨by omega, by omega⟩
def fU (f : PS (PS (Zm m))) (a b : PS (Zm m)) (n i j : Nat) : PS (Zm m) :=
 sm i (fun i => sm (n - i) fun j => PS.C ((f.c i).c j) * (pw a i * pw b j)) + sm j fun j => PS.C ((f.c i).c j) * (pw a i * pw b j)
def cO (f : PS (PS (Zm m))) (a b : PS (Zm m)) (n : Nat) : PS (Zm m) := fU f a b n n 0
theorem Afp (f : PS (PS (Zm m))) (a b : PS (Zm m)) (n : Nat) : fU f a b n 0 0 = 0 := by
 unfold fU; exact CR.zero_add _
theorem C6 (f : PS (PS (Zm m))) (a b : PS (Zm m)) (n i j : Nat) : fU f a b n i (j + 1) = fU f a b n i j + PS.C ((f.c i).c j) * (pw a i * pw b j) := by
 unfold fU; rw [cB, CR.add_assoc]
theorem Af3 (f : PS (PS (Zm m))) (a b : PS (Zm m)) (n i j : Nat) (h : (f.c i).c j = 0) : fU f a b n i (j + 1) = fU f a b n i j := by
 rw [C6, h, PS.C_zero, Go.Fg.zero_mul, Go.Fg.add_zero]
theorem Adj (f : PS (PS (Zm m))) (a b : PS (Zm m)) {n i j : Nat} (h : j = n - i) : fU f a b n i j = fU f a b n (i + 1) 0 := by
 subst h
 unfold fU
 rw [cB]
 exact (Go.Fg.add_zero _).symm
theorem nF {f : PS (PS (Zm m))} {a b : PS (Zm m)} {n : Nat} (hf : (f.c 0).c 0 = 0) (ha : a.c 0 = 0) (hb : b.c 0 = 0) : (cO f a b n).c 0 = 0 := by
 unfold cO fU
 rw [PS.add_c, PS.sm_c]
 have hp : ∀ (x : PS (Zm m)) (k : Nat), x.c 0 = 0 → (pw x (k + 1)).c 0 = 0 := fun x k hx => by rw [cV, PS.mul_c0, hx, Go.Fg.mul_zero]
 have e1 : sm n (fun i => (sm (n - i) fun j => PS.C ((f.c i).c j) * (pw a i * pw b j)).c 0) = 0 := dH fun i _ => by
   rw [PS.sm_c]
   refine dH fun j _ => ?_
   rw [PS.C_mul, PS.mul_c0]
   cases i with
   | succ i => rw [hp a i ha, Go.Fg.zero_mul, Go.Fg.mul_zero]
   | zero => cases j with
     | succ j => rw [hp b j hb, Go.Fg.mul_zero, Go.Fg.mul_zero]
     | zero => rw [hf, Go.Fg.zero_mul]
 rw [e1]
 exact CR.zero_add _
theorem Ale (hm : Md m) (o : Bool) (n : Nat) (hn : 1 ≤ n ∧ n ≤ 100) (a : PS (Zm m)) : aL Tryz.prog 237 [eI m o n a] (.list true 2 (fE n a n)) := by
 have hm1 := hm.1
 have hm2 := hm.2
 refine aX Tryz.tabOk aE Tryz.func237 rfl rfl ?_
 conv => whnf
 repeat' first | ((first | (apply zI; refine zP (wT _ _ aF _) ?_) | (apply zI; refine zP (V1 hm _ n aF _ _) ?_) | refine zV ?_ | refine Or.inl ?_) <;> conv => whnf) | fail
 refine aR Tryz.tabOk aE (α := Nat) (fun i => [(9, aA i), (3, .ref 3 [] 2 0 (i + 1)), (5, .undef), (6, .undef)]) (fun i => [(3, some ⟨false, 2, fE n a (i + 1)⟩)]) (fun i => i + 1 ≤ n) (fun i => n - i) (0) ?_ ?_ ?_
 · omega
 · conv => whnf
   first | refine aG.autoR ?_ | refine aC.autoR ?_
   conv => whnf
   repeat' ((first | refine z1 ?_ | refine zV ?_ | refine zP ?_ ?_ | exact trivial) <;> try (conv => whnf))
 intro i hi
 conv => whnf
 repeat' first | ((first | refine z0 ?_ | (apply zI; refine zP (I6 i (by first | (simp [place]; done) | (simp [place]; omega)) aF) ?_) | (apply zI; refine zP (G5 i (by first | (simp [place]; done) | (simp [place]; omega)) aF) ?_) | (apply zI; refine zP (Aay hm _ _ n aF (pw a i) a) ?_) | (refine zP (fun h => ?_) (fun h => ?_) <;> (try simp only [aB, aD] at h)) | refine zS ?_ | refine zV ?_ | (apply zI; refine zP aH ?_) | refine zP (Ahw aF) ?_ | refine zP (Akt (by omega)) ?_ | refine zP (Ar5 _ _) ?_ | refine zP (Aiq _ _ _) ?_ | refine Alt.fst ?_ | refine Or.inl ?_) <;> conv => whnf) | fail
 · refine Exists.intro (i + 1) (zP aF (zP aF ?_))
   first | refine aG.autoR ?_ | refine aC.autoR ?_
   conv => whnf
   repeat' ((first | refine z1 ?_ | refine zV ?_ | refine zP ?_ ?_ | exact trivial) <;> try (conv => whnf))
 · rw [show i + 1 = n by omega]
theorem xX (hm : Md m) (o p o' o2 : Bool) (n : Nat) (hn : 1 ≤ n ∧ n ≤ 100) (f : PS (PS (Zm m))) (a b : PS (Zm m)) : aL Tryz.prog 130 [cI m o p n f, eI m o' n a, eI m o2 n b] (eI m true n (cO f a b n)) := by
 have hm1 := hm.1
 have hm2 := hm.2
 refine aX Tryz.tabOk aE Tryz.func130 rfl rfl ?_
 conv => whnf
 repeat' first | ((first | (apply zI; refine zP (V1 hm _ n aF _ _) ?_) | (apply zI; refine zP (Ale hm _ n aF _) ?_) | refine zS ?_ | refine Alt.fst ?_ | refine Or.inl ?_) <;> conv => whnf) | fail
 refine aR Tryz.tabOk aE (α := Nat) (fun i => [(23, aA i), (11, .undef), (15, .undef)]) (fun i => [(5, some ⟨false, 1, ints (L n (fU f a b n i 0))⟩), (8, some ⟨true, 1, [aA m, .ref 5 [] 1 0 n]⟩)]) (fun i => i ≤ n) (fun i => n - i) (0) ?_ ?_ ?_
 · omega
 · conv => whnf
   first | refine aG.autoR ?_ | refine aC.autoR ?_
   conv => whnf
   repeat' ((first | refine z1 ?_ | refine zV ?_ | refine zP ?_ ?_ | exact trivial) <;> try (conv => whnf))
   all_goals (rw [Afp]; exact cQ (dW (Ag.of_eq PS.C_zero)))
 intro i hi
 conv => whnf
 repeat' first | ((first | refine z0 ?_ | (refine zP (fun h => ?_) (fun h => ?_) <;> (try simp only [aB, aD] at h)) | refine zS ?_ | refine zV ?_ | (apply zI; refine zP aK ?_) | (apply zI; refine zP aH ?_) | refine zA ?_ | refine Alt.fst ?_ | refine Or.inl ?_) <;> conv => whnf) | fail
 · refine aR Tryz.tabOk aE (α := Nat) (fun j => [(30, aA j)]) (fun j => [(5, some ⟨false, 1, ints (L n (fU f a b n i j))⟩), (8, some ⟨true, 1, [aA m, .ref 5 [] 1 0 n]⟩)]) (fun j => j ≤ n - i) (fun j => n - j) (0) ?_ ?_ ?_
   · omega
   · conv => whnf
     first | refine aG.autoR ?_ | refine aC.autoR ?_
     conv => whnf
     repeat' ((first | refine z1 ?_ | refine zV ?_ | refine zP ?_ ?_ | exact trivial) <;> try (conv => whnf))
   intro j hj
   conv => whnf
   repeat' first | ((first | (apply zI; refine zP (I6 i (by first | (simp [place]; done) | (simp [place]; omega)) aF) ?_) | (apply zI; refine zP (G5 i (by first | (simp [place]; done) | (simp [place]; omega)) aF) ?_) | (apply zI; refine zP (I6 j (by first | (simp [place]; done) | (simp [place]; omega)) aF) ?_) | (apply zI; refine zP (G5 j (by first | (simp [place]; done) | (simp [place]; omega)) aF) ?_) | (apply zI; refine zP (Aay hm _ _ n aF (pw a i) (pw b j)) ?_) | (apply zI; refine zP (Apv hm _ n aF _ _) ?_) | (apply zI; refine zP (Aic hm _ _ n aF _ _) ?_) | (refine zP (fun h => ?_) (fun h => ?_) <;> (try simp only [aB, aD] at h)) | refine zS ?_ | refine zV ?_ | (apply zI; refine zP aH ?_) | refine zP (Ahq aF) ?_ | refine Alt.fst ?_ | refine Or.inl ?_) <;> conv => whnf) | fail
   · refine Exists.intro (j + 1) (zP aF (zP aF ?_))
     first | refine aG.autoR ?_ | refine aC.autoR ?_
     conv => whnf
     repeat' ((first | refine z1 ?_ | refine zV ?_ | refine zP ?_ ?_ | exact trivial) <;> try (conv => whnf))
     refine cQ (dW (Ag.of_eq ?_))
     rw [C6, Zm.mk_val]
   · have he := Zm.val_eq_zero.1 (Classical.not_not.1 h)
     refine Exists.intro (j + 1) (zP aF (zP aF ?_))
     first | refine aG.autoR ?_ | refine aC.autoR ?_
     conv => whnf
     repeat' ((first | refine z1 ?_ | refine zV ?_ | refine zP ?_ ?_ | exact trivial) <;> try (conv => whnf))
     exact cQ (dW (Ag.of_eq (Af3 f a b n i j he).symm))
   · have hji : j = n - i := by simp only [aV] at *; omega
     refine Exists.intro (i + 1) (zP aF (zP aF ?_))
     first | refine aG.autoR ?_ | refine aC.autoR ?_
     conv => whnf
     repeat' ((first | refine z1 ?_ | refine zV ?_ | refine zP ?_ ?_ | exact trivial) <;> try (conv => whnf))
     exact cQ (dW (Ag.of_eq (Adj f a b hji)))
 · exact congrArg (fun x => D.agg [aA m, .list true 1 (ints (L n x))]) (by rw [show i = n by simp only [aP, aT] at *; omega]; rfl)
theorem Ag0 (hm : Md m) (o o' : Bool) (n : Nat) (hn : n ≤ 100) (a b : PS (Zm m)) : aL Tryz.prog 300 [aA m, LD o n a, LD o' n b] (LD true n (a + b)) := by
 have hm1 := hm.1
 have hm2 := hm.2
 refine aX Tryz.tabOk aE Tryz.func300 rfl rfl ?_
 conv => whnf
 repeat' first | ((first | refine z0 ?_ | (refine zP (fun h => ?_) (fun h => ?_) <;> (try simp only [aB, aD] at h)) | refine zS ?_ | refine zV ?_ | (apply zI; refine zP aK ?_) | (apply zI; refine zP aH ?_) | refine zA ?_ | refine Alt.fst ?_ | refine Or.inl ?_) <;> conv => whnf) | fail
 refine aR Tryz.tabOk aE (α := Nat) (fun i => [(8, aA i), (7, .ref 0 [] 1 0 i), (9, .undef)]) (fun i => [(0, some ⟨false, 1, ints (L i (a + b))⟩)]) (fun i => i ≤ n) (fun i => n - i) (0) ?_ ?_ ?_
 · omega
 · conv => whnf
   first | refine aG.autoR ?_ | refine aC.autoR ?_
   conv => whnf
   repeat' ((first | refine z1 ?_ | refine zV ?_ | refine zP ?_ ?_ | exact trivial) <;> try (conv => whnf))
 intro i hi
 conv => whnf
 have h1 := Zm.val_range hm.pos (a.c i)
 have h2 := Zm.val_range hm.pos (b.c i)
 repeat' first | ((first | refine z0 ?_ | (refine zP (fun h => ?_) (fun h => ?_) <;> (try simp only [aB, aD] at h)) | refine zS ?_ | refine zV ?_ | (apply zI; refine zP aK ?_) | (apply zI; refine zP aH ?_) | refine zA ?_ | refine Alt.fst ?_ | refine Or.inl ?_) <;> conv => whnf) | fail
 · refine Exists.intro (i + 1) (zP aF (zP aF ?_))
   first | refine aG.autoR ?_ | refine aC.autoR ?_
   conv => whnf
   repeat' ((first | refine z1 ?_ | refine zV ?_ | refine zP ?_ ?_ | exact trivial) <;> try (conv => whnf))
   exact cQ (nU (rM hm _ _))
 · rw [show i = n by simp only [aV] at *; omega]
theorem Aj1 (o : Bool) (l : List Int) (hl : l.length ≤ 1048576) : aL Tryz.prog 133 [.list o 1 (ints l)] (.list true 1 (ints l)) := by
 refine aX Tryz.tabOk aE Tryz.func133 rfl rfl ?_
 conv => whnf
 repeat' first | ((first | refine z0 ?_ | (refine zP (fun h => ?_) (fun h => ?_) <;> (try simp only [aB, aD] at h)) | refine zS ?_ | refine zV ?_ | (apply zI; refine zP aK ?_) | (apply zI; refine zP aH ?_) | refine zA ?_ | refine Alt.fst ?_ | refine Or.inl ?_) <;> conv => whnf) | fail
 rfl
theorem Adf (hm : Md m) (o : Bool) (n : Nat) (hn : n ≤ 100) (z : Zm m) (a : PS (Zm m)) : aL Tryz.prog 301 [aA m, aA z.val, LD o n a] (LD true n (PS.C z * a)) := by
 have hm1 := hm.1
 have hm2 := hm.2
 refine aX Tryz.tabOk aE Tryz.func301 rfl rfl ?_
 conv => whnf
 repeat' first | ((first | refine z0 ?_ | (refine zP (fun h => ?_) (fun h => ?_) <;> (try simp only [aB, aD] at h)) | refine zS ?_ | refine zV ?_ | (apply zI; refine zP aK ?_) | (apply zI; refine zP aH ?_) | refine zA ?_ | refine Alt.fst ?_ | refine Or.inl ?_) <;> conv => whnf) | fail
 refine aR Tryz.tabOk aE (α := Nat) (fun i => [(8, aA i), (7, .ref 0 [] 1 0 i), (9, .undef)]) (fun i => [(0, some ⟨false, 1, ints (L i (PS.C z * a))⟩)]) (fun i => i ≤ n) (fun i => n - i) (0) ?_ ?_ ?_
 · omega
 · conv => whnf
   first | refine aG.autoR ?_ | refine aC.autoR ?_
   conv => whnf
   repeat' ((first | refine z1 ?_ | refine zV ?_ | refine zP ?_ ?_ | exact trivial) <;> try (conv => whnf))
 intro i hi
 conv => whnf
 have h1 := hm.mul z (a.c i)
 repeat' first | ((first | refine z0 ?_ | (refine zP (fun h => ?_) (fun h => ?_) <;> (try simp only [aB, aD] at h)) | refine zS ?_ | refine zV ?_ | (apply zI; refine zP aK ?_) | (apply zI; refine zP aH ?_) | refine zA ?_ | refine Alt.fst ?_ | refine Or.inl ?_) <;> conv => whnf) | fail
 · refine Exists.intro (i + 1) (zP aF (zP aF ?_))
   first | refine aG.autoR ?_ | refine aC.autoR ?_
   conv => whnf
   repeat' ((first | refine z1 ?_ | refine zV ?_ | refine zP ?_ ?_ | exact trivial) <;> try (conv => whnf))
   exact cQ (nU (by rw [fF hm, PS.C_mul]))
 · rw [show i = n by simp only [aV] at *; omega]
def iX (n : Nat) (a : PS (Zm m)) (k : Nat) : List (List Int) := (List.range k).map fun i => L n (pw a i)
@[simp] theorem Aan (n : Nat) (a : PS (Zm m)) (k : Nat) : (iX n a k).length = k := by simp [iX]
theorem C8 {n k i : Nat} {a : PS (Zm m)} (h : i < k) : (iX n a k).getD i [] = L n (pw a i) := by simp [iX, h]
theorem Aj2 {n k : Nat} {a : PS (Zm m)} {l : List Int} (h : l = L n (pw a k)) : iX n a k ++ [l] = iX n a (k + 1) := by subst h; simp [iX, List.range_succ]
theorem Amz {n q k : Nat} {a : PS (Zm m)} (h : q = k) : q = (rows true (iX n a k)).length := by rw [aP, Aan]; exact h
theorem G0 {n k i : Nat} {a : PS (Zm m)} (h : i < k) : 0 ≤ (i : Int) ∧ (i : Int) < (cnt 1 (rows true (iX n a k)) : Nat) := by rw [aB, aP, Aan]; omega
theorem At2 (cs : List D) : ∀ d ∈ [D.list true 1 cs], d.one = true := fun d hd => by
 simp only [List.mem_cons, List.not_mem_nil, or_false] at hd
 subst hd; rfl
theorem qB {n k q : Nat} {a : PS (Zm m)} (i : Nat) (e : q = i) (h : i < k) : eK (rows true (iX n a k)) [] q (.list true 1 (ints (L n (pw a i)))) := by
 subst e
 refine ⟨_, rfl, ?_⟩
 rw [mJ (by simpa using h), C8 h]
theorem I4 {n k q : Nat} {a : PS (Zm m)} (i : Nat) (e : q = i) (h : i < k) : bE (rows true (iX n a k)) ([] ++ [q]) = some (ints (L n (pw a i))) := by
 subst e
 rw [List.nil_append, rL (by simpa using h), C8 h]
theorem R8 (hm : Md m) (o : Bool) (n : Nat) (hn : 1 ≤ n ∧ n ≤ 100) (a : PS (Zm m)) : aL Tryz.prog 302 [aA m, LD o n a] (.list true 1 (rows true (iX n a n))) := by
 have hm1 := hm.1
 have hm2 := hm.2
 refine aX Tryz.tabOk aE Tryz.func302 rfl rfl ?_
 conv => whnf
 repeat' first | ((first | refine z0 ?_ | (refine zP (fun h => ?_) (fun h => ?_) <;> (try simp only [aB, aD] at h)) | refine zS ?_ | refine zV ?_ | (apply zI; refine zP aK ?_) | (apply zI; refine zP aH ?_) | refine zA ?_ | refine Alt.fst ?_ | refine Or.inl ?_) <;> conv => whnf) | fail
 refine aR Tryz.tabOk aE (α := Nat) (fun i => [(8, aA i), (7, .ref 1 [] 1 0 (i + 1)), (6, .undef), (14, .undef), (15, .undef), (16, .undef), (17, .undef), (18, .undef)]) (fun i => [(1, some ⟨false, 1, rows true (iX n a (i + 1))⟩)]) (fun i => i + 1 ≤ n) (fun i => n - i) (0) ?_ ?_ ?_
 · omega
 · conv => whnf
   first | refine aG.autoR ?_ | refine aC.autoR ?_
   conv => whnf
   repeat' ((first | refine z1 ?_ | refine zV ?_ | refine zP ?_ ?_ | exact trivial) <;> try (conv => whnf))
   all_goals
     rw [← fT (m := m)]
     refine congrArg (fun x => [D.list true 1 x]) (cQ (eW (1 : Zm m) (Zm.val_one (by omega)).symm (fun k hk => ?_)))
     rw [cL]; rfl
 intro i hi
 conv => whnf
 repeat' first | ((first | refine z0 ?_ | (apply zI; refine zP (qB i aN aF) ?_) | (apply zI; refine zP (I4 i aN aF) ?_) | (apply zI; refine zP (sF hm _ _ n n n aF (by omega) (by omega) (by omega) (by omega) (by omega) (pw a i) a) ?_) | (refine zP (fun h => ?_) (fun h => ?_) <;> (try simp only [aB, aD] at h)) | refine zV ?_ | (apply zI; refine zP aH ?_) | refine zP (Amz (by omega)) ?_ | refine Or.inl ?_) <;> conv => whnf) | fail
 · refine Exists.intro (i + 1) (zP aF (zP aF ?_))
   first | refine aG.autoR ?_ | refine aC.autoR ?_
   conv => whnf
   repeat' ((first | refine z1 ?_ | refine zV ?_ | refine zP ?_ ?_ | exact trivial) <;> try (conv => whnf))
   exact bV (Aj2 rfl)
 · rw [show i + 1 = n by simp only [aV] at *; omega]
theorem C0 (hm : Md m) (o p o' o2 : Bool) (n : Nat) (hn : 1 ≤ n ∧ n ≤ 100) (f : PS (PS (Zm m))) (a b : PS (Zm m)) : aL Tryz.prog 239 [aA m, cH o p n f, LD o' n a, LD o2 n b] (LD true n (cO f a b n)) := by
 have hm1 := hm.1
 have hm2 := hm.2
 refine aX Tryz.tabOk aE Tryz.func239 rfl rfl ?_
 conv => whnf
 repeat' first | ((first | (apply zI; refine zP (R8 hm _ n aF _) ?_) | refine zS ?_ | refine zV ?_ | (apply zI; refine zP aH ?_) | refine Alt.fst ?_ | refine Or.inl ?_) <;> conv => whnf) | fail
 refine aR Tryz.tabOk aE (α := Nat) (fun i => [(13, aA i), (12, .ref 2 [] 1 0 n), (26, .undef)]) (fun i => [(2, some ⟨false, 1, ints (L n (fU f a b n i 0))⟩)]) (fun i => i ≤ n) (fun i => n - i) (0) ?_ ?_ ?_
 · omega
 · conv => whnf
   first | refine aG.autoR ?_ | refine aC.autoR ?_
   conv => whnf
   repeat' ((first | refine z1 ?_ | refine zV ?_ | refine zP ?_ ?_ | exact trivial) <;> try (conv => whnf))
   all_goals (rw [Afp, fT, show ((n : Int) - 1 + 1).toNat = n by omega])
 intro i hi
 conv => whnf
 repeat' first | ((first | refine z0 ?_ | (refine zP (fun h => ?_) (fun h => ?_) <;> (try simp only [aB, aD] at h)) | refine zS ?_ | refine zV ?_ | (apply zI; refine zP aK ?_) | (apply zI; refine zP aH ?_) | refine zA ?_ | refine Alt.fst ?_ | refine Or.inl ?_) <;> conv => whnf) | fail
 · refine aR Tryz.tabOk aE (α := Nat) (fun j => [(14, aA j), (12, .ref 2 [] 1 0 n), (26, .undef)]) (fun j => [(2, some ⟨false, 1, ints (L n (fU f a b n i j))⟩)]) (fun j => j ≤ n - i) (fun j => n - j) (0) ?_ ?_ ?_
   · omega
   · conv => whnf
     first | refine aG.autoR ?_ | refine aC.autoR ?_
     conv => whnf
     repeat' ((first | refine z1 ?_ | refine zV ?_ | refine zP ?_ ?_ | exact trivial) <;> try (conv => whnf))
   intro j hj
   conv => whnf
   repeat' first | ((first | (apply zI; refine zP (qB i aN aF) ?_) | (apply zI; refine zP (I4 i aN aF) ?_) | (apply zI; refine zP (qB j aN aF) ?_) | (apply zI; refine zP (I4 j aN aF) ?_) | (apply zI; refine zP (sF hm _ _ n n n aF (by omega) (by omega) (by omega) (by omega) (by omega) (pw a i) (pw b j)) ?_) | (apply zI; refine zP (Adf hm _ n aF ((f.c i).c j) _) ?_) | (apply zI; refine zP (Ag0 hm _ _ n aF _ _) ?_) | (refine zP (fun h => ?_) (fun h => ?_) <;> (try simp only [aB, aD] at h)) | refine zS ?_ | refine zV ?_ | (apply zI; refine zP aH ?_) | refine zP (G0 aF) ?_ | refine Alt.fst ?_ | refine Or.inl ?_) <;> conv => whnf) | fail
   · refine Exists.intro (j + 1) (zP aF (zP aF ?_))
     first | refine aG.autoR ?_ | refine aC.autoR ?_
     conv => whnf
     repeat' ((first | refine z1 ?_ | refine zV ?_ | refine zP ?_ ?_ | exact trivial) <;> try (conv => whnf))
     exact cQ (dW (Ag.of_eq (C6 f a b n i j).symm))
   · have he := Zm.val_eq_zero.1 (Classical.not_not.1 h)
     refine Exists.intro (j + 1) (zP aF (zP aF ?_))
     first | refine aG.autoR ?_ | refine aC.autoR ?_
     conv => whnf
     repeat' ((first | refine z1 ?_ | refine zV ?_ | refine zP ?_ ?_ | exact trivial) <;> try (conv => whnf))
     exact cQ (dW (Ag.of_eq (Af3 f a b n i j he).symm))
   · have hji : j = n - i := by simp only [aV] at *; omega
     refine Exists.intro (i + 1) (zP aF (zP aF ?_))
     first | refine aG.autoR ?_ | refine aC.autoR ?_
     conv => whnf
     repeat' ((first | refine z1 ?_ | refine zV ?_ | refine zP ?_ ?_ | exact trivial) <;> try (conv => whnf))
     exact cQ (dW (Ag.of_eq (Adj f a b hji)))
 · exact congrArg (fun x => D.list true 1 (ints (L n x))) (by rw [show i = n by simp only [aP, aT] at *; omega]; rfl)
inductive Mul (f : PS (PS (Zm m))) (n : Nat) : Nat → PS (Zm m) → PS (Zm m) → PS (Zm m) → Prop
 | zero (out a : PS (Zm m)) : Mul f n 0 out a out
 | odd (k : Nat) (out a r : PS (Zm m)) (h2 : k % 2 = 1) (h : Mul f n (k / 2) (cO f out a n) (cO f a a n) r) : Mul f n k out a r
 | even (k : Nat) (out a r : PS (Zm m)) (h1 : k ≠ 0) (h2 : k % 2 = 0) (h : Mul f n (k / 2) out (cO f a a n) r) : Mul f n k out a r
theorem Afg (f : PS (PS (Zm m))) (n : Nat) (k : Nat) : ∀ out a, ∃ r, Mul f n k out a r := by
 induction k using Nat.strongRecOn with
 | ind k ih =>
   intro out a
   by_cases h0 : k = 0
   · subst h0; exact ⟨out, .zero _ _⟩
   · rcases (show k % 2 = 1 ∨ k % 2 = 0 by omega) with h | h
     · obtain ⟨r, hr⟩ := ih (k / 2) (by omega) (cO f out a n) (cO f a a n)
       exact ⟨r, .odd _ _ _ _ h hr⟩
     · obtain ⟨r, hr⟩ := ih (k / 2) (by omega) out (cO f a a n)
       exact ⟨r, .even _ _ _ _ h0 h hr⟩
theorem Mul.inv {f : PS (PS (Zm m))} {n k : Nat} {out a r : PS (Zm m)} (h : Mul f n k out a r) : (k = 0 → r = out) ∧ (k % 2 = 1 → Mul f n (k / 2) (cO f out a n) (cO f a a n) r) ∧ (k ≠ 0 → k % 2 = 0 → Mul f n (k / 2) out (cO f a a n) r) := by
 cases h with
 | zero => exact ⟨fun _ => rfl, fun h => by omega, fun h => absurd rfl h⟩
 | odd _ _ _ _ h2 h => exact ⟨fun e => by omega, fun _ => h, fun _ e => by omega⟩
 | even _ _ _ _ h1 h2 h => exact ⟨fun e => absurd e h1, fun e => by omega, fun _ _ => h⟩
theorem Mul.c0 {f : PS (PS (Zm m))} {n k : Nat} {out a r : PS (Zm m)} (hf : (f.c 0).c 0 = 0) (h : Mul f n k out a r) (ho : out.c 0 = 0) (ha : a.c 0 = 0) : r.c 0 = 0 := by
 induction h with
 | zero => exact ho
 | odd _ _ _ _ _ _ ih => exact ih (nF hf ho ha) (nF hf ha ha)
 | even _ _ _ _ _ _ _ ih => exact ih ho (nF hf ha ha)
theorem iQ {P : Program} {T : Tab} {kp : Nat} (hT : TabOk P T) (hm : P.follows .mixedOrders = true) {body : Code} {Q : Exit → St → Prop} {st : St}
   (h : iH P T kp body (fun e st' => match e with
     | .normal => cJ st' (iR P kp body Q)
     | e => Q e st') st) : iR P kp body Q st := Aoq hT hm (by rw [← rR]; exact h)
theorem Ald (hm : Md m) (o p o' : Bool) (n : Nat) (hn : 1 ≤ n ∧ n ≤ 100) (f : PS (PS (Zm m))) (a : PS (Zm m)) (k : Nat) (hk : k ≤ 1000000000000) (r : PS (Zm m)) (hr : Mul f n k 0 a r) {K : Int} (hK : K = k) : aL Tryz.prog 122 [cI m o p n f, aA K, eI m o' n a] (eI m true n r) := by
 subst hK
 have hm1 := hm.1
 have hm2 := hm.2
 refine aX Tryz.tabOk aE Tryz.func122 rfl rfl ?_
 conv => whnf
 repeat' first | ((first | (apply zI; refine zP (iM _ _ _ aF _) ?_) | (apply zI; refine zP (qW n aF aF) ?_) | (refine zP (fun h => ?_) (fun h => ?_) <;> (try simp only [aB, aD] at h) <;> first | (exfalso; omega) | skip) | refine zS ?_ | refine Alt.fst ?_ | refine Or.inl ?_) <;> conv => whnf) | fail
 refine iQ Tryz.tabOk aE ?_
 conv => whnf
 repeat' first | ((first | refine z0 ?_ | (apply zI; refine zP (xX hm _ _ _ _ n hn f _ _) ?_) | (refine zP (fun h => ?_) (fun h => ?_) <;> (try simp only [aB, aD] at h) <;> first | (exfalso; omega) | skip) | refine zV ?_ | (apply zI; refine zP aH ?_) | refine Or.inl ?_) <;> conv => whnf) | fail
 · rw [fS] at h
   refine aR Tryz.tabOk aE (α := PS (Zm m) × PS (Zm m) × Nat) (fun x => [(1, aA x.2.2), (21, .undef), (30, .undef), (32, .undef), (34, .undef), (35, .undef), (36, .undef)]) (fun x => [(10, some ⟨false, 1, ints (L n x.2.1)⟩), (8, some ⟨false, 1, ints (L n x.1)⟩), (1, some ⟨true, 1, [aA m, .ref 10 [] 1 0 n]⟩), (6, some ⟨true, 1, [aA m, .ref 8 [] 1 0 n]⟩)]) (fun x => Mul f n x.2.2 x.1 x.2.1 r ∧ x.2.2 ≤ 1000000000000) (fun x => x.2.2) (cO f 0 a n, cO f a a n, k / 2) ?_ ?_ ?_
   · exact ⟨hr.inv.2.1 (by omega), by simp only; omega⟩
   · conv => whnf
     first | refine aG.autoR ?_ | refine aC.autoR ?_
     conv => whnf
     repeat' ((first | refine z1 ?_ | refine zV ?_ | exact trivial) <;> try (conv => whnf))
   intro ⟨x, y, q⟩ ⟨hx, hq⟩
   simp only at hx hq
   conv => whnf
   repeat' first | ((first | refine z0 ?_ | (apply zI; refine zP (xX hm _ _ _ _ n hn f _ _) ?_) | (refine zP (fun h => ?_) (fun h => ?_) <;> (try simp only [aB, aD] at h) <;> first | (exfalso; omega) | skip) | refine zV ?_ | (apply zI; refine zP aH ?_) | refine Or.inl ?_) <;> conv => whnf) | fail
   · rw [fS] at h
     refine Exists.intro (cO f x y n, cO f y y n, q / 2) (zP ⟨hx.inv.2.1 (by omega), by simp only; omega⟩ (zP (by simp only; omega) ?_))
     first | refine aG.autoR ?_ | refine aC.autoR ?_
     conv => whnf
     repeat' ((first | refine z1 ?_ | refine zV ?_ | exact trivial) <;> try (conv => whnf))
   · rw [fS] at h
     refine Exists.intro (x, cO f y y n, q / 2) (zP ⟨hx.inv.2.2 (by omega) (by omega), by simp only; omega⟩ (zP (by simp only; omega) ?_))
     first | refine aG.autoR ?_ | refine aC.autoR ?_
     conv => whnf
     repeat' ((first | refine z1 ?_ | refine zV ?_ | exact trivial) <;> try (conv => whnf))
   · have hq0 : q = 0 := by omega
     subst hq0
     rw [hx.inv.1 rfl]
 · rw [fS] at h
   refine aR Tryz.tabOk aE (α := PS (Zm m) × PS (Zm m) × Nat) (fun x => [(1, aA x.2.2), (21, .undef), (30, .undef), (32, .undef), (34, .undef), (35, .undef), (36, .undef)]) (fun x => [(8, some ⟨false, 1, ints (L n x.2.1)⟩), (5, some ⟨false, 1, ints (L n x.1)⟩), (1, some ⟨true, 1, [aA m, .ref 8 [] 1 0 n]⟩), (6, some ⟨true, 1, [aA m, .ref 5 [] 1 0 n]⟩)]) (fun x => Mul f n x.2.2 x.1 x.2.1 r ∧ x.2.2 ≤ 1000000000000) (fun x => x.2.2) (0, cO f a a n, k / 2) ?_ ?_ ?_
   · exact ⟨hr.inv.2.2 (by omega) (by omega), by simp only; omega⟩
   · conv => whnf
     first | refine aG.autoR ?_ | refine aC.autoR ?_
     conv => whnf
     repeat' ((first | refine z1 ?_ | refine zV ?_ | exact trivial) <;> try (conv => whnf))
   intro ⟨x, y, q⟩ ⟨hx, hq⟩
   simp only at hx hq
   conv => whnf
   repeat' first | ((first | refine z0 ?_ | (apply zI; refine zP (xX hm _ _ _ _ n hn f _ _) ?_) | (refine zP (fun h => ?_) (fun h => ?_) <;> (try simp only [aB, aD] at h) <;> first | (exfalso; omega) | skip) | refine zV ?_ | (apply zI; refine zP aH ?_) | refine Or.inl ?_) <;> conv => whnf) | fail
   · rw [fS] at h
     refine Exists.intro (cO f x y n, cO f y y n, q / 2) (zP ⟨hx.inv.2.1 (by omega), by simp only; omega⟩ (zP (by simp only; omega) ?_))
     first | refine aG.autoR ?_ | refine aC.autoR ?_
     conv => whnf
     repeat' ((first | refine z1 ?_ | refine zV ?_ | exact trivial) <;> try (conv => whnf))
   · rw [fS] at h
     refine Exists.intro (x, cO f y y n, q / 2) (zP ⟨hx.inv.2.2 (by omega) (by omega), by simp only; omega⟩ (zP (by simp only; omega) ?_))
     first | refine aG.autoR ?_ | refine aC.autoR ?_
     conv => whnf
     repeat' ((first | refine z1 ?_ | refine zV ?_ | exact trivial) <;> try (conv => whnf))
   · have hq0 : q = 0 := by omega
     subst hq0
     rw [hx.inv.1 rfl]
 · have hk0 : k = 0 := by omega
   subst hk0
   rw [hr.inv.1 rfl]
theorem An0 (hm : Md m) (o p o' : Bool) (n : Nat) (hn : 1 ≤ n ∧ n ≤ 100) (f : PS (PS (Zm m))) (a : PS (Zm m)) (k : Nat) (hk : k ≤ 1000000000000) (r : PS (Zm m)) (hr : Mul f n k 0 a r) {K : Int} (hK : K = k) : aL Tryz.prog 241 [cI m o p n f, aA K, LD o' n a] (LD true n r) := by
 subst hK
 have hm1 := hm.1
 have hm2 := hm.2
 refine aX Tryz.tabOk aE Tryz.func241 rfl rfl ?_
 conv => whnf
 repeat' first | ((first | refine z0 ?_ | (refine zP (fun h => ?_) (fun h => ?_) <;> (try simp only [aB, aD] at h) <;> first | (exfalso; omega) | skip) | refine zS ?_ | refine zV ?_ | (apply zI; refine zP aK ?_) | (apply zI; refine zP aH ?_)) <;> conv => whnf) | fail
 rw [show List.replicate n 0 = L n (0 : PS (Zm m)) from (fT n).symm]
 refine iQ Tryz.tabOk aE ?_
 conv => whnf
 repeat' first | ((first | refine z0 ?_ | (apply zI; refine zP (C0 hm _ _ _ _ n hn f _ _) ?_) | (refine zP (fun h => ?_) (fun h => ?_) <;> (try simp only [aB, aD] at h) <;> first | (exfalso; omega) | skip) | refine zV ?_ | (apply zI; refine zP aH ?_) | refine Or.inl ?_) <;> conv => whnf) | fail
 · rw [fS] at h
   refine aR Tryz.tabOk aE (α := PS (Zm m) × PS (Zm m) × Nat) (fun x => [(1, aA x.2.2), (2, .ref 3 [] 1 0 n), (7, .ref 2 [] 1 0 n), (19, .undef), (31, .undef), (33, .undef), (38, .undef), (39, .undef), (40, .undef)]) (fun x => [(3, some ⟨false, 1, ints (L n x.2.1)⟩), (2, some ⟨false, 1, ints (L n x.1)⟩)]) (fun x => Mul f n x.2.2 x.1 x.2.1 r ∧ x.2.2 ≤ 1000000000000) (fun x => x.2.2) (cO f 0 a n, cO f a a n, k / 2) ?_ ?_ ?_
   · exact ⟨hr.inv.2.1 (by omega), by simp only; omega⟩
   · conv => whnf
     first | refine aG.autoR ?_ | refine aC.autoR ?_
     conv => whnf
     repeat' ((first | refine z1 ?_ | refine zV ?_ | exact trivial) <;> try (conv => whnf))
   intro ⟨x, y, q⟩ ⟨hx, hq⟩
   simp only at hx hq
   conv => whnf
   repeat' first | ((first | refine z0 ?_ | (apply zI; refine zP (C0 hm _ _ _ _ n hn f _ _) ?_) | (refine zP (fun h => ?_) (fun h => ?_) <;> (try simp only [aB, aD] at h) <;> first | (exfalso; omega) | skip) | refine zV ?_ | (apply zI; refine zP aH ?_) | refine Or.inl ?_) <;> conv => whnf) | fail
   · rw [fS] at h
     refine Exists.intro (cO f x y n, cO f y y n, q / 2) (zP ⟨hx.inv.2.1 (by omega), by simp only; omega⟩ (zP (by simp only; omega) ?_))
     first | refine aG.autoR ?_ | refine aC.autoR ?_
     conv => whnf
     repeat' ((first | refine z1 ?_ | refine zV ?_ | exact trivial) <;> try (conv => whnf))
   · rw [fS] at h
     refine Exists.intro (x, cO f y y n, q / 2) (zP ⟨hx.inv.2.2 (by omega) (by omega), by simp only; omega⟩ (zP (by simp only; omega) ?_))
     first | refine aG.autoR ?_ | refine aC.autoR ?_
     conv => whnf
     repeat' ((first | refine z1 ?_ | refine zV ?_ | exact trivial) <;> try (conv => whnf))
   · have hq0 : q = 0 := by omega
     subst hq0
     rw [hx.inv.1 rfl]
 · rw [fS] at h
   refine aR Tryz.tabOk aE (α := PS (Zm m) × PS (Zm m) × Nat) (fun x => [(1, aA x.2.2), (2, .ref 2 [] 1 0 n), (7, .ref 1 [] 1 0 n), (19, .undef), (31, .undef), (33, .undef), (38, .undef), (39, .undef), (40, .undef)]) (fun x => [(2, some ⟨false, 1, ints (L n x.2.1)⟩), (1, some ⟨false, 1, ints (L n x.1)⟩)]) (fun x => Mul f n x.2.2 x.1 x.2.1 r ∧ x.2.2 ≤ 1000000000000) (fun x => x.2.2) (0, cO f a a n, k / 2) ?_ ?_ ?_
   · exact ⟨hr.inv.2.2 (by omega) (by omega), by simp only; omega⟩
   · conv => whnf
     first | refine aG.autoR ?_ | refine aC.autoR ?_
     conv => whnf
     repeat' ((first | refine z1 ?_ | refine zV ?_ | exact trivial) <;> try (conv => whnf))
   intro ⟨x, y, q⟩ ⟨hx, hq⟩
   simp only at hx hq
   conv => whnf
   repeat' first | ((first | refine z0 ?_ | (apply zI; refine zP (C0 hm _ _ _ _ n hn f _ _) ?_) | (refine zP (fun h => ?_) (fun h => ?_) <;> (try simp only [aB, aD] at h) <;> first | (exfalso; omega) | skip) | refine zV ?_ | (apply zI; refine zP aH ?_) | refine Or.inl ?_) <;> conv => whnf) | fail
   · rw [fS] at h
     refine Exists.intro (cO f x y n, cO f y y n, q / 2) (zP ⟨hx.inv.2.1 (by omega), by simp only; omega⟩ (zP (by simp only; omega) ?_))
     first | refine aG.autoR ?_ | refine aC.autoR ?_
     conv => whnf
     repeat' ((first | refine z1 ?_ | refine zV ?_ | exact trivial) <;> try (conv => whnf))
   · rw [fS] at h
     refine Exists.intro (x, cO f y y n, q / 2) (zP ⟨hx.inv.2.2 (by omega) (by omega), by simp only; omega⟩ (zP (by simp only; omega) ?_))
     first | refine aG.autoR ?_ | refine aC.autoR ?_
     conv => whnf
     repeat' ((first | refine z1 ?_ | refine zV ?_ | exact trivial) <;> try (conv => whnf))
   · have hq0 : q = 0 := by omega
     subst hq0
     rw [hx.inv.1 rfl]
 · have hk0 : k = 0 := by omega
   subst hk0
   rw [hr.inv.1 rfl]
end Go.Proofs
