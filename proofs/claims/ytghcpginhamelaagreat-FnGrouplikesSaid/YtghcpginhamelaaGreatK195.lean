/- Parts of the proof. -/
import Derived.Test.YtghcpginhamelaaGreatKR5
import Derived.Test.YtghcpginhamelaaGreatK187
import Derived.Test.YtghcpginhamelaaGreatK127
import Derived.Test.YtghcpginhamelaaGreatVm43
namespace Go.Proofs
open Go Go.Vm Go.Fg Go.Fg.PS
set_option maxRecDepth 100000
set_option maxHeartbeats 40000000
set_option linter.unusedSimpArgs false
set_option linter.unusedVariables false
variable {m : Int}
theorem kK (m : Int) (t : List (List Int)) : aI m t ≤ t.length := by
 unfold aI fW gY
 split
 · rename_i i h
   exact Nat.le_of_lt (tD h).1
 · omega
theorem Af8 {m : Int} {t : List (List Int)} (h : bW m t = 0) : ∃ p k : Nat, (p = 2 ∨ p = 3 ∨ p = 5 ∨ p = 7) ∧ m = p ∧ aI m t = p ^ k := by
 have hht : cT m t = 0 := by
   unfold bW at h
   split at h
   · assumption
   · exact h
 have hq : aI m t ≠ 0 := by
   intro e
   unfold bW at h
   rw [if_pos hht, if_pos e] at h
   omega
 obtain ⟨hA, hpr⟩ := fN hht
 obtain ⟨⟨hmd, hn⟩, eT, hL⟩ := L0 hA
 obtain ⟨p, rfl, hp⟩ := tT hpr
 have h2 := mB h hht
 have h3 := (Abx hA hq).1
 obtain ⟨k, hk⟩ := Aad hp ⟨h2, by omega⟩ (Af5 hht hq)
 exact ⟨p, k, hp, rfl, hk⟩
theorem E2 {p : Nat} {t : List (List Int)} (h : kC (p : Int) t = 0) (hp : p = 2 ∨ p = 3 ∨ p = 5 ∨ p = 7) : Go.Fg.L (aI (p : Int) t) (0 : PS (Zm (p : Int))) ∈ ext p (bU false (aI (p : Int) t) (aZ (p : Int) t)) (aI (p : Int) t) [] := by
 obtain ⟨hm, hq, hL, hb⟩ := pI h
 generalize aI (p : Int) t = q at *
 have hp2 : 2 ≤ p := by omega
 have hmem := mZ (p := p) (by omega) (bU false q (aZ (p : Int) t)) q
 have hr : ∀ x ∈ Go.Fg.L q (0 : PS (Zm (p : Int))), 0 ≤ x ∧ x < (p : Int) := xZ hm q _
 refine (hmem _).2 ⟨⟨by simp, hr⟩, (A7 hp2 (by omega) _ hr (by simp)).2 ?_⟩
 have e := wR q (0 : PS (Zm (p : Int)))
 refine ⟨e 0 (by omega), ?_⟩
 rw [Q3 _ e]
 have e2 : bC (0 : PS (Zm (p : Int))) (aZ (p : Int) t) 0 q = 0 := by
   unfold bC
   refine dH (fun i _ => ?_)
   rw [lT, C_zero, C_zero, Go.Fg.zero_mul]
 rw [e2]
 intro i j hi hj
 rw [add_c, add_c]
 show (0 : Zm (p : Int)) = (C ((rd (p : Int) (Go.Fg.L q 0)).c i)).c j + ((C (rd (p : Int) (Go.Fg.L q 0)) : PS (PS (Zm (p : Int)))).c i).c j
 rw [dN, dN, e i hi]
 have h2 : (if j = 0 then (0 : PS (Zm (p : Int))).c i else 0) = 0 := by split <;> rfl
 rw [h2, CR.zero_add]
 split
 · rw [e j hj]; rfl
 · rfl
theorem E3 {p : Nat} (hp : 2 ≤ p) {k j : Nat} (h : j < k) : ((p ^ (k - j) : Nat) : Int).tmod p = 0 ∧ ((p ^ (k - j) : Nat) : Int).tdiv p = ((p ^ (k - (j + 1)) : Nat) : Int) := by
 have e : p ^ (k - j) = p ^ (k - (j + 1)) * p := by
   rw [← Nat.pow_succ]
   exact congrArg (p ^ ·) (by omega)
 rw [e, Int.natCast_mul]
 exact ⟨Int.mul_tmod_left _ _, Int.mul_tdiv_cancel _ (by omega)⟩
theorem G8 {p : Nat} (hp : 2 ≤ p) (k : Nat) : ((p ^ (k - k) : Nat) : Int).tmod p = 1 ∧ ((p ^ (k - k) : Nat) : Int) = 1 := by
 rw [Nat.sub_self, Nat.pow_zero]
 exact ⟨Int.tmod_eq_of_lt (by omega) (by omega), rfl⟩
theorem N3 {p : Nat} (hp : 2 ≤ p) : ¬ (1 : Int).tmod p = 0 := by
 rw [Int.tmod_eq_of_lt (by omega) (by omega)]; omega
theorem mN {t : List (List Int)} {q i : Nat} (e : q = i) (h : i < t.length) : bE (rows true t) [q] = some (ints (t.getD i [])) := by
 subst e; exact rL h
theorem B5 {u : List Int} {j : Nat} (h : j < u.length) : u.getD j 0 ∈ u := by
 rw [List.getD_eq_getElem?_getD, List.getElem?_eq_getElem h]; exact List.getElem_mem _
theorem Afy {G : List (List Int)} {P : List Int} {j : Nat} (hb9 : false = true ↔ ∃ i, i < j ∧ G.getD i [] = P) (hjp : ¬ G.getD j [] = P) : (false = true ↔ ∃ i, i < j + 1 ∧ G.getD i [] = P) :=
 ⟨fun h => (by cases h), fun ⟨i9, h1, h2⟩ => (by
   rcases Nat.lt_or_ge i9 j with h3 | h3
   · exact hb9.2 ⟨i9, h3, h2⟩
   · exact absurd (by rw [← h2, show i9 = j by omega]) hjp)⟩
abbrev kU (n : Nat) (cs : List (Nat × D)) (rt : List (Option Root)) : Prop := dF Tryz.prog 0 Tryz.f7 n (C4 Tryz.tab Tryz.f7 (bD true)) (Aph Tryz.f7.ntmps cs rt)
abbrev rI (ds : List D) : Option Root := some ⟨true, 1, ds⟩
theorem T4 (hW : Wei) {m : Int} (t G S : List (List Int)) (c : Int) (l : List Nat) (hb : ∀ b ∈ l, b < 256) (hl : l.length ≤ 9223372036854775807) (h0 : ¬ 4096 < l.length) (next : kU 27 [(0, .list false 1 (dR l)), (3, .ptr 1 [] 0), (4, .ref 2 [] 1 0 G.length), (5, aA 0), (8, .ref 3 [] 1 0 S.length)] [none, rI [aA m, .list false 1 (rows false t)], some ⟨false, 1, rows true G⟩, some ⟨false, 1, rows true S⟩]) :
   kU 19 [(0, .list false 1 (dR l)), (3, .ptr 1 [] 0), (4, .ref 2 [] 1 0 G.length), (5, aA 0), (8, .ref 3 [] 1 0 S.length)] [none, rI [aA m, .list false 1 (rows false t)], some ⟨false, 1, rows true G⟩, some ⟨false, 1, rows true S⟩] := by
 refine pO Tryz.tabOk aE _ 19 8 ?_
 conv => whnf
 repeat' first | (refine bM [] (Afq hW false l hb (by omega)) (fun d rt' hd => ?_)) | fail
 obtain ⟨m2, t2, ⟨hm2, ht2⟩, rfl, rfl⟩ := hd
 refine ⟨rfl, by simp, ?_⟩
 conv => whnf
 have s2 := kY ht2
 have g1 := fun o p => Aci o p m2 t2 s2.1 s2.2
 have g2 := fun o p => Aeu o p m2 t2 s2.1 s2.2
 unfold mH at g1 g2
 have htl2 := ht2.1
 have hq2 := kK m2 t2
 obtain ⟨Z, hZ⟩ : ∃ Z, Z = L (aI m2 t2) (kF t2.length (aZ m2 t2)) := ⟨_, rfl⟩
 have hZl : Z.length ≤ 12 := by rw [hZ]; simp; omega
 simp only [LD, ← hZ] at g1 g2
 clear hZ
 by_cases hc : kC m2 t2 = 0
 · rw [if_pos hc] at g1 g2
   repeat' first | (refine bM [] (A5 hW false l hb (by omega)) (fun d rt' hd => ?_)) | ((first | (apply zI; refine zP (g1 _ _) ?_) | (apply zI; refine zP (g2 _ _) ?_) | refine Or.inl ?_) <;> conv => whnf) | fail
   obtain ⟨m3, t3, ⟨hm3, ht3⟩, rfl, rfl⟩ := hd
   refine ⟨rfl, by simp, ?_⟩
   conv => whnf
   have s3 := kY ht3
   have g3 := fun o p => yE o p m3 t3 s3.1 s3.2
   have g4 := fun o p => xP o p m3 t3 s3.1 s3.2
   unfold kL at g3 g4
   have htl3 := ht3.1
   have hq3 := kK m3 t3
   have r5 := fun o p o' p' => sJ o p o' p' (bA (aI m3 t3) (aZ m3 t3)) (by simp; omega) (fun i hi => by rw [iU _ (by simpa using hi)]; simp; omega)
   obtain ⟨Y, hY⟩ : ∃ Y, Y = bA (aI m3 t3) (aZ m3 t3) := ⟨_, rfl⟩
   have hYl : Y.length ≤ 12 := by rw [hY]; simp; omega
   simp only [gE, ← hY] at g3 g4 r5
   clear hY
   by_cases hc3 : kC m3 t3 = 0
   · rw [if_pos hc3] at g3 g4
     repeat' first | ((first | (apply zI; refine zP (g3 _ _) ?_) | (apply zI; refine zP (g4 _ _) ?_) | (apply zI; refine zP (r5 _ _ _ _) ?_) | (apply zI; refine zP (lG _ _ _ _ (by first | omega | (simp; omega)) (by first | omega | (simp; omega))) ?_) | (apply zI; refine zP (pW) ?_) | (refine zP (fun h => ?_) (fun h => ?_) <;> (try simp only [aB, aD, aP, aT, aV, bB] at h) <;> first | (exfalso; first | omega | exact h trivial | (cases h; done)) | skip) | refine zV ?_ | (apply zI; refine zP aK ?_) | (apply zI; refine zP aH ?_) | refine Or.inl ?_) <;> conv => whnf) | fail
     all_goals first | (refine dF.weak (next) (eB (kp := 0) [none, some 1, some 2, some 3]))
   · rw [if_neg hc3] at g3 g4
     generalize kC m3 t3 = c7 at *
     repeat' first | ((first | (apply zI; refine zP (g3 _ _) ?_) | (apply zI; refine zP (g4 _ _) ?_) | (apply zI; refine zP (vM) ?_) | (apply zI; refine zP (lG _ _ _ _ (by first | omega | (simp; omega)) (by first | omega | (simp; omega))) ?_) | (apply zI; refine zP (pW) ?_) | (refine zP (fun h => ?_) (fun h => ?_) <;> (try simp only [aB, aD, aP, aT, aV, bB] at h) <;> first | (exfalso; first | omega | exact h trivial | (cases h; done)) | skip) | refine zV ?_ | (apply zI; refine zP aH ?_) | refine Or.inl ?_) <;> conv => whnf) | fail
     all_goals first | (refine dF.weak (next) (eB (kp := 0) [none, some 1, some 2, some 3]))
 · rw [if_neg hc] at g1 g2
   generalize kC m2 t2 = c8 at *
   repeat' first | (refine bM [] (A5 hW false l hb (by omega)) (fun d rt' hd => ?_)) | ((first | (apply zI; refine zP (g1 _ _) ?_) | (apply zI; refine zP (g2 _ _) ?_) | refine Or.inl ?_) <;> conv => whnf) | fail
   obtain ⟨m3, t3, ⟨hm3, ht3⟩, rfl, rfl⟩ := hd
   refine ⟨rfl, by simp, ?_⟩
   conv => whnf
   have s3 := kY ht3
   have g3 := fun o p => yE o p m3 t3 s3.1 s3.2
   have g4 := fun o p => xP o p m3 t3 s3.1 s3.2
   unfold kL at g3 g4
   have htl3 := ht3.1
   have hq3 := kK m3 t3
   have r5 := fun o p o' p' => sJ o p o' p' (bA (aI m3 t3) (aZ m3 t3)) (by simp; omega) (fun i hi => by rw [iU _ (by simpa using hi)]; simp; omega)
   obtain ⟨Y, hY⟩ : ∃ Y, Y = bA (aI m3 t3) (aZ m3 t3) := ⟨_, rfl⟩
   have hYl : Y.length ≤ 12 := by rw [hY]; simp; omega
   simp only [gE, ← hY] at g3 g4 r5
   clear hY
   by_cases hc3 : kC m3 t3 = 0
   · rw [if_pos hc3] at g3 g4
     repeat' first | ((first | (apply zI; refine zP (g3 _ _) ?_) | (apply zI; refine zP (g4 _ _) ?_) | (apply zI; refine zP (r5 _ _ _ _) ?_) | (apply zI; refine zP (lG _ _ _ _ (by first | omega | (simp; omega)) (by first | omega | (simp; omega))) ?_) | (apply zI; refine zP (pW) ?_) | (refine zP (fun h => ?_) (fun h => ?_) <;> (try simp only [aB, aD, aP, aT, aV, bB] at h) <;> first | (exfalso; first | omega | exact h trivial | (cases h; done)) | skip) | refine zV ?_ | (apply zI; refine zP aK ?_) | (apply zI; refine zP aH ?_) | refine Or.inl ?_) <;> conv => whnf) | fail
     all_goals first | (refine dF.weak (next) (eB (kp := 0) [none, some 1, some 2, some 3]))
   · rw [if_neg hc3] at g3 g4
     generalize kC m3 t3 = c7 at *
     repeat' first | ((first | (apply zI; refine zP (g3 _ _) ?_) | (apply zI; refine zP (g4 _ _) ?_) | (apply zI; refine zP (vM) ?_) | (apply zI; refine zP (lG _ _ _ _ (by first | omega | (simp; omega)) (by first | omega | (simp; omega))) ?_) | (apply zI; refine zP (pW) ?_) | (refine zP (fun h => ?_) (fun h => ?_) <;> (try simp only [aB, aD, aP, aT, aV, bB] at h) <;> first | (exfalso; first | omega | exact h trivial | (cases h; done)) | skip) | refine zV ?_ | (apply zI; refine zP aH ?_) | refine Or.inl ?_) <;> conv => whnf) | fail
     all_goals first | (refine dF.weak (next) (eB (kp := 0) [none, some 1, some 2, some 3]))
theorem Ahk (hW : Wei) {m : Int} (t G S : List (List Int)) (c : Int) (l : List Nat) (hb : ∀ b ∈ l, b < 256) (hl : l.length ≤ 9223372036854775807) (h0 : ¬ 4096 < l.length) (next : kU 27 [(0, .list false 1 (dR l)), (3, .ptr 1 [] 0), (4, .ref 2 [] 1 0 G.length), (5, aA 0), (8, .ref 3 [] 1 0 S.length)] [none, rI [aA m, .list false 1 (rows false t)], some ⟨false, 1, rows true G⟩, some ⟨false, 1, rows true S⟩]) :
   kU 12 [(0, .list false 1 (dR l)), (3, .ptr 1 [] 0), (4, .ref 2 [] 1 0 G.length), (5, aA 0), (8, .ref 3 [] 1 0 S.length)] [none, rI [aA m, .list false 1 (rows false t)], some ⟨false, 1, rows true G⟩, some ⟨false, 1, rows true S⟩] := by
 refine pO Tryz.tabOk aE _ 12 7 ?_
 conv => whnf
 repeat' first | (refine bM [] (Ac2 hW false l hb (by omega)) (fun d rt' hd => ?_)) | fail
 obtain ⟨m2, t2, ⟨hm2, ht2⟩, rfl, rfl⟩ := hd
 refine ⟨rfl, by simp, ?_⟩
 conv => whnf
 have s2 := kY ht2
 have g1 := fun o p => Ado o p m2 t2 s2.1 s2.2
 have g2 := fun o p => Z3 o p m2 t2 s2.1 s2.2
 unfold qH at g1 g2
 by_cases hc : bW m2 t2 = 0
 · obtain ⟨p2, k, hp2, rfl, hq⟩ := Af8 hc
   rw [if_pos hc, hc, hq] at g1 g2
   have hp22 : 2 ≤ p2 := by omega
   have hpk : p2 ^ k ≤ 11 := by rw [← hq]; have := kK (p2 : Int) t2; have := ht2.1; omega
   have hpj : ∀ i, i ≤ k → 1 ≤ p2 ^ i ∧ p2 ^ i ≤ 11 := fun i hi => ⟨Nat.one_le_pow _ _ (by omega), Nat.le_trans (Nat.pow_le_pow_right (by omega) hi) hpk⟩
   clear hq hc
   repeat' first | ((first | (apply zI; refine zP (g1 _ _) ?_) | (apply zI; refine zP (g2 _ _) ?_) | (refine zP (fun h => ?_) (fun h => ?_) <;> (try simp only [aB, aD, aP, aT, aV, bB] at h) <;> first | (exfalso; first | omega | exact h trivial | (cases h; done)) | skip) | refine Or.inl ?_) <;> conv => whnf) | fail
   refine aR Tryz.tabOk aE (α := Nat) (fun j => [(17, aA ((p2 ^ (k - j) : Nat) : Int))]) (fun j => []) (fun j => j ≤ k) (fun j => k - j) (0) ?_ ?_ ?_
   · omega
   · conv => whnf
     first | refine aG.autoR ?_ | refine aC.autoR ?_
     conv => whnf
     repeat' ((first | refine z1 ?_ | refine z2 ?_ | refine zP ?_ ?_ | exact trivial) <;> try (conv => whnf))
   intro j hj
   conv => whnf
   by_cases hjk : j < k
   · obtain ⟨w1, w2⟩ := E3 (show 2 ≤ p2 by omega) hjk
     have w5 := hpj (k - j) (by omega)
     have w6 := hpj (k - (j + 1)) (by omega)
     repeat' first | ((first | (refine zP (fun h => ?_) (fun h => ?_) <;> (try simp only [aB, aD, aP, aT, aV, bB] at h) <;> first | (exfalso; first | omega | exact h trivial | (cases h; done)) | skip) | refine zV ?_) <;> conv => whnf) | fail
     · refine Exists.intro (j + 1) ⟨?_, ?_, ?_⟩
       · omega
       · omega
       first | refine aG.autoR ?_ | refine aC.autoR ?_
       conv => whnf
       repeat' ((first | refine z1 ?_ | refine z2 ?_ | refine zP ?_ ?_ | exact trivial) <;> try (conv => whnf))
       all_goals first | exact w2 | exact congrArg aA w2
     all_goals first | (exfalso; simp_all; done)
   · obtain rfl : j = k := by omega
     obtain ⟨w1, w2⟩ := G8 (show 2 ≤ p2 by omega) j
     rw [w2]
     have w3 := N3 (show 2 ≤ p2 by omega)
     repeat' first | ((first | refine z0 ?_ | (refine zP (fun h => ?_) (fun h => ?_) <;> (try simp only [aB, aD, aP, aT, aV, bB] at h) <;> first | (exfalso; first | omega | exact h trivial | (cases h; done)) | skip) | refine zV ?_ | (apply zI; refine zP aK ?_) | (apply zI; refine zP aH ?_)) <;> conv => whnf) | fail
     all_goals first | (refine dF.weak (T4 (m := m) hW t G S c l hb hl h0 next) (eB (kp := 0) [none, some 1, some 2, some 3]))
 · rw [if_neg hc] at g1 g2
   generalize bW m2 t2 = c9 at *
   repeat' first | ((first | (apply zI; refine zP (g1 _ _) ?_) | (apply zI; refine zP (g2 _ _) ?_) | (refine zP (fun h => ?_) (fun h => ?_) <;> (try simp only [aB, aD, aP, aT, aV, bB] at h) <;> first | (exfalso; first | omega | exact h trivial | (cases h; done)) | skip) | refine Or.inl ?_) <;> conv => whnf) | fail
   all_goals first | (refine dF.weak (T4 (m := m) hW t G S c l hb hl h0 next) (eB (kp := 0) [none, some 1, some 2, some 3]))
theorem Afj (hW : Wei) {m : Int} (t G S : List (List Int)) (c : Int) (l : List Nat) (hb : ∀ b ∈ l, b < 256) (hl : l.length ≤ 9223372036854775807) (h0 : ¬ 4096 < l.length) (next : kU 27 [(0, .list false 1 (dR l)), (4, .lit (.slice none 0 0)), (5, aA c), (8, .lit (.slice none 0 0))] [none]) :
   kU 19 [(0, .list false 1 (dR l)), (4, .lit (.slice none 0 0)), (5, aA c), (8, .lit (.slice none 0 0))] [none] := by
 refine pO Tryz.tabOk aE _ 19 8 ?_
 conv => whnf
 repeat' first | (refine bM [] (Afq hW false l hb (by omega)) (fun d rt' hd => ?_)) | fail
 obtain ⟨m2, t2, ⟨hm2, ht2⟩, rfl, rfl⟩ := hd
 refine ⟨rfl, by simp, ?_⟩
 conv => whnf
 have s2 := kY ht2
 have g1 := fun o p => Aci o p m2 t2 s2.1 s2.2
 have g2 := fun o p => Aeu o p m2 t2 s2.1 s2.2
 unfold mH at g1 g2
 have htl2 := ht2.1
 have hq2 := kK m2 t2
 obtain ⟨Z, hZ⟩ : ∃ Z, Z = L (aI m2 t2) (kF t2.length (aZ m2 t2)) := ⟨_, rfl⟩
 have hZl : Z.length ≤ 12 := by rw [hZ]; simp; omega
 simp only [LD, ← hZ] at g1 g2
 clear hZ
 by_cases hc : kC m2 t2 = 0
 · rw [if_pos hc] at g1 g2
   repeat' first | (refine bM [] (A5 hW false l hb (by omega)) (fun d rt' hd => ?_)) | ((first | (apply zI; refine zP (g1 _ _) ?_) | (apply zI; refine zP (g2 _ _) ?_) | refine Or.inl ?_) <;> conv => whnf) | fail
   obtain ⟨m3, t3, ⟨hm3, ht3⟩, rfl, rfl⟩ := hd
   refine ⟨rfl, by simp, ?_⟩
   conv => whnf
   have s3 := kY ht3
   have g3 := fun o p => yE o p m3 t3 s3.1 s3.2
   have g4 := fun o p => xP o p m3 t3 s3.1 s3.2
   unfold kL at g3 g4
   have htl3 := ht3.1
   have hq3 := kK m3 t3
   have r5 := fun o p o' p' => sJ o p o' p' (bA (aI m3 t3) (aZ m3 t3)) (by simp; omega) (fun i hi => by rw [iU _ (by simpa using hi)]; simp; omega)
   obtain ⟨Y, hY⟩ : ∃ Y, Y = bA (aI m3 t3) (aZ m3 t3) := ⟨_, rfl⟩
   have hYl : Y.length ≤ 12 := by rw [hY]; simp; omega
   simp only [gE, ← hY] at g3 g4 r5
   clear hY
   by_cases hc3 : kC m3 t3 = 0
   · rw [if_pos hc3] at g3 g4
     repeat' first | ((first | (apply zI; refine zP (g3 _ _) ?_) | (apply zI; refine zP (g4 _ _) ?_) | (apply zI; refine zP (r5 _ _ _ _) ?_) | (apply zI; refine zP (lG _ _ _ _ (by first | omega | (simp; omega)) (by first | omega | (simp; omega))) ?_) | (apply zI; refine zP (pW) ?_) | (refine zP (fun h => ?_) (fun h => ?_) <;> (try simp only [aB, aD, aP, aT, aV, bB] at h) <;> first | (exfalso; first | omega | exact h trivial | (cases h; done)) | skip) | refine zV ?_ | (apply zI; refine zP aK ?_) | (apply zI; refine zP aH ?_) | refine Or.inl ?_) <;> conv => whnf) | fail
     all_goals first | (refine dF.weak (next) (eB (kp := 0) [none]))
   · rw [if_neg hc3] at g3 g4
     generalize kC m3 t3 = c7 at *
     repeat' first | ((first | (apply zI; refine zP (g3 _ _) ?_) | (apply zI; refine zP (g4 _ _) ?_) | (apply zI; refine zP (vM) ?_) | (apply zI; refine zP (lG _ _ _ _ (by first | omega | (simp; omega)) (by first | omega | (simp; omega))) ?_) | (apply zI; refine zP (pW) ?_) | (refine zP (fun h => ?_) (fun h => ?_) <;> (try simp only [aB, aD, aP, aT, aV, bB] at h) <;> first | (exfalso; first | omega | exact h trivial | (cases h; done)) | skip) | refine zV ?_ | (apply zI; refine zP aH ?_) | refine Or.inl ?_) <;> conv => whnf) | fail
     all_goals first | (refine dF.weak (next) (eB (kp := 0) [none]))
 · rw [if_neg hc] at g1 g2
   generalize kC m2 t2 = c8 at *
   repeat' first | (refine bM [] (A5 hW false l hb (by omega)) (fun d rt' hd => ?_)) | ((first | (apply zI; refine zP (g1 _ _) ?_) | (apply zI; refine zP (g2 _ _) ?_) | refine Or.inl ?_) <;> conv => whnf) | fail
   obtain ⟨m3, t3, ⟨hm3, ht3⟩, rfl, rfl⟩ := hd
   refine ⟨rfl, by simp, ?_⟩
   conv => whnf
   have s3 := kY ht3
   have g3 := fun o p => yE o p m3 t3 s3.1 s3.2
   have g4 := fun o p => xP o p m3 t3 s3.1 s3.2
   unfold kL at g3 g4
   have htl3 := ht3.1
   have hq3 := kK m3 t3
   have r5 := fun o p o' p' => sJ o p o' p' (bA (aI m3 t3) (aZ m3 t3)) (by simp; omega) (fun i hi => by rw [iU _ (by simpa using hi)]; simp; omega)
   obtain ⟨Y, hY⟩ : ∃ Y, Y = bA (aI m3 t3) (aZ m3 t3) := ⟨_, rfl⟩
   have hYl : Y.length ≤ 12 := by rw [hY]; simp; omega
   simp only [gE, ← hY] at g3 g4 r5
   clear hY
   by_cases hc3 : kC m3 t3 = 0
   · rw [if_pos hc3] at g3 g4
     repeat' first | ((first | (apply zI; refine zP (g3 _ _) ?_) | (apply zI; refine zP (g4 _ _) ?_) | (apply zI; refine zP (r5 _ _ _ _) ?_) | (apply zI; refine zP (lG _ _ _ _ (by first | omega | (simp; omega)) (by first | omega | (simp; omega))) ?_) | (apply zI; refine zP (pW) ?_) | (refine zP (fun h => ?_) (fun h => ?_) <;> (try simp only [aB, aD, aP, aT, aV, bB] at h) <;> first | (exfalso; first | omega | exact h trivial | (cases h; done)) | skip) | refine zV ?_ | (apply zI; refine zP aK ?_) | (apply zI; refine zP aH ?_) | refine Or.inl ?_) <;> conv => whnf) | fail
     all_goals first | (refine dF.weak (next) (eB (kp := 0) [none]))
   · rw [if_neg hc3] at g3 g4
     generalize kC m3 t3 = c7 at *
     repeat' first | ((first | (apply zI; refine zP (g3 _ _) ?_) | (apply zI; refine zP (g4 _ _) ?_) | (apply zI; refine zP (vM) ?_) | (apply zI; refine zP (lG _ _ _ _ (by first | omega | (simp; omega)) (by first | omega | (simp; omega))) ?_) | (apply zI; refine zP (pW) ?_) | (refine zP (fun h => ?_) (fun h => ?_) <;> (try simp only [aB, aD, aP, aT, aV, bB] at h) <;> first | (exfalso; first | omega | exact h trivial | (cases h; done)) | skip) | refine zV ?_ | (apply zI; refine zP aH ?_) | refine Or.inl ?_) <;> conv => whnf) | fail
     all_goals first | (refine dF.weak (next) (eB (kp := 0) [none]))
theorem Ak8 (hW : Wei) {m : Int} (t G S : List (List Int)) (c : Int) (l : List Nat) (hb : ∀ b ∈ l, b < 256) (hl : l.length ≤ 9223372036854775807) (h0 : ¬ 4096 < l.length) (next : kU 27 [(0, .list false 1 (dR l)), (4, .lit (.slice none 0 0)), (5, aA c), (8, .lit (.slice none 0 0))] [none]) :
   kU 12 [(0, .list false 1 (dR l)), (4, .lit (.slice none 0 0)), (5, aA c), (8, .lit (.slice none 0 0))] [none] := by
 refine pO Tryz.tabOk aE _ 12 7 ?_
 conv => whnf
 repeat' first | (refine bM [] (Ac2 hW false l hb (by omega)) (fun d rt' hd => ?_)) | fail
 obtain ⟨m2, t2, ⟨hm2, ht2⟩, rfl, rfl⟩ := hd
 refine ⟨rfl, by simp, ?_⟩
 conv => whnf
 have s2 := kY ht2
 have g1 := fun o p => Ado o p m2 t2 s2.1 s2.2
 have g2 := fun o p => Z3 o p m2 t2 s2.1 s2.2
 unfold qH at g1 g2
 by_cases hc : bW m2 t2 = 0
 · obtain ⟨p2, k, hp2, rfl, hq⟩ := Af8 hc
   rw [if_pos hc, hc, hq] at g1 g2
   have hp22 : 2 ≤ p2 := by omega
   have hpk : p2 ^ k ≤ 11 := by rw [← hq]; have := kK (p2 : Int) t2; have := ht2.1; omega
   have hpj : ∀ i, i ≤ k → 1 ≤ p2 ^ i ∧ p2 ^ i ≤ 11 := fun i hi => ⟨Nat.one_le_pow _ _ (by omega), Nat.le_trans (Nat.pow_le_pow_right (by omega) hi) hpk⟩
   clear hq hc
   repeat' first | ((first | (apply zI; refine zP (g1 _ _) ?_) | (apply zI; refine zP (g2 _ _) ?_) | (refine zP (fun h => ?_) (fun h => ?_) <;> (try simp only [aB, aD, aP, aT, aV, bB] at h) <;> first | (exfalso; first | omega | exact h trivial | (cases h; done)) | skip) | refine Or.inl ?_) <;> conv => whnf) | fail
   refine aR Tryz.tabOk aE (α := Nat) (fun j => [(17, aA ((p2 ^ (k - j) : Nat) : Int))]) (fun j => []) (fun j => j ≤ k) (fun j => k - j) (0) ?_ ?_ ?_
   · omega
   · conv => whnf
     first | refine aG.autoR ?_ | refine aC.autoR ?_
     conv => whnf
     repeat' ((first | refine z1 ?_ | refine z2 ?_ | refine zP ?_ ?_ | exact trivial) <;> try (conv => whnf))
   intro j hj
   conv => whnf
   by_cases hjk : j < k
   · obtain ⟨w1, w2⟩ := E3 (show 2 ≤ p2 by omega) hjk
     have w5 := hpj (k - j) (by omega)
     have w6 := hpj (k - (j + 1)) (by omega)
     repeat' first | ((first | (refine zP (fun h => ?_) (fun h => ?_) <;> (try simp only [aB, aD, aP, aT, aV, bB] at h) <;> first | (exfalso; first | omega | exact h trivial | (cases h; done)) | skip) | refine zV ?_) <;> conv => whnf) | fail
     · refine Exists.intro (j + 1) ⟨?_, ?_, ?_⟩
       · omega
       · omega
       first | refine aG.autoR ?_ | refine aC.autoR ?_
       conv => whnf
       repeat' ((first | refine z1 ?_ | refine z2 ?_ | refine zP ?_ ?_ | exact trivial) <;> try (conv => whnf))
       all_goals first | exact w2 | exact congrArg aA w2
     all_goals first | (exfalso; simp_all; done)
   · obtain rfl : j = k := by omega
     obtain ⟨w1, w2⟩ := G8 (show 2 ≤ p2 by omega) j
     rw [w2]
     have w3 := N3 (show 2 ≤ p2 by omega)
     repeat' first | ((first | refine z0 ?_ | (refine zP (fun h => ?_) (fun h => ?_) <;> (try simp only [aB, aD, aP, aT, aV, bB] at h) <;> first | (exfalso; first | omega | exact h trivial | (cases h; done)) | skip) | refine zV ?_ | (apply zI; refine zP aK ?_) | (apply zI; refine zP aH ?_)) <;> conv => whnf) | fail
     all_goals first | (refine dF.weak (Afj (m := m) hW t G S c l hb hl h0 next) (eB (kp := 0) [none]))
 · rw [if_neg hc] at g1 g2
   generalize bW m2 t2 = c9 at *
   repeat' first | ((first | (apply zI; refine zP (g1 _ _) ?_) | (apply zI; refine zP (g2 _ _) ?_) | (refine zP (fun h => ?_) (fun h => ?_) <;> (try simp only [aB, aD, aP, aT, aV, bB] at h) <;> first | (exfalso; first | omega | exact h trivial | (cases h; done)) | skip) | refine Or.inl ?_) <;> conv => whnf) | fail
   all_goals first | (refine dF.weak (Afj (m := m) hW t G S c l hb hl h0 next) (eB (kp := 0) [none]))
theorem Arg {p : Nat} (hm : Md (p : Int)) (hp : p = 2 ∨ p = 3 ∨ p = 5 ∨ p = 7) (t : List (List Int)) (ht : gI t) (hk : kC (p : Int) t = 0) (l : List Nat) (hb : ∀ b ∈ l, b < 256) (hl : l.length ≤ 9223372036854775807) (h0 : ¬ 4096 < l.length) (G S : List (List Int)) (hG : G = ext p (bU true (aI (p : Int) t) (aZ (p : Int) t)) (aI (p : Int) t) []) (hS : S = ext p (bU false (aI (p : Int) t) (aZ (p : Int) t)) (aI (p : Int) t) []) (a : Nat) (ha : a ≤ l.length) (h : Int) : kU 39 [(3, .ptr 1 [] 0), (8, .ref 2 [] 1 0 S.length), (32, .ptr 3 [] 0), (37, bD true)] [none, rI [aA (p : Int), .list false 1 (rows false t)], some ⟨false, 1, rows true S⟩, some (aU false l a h)] := by
 have s1 := kY ht
 have htl := ht.1
 have hq := kK (p : Int) t
 have hp2 : 2 ≤ p := by omega
 obtain ⟨hmd, hqq, hL, hb2⟩ := pI hk
 have hmG := fun u => mZ (p := p) (by omega) (bU true (aI (p : Int) t) (aZ (p : Int) t)) (aI (p : Int) t) u
 have hmS := fun u => mZ (p := p) (by omega) (bU false (aI (p : Int) t) (aZ (p : Int) t)) (aI (p : Int) t) u
 have hGb := oC (p := p) (by omega) (bU true (aI (p : Int) t) (aZ (p : Int) t)) (aI (p : Int) t) []
 have hSb := oC (p := p) (by omega) (bU false (aI (p : Int) t) (aZ (p : Int) t)) (aI (p : Int) t) []
 have hpb := qA hp (show aI (p : Int) t ≤ 6 by omega)
 obtain ⟨e, he⟩ := J8 hk hp
 have hz := E2 hk hp
 rw [← hG] at he hGb hmG
 rw [← hS] at hSb hmS hz
 have hS1 : 1 ≤ S.length := List.length_pos_of_mem hz
 have hpe1 : 1 ≤ p ^ e := Nat.one_le_pow _ _ (by omega)
 refine U4 Tryz.tabOk aE _ 39 ?_
 conv => whnf
 repeat' first | (refine bM [3] (yS false l hb (by omega) a ha h (S.length : Int)) (fun d rt' hd => ?_)) | ((first | refine zV ?_) <;> conv => whnf) | fail
 obtain ⟨i, a1, h1, hi, ha1, rfl, rfl⟩ := hd
 refine ⟨rfl, by simp, ?_⟩
 conv => whnf
 have hi2 := hi.2 (by omega)
 repeat' first | (refine bM [3] (yS false l hb (by omega) a1 ha1 h1 (S.length : Int)) (fun d rt' hd => ?_)) | ((first | refine zP (show (_ : List (Option Root))[_]? = _ from rfl) ?_ | refine zV ?_ | (apply zI; refine zP aH ?_)) <;> conv => whnf) | fail
 obtain ⟨k, a2, h2, hk3, ha2, rfl, rfl⟩ := hd
 refine ⟨rfl, by simp, ?_⟩
 conv => whnf
 have hk2 := hk3.2 (by omega)
 repeat' first | ((first | refine z0 ?_ | refine zP (show (_ : List (Option Root))[_]? = _ from rfl) ?_ | (refine zP (fun h => ?_) (fun h => ?_) <;> (try simp only [aB, aD, aP, aT, aV, bB] at h) <;> first | (exfalso; first | omega | exact h trivial | (cases h; done)) | skip) | refine zV ?_ | (apply zI; refine zP aK ?_) | (apply zI; refine zP aH ?_)) <;> conv => whnf) | fail
 obtain ⟨iN, rfl⟩ : ∃ n : Nat, i = n := ⟨i.toNat, by omega⟩
 obtain ⟨kN, rfl⟩ : ∃ n : Nat, k = n := ⟨k.toNat, by omega⟩
 simp only [Int.toNat_natCast] at *
 have hu : S.getD iN [] ∈ S := by rw [List.getD_eq_getElem?_getD, List.getElem?_eq_getElem (by omega)]; exact List.getElem_mem _
 have hv : S.getD kN [] ∈ S := by rw [List.getD_eq_getElem?_getD, List.getElem?_eq_getElem (by omega)]; exact List.getElem_mem _
 obtain ⟨⟨lu, ru⟩, gu⟩ := (hmS _).1 hu
 obtain ⟨⟨lv, rv⟩, gv⟩ := (hmS _).1 hv
 have hP := Ajy hk hp (u := S.getD iN []) (v := S.getD kN []) (by rw [← hS]; exact hu) (by rw [← hS]; exact hv)
 rw [← hS] at hP
 refine aR Tryz.tabOk aE (α := Nat) (fun j => [(41, .ref 4 [] 1 0 j), (43, aA j), (269, .undef)]) (fun j => [(4, some ⟨false, 1, ints (lM j fun i => ((S.getD iN []).getD i 0 + (S.getD kN []).getD i 0).tmod p)⟩)]) (fun j => j ≤ aI (p : Int) t) (fun j => aI (p : Int) t - j) (0) ?_ ?_ ?_
 · omega
 · conv => whnf
   first | refine aG.autoR ?_ | refine aC.autoR ?_
   conv => whnf
   repeat' ((first | refine z1 ?_ | refine z2 ?_ | refine zP ?_ ?_ | exact trivial) <;> try (conv => whnf))
   all_goals first | rfl
 intro j hj
 conv => whnf
 by_cases hjq : j < aI (p : Int) t
 · have b1 : 0 ≤ (S.getD iN []).getD j 0 ∧ (S.getD iN []).getD j 0 < (p : Int) := ru _ (B5 (by omega))
   have b2 : 0 ≤ (S.getD kN []).getD j 0 ∧ (S.getD kN []).getD j 0 < (p : Int) := rv _ (B5 (by omega))
   have hp7 : (p : Int) ≤ 7 := by omega
   have hlm : j * 1 = (ints (lM j fun i => ((S.getD iN []).getD i 0 + (S.getD kN []).getD i 0).tmod (p : Int))).length := by simp
   repeat' first | ((first | (refine zP (fun h => ?_) (fun h => ?_) <;> (try simp only [aB, aD, aP, aT, aV, bB] at h) <;> first | (exfalso; first | omega | exact h trivial | (cases h; done)) | skip) | refine zS ?_ | refine zV ?_ | (apply zI; refine zP aK ?_) | (apply zI; refine zP aH ?_)) <;> conv => whnf) | fail
   all_goals first | (exfalso; omega) | skip
   · refine Exists.intro (j + 1) ⟨?_, ?_, ?_⟩
     · omega
     · omega
     first | refine aG.autoR ?_ | refine aC.autoR ?_
     conv => whnf
     repeat' ((first | refine z1 ?_ | refine z2 ?_ | refine zP ?_ ?_ | exact trivial) <;> try (conv => whnf))
     all_goals first | exact congrArg ints (Aii rfl)
   all_goals first | (exfalso; simp_all; done)
 · have hjE : j = aI (p : Int) t := by omega
   have hE : (lM j fun i => ((S.getD iN []).getD i 0 + (S.getD kN []).getD i 0).tmod p) = L (aI (p : Int) t) (rd (p : Int) (S.getD iN []) + rd (p : Int) (S.getD kN [])) := by
     rw [hjE]
     refine List.map_congr_left (fun i hi => ?_)
     have hi := List.mem_range.1 hi
     have b1 : 0 ≤ (S.getD iN []).getD i 0 ∧ (S.getD iN []).getD i 0 < (p : Int) := ru _ (B5 (by omega))
     have b2 : 0 ≤ (S.getD kN []).getD i 0 ∧ (S.getD kN []).getD i 0 < (p : Int) := rv _ (B5 (by omega))
     rw [add_c, Zm.val_add, rd_c, rd_c, Zm.val_of_range b1, Zm.val_of_range b2, Int.tmod_eq_emod_of_nonneg (by omega)]
   have hPl : (lM j fun i => ((S.getD iN []).getD i 0 + (S.getD kN []).getD i 0).tmod p).length = j := by simp
   rw [← hE] at hP
   generalize (lM j fun i => ((S.getD iN []).getD i 0 + (S.getD kN []).getD i 0).tmod p) = P at *
   have hj12 : j ≤ 12 := by omega
   repeat' first | ((first | refine z0 ?_ | (refine zP (fun h => ?_) (fun h => ?_) <;> (try simp only [aB, aD, aP, aT, aV, bB] at h) <;> first | (exfalso; first | omega | exact h trivial | (cases h; done)) | skip) | refine zV ?_ | (apply zI; refine zP aK ?_) | (apply zI; refine zP aH ?_)) <;> conv => whnf) | fail
   subst hPl
   have hfin : ∃ i, i < S.length ∧ S.getD i [] = P := by
     obtain ⟨i, h1, h2⟩ := List.getElem_of_mem hP
     exact ⟨i, h1, by rw [List.getD_eq_getElem?_getD, List.getElem?_eq_getElem h1]; exact h2⟩
   have hSi : ∀ j, j < S.length → (S.getD j []).length ≤ 12 := fun j hj => by
     have hm := (hmS (S.getD j [])).1 (by rw [List.getD_eq_getElem?_getD, List.getElem?_eq_getElem hj]; exact List.getElem_mem _)
     have := hm.1.1; omega
   clear hmG hmS hG hS
   refine aR Tryz.tabOk aE (α := Nat × Bool) (fun x => [(44, aA x.1), (42, bD x.2)]) (fun x => []) (fun x => x.1 ≤ S.length ∧ (x.2 = true ↔ ∃ i, i < x.1 ∧ S.getD i [] = P)) (fun x => S.length - x.1) ((0, false)) ?_ ?_ ?_
   · exact ⟨by simp, by simp⟩
   · conv => whnf
     first | refine aG.autoR ?_ | refine aC.autoR ?_
     conv => whnf
     repeat' ((first | refine z1 ?_ | refine z2 ?_ | refine zP ?_ ?_ | exact trivial) <;> try (conv => whnf))
   intro ⟨j, b⟩ ⟨hj, hb9⟩
   simp only at hj hb9
   conv => whnf
   by_cases hjl : j < S.length
   · have hgl := hSi j hjl
     have hc := fun o o' => lG o o' (S.getD j []) P (by omega) (by omega)
     by_cases hjp : S.getD j [] = P
     · rw [decide_eq_true hjp] at hc
       cases b with
       | false =>
         repeat' first | ((first | (apply zI; refine zP (hc _ _) ?_) | (apply zI; refine zP (mN (i := j) aN hjl) ?_) | (apply zI; refine zP (gW _) ?_) | (refine zP (fun h => ?_) (fun h => ?_) <;> (try simp only [aB, aD, aP, aT, aV, bB] at h) <;> first | (exfalso; first | omega | exact h trivial | (cases h; done)) | skip) | refine zV ?_ | (apply zI; refine zP aH ?_) | refine Or.inl ?_) <;> conv => whnf) | fail
         refine Exists.intro (j + 1, true) ⟨⟨?_, ?_⟩, ?_, ?_⟩
         · simp only; omega
         · exact ⟨fun _ => ⟨j, by simp only; omega, hjp⟩, fun _ => rfl⟩
         · simp only; omega
         first | refine aG.autoR ?_ | refine aC.autoR ?_
         conv => whnf
         repeat' ((first | refine z1 ?_ | refine z2 ?_ | refine zP ?_ ?_ | exact trivial) <;> try (conv => whnf))
       | true =>
         obtain ⟨i9, hi9, hi8⟩ := hb9.1 rfl
         repeat' first | ((first | (apply zI; refine zP (hc _ _) ?_) | (apply zI; refine zP (mN (i := j) aN hjl) ?_) | (apply zI; refine zP (gW _) ?_) | (refine zP (fun h => ?_) (fun h => ?_) <;> (try simp only [aB, aD, aP, aT, aV, bB] at h) <;> first | (exfalso; first | omega | exact h trivial | (cases h; done)) | skip) | refine zV ?_ | (apply zI; refine zP aH ?_) | refine Or.inl ?_) <;> conv => whnf) | fail
         refine Exists.intro (j + 1, true) ⟨⟨?_, ?_⟩, ?_, ?_⟩
         · simp only; omega
         · exact ⟨fun _ => ⟨i9, by simp only; omega, hi8⟩, fun _ => rfl⟩
         · simp only; omega
         first | refine aG.autoR ?_ | refine aC.autoR ?_
         conv => whnf
         repeat' ((first | refine z1 ?_ | refine z2 ?_ | refine zP ?_ ?_ | exact trivial) <;> try (conv => whnf))
     · rw [decide_eq_false hjp] at hc
       cases b with
       | false =>
         repeat' first | ((first | (apply zI; refine zP (hc _ _) ?_) | (apply zI; refine zP (mN (i := j) aN hjl) ?_) | (apply zI; refine zP (gW _) ?_) | (refine zP (fun h => ?_) (fun h => ?_) <;> (try simp only [aB, aD, aP, aT, aV, bB] at h) <;> first | (exfalso; first | omega | exact h trivial | (cases h; done)) | skip) | refine zV ?_ | (apply zI; refine zP aH ?_) | refine Or.inl ?_) <;> conv => whnf) | fail
         refine Exists.intro (j + 1, false) ⟨⟨?_, ?_⟩, ?_, ?_⟩
         · simp only; omega
         · exact Afy hb9 hjp
         · simp only; omega
         first | refine aG.autoR ?_ | refine aC.autoR ?_
         conv => whnf
         repeat' ((first | refine z1 ?_ | refine z2 ?_ | refine zP ?_ ?_ | exact trivial) <;> try (conv => whnf))
       | true =>
         obtain ⟨i9, hi9, hi8⟩ := hb9.1 rfl
         repeat' first | ((first | (apply zI; refine zP (hc _ _) ?_) | (apply zI; refine zP (mN (i := j) aN hjl) ?_) | (apply zI; refine zP (gW _) ?_) | (refine zP (fun h => ?_) (fun h => ?_) <;> (try simp only [aB, aD, aP, aT, aV, bB] at h) <;> first | (exfalso; first | omega | exact h trivial | (cases h; done)) | skip) | refine zV ?_ | (apply zI; refine zP aH ?_) | refine Or.inl ?_) <;> conv => whnf) | fail
         refine Exists.intro (j + 1, true) ⟨⟨?_, ?_⟩, ?_, ?_⟩
         · simp only; omega
         · exact ⟨fun _ => ⟨i9, by simp only; omega, hi8⟩, fun _ => rfl⟩
         · simp only; omega
         first | refine aG.autoR ?_ | refine aC.autoR ?_
         conv => whnf
         repeat' ((first | refine z1 ?_ | refine z2 ?_ | refine zP ?_ ?_ | exact trivial) <;> try (conv => whnf))
   · obtain rfl : j = S.length := by omega
     obtain rfl : b = true := hb9.2 hfin
     repeat' first | ((first | refine z0 ?_ | (refine zP (fun h => ?_) (fun h => ?_) <;> (try simp only [aB, aD, aP, aT, aV, bB] at h) <;> first | (exfalso; first | omega | exact h trivial | (cases h; done)) | skip) | refine zV ?_ | (apply zI; refine zP aK ?_) | (apply zI; refine zP aH ?_)) <;> conv => whnf) | fail
theorem Amv {p : Nat} (hm : Md (p : Int)) (hp : p = 2 ∨ p = 3 ∨ p = 5 ∨ p = 7) (t : List (List Int)) (ht : gI t) (hk : kC (p : Int) t = 0) (l : List Nat) (hb : ∀ b ∈ l, b < 256) (hl : l.length ≤ 9223372036854775807) (h0 : ¬ 4096 < l.length) (G S : List (List Int)) (hG : G = ext p (bU true (aI (p : Int) t) (aZ (p : Int) t)) (aI (p : Int) t) []) (hS : S = ext p (bU false (aI (p : Int) t) (aZ (p : Int) t)) (aI (p : Int) t) []) : kU 31 [(0, .list false 1 (dR l)), (3, .ptr 1 [] 0), (4, .ref 2 [] 1 0 G.length), (8, .ref 3 [] 1 0 S.length), (31, aA 1)] [none, rI [aA (p : Int), .list false 1 (rows false t)], some ⟨false, 1, rows true G⟩, some ⟨false, 1, rows true S⟩] := by
 have s1 := kY ht
 have htl := ht.1
 have hq := kK (p : Int) t
 have hp2 : 2 ≤ p := by omega
 obtain ⟨hmd, hqq, hL, hb2⟩ := pI hk
 have hmG := fun u => mZ (p := p) (by omega) (bU true (aI (p : Int) t) (aZ (p : Int) t)) (aI (p : Int) t) u
 have hmS := fun u => mZ (p := p) (by omega) (bU false (aI (p : Int) t) (aZ (p : Int) t)) (aI (p : Int) t) u
 have hGb := oC (p := p) (by omega) (bU true (aI (p : Int) t) (aZ (p : Int) t)) (aI (p : Int) t) []
 have hSb := oC (p := p) (by omega) (bU false (aI (p : Int) t) (aZ (p : Int) t)) (aI (p : Int) t) []
 have hpb := qA hp (show aI (p : Int) t ≤ 6 by omega)
 obtain ⟨e, he⟩ := J8 hk hp
 have hz := E2 hk hp
 rw [← hG] at he hGb hmG
 rw [← hS] at hSb hmS hz
 have hS1 : 1 ≤ S.length := List.length_pos_of_mem hz
 have hpe1 : 1 ≤ p ^ e := Nat.one_le_pow _ _ (by omega)
 have hG0 := hG
 have hS0 := hS
 refine pO Tryz.tabOk aE _ 31 8 ?_
 conv => whnf
 repeat' first | (refine bM [] (Anc false l hb (by omega) 965) (fun d rt' hd => ?_)) | fail
 obtain ⟨h9, rfl, rfl⟩ := hd
 refine ⟨rfl, by simp, ?_⟩
 conv => whnf
 repeat' first | (refine bM [4] (yS false l hb (by omega) 0 (by omega) h9 (G.length : Int)) (fun d rt' hd => ?_)) | fail
 obtain ⟨i, a1, h1, hi, ha1, rfl, rfl⟩ := hd
 refine ⟨rfl, by simp, ?_⟩
 conv => whnf
 have hi2 := hi.2 (by omega)
 repeat' first | (refine bM [4] (yS false l hb (by omega) a1 ha1 h1 (G.length : Int)) (fun d rt' hd => ?_)) | fail
 obtain ⟨k, a2, h2, hk3, ha2, rfl, rfl⟩ := hd
 refine ⟨rfl, by simp, ?_⟩
 conv => whnf
 have hk2 := hk3.2 (by omega)
 obtain ⟨iN, rfl⟩ : ∃ n : Nat, i = n := ⟨i.toNat, by omega⟩
 obtain ⟨kN, rfl⟩ : ∃ n : Nat, k = n := ⟨k.toNat, by omega⟩
 have hu : G.getD iN [] ∈ G := by rw [List.getD_eq_getElem?_getD, List.getElem?_eq_getElem (by omega)]; exact List.getElem_mem _
 have hv : G.getD kN [] ∈ G := by rw [List.getD_eq_getElem?_getD, List.getElem?_eq_getElem (by omega)]; exact List.getElem_mem _
 obtain ⟨⟨lu, ru⟩, gu⟩ := (hmG _).1 hu
 obtain ⟨⟨lv, rv⟩, gv⟩ := (hmG _).1 hv
 have hP := Aq7 hk hp (u := G.getD iN []) (v := G.getD kN []) (by rw [← hG]; exact hu) (by rw [← hG]; exact hv)
 rw [← hG] at hP
 have gM := fun o p2 o1 o2 => Al9 o p2 o1 o2 (p : Int) t (G.getD iN []) (G.getD kN []) s1.1 s1.2 (by omega) (by omega)
 unfold pV at gM
 rw [if_pos (Ana hk lu ru lv rv)] at gM
 simp only [LD] at gM
 generalize hPP : L (aI (p : Int) t) (rd (p : Int) (G.getD iN []) * rd (p : Int) (G.getD kN [])) = P at *
 have hPl : P.length ≤ 12 := by rw [← hPP]; simp; omega
 repeat' first | ((first | (apply zI; refine zP (gM _ _ _ _) ?_) | (apply zI; refine zP (mN (i := iN) aN (by omega)) ?_) | (apply zI; refine zP (mN (i := kN) aN (by omega)) ?_) | (apply zI; refine zP (gW _) ?_) | (refine zP (fun h => ?_) (fun h => ?_) <;> (try simp only [aB, aD, aP, aT, aV, bB] at h) <;> first | (exfalso; first | omega | exact h trivial | (cases h; done)) | skip) | refine zS ?_ | refine zV ?_ | (apply zI; refine zP aH ?_) | refine Alt.fst ?_ | refine Or.inl ?_) <;> conv => whnf) | fail
 have hfin : ∃ i, i < G.length ∧ G.getD i [] = P := by
   obtain ⟨i, h1, h2⟩ := List.getElem_of_mem hP
   exact ⟨i, h1, by rw [List.getD_eq_getElem?_getD, List.getElem?_eq_getElem h1]; exact h2⟩
 have hGi : ∀ j, j < G.length → (G.getD j []).length ≤ 12 := fun j hj => by
   have hm := (hmG (G.getD j [])).1 (by rw [List.getD_eq_getElem?_getD, List.getElem?_eq_getElem hj]; exact List.getElem_mem _)
   have := hm.1.1; omega
 clear hmG hmS hG hS gM
 refine aR Tryz.tabOk aE (α := Nat × Bool) (fun x => [(38, aA x.1), (37, bD x.2)]) (fun x => []) (fun x => x.1 ≤ G.length ∧ (x.2 = true ↔ ∃ i, i < x.1 ∧ G.getD i [] = P)) (fun x => G.length - x.1) ((0, false)) ?_ ?_ ?_
 · exact ⟨by simp, by simp⟩
 · conv => whnf
   first | refine aG.autoR ?_ | refine aC.autoR ?_
   conv => whnf
   repeat' ((first | refine z1 ?_ | refine z2 ?_ | refine zP ?_ ?_ | exact trivial) <;> try (conv => whnf))
 intro ⟨j, b⟩ ⟨hj, hb9⟩
 simp only at hj hb9
 conv => whnf
 by_cases hjl : j < G.length
 · have hgl := hGi j hjl
   have hc := fun o o' => lG o o' (G.getD j []) P (by omega) (by omega)
   by_cases hjp : G.getD j [] = P
   · rw [decide_eq_true hjp] at hc
     cases b with
     | false =>
       repeat' first | ((first | (apply zI; refine zP (hc _ _) ?_) | (apply zI; refine zP (mN (i := j) aN hjl) ?_) | (apply zI; refine zP (gW _) ?_) | (refine zP (fun h => ?_) (fun h => ?_) <;> (try simp only [aB, aD, aP, aT, aV, bB] at h) <;> first | (exfalso; first | omega | exact h trivial | (cases h; done)) | skip) | refine zV ?_ | (apply zI; refine zP aH ?_) | refine Or.inl ?_) <;> conv => whnf) | fail
       refine Exists.intro (j + 1, true) ⟨⟨?_, ?_⟩, ?_, ?_⟩
       · simp only; omega
       · exact ⟨fun _ => ⟨j, by simp only; omega, hjp⟩, fun _ => rfl⟩
       · simp only; omega
       first | refine aG.autoR ?_ | refine aC.autoR ?_
       conv => whnf
       repeat' ((first | refine z1 ?_ | refine z2 ?_ | refine zP ?_ ?_ | exact trivial) <;> try (conv => whnf))
     | true =>
       obtain ⟨i9, hi9, hi8⟩ := hb9.1 rfl
       repeat' first | ((first | (apply zI; refine zP (hc _ _) ?_) | (apply zI; refine zP (mN (i := j) aN hjl) ?_) | (apply zI; refine zP (gW _) ?_) | (refine zP (fun h => ?_) (fun h => ?_) <;> (try simp only [aB, aD, aP, aT, aV, bB] at h) <;> first | (exfalso; first | omega | exact h trivial | (cases h; done)) | skip) | refine zV ?_ | (apply zI; refine zP aH ?_) | refine Or.inl ?_) <;> conv => whnf) | fail
       refine Exists.intro (j + 1, true) ⟨⟨?_, ?_⟩, ?_, ?_⟩
       · simp only; omega
       · exact ⟨fun _ => ⟨i9, by simp only; omega, hi8⟩, fun _ => rfl⟩
       · simp only; omega
       first | refine aG.autoR ?_ | refine aC.autoR ?_
       conv => whnf
       repeat' ((first | refine z1 ?_ | refine z2 ?_ | refine zP ?_ ?_ | exact trivial) <;> try (conv => whnf))
   · rw [decide_eq_false hjp] at hc
     cases b with
     | false =>
       repeat' first | ((first | (apply zI; refine zP (hc _ _) ?_) | (apply zI; refine zP (mN (i := j) aN hjl) ?_) | (apply zI; refine zP (gW _) ?_) | (refine zP (fun h => ?_) (fun h => ?_) <;> (try simp only [aB, aD, aP, aT, aV, bB] at h) <;> first | (exfalso; first | omega | exact h trivial | (cases h; done)) | skip) | refine zV ?_ | (apply zI; refine zP aH ?_) | refine Or.inl ?_) <;> conv => whnf) | fail
       refine Exists.intro (j + 1, false) ⟨⟨?_, ?_⟩, ?_, ?_⟩
       · simp only; omega
       · exact Afy hb9 hjp
       · simp only; omega
       first | refine aG.autoR ?_ | refine aC.autoR ?_
       conv => whnf
       repeat' ((first | refine z1 ?_ | refine z2 ?_ | refine zP ?_ ?_ | exact trivial) <;> try (conv => whnf))
     | true =>
       obtain ⟨i9, hi9, hi8⟩ := hb9.1 rfl
       repeat' first | ((first | (apply zI; refine zP (hc _ _) ?_) | (apply zI; refine zP (mN (i := j) aN hjl) ?_) | (apply zI; refine zP (gW _) ?_) | (refine zP (fun h => ?_) (fun h => ?_) <;> (try simp only [aB, aD, aP, aT, aV, bB] at h) <;> first | (exfalso; first | omega | exact h trivial | (cases h; done)) | skip) | refine zV ?_ | (apply zI; refine zP aH ?_) | refine Or.inl ?_) <;> conv => whnf) | fail
       refine Exists.intro (j + 1, true) ⟨⟨?_, ?_⟩, ?_, ?_⟩
       · simp only; omega
       · exact ⟨fun _ => ⟨i9, by simp only; omega, hi8⟩, fun _ => rfl⟩
       · simp only; omega
       first | refine aG.autoR ?_ | refine aC.autoR ?_
       conv => whnf
       repeat' ((first | refine z1 ?_ | refine z2 ?_ | refine zP ?_ ?_ | exact trivial) <;> try (conv => whnf))
 · obtain rfl : j = G.length := by omega
   obtain rfl : b = true := hb9.2 hfin
   repeat' first | ((first | refine z0 ?_ | (refine zP (fun h => ?_) (fun h => ?_) <;> (try simp only [aB, aD, aP, aT, aV, bB] at h) <;> first | (exfalso; first | omega | exact h trivial | (cases h; done)) | skip) | refine zV ?_ | (apply zI; refine zP aK ?_) | (apply zI; refine zP aH ?_)) <;> conv => whnf) | fail
   all_goals first | (refine dF.weak (Arg hm hp t ht hk l hb hl h0 G S hG0 hS0 a2 ha2 h2) (eB (kp := 0) [none, some 1, some 3, some 4]))
theorem Ahp {p : Nat} (hm : Md (p : Int)) (hp : p = 2 ∨ p = 3 ∨ p = 5 ∨ p = 7) (t : List (List Int)) (ht : gI t) (hk : kC (p : Int) t = 0) (l : List Nat) (hb : ∀ b ∈ l, b < 256) (hl : l.length ≤ 9223372036854775807) (h0 : ¬ 4096 < l.length) (G S : List (List Int)) (hG : G = ext p (bU true (aI (p : Int) t) (aZ (p : Int) t)) (aI (p : Int) t) []) (hS : S = ext p (bU false (aI (p : Int) t) (aZ (p : Int) t)) (aI (p : Int) t) []) : kU 27 [(0, .list false 1 (dR l)), (3, .ptr 1 [] 0), (4, .ref 2 [] 1 0 G.length), (5, aA 0), (8, .ref 3 [] 1 0 S.length)] [none, rI [aA (p : Int), .list false 1 (rows false t)], some ⟨false, 1, rows true G⟩, some ⟨false, 1, rows true S⟩] := by
 have s1 := kY ht
 have htl := ht.1
 have hq := kK (p : Int) t
 have hp2 : 2 ≤ p := by omega
 obtain ⟨hmd, hqq, hL, hb2⟩ := pI hk
 have hmG := fun u => mZ (p := p) (by omega) (bU true (aI (p : Int) t) (aZ (p : Int) t)) (aI (p : Int) t) u
 have hmS := fun u => mZ (p := p) (by omega) (bU false (aI (p : Int) t) (aZ (p : Int) t)) (aI (p : Int) t) u
 have hGb := oC (p := p) (by omega) (bU true (aI (p : Int) t) (aZ (p : Int) t)) (aI (p : Int) t) []
 have hSb := oC (p := p) (by omega) (bU false (aI (p : Int) t) (aZ (p : Int) t)) (aI (p : Int) t) []
 have hpb := qA hp (show aI (p : Int) t ≤ 6 by omega)
 obtain ⟨e, he⟩ := J8 hk hp
 have hz := E2 hk hp
 rw [← hG] at he hGb hmG
 rw [← hS] at hSb hmS hz
 have hS1 : 1 ≤ S.length := List.length_pos_of_mem hz
 have hpe1 : 1 ≤ p ^ e := Nat.one_le_pow _ _ (by omega)
 have next := Amv hm hp t ht hk l hb hl h0 G S hG hS
 have hpj : ∀ i, i ≤ e → 1 ≤ p ^ i ∧ p ^ i ≤ 117649 := fun i hi => ⟨Nat.one_le_pow _ _ (by omega), Nat.le_trans (Nat.pow_le_pow_right (by omega) hi) (by omega)⟩
 clear hmG hmS hz hG hS hGb hSb hL hb2
 refine pO Tryz.tabOk aE _ 27 4 ?_
 conv => whnf
 repeat' first | ((first | (refine zP (fun h => ?_) (fun h => ?_) <;> (try simp only [aB, aD, aP, aT, aV, bB] at h) <;> first | (exfalso; first | omega | exact h trivial | (cases h; done)) | skip) | refine zS ?_ | refine zV ?_ | (apply zI; refine zP aH ?_)) <;> conv => whnf) | fail
 refine aR Tryz.tabOk aE (α := Nat) (fun j => [(31, aA ((p ^ (e - j) : Nat) : Int))]) (fun j => []) (fun j => j ≤ e) (fun j => e - j) (0) ?_ ?_ ?_
 · omega
 · conv => whnf
   first | refine aG.autoR ?_ | refine aC.autoR ?_
   conv => whnf
   repeat' ((first | refine z1 ?_ | refine z2 ?_ | refine zP ?_ ?_ | exact trivial) <;> try (conv => whnf))
   all_goals first | (rw [he]; done) | (simp only [he, Nat.sub_zero]; done)
 intro j hj
 conv => whnf
 by_cases hjk : j < e
 · obtain ⟨w1, w2⟩ := E3 (show 2 ≤ p by omega) hjk
   have w5 := hpj (e - j) (by omega)
   have w6 := hpj (e - (j + 1)) (by omega)
   repeat' first | ((first | (refine zP (fun h => ?_) (fun h => ?_) <;> (try simp only [aB, aD, aP, aT, aV, bB] at h) <;> first | (exfalso; first | omega | exact h trivial | (cases h; done)) | skip) | refine zV ?_) <;> conv => whnf) | fail
   · refine Exists.intro (j + 1) ⟨?_, ?_, ?_⟩
     · omega
     · omega
     first | refine aG.autoR ?_ | refine aC.autoR ?_
     conv => whnf
     repeat' ((first | refine z1 ?_ | refine z2 ?_ | refine zP ?_ ?_ | exact trivial) <;> try (conv => whnf))
     all_goals first | exact w2 | exact congrArg aA w2
   all_goals first | (exfalso; simp_all; done)
 · obtain rfl : j = e := by omega
   obtain ⟨w1, w2⟩ := G8 (show 2 ≤ p by omega) j
   rw [w2]
   have w3 := N3 (show 2 ≤ p by omega)
   repeat' first | ((first | refine z0 ?_ | (refine zP (fun h => ?_) (fun h => ?_) <;> (try simp only [aB, aD, aP, aT, aV, bB] at h) <;> first | (exfalso; first | omega | exact h trivial | (cases h; done)) | skip) | refine zV ?_ | (apply zI; refine zP aK ?_) | (apply zI; refine zP aH ?_)) <;> conv => whnf) | fail
   all_goals first | (refine dF.weak (next) (eB (kp := 0) [none, some 1, some 2, some 3]))
theorem Aqi (t G S : List (List Int)) (c : Int) (hc : c ≠ 0) (l : List Nat) : kU 27 [(0, .list false 1 (dR l)), (4, .lit (.slice none 0 0)), (5, aA c), (8, .lit (.slice none 0 0))] [none] := by
 refine U4 Tryz.tabOk aE _ 27 ?_
 conv => whnf
 repeat' first | ((first | refine z0 ?_ | (refine zP (fun h => ?_) (fun h => ?_) <;> (try simp only [aB, aD, aP, aT, aV, bB] at h) <;> first | (exfalso; first | omega | exact h trivial | (cases h; done)) | skip) | refine zV ?_ | (apply zI; refine zP aK ?_) | (apply zI; refine zP aH ?_)) <;> conv => whnf) | fail
 all_goals first | rfl | (exfalso; simp_all; done)
theorem Apm (hW : Wei) (l : List Nat) (hb : ∀ b ∈ l, b < 256) (hl : l.length ≤ 9223372036854775807) : aL Tryz.prog 7 [.list false 1 (dR l)] (bD true) := by
 have hbig := Aok false l hl
 by_cases h0 : 4096 < l.length
 · rw [show decide (4096 < l.length) = true by simp [h0]] at hbig
   refine Abn Tryz.f7 Tryz.func7 rfl rfl Tryz.tabOk ?_
   refine pO Tryz.tabOk aE _ 0 12 ?_
   conv => whnf
   repeat' first | ((first | refine z0 ?_ | (apply zI; refine zP (hbig) ?_) | (refine zP (fun h => ?_) (fun h => ?_) <;> (try simp only [aB, aD, aP, aT, aV, bB] at h) <;> first | (exfalso; first | omega | exact h trivial | (cases h; done)) | skip) | refine Or.inl ?_) <;> conv => whnf) | fail
 · rw [show decide (4096 < l.length) = false by simp [h0]] at hbig
   refine Abn Tryz.f7 Tryz.func7 rfl rfl Tryz.tabOk ?_
   refine pO Tryz.tabOk aE _ 0 12 ?_
   conv => whnf
   repeat' first | (refine bM [] (Aoo hW false l hb (by omega)) (fun d rt' hd => ?_)) | ((first | (apply zI; refine zP (hbig) ?_) | (refine zP (fun h => ?_) (fun h => ?_) <;> (try simp only [aB, aD, aP, aT, aV, bB] at h) <;> first | (exfalso; first | omega | exact h trivial | (cases h; done)) | skip) | refine Or.inl ?_) <;> conv => whnf) | fail
   obtain ⟨m, t, ⟨hm, ht⟩, rfl, rfl⟩ := hd
   refine ⟨rfl, by simp, ?_⟩
   conv => whnf
   have s1 := kY ht
   have g1 := fun o p => Asj o p m t s1.1 s1.2
   have g2 := fun o p => Amp o p m t s1.1 s1.2
   have g3 := fun o p => Alo o p m t s1.1 s1.2
   have g4 := fun o p => Ao1 o p m t s1.1 s1.2
   have g5 := fun o p => Agl o p m t s1.1 s1.2
   have g6 := fun o p => Ani o p m t s1.1 s1.2
   unfold fK at g1 g2 g3 g4
   unfold mX at g5 g6
   by_cases hc : kC m t = 0
   · obtain ⟨hk, hht, hq1, hq2⟩ := fJ hc
     obtain ⟨hb9, hpr⟩ := fN hht
     obtain ⟨p, rfl, hp⟩ := tT hpr
     obtain ⟨hmd, hqq, hL, hb2⟩ := pI hc
     have hp2 : 2 ≤ p := by omega
     rw [if_pos hc] at g1 g2 g3 g4 g5 g6
     simp only [Int.toNat_natCast] at g1 g2 g3 g4 g5 g6
     have htl := ht.1
     have hq := kK (p : Int) t
     have hpb := qA hp (show aI (p : Int) t ≤ 6 by omega)
     have hlG := Adl (p := p) (by omega) (bU true (aI (p : Int) t) (aZ (p : Int) t)) (aI (p : Int) t)
     have hlS := Adl (p := p) (by omega) (bU false (aI (p : Int) t) (aZ (p : Int) t)) (aI (p : Int) t)
     have hGb := oC (p := p) (by omega) (bU true (aI (p : Int) t) (aZ (p : Int) t)) (aI (p : Int) t) []
     have hSb := oC (p := p) (by omega) (bU false (aI (p : Int) t) (aZ (p : Int) t)) (aI (p : Int) t) []
     have hG9 := Ahp hmd hp t ht hc l hb hl h0
     generalize hG : ext p (bU true (aI (p : Int) t) (aZ (p : Int) t)) (aI (p : Int) t) [] = G at *
     generalize hS : ext p (bU false (aI (p : Int) t) (aZ (p : Int) t)) (aI (p : Int) t) [] = S at *
     have next := hG9 G S rfl rfl
     clear hG9
     have hrow : ∀ (T : List (List Int)), (∀ u ∈ T, u.length = aI (p : Int) t) → dP T := fun T hT i hi => by
       have := hT (T.getD i []) (by rw [List.getD_eq_getElem?_getD, List.getElem?_eq_getElem hi]; exact List.getElem_mem _)
       omega
     have r5 := fun o p o' p' => sJ o p o' p' G (by omega) (hrow G hlG)
     have r6 := fun o p o' p' => sJ o p o' p' S (by omega) (hrow S hlS)
     generalize decide ((ext p (goodD (aI (p : Int) t) (aZ (p : Int) t)) (aI (p : Int) t) []).length = 1) = v at *
     repeat' first | ((first | refine z0 ?_ | (apply zI; refine zP (g1 _ _) ?_) | (apply zI; refine zP (g2 _ _) ?_) | (apply zI; refine zP (g3 _ _) ?_) | (apply zI; refine zP (g4 _ _) ?_) | (apply zI; refine zP (g5 _ _) ?_) | (apply zI; refine zP (g6 _ _) ?_) | (apply zI; refine zP (r5 _ _ _ _) ?_) | (apply zI; refine zP (r6 _ _ _ _) ?_) | (refine zP (fun h => ?_) (fun h => ?_) <;> (try simp only [aB, aD, aP, aT, aV, bB] at h) <;> first | (exfalso; first | omega | exact h trivial | (cases h; done)) | skip) | refine zV ?_ | (apply zI; refine zP aK ?_) | (apply zI; refine zP aH ?_) | refine Or.inl ?_) <;> conv => whnf) | fail
     all_goals first | exact absurd ((show v = true from by assumption).symm.trans (show v = false from by assumption)) (by decide) | skip
     all_goals first | (refine dF.weak (Ahk (m := (p : Int)) hW t G S 0 l hb hl h0 next) (eB (kp := 0) [none, some 1, some 2, some 6]))
   · rw [if_neg hc] at g1 g2 g3 g4 g5 g6
     generalize kC m t = c9 at *
     repeat' first | ((first | (apply zI; refine zP (g1 _ _) ?_) | (apply zI; refine zP (g2 _ _) ?_) | (apply zI; refine zP (g3 _ _) ?_) | (apply zI; refine zP (g4 _ _) ?_) | (apply zI; refine zP (g5 _ _) ?_) | (apply zI; refine zP (g6 _ _) ?_) | (apply zI; refine zP (vM) ?_) | (refine zP (fun h => ?_) (fun h => ?_) <;> (try simp only [aB, aD, aP, aT, aV, bB] at h) <;> first | (exfalso; first | omega | exact h trivial | (cases h; done)) | skip) | refine Or.inl ?_) <;> conv => whnf) | fail
     all_goals first | (refine dF.weak (Ak8 (m := m) hW t [] [] c9 l hb hl h0 (Aqi t [] [] c9 hc l)) (eB (kp := 0) [none]))
end Go.Proofs
