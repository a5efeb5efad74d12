/- Parts of the proof. -/
import Derived.Test.YtghcpginhamelaaGreatK62
import Derived.Test.YtghcpginhamelaaGreatK112
import Derived.Test.YtghcpginhamelaaGreatK135B
import Derived.Test.YtghcpginhamelaaGreatK154
import Derived.Test.YtghcpginhamelaaGreatAlg24
import Derived.Test.YtghcpginhamelaaGreatAlg23
import Derived.Test.YtghcpginhamelaaGreatAlg9
import Derived.Test.YtghcpginhamelaaGreatAlg10
namespace Go.Proofs
open Go Go.Vm Go.Fg Go.Fg.PS
set_option maxRecDepth 100000
set_option maxHeartbeats 4000000
set_option linter.unusedSimpArgs false
set_option linter.unusedVariables false
variable {m : Int}
noncomputable def moC (m : Int) (t : List (List Int)) (k : Int) : Int := if dW m t = true then (if -1000000 ≤ k ∧ k ≤ 1000000 then 0 else 2) else 1
theorem Aya {m : Int} {t : List (List Int)} {k : Int} (h : moC m t k = 0) : dW m t = true ∧ (-1000000 ≤ k ∧ k ≤ 1000000) := by
 unfold moC at h
 split at h
 · split at h
   · exact ⟨by assumption, by assumption⟩
   · omega
 · omega
theorem Apv (n : Int) : aI Tryz.prog 121 [aA n] (bN (bE n (-1000000) 1000000)) := by
 refine aU Tryz.tabOk aF Tryz.func121 rfl rfl ?_
 conv => whnf
 repeat' first | ((first | refine z0 ?_ | (apply zI; refine zP (mX _ _ _) ?_) | (refine zP (fun h => ?_) (fun h => ?_) <;> (try simp only [aB, aE] at h)) | refine Or.inl ?_) <;> conv => whnf) | fail
 all_goals rw [h]
theorem Arm {m : Int} {t : List (List Int)} {ma : Int} {l : List Int} (h : fG m t ma l = 0) : dW m t = true ∧ dG ma l = true ∧ m = ma ∧ t.length = l.length ∧ l.getD 0 0 = 0 := by
 unfold fG at h
 split at h
 · split at h
   · split at h
     · rename_i h1 h2 h3
       simp only [jW, Bool.and_eq_true, decide_eq_true_eq] at h3
       exact ⟨h1, h2, h3.1, h3.2.1, h3.2.2⟩
     · omega
   · omega
 · omega
set_option linter.unusedSectionVars false
theorem Afp {f : PS (PS (Zm m))} {n : Nat} (hn : 2 ≤ n) (L : oB f n) : LwN f n :=
 ⟨hn, by rw [L.1 0 (by omega)]; exact if_neg (by omega), by rw [L.1 1 (by omega)]; exact if_pos rfl, fun i hi hne => by rw [L.1 i hi]; exact if_neg hne, L.2.1, fun p q k h => L.2.2 p q k h⟩
section
variable {f : PS (PS (Zm m))} {n : Nat} (hL : LwN f n)
include hL
theorem Ac0 {k : Nat} {out a r : PS (Zm m)} (h : Mul f n k out a r) (ho : out.c 0 = 0) (ha : a.c 0 = 0) : cv n r = hL.G.ad (cv n out) (hL.G.nm k (cv n a)) ∧ r.c 0 = 0 := by
 induction h with
 | zero out a => exact ⟨(hL.G.adz _).symm, ho⟩
 | odd k out a r hk h ih =>
   obtain ⟨h1, h2⟩ := ih (yO hL.z0 ho ha) (yO hL.z0 ha ha)
   refine ⟨?_, h2⟩
   rw [h1, sM, sM, ← hL.ad_cv ho ha, ← hL.ad_cv ha ha, hL.G.nm_ad, ← hL.G.nm_add, hL.G.assoc, hL.G.comm (cv n a)]
   have e : hL.G.nm k (cv n a) = hL.G.ad (hL.G.nm (k / 2 + k / 2) (cv n a)) (cv n a) := by
     conv => lhs; rw [show k = (k / 2 + k / 2) + 1 by omega]
     rfl
   rw [e]
 | even k out a r hk hk2 h ih =>
   obtain ⟨h1, h2⟩ := ih ho (yO hL.z0 ha ha)
   refine ⟨?_, h2⟩
   rw [h1, sM, ← hL.ad_cv ha ha, hL.G.nm_ad, ← hL.G.nm_add, show k / 2 + k / 2 = k by omega]
theorem Z8 {s : PS (Zm m)} (hs : s.c 0 = 0) : Ag n (compN (mY n f) s 0 n) (sL n f s) := jT hs n
theorem Apm {s : PS (Zm m)} (hs : s.c 0 = 0) : (compN (mY n f) s 0 n).c 0 = 0 := by
 have := hL.pos
 rw [Z8 hL hs 0 (by omega), P1]
theorem Aqg {k : Int} {a r : PS (Zm m)} (h : oJ f n k a r) (ha : a.c 0 = 0) : cv n r = hL.G.zm k (cv n a) ∧ r.c 0 = 0 := by
 unfold oJ at h
 by_cases h0 : 0 ≤ k
 · rw [if_pos h0] at h
   obtain ⟨h1, h2⟩ := Ac0 hL h rfl ha
   refine ⟨?_, h2⟩
   have e : hL.G.zm k (cv n a) = hL.G.nm k.toNat (cv n a) := by
     conv => lhs; rw [show k = (k.toNat : Int) by omega]
     rfl
   rw [h1, e]; exact hL.G.zad _
 · rw [if_neg h0] at h
   obtain ⟨s, hs, rfl⟩ := h
   obtain ⟨h1, h2⟩ := Ac0 hL hs rfl ha
   refine ⟨?_, Apm hL h2⟩
   have e : hL.G.zm k (cv n a) = hL.G.ng (hL.G.nm (-k).toNat (cv n a)) := by
     conv => lhs; rw [show k = -((-k).toNat : Int) by omega]
     exact hL.G.zm_neg_nat _ _
   rw [sK (Z8 hL h2), ← hL.ng_cv h2, h1, e]
   exact congrArg hL.G.ng (hL.G.zad _)
end
theorem Aug (o : Bool) (l : List Nat) (hb : ∀ b ∈ l, b < 256) (hl : l.length ≤ 4611686018427387904) (a : Nat) (ha : a ≤ l.length) (hs : Int) (n : Int) :
   cS Tryz.prog 29 2 [.ptr 1 [] 0, aA n] [none, some (aN o l a hs)]
     (fun d rt => ∃ (x : Int) (a' : Nat) (h' : Int), ((n < 1 → x = 0) ∧ (1 ≤ n → 0 ≤ x ∧ x < n)) ∧ a' ≤ l.length ∧ d = aA x ∧ rt = [none, some (aN o l a' h')]) := by
 have hbyte : a < l.length → l.getD a 0 < 256 := fun h => hb _ (by rw [List.getD_eq_getElem?_getD, List.getElem?_eq_getElem h]; exact List.getElem_mem h)
 refine eI Tryz.tabOk aF 2 _ Tryz.func29 rfl rfl ?_
 conv => whnf
 repeat' first | ((first | refine z0 ?_ | (refine zP (fun h => ?_) (fun h => ?_) <;> (try simp only [aB, aE] at h)) | refine zS ?_ | refine zV ?_ | (apply zI; refine zP aM ?_) | (apply zI; refine zP aG ?_) | refine zA ?_ | refine Alt.fst ?_ | refine Or.inl ?_) <;> conv => whnf) | fail
 · have hn1 : n < 1 := by assumption
   have hwk := fun st => aC.autoR (kp := 2) (st := st) (st2 := ⟨[aA 0], [none, some (aN o l a hs)]⟩)
   refine ⟨aA 0, [none, some (aN o l a hs)], ⟨0, a, hs, ⟨fun _ => rfl, fun h => by omega⟩, ha, rfl, rfl⟩, hwk _ ?_⟩
   conv => whnf
   repeat' ((first | refine z1 ?_ | refine z2 ?_ | refine zV ?_ | refine zP ?_ ?_ | exact trivial) <;> try (conv => whnf))
 · have hn1 : ¬ n < 1 := by assumption
   generalize IntKind.u64.wrap (IntKind.u64.wrap (hs * 6364136223846793005) + 1442695040888963407) = H
   have hx := Adr (H.fdiv (2 ^ min (Int.toNat 33) IntKind.u64.bits))
   generalize IntKind.u64.wrap ((BitVec.ofInt IntKind.u64.bits (H.fdiv (2 ^ min (Int.toNat 33) IntKind.u64.bits)) &&& BitVec.ofInt IntKind.u64.bits 16777215).toNat : Nat) = X at hx ⊢
   repeat' first | ((first | refine z0 ?_ | (apply zI; refine zP (sH (i := a) aY (by simp only [aB, bD] at *; omega)) ?_) | (refine zP (fun h => ?_) (fun h => ?_) <;> (try simp only [aB, aE] at h)) | refine zS ?_ | refine zV ?_) <;> conv => whnf) | fail
   · have hal : a < l.length := by simp only [bD] at *; omega
     have hby := hbyte hal
     repeat' first | ((first | refine z0 ?_ | (apply zI; refine zP (sH (i := a) aY (by simp only [aB, bD] at *; omega)) ?_) | (refine zP (fun h => ?_) (fun h => ?_) <;> (try simp only [aB, aE] at h)) | refine zS ?_ | refine zV ?_) <;> conv => whnf) | fail
     have hwk := fun st => aC.autoR (kp := 2) (st := st) (st2 := ⟨[aA ((X + ((l.getD a 0 : Nat) : Int)).tmod n)], [none, some (aN o l (a + 1) H)]⟩)
     refine ⟨aA ((X + ((l.getD a 0 : Nat) : Int)).tmod n), [none, some (aN o l (a + 1) H)], ⟨_, a + 1, H, ⟨fun h => by omega, fun h => ⟨Int.tmod_nonneg _ (by omega), Int.tmod_lt_of_pos _ (by omega)⟩⟩, hal, rfl, rfl⟩, hwk _ ?_⟩
     conv => whnf
     repeat' ((first | refine z1 ?_ | refine z2 ?_ | refine zV ?_ | refine zP ?_ ?_ | exact trivial) <;> try (conv => whnf))
   · have hwk := fun st => aC.autoR (kp := 2) (st := st) (st2 := ⟨[aA (X.tmod n)], [none, some (aN o l a H)]⟩)
     refine ⟨aA (X.tmod n), [none, some (aN o l a H)], ⟨_, a, H, ⟨fun h => by omega, fun h => ⟨Int.tmod_nonneg _ (by omega), Int.tmod_lt_of_pos _ (by omega)⟩⟩, ha, rfl, rfl⟩, hwk _ ?_⟩
     conv => whnf
     repeat' ((first | refine z1 ?_ | refine z2 ?_ | refine zV ?_ | refine zP ?_ ?_ | exact trivial) <;> try (conv => whnf))
theorem Ak6 (o : Bool) (l : List Nat) (hb : ∀ b ∈ l, b < 256) (hl : l.length ≤ 4611686018427387904) (z : Int) :
   cS Tryz.prog 28 1 [.list o 1 (fV l), .lit (.int .u64 z)] [none]
     (fun d rt => ∃ h' : Int, d = .ptr 1 [] 0 ∧ rt = [none, some (aN o l 0 h')]) := by
 refine eI Tryz.tabOk aF 1 _ Tryz.func28 rfl rfl ?_
 conv => whnf
 repeat' first | ((first | refine z0 ?_ | (refine zP (fun h => ?_) (fun h => ?_) <;> (try simp only [aB, aE] at h)) | refine zS ?_ | refine zV ?_ | (apply zI; refine zP aM ?_) | (apply zI; refine zP aG ?_) | refine zA ?_ | refine Alt.fst ?_ | refine Or.inl ?_) <;> conv => whnf) | fail
 refine aZ Tryz.tabOk aF (α := Nat × Int) (fun x => [(6, aA x.1)]) (fun x => [(1, some (aN o l 0 x.2))]) (fun x => x.1 ≤ l.length) (fun x => l.length - x.1) ((0, IntKind.u64.wrap (IntKind.u64.wrap (z * 6257) + IntKind.u64.wrap (l.length : Nat)))) ?_ ?_ ?_
 · omega
 · conv => whnf
   first | refine aH.autoR ?_ | refine aC.autoR ?_
   conv => whnf
   repeat' ((first | refine z1 ?_ | refine z2 ?_ | refine zV ?_ | refine zP cG ?_ | refine zP cF ?_ | refine zP ?_ ?_ | exact trivial) <;> try (conv => whnf))
   rw [show bC 1 (fV l) = l.length by rw [aB, bD]]
 intro ⟨i, hh⟩ hi
 simp only at hi
 conv => whnf
 repeat' first | ((first | refine z0 ?_ | (apply zI; refine zP (sH (i := i) aY (by simp only [aB, bD] at *; omega)) ?_) | (refine zP (fun h => ?_) (fun h => ?_) <;> (try simp only [aB, aE] at h)) | refine zS ?_ | refine zV ?_) <;> conv => whnf) | fail
 · have hil : i < l.length := by simp only [bD] at *; omega
   refine Exists.intro (i + 1, IntKind.u64.wrap (IntKind.u64.wrap (IntKind.u64.wrap (hh * 1099511628211) + IntKind.u64.wrap ((l.getD i 0 : Nat) : Int)) + 5)) (zP hil (zP (by simp only; omega) ?_))
   first | refine aH.autoR ?_ | refine aC.autoR ?_
   conv => whnf
   repeat' ((first | refine z1 ?_ | refine z2 ?_ | refine zV ?_ | refine zP cG ?_ | refine zP cF ?_ | refine zP ?_ ?_ | exact trivial) <;> try (conv => whnf))
 · have hwk := fun st => aC.autoR (kp := 1) (st := st) (st2 := ⟨[.ptr 1 [] 0], [none, some (aN o l 0 hh)]⟩)
   refine ⟨.ptr 1 [] 0, [none, some (aN o l 0 hh)], ⟨hh, rfl, rfl⟩, hwk _ ?_⟩
   conv => whnf
   repeat' ((first | refine z1 ?_ | refine z2 ?_ | refine zV ?_ | refine zP ?_ ?_ | exact trivial) <;> try (conv => whnf))
theorem As4 (hW : Wei) (o : Bool) (l : List Nat) (hb : ∀ b ∈ l, b < 256) (hl : l.length ≤ 4611686018427387904) :
   cS Tryz.prog 147 1 [.list o 1 (fV l), aA 1] [none]
     (fun d rt => ∃ (m : Int) (t : List (List Int)) (ma : Int) (la : List Int), ((1 ≤ m ∧ m ≤ 10001) ∧ lR t) ∧ la.length ≤ 12 ∧ d = .tup [jR m t, .list false 2 [aA ma, .list false 1 (ints la)]] ∧ rt = [none]) := by
 refine eI Tryz.tabOk aF 1 _ Tryz.func147 rfl rfl ?_
 conv => whnf
 repeat' first | (refine bF [] (zC o l hb hl) (fun d rt' hd => ?_)) | fail
 obtain ⟨h0, rfl, rfl⟩ := hd
 refine ⟨rfl, by simp, ?_⟩
 conv => whnf
 repeat' first | (refine bF [2] (Ani hW o l hb hl 0 (by omega) h0) (fun d rt' hd => ?_)) | fail
 obtain ⟨m, t, a1, h1, hm, ht, ha1, rfl, rfl⟩ := hd
 refine ⟨rfl, by simp, ?_⟩
 conv => whnf
 repeat' first | ((first | refine z0 ?_ | (refine zP (fun h => ?_) (fun h => ?_) <;> (try simp only [aB, aE] at h)) | refine zS ?_ | refine zV ?_ | (apply zI; refine zP aM ?_) | (apply zI; refine zP aG ?_) | refine zA ?_ | refine Alt.fst ?_ | refine Or.inl ?_) <;> conv => whnf) | fail
 refine gF Tryz.tabOk aF ?_
 conv => whnf
 repeat' first | ((first | refine z0 ?_ | (refine zP (fun h => ?_) (fun h => ?_) <;> (try simp only [aB, aE, aQ, aX, aT, bD] at h) <;> first | (exfalso; first | omega | exact h trivial | (cases h; done)) | skip) | refine zV ?_ | (apply zI; refine zP aM ?_) | (apply zI; refine zP aG ?_)) <;> conv => whnf) | fail
 refine aZ Tryz.tabOk aF (α := List Int × Nat × Int) (fun u => [(10, aA u.1.length), (22, .undef), (23, .undef)]) (fun u => [(2, some (aN o l u.2.1 u.2.2)), (5, some ⟨false, 1, ints u.1⟩), (6, some ⟨true, 1, [aA m, .ref 5 [] 1 0 u.1.length]⟩)]) (fun u => 1 ≤ u.1.length ∧ u.1.length ≤ 11 ∧ u.2.1 ≤ l.length) (fun u => 11 - u.1.length) (([0], a1, h1)) ?_ ?_ ?_
 · exact ⟨by simp, by simp, ha1⟩
 · conv => whnf
   first | refine aH.autoR ?_ | refine aC.autoR ?_
   conv => whnf
   repeat' ((first | refine z1 ?_ | refine z2 ?_ | refine zV ?_ | refine zP cG ?_ | refine zP cF ?_ | refine zP ?_ ?_ | exact trivial) <;> try (conv => whnf))
 intro u hu
 obtain ⟨us, a0, h0⟩ := u
 obtain ⟨hu1, hu2, ha0⟩ := hu
 simp only at hu1 hu2 ha0
 conv => whnf
 have htl := ht.1
 by_cases hlt : us.length < t.length
 · repeat' first | (refine bF [2] (dD o l hb hl a0 ha0 h0 (max 1 m)) (fun d rt' hd => ?_)) | ((first | refine Alt.snd (zP (show oK _ _ = true by decide +kernel) ?_) | (refine zP (fun h => ?_) (fun h => ?_) <;> (try simp only [aB, aE, aQ, aX, aT, bD] at h) <;> first | (exfalso; first | omega | exact h trivial | (cases h; done)) | skip) | refine zS ?_) <;> conv => whnf) | fail
   obtain ⟨x, a2, h2, hx, ha2, rfl, rfl⟩ := hd
   refine ⟨rfl, by simp, ?_⟩
   conv => whnf
   repeat' first | ((first | refine z0 ?_ | refine zP (show (_ : List (Option Root))[_]? = _ from rfl) ?_ | (refine zP (fun h => ?_) (fun h => ?_) <;> (try simp only [aB, aE, aQ, aX, aT, bD] at h) <;> first | (exfalso; first | omega | exact h trivial | (cases h; done)) | skip) | refine zV ?_ | (apply zI; refine zP aM ?_) | (apply zI; refine zP aG ?_)) <;> conv => whnf) | fail
   refine Exists.intro (us ++ [x], a2, h2) (zP ⟨by simp only [List.length_append, List.length_singleton]; omega, by simp only [List.length_append, List.length_singleton]; omega, ha2⟩ (zP (by simp only [List.length_append, List.length_singleton]; omega) ?_))
   first | refine aH.autoR ?_ | refine aC.autoR ?_
   conv => whnf
   repeat' ((first | refine z1 ?_ | refine z2 ?_ | refine zV ?_ | refine zP cG ?_ | refine zP cF ?_ | refine zP ?_ ?_ | exact trivial) <;> try (conv => whnf))
   all_goals first | (simp [ints]; done)
 · repeat' first | (refine bF [2] (dD o l hb hl a0 ha0 h0 40) (fun d rt' hd => ?_)) | ((first | (refine zP (fun h => ?_) (fun h => ?_) <;> (try simp only [aB, aE, aQ, aX, aT, bD] at h) <;> first | (exfalso; first | omega | exact h trivial | (cases h; done)) | skip)) <;> conv => whnf) | fail
   obtain ⟨x, a2, h2, hx, ha2, rfl, rfl⟩ := hd
   refine ⟨rfl, by simp, ?_⟩
   conv => whnf
   have hx2 := hx.2 (by omega)
   repeat' first | ((first | (refine zP (fun h => ?_) (fun h => ?_) <;> (try simp only [aB, aE, aQ, aX, aT, bD] at h) <;> first | (exfalso; first | omega | exact h trivial | (cases h; done)) | skip) | refine zV ?_ | (apply zI; refine zP aM ?_) | (apply zI; refine zP aG ?_) | refine zP (Ahn _ _) ?_ | refine zP (Adf (by omega)) ?_ | refine Or.inl ?_) <;> conv => whnf) | fail
   all_goals refine gF Tryz.tabOk aF ?_
   all_goals conv => whnf
   repeat' first | ((first | refine z0 ?_ | (refine zP (fun h => ?_) (fun h => ?_) <;> (try simp only [aB, aE, aQ, aX, aT, bD] at h) <;> first | (exfalso; first | omega | exact h trivial | (cases h; done)) | skip) | refine zV ?_ | (apply zI; refine zP aM ?_) | (apply zI; refine zP aG ?_)) <;> conv => whnf) | fail
   · refine ⟨.tup [jR m t, .list false 2 [aA (m), .list false 1 (ints (us.set 0 1))]], [none], ⟨m, t, m, (us.set 0 1), ⟨hm, ht⟩, by first | (simp; omega) | omega, rfl, rfl⟩, aC.trans (aC.freezeR (kp := 1) (r := 8) (s0 := 2) (env' := [.tup [jR m t, .list false 2 [aA (m), .list false 1 (ints (us.set 0 1))]]]) rfl rfl (kH (F8 (.rfl _) (Fz.ref (cs := [aA (m), .list true 1 (ints (us.set 0 1))]) 2 0 1 _ (show 0 * 2 + 1 * 2 ≤ 2 by omega) rfl)))) (aC.of (kp := 1) [none] ?_)⟩
     conv => whnf
     repeat' ((first | refine zP rfl ?_ | refine zP (lA aD) ?_ | refine zP bR ?_ | refine zP ?_ ?_ | exact trivial) <;> try (conv => whnf))
   · refine ⟨.tup [jR m t, .list false 2 [aA (m + 1), .list false 1 (ints us)]], [none], ⟨m, t, m + 1, us, ⟨hm, ht⟩, by first | (simp; omega) | omega, rfl, rfl⟩, aC.trans (aC.freezeR (kp := 1) (r := 8) (s0 := 2) (env' := [.tup [jR m t, .list false 2 [aA (m + 1), .list false 1 (ints us)]]]) rfl rfl (kH (F8 (.rfl _) (Fz.ref (cs := [aA (m + 1), .list true 1 (ints us)]) 2 0 1 _ (show 0 * 2 + 1 * 2 ≤ 2 by omega) rfl)))) (aC.of (kp := 1) [none] ?_)⟩
     conv => whnf
     repeat' ((first | refine zP rfl ?_ | refine zP (lA aD) ?_ | refine zP bR ?_ | refine zP ?_ ?_ | exact trivial) <;> try (conv => whnf))
   · refine ⟨.tup [jR m t, .list false 2 [aA (m), .list false 1 (ints (us ++ [0]))]], [none], ⟨m, t, m, (us ++ [0]), ⟨hm, ht⟩, by first | (simp; omega) | omega, rfl, rfl⟩, aC.trans (aC.freezeR (kp := 1) (r := 10) (s0 := 2) (env' := [.tup [jR m t, .list false 2 [aA (m), .list false 1 (ints (us ++ [0]))]]]) rfl rfl (kH (F8 (.rfl _) (Fz.ref (cs := [aA (m), .list true 1 (ints (us ++ [0]))]) 2 0 1 _ (show 0 * 2 + 1 * 2 ≤ 2 by omega) rfl)))) (aC.of (kp := 1) [none] ?_)⟩
     conv => whnf
     repeat' ((first | refine zP rfl ?_ | refine zP (lA aD) ?_ | refine zP bR ?_ | refine zP ?_ ?_ | exact trivial) <;> try (conv => whnf))
   · refine ⟨.tup [jR m t, .list false 2 [aA (m), .list false 1 (ints us)]], [none], ⟨m, t, m, us, ⟨hm, ht⟩, by first | (simp; omega) | omega, rfl, rfl⟩, aC.trans (aC.freezeR (kp := 1) (r := 8) (s0 := 2) (env' := [.tup [jR m t, .list false 2 [aA (m), .list false 1 (ints us)]]]) rfl rfl (kH (F8 (.rfl _) (Fz.ref (cs := [aA (m), .list true 1 (ints us)]) 2 0 1 _ (show 0 * 2 + 1 * 2 ≤ 2 by omega) rfl)))) (aC.of (kp := 1) [none] ?_)⟩
     conv => whnf
     repeat' ((first | refine zP rfl ?_ | refine zP (lA aD) ?_ | refine zP bR ?_ | refine zP ?_ ?_ | exact trivial) <;> try (conv => whnf))
end Go.Proofs
namespace Go.Proofs
open Go Go.Vm Go.Fg Go.Fg.PS
set_option linter.unusedVariables false
theorem wei : Wei := fun _ hm n hn _ hd o a => ⟨wF n a, Aro hm o n hn hd a⟩
end Go.Proofs
namespace Go.Proofs
open Go Go.Vm Go.Fg Go.Fg.PS
set_option maxRecDepth 100000
set_option maxHeartbeats 4000000
set_option linter.unusedSimpArgs false
set_option linter.unusedVariables false
variable {m : Int}
theorem Avm (g : Nat) (o o1 o3 : Bool) (ma : Int) (l : List Int) (mb : Int) (k : List Int)  (hp : aI Tryz.prog g [.agg [aA ma, .list o1 1 (ints l)]] (bN true)) (hq : aI Tryz.prog g [.agg [aA mb, .list o3 1 (ints k)]] (bN true)) :
   aI Tryz.prog 256 [.list o 2 [aA ma, .list o1 1 (ints l), aA mb, .list o3 1 (ints k)], (.fn (.func g) [] [])] (bN true) := by
 have h1 : aI Tryz.prog 313 [.agg [aA ma, .list o1 1 (ints l)], .cptr [(.fn (.func g) [] [])] 0] (bN (!true)) := V4 g o1 ma l  true hp
 have h3 : aI Tryz.prog 313 [.agg [aA mb, .list o3 1 (ints k)], .cptr [(.fn (.func g) [] [])] 0] (bN (!true)) := V4 g o3 mb k  true hq
 have h2 : aI Tryz.prog 334 [.list o 2 [aA ma, .list o1 1 (ints l), aA mb, .list o3 1 (ints k)], .fn (.func 313) [] [.cptr [(.fn (.func g) [] [])] 0]] (aA (-1)) := by
   have hc2 : bC 2 [aA ma, .list o1 1 (ints l), aA mb, .list o3 1 (ints k)] = 2 := by simp [bC]
   refine aU Tryz.tabOk aF Tryz.func334 rfl rfl ?_
   conv => whnf
   repeat' first | ((first | refine z0 ?_ | (refine zP (fun h => ?_) (fun h => ?_) <;> (try simp only [aB, aE] at h)) | refine zS ?_ | refine zV ?_ | (apply zI; refine zP aM ?_) | (apply zI; refine zP aG ?_) | refine zA ?_ | refine Alt.fst ?_ | refine Or.inl ?_) <;> conv => whnf) | fail
   refine gF Tryz.tabOk aF ?_
   conv => whnf
   repeat' first | ((first | (apply zI; refine zP (h1) ?_) | (refine zP (fun h => ?_) (fun h => ?_) <;> (try simp only [aB, aE, aQ, aX, aT, bD] at h) <;> first | (exfalso; first | omega | exact h trivial | (cases h; done)) | skip) | refine zV ?_ | (apply zI; refine zP aG ?_) | refine Or.inl ?_) <;> conv => whnf) | fail
   refine gF Tryz.tabOk aF ?_
   conv => whnf
   repeat' first | ((first | (apply zI; refine zP (h3) ?_) | (refine zP (fun h => ?_) (fun h => ?_) <;> (try simp only [aB, aE, aQ, aX, aT, bD] at h) <;> first | (exfalso; first | omega | exact h trivial | (cases h; done)) | skip) | refine zV ?_ | (apply zI; refine zP aG ?_) | refine Or.inl ?_) <;> conv => whnf) | fail
   refine gF Tryz.tabOk aF ?_
   conv => whnf
   repeat' first | ((first | refine z0 ?_ | (refine zP (fun h => ?_) (fun h => ?_) <;> (try simp only [aB, aE, aQ, aX, aT, bD] at h) <;> first | (exfalso; first | omega | exact h trivial | (cases h; done)) | skip) | refine zV ?_ | (apply zI; refine zP aM ?_) | (apply zI; refine zP aG ?_)) <;> conv => whnf) | fail
   all_goals first
         | rfl
         | (exfalso; have hx : 2 < ((bC 2 [aA ma, .list o1 1 (ints l), aA mb, .list o3 1 (ints k)] : Nat) : Int) := (by assumption); rw [hc2] at hx; omega)
         | (exfalso; have hx : 1 + 1 < ((bC 2 [aA ma, .list o1 1 (ints l), aA mb, .list o3 1 (ints k)] : Nat) : Int) := (by assumption); rw [hc2] at hx; omega)
         | (exfalso; have hx : 0 + 1 + 1 < ((bC 2 [aA ma, .list o1 1 (ints l), aA mb, .list o3 1 (ints k)] : Nat) : Int) := (by assumption); rw [hc2] at hx; omega)
 refine aU Tryz.tabOk aF Tryz.func256 rfl rfl ?_
 conv => whnf
 repeat' first | ((first | refine z0 ?_ | refine Or.inr (iY Tryz.tabOk aF _ Tryz.func312 rfl rfl ?_) | (apply zI; refine zP (h2) ?_) | (refine zP (fun h => ?_) (fun h => ?_) <;> (try simp only [aB, aE, aQ, aX, aT, bD] at h) <;> first | (exfalso; first | omega | exact h trivial | (cases h; done)) | skip) | refine zV ?_ | refine Or.inl ?_) <;> conv => whnf) | fail
 all_goals first | rfl | (exfalso; omega)
theorem Al2 (g : Nat) (o o1 o3 : Bool) (ma : Int) (l : List Int) (mb : Int) (k : List Int) (m : Int) (o2 p2 : Bool) (t : List (List Int)) (hp : aI Tryz.prog g [.agg [aA m, .list o2 1 (rows p2 t)], .agg [aA ma, .list o1 1 (ints l)]] (bN true)) (hq : aI Tryz.prog g [.agg [aA m, .list o2 1 (rows p2 t)], .agg [aA mb, .list o3 1 (ints k)]] (bN true)) :
   aI Tryz.prog 256 [.list o 2 [aA ma, .list o1 1 (ints l), aA mb, .list o3 1 (ints k)], (.fn (.func g) [.agg [aA m, .list o2 1 (rows p2 t)]] [])] (bN true) := by
 have h1 : aI Tryz.prog 313 [.agg [aA ma, .list o1 1 (ints l)], .cptr [(.fn (.func g) [.agg [aA m, .list o2 1 (rows p2 t)]] [])] 0] (bN (!true)) := X3 g o1 ma l m o2 p2 t true hp
 have h3 : aI Tryz.prog 313 [.agg [aA mb, .list o3 1 (ints k)], .cptr [(.fn (.func g) [.agg [aA m, .list o2 1 (rows p2 t)]] [])] 0] (bN (!true)) := X3 g o3 mb k m o2 p2 t true hq
 have h2 : aI Tryz.prog 334 [.list o 2 [aA ma, .list o1 1 (ints l), aA mb, .list o3 1 (ints k)], .fn (.func 313) [] [.cptr [(.fn (.func g) [.agg [aA m, .list o2 1 (rows p2 t)]] [])] 0]] (aA (-1)) := by
   have hc2 : bC 2 [aA ma, .list o1 1 (ints l), aA mb, .list o3 1 (ints k)] = 2 := by simp [bC]
   refine aU Tryz.tabOk aF Tryz.func334 rfl rfl ?_
   conv => whnf
   repeat' first | ((first | refine z0 ?_ | (refine zP (fun h => ?_) (fun h => ?_) <;> (try simp only [aB, aE] at h)) | refine zS ?_ | refine zV ?_ | (apply zI; refine zP aM ?_) | (apply zI; refine zP aG ?_) | refine zA ?_ | refine Alt.fst ?_ | refine Or.inl ?_) <;> conv => whnf) | fail
   refine gF Tryz.tabOk aF ?_
   conv => whnf
   repeat' first | ((first | (apply zI; refine zP (h1) ?_) | (refine zP (fun h => ?_) (fun h => ?_) <;> (try simp only [aB, aE, aQ, aX, aT, bD] at h) <;> first | (exfalso; first | omega | exact h trivial | (cases h; done)) | skip) | refine zV ?_ | (apply zI; refine zP aG ?_) | refine Or.inl ?_) <;> conv => whnf) | fail
   refine gF Tryz.tabOk aF ?_
   conv => whnf
   repeat' first | ((first | (apply zI; refine zP (h3) ?_) | (refine zP (fun h => ?_) (fun h => ?_) <;> (try simp only [aB, aE, aQ, aX, aT, bD] at h) <;> first | (exfalso; first | omega | exact h trivial | (cases h; done)) | skip) | refine zV ?_ | (apply zI; refine zP aG ?_) | refine Or.inl ?_) <;> conv => whnf) | fail
   refine gF Tryz.tabOk aF ?_
   conv => whnf
   repeat' first | ((first | refine z0 ?_ | (refine zP (fun h => ?_) (fun h => ?_) <;> (try simp only [aB, aE, aQ, aX, aT, bD] at h) <;> first | (exfalso; first | omega | exact h trivial | (cases h; done)) | skip) | refine zV ?_ | (apply zI; refine zP aM ?_) | (apply zI; refine zP aG ?_)) <;> conv => whnf) | fail
   all_goals first
         | rfl
         | (exfalso; have hx : 2 < ((bC 2 [aA ma, .list o1 1 (ints l), aA mb, .list o3 1 (ints k)] : Nat) : Int) := (by assumption); rw [hc2] at hx; omega)
         | (exfalso; have hx : 1 + 1 < ((bC 2 [aA ma, .list o1 1 (ints l), aA mb, .list o3 1 (ints k)] : Nat) : Int) := (by assumption); rw [hc2] at hx; omega)
         | (exfalso; have hx : 0 + 1 + 1 < ((bC 2 [aA ma, .list o1 1 (ints l), aA mb, .list o3 1 (ints k)] : Nat) : Int) := (by assumption); rw [hc2] at hx; omega)
 refine aU Tryz.tabOk aF Tryz.func256 rfl rfl ?_
 conv => whnf
 repeat' first | ((first | refine z0 ?_ | refine Or.inr (iY Tryz.tabOk aF _ Tryz.func312 rfl rfl ?_) | (apply zI; refine zP (h2) ?_) | (refine zP (fun h => ?_) (fun h => ?_) <;> (try simp only [aB, aE, aQ, aX, aT, bD] at h) <;> first | (exfalso; first | omega | exact h trivial | (cases h; done)) | skip) | refine zV ?_ | refine Or.inl ?_) <;> conv => whnf) | fail
 all_goals first | rfl | (exfalso; omega)
theorem nS (hm : Md m) {n : Nat} (hn : 2 ≤ n ∧ n ≤ 11) (a : PS (Zm m)) : dG m (L n a) = true := by
 simp only [dG, Bool.and_eq_true]
 refine ⟨⟨?_, ?_⟩, ?_⟩
 · simpa [bE, Md] using hm
 · simp [bE]; omega
 · refine Z4 (fun j hj => ?_)
   rw [lX _ (by simpa using hj)]
   have := Zm.val_range hm.pos (a.c j)
   simp [bE]; omega
theorem Y0 {m : Int} {n : Nat} (hn : 2 ≤ n ∧ n ≤ 11) {f : PS (PS (Zm m))} {a : PS (Zm m)} (ha : a.c 0 = 0) : jW m (Tb n f) m (L n a) = true := by
 simp only [jW, decide_true, Bool.true_and, Bool.and_eq_true, decide_eq_true_eq, aX, aT]
 rw [lX _ (by omega), ha]; exact Zm.val_zero
theorem As1 (hm : Md m) (o p o1 o2 : Bool) (n : Nat) (hn : 2 ≤ n ∧ n ≤ 11) (f : PS (PS (Zm m))) (hL : dW m (Tb n f) = true) (a : PS (Zm m)) (ha : a.c 0 = 0) :
   aI Tryz.prog 162 [dZ m o p n f, .list o2 2 [aA m, .list o1 1 (ints (L n a))]] (aA 0) := by
 have h := Aim o p o1 o2 m (Tb n f) m (L n a) (by simp; omega) (xL (by omega) f) (by simp; omega)
 rw [show fG m (Tb n f) m (L n a) = 0 by unfold fG; rw [if_pos hL, if_pos (nS hm hn a), if_pos (Y0 hn ha)]] at h
 exact h
theorem Aq0 (hm : Md m) (o p o1 o2 o3 : Bool) (n : Nat) (hn : 2 ≤ n ∧ n ≤ 11) (f : PS (PS (Zm m))) (hL : dW m (Tb n f) = true) (a b : PS (Zm m)) (ha : a.c 0 = 0) (hb : b.c 0 = 0) :
   aI Tryz.prog 162 [dZ m o p n f, .list o2 2 [aA m, .list o1 1 (ints (L n a)), aA m, .list o3 1 (ints (L n b))]] (aA 0) := by
 have q1 := vZ o1 m (L n a) (by simp; omega)
 have q2 := vZ o3 m (L n b) (by simp; omega)
 rw [nS hm hn a] at q1
 rw [nS hm hn b] at q2
 have hA := Avm 153 o2 o1 o3 m (L n a) m (L n b) q1 q2
 have r1 := J8 o p o1 m (Tb n f) m (L n a) (nS hm hn a) (by simp; omega)
 have r2 := J8 o p o3 m (Tb n f) m (L n b) (nS hm hn b) (by simp; omega)
 rw [Y0 hn ha] at r1
 rw [Y0 hn hb] at r2
 have hB := Al2 155 o2 o1 o3 m (L n a) m (L n b) m o p (Tb n f) r1 r2
 have hI := L3 o p m (Tb n f) (by simp; omega) (xL (by omega) f)
 rw [hL] at hI
 refine aU Tryz.tabOk aF Tryz.func162 rfl rfl ?_
 conv => whnf
 repeat' first | ((first | refine z0 ?_ | (apply zI; refine zP (hI) ?_) | (apply zI; refine zP (hA) ?_) | (apply zI; refine zP (hB) ?_) | (refine zP (fun h => ?_) (fun h => ?_) <;> (try simp only [aB, aE, aQ, aX, aT, bD] at h) <;> first | (exfalso; first | omega | exact h trivial | (cases h; done)) | skip) | refine Or.inl ?_) <;> conv => whnf) | fail
theorem Aca (hm : Md m) (o p o1 o3 : Bool) (n : Nat) (hn : 2 ≤ n ∧ n ≤ 11) (f : PS (PS (Zm m))) (hL : dW m (Tb n f) = true) (a b : PS (Zm m)) (ha : a.c 0 = 0) (hb : b.c 0 = 0) :
   aI Tryz.prog 55 [dZ m o p n f, bV m o1 n a, bV m o3 n b] (.tup [bV m true n (cZ f a b n), aA 0]) := by
 have h0 := fun o1 o2 o3 => Aq0 hm o p o1 o2 o3 n hn f hL a b ha hb
 refine aU Tryz.tabOk aF Tryz.func55 rfl rfl ?_
 conv => whnf
 repeat' first | ((first | refine z0 ?_ | (apply zI; refine zP (h0 _ _ _) ?_) | (apply zI; refine zP (xB hm _ _ _ _ n (by omega) f a b) ?_) | (apply zI; refine zP ((show sub [aA m, D.list false 1 (ints (L n a)), aA m, D.list false 1 (ints (L n b))] 2 0 2 = [aA m, D.list false 1 (ints (L n a)), aA m, D.list false 1 (ints (L n b))] from rfl)) ?_) | (refine zP (fun h => ?_) (fun h => ?_) <;> (try simp only [aB, aE, aQ, aX, aT, bD] at h) <;> first | (exfalso; first | omega | exact h trivial | (cases h; done)) | skip) | refine zV ?_ | (apply zI; refine zP aG ?_) | refine zP ((show 2 * 2 ≤ 4 by omega)) ?_ | refine Or.inl ?_) <;> conv => whnf) | fail
theorem Aml (hm : Md m) (o p o1 : Bool) (n : Nat) (hn : 2 ≤ n ∧ n ≤ 11) (f : PS (PS (Zm m))) (hL : dW m (Tb n f) = true) (a : PS (Zm m)) (ha : a.c 0 = 0) (k : Int) (hk : -1000000 ≤ k ∧ k ≤ 1000000) (r : PS (Zm m)) (hr : oJ f n k a r) :
   aI Tryz.prog 64 [dZ m o p n f, aA k, bV m o1 n a] (.tup [bV m true n r, aA 0]) := by
 have h0 := fun o1 o2 => As1 hm o p o1 o2 n hn f hL a ha
 have h1 := Apv k
 rw [show bE k (-1000000) 1000000 = true by simp [bE, hk]] at h1
 refine aU Tryz.tabOk aF Tryz.func64 rfl rfl ?_
 conv => whnf
 repeat' first | ((first | refine z0 ?_ | (apply zI; refine zP (h0 _ _) ?_) | (apply zI; refine zP (h1) ?_) | (apply zI; refine zP (As8 hm _ _ _ n (by omega) f a k hk r hr) ?_) | (apply zI; refine zP ((show sub [aA m, D.list false 1 (ints (L n a))] 2 0 1 = [aA m, D.list false 1 (ints (L n a))] from rfl)) ?_) | (refine zP (fun h => ?_) (fun h => ?_) <;> (try simp only [aB, aE, aQ, aX, aT, bD] at h) <;> first | (exfalso; first | omega | exact h trivial | (cases h; done)) | skip) | refine zV ?_ | (apply zI; refine zP aG ?_) | refine zP ((show 1 * 2 ≤ 2 by omega)) ?_ | refine Or.inl ?_) <;> conv => whnf) | fail
end Go.Proofs
namespace Go.Proofs
open Go Go.Vm Go.Fg Go.Fg.PS
set_option maxRecDepth 100000
set_option maxHeartbeats 4000000
set_option linter.unusedSimpArgs false
set_option linter.unusedVariables false
open Classical in
noncomputable def qC (m : Int) (t : List (List Int)) (m' : Int) (t' : List (List Int)) : Int := if twC m t m' t' = 0 then (if t.length = 2 then 2 else if L6 (cT m t) (cT m t') t.length < t.length - 1 then 5 else 0) else twC m t m' t'
end Go.Proofs
namespace Go.Proofs
open Go Go.Vm Go.Fg Go.Fg.PS
set_option maxRecDepth 100000
set_option maxHeartbeats 4000000
set_option linter.unusedSimpArgs false
set_option linter.unusedVariables false
variable {m : Int}
theorem Al6 (o : Bool) (l : List Nat) (hb : ∀ b ∈ l, b < 256) (hl : l.length ≤ 4611686018427387904) (a : Nat) (ha : a ≤ l.length) (hs : Int) :
   cS Tryz.prog 335 2 [.ptr 1 [] 0] [none, some (aN o l a hs)]
     (fun d rt => ∃ (x : Int) (a' : Nat) (h' : Int), (2 ≤ x ∧ x ≤ 10000) ∧ a' ≤ l.length ∧ d = aA x ∧ rt = [none, some (aN o l a' h')]) := by
 refine eI Tryz.tabOk aF 2 _ Tryz.func335 rfl rfl ?_
 conv => whnf
 repeat' first | (refine bF [1] (dD o l hb hl a ha hs 100) (fun d rt' hd => ?_)) | fail
 obtain ⟨x, a1, h1, hx, ha1, rfl, rfl⟩ := hd
 refine ⟨rfl, by simp, ?_⟩
 conv => whnf
 have hx2 := hx.2 (by omega)
 repeat' first | (refine bF [1] (dD o l hb hl a1 ha1 h1 9999) (fun d rt' hd => ?_)) | ((first | refine zV ?_) <;> conv => whnf) | fail
 obtain ⟨z, a3, h3, hz, ha3, rfl, rfl⟩ := hd
 refine ⟨rfl, by simp, ?_⟩
 conv => whnf
 have hz2 := hz.2 (by omega)
 repeat' first | (refine bF [1, 2] (jV o l hb hl a3 ha3 h3 [2, 3, 4, 5, 6, 7, 8, 9, 10, 12, 16, 25, 27, 30, 49, 101, 210, 2 + x, 2 + z, 10000] (by simp)) (fun d rt' hd => ?_)) | ((first | refine zV ?_) <;> conv => whnf) | fail
 obtain ⟨y, a2, h2, hy, ha2, rfl, rfl⟩ := hd
 refine ⟨rfl, by simp, ?_⟩
 conv => whnf
 repeat' first | ((first | refine z0 ?_ | (refine zP (fun h => ?_) (fun h => ?_) <;> (try simp only [aB, aE] at h)) | refine zS ?_ | refine zV ?_ | (apply zI; refine zP aM ?_) | (apply zI; refine zP aG ?_) | refine zA ?_ | refine Alt.fst ?_ | refine Or.inl ?_) <;> conv => whnf) | fail
 have hy2 : 2 ≤ y ∧ y ≤ 10000 := by
   simp only [List.mem_cons, List.not_mem_nil, or_false] at hy
   omega
 refine ⟨aA y, [none, some (aN o l a2 h2)], ⟨y, a2, h2, hy2, ha2, rfl, rfl⟩, aC.of (kp := 2) [none, some 1] ?_⟩
 conv => whnf
 repeat' ((first | refine z1 ?_ | refine zV ?_ | exact trivial) <;> try (conv => whnf))
theorem Ap0 (o : Bool) (l : List Nat) (hb : ∀ b ∈ l, b < 256) (hl : l.length ≤ 4611686018427387904) (a : Nat) (ha : a ≤ l.length) (hs : Int) (n : Int) (hn : 0 ≤ n ∧ n ≤ 1000) :
   cS Tryz.prog 174 2 [.ptr 1 [] 0, aA n] [none, some (aN o l a hs)]
     (fun d rt => ∃ (x : Int) (a' : Nat) (h' : Int), (-4611686018427387904 ≤ x ∧ x ≤ 1099511627776) ∧ a' ≤ l.length ∧ d = aA x ∧ rt = [none, some (aN o l a' h')]) := by
 refine eI Tryz.tabOk aF 2 _ Tryz.func174 rfl rfl ?_
 conv => whnf
 repeat' first | (refine bF [1] (dD o l hb hl a ha hs 14) (fun d rt' hd => ?_)) | fail
 obtain ⟨x, a1, h1, hx, ha1, rfl, rfl⟩ := hd
 refine ⟨rfl, by simp, ?_⟩
 conv => whnf
 have hx2 := hx.2 (by omega)
 repeat' first | (refine bF [1, 2] (jV o l hb hl a1 ha1 h1 [-1, n + 1, 1099511627776, -4611686018427387904] (by simp)) (fun d rt' hd => ?_)) | (refine bF [1] (dD o l hb hl a1 ha1 h1 (n + 1)) (fun d rt' hd => ?_)) | ((first | (refine zP (fun h => ?_) (fun h => ?_) <;> (try simp only [aB, aE] at h)) | refine zV ?_) <;> conv => whnf) | fail
 · obtain ⟨y, a2, h2, hy, ha2, rfl, rfl⟩ := hd
   refine ⟨rfl, by simp, ?_⟩
   conv => whnf
   repeat' first | ((first | refine z0 ?_ | (refine zP (fun h => ?_) (fun h => ?_) <;> (try simp only [aB, aE] at h)) | refine zS ?_ | refine zV ?_ | (apply zI; refine zP aM ?_) | (apply zI; refine zP aG ?_) | refine zA ?_ | refine Alt.fst ?_ | refine Or.inl ?_) <;> conv => whnf) | fail
   have hy2 : -4611686018427387904 ≤ y ∧ y ≤ 1099511627776 := by
     simp only [List.mem_cons, List.not_mem_nil, or_false] at hy
     omega
   refine ⟨aA y, [none, some (aN o l a2 h2)], ⟨y, a2, h2, hy2, ha2, rfl, rfl⟩, aC.of (kp := 2) [none, some 1] ?_⟩
   conv => whnf
   repeat' ((first | refine z1 ?_ | refine zV ?_ | exact trivial) <;> try (conv => whnf))
 · obtain ⟨y, a2, h2, hy, ha2, rfl, rfl⟩ := hd
   refine ⟨rfl, by simp, ?_⟩
   conv => whnf
   have hy2 := hy.2 (by omega)
   repeat' first | ((first | refine z0 ?_ | (refine zP (fun h => ?_) (fun h => ?_) <;> (try simp only [aB, aE] at h)) | refine zS ?_ | refine zV ?_ | (apply zI; refine zP aM ?_) | (apply zI; refine zP aG ?_) | refine zA ?_ | refine Alt.fst ?_ | refine Or.inl ?_) <;> conv => whnf) | fail
   refine ⟨aA y, [none, some (aN o l a2 h2)], ⟨y, a2, h2, by omega, ha2, rfl, rfl⟩, aC.of (kp := 2) [none, some 1] ?_⟩
   conv => whnf
   repeat' ((first | refine z1 ?_ | refine zV ?_ | exact trivial) <;> try (conv => whnf))
theorem Ar4 (o : Bool) (l : List Nat) (hb : ∀ b ∈ l, b < 256) (hl : l.length ≤ 4611686018427387904) (a : Nat) (ha : a ≤ l.length) (hs : Int) (m : Int) (hm : -5 ≤ m ∧ m ≤ 1099511627776) (n : Int) (hn : n ≤ 100) :
   cS Tryz.prog 336 2 [.ptr 1 [] 0, aA m, aA n] [none, some (aN o l a hs)]
     (fun d rt => ∃ (us : List Int) (a' : Nat) (h' : Int), us.length = n.toNat ∧ a' ≤ l.length ∧ d = .ref 2 [] 1 0 n.toNat ∧ rt = [none, some (aN o l a' h'), some ⟨false, 1, ints us⟩]) := by
 refine eI Tryz.tabOk aF 2 _ Tryz.func336 rfl rfl ?_
 conv => whnf
 repeat' first | ((first | refine z0 ?_ | (refine zP (fun h => ?_) (fun h => ?_) <;> (try simp only [aB, aE] at h)) | refine zS ?_ | refine zV ?_ | (apply zI; refine zP aM ?_) | (apply zI; refine zP aG ?_) | refine zA ?_ | refine Alt.fst ?_ | refine Or.inl ?_) <;> conv => whnf) | fail
 refine aZ Tryz.tabOk aF (α := List Int × Nat × Int) (fun u => [(2, aA (n - u.1.length)), (7, .ref 2 [] 1 0 u.1.length), (8, .undef)]) (fun u => [(1, some (aN o l u.2.1 u.2.2)), (2, some ⟨false, 1, ints u.1⟩)]) (fun u => u.1.length ≤ n.toNat ∧ u.2.1 ≤ l.length) (fun u => n.toNat - u.1.length) (([], a, hs)) ?_ ?_ ?_
 · exact ⟨by simp, ha⟩
 · conv => whnf
   first | refine aH.autoR ?_ | refine aC.autoR ?_
   conv => whnf
   repeat' ((first | refine z1 ?_ | refine z2 ?_ | refine zV ?_ | exact trivial) <;> try (conv => whnf))
   all_goals simp
 intro u hu
 obtain ⟨us, a0, h0⟩ := u
 obtain ⟨hu2, ha0⟩ := hu
 simp only at hu2 ha0
 conv => whnf
 by_cases hlt : us.length < n.toNat
 · repeat' first | (refine bF [1] (dD o l hb hl a0 ha0 h0 m) (fun d rt' hd => ?_)) | ((first | refine Alt.snd (zP (show oK _ _ = true by decide +kernel) ?_) | (refine zP (fun h => ?_) (fun h => ?_) <;> (try simp only [aB, aE, aQ, aX, aT, bD] at h) <;> first | (exfalso; first | omega | exact h trivial | (cases h; done)) | skip) | refine zS ?_ | refine zV ?_) <;> conv => whnf) | fail
   obtain ⟨x, a1, h1, hx, ha1, rfl, rfl⟩ := hd
   refine ⟨rfl, by simp, ?_⟩
   conv => whnf
   repeat' first | (refine bF [1] (dD o l hb hl a1 ha1 h1 m) (fun d rt' hd => ?_)) | fail
   obtain ⟨y, a2, h2, hy, ha2, rfl, rfl⟩ := hd
   refine ⟨rfl, by simp, ?_⟩
   conv => whnf
   repeat' first | (refine bF [1, 3] (jV o l hb hl a2 ha2 h2 [0, (1 : Int).tmod (max m 1), x, y] (by simp)) (fun d rt' hd => ?_)) | fail
   obtain ⟨z, a3, h3, hz, ha3, rfl, rfl⟩ := hd
   refine ⟨rfl, by simp, ?_⟩
   conv => whnf
   repeat' first | ((first | refine z0 ?_ | refine zP (show (_ : List (Option Root))[_]? = _ from rfl) ?_ | (refine zP (fun h => ?_) (fun h => ?_) <;> (try simp only [aB, aE, aQ, aX, aT, bD] at h) <;> first | (exfalso; first | omega | exact h trivial | (cases h; done)) | skip) | refine zV ?_ | (apply zI; refine zP aM ?_) | (apply zI; refine zP aG ?_)) <;> conv => whnf) | fail
   refine Exists.intro (us ++ [z], a3, h3) (zP ⟨by simp only [List.length_append, List.length_singleton]; omega, ha3⟩ (zP (by simp only [List.length_append, List.length_singleton]; omega) ?_))
   first | refine aH.autoR ?_ | refine aC.autoR ?_
   conv => whnf
   repeat' ((first | refine z1 ?_ | refine z2 ?_ | refine zV ?_ | exact trivial) <;> try (conv => whnf))
   all_goals first | (simp [ints]; done) | (simp; omega)
 · repeat' first | ((first | refine z0 ?_ | (refine zP (fun h => ?_) (fun h => ?_) <;> (try simp only [aB, aE, aQ, aX, aT, bD] at h) <;> first | (exfalso; first | omega | exact h trivial | (cases h; done)) | skip) | refine zV ?_ | (apply zI; refine zP aM ?_) | (apply zI; refine zP aG ?_)) <;> conv => whnf) | fail
   have e : us.length = n.toNat := by omega
   refine ⟨.ref 2 [] 1 0 n.toNat, [none, some (aN o l a0 h0), some ⟨false, 1, ints us⟩], ⟨us, a0, h0, e, ha0, rfl, rfl⟩, aC.of (kp := 2) [none, some 1, some 2] ?_⟩
   conv => whnf
   repeat' ((first | refine z1 ?_ | refine zV ?_ | exact trivial) <;> try (conv => whnf))
theorem Avd {l : List Int} {off n : Nat} : sub (ints l) 1 off n = ints ((l.drop off).take n) := by
 unfold sub ints
 rw [Nat.mul_one, Nat.mul_one, ← List.map_drop, ← List.map_take]
theorem Ami {r off n : Nat} {t t' : List Int} (h1 : off + n ≤ t.length) (h2 : (t.drop off).take n = t') : Fz r (ints t) (.ref r [] 1 off n) (.list false 1 (ints t')) :=
 .ref _ _ _ _ (by rw [Nat.mul_one, Nat.mul_one, aE]; exact h1) (by rw [Avd, Akc, h2])
theorem Amo {r : Nat} {cs : List D} {a b b' : D} (h : Fz r cs b b') : Fz r cs (.agg [a, b]) (.agg [a, b']) :=
 .agg _ _ rfl (fun i d d' hd hd' => by
   match i, hd, hd' with
   | 0, hd, hd' => simp at hd hd'; subst hd; subst hd'; exact .rfl _
   | 1, hd, hd' => simp at hd hd'; subst hd; subst hd'; exact h
   | i + 2, hd, hd' => simp at hd)
theorem xU {r off n : Nat} {t t' : List Int} (h1 : off + n ≤ t.length) (h2 : (t.drop off).take n = t') {x : D} : Fz r (ints t) (.agg [x, .ref r [] 1 off n]) (.agg [x, .list false 1 (ints t')]) := Amo (Ami h1 h2)
abbrev fU (m : Int) (l : List Int) : D := .agg [aA m, .list false 1 (ints l)]
theorem Anm (o : Bool) (l : List Nat) (hb : ∀ b ∈ l, b < 256) (hl : l.length ≤ 4611686018427387904) (a : Nat) (ha : a ≤ l.length) (hs : Int) (n : Int) (hn : -5 ≤ n ∧ n ≤ 1099511627776) :
   cS Tryz.prog 189 2 [.ptr 1 [] 0, aA n] [none, some (aN o l a hs)]
     (fun d rt => ∃ (x : Int) (a' : Nat) (h' : Int), (-4611686018427387904 ≤ x ∧ x ≤ 1099511627776) ∧ a' ≤ l.length ∧ d = aA x ∧ rt = [none, some (aN o l a' h')]) := by
 refine eI Tryz.tabOk aF 2 _ Tryz.func189 rfl rfl ?_
 conv => whnf
 repeat' first | (refine bF [1] (dD o l hb hl a ha hs 24) (fun d rt' hd => ?_)) | fail
 obtain ⟨x, a1, h1, hx, ha1, rfl, rfl⟩ := hd
 refine ⟨rfl, by simp, ?_⟩
 conv => whnf
 have hx2 := hx.2 (by omega)
 repeat' first | (refine bF [1, 2] (jV o l hb hl a1 ha1 h1 [-1, n, 1099511627776, -4611686018427387904] (by simp)) (fun d rt' hd => ?_)) | (refine bF [1] (dD o l hb hl a1 ha1 h1 n) (fun d rt' hd => ?_)) | ((first | (refine zP (fun h => ?_) (fun h => ?_) <;> (try simp only [aB, aE] at h))) <;> conv => whnf) | fail
 · obtain ⟨y, a2, h2, hy, ha2, rfl, rfl⟩ := hd
   refine ⟨rfl, by simp, ?_⟩
   conv => whnf
   repeat' first | ((first | refine z0 ?_ | (refine zP (fun h => ?_) (fun h => ?_) <;> (try simp only [aB, aE] at h)) | refine zS ?_ | refine zV ?_ | (apply zI; refine zP aM ?_) | (apply zI; refine zP aG ?_) | refine zA ?_ | refine Alt.fst ?_ | refine Or.inl ?_) <;> conv => whnf) | fail
   have hy2 : -4611686018427387904 ≤ y ∧ y ≤ 1099511627776 := by
     simp only [List.mem_cons, List.not_mem_nil, or_false] at hy
     omega
   refine ⟨aA y, [none, some (aN o l a2 h2)], ⟨y, a2, h2, hy2, ha2, rfl, rfl⟩, aC.of (kp := 2) [none, some 1] ?_⟩
   conv => whnf
   repeat' ((first | refine z1 ?_ | refine zP ?_ ?_ | exact trivial) <;> try (conv => whnf))
 · obtain ⟨y, a2, h2, hy, ha2, rfl, rfl⟩ := hd
   refine ⟨rfl, by simp, ?_⟩
   conv => whnf
   have hy2 : -4611686018427387904 ≤ y ∧ y ≤ 1099511627776 := by
     rcases Int.lt_or_le n 1 with h9 | h9
     · have := hy.1 h9; omega
     · have := hy.2 h9; omega
   repeat' first | ((first | refine z0 ?_ | (refine zP (fun h => ?_) (fun h => ?_) <;> (try simp only [aB, aE] at h)) | refine zS ?_ | refine zV ?_ | (apply zI; refine zP aM ?_) | (apply zI; refine zP aG ?_) | refine zA ?_ | refine Alt.fst ?_ | refine Or.inl ?_) <;> conv => whnf) | fail
   refine ⟨aA y, [none, some (aN o l a2 h2)], ⟨y, a2, h2, hy2, ha2, rfl, rfl⟩, aC.of (kp := 2) [none, some 1] ?_⟩
   conv => whnf
   repeat' ((first | refine z1 ?_ | refine zP ?_ ?_ | exact trivial) <;> try (conv => whnf))
theorem Apg (o : Bool) (l : List Nat) (hb : ∀ b ∈ l, b < 256) (hl : l.length ≤ 4611686018427387904) (a : Nat) (ha : a ≤ l.length) (hs : Int) :
   cS Tryz.prog 322 2 [.ptr 1 [] 0] [none, some (aN o l a hs)]
     (fun d rt => ∃ (m : Int) (n : Nat) (us : List Int) (a' : Nat) (h' : Int), (2 ≤ m ∧ m ≤ 10000) ∧ (2 ≤ n ∧ n ≤ 11) ∧ us.length = n ∧ a' ≤ l.length ∧ d = .agg [aA m, .ref 2 [] 1 0 n] ∧ rt = [none, some (aN o l a' h'), some ⟨false, 1, ints us⟩]) := by
 refine eI Tryz.tabOk aF 2 _ Tryz.func322 rfl rfl ?_
 conv => whnf
 repeat' first | (refine bF [1] (Al6 o l hb hl a ha hs) (fun d rt' hd => ?_)) | fail
 obtain ⟨m, a1, h1, hm0, ha1, rfl, rfl⟩ := hd
 refine ⟨rfl, by simp, ?_⟩
 conv => whnf
 repeat' first | (refine bF [1] (dD o l hb hl a1 ha1 h1 4) (fun d rt' hd => ?_)) | fail
 obtain ⟨x, a2, h2, hx, ha2, rfl, rfl⟩ := hd
 refine ⟨rfl, by simp, ?_⟩
 conv => whnf
 have hx2 := hx.2 (by omega)
 repeat' first | (refine bF [1] (dD o l hb hl a2 ha2 h2 6) (fun d rt' hd => ?_)) | fail
 obtain ⟨y, a3, h3, hy, ha3, rfl, rfl⟩ := hd
 refine ⟨rfl, by simp, ?_⟩
 conv => whnf
 have hy2 := hy.2 (by omega)
 repeat' first | (refine bF [1] (dD o l hb hl a3 ha3 h3 10) (fun d rt' hd => ?_)) | fail
 obtain ⟨z, a4, h4, hz, ha4, rfl, rfl⟩ := hd
 refine ⟨rfl, by simp, ?_⟩
 conv => whnf
 have hz2 := hz.2 (by omega)
 repeat' first | (refine bF [1, 3] (jV o l hb hl a4 ha4 h4 [x, y, z] (by simp)) (fun d rt' hd => ?_)) | fail
 obtain ⟨v, a5, h5, hv, ha5, rfl, rfl⟩ := hd
 refine ⟨rfl, by simp, ?_⟩
 conv => whnf
 have hv2 : 0 ≤ v ∧ v ≤ 9 := by
   simp only [List.mem_cons, List.not_mem_nil, or_false] at hv
   omega
 repeat' first | (refine bF [1] (Ar4 o l hb hl a5 ha5 h5 m (by omega) (2 + v) (by omega)) (fun d rt' hd => ?_)) | ((first | refine zV ?_) <;> conv => whnf) | fail
 obtain ⟨us, a6, h6, hu, ha6, rfl, rfl⟩ := hd
 refine ⟨rfl, by simp, ?_⟩
 conv => whnf
 repeat' first | ((first | refine z0 ?_ | refine Or.inl (Or.inr (zP (vG) ?_)) | refine Or.inl ?_) <;> conv => whnf) | fail
 first
   | (refine ⟨.agg [aA m, .ref 2 [] 1 0 (2 + v).toNat], [none, some (aN o l a6 h6), some ⟨false, 1, ints us⟩], ⟨m, (2 + v).toNat, us, a6, h6, hm0, by omega, hu, ha6, rfl, rfl⟩, eN (kp := 2) [none, some 1, some 4]⟩)
   | (refine ⟨.agg [aA m, .ref 2 [] 1 0 (2 + v).toNat], [none, some (aN o l a6 h6), some ⟨false, 1, ints us⟩], ⟨m, (2 + v).toNat, us, a6, h6, hm0, by omega, hu, ha6, rfl, rfl⟩, eN (kp := 2) [none, some 1, some 3]⟩)
   | (refine ⟨.agg [aA m, .ref 2 [] 1 0 (2 + v).toNat], [none, some (aN o l a6 h6), some ⟨false, 1, ints us⟩], ⟨m, (2 + v).toNat, us, a6, h6, hm0, by omega, hu, ha6, rfl, rfl⟩, eN (kp := 2) [none, some 1, some 5]⟩)
theorem Aql (o : Bool) (l : List Nat) (hb : ∀ b ∈ l, b < 256) (hl : l.length ≤ 4611686018427387904) (a : Nat) (ha : a ≤ l.length) (hs : Int) :
   cS Tryz.prog 276 2 [.ptr 1 [] 0] [none, some (aN o l a hs)]
     (fun d rt => ∃ (m : Int) (n : Nat) (us : List Int) (a' : Nat) (h' : Int), (0 ≤ m ∧ m ≤ 10001) ∧ (1 ≤ n ∧ n ≤ 21) ∧ (n ≤ us.length ∧ us.length ≤ 21) ∧ a' ≤ l.length ∧ d = .agg [aA m, .ref 2 [] 1 0 n] ∧ rt = [none, some (aN o l a' h'), some ⟨false, 1, ints us⟩]) := by
 refine eI Tryz.tabOk aF 2 _ Tryz.func276 rfl rfl ?_
 conv => whnf
 repeat' first | (refine bF [1] (Apg o l hb hl a ha hs) (fun d rt' hd => ?_)) | fail
 obtain ⟨m, n, us, a1, h1, hm, hn, hu, ha1, rfl, rfl⟩ := hd
 refine ⟨rfl, by simp, ?_⟩
 conv => whnf
 repeat' first | (refine bF [1] (dD o l hb hl a1 ha1 h1 30) (fun d rt' hd => ?_)) | fail
 obtain ⟨x, a2, h2, hx, ha2, rfl, rfl⟩ := hd
 refine ⟨rfl, by simp, ?_⟩
 conv => whnf
 have hx2 := hx.2 (by omega)
 repeat' first | (refine bF [1, 5] (jV o l hb hl a2 ha2 h2 [0, 1, 10001, 2] (by simp)) (fun d rt' hd => ?_)) | (refine bF [1, 5] (jV o l hb hl a2 ha2 h2 [-1, m, 1099511627776] (by simp)) (fun d rt' hd => ?_)) | ((first | refine z0 ?_ | refine Alt.snd (zP (show oK _ _ = true by decide +kernel) ?_) | refine zP (show (_ : List (Option Root))[_]? = _ from rfl) ?_ | (refine zP (fun h => ?_) (fun h => ?_) <;> (try simp only [aB, aE, aQ, aX, aT, bD] at h) <;> first | (exfalso; first | omega | exact h trivial | (cases h; done)) | skip) | refine zS ?_ | refine zV ?_ | (apply zI; refine zP aG ?_) | (refine zP (⟨by simp; omega, by decide, (by show (n + 10) * 8 ≤ 140737488355328; omega), (by show n + 10 ≤ 140737488355328; omega)⟩) ?_) | refine Or.inl ?_) <;> conv => whnf) | fail
 · obtain ⟨y, a3, h3, hy, ha3, rfl, rfl⟩ := hd
   refine ⟨rfl, by simp, ?_⟩
   conv => whnf
   have hy2 : 0 ≤ y ∧ y ≤ 10001 := by
     simp only [List.mem_cons, List.not_mem_nil, or_false] at hy
     omega
   repeat' first | ((first | refine z0 ?_ | refine zP (show (_ : List (Option Root))[_]? = _ from rfl) ?_ | (refine zP (fun h => ?_) (fun h => ?_) <;> (try simp only [aB, aE, aQ, aX, aT, bD] at h) <;> first | (exfalso; first | omega | exact h trivial | (cases h; done)) | skip) | refine zV ?_ | (apply zI; refine zP aM ?_) | (apply zI; refine zP aG ?_)) <;> conv => whnf) | fail
   first
     | (refine ⟨.agg [aA y, .ref 2 [] 1 0 n], [none, some (aN o l a3 h3), some ⟨false, 1, ints us⟩], ⟨y, n, us, a3, h3, hy2, by omega, by omega, ha3, rfl, rfl⟩, eN (kp := 2) [none, some 1, some 3]⟩)
     | (refine ⟨.agg [aA y, .ref 2 [] 1 0 n], [none, some (aN o l a3 h3), some ⟨false, 1, ints us⟩], ⟨y, n, us, a3, h3, hy2, by omega, by omega, ha3, rfl, rfl⟩, eN (kp := 2) [none, some 1, some 2]⟩)
     | (refine ⟨.agg [aA y, .ref 2 [] 1 0 n], [none, some (aN o l a3 h3), some ⟨false, 1, ints us⟩], ⟨y, n, us, a3, h3, hy2, by omega, by omega, ha3, rfl, rfl⟩, eN (kp := 2) [none, some 1, some 4]⟩)
 · first
     | (refine ⟨.agg [aA m, .ref 2 [] 1 0 1], [none, some (aN o l a2 h2), some ⟨false, 1, ints us⟩], ⟨m, 1, us, a2, h2, by omega, by omega, by omega, ha2, rfl, rfl⟩, eN (kp := 2) [none, some 1, some 3]⟩)
     | (refine ⟨.agg [aA m, .ref 2 [] 1 0 1], [none, some (aN o l a2 h2), some ⟨false, 1, ints us⟩], ⟨m, 1, us, a2, h2, by omega, by omega, by omega, ha2, rfl, rfl⟩, eN (kp := 2) [none, some 1, some 2]⟩)
     | (refine ⟨.agg [aA m, .ref 2 [] 1 0 1], [none, some (aN o l a2 h2), some ⟨false, 1, ints us⟩], ⟨m, 1, us, a2, h2, by omega, by omega, by omega, ha2, rfl, rfl⟩, eN (kp := 2) [none, some 1, some 4]⟩)
 · refine ⟨.agg [aA m, .ref 2 [] 1 0 (n + 10)], [none, some (aN o l a2 h2), some ⟨false, 1, ints (us ++ List.replicate 10 0)⟩], ⟨m, n + 10, us ++ List.replicate 10 0, a2, h2, by omega, by omega, by simp; omega, ha2, rfl, rfl⟩, aC.of (kp := 2) [none, some 1, some 5] ?_⟩
   conv => whnf
   repeat' ((first | refine z1 ?_ | refine zP ?_ ?_ | exact trivial) <;> try (conv => whnf))
   all_goals first | (simp [ints]; done) | (simp [ints]; rfl)
 · obtain ⟨y, a3, h3, hy, ha3, rfl, rfl⟩ := hd
   refine ⟨rfl, by simp, ?_⟩
   conv => whnf
   repeat' first | ((first | refine z0 ?_ | refine zP (show (_ : List (Option Root))[_]? = _ from rfl) ?_ | refine zV ?_ | (apply zI; refine zP aG ?_)) <;> conv => whnf) | fail
   first
     | (refine ⟨.agg [aA m, .ref 2 [] 1 0 n], [none, some (aN o l a3 h3), some ⟨false, 1, ints (us.set 0 y)⟩], ⟨m, n, us.set 0 y, a3, h3, by omega, by omega, by simp; omega, ha3, rfl, rfl⟩, eN (kp := 2) [none, some 1, some 3]⟩)
     | (refine ⟨.agg [aA m, .ref 2 [] 1 0 n], [none, some (aN o l a3 h3), some ⟨false, 1, ints (us.set 0 y)⟩], ⟨m, n, us.set 0 y, a3, h3, by omega, by omega, by simp; omega, ha3, rfl, rfl⟩, eN (kp := 2) [none, some 1, some 2]⟩)
     | (refine ⟨.agg [aA m, .ref 2 [] 1 0 n], [none, some (aN o l a3 h3), some ⟨false, 1, ints (us.set 0 y)⟩], ⟨m, n, us.set 0 y, a3, h3, by omega, by omega, by simp; omega, ha3, rfl, rfl⟩, eN (kp := 2) [none, some 1, some 4]⟩)
 · first
     | (refine ⟨.agg [aA m, .ref 2 [] 1 0 n], [none, some (aN o l a2 h2), some ⟨false, 1, ints us⟩], ⟨m, n, us, a2, h2, by omega, by omega, by omega, ha2, rfl, rfl⟩, eN (kp := 2) [none, some 1, some 3]⟩)
     | (refine ⟨.agg [aA m, .ref 2 [] 1 0 n], [none, some (aN o l a2 h2), some ⟨false, 1, ints us⟩], ⟨m, n, us, a2, h2, by omega, by omega, by omega, ha2, rfl, rfl⟩, eN (kp := 2) [none, some 1, some 2]⟩)
     | (refine ⟨.agg [aA m, .ref 2 [] 1 0 n], [none, some (aN o l a2 h2), some ⟨false, 1, ints us⟩], ⟨m, n, us, a2, h2, by omega, by omega, by omega, ha2, rfl, rfl⟩, eN (kp := 2) [none, some 1, some 4]⟩)
end Go.Proofs
namespace Go.Proofs
open Go Go.Vm Go.Fg Go.Fg.PS
set_option maxRecDepth 100000
set_option maxHeartbeats 4000000
set_option linter.unusedSimpArgs false
set_option linter.unusedVariables false
end Go.Proofs
namespace Go.Proofs
open Go Go.Vm Go.Fg Go.Fg.PS
set_option maxRecDepth 100000
set_option maxHeartbeats 4000000
set_option linter.unusedSimpArgs false
set_option linter.unusedVariables false
variable {m : Int}
theorem xA (o o' : Bool) (m m' : Int) (l l' : List Int) (hl : l.length ≤ 9223372036854775807) (hl' : l'.length ≤ 9223372036854775807) : aI Tryz.prog 60 [.agg [aA m, .list o 1 (ints l)], .agg [aA m', .list o' 1 (ints l')]] (bN (decide (m = m') && decide (l = l'))) := by
 refine aU Tryz.tabOk aF Tryz.func60 rfl rfl ?_
 conv => whnf
 repeat' first | ((first | refine z0 ?_ | (apply zI; refine zP (Aps _ _ _ _ hl hl') ?_) | (refine zP (fun h => ?_) (fun h => ?_) <;> (try simp only [aB, aE] at h)) | refine Or.inl ?_) <;> conv => whnf) | fail
 all_goals (refine cH ?_; first | rfl | (simp_all []; done) | (simp_all []; omega) | (simp_all []; intros; omega))
theorem M1 : aI Tryz.prog 60 [S4, S4] (bN true) := by
 refine aU Tryz.tabOk aF Tryz.func60 rfl rfl ?_
 conv => whnf
 repeat' first | ((first | refine z0 ?_ | (apply zI; refine zP (Akx) ?_) | (refine zP (fun h => ?_) (fun h => ?_) <;> (try simp only [aB, aE, aQ, aX, aT, bD] at h) <;> first | (exfalso; first | omega | exact h trivial | (cases h; done)) | skip) | refine Or.inl ?_) <;> conv => whnf) | fail
theorem Amq {f g : PS (PS (Zm m))} {n : Nat} (h : aW n f g) (L : oB f n) : oB g n := by
 obtain ⟨h1, h2, h3⟩ := L
 refine ⟨fun i hi => by rw [← h i 0 (by omega)]; exact h1 i hi, fun i j hij => by rw [← h i j hij, ← h j i (by omega)]; exact h2 i j hij, fun a b c habc => ?_⟩
 have e1 : kT f n a b c = kT g n a b c := by
   unfold kT
   exact aR (fun i hi => by rw [h i c (by omega), aW.pw h i a b (by omega)])
 have e2 : kV f n a b c = kV g n a b c := by
   unfold kV
   exact aR (fun i hi => by rw [h a i (by omega), aW.pw h i b c (by omega)])
 rw [← e1, ← e2]
 exact h3 a b c habc
theorem Al0 (hm : Md m) {N : Nat} (hN : 2 ≤ N ∧ N ≤ 11) {f : PS (PS (Zm m))} (L : oB f N) : dW m (Tb N f) = true := by
 rw [O7 (Adl hm hN f), aX]
 exact P2 (Amq (fun i j hij => (Aqu f hij).symm) L)
theorem Aqm (hW : Wei) (o : Bool) (l : List Nat) (hb : ∀ b ∈ l, b < 256) (hl : l.length ≤ 4611686018427387904) :
   cS Tryz.prog 173 1 [.list o 1 (fV l)] [none]
     (fun d rt => ∃ (m : Int) (t : List (List Int)) (ma : Int) (la : List Int), ((1 ≤ m ∧ m ≤ 10001) ∧ lR t) ∧ la.length ≤ 12 ∧ d = .tup [jR m t, fU ma la] ∧ rt = [none]) := by
 refine eI Tryz.tabOk aF 1 _ Tryz.func173 rfl rfl ?_
 conv => whnf
 repeat' first | (refine bF [] (As4 hW o l hb hl) (fun d rt' hd => ?_)) | fail
 obtain ⟨m, t, ma, la, hm, hla, rfl, rfl⟩ := hd
 refine ⟨rfl, by simp, ?_⟩
 conv => whnf
 have hcn : (0 : Int) ≤ 0 ∧ (0 : Int) < ((bC 2 [aA ma, D.list false 1 (ints la)] : Nat) : Int) := ⟨by omega, by simp [bC]⟩
 repeat' first | ((first | refine z0 ?_ | refine zS ?_ | refine zV ?_ | (apply zI; refine zP aG ?_)) <;> conv => whnf) | fail
 refine ⟨.tup [jR m t, fU ma la], [none], ⟨m, t, ma, la, hm, hla, rfl, rfl⟩, aC.of (kp := 1) [none] ?_⟩
 conv => whnf
 repeat' ((first | refine z1 ?_ | refine z2 ?_ | refine zV ?_ | refine zP ?_ ?_ | exact trivial) <;> try (conv => whnf))
theorem Aoy (hW : Wei) (o : Bool) (l : List Nat) (hb : ∀ b ∈ l, b < 256) (hl : l.length ≤ 4611686018427387904) :
   cS Tryz.prog 57 1 [.list o 1 (fV l)] [none]
     (fun d rt => ∃ (m : Int) (t : List (List Int)) (ma : Int) (la : List Int) (n : Int), ((1 ≤ m ∧ m ≤ 10001) ∧ lR t) ∧ la.length ≤ 12 ∧ (-4611686018427387904 ≤ n ∧ n ≤ 1099511627778) ∧ d = .tup [jR m t, fU ma la, aA n] ∧ rt = [none]) := by
 refine eI Tryz.tabOk aF 1 _ Tryz.func57 rfl rfl ?_
 conv => whnf
 repeat' first | (refine bF [] (Aqm hW o l hb hl) (fun d rt' hd => ?_)) | fail
 obtain ⟨m, t, ma, la, hm, hla, rfl, rfl⟩ := hd
 refine ⟨rfl, by simp, ?_⟩
 conv => whnf
 repeat' first | (refine bF [] (zC o l hb hl) (fun d rt' hd => ?_)) | fail
 obtain ⟨h0, rfl, rfl⟩ := hd
 refine ⟨rfl, by simp, ?_⟩
 conv => whnf
 repeat' first | (refine bF [5] (Ap0 o l hb hl 0 (by omega) h0 3 (by omega)) (fun d rt' hd => ?_)) | ((first | refine Alt.snd (zP (show oK _ _ = true by decide +kernel) ?_) | refine zS ?_) <;> conv => whnf) | fail
 obtain ⟨n, a2, h2, hn, ha2, rfl, rfl⟩ := hd
 refine ⟨rfl, by simp, ?_⟩
 conv => whnf
 repeat' first | ((first | refine z0 ?_ | refine zP (show (_ : List (Option Root))[_]? = _ from rfl) ?_ | refine zV ?_) <;> conv => whnf) | fail
 refine ⟨.tup [jR m t, fU ma la, aA (2 + n)], [none], ⟨m, t, ma, la, 2 + n, hm, hla, by omega, rfl, rfl⟩, aC.of (kp := 1) [none] ?_⟩
 conv => whnf
 repeat' ((first | refine z1 ?_ | refine z2 ?_ | refine zV ?_ | refine zP ?_ ?_ | exact trivial) <;> try (conv => whnf))
end Go.Proofs
namespace Go.Proofs
open Go Go.Vm Go.Fg Go.Fg.PS
set_option maxRecDepth 100000
set_option maxHeartbeats 4000000
set_option linter.unusedSimpArgs false
set_option linter.unusedVariables false
def tbq {m : Int} (q : Nat) (f : PS (PS (Zm m))) (k : Nat) : List D := (List.range k).map fun c => .list true 1 (rows true (M5 q (pw f c)))
@[simp] theorem Ay3 {m : Int} (q : Nat) (f : PS (PS (Zm m))) (k : Nat) : (tbq q f k).length = k := by simp [tbq]
end Go.Proofs
namespace Go.Proofs
open Go Go.Vm Go.Fg Go.Fg.PS
set_option maxRecDepth 100000
set_option maxHeartbeats 4000000
set_option linter.unusedSimpArgs false
set_option linter.unusedVariables false
variable {m : Int}
theorem At1 (o : Bool) (l : List Int) (hl : l.length ≤ 1048576) : aI Tryz.prog 143 [.list o 1 (ints l)] (.list true 1 (ints l)) := by
 refine aU Tryz.tabOk aF Tryz.func143 rfl rfl ?_
 conv => whnf
 repeat' first | ((first | refine z0 ?_ | (refine zP (fun h => ?_) (fun h => ?_) <;> (try simp only [aB, aE] at h)) | refine zS ?_ | refine zV ?_ | (apply zI; refine zP aM ?_) | (apply zI; refine zP aG ?_) | refine zA ?_ | refine Alt.fst ?_ | refine Or.inl ?_) <;> conv => whnf) | fail
 rfl
abbrev uW (m : Int) (o : Bool) (rl : List Int) : D := .agg [aA m, .list o 1 (ints rl)]
def qY (rl : List Int) (k : Nat) : Prop := rl.length = k ∧ 1 ≤ k ∧ k ≤ 4 ∧ ∀ j, j < k → -1 ≤ rl.getD j 0 ∧ rl.getD j 0 ≤ 0
theorem I7 {n : Nat} (hn : 2 ≤ n ∧ n ≤ 5) : qY (bX n) (kN n) := by
 have key : ∀ (l : List Int), (l.all fun x => decide (-1 ≤ x ∧ x ≤ 0)) = true → ∀ j, j < l.length → -1 ≤ l.getD j 0 ∧ l.getD j 0 ≤ 0 := fun l h j hj => by
   have := List.all_eq_true.1 h l[j] (List.getElem_mem hj)
   simpa [hj] using this
 rcases (show n = 2 ∨ n = 3 ∨ n = 4 ∨ n = 5 by omega) with rfl | rfl | rfl | rfl
 · exact ⟨rfl, by decide, by decide, key [-1] (by decide)⟩
 · exact ⟨rfl, by decide, by decide, key [-1, -1] (by decide)⟩
 · exact ⟨rfl, by decide, by decide, key [-1, 0] (by decide)⟩
 · exact ⟨rfl, by decide, by decide, key [-1, -1, -1, -1] (by decide)⟩
theorem Aqk (hm : Md m) {r : Int} (hr : -1 ≤ r ∧ r ≤ 0) (a : Zm m) : -10000 ≤ a.val * r ∧ a.val * r ≤ 0 := by
 have := Zm.val_range hm.pos a
 have := hm.2
 rcases (show r = -1 ∨ r = 0 by omega) with rfl | rfl <;> omega
theorem Ae7 (a b c : Zm m) : (c.val + a.val * b.val) % m = (c + a * b).val :=
 Zm.emod_val (by rw [Zm.mk_add, Zm.mk_mul, Zm.mk_val, Zm.mk_val, Zm.mk_val])
theorem As9 (a c : Zm m) (r : Int) : (c.val + a.val * r) % m = (c + a * Zm.mk m r).val :=
 Zm.emod_val (by rw [Zm.mk_add, Zm.mk_mul, Zm.mk_val, Zm.mk_val])
theorem Ars (k : Nat) (a : PS (Zm m)) (hk : 1 ≤ k) : (0 : Int) :: L (k - 1) a = L k (PS.C 0 + PS.X * a) := by
 obtain ⟨n, rfl⟩ : ∃ n, k = n + 1 := ⟨k - 1, by omega⟩
 rw [← Al9, Zm.val_zero]; rfl
theorem Aqe (a : PS (Zm m)) (j : Nat) : (PS.C 0 + PS.X * a).c j = if j = 0 then 0 else a.c (j - 1) := by
 rw [PS.C_zero, CR.zero_add]
 cases j with
 | zero => exact PS.X_mul_zero a
 | succ j => rw [PS.X_mul_succ, if_neg (by omega)]; rfl
theorem M9 (hm : Md m) {k i : Nat} (f g : PS (Zm m)) {x : Int} (h : x = (f.c i).val) : (L k (dF i f g)).set i x = L k (dF (i + 1) f g) :=
 eJ _ h (Ag.of_eq (oP i f g).symm)
theorem O1 {k : Nat} (f g : PS (Zm m)) {i : Nat} (h : k ≤ i) : L k (dF i f g) = L k f := dE (fun j hj => by rw [fE, if_pos (by omega)])
theorem G2 (i : Nat) (f g : PS (Zm m)) : (dF i f g).c i = g.c i := by rw [fE, if_neg (by omega)]
theorem rF (hm : Md m) (o : Bool) (rl : List Int) {k : Nat} (hk : qY rl k) (c : Zm m) {C : Int} (hC : C = c.val) : aI Tryz.prog 267 [uW m o rl, aA C] (LD true k (PS.C c)) := by
 obtain ⟨hl, hk1, hk4, hr⟩ := hk
 subst hC
 subst hl
 refine aU Tryz.tabOk aF Tryz.func267 rfl rfl ?_
 conv => whnf
 repeat' first | ((first | refine z0 ?_ | (refine zP (fun h => ?_) (fun h => ?_) <;> (try simp only [aB, aE] at h)) | refine zS ?_ | refine zV ?_ | (apply zI; refine zP aM ?_) | (apply zI; refine zP aG ?_) | refine zA ?_ | refine Alt.fst ?_ | refine Or.inl ?_) <;> conv => whnf) | fail
 exact congrArg (fun x => D.list true 1 (ints x)) (by
   rw [← gJ (m := m)]
   exact eJ c rfl (fun j hj => by rw [cD]; rfl))
theorem Ab5 (hm : Md m) (o o1 : Bool) (rl : List Int) {k : Nat} (hk : qY rl k) (a : PS (Zm m)) : aI Tryz.prog 270 [uW m o rl, LD o1 k a] (LD true k (dK k (rd m rl) a)) := by
 obtain ⟨hl, hk1, hk4, hr⟩ := hk
 have hm1 := hm.1
 have hm2 := hm.2
 subst hl
 refine aU Tryz.tabOk aF Tryz.func270 rfl rfl ?_
 conv => whnf
 repeat' first | ((first | refine z0 ?_ | refine Or.inr (iY Tryz.tabOk aF _ Tryz.func316 rfl rfl ?_) | (refine zP (fun h => ?_) (fun h => ?_) <;> (try simp only [aB, aE] at h)) | refine zS ?_ | refine zV ?_ | (apply zI; refine zP aG ?_) | refine Alt.fst ?_ | refine Or.inl ?_) <;> conv => whnf) | fail
 refine aZ Tryz.tabOk aF (α := Nat) (fun i => [(12, aA i)]) (fun i => [(2, some ⟨false, 1, ints (L rl.length (dF i (dK rl.length (rd m rl) a) (PS.C 0 + PS.X * a)))⟩)]) (fun i => i ≤ rl.length) (fun i => rl.length - i) (0) ?_ ?_ ?_
 · omega
 · conv => whnf
   first | refine aH.autoR ?_ | refine aC.autoR ?_
   conv => whnf
   repeat' ((first | refine z1 ?_ | refine z2 ?_ | refine zV ?_ | refine zP cG ?_ | refine zP cF ?_ | refine zP ?_ ?_ | exact trivial) <;> try (conv => whnf))
   all_goals (rw [lI, ← Ars _ _ hk1]; rfl)
 intro i hi
 conv => whnf
 have x1 := fun h => Aqk hm (hr i h) (a.c (rl.length - 1))
 have x2 := Zm.val_range hm.pos ((dF i (dK rl.length (rd m rl) a) (PS.C 0 + PS.X * a)).c i)
 repeat' first | ((first | refine z0 ?_ | (apply zI; refine zP (lC _ _ hm.pos (by omega)) ?_) | (refine zP (fun h => ?_) (fun h => ?_) <;> (try simp only [aB, aE] at h)) | refine zS ?_ | refine zV ?_ | (apply zI; refine zP aG ?_) | refine Alt.fst ?_ | refine Or.inl ?_) <;> conv => whnf) | fail
 · have hi' : i < rl.length := aD
   refine Exists.intro (i + 1) (zP aD (zP aD ?_))
   first | refine aH.autoR ?_ | refine aC.autoR ?_
   conv => whnf
   repeat' ((first | refine z1 ?_ | refine z2 ?_ | refine zV ?_ | refine zP cG ?_ | refine zP cF ?_ | refine zP ?_ ?_ | exact trivial) <;> try (conv => whnf))
   refine cP (M9 hm _ _ ?_)
   rw [G2, As9, Aqe, dV, if_pos hi']
   rfl
 · rw [O1 _ _ aD]
theorem L0 (hm : Md m) (o o1 o2 : Bool) (rl : List Int) {k : Nat} (hk : qY rl k) (a b : PS (Zm m)) : aI Tryz.prog 268 [uW m o rl, LD o1 k a, LD o2 k b] (LD true k (dI k (rd m rl) a b)) := by
 have hk0 := hk
 obtain ⟨hl, hk1, hk4, hr⟩ := hk
 have hm1 := hm.1
 have hm2 := hm.2
 subst hl
 refine aU Tryz.tabOk aF Tryz.func268 rfl rfl ?_
 conv => whnf
 repeat' first | ((first | refine z0 ?_ | (refine zP (fun h => ?_) (fun h => ?_) <;> (try simp only [aB, aE] at h)) | refine zS ?_ | refine zV ?_ | (apply zI; refine zP aM ?_) | (apply zI; refine zP aG ?_) | refine zA ?_ | refine Alt.fst ?_ | refine Or.inl ?_) <;> conv => whnf) | fail
 refine aZ Tryz.tabOk aF (α := Nat) (fun i => [(20, aA i), (10, .undef), (15, .undef), (17, .undef), (8, .ref 3 [] 1 0 rl.length)]) (fun i => [(1, some ⟨false, 1, ints (L rl.length (lF rl.length (rd m rl) a b i))⟩), (3, some ⟨false, 1, ints (L rl.length (bS rl.length (rd m rl) i b))⟩)]) (fun i => i ≤ rl.length) (fun i => rl.length - i) (0) ?_ ?_ ?_
 · omega
 · conv => whnf
   first | refine aH.autoR ?_ | refine aC.autoR ?_
   conv => whnf
   repeat' ((first | refine z1 ?_ | refine z2 ?_ | refine zV ?_ | refine zP cG ?_ | refine zP cF ?_ | refine zP ?_ ?_ | exact trivial) <;> try (conv => whnf))
   all_goals first
     | (rw [Ano, gJ]; done)
     | rfl
     | skip
 intro i hi
 conv => whnf
 repeat' first | ((first | refine z0 ?_ | refine Or.inr (iY Tryz.tabOk aF _ Tryz.func316 rfl rfl ?_) | (refine zP (fun h => ?_) (fun h => ?_) <;> (try simp only [aB, aE] at h)) | refine zS ?_ | refine zV ?_ | (apply zI; refine zP aG ?_) | refine Alt.fst ?_ | refine Or.inl ?_) <;> conv => whnf) | fail
 · have hi' : i < rl.length := aD
   refine aZ Tryz.tabOk aF (α := Nat) (fun j => [(12, aA j)]) (fun j => [(1, some ⟨false, 1, ints (L rl.length (dF j (lF rl.length (rd m rl) a b (i + 1)) (lF rl.length (rd m rl) a b i)))⟩)]) (fun j => j ≤ rl.length) (fun j => rl.length - j) (0) ?_ ?_ ?_
   · omega
   · conv => whnf
     first | refine aH.autoR ?_ | refine aC.autoR ?_
     conv => whnf
     repeat' ((first | refine z1 ?_ | refine z2 ?_ | refine zV ?_ | refine zP cG ?_ | refine zP cF ?_ | refine zP ?_ ?_ | exact trivial) <;> try (conv => whnf))
     all_goals rw [lI]
   intro j hj
   conv => whnf
   have x1 := hm.mul (a.c i) ((bS rl.length (rd m rl) i b).c j)
   have x2 := Zm.val_range hm.pos ((dF j (lF rl.length (rd m rl) a b (i + 1)) (lF rl.length (rd m rl) a b i)).c j)
   repeat' first | ((first | (apply zI; refine zP (lC _ _ hm.pos (by omega)) ?_) | (apply zI; refine zP (Ab5 hm _ _ rl hk0 _) ?_) | (refine zP (fun h => ?_) (fun h => ?_) <;> (try simp only [aB, aE] at h)) | refine zS ?_ | refine zV ?_ | (apply zI; refine zP aG ?_) | refine Alt.fst ?_ | refine Or.inl ?_) <;> conv => whnf) | fail
   · have hj' : j < rl.length := aD
     refine Exists.intro (j + 1) (zP aD (zP aD ?_))
     first | refine aH.autoR ?_ | refine aC.autoR ?_
     conv => whnf
     repeat' ((first | refine z1 ?_ | refine z2 ?_ | refine zV ?_ | refine zP cG ?_ | refine zP cF ?_ | refine zP ?_ ?_ | exact trivial) <;> try (conv => whnf))
     refine cP (M9 hm _ _ ?_)
     rw [G2, Ae7, Aqo, add_c, C_mul]
   · refine Exists.intro (i + 1) (zP aD (zP aD ?_))
     first | refine aH.autoR ?_ | refine aC.autoR ?_
     conv => whnf
     repeat' ((first | refine z1 ?_ | refine z2 ?_ | refine zV ?_ | refine zP cG ?_ | refine zP cF ?_ | refine zP ?_ ?_ | exact trivial) <;> try (conv => whnf))
     all_goals first
       | (exact cP (O1 _ _ aD))
       | rfl
       | skip
 · rw [show i = rl.length by simp only [aT] at *; omega]
   rfl
abbrev gK (o p : Bool) (w N : Nat) (f : PS (PS (Zm m))) : D := .list o 1 (rows p (bP w N f))
def gA (g : Nat → List (List Int)) (n : Nat) : List D := (List.range n).map fun c => .list true 1 (rows true (g c))
@[simp] theorem W6 (g : Nat → List (List Int)) (k : Nat) : (gA g k).length = k := by simp [gA]
theorem aK {p : Prop} (h : p := by first | omega | (simp only [aB, aQ, nP, xN, aE, aT, W6, aX, Nat.mul_one, Nat.zero_add, kQ] at *; first | done | omega)) : p := h
theorem Aak {g : Nat → List (List Int)} {k : Nat} {t : List D} (h : t = rows true (g k)) : gA g k ++ [.list true 1 t] = gA g (k + 1) := by
 subst h; simp [gA, List.range_succ]
theorem Ag7 {g : Nat → List (List Int)} {k i : Nat} (h : i < k) : (gA g k)[i]? = some (.list true 1 (rows true (g i))) := by simp [gA, h]
theorem Ag6 {g : Nat → List (List Int)} {k a : Nat} (e : a = k) : a = (gA g k).length := by rw [W6]; exact e
theorem tY {g : Nat → List (List Int)} {k a : Nat} (i : Nat) (e : a = i) (h : i < k) : fH (gA g k) [] a (.list true 1 (rows true (g i))) := by
 subst e; exact ⟨_, rfl, Ag7 h⟩
theorem uB {g : Nat → List (List Int)} {k a : Nat} (i : Nat) (e : a = i) (h : i < k) : bG (gA g k) ([] ++ [a]) = some (rows true (g i)) := by
 subst e
 show (match (gA g k)[a]? with | some (.list true _ cs') => bG cs' [] | _ => none) = _
 rw [Ag7 h]; rfl
theorem Af9 {g : Nat → List (List Int)} {k i : Nat} (h : i < k) : 0 ≤ (i : Int) ∧ (i : Int) < (bC 1 (gA g k) : Nat) := by rw [aB, W6]; omega
theorem Aef (g : Nat → List (List Int)) (k : Nat) : ∀ x ∈ gA g k, PlainD x := fun x hx => by
 simp only [gA, List.mem_map] at hx
 obtain ⟨c, _, rfl⟩ := hx
 exact .list _ _ (A8 _)
theorem S9 (cs : List D) : ∀ d ∈ [D.list true 1 cs], d.one = true := fun d hd => by
 simp only [List.mem_cons, List.not_mem_nil, or_false] at hd
 subst hd; rfl
theorem tR {w N i : Nat} (f : PS (PS (Zm m))) (h : i < N) : (bP w N f).getD i [] = L w (f.c i) := by simp [bP, h]
theorem rO {w N : Nat} {f g : PS (PS (Zm m))} (h : ∀ i, i < N → Ag w (f.c i) (g.c i)) : bP w N f = bP w N g :=
 List.map_congr_left (fun i hi => dE (h i (by simpa using hi)))
theorem xZ {w N i : Nat} (f : PS (PS (Zm m))) (r : PS (Zm m)) (h : i < N) : (bP w N f).set i (L w r) = bP w N (f.upd i r) := by
 refine List.ext_getElem (by simp) (fun k h1 h2 => ?_)
 rw [List.getElem_set]
 simp only [bP, List.getElem_map, List.getElem_range]
 by_cases e : i = k
 · subst e; rw [if_pos rfl, cD, if_pos rfl]
 · rw [if_neg e, cD, if_neg (fun x => e x.symm)]
theorem Apn (f : PS (PS (Zm m))) (r : Nat) (a b : PS (Zm m)) : (f.upd r a).upd r b = f.upd r b := by
 refine PS.ext (fun n => ?_)
 rw [cD, cD, cD]
 split <;> rfl
theorem Ap7 (f : PS (PS (Zm m))) (r : Nat) : f.upd r (f.c r) = f := by
 refine PS.ext (fun n => ?_)
 rw [cD]
 split
 · rename_i h; rw [h]
 · rfl
def kF (F : PS (PS (Zm m))) (r l : Nat) (v : PS (Zm m)) : PS (PS (Zm m)) := F.upd r (dF l v (F.c r))
theorem Abg (F : PS (PS (Zm m))) (r : Nat) (v : PS (Zm m)) : kF F r 0 v = F := by unfold kF; rw [lI, Ap7]
theorem H5 (F : PS (PS (Zm m))) (r l : Nat) (v : PS (Zm m)) : (kF F r l v).c r = dF l v (F.c r) := by unfold kF; rw [cD, if_pos rfl]
theorem Adb {w N : Nat} (F : PS (PS (Zm m))) (r : Nat) {l : Nat} (v : PS (Zm m)) (h : w ≤ l) : bP w N (kF F r l v) = bP w N (F.upd r v) := rO (fun i _ j hj => by
 unfold kF
 rw [cD, cD]
 split
 · rw [fE, if_pos (by omega)]
 · rfl)
theorem Aad {w N : Nat} (F : PS (PS (Zm m))) {r l : Nat} (v : PS (Zm m)) {x : Int} (h : r < N) (hl : l < w) (hx : x = (v.c l).val) : eU (bP w N (kF F r l v)) r l x = bP w N (kF F r (l + 1) v) := by
 unfold eU
 rw [tR _ h, H5, eJ (v.c l) hx (Ag.of_eq (oP l v (F.c r)).symm), xZ _ _ h]
 unfold kF
 rw [Apn]
theorem M4 {w N q' k i j : Nat} {f : PS (PS (Zm m))} (x : Int) (e : q' = i) (e2 : k = j) (h : i < N) (h2 : j < w) : jS (rows true (bP w N f)) ([] ++ [q']) k (aA x) (rows true (eU (bP w N f) i j x)) := by
 subst e; subst e2
 exact K7 x (by simpa using h) (by rw [tR f h, aT]; exact h2)
theorem qX {w N q' i : Nat} {o : Bool} {f : PS (PS (Zm m))} (e : q' = i) (h : i < N) : fH (rows o (bP w N f)) [] q' (.list o 1 (ints (L w (f.c i)))) := by
 subst e
 exact ⟨_, rfl, by rw [nK (by simpa using h), tR f h]⟩
theorem B9 {w N q' i : Nat} {o : Bool} {f : PS (PS (Zm m))} (e : q' = i) (h : i < N) : (rows o (bP w N f))[q']? = some (.list o 1 (ints (L w (f.c i)))) := by
 subst e
 rw [nK (by simpa using h), tR f h]
theorem S0 {w N q' i : Nat} {f : PS (PS (Zm m))} (e : q' = i) (h : i < N) : bG (rows true (bP w N f)) ([] ++ [q']) = some (ints (L w (f.c i))) := by
 subst e
 rw [List.nil_append, uF (by simpa using h), tR f h]
theorem yM {w N q' k i j : Nat} {f : PS (PS (Zm m))} (e : q' = i) (e2 : k = j) (h : i < N) (h2 : j < w) : fH (rows true (bP w N f)) ([] ++ [q']) k (aA ((f.c i).c j).val) := by
 subst e2
 exact ⟨_, S0 e h, by simp [ints, L, h2]⟩
theorem Axt {n k l : Nat} {a : PS (Zm m)} (e : k = l) (h : l < n) : (ints (L n a))[k]? = some (aA (a.c l).val) := by
 subst e; simp [ints, L, h]
theorem Afc {w N i : Nat} {o : Bool} {f : PS (PS (Zm m))} (h : i < N) : 0 ≤ (i : Int) ∧ (i : Int) < (bC 1 (rows o (bP w N f)) : Nat) := by rw [aB, aQ, nP]; omega
theorem Axs (cs : List D) : ∀ d ∈ [D.list true 1 cs], d.one = true := S9 cs
theorem Y3 {w N a k : Nat} {o : Bool} {f : PS (PS (Zm m))} (e : a = k) (h : k ≤ N) : sub (rows o (bP w N f)) 1 0 a = rows o (bP w k f) := by
 subst e
 simp only [sub, Nat.zero_mul, List.drop_zero, Nat.mul_one, rows, bP, ← List.map_take]
 rw [List.take_range, Nat.min_eq_left h]
theorem Acw (hm : Md m) (o o1 o2 p1 p2 : Bool) (rl : List Int) {k : Nat} (hk : qY rl k) (N : Nat) (hN : 1 ≤ N ∧ N ≤ 100) (f g : PS (PS (Zm m))) : aI Tryz.prog 318 [uW m o rl, gK o1 p1 k N f, gK o2 p2 k N g] (gK true true k N (fW k (rd m rl) N f g)) := by
 have hk0 := hk
 obtain ⟨hl, hk1, hk4, hr⟩ := hk
 have hm1 := hm.1
 have hm2 := hm.2
 refine aU Tryz.tabOk aF Tryz.func318 rfl rfl ?_
 conv => whnf
 repeat' first | ((first | refine z0 ?_ | (refine zP (fun h => ?_) (fun h => ?_) <;> (try simp only [aB, aE] at h)) | refine zS ?_ | refine zV ?_ | (apply zI; refine zP aM ?_) | (apply zI; refine zP aG ?_) | refine zA ?_ | refine Alt.fst ?_ | refine Or.inl ?_) <;> conv => whnf) | fail
 refine aZ Tryz.tabOk aF (α := Nat) (fun i => [(15, aA i), (7, .ref 1 [] 1 0 i), (12, .undef)]) (fun i => [(1, some ⟨false, 1, rows true (bP k i (0 : PS (PS (Zm m))))⟩)]) (fun i => i ≤ N) (fun i => N - i) (0) ?_ ?_ ?_
 · omega
 · conv => whnf
   first | refine aH.autoR ?_ | refine aC.autoR ?_
   conv => whnf
   repeat' ((first | refine z1 ?_ | refine zP ?_ ?_ | exact trivial) <;> try (conv => whnf))
 intro i hi
 conv => whnf
 repeat' first | ((first | (apply zI; refine zP (rF hm _ rl hk0 0 (by rw [Zm.val_zero])) ?_) | (refine zP (fun h => ?_) (fun h => ?_) <;> (try simp only [aB, aE] at h)) | refine zV ?_ | (apply zI; refine zP aG ?_) | refine zP (aK) ?_ | refine Or.inl ?_) <;> conv => whnf) | fail
 · refine Exists.intro (i + 1) (zP aK (zP aK ?_))
   first | refine aH.autoR ?_ | refine aC.autoR ?_
   conv => whnf
   repeat' ((first | refine z1 ?_ | refine zP ?_ ?_ | exact trivial) <;> try (conv => whnf))
   exact cI (rJ (by rw [PS.C_zero]; rfl))
 · have hiN : i = N := aK
   rw [hiN]
   refine aZ Tryz.tabOk aF (α := Nat) (fun i => [(25, aA i), (8, .undef), (9, .undef)]) (fun i => [(1, some ⟨false, 1, rows true (bP k N (gL k (rd m rl) f g i 0))⟩)]) (fun i => i ≤ N) (fun i => N - i) (0) ?_ ?_ ?_
   · omega
   · conv => whnf
     first | refine aH.autoR ?_ | refine aC.autoR ?_
     conv => whnf
     repeat' ((first | refine z1 ?_ | refine zP ?_ ?_ | exact trivial) <;> try (conv => whnf))
     all_goals rw [Ae8]
   intro i hi
   conv => whnf
   repeat' first | ((first | refine z0 ?_ | (apply zI; refine zP (B9 (i := i) aY aK) ?_) | (refine zP (fun h => ?_) (fun h => ?_) <;> (try simp only [aB, aE] at h)) | refine zV ?_ | (apply zI; refine zP aG ?_) | refine zP (eV aK aK) ?_ | refine zP (aK) ?_) <;> conv => whnf) | fail
   · have hi' : i < N := aK
     rw [show sub (rows p2 (bP k N g)) 1 0 (((bC 1 (rows p2 (bP k N g)) : Nat) : Int) - (i : Int)).toNat = rows p2 (bP k (N - i) g) from Y3 (by rw [aB, aQ, nP]; omega) (by omega)]
     refine aZ Tryz.tabOk aF (α := Nat) (fun j => [(37, aA j), (10, .undef), (11, .undef)]) (fun j => [(1, some ⟨false, 1, rows true (bP k N (gL k (rd m rl) f g i j))⟩)]) (fun j => j ≤ N - i) (fun j => N - j) (0) ?_ ?_ ?_
     · omega
     · conv => whnf
       first | refine aH.autoR ?_ | refine aC.autoR ?_
       conv => whnf
       repeat' ((first | refine z1 ?_ | refine zP ?_ ?_ | exact trivial) <;> try (conv => whnf))
     intro j hj
     conv => whnf
     repeat' first | ((first | (apply zI; refine zP (B9 (i := j) aY aK) ?_) | (apply zI; refine zP (qX (i := i + j) aY aK) ?_) | (apply zI; refine zP (L0 hm _ _ _ rl hk0 (f.c i) (g.c j)) ?_) | refine Or.inr (iY Tryz.tabOk aF _ Tryz.func316 rfl rfl ?_) | (refine zP (fun h => ?_) (fun h => ?_) <;> (try simp only [aB, aE] at h)) | refine zS ?_ | refine zV ?_ | refine zP (aK) ?_ | refine Alt.fst ?_ | refine Or.inl ?_) <;> conv => whnf) | fail
     · have hj' : j < N - i := aK
       refine aZ Tryz.tabOk aF (α := Nat) (fun l => [(12, aA l)]) (fun l => [(1, some ⟨false, 1, rows true (bP k N (kF (gL k (rd m rl) f g i j) (i + j) l ((gL k (rd m rl) f g i j).c (i + j) + dI k (rd m rl) (f.c i) (g.c j))))⟩)]) (fun l => l ≤ k) (fun l => k - l) (0) ?_ ?_ ?_
       · omega
       · conv => whnf
         first | refine aH.autoR ?_ | refine aC.autoR ?_
         conv => whnf
         repeat' ((first | refine z1 ?_ | refine zP ?_ ?_ | exact trivial) <;> try (conv => whnf))
         all_goals rw [Abg]
       intro l hll
       conv => whnf
       have x1 := Zm.val_range hm.pos (((kF (gL k (rd m rl) f g i j) (i + j) l ((gL k (rd m rl) f g i j).c (i + j) + dI k (rd m rl) (f.c i) (g.c j))).c (i + j)).c l)
       have x2 := Zm.val_range hm.pos ((dI k (rd m rl) (f.c i) (g.c j)).c l)
       repeat' first | ((first | (apply zI; refine zP (yM (i := i + j) (j := l) aY aY aK aK) ?_) | (apply zI; refine zP (M4 (i := i + j) (j := l) _ aY aY aK aK) ?_) | (apply zI; refine zP (lC _ _ hm.pos (by omega)) ?_) | (refine zP (fun h => ?_) (fun h => ?_) <;> (try simp only [aB, aE] at h)) | refine zS ?_ | refine zV ?_ | (apply zI; refine zP aG ?_) | refine Alt.fst ?_ | refine Or.inl ?_) <;> conv => whnf) | fail
       · have hl' : l < k := aK
         refine Exists.intro (l + 1) (zP aK (zP aK ?_))
         first | refine aH.autoR ?_ | refine aC.autoR ?_
         conv => whnf
         repeat' ((first | refine z1 ?_ | refine zP ?_ ?_ | exact trivial) <;> try (conv => whnf))
         refine cI (Aad _ _ aK hl' ?_)
         rw [H5, G2, add_c, ← Aoi, Int.one_mul]
       · refine Exists.intro (j + 1) (zP aK (zP aK ?_))
         first | refine aH.autoR ?_ | refine aC.autoR ?_
         conv => whnf
         repeat' ((first | refine z1 ?_ | refine zP ?_ ?_ | exact trivial) <;> try (conv => whnf))
         refine cI ?_
         rw [Adb _ _ _ aK, ← Aex]
     · have hj' : j = N - i := aK
       refine Exists.intro (i + 1) (zP aK (zP aK ?_))
       first | refine aH.autoR ?_ | refine aC.autoR ?_
       conv => whnf
       repeat' ((first | refine z1 ?_ | refine zP ?_ ?_ | exact trivial) <;> try (conv => whnf))
       refine cI (rO (fun n hn => Ag.of_eq (Aac _ _ _ _ (by omega) n hn)))
   · rw [show i = N from aK]
     rfl
theorem Aqq (hm : Md m) (i : Nat) : (1 : Int) - min (i : Int) 1 = (if i = 0 then (1 : Zm m) else 0).val := by
 have := hm.1
 by_cases h : i = 0
 · subst h; rw [if_pos rfl, Zm.val_one (by omega)]; rfl
 · rw [if_neg h, Zm.val_zero]; omega
def E3 (k : Nat) (ρ : PS (Zm m)) (N : Nat) (a : PS (PS (Zm m))) (i : Nat) : List (List Int) := bP k N (eC k ρ N a i)
theorem Apo (hm : Md m) (o o1 o2 p1 p2 : Bool) (rl : List Int) {k : Nat} (hk : qY rl k) (N : Nat) (hN : 1 ≤ N ∧ N ≤ 100) (f : PS (PS (Zm m))) (a : PS (PS (Zm m))) :
   aI Tryz.prog 317 [gK o1 p1 k N a, .cptr [aA m, .list o 1 (ints rl)] 0, .cptr [aA m, .list o2 1 (rows p2 (Tb N f))] 0] (.list true 1 (gA (E3 k (rd m rl) N a) N)) := by
 have hk0 := hk
 obtain ⟨hl, hk1, hk4, hr⟩ := hk
 have hm1 := hm.1
 have hm2 := hm.2
 refine aU Tryz.tabOk aF Tryz.func317 rfl rfl ?_
 conv => whnf
 repeat' first | ((first | refine z0 ?_ | (refine zP (fun h => ?_) (fun h => ?_) <;> (try simp only [aB, aE] at h)) | refine zS ?_ | refine zV ?_ | (apply zI; refine zP aM ?_) | (apply zI; refine zP aG ?_) | refine zA ?_ | refine Alt.fst ?_ | refine Or.inl ?_) <;> conv => whnf) | fail
 refine aZ Tryz.tabOk aF (α := Nat) (fun i => [(11, aA i), (6, .undef), (5, .ref 0 [] 1 0 i), (8, .undef)]) (fun i => [(0, some ⟨false, 1, rows true (bP k i (1 : PS (PS (Zm m))))⟩)]) (fun i => i ≤ N) (fun i => N - i) (0) ?_ ?_ ?_
 · omega
 · conv => whnf
   first | refine aH.autoR ?_ | refine aC.autoR ?_
   conv => whnf
   repeat' ((first | refine z1 ?_ | refine zP ?_ ?_ | exact trivial) <;> try (conv => whnf))
 intro i hi
 conv => whnf
 repeat' first | ((first | (apply zI; refine zP (rF hm _ rl hk0 (if i = 0 then 1 else 0) (Aqq hm i)) ?_) | (apply zI; refine zP (nW _ _ N (by omega) f) ?_) | (refine zP (fun h => ?_) (fun h => ?_) <;> (try simp only [aB, aE] at h)) | refine zV ?_ | (apply zI; refine zP aG ?_) | refine zP (aK) ?_ | refine Or.inl ?_) <;> conv => whnf) | fail
 · have hi' : i < N := aK
   refine Exists.intro (i + 1) (zP aK (zP aK ?_))
   first | refine aH.autoR ?_ | refine aC.autoR ?_
   conv => whnf
   repeat' ((first | refine z1 ?_ | refine zP ?_ ?_ | exact trivial) <;> try (conv => whnf))
   exact cI (rJ (by
     rw [PS.one_c]
     split
     · rfl
     · rw [PS.C_zero]))
 · have hiN : i = N := aK
   subst hiN
   refine aZ Tryz.tabOk aF (α := Nat) (fun j => [(27, aA j), (7, .ref 1 [] 1 0 (j + 1)), (5, .undef), (23, .undef), (24, .undef)]) (fun j => [(1, some ⟨false, 1, gA (E3 k (rd m rl) i a) (j + 1)⟩)]) (fun j => j + 1 ≤ i) (fun j => i - j) (0) ?_ ?_ ?_
   · omega
   · conv => whnf
     first | refine aH.autoR ?_ | refine aC.autoR ?_
     conv => whnf
     repeat' ((first | refine z1 ?_ | refine zP ?_ ?_ | exact trivial) <;> try (conv => whnf))
   intro j hj
   conv => whnf
   repeat' first | ((first | refine z0 ?_ | (apply zI; refine zP (tY j aY aK) ?_) | (apply zI; refine zP (uB j aY aK) ?_) | (apply zI; refine zP (Acw hm _ _ _ _ _ rl hk0 i hN (eC k (rd m rl) i a j) a) ?_) | (refine zP (fun h => ?_) (fun h => ?_) <;> (try simp only [aB, aE] at h)) | refine zS ?_ | refine zV ?_ | (apply zI; refine zP aM ?_) | (apply zI; refine zP aG ?_) | refine zP (Ag6 aK) ?_ | refine zP (S9 _) ?_ | refine zP (Aef _ _) ?_ | refine Alt.fst ?_ | refine Or.inl ?_) <;> conv => whnf) | fail
   · refine Exists.intro (j + 1) (zP aK (zP aK ?_))
     first | refine aH.autoR ?_ | refine aC.autoR ?_
     conv => whnf
     repeat' ((first | refine z1 ?_ | refine zP ?_ ?_ | exact trivial) <;> try (conv => whnf))
     exact Aak rfl
   · rw [show j + 1 = i from aK]
end Go.Proofs
