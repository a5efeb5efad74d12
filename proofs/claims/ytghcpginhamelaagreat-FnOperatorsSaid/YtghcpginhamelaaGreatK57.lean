/- Parts of the proof. -/
import Derived.Test.YtghcpginhamelaaGreatK62
import Derived.Test.YtghcpginhamelaaGreatK112
import Derived.Test.YtghcpginhamelaaGreatK135B
import Derived.Test.YtghcpginhamelaaGreatK154
import Derived.Test.YtghcpginhamelaaGreatAlg24
import Derived.Test.YtghcpginhamelaaGreatAlg23
import Derived.Test.YtghcpginhamelaaGreatAlg9
import Derived.Test.YtghcpginhamelaaGreatAlg10
namespace Go.Proofs
open Go Go.Vm Go.Fg Go.Fg.PS
set_option maxRecDepth 100000
set_option maxHeartbeats 4000000
set_option linter.unusedSimpArgs false
set_option linter.unusedVariables false
variable {m : Int}
noncomputable def moC (m : Int) (t : List (List Int)) (k : Int) : Int := if dN m t = true then (if -1000000 ≤ k ∧ k ≤ 1000000 then 0 else 2) else 1
theorem Axf {m : Int} {t : List (List Int)} {k : Int} (h : moC m t k = 0) : dN m t = true ∧ (-1000000 ≤ k ∧ k ≤ 1000000) := by
 unfold moC at h
 split at h
 · split at h
   · exact ⟨by assumption, by assumption⟩
   · omega
 · omega
theorem Aqt (n : Int) : aI Tryz.prog 121 [aA n] (bH (bB n (-1000000) 1000000)) := by
 refine aU Tryz.tabOk aF Tryz.func121 rfl rfl ?_
 conv => whnf
 repeat' first | ((first | refine z0 ?_ | (apply zI; refine zP (mT _ _ _) ?_) | (refine zP (fun h => ?_) (fun h => ?_) <;> (try simp only [aB, aE] at h)) | refine Or.inl ?_) <;> conv => whnf) | fail
 all_goals rw [h]
theorem Avx {m : Int} {t : List (List Int)} {ma : Int} {l : List Int} (h : eS m t ma l = 0) : dN m t = true ∧ cX ma l = true ∧ m = ma ∧ t.length = l.length ∧ l.getD 0 0 = 0 := by
 unfold eS at h
 split at h
 · split at h
   · split at h
     · rename_i h1 h2 h3
       simp only [jK, Bool.and_eq_true, decide_eq_true_eq] at h3
       exact ⟨h1, h2, h3.1, h3.2.1, h3.2.2⟩
     · omega
   · omega
 · omega
set_option linter.unusedSectionVars false
theorem Ago {f : PS (PS (Zm m))} {n : Nat} (hn : 2 ≤ n) (L : mY f n) : LwN f n :=
 ⟨hn, by rw [L.1 0 (by omega)]; exact if_neg (by omega), by rw [L.1 1 (by omega)]; exact if_pos rfl, fun i hi hne => by rw [L.1 i hi]; exact if_neg hne, L.2.1, fun p q k h => L.2.2 p q k h⟩
section
variable {f : PS (PS (Zm m))} {n : Nat} (hL : LwN f n)
include hL
theorem Afd {k : Nat} {out a r : PS (Zm m)} (h : Mul f n k out a r) (ho : out.c 0 = 0) (ha : a.c 0 = 0) : cv n r = hL.G.ad (cv n out) (hL.G.nm k (cv n a)) ∧ r.c 0 = 0 := by
 induction h with
 | zero out a => exact ⟨(hL.G.adz _).symm, ho⟩
 | odd k out a r hk h ih =>
   obtain ⟨h1, h2⟩ := ih (yO hL.z0 ho ha) (yO hL.z0 ha ha)
   refine ⟨?_, h2⟩
   rw [h1, sA, sA, ← hL.ad_cv ho ha, ← hL.ad_cv ha ha, hL.G.nm_ad, ← hL.G.nm_add, hL.G.assoc, hL.G.comm (cv n a)]
   have e : hL.G.nm k (cv n a) = hL.G.ad (hL.G.nm (k / 2 + k / 2) (cv n a)) (cv n a) := by
     conv => lhs; rw [show k = (k / 2 + k / 2) + 1 by omega]
     rfl
   rw [e]
 | even k out a r hk hk2 h ih =>
   obtain ⟨h1, h2⟩ := ih ho (yO hL.z0 ha ha)
   refine ⟨?_, h2⟩
   rw [h1, sA, ← hL.ad_cv ha ha, hL.G.nm_ad, ← hL.G.nm_add, show k / 2 + k / 2 = k by omega]
theorem X5 {s : PS (Zm m)} (hs : s.c 0 = 0) : Ag n (compN (lX n f) s 0 n) (rP n f s) := jT hs n
theorem Awk {s : PS (Zm m)} (hs : s.c 0 = 0) : (compN (lX n f) s 0 n).c 0 = 0 := by
 have := hL.pos
 rw [X5 hL hs 0 (by omega), W3]
theorem Anx {k : Int} {a r : PS (Zm m)} (h : nB f n k a r) (ha : a.c 0 = 0) : cv n r = hL.G.zm k (cv n a) ∧ r.c 0 = 0 := by
 unfold nB at h
 by_cases h0 : 0 ≤ k
 · rw [if_pos h0] at h
   obtain ⟨h1, h2⟩ := Afd hL h rfl ha
   refine ⟨?_, h2⟩
   have e : hL.G.zm k (cv n a) = hL.G.nm k.toNat (cv n a) := by
     conv => lhs; rw [show k = (k.toNat : Int) by omega]
     rfl
   rw [h1, e]; exact hL.G.zad _
 · rw [if_neg h0] at h
   obtain ⟨s, hs, rfl⟩ := h
   obtain ⟨h1, h2⟩ := Afd hL hs rfl ha
   refine ⟨?_, Awk hL h2⟩
   have e : hL.G.zm k (cv n a) = hL.G.ng (hL.G.nm (-k).toNat (cv n a)) := by
     conv => lhs; rw [show k = -((-k).toNat : Int) by omega]
     exact hL.G.zm_neg_nat _ _
   rw [rR (X5 hL h2), ← hL.ng_cv h2, h1, e]
   exact congrArg hL.G.ng (hL.G.zad _)
end
theorem Aog (o : Bool) (l : List Nat) (hb : ∀ b ∈ l, b < 256) (hl : l.length ≤ 4611686018427387904) (a : Nat) (ha : a ≤ l.length) (hs : Int) (n : Int) :
   cN Tryz.prog 29 2 [.ptr 1 [] 0, aA n] [none, some (aN o l a hs)]
     (fun d rt => ∃ (x : Int) (a' : Nat) (h' : Int), ((n < 1 → x = 0) ∧ (1 ≤ n → 0 ≤ x ∧ x < n)) ∧ a' ≤ l.length ∧ d = aA x ∧ rt = [none, some (aN o l a' h')]) := by
 have hbyte : a < l.length → l.getD a 0 < 256 := fun h => hb _ (by rw [List.getD_eq_getElem?_getD, List.getElem?_eq_getElem h]; exact List.getElem_mem h)
 refine dY Tryz.tabOk aF 2 _ Tryz.func29 rfl rfl ?_
 conv => whnf
 repeat' first | ((first | refine z0 ?_ | (refine zP (fun h => ?_) (fun h => ?_) <;> (try simp only [aB, aE] at h)) | refine zS ?_ | refine zV ?_ | (apply zI; refine zP aM ?_) | (apply zI; refine zP aG ?_) | refine zA ?_ | refine Alt.fst ?_ | refine Or.inl ?_) <;> conv => whnf) | fail
 · have hn1 : n < 1 := by assumption
   have hwk := fun st => aC.autoR (kp := 2) (st := st) (st2 := ⟨[aA 0], [none, some (aN o l a hs)]⟩)
   refine ⟨aA 0, [none, some (aN o l a hs)], ⟨0, a, hs, ⟨fun _ => rfl, fun h => by omega⟩, ha, rfl, rfl⟩, hwk _ ?_⟩
   conv => whnf
   repeat' ((first | refine z1 ?_ | refine z2 ?_ | refine zV ?_ | refine zP ?_ ?_ | exact trivial) <;> try (conv => whnf))
 · have hn1 : ¬ n < 1 := by assumption
   generalize IntKind.u64.wrap (IntKind.u64.wrap (hs * 6364136223846793005) + 1442695040888963407) = H
   have hx := Ahc (H.fdiv (2 ^ min (Int.toNat 33) IntKind.u64.bits))
   generalize IntKind.u64.wrap ((BitVec.ofInt IntKind.u64.bits (H.fdiv (2 ^ min (Int.toNat 33) IntKind.u64.bits)) &&& BitVec.ofInt IntKind.u64.bits 16777215).toNat : Nat) = X at hx ⊢
   repeat' first | ((first | refine z0 ?_ | (apply zI; refine zP (sM (i := a) aY (by simp only [aB, bC] at *; omega)) ?_) | (refine zP (fun h => ?_) (fun h => ?_) <;> (try simp only [aB, aE] at h)) | refine zS ?_ | refine zV ?_) <;> conv => whnf) | fail
   · have hal : a < l.length := by simp only [bC] at *; omega
     have hby := hbyte hal
     repeat' first | ((first | refine z0 ?_ | (apply zI; refine zP (sM (i := a) aY (by simp only [aB, bC] at *; omega)) ?_) | (refine zP (fun h => ?_) (fun h => ?_) <;> (try simp only [aB, aE] at h)) | refine zS ?_ | refine zV ?_) <;> conv => whnf) | fail
     have hwk := fun st => aC.autoR (kp := 2) (st := st) (st2 := ⟨[aA ((X + ((l.getD a 0 : Nat) : Int)).tmod n)], [none, some (aN o l (a + 1) H)]⟩)
     refine ⟨aA ((X + ((l.getD a 0 : Nat) : Int)).tmod n), [none, some (aN o l (a + 1) H)], ⟨_, a + 1, H, ⟨fun h => by omega, fun h => ⟨Int.tmod_nonneg _ (by omega), Int.tmod_lt_of_pos _ (by omega)⟩⟩, hal, rfl, rfl⟩, hwk _ ?_⟩
     conv => whnf
     repeat' ((first | refine z1 ?_ | refine z2 ?_ | refine zV ?_ | refine zP ?_ ?_ | exact trivial) <;> try (conv => whnf))
   · have hwk := fun st => aC.autoR (kp := 2) (st := st) (st2 := ⟨[aA (X.tmod n)], [none, some (aN o l a H)]⟩)
     refine ⟨aA (X.tmod n), [none, some (aN o l a H)], ⟨_, a, H, ⟨fun h => by omega, fun h => ⟨Int.tmod_nonneg _ (by omega), Int.tmod_lt_of_pos _ (by omega)⟩⟩, ha, rfl, rfl⟩, hwk _ ?_⟩
     conv => whnf
     repeat' ((first | refine z1 ?_ | refine z2 ?_ | refine zV ?_ | refine zP ?_ ?_ | exact trivial) <;> try (conv => whnf))
theorem Ama (o : Bool) (l : List Nat) (hb : ∀ b ∈ l, b < 256) (hl : l.length ≤ 4611686018427387904) (z : Int) :
   cN Tryz.prog 28 1 [.list o 1 (fL l), .lit (.int .u64 z)] [none]
     (fun d rt => ∃ h' : Int, d = .ptr 1 [] 0 ∧ rt = [none, some (aN o l 0 h')]) := by
 refine dY Tryz.tabOk aF 1 _ Tryz.func28 rfl rfl ?_
 conv => whnf
 repeat' first | ((first | refine z0 ?_ | (refine zP (fun h => ?_) (fun h => ?_) <;> (try simp only [aB, aE] at h)) | refine zS ?_ | refine zV ?_ | (apply zI; refine zP aM ?_) | (apply zI; refine zP aG ?_) | refine zA ?_ | refine Alt.fst ?_ | refine Or.inl ?_) <;> conv => whnf) | fail
 refine aZ Tryz.tabOk aF (α := Nat × Int) (fun x => [(6, aA x.1)]) (fun x => [(1, some (aN o l 0 x.2))]) (fun x => x.1 ≤ l.length) (fun x => l.length - x.1) ((0, IntKind.u64.wrap (IntKind.u64.wrap (z * 6257) + IntKind.u64.wrap (l.length : Nat)))) ?_ ?_ ?_
 · omega
 · conv => whnf
   first | refine aH.autoR ?_ | refine aC.autoR ?_
   conv => whnf
   repeat' ((first | refine z1 ?_ | refine z2 ?_ | refine zV ?_ | refine zP cA ?_ | refine zP cB ?_ | refine zP ?_ ?_ | exact trivial) <;> try (conv => whnf))
   rw [show cnt 1 (fL l) = l.length by rw [aB, bC]]
 intro ⟨i, hh⟩ hi
 simp only at hi
 conv => whnf
 repeat' first | ((first | refine z0 ?_ | (apply zI; refine zP (sM (i := i) aY (by simp only [aB, bC] at *; omega)) ?_) | (refine zP (fun h => ?_) (fun h => ?_) <;> (try simp only [aB, aE] at h)) | refine zS ?_ | refine zV ?_) <;> conv => whnf) | fail
 · have hil : i < l.length := by simp only [bC] at *; omega
   refine Exists.intro (i + 1, IntKind.u64.wrap (IntKind.u64.wrap (IntKind.u64.wrap (hh * 1099511628211) + IntKind.u64.wrap ((l.getD i 0 : Nat) : Int)) + 5)) (zP hil (zP (by simp only; omega) ?_))
   first | refine aH.autoR ?_ | refine aC.autoR ?_
   conv => whnf
   repeat' ((first | refine z1 ?_ | refine z2 ?_ | refine zV ?_ | refine zP cA ?_ | refine zP cB ?_ | refine zP ?_ ?_ | exact trivial) <;> try (conv => whnf))
 · have hwk := fun st => aC.autoR (kp := 1) (st := st) (st2 := ⟨[.ptr 1 [] 0], [none, some (aN o l 0 hh)]⟩)
   refine ⟨.ptr 1 [] 0, [none, some (aN o l 0 hh)], ⟨hh, rfl, rfl⟩, hwk _ ?_⟩
   conv => whnf
   repeat' ((first | refine z1 ?_ | refine z2 ?_ | refine zV ?_ | refine zP ?_ ?_ | exact trivial) <;> try (conv => whnf))
theorem Anb (hW : Wei) (o : Bool) (l : List Nat) (hb : ∀ b ∈ l, b < 256) (hl : l.length ≤ 4611686018427387904) :
   cN Tryz.prog 147 1 [.list o 1 (fL l), aA 1] [none]
     (fun d rt => ∃ (m : Int) (t : List (List Int)) (ma : Int) (la : List Int), ((1 ≤ m ∧ m ≤ 10001) ∧ kY t) ∧ la.length ≤ 12 ∧ d = .tup [jJ m t, .list false 2 [aA ma, .list false 1 (ints la)]] ∧ rt = [none]) := by
 refine dY Tryz.tabOk aF 1 _ Tryz.func147 rfl rfl ?_
 conv => whnf
 repeat' first | (refine bD [] (xG o l hb hl) (fun d rt' hd => ?_)) | fail
 obtain ⟨h0, rfl, rfl⟩ := hd
 refine ⟨rfl, by simp, ?_⟩
 conv => whnf
 repeat' first | (refine bD [2] (Ail hW o l hb hl 0 (by omega) h0) (fun d rt' hd => ?_)) | fail
 obtain ⟨m, t, a1, h1, hm, ht, ha1, rfl, rfl⟩ := hd
 refine ⟨rfl, by simp, ?_⟩
 conv => whnf
 repeat' first | ((first | refine z0 ?_ | (refine zP (fun h => ?_) (fun h => ?_) <;> (try simp only [aB, aE] at h)) | refine zS ?_ | refine zV ?_ | (apply zI; refine zP aM ?_) | (apply zI; refine zP aG ?_) | refine zA ?_ | refine Alt.fst ?_ | refine Or.inl ?_) <;> conv => whnf) | fail
 refine fY Tryz.tabOk aF ?_
 conv => whnf
 repeat' first | ((first | refine z0 ?_ | (refine zP (fun h => ?_) (fun h => ?_) <;> (try simp only [aB, aE, aQ, aV, aT, bC] at h) <;> first | (exfalso; first | omega | exact h trivial | (cases h; done)) | skip) | refine zV ?_ | (apply zI; refine zP aM ?_) | (apply zI; refine zP aG ?_)) <;> conv => whnf) | fail
 refine aZ Tryz.tabOk aF (α := List Int × Nat × Int) (fun u => [(10, aA u.1.length), (22, .undef), (23, .undef)]) (fun u => [(2, some (aN o l u.2.1 u.2.2)), (5, some ⟨false, 1, ints u.1⟩), (6, some ⟨true, 1, [aA m, .ref 5 [] 1 0 u.1.length]⟩)]) (fun u => 1 ≤ u.1.length ∧ u.1.length ≤ 11 ∧ u.2.1 ≤ l.length) (fun u => 11 - u.1.length) (([0], a1, h1)) ?_ ?_ ?_
 · exact ⟨by simp, by simp, ha1⟩
 · conv => whnf
   first | refine aH.autoR ?_ | refine aC.autoR ?_
   conv => whnf
   repeat' ((first | refine z1 ?_ | refine z2 ?_ | refine zV ?_ | refine zP cA ?_ | refine zP cB ?_ | refine zP ?_ ?_ | exact trivial) <;> try (conv => whnf))
 intro u hu
 obtain ⟨us, a0, h0⟩ := u
 obtain ⟨hu1, hu2, ha0⟩ := hu
 simp only at hu1 hu2 ha0
 conv => whnf
 have htl := ht.1
 by_cases hlt : us.length < t.length
 · repeat' first | (refine bD [2] (cW o l hb hl a0 ha0 h0 (max 1 m)) (fun d rt' hd => ?_)) | ((first | refine Alt.snd (zP (show oC _ _ = true by decide +kernel) ?_) | (refine zP (fun h => ?_) (fun h => ?_) <;> (try simp only [aB, aE, aQ, aV, aT, bC] at h) <;> first | (exfalso; first | omega | exact h trivial | (cases h; done)) | skip) | refine zS ?_) <;> conv => whnf) | fail
   obtain ⟨x, a2, h2, hx, ha2, rfl, rfl⟩ := hd
   refine ⟨rfl, by simp, ?_⟩
   conv => whnf
   repeat' first | ((first | refine z0 ?_ | refine zP (show (_ : List (Option Root))[_]? = _ from rfl) ?_ | (refine zP (fun h => ?_) (fun h => ?_) <;> (try simp only [aB, aE, aQ, aV, aT, bC] at h) <;> first | (exfalso; first | omega | exact h trivial | (cases h; done)) | skip) | refine zV ?_ | (apply zI; refine zP aM ?_) | (apply zI; refine zP aG ?_)) <;> conv => whnf) | fail
   refine Exists.intro (us ++ [x], a2, h2) (zP ⟨by simp only [List.length_append, List.length_singleton]; omega, by simp only [List.length_append, List.length_singleton]; omega, ha2⟩ (zP (by simp only [List.length_append, List.length_singleton]; omega) ?_))
   first | refine aH.autoR ?_ | refine aC.autoR ?_
   conv => whnf
   repeat' ((first | refine z1 ?_ | refine z2 ?_ | refine zV ?_ | refine zP cA ?_ | refine zP cB ?_ | refine zP ?_ ?_ | exact trivial) <;> try (conv => whnf))
   all_goals first | (simp [ints]; done)
 · repeat' first | (refine bD [2] (cW o l hb hl a0 ha0 h0 40) (fun d rt' hd => ?_)) | ((first | (refine zP (fun h => ?_) (fun h => ?_) <;> (try simp only [aB, aE, aQ, aV, aT, bC] at h) <;> first | (exfalso; first | omega | exact h trivial | (cases h; done)) | skip)) <;> conv => whnf) | fail
   obtain ⟨x, a2, h2, hx, ha2, rfl, rfl⟩ := hd
   refine ⟨rfl, by simp, ?_⟩
   conv => whnf
   have hx2 := hx.2 (by omega)
   repeat' first | ((first | (refine zP (fun h => ?_) (fun h => ?_) <;> (try simp only [aB, aE, aQ, aV, aT, bC] at h) <;> first | (exfalso; first | omega | exact h trivial | (cases h; done)) | skip) | refine zV ?_ | (apply zI; refine zP aM ?_) | (apply zI; refine zP aG ?_) | refine zP (Aia _ _) ?_ | refine zP (Afp (by omega)) ?_ | refine Or.inl ?_) <;> conv => whnf) | fail
   all_goals refine fY Tryz.tabOk aF ?_
   all_goals conv => whnf
   repeat' first | ((first | refine z0 ?_ | (refine zP (fun h => ?_) (fun h => ?_) <;> (try simp only [aB, aE, aQ, aV, aT, bC] at h) <;> first | (exfalso; first | omega | exact h trivial | (cases h; done)) | skip) | refine zV ?_ | (apply zI; refine zP aM ?_) | (apply zI; refine zP aG ?_)) <;> conv => whnf) | fail
   · refine ⟨.tup [jJ m t, .list false 2 [aA (m), .list false 1 (ints (us.set 0 1))]], [none], ⟨m, t, m, (us.set 0 1), ⟨hm, ht⟩, by first | (simp; omega) | omega, rfl, rfl⟩, aC.trans (aC.freezeR (kp := 1) (r := 8) (s0 := 2) (env' := [.tup [jJ m t, .list false 2 [aA (m), .list false 1 (ints (us.set 0 1))]]]) rfl rfl (jR (A8 (.rfl _) (Fz.ref (cs := [aA (m), .list true 1 (ints (us.set 0 1))]) 2 0 1 _ (show 0 * 2 + 1 * 2 ≤ 2 by omega) rfl)))) (aC.of (kp := 1) [none] ?_)⟩
     conv => whnf
     repeat' ((first | refine zP rfl ?_ | refine zP (kP aD) ?_ | refine zP bM ?_ | refine zP ?_ ?_ | exact trivial) <;> try (conv => whnf))
   · refine ⟨.tup [jJ m t, .list false 2 [aA (m + 1), .list false 1 (ints us)]], [none], ⟨m, t, m + 1, us, ⟨hm, ht⟩, by first | (simp; omega) | omega, rfl, rfl⟩, aC.trans (aC.freezeR (kp := 1) (r := 8) (s0 := 2) (env' := [.tup [jJ m t, .list false 2 [aA (m + 1), .list false 1 (ints us)]]]) rfl rfl (jR (A8 (.rfl _) (Fz.ref (cs := [aA (m + 1), .list true 1 (ints us)]) 2 0 1 _ (show 0 * 2 + 1 * 2 ≤ 2 by omega) rfl)))) (aC.of (kp := 1) [none] ?_)⟩
     conv => whnf
     repeat' ((first | refine zP rfl ?_ | refine zP (kP aD) ?_ | refine zP bM ?_ | refine zP ?_ ?_ | exact trivial) <;> try (conv => whnf))
   · refine ⟨.tup [jJ m t, .list false 2 [aA (m), .list false 1 (ints (us ++ [0]))]], [none], ⟨m, t, m, (us ++ [0]), ⟨hm, ht⟩, by first | (simp; omega) | omega, rfl, rfl⟩, aC.trans (aC.freezeR (kp := 1) (r := 10) (s0 := 2) (env' := [.tup [jJ m t, .list false 2 [aA (m), .list false 1 (ints (us ++ [0]))]]]) rfl rfl (jR (A8 (.rfl _) (Fz.ref (cs := [aA (m), .list true 1 (ints (us ++ [0]))]) 2 0 1 _ (show 0 * 2 + 1 * 2 ≤ 2 by omega) rfl)))) (aC.of (kp := 1) [none] ?_)⟩
     conv => whnf
     repeat' ((first | refine zP rfl ?_ | refine zP (kP aD) ?_ | refine zP bM ?_ | refine zP ?_ ?_ | exact trivial) <;> try (conv => whnf))
   · refine ⟨.tup [jJ m t, .list false 2 [aA (m), .list false 1 (ints us)]], [none], ⟨m, t, m, us, ⟨hm, ht⟩, by first | (simp; omega) | omega, rfl, rfl⟩, aC.trans (aC.freezeR (kp := 1) (r := 8) (s0 := 2) (env' := [.tup [jJ m t, .list false 2 [aA (m), .list false 1 (ints us)]]]) rfl rfl (jR (A8 (.rfl _) (Fz.ref (cs := [aA (m), .list true 1 (ints us)]) 2 0 1 _ (show 0 * 2 + 1 * 2 ≤ 2 by omega) rfl)))) (aC.of (kp := 1) [none] ?_)⟩
     conv => whnf
     repeat' ((first | refine zP rfl ?_ | refine zP (kP aD) ?_ | refine zP bM ?_ | refine zP ?_ ?_ | exact trivial) <;> try (conv => whnf))
end Go.Proofs
namespace Go.Proofs
open Go Go.Vm Go.Fg Go.Fg.PS
set_option linter.unusedVariables false
theorem wei : Wei := fun _ hm n hn _ hd o a => ⟨wF n a, Ato hm o n hn hd a⟩
end Go.Proofs
namespace Go.Proofs
open Go Go.Vm Go.Fg Go.Fg.PS
set_option maxRecDepth 100000
set_option maxHeartbeats 4000000
set_option linter.unusedSimpArgs false
set_option linter.unusedVariables false
variable {m : Int}
theorem Au3 (g : Nat) (o o1 o3 : Bool) (ma : Int) (l : List Int) (mb : Int) (k : List Int)  (hp : aI Tryz.prog g [.agg [aA ma, .list o1 1 (ints l)]] (bH true)) (hq : aI Tryz.prog g [.agg [aA mb, .list o3 1 (ints k)]] (bH true)) :
   aI Tryz.prog 256 [.list o 2 [aA ma, .list o1 1 (ints l), aA mb, .list o3 1 (ints k)], (.fn (.func g) [] [])] (bH true) := by
 have h1 : aI Tryz.prog 313 [.agg [aA ma, .list o1 1 (ints l)], .cptr [(.fn (.func g) [] [])] 0] (bH (!true)) := P5 g o1 ma l  true hp
 have h3 : aI Tryz.prog 313 [.agg [aA mb, .list o3 1 (ints k)], .cptr [(.fn (.func g) [] [])] 0] (bH (!true)) := P5 g o3 mb k  true hq
 have h2 : aI Tryz.prog 334 [.list o 2 [aA ma, .list o1 1 (ints l), aA mb, .list o3 1 (ints k)], .fn (.func 313) [] [.cptr [(.fn (.func g) [] [])] 0]] (aA (-1)) := by
   have hc2 : cnt 2 [aA ma, .list o1 1 (ints l), aA mb, .list o3 1 (ints k)] = 2 := by simp [cnt]
   refine aU Tryz.tabOk aF Tryz.func334 rfl rfl ?_
   conv => whnf
   repeat' first | ((first | refine z0 ?_ | (refine zP (fun h => ?_) (fun h => ?_) <;> (try simp only [aB, aE] at h)) | refine zS ?_ | refine zV ?_ | (apply zI; refine zP aM ?_) | (apply zI; refine zP aG ?_) | refine zA ?_ | refine Alt.fst ?_ | refine Or.inl ?_) <;> conv => whnf) | fail
   refine fY Tryz.tabOk aF ?_
   conv => whnf
   repeat' first | ((first | (apply zI; refine zP (h1) ?_) | (refine zP (fun h => ?_) (fun h => ?_) <;> (try simp only [aB, aE, aQ, aV, aT, bC] at h) <;> first | (exfalso; first | omega | exact h trivial | (cases h; done)) | skip) | refine zV ?_ | (apply zI; refine zP aG ?_) | refine Or.inl ?_) <;> conv => whnf) | fail
   refine fY Tryz.tabOk aF ?_
   conv => whnf
   repeat' first | ((first | (apply zI; refine zP (h3) ?_) | (refine zP (fun h => ?_) (fun h => ?_) <;> (try simp only [aB, aE, aQ, aV, aT, bC] at h) <;> first | (exfalso; first | omega | exact h trivial | (cases h; done)) | skip) | refine zV ?_ | (apply zI; refine zP aG ?_) | refine Or.inl ?_) <;> conv => whnf) | fail
   refine fY Tryz.tabOk aF ?_
   conv => whnf
   repeat' first | ((first | refine z0 ?_ | (refine zP (fun h => ?_) (fun h => ?_) <;> (try simp only [aB, aE, aQ, aV, aT, bC] at h) <;> first | (exfalso; first | omega | exact h trivial | (cases h; done)) | skip) | refine zV ?_ | (apply zI; refine zP aM ?_) | (apply zI; refine zP aG ?_)) <;> conv => whnf) | fail
   all_goals first
         | rfl
         | (exfalso; have hx : 2 < ((cnt 2 [aA ma, .list o1 1 (ints l), aA mb, .list o3 1 (ints k)] : Nat) : Int) := (by assumption); rw [hc2] at hx; omega)
         | (exfalso; have hx : 1 + 1 < ((cnt 2 [aA ma, .list o1 1 (ints l), aA mb, .list o3 1 (ints k)] : Nat) : Int) := (by assumption); rw [hc2] at hx; omega)
         | (exfalso; have hx : 0 + 1 + 1 < ((cnt 2 [aA ma, .list o1 1 (ints l), aA mb, .list o3 1 (ints k)] : Nat) : Int) := (by assumption); rw [hc2] at hx; omega)
 refine aU Tryz.tabOk aF Tryz.func256 rfl rfl ?_
 conv => whnf
 repeat' first | ((first | refine z0 ?_ | refine Or.inr (iJ Tryz.tabOk aF _ Tryz.func312 rfl rfl ?_) | (apply zI; refine zP (h2) ?_) | (refine zP (fun h => ?_) (fun h => ?_) <;> (try simp only [aB, aE, aQ, aV, aT, bC] at h) <;> first | (exfalso; first | omega | exact h trivial | (cases h; done)) | skip) | refine zV ?_ | refine Or.inl ?_) <;> conv => whnf) | fail
 all_goals first | rfl | (exfalso; omega)
theorem Am8 (g : Nat) (o o1 o3 : Bool) (ma : Int) (l : List Int) (mb : Int) (k : List Int) (m : Int) (o2 p2 : Bool) (t : List (List Int)) (hp : aI Tryz.prog g [.agg [aA m, .list o2 1 (rows p2 t)], .agg [aA ma, .list o1 1 (ints l)]] (bH true)) (hq : aI Tryz.prog g [.agg [aA m, .list o2 1 (rows p2 t)], .agg [aA mb, .list o3 1 (ints k)]] (bH true)) :
   aI Tryz.prog 256 [.list o 2 [aA ma, .list o1 1 (ints l), aA mb, .list o3 1 (ints k)], (.fn (.func g) [.agg [aA m, .list o2 1 (rows p2 t)]] [])] (bH true) := by
 have h1 : aI Tryz.prog 313 [.agg [aA ma, .list o1 1 (ints l)], .cptr [(.fn (.func g) [.agg [aA m, .list o2 1 (rows p2 t)]] [])] 0] (bH (!true)) := H4 g o1 ma l m o2 p2 t true hp
 have h3 : aI Tryz.prog 313 [.agg [aA mb, .list o3 1 (ints k)], .cptr [(.fn (.func g) [.agg [aA m, .list o2 1 (rows p2 t)]] [])] 0] (bH (!true)) := H4 g o3 mb k m o2 p2 t true hq
 have h2 : aI Tryz.prog 334 [.list o 2 [aA ma, .list o1 1 (ints l), aA mb, .list o3 1 (ints k)], .fn (.func 313) [] [.cptr [(.fn (.func g) [.agg [aA m, .list o2 1 (rows p2 t)]] [])] 0]] (aA (-1)) := by
   have hc2 : cnt 2 [aA ma, .list o1 1 (ints l), aA mb, .list o3 1 (ints k)] = 2 := by simp [cnt]
   refine aU Tryz.tabOk aF Tryz.func334 rfl rfl ?_
   conv => whnf
   repeat' first | ((first | refine z0 ?_ | (refine zP (fun h => ?_) (fun h => ?_) <;> (try simp only [aB, aE] at h)) | refine zS ?_ | refine zV ?_ | (apply zI; refine zP aM ?_) | (apply zI; refine zP aG ?_) | refine zA ?_ | refine Alt.fst ?_ | refine Or.inl ?_) <;> conv => whnf) | fail
   refine fY Tryz.tabOk aF ?_
   conv => whnf
   repeat' first | ((first | (apply zI; refine zP (h1) ?_) | (refine zP (fun h => ?_) (fun h => ?_) <;> (try simp only [aB, aE, aQ, aV, aT, bC] at h) <;> first | (exfalso; first | omega | exact h trivial | (cases h; done)) | skip) | refine zV ?_ | (apply zI; refine zP aG ?_) | refine Or.inl ?_) <;> conv => whnf) | fail
   refine fY Tryz.tabOk aF ?_
   conv => whnf
   repeat' first | ((first | (apply zI; refine zP (h3) ?_) | (refine zP (fun h => ?_) (fun h => ?_) <;> (try simp only [aB, aE, aQ, aV, aT, bC] at h) <;> first | (exfalso; first | omega | exact h trivial | (cases h; done)) | skip) | refine zV ?_ | (apply zI; refine zP aG ?_) | refine Or.inl ?_) <;> conv => whnf) | fail
   refine fY Tryz.tabOk aF ?_
   conv => whnf
   repeat' first | ((first | refine z0 ?_ | (refine zP (fun h => ?_) (fun h => ?_) <;> (try simp only [aB, aE, aQ, aV, aT, bC] at h) <;> first | (exfalso; first | omega | exact h trivial | (cases h; done)) | skip) | refine zV ?_ | (apply zI; refine zP aM ?_) | (apply zI; refine zP aG ?_)) <;> conv => whnf) | fail
   all_goals first
         | rfl
         | (exfalso; have hx : 2 < ((cnt 2 [aA ma, .list o1 1 (ints l), aA mb, .list o3 1 (ints k)] : Nat) : Int) := (by assumption); rw [hc2] at hx; omega)
         | (exfalso; have hx : 1 + 1 < ((cnt 2 [aA ma, .list o1 1 (ints l), aA mb, .list o3 1 (ints k)] : Nat) : Int) := (by assumption); rw [hc2] at hx; omega)
         | (exfalso; have hx : 0 + 1 + 1 < ((cnt 2 [aA ma, .list o1 1 (ints l), aA mb, .list o3 1 (ints k)] : Nat) : Int) := (by assumption); rw [hc2] at hx; omega)
 refine aU Tryz.tabOk aF Tryz.func256 rfl rfl ?_
 conv => whnf
 repeat' first | ((first | refine z0 ?_ | refine Or.inr (iJ Tryz.tabOk aF _ Tryz.func312 rfl rfl ?_) | (apply zI; refine zP (h2) ?_) | (refine zP (fun h => ?_) (fun h => ?_) <;> (try simp only [aB, aE, aQ, aV, aT, bC] at h) <;> first | (exfalso; first | omega | exact h trivial | (cases h; done)) | skip) | refine zV ?_ | refine Or.inl ?_) <;> conv => whnf) | fail
 all_goals first | rfl | (exfalso; omega)
theorem nE (hm : Md m) {n : Nat} (hn : 2 ≤ n ∧ n ≤ 11) (a : PS (Zm m)) : cX m (L n a) = true := by
 simp only [cX, Bool.and_eq_true]
 refine ⟨⟨?_, ?_⟩, ?_⟩
 · simpa [bB, Md] using hm
 · simp [bB]; omega
 · refine L4 (fun j hj => ?_)
   rw [lA _ (by simpa using hj)]
   have := Zm.val_range hm.pos (a.c j)
   simp [bB]; omega
theorem T0 {m : Int} {n : Nat} (hn : 2 ≤ n ∧ n ≤ 11) {f : PS (PS (Zm m))} {a : PS (Zm m)} (ha : a.c 0 = 0) : jK m (Tb n f) m (L n a) = true := by
 simp only [jK, decide_true, Bool.true_and, Bool.and_eq_true, decide_eq_true_eq, aV, aT]
 rw [lA _ (by omega), ha]; exact Zm.val_zero
theorem Awi (hm : Md m) (o p o1 o2 : Bool) (n : Nat) (hn : 2 ≤ n ∧ n ≤ 11) (f : PS (PS (Zm m))) (hL : dN m (Tb n f) = true) (a : PS (Zm m)) (ha : a.c 0 = 0) :
   aI Tryz.prog 162 [dO m o p n f, .list o2 2 [aA m, .list o1 1 (ints (L n a))]] (aA 0) := by
 have h := Ad9 o p o1 o2 m (Tb n f) m (L n a) (by simp; omega) (tV (by omega) f) (by simp; omega)
 rw [show eS m (Tb n f) m (L n a) = 0 by unfold eS; rw [if_pos hL, if_pos (nE hm hn a), if_pos (T0 hn ha)]] at h
 exact h
theorem Ajb (hm : Md m) (o p o1 o2 o3 : Bool) (n : Nat) (hn : 2 ≤ n ∧ n ≤ 11) (f : PS (PS (Zm m))) (hL : dN m (Tb n f) = true) (a b : PS (Zm m)) (ha : a.c 0 = 0) (hb : b.c 0 = 0) :
   aI Tryz.prog 162 [dO m o p n f, .list o2 2 [aA m, .list o1 1 (ints (L n a)), aA m, .list o3 1 (ints (L n b))]] (aA 0) := by
 have q1 := wT o1 m (L n a) (by simp; omega)
 have q2 := wT o3 m (L n b) (by simp; omega)
 rw [nE hm hn a] at q1
 rw [nE hm hn b] at q2
 have hA := Au3 153 o2 o1 o3 m (L n a) m (L n b) q1 q2
 have r1 := G1 o p o1 m (Tb n f) m (L n a) (nE hm hn a) (by simp; omega)
 have r2 := G1 o p o3 m (Tb n f) m (L n b) (nE hm hn b) (by simp; omega)
 rw [T0 hn ha] at r1
 rw [T0 hn hb] at r2
 have hB := Am8 155 o2 o1 o3 m (L n a) m (L n b) m o p (Tb n f) r1 r2
 have hI := J5 o p m (Tb n f) (by simp; omega) (tV (by omega) f)
 rw [hL] at hI
 refine aU Tryz.tabOk aF Tryz.func162 rfl rfl ?_
 conv => whnf
 repeat' first | ((first | refine z0 ?_ | (apply zI; refine zP (hI) ?_) | (apply zI; refine zP (hA) ?_) | (apply zI; refine zP (hB) ?_) | (refine zP (fun h => ?_) (fun h => ?_) <;> (try simp only [aB, aE, aQ, aV, aT, bC] at h) <;> first | (exfalso; first | omega | exact h trivial | (cases h; done)) | skip) | refine Or.inl ?_) <;> conv => whnf) | fail
theorem Ag7 (hm : Md m) (o p o1 o3 : Bool) (n : Nat) (hn : 2 ≤ n ∧ n ≤ 11) (f : PS (PS (Zm m))) (hL : dN m (Tb n f) = true) (a b : PS (Zm m)) (ha : a.c 0 = 0) (hb : b.c 0 = 0) :
   aI Tryz.prog 55 [dO m o p n f, bQ m o1 n a, bQ m o3 n b] (.tup [bQ m true n (cT f a b n), aA 0]) := by
 have h0 := fun o1 o2 o3 => Ajb hm o p o1 o2 o3 n hn f hL a b ha hb
 refine aU Tryz.tabOk aF Tryz.func55 rfl rfl ?_
 conv => whnf
 repeat' first | ((first | refine z0 ?_ | (apply zI; refine zP (h0 _ _ _) ?_) | (apply zI; refine zP (uB hm _ _ _ _ n (by omega) f a b) ?_) | (apply zI; refine zP ((show sub [aA m, D.list false 1 (ints (L n a)), aA m, D.list false 1 (ints (L n b))] 2 0 2 = [aA m, D.list false 1 (ints (L n a)), aA m, D.list false 1 (ints (L n b))] from rfl)) ?_) | (refine zP (fun h => ?_) (fun h => ?_) <;> (try simp only [aB, aE, aQ, aV, aT, bC] at h) <;> first | (exfalso; first | omega | exact h trivial | (cases h; done)) | skip) | refine zV ?_ | (apply zI; refine zP aG ?_) | refine zP ((show 2 * 2 ≤ 4 by omega)) ?_ | refine Or.inl ?_) <;> conv => whnf) | fail
theorem Aju (hm : Md m) (o p o1 : Bool) (n : Nat) (hn : 2 ≤ n ∧ n ≤ 11) (f : PS (PS (Zm m))) (hL : dN m (Tb n f) = true) (a : PS (Zm m)) (ha : a.c 0 = 0) (k : Int) (hk : -1000000 ≤ k ∧ k ≤ 1000000) (r : PS (Zm m)) (hr : nB f n k a r) :
   aI Tryz.prog 64 [dO m o p n f, aA k, bQ m o1 n a] (.tup [bQ m true n r, aA 0]) := by
 have h0 := fun o1 o2 => Awi hm o p o1 o2 n hn f hL a ha
 have h1 := Aqt k
 rw [show bB k (-1000000) 1000000 = true by simp [bB, hk]] at h1
 refine aU Tryz.tabOk aF Tryz.func64 rfl rfl ?_
 conv => whnf
 repeat' first | ((first | refine z0 ?_ | (apply zI; refine zP (h0 _ _) ?_) | (apply zI; refine zP (h1) ?_) | (apply zI; refine zP (Awv hm _ _ _ n (by omega) f a k hk r hr) ?_) | (apply zI; refine zP ((show sub [aA m, D.list false 1 (ints (L n a))] 2 0 1 = [aA m, D.list false 1 (ints (L n a))] from rfl)) ?_) | (refine zP (fun h => ?_) (fun h => ?_) <;> (try simp only [aB, aE, aQ, aV, aT, bC] at h) <;> first | (exfalso; first | omega | exact h trivial | (cases h; done)) | skip) | refine zV ?_ | (apply zI; refine zP aG ?_) | refine zP ((show 1 * 2 ≤ 2 by omega)) ?_ | refine Or.inl ?_) <;> conv => whnf) | fail
end Go.Proofs
namespace Go.Proofs
open Go Go.Vm Go.Fg Go.Fg.PS
set_option maxRecDepth 100000
set_option maxHeartbeats 4000000
set_option linter.unusedSimpArgs false
set_option linter.unusedVariables false
open Classical in
noncomputable def oZ (m : Int) (t : List (List Int)) (m' : Int) (t' : List (List Int)) : Int := if twC m t m' t' = 0 then (if t.length = 2 then 2 else if H2 (cM m t) (cM m t') t.length < t.length - 1 then 5 else 0) else twC m t m' t'
end Go.Proofs
namespace Go.Proofs
open Go Go.Vm Go.Fg Go.Fg.PS
set_option maxRecDepth 100000
set_option maxHeartbeats 4000000
set_option linter.unusedSimpArgs false
set_option linter.unusedVariables false
variable {m : Int}
theorem Aqc (o : Bool) (l : List Nat) (hb : ∀ b ∈ l, b < 256) (hl : l.length ≤ 4611686018427387904) (a : Nat) (ha : a ≤ l.length) (hs : Int) :
   cN Tryz.prog 335 2 [.ptr 1 [] 0] [none, some (aN o l a hs)]
     (fun d rt => ∃ (x : Int) (a' : Nat) (h' : Int), (2 ≤ x ∧ x ≤ 10000) ∧ a' ≤ l.length ∧ d = aA x ∧ rt = [none, some (aN o l a' h')]) := by
 refine dY Tryz.tabOk aF 2 _ Tryz.func335 rfl rfl ?_
 conv => whnf
 repeat' first | (refine bD [1] (cW o l hb hl a ha hs 100) (fun d rt' hd => ?_)) | fail
 obtain ⟨x, a1, h1, hx, ha1, rfl, rfl⟩ := hd
 refine ⟨rfl, by simp, ?_⟩
 conv => whnf
 have hx2 := hx.2 (by omega)
 repeat' first | (refine bD [1] (cW o l hb hl a1 ha1 h1 9999) (fun d rt' hd => ?_)) | ((first | refine zV ?_) <;> conv => whnf) | fail
 obtain ⟨z, a3, h3, hz, ha3, rfl, rfl⟩ := hd
 refine ⟨rfl, by simp, ?_⟩
 conv => whnf
 have hz2 := hz.2 (by omega)
 repeat' first | (refine bD [1, 2] (jM o l hb hl a3 ha3 h3 [2, 3, 4, 5, 6, 7, 8, 9, 10, 12, 16, 25, 27, 30, 49, 101, 210, 2 + x, 2 + z, 10000] (by simp)) (fun d rt' hd => ?_)) | ((first | refine zV ?_) <;> conv => whnf) | fail
 obtain ⟨y, a2, h2, hy, ha2, rfl, rfl⟩ := hd
 refine ⟨rfl, by simp, ?_⟩
 conv => whnf
 repeat' first | ((first | refine z0 ?_ | (refine zP (fun h => ?_) (fun h => ?_) <;> (try simp only [aB, aE] at h)) | refine zS ?_ | refine zV ?_ | (apply zI; refine zP aM ?_) | (apply zI; refine zP aG ?_) | refine zA ?_ | refine Alt.fst ?_ | refine Or.inl ?_) <;> conv => whnf) | fail
 have hy2 : 2 ≤ y ∧ y ≤ 10000 := by
   simp only [List.mem_cons, List.not_mem_nil, or_false] at hy
   omega
 refine ⟨aA y, [none, some (aN o l a2 h2)], ⟨y, a2, h2, hy2, ha2, rfl, rfl⟩, aC.of (kp := 2) [none, some 1] ?_⟩
 conv => whnf
 repeat' ((first | refine z1 ?_ | refine zV ?_ | exact trivial) <;> try (conv => whnf))
theorem Aug (o : Bool) (l : List Nat) (hb : ∀ b ∈ l, b < 256) (hl : l.length ≤ 4611686018427387904) (a : Nat) (ha : a ≤ l.length) (hs : Int) (n : Int) (hn : 0 ≤ n ∧ n ≤ 1000) :
   cN Tryz.prog 174 2 [.ptr 1 [] 0, aA n] [none, some (aN o l a hs)]
     (fun d rt => ∃ (x : Int) (a' : Nat) (h' : Int), (-4611686018427387904 ≤ x ∧ x ≤ 1099511627776) ∧ a' ≤ l.length ∧ d = aA x ∧ rt = [none, some (aN o l a' h')]) := by
 refine dY Tryz.tabOk aF 2 _ Tryz.func174 rfl rfl ?_
 conv => whnf
 repeat' first | (refine bD [1] (cW o l hb hl a ha hs 14) (fun d rt' hd => ?_)) | fail
 obtain ⟨x, a1, h1, hx, ha1, rfl, rfl⟩ := hd
 refine ⟨rfl, by simp, ?_⟩
 conv => whnf
 have hx2 := hx.2 (by omega)
 repeat' first | (refine bD [1, 2] (jM o l hb hl a1 ha1 h1 [-1, n + 1, 1099511627776, -4611686018427387904] (by simp)) (fun d rt' hd => ?_)) | (refine bD [1] (cW o l hb hl a1 ha1 h1 (n + 1)) (fun d rt' hd => ?_)) | ((first | (refine zP (fun h => ?_) (fun h => ?_) <;> (try simp only [aB, aE] at h)) | refine zV ?_) <;> conv => whnf) | fail
 · obtain ⟨y, a2, h2, hy, ha2, rfl, rfl⟩ := hd
   refine ⟨rfl, by simp, ?_⟩
   conv => whnf
   repeat' first | ((first | refine z0 ?_ | (refine zP (fun h => ?_) (fun h => ?_) <;> (try simp only [aB, aE] at h)) | refine zS ?_ | refine zV ?_ | (apply zI; refine zP aM ?_) | (apply zI; refine zP aG ?_) | refine zA ?_ | refine Alt.fst ?_ | refine Or.inl ?_) <;> conv => whnf) | fail
   have hy2 : -4611686018427387904 ≤ y ∧ y ≤ 1099511627776 := by
     simp only [List.mem_cons, List.not_mem_nil, or_false] at hy
     omega
   refine ⟨aA y, [none, some (aN o l a2 h2)], ⟨y, a2, h2, hy2, ha2, rfl, rfl⟩, aC.of (kp := 2) [none, some 1] ?_⟩
   conv => whnf
   repeat' ((first | refine z1 ?_ | refine zV ?_ | exact trivial) <;> try (conv => whnf))
 · obtain ⟨y, a2, h2, hy, ha2, rfl, rfl⟩ := hd
   refine ⟨rfl, by simp, ?_⟩
   conv => whnf
   have hy2 := hy.2 (by omega)
   repeat' first | ((first | refine z0 ?_ | (refine zP (fun h => ?_) (fun h => ?_) <;> (try simp only [aB, aE] at h)) | refine zS ?_ | refine zV ?_ | (apply zI; refine zP aM ?_) | (apply zI; refine zP aG ?_) | refine zA ?_ | refine Alt.fst ?_ | refine Or.inl ?_) <;> conv => whnf) | fail
   refine ⟨aA y, [none, some (aN o l a2 h2)], ⟨y, a2, h2, by omega, ha2, rfl, rfl⟩, aC.of (kp := 2) [none, some 1] ?_⟩
   conv => whnf
   repeat' ((first | refine z1 ?_ | refine zV ?_ | exact trivial) <;> try (conv => whnf))
theorem Au9 (o : Bool) (l : List Nat) (hb : ∀ b ∈ l, b < 256) (hl : l.length ≤ 4611686018427387904) (a : Nat) (ha : a ≤ l.length) (hs : Int) (m : Int) (hm : -5 ≤ m ∧ m ≤ 1099511627776) (n : Int) (hn : n ≤ 100) :
   cN Tryz.prog 336 2 [.ptr 1 [] 0, aA m, aA n] [none, some (aN o l a hs)]
     (fun d rt => ∃ (us : List Int) (a' : Nat) (h' : Int), us.length = n.toNat ∧ a' ≤ l.length ∧ d = .ref 2 [] 1 0 n.toNat ∧ rt = [none, some (aN o l a' h'), some ⟨false, 1, ints us⟩]) := by
 refine dY Tryz.tabOk aF 2 _ Tryz.func336 rfl rfl ?_
 conv => whnf
 repeat' first | ((first | refine z0 ?_ | (refine zP (fun h => ?_) (fun h => ?_) <;> (try simp only [aB, aE] at h)) | refine zS ?_ | refine zV ?_ | (apply zI; refine zP aM ?_) | (apply zI; refine zP aG ?_) | refine zA ?_ | refine Alt.fst ?_ | refine Or.inl ?_) <;> conv => whnf) | fail
 refine aZ Tryz.tabOk aF (α := List Int × Nat × Int) (fun u => [(2, aA (n - u.1.length)), (7, .ref 2 [] 1 0 u.1.length), (8, .undef)]) (fun u => [(1, some (aN o l u.2.1 u.2.2)), (2, some ⟨false, 1, ints u.1⟩)]) (fun u => u.1.length ≤ n.toNat ∧ u.2.1 ≤ l.length) (fun u => n.toNat - u.1.length) (([], a, hs)) ?_ ?_ ?_
 · exact ⟨by simp, ha⟩
 · conv => whnf
   first | refine aH.autoR ?_ | refine aC.autoR ?_
   conv => whnf
   repeat' ((first | refine z1 ?_ | refine z2 ?_ | refine zV ?_ | exact trivial) <;> try (conv => whnf))
   all_goals simp
 intro u hu
 obtain ⟨us, a0, h0⟩ := u
 obtain ⟨hu2, ha0⟩ := hu
 simp only at hu2 ha0
 conv => whnf
 by_cases hlt : us.length < n.toNat
 · repeat' first | (refine bD [1] (cW o l hb hl a0 ha0 h0 m) (fun d rt' hd => ?_)) | ((first | refine Alt.snd (zP (show oC _ _ = true by decide +kernel) ?_) | (refine zP (fun h => ?_) (fun h => ?_) <;> (try simp only [aB, aE, aQ, aV, aT, bC] at h) <;> first | (exfalso; first | omega | exact h trivial | (cases h; done)) | skip) | refine zS ?_ | refine zV ?_) <;> conv => whnf) | fail
   obtain ⟨x, a1, h1, hx, ha1, rfl, rfl⟩ := hd
   refine ⟨rfl, by simp, ?_⟩
   conv => whnf
   repeat' first | (refine bD [1] (cW o l hb hl a1 ha1 h1 m) (fun d rt' hd => ?_)) | fail
   obtain ⟨y, a2, h2, hy, ha2, rfl, rfl⟩ := hd
   refine ⟨rfl, by simp, ?_⟩
   conv => whnf
   repeat' first | (refine bD [1, 3] (jM o l hb hl a2 ha2 h2 [0, (1 : Int).tmod (max m 1), x, y] (by simp)) (fun d rt' hd => ?_)) | fail
   obtain ⟨z, a3, h3, hz, ha3, rfl, rfl⟩ := hd
   refine ⟨rfl, by simp, ?_⟩
   conv => whnf
   repeat' first | ((first | refine z0 ?_ | refine zP (show (_ : List (Option Root))[_]? = _ from rfl) ?_ | (refine zP (fun h => ?_) (fun h => ?_) <;> (try simp only [aB, aE, aQ, aV, aT, bC] at h) <;> first | (exfalso; first | omega | exact h trivial | (cases h; done)) | skip) | refine zV ?_ | (apply zI; refine zP aM ?_) | (apply zI; refine zP aG ?_)) <;> conv => whnf) | fail
   refine Exists.intro (us ++ [z], a3, h3) (zP ⟨by simp only [List.length_append, List.length_singleton]; omega, ha3⟩ (zP (by simp only [List.length_append, List.length_singleton]; omega) ?_))
   first | refine aH.autoR ?_ | refine aC.autoR ?_
   conv => whnf
   repeat' ((first | refine z1 ?_ | refine z2 ?_ | refine zV ?_ | exact trivial) <;> try (conv => whnf))
   all_goals first | (simp [ints]; done) | (simp; omega)
 · repeat' first | ((first | refine z0 ?_ | (refine zP (fun h => ?_) (fun h => ?_) <;> (try simp only [aB, aE, aQ, aV, aT, bC] at h) <;> first | (exfalso; first | omega | exact h trivial | (cases h; done)) | skip) | refine zV ?_ | (apply zI; refine zP aM ?_) | (apply zI; refine zP aG ?_)) <;> conv => whnf) | fail
   have e : us.length = n.toNat := by omega
   refine ⟨.ref 2 [] 1 0 n.toNat, [none, some (aN o l a0 h0), some ⟨false, 1, ints us⟩], ⟨us, a0, h0, e, ha0, rfl, rfl⟩, aC.of (kp := 2) [none, some 1, some 2] ?_⟩
   conv => whnf
   repeat' ((first | refine z1 ?_ | refine zV ?_ | exact trivial) <;> try (conv => whnf))
theorem Am2 {l : List Int} {off n : Nat} : sub (ints l) 1 off n = ints ((l.drop off).take n) := by
 unfold sub ints
 rw [Nat.mul_one, Nat.mul_one, ← List.map_drop, ← List.map_take]
theorem Anv {r off n : Nat} {t t' : List Int} (h1 : off + n ≤ t.length) (h2 : (t.drop off).take n = t') : Fz r (ints t) (.ref r [] 1 off n) (.list false 1 (ints t')) :=
 .ref _ _ _ _ (by rw [Nat.mul_one, Nat.mul_one, aE]; exact h1) (by rw [Am2, Ano, h2])
theorem Ald {r : Nat} {cs : List D} {a b b' : D} (h : Fz r cs b b') : Fz r cs (.agg [a, b]) (.agg [a, b']) :=
 .agg _ _ rfl (fun i d d' hd hd' => by
   match i, hd, hd' with
   | 0, hd, hd' => simp at hd hd'; subst hd; subst hd'; exact .rfl _
   | 1, hd, hd' => simp at hd hd'; subst hd; subst hd'; exact h
   | i + 2, hd, hd' => simp at hd)
theorem E4 {r off n : Nat} {t t' : List Int} (h1 : off + n ≤ t.length) (h2 : (t.drop off).take n = t') {x : D} : Fz r (ints t) (.agg [x, .ref r [] 1 off n]) (.agg [x, .list false 1 (ints t')]) := Ald (Anv h1 h2)
abbrev fG (m : Int) (l : List Int) : D := .agg [aA m, .list false 1 (ints l)]
theorem Awl (o : Bool) (l : List Nat) (hb : ∀ b ∈ l, b < 256) (hl : l.length ≤ 4611686018427387904) (a : Nat) (ha : a ≤ l.length) (hs : Int) (n : Int) (hn : -5 ≤ n ∧ n ≤ 1099511627776) :
   cN Tryz.prog 189 2 [.ptr 1 [] 0, aA n] [none, some (aN o l a hs)]
     (fun d rt => ∃ (x : Int) (a' : Nat) (h' : Int), (-4611686018427387904 ≤ x ∧ x ≤ 1099511627776) ∧ a' ≤ l.length ∧ d = aA x ∧ rt = [none, some (aN o l a' h')]) := by
 refine dY Tryz.tabOk aF 2 _ Tryz.func189 rfl rfl ?_
 conv => whnf
 repeat' first | (refine bD [1] (cW o l hb hl a ha hs 24) (fun d rt' hd => ?_)) | fail
 obtain ⟨x, a1, h1, hx, ha1, rfl, rfl⟩ := hd
 refine ⟨rfl, by simp, ?_⟩
 conv => whnf
 have hx2 := hx.2 (by omega)
 repeat' first | (refine bD [1, 2] (jM o l hb hl a1 ha1 h1 [-1, n, 1099511627776, -4611686018427387904] (by simp)) (fun d rt' hd => ?_)) | (refine bD [1] (cW o l hb hl a1 ha1 h1 n) (fun d rt' hd => ?_)) | ((first | (refine zP (fun h => ?_) (fun h => ?_) <;> (try simp only [aB, aE] at h))) <;> conv => whnf) | fail
 · obtain ⟨y, a2, h2, hy, ha2, rfl, rfl⟩ := hd
   refine ⟨rfl, by simp, ?_⟩
   conv => whnf
   repeat' first | ((first | refine z0 ?_ | (refine zP (fun h => ?_) (fun h => ?_) <;> (try simp only [aB, aE] at h)) | refine zS ?_ | refine zV ?_ | (apply zI; refine zP aM ?_) | (apply zI; refine zP aG ?_) | refine zA ?_ | refine Alt.fst ?_ | refine Or.inl ?_) <;> conv => whnf) | fail
   have hy2 : -4611686018427387904 ≤ y ∧ y ≤ 1099511627776 := by
     simp only [List.mem_cons, List.not_mem_nil, or_false] at hy
     omega
   refine ⟨aA y, [none, some (aN o l a2 h2)], ⟨y, a2, h2, hy2, ha2, rfl, rfl⟩, aC.of (kp := 2) [none, some 1] ?_⟩
   conv => whnf
   repeat' ((first | refine z1 ?_ | refine zP ?_ ?_ | exact trivial) <;> try (conv => whnf))
 · obtain ⟨y, a2, h2, hy, ha2, rfl, rfl⟩ := hd
   refine ⟨rfl, by simp, ?_⟩
   conv => whnf
   have hy2 : -4611686018427387904 ≤ y ∧ y ≤ 1099511627776 := by
     rcases Int.lt_or_le n 1 with h9 | h9
     · have := hy.1 h9; omega
     · have := hy.2 h9; omega
   repeat' first | ((first | refine z0 ?_ | (refine zP (fun h => ?_) (fun h => ?_) <;> (try simp only [aB, aE] at h)) | refine zS ?_ | refine zV ?_ | (apply zI; refine zP aM ?_) | (apply zI; refine zP aG ?_) | refine zA ?_ | refine Alt.fst ?_ | refine Or.inl ?_) <;> conv => whnf) | fail
   refine ⟨aA y, [none, some (aN o l a2 h2)], ⟨y, a2, h2, hy2, ha2, rfl, rfl⟩, aC.of (kp := 2) [none, some 1] ?_⟩
   conv => whnf
   repeat' ((first | refine z1 ?_ | refine zP ?_ ?_ | exact trivial) <;> try (conv => whnf))
theorem Au4 (o : Bool) (l : List Nat) (hb : ∀ b ∈ l, b < 256) (hl : l.length ≤ 4611686018427387904) (a : Nat) (ha : a ≤ l.length) (hs : Int) :
   cN Tryz.prog 322 2 [.ptr 1 [] 0] [none, some (aN o l a hs)]
     (fun d rt => ∃ (m : Int) (n : Nat) (us : List Int) (a' : Nat) (h' : Int), (2 ≤ m ∧ m ≤ 10000) ∧ (2 ≤ n ∧ n ≤ 11) ∧ us.length = n ∧ a' ≤ l.length ∧ d = .agg [aA m, .ref 2 [] 1 0 n] ∧ rt = [none, some (aN o l a' h'), some ⟨false, 1, ints us⟩]) := by
 refine dY Tryz.tabOk aF 2 _ Tryz.func322 rfl rfl ?_
 conv => whnf
 repeat' first | (refine bD [1] (Aqc o l hb hl a ha hs) (fun d rt' hd => ?_)) | fail
 obtain ⟨m, a1, h1, hm0, ha1, rfl, rfl⟩ := hd
 refine ⟨rfl, by simp, ?_⟩
 conv => whnf
 repeat' first | (refine bD [1] (cW o l hb hl a1 ha1 h1 4) (fun d rt' hd => ?_)) | fail
 obtain ⟨x, a2, h2, hx, ha2, rfl, rfl⟩ := hd
 refine ⟨rfl, by simp, ?_⟩
 conv => whnf
 have hx2 := hx.2 (by omega)
 repeat' first | (refine bD [1] (cW o l hb hl a2 ha2 h2 6) (fun d rt' hd => ?_)) | fail
 obtain ⟨y, a3, h3, hy, ha3, rfl, rfl⟩ := hd
 refine ⟨rfl, by simp, ?_⟩
 conv => whnf
 have hy2 := hy.2 (by omega)
 repeat' first | (refine bD [1] (cW o l hb hl a3 ha3 h3 10) (fun d rt' hd => ?_)) | fail
 obtain ⟨z, a4, h4, hz, ha4, rfl, rfl⟩ := hd
 refine ⟨rfl, by simp, ?_⟩
 conv => whnf
 have hz2 := hz.2 (by omega)
 repeat' first | (refine bD [1, 3] (jM o l hb hl a4 ha4 h4 [x, y, z] (by simp)) (fun d rt' hd => ?_)) | fail
 obtain ⟨v, a5, h5, hv, ha5, rfl, rfl⟩ := hd
 refine ⟨rfl, by simp, ?_⟩
 conv => whnf
 have hv2 : 0 ≤ v ∧ v ≤ 9 := by
   simp only [List.mem_cons, List.not_mem_nil, or_false] at hv
   omega
 repeat' first | (refine bD [1] (Au9 o l hb hl a5 ha5 h5 m (by omega) (2 + v) (by omega)) (fun d rt' hd => ?_)) | ((first | refine zV ?_) <;> conv => whnf) | fail
 obtain ⟨us, a6, h6, hu, ha6, rfl, rfl⟩ := hd
 refine ⟨rfl, by simp, ?_⟩
 conv => whnf
 repeat' first | ((first | refine z0 ?_ | refine Or.inl (Or.inr (zP (vX) ?_)) | refine Or.inl ?_) <;> conv => whnf) | fail
 first
   | (refine ⟨.agg [aA m, .ref 2 [] 1 0 (2 + v).toNat], [none, some (aN o l a6 h6), some ⟨false, 1, ints us⟩], ⟨m, (2 + v).toNat, us, a6, h6, hm0, by omega, hu, ha6, rfl, rfl⟩, eC (kp := 2) [none, some 1, some 4]⟩)
   | (refine ⟨.agg [aA m, .ref 2 [] 1 0 (2 + v).toNat], [none, some (aN o l a6 h6), some ⟨false, 1, ints us⟩], ⟨m, (2 + v).toNat, us, a6, h6, hm0, by omega, hu, ha6, rfl, rfl⟩, eC (kp := 2) [none, some 1, some 3]⟩)
   | (refine ⟨.agg [aA m, .ref 2 [] 1 0 (2 + v).toNat], [none, some (aN o l a6 h6), some ⟨false, 1, ints us⟩], ⟨m, (2 + v).toNat, us, a6, h6, hm0, by omega, hu, ha6, rfl, rfl⟩, eC (kp := 2) [none, some 1, some 5]⟩)
theorem Aur (o : Bool) (l : List Nat) (hb : ∀ b ∈ l, b < 256) (hl : l.length ≤ 4611686018427387904) (a : Nat) (ha : a ≤ l.length) (hs : Int) :
   cN Tryz.prog 276 2 [.ptr 1 [] 0] [none, some (aN o l a hs)]
     (fun d rt => ∃ (m : Int) (n : Nat) (us : List Int) (a' : Nat) (h' : Int), (0 ≤ m ∧ m ≤ 10001) ∧ (1 ≤ n ∧ n ≤ 21) ∧ (n ≤ us.length ∧ us.length ≤ 21) ∧ a' ≤ l.length ∧ d = .agg [aA m, .ref 2 [] 1 0 n] ∧ rt = [none, some (aN o l a' h'), some ⟨false, 1, ints us⟩]) := by
 refine dY Tryz.tabOk aF 2 _ Tryz.func276 rfl rfl ?_
 conv => whnf
 repeat' first | (refine bD [1] (Au4 o l hb hl a ha hs) (fun d rt' hd => ?_)) | fail
 obtain ⟨m, n, us, a1, h1, hm, hn, hu, ha1, rfl, rfl⟩ := hd
 refine ⟨rfl, by simp, ?_⟩
 conv => whnf
 repeat' first | (refine bD [1] (cW o l hb hl a1 ha1 h1 30) (fun d rt' hd => ?_)) | fail
 obtain ⟨x, a2, h2, hx, ha2, rfl, rfl⟩ := hd
 refine ⟨rfl, by simp, ?_⟩
 conv => whnf
 have hx2 := hx.2 (by omega)
 repeat' first | (refine bD [1, 5] (jM o l hb hl a2 ha2 h2 [0, 1, 10001, 2] (by simp)) (fun d rt' hd => ?_)) | (refine bD [1, 5] (jM o l hb hl a2 ha2 h2 [-1, m, 1099511627776] (by simp)) (fun d rt' hd => ?_)) | ((first | refine z0 ?_ | refine Alt.snd (zP (show oC _ _ = true by decide +kernel) ?_) | refine zP (show (_ : List (Option Root))[_]? = _ from rfl) ?_ | (refine zP (fun h => ?_) (fun h => ?_) <;> (try simp only [aB, aE, aQ, aV, aT, bC] at h) <;> first | (exfalso; first | omega | exact h trivial | (cases h; done)) | skip) | refine zS ?_ | refine zV ?_ | (apply zI; refine zP aG ?_) | (refine zP (⟨by simp; omega, by decide, (by show (n + 10) * 8 ≤ 140737488355328; omega), (by show n + 10 ≤ 140737488355328; omega)⟩) ?_) | refine Or.inl ?_) <;> conv => whnf) | fail
 · obtain ⟨y, a3, h3, hy, ha3, rfl, rfl⟩ := hd
   refine ⟨rfl, by simp, ?_⟩
   conv => whnf
   have hy2 : 0 ≤ y ∧ y ≤ 10001 := by
     simp only [List.mem_cons, List.not_mem_nil, or_false] at hy
     omega
   repeat' first | ((first | refine z0 ?_ | refine zP (show (_ : List (Option Root))[_]? = _ from rfl) ?_ | (refine zP (fun h => ?_) (fun h => ?_) <;> (try simp only [aB, aE, aQ, aV, aT, bC] at h) <;> first | (exfalso; first | omega | exact h trivial | (cases h; done)) | skip) | refine zV ?_ | (apply zI; refine zP aM ?_) | (apply zI; refine zP aG ?_)) <;> conv => whnf) | fail
   first
     | (refine ⟨.agg [aA y, .ref 2 [] 1 0 n], [none, some (aN o l a3 h3), some ⟨false, 1, ints us⟩], ⟨y, n, us, a3, h3, hy2, by omega, by omega, ha3, rfl, rfl⟩, eC (kp := 2) [none, some 1, some 3]⟩)
     | (refine ⟨.agg [aA y, .ref 2 [] 1 0 n], [none, some (aN o l a3 h3), some ⟨false, 1, ints us⟩], ⟨y, n, us, a3, h3, hy2, by omega, by omega, ha3, rfl, rfl⟩, eC (kp := 2) [none, some 1, some 2]⟩)
     | (refine ⟨.agg [aA y, .ref 2 [] 1 0 n], [none, some (aN o l a3 h3), some ⟨false, 1, ints us⟩], ⟨y, n, us, a3, h3, hy2, by omega, by omega, ha3, rfl, rfl⟩, eC (kp := 2) [none, some 1, some 4]⟩)
 · first
     | (refine ⟨.agg [aA m, .ref 2 [] 1 0 1], [none, some (aN o l a2 h2), some ⟨false, 1, ints us⟩], ⟨m, 1, us, a2, h2, by omega, by omega, by omega, ha2, rfl, rfl⟩, eC (kp := 2) [none, some 1, some 3]⟩)
     | (refine ⟨.agg [aA m, .ref 2 [] 1 0 1], [none, some (aN o l a2 h2), some ⟨false, 1, ints us⟩], ⟨m, 1, us, a2, h2, by omega, by omega, by omega, ha2, rfl, rfl⟩, eC (kp := 2) [none, some 1, some 2]⟩)
     | (refine ⟨.agg [aA m, .ref 2 [] 1 0 1], [none, some (aN o l a2 h2), some ⟨false, 1, ints us⟩], ⟨m, 1, us, a2, h2, by omega, by omega, by omega, ha2, rfl, rfl⟩, eC (kp := 2) [none, some 1, some 4]⟩)
 · refine ⟨.agg [aA m, .ref 2 [] 1 0 (n + 10)], [none, some (aN o l a2 h2), some ⟨false, 1, ints (us ++ List.replicate 10 0)⟩], ⟨m, n + 10, us ++ List.replicate 10 0, a2, h2, by omega, by omega, by simp; omega, ha2, rfl, rfl⟩, aC.of (kp := 2) [none, some 1, some 5] ?_⟩
   conv => whnf
   repeat' ((first | refine z1 ?_ | refine zP ?_ ?_ | exact trivial) <;> try (conv => whnf))
   all_goals first | (simp [ints]; done) | (simp [ints]; rfl)
 · obtain ⟨y, a3, h3, hy, ha3, rfl, rfl⟩ := hd
   refine ⟨rfl, by simp, ?_⟩
   conv => whnf
   repeat' first | ((first | refine z0 ?_ | refine zP (show (_ : List (Option Root))[_]? = _ from rfl) ?_ | refine zV ?_ | (apply zI; refine zP aG ?_)) <;> conv => whnf) | fail
   first
     | (refine ⟨.agg [aA m, .ref 2 [] 1 0 n], [none, some (aN o l a3 h3), some ⟨false, 1, ints (us.set 0 y)⟩], ⟨m, n, us.set 0 y, a3, h3, by omega, by omega, by simp; omega, ha3, rfl, rfl⟩, eC (kp := 2) [none, some 1, some 3]⟩)
     | (refine ⟨.agg [aA m, .ref 2 [] 1 0 n], [none, some (aN o l a3 h3), some ⟨false, 1, ints (us.set 0 y)⟩], ⟨m, n, us.set 0 y, a3, h3, by omega, by omega, by simp; omega, ha3, rfl, rfl⟩, eC (kp := 2) [none, some 1, some 2]⟩)
     | (refine ⟨.agg [aA m, .ref 2 [] 1 0 n], [none, some (aN o l a3 h3), some ⟨false, 1, ints (us.set 0 y)⟩], ⟨m, n, us.set 0 y, a3, h3, by omega, by omega, by simp; omega, ha3, rfl, rfl⟩, eC (kp := 2) [none, some 1, some 4]⟩)
 · first
     | (refine ⟨.agg [aA m, .ref 2 [] 1 0 n], [none, some (aN o l a2 h2), some ⟨false, 1, ints us⟩], ⟨m, n, us, a2, h2, by omega, by omega, by omega, ha2, rfl, rfl⟩, eC (kp := 2) [none, some 1, some 3]⟩)
     | (refine ⟨.agg [aA m, .ref 2 [] 1 0 n], [none, some (aN o l a2 h2), some ⟨false, 1, ints us⟩], ⟨m, n, us, a2, h2, by omega, by omega, by omega, ha2, rfl, rfl⟩, eC (kp := 2) [none, some 1, some 2]⟩)
     | (refine ⟨.agg [aA m, .ref 2 [] 1 0 n], [none, some (aN o l a2 h2), some ⟨false, 1, ints us⟩], ⟨m, n, us, a2, h2, by omega, by omega, by omega, ha2, rfl, rfl⟩, eC (kp := 2) [none, some 1, some 4]⟩)
end Go.Proofs
namespace Go.Proofs
open Go Go.Vm Go.Fg Go.Fg.PS
set_option maxRecDepth 100000
set_option maxHeartbeats 4000000
set_option linter.unusedSimpArgs false
set_option linter.unusedVariables false
end Go.Proofs
namespace Go.Proofs
open Go Go.Vm Go.Fg Go.Fg.PS
set_option maxRecDepth 100000
set_option maxHeartbeats 4000000
set_option linter.unusedSimpArgs false
set_option linter.unusedVariables false
variable {m : Int}
theorem vT (o o' : Bool) (m m' : Int) (l l' : List Int) (hl : l.length ≤ 9223372036854775807) (hl' : l'.length ≤ 9223372036854775807) : aI Tryz.prog 60 [.agg [aA m, .list o 1 (ints l)], .agg [aA m', .list o' 1 (ints l')]] (bH (decide (m = m') && decide (l = l'))) := by
 refine aU Tryz.tabOk aF Tryz.func60 rfl rfl ?_
 conv => whnf
 repeat' first | ((first | refine z0 ?_ | (apply zI; refine zP (Am6 _ _ _ _ hl hl') ?_) | (refine zP (fun h => ?_) (fun h => ?_) <;> (try simp only [aB, aE] at h)) | refine Or.inl ?_) <;> conv => whnf) | fail
 all_goals (refine cD ?_; first | rfl | (simp_all []; done) | (simp_all []; omega) | (simp_all []; intros; omega))
theorem H5 : aI Tryz.prog 60 [T2, T2] (bH true) := by
 refine aU Tryz.tabOk aF Tryz.func60 rfl rfl ?_
 conv => whnf
 repeat' first | ((first | refine z0 ?_ | (apply zI; refine zP (Al8) ?_) | (refine zP (fun h => ?_) (fun h => ?_) <;> (try simp only [aB, aE, aQ, aV, aT, bC] at h) <;> first | (exfalso; first | omega | exact h trivial | (cases h; done)) | skip) | refine Or.inl ?_) <;> conv => whnf) | fail
theorem Arq {f g : PS (PS (Zm m))} {n : Nat} (h : aW n f g) (L : mY f n) : mY g n := by
 obtain ⟨h1, h2, h3⟩ := L
 refine ⟨fun i hi => by rw [← h i 0 (by omega)]; exact h1 i hi, fun i j hij => by rw [← h i j hij, ← h j i (by omega)]; exact h2 i j hij, fun a b c habc => ?_⟩
 have e1 : kA f n a b c = kA g n a b c := by
   unfold kA
   exact aR (fun i hi => by rw [h i c (by omega), aW.pw h i a b (by omega)])
 have e2 : kE f n a b c = kE g n a b c := by
   unfold kE
   exact aR (fun i hi => by rw [h a i (by omega), aW.pw h i b c (by omega)])
 rw [← e1, ← e2]
 exact h3 a b c habc
theorem Am1 (hm : Md m) {N : Nat} (hN : 2 ≤ N ∧ N ≤ 11) {f : PS (PS (Zm m))} (L : mY f N) : dN m (Tb N f) = true := by
 rw [J0 (Adw hm hN f), aV]
 exact E6 (Arq (fun i j hij => (As9 f hij).symm) L)
theorem Ao2 (hW : Wei) (o : Bool) (l : List Nat) (hb : ∀ b ∈ l, b < 256) (hl : l.length ≤ 4611686018427387904) :
   cN Tryz.prog 173 1 [.list o 1 (fL l)] [none]
     (fun d rt => ∃ (m : Int) (t : List (List Int)) (ma : Int) (la : List Int), ((1 ≤ m ∧ m ≤ 10001) ∧ kY t) ∧ la.length ≤ 12 ∧ d = .tup [jJ m t, fG ma la] ∧ rt = [none]) := by
 refine dY Tryz.tabOk aF 1 _ Tryz.func173 rfl rfl ?_
 conv => whnf
 repeat' first | (refine bD [] (Anb hW o l hb hl) (fun d rt' hd => ?_)) | fail
 obtain ⟨m, t, ma, la, hm, hla, rfl, rfl⟩ := hd
 refine ⟨rfl, by simp, ?_⟩
 conv => whnf
 have hcn : (0 : Int) ≤ 0 ∧ (0 : Int) < ((cnt 2 [aA ma, D.list false 1 (ints la)] : Nat) : Int) := ⟨by omega, by simp [cnt]⟩
 repeat' first | ((first | refine z0 ?_ | refine zS ?_ | refine zV ?_ | (apply zI; refine zP aG ?_)) <;> conv => whnf) | fail
 refine ⟨.tup [jJ m t, fG ma la], [none], ⟨m, t, ma, la, hm, hla, rfl, rfl⟩, aC.of (kp := 1) [none] ?_⟩
 conv => whnf
 repeat' ((first | refine z1 ?_ | refine z2 ?_ | refine zV ?_ | refine zP ?_ ?_ | exact trivial) <;> try (conv => whnf))
theorem At9 (hW : Wei) (o : Bool) (l : List Nat) (hb : ∀ b ∈ l, b < 256) (hl : l.length ≤ 4611686018427387904) :
   cN Tryz.prog 57 1 [.list o 1 (fL l)] [none]
     (fun d rt => ∃ (m : Int) (t : List (List Int)) (ma : Int) (la : List Int) (n : Int), ((1 ≤ m ∧ m ≤ 10001) ∧ kY t) ∧ la.length ≤ 12 ∧ (-4611686018427387904 ≤ n ∧ n ≤ 1099511627778) ∧ d = .tup [jJ m t, fG ma la, aA n] ∧ rt = [none]) := by
 refine dY Tryz.tabOk aF 1 _ Tryz.func57 rfl rfl ?_
 conv => whnf
 repeat' first | (refine bD [] (Ao2 hW o l hb hl) (fun d rt' hd => ?_)) | fail
 obtain ⟨m, t, ma, la, hm, hla, rfl, rfl⟩ := hd
 refine ⟨rfl, by simp, ?_⟩
 conv => whnf
 repeat' first | (refine bD [] (xG o l hb hl) (fun d rt' hd => ?_)) | fail
 obtain ⟨h0, rfl, rfl⟩ := hd
 refine ⟨rfl, by simp, ?_⟩
 conv => whnf
 repeat' first | (refine bD [5] (Aug o l hb hl 0 (by omega) h0 3 (by omega)) (fun d rt' hd => ?_)) | ((first | refine Alt.snd (zP (show oC _ _ = true by decide +kernel) ?_) | refine zS ?_) <;> conv => whnf) | fail
 obtain ⟨n, a2, h2, hn, ha2, rfl, rfl⟩ := hd
 refine ⟨rfl, by simp, ?_⟩
 conv => whnf
 repeat' first | ((first | refine z0 ?_ | refine zP (show (_ : List (Option Root))[_]? = _ from rfl) ?_ | refine zV ?_) <;> conv => whnf) | fail
 refine ⟨.tup [jJ m t, fG ma la, aA (2 + n)], [none], ⟨m, t, ma, la, 2 + n, hm, hla, by omega, rfl, rfl⟩, aC.of (kp := 1) [none] ?_⟩
 conv => whnf
 repeat' ((first | refine z1 ?_ | refine z2 ?_ | refine zV ?_ | refine zP ?_ ?_ | exact trivial) <;> try (conv => whnf))
end Go.Proofs
namespace Go.Proofs
open Go Go.Vm Go.Fg Go.Fg.PS
set_option maxRecDepth 100000
set_option maxHeartbeats 4000000
set_option linter.unusedSimpArgs false
set_option linter.unusedVariables false
def tbq {m : Int} (q : Nat) (f : PS (PS (Zm m))) (k : Nat) : List D := (List.range k).map fun c => .list true 1 (rows true (P6 q (pw f c)))
@[simp] theorem Ax2 {m : Int} (q : Nat) (f : PS (PS (Zm m))) (k : Nat) : (tbq q f k).length = k := by simp [tbq]
end Go.Proofs
namespace Go.Proofs
open Go Go.Vm Go.Fg Go.Fg.PS
set_option maxRecDepth 100000
set_option maxHeartbeats 4000000
set_option linter.unusedSimpArgs false
set_option linter.unusedVariables false
variable {m : Int}
theorem Avh (o : Bool) (l : List Int) (hl : l.length ≤ 1048576) : aI Tryz.prog 143 [.list o 1 (ints l)] (.list true 1 (ints l)) := by
 refine aU Tryz.tabOk aF Tryz.func143 rfl rfl ?_
 conv => whnf
 repeat' first | ((first | refine z0 ?_ | (refine zP (fun h => ?_) (fun h => ?_) <;> (try simp only [aB, aE] at h)) | refine zS ?_ | refine zV ?_ | (apply zI; refine zP aM ?_) | (apply zI; refine zP aG ?_) | refine zA ?_ | refine Alt.fst ?_ | refine Or.inl ?_) <;> conv => whnf) | fail
 rfl
abbrev vB (m : Int) (o : Bool) (rl : List Int) : D := .agg [aA m, .list o 1 (ints rl)]
def qJ (rl : List Int) (k : Nat) : Prop := rl.length = k ∧ 1 ≤ k ∧ k ≤ 4 ∧ ∀ j, j < k → -1 ≤ rl.getD j 0 ∧ rl.getD j 0 ≤ 0
theorem M2 {n : Nat} (hn : 2 ≤ n ∧ n ≤ 5) : qJ (bR n) (kN n) := by
 have key : ∀ (l : List Int), (l.all fun x => decide (-1 ≤ x ∧ x ≤ 0)) = true → ∀ j, j < l.length → -1 ≤ l.getD j 0 ∧ l.getD j 0 ≤ 0 := fun l h j hj => by
   have := List.all_eq_true.1 h l[j] (List.getElem_mem hj)
   simpa [hj] using this
 rcases (show n = 2 ∨ n = 3 ∨ n = 4 ∨ n = 5 by omega) with rfl | rfl | rfl | rfl
 · exact ⟨rfl, by decide, by decide, key [-1] (by decide)⟩
 · exact ⟨rfl, by decide, by decide, key [-1, -1] (by decide)⟩
 · exact ⟨rfl, by decide, by decide, key [-1, 0] (by decide)⟩
 · exact ⟨rfl, by decide, by decide, key [-1, -1, -1, -1] (by decide)⟩
theorem Au5 (hm : Md m) {r : Int} (hr : -1 ≤ r ∧ r ≤ 0) (a : Zm m) : -10000 ≤ a.val * r ∧ a.val * r ≤ 0 := by
 have := Zm.val_range hm.pos a
 have := hm.2
 rcases (show r = -1 ∨ r = 0 by omega) with rfl | rfl <;> omega
theorem Ab8 (a b c : Zm m) : (c.val + a.val * b.val) % m = (c + a * b).val :=
 Zm.emod_val (by rw [Zm.mk_add, Zm.mk_mul, Zm.mk_val, Zm.mk_val, Zm.mk_val])
theorem Alp (a c : Zm m) (r : Int) : (c.val + a.val * r) % m = (c + a * Zm.mk m r).val :=
 Zm.emod_val (by rw [Zm.mk_add, Zm.mk_mul, Zm.mk_val, Zm.mk_val])
theorem Ais (k : Nat) (a : PS (Zm m)) (hk : 1 ≤ k) : (0 : Int) :: L (k - 1) a = L k (PS.C 0 + PS.X * a) := by
 obtain ⟨n, rfl⟩ : ∃ n, k = n + 1 := ⟨k - 1, by omega⟩
 rw [← Apz, Zm.val_zero]; rfl
theorem Ali (a : PS (Zm m)) (j : Nat) : (PS.C 0 + PS.X * a).c j = if j = 0 then 0 else a.c (j - 1) := by
 rw [PS.C_zero, CR.zero_add]
 cases j with
 | zero => exact PS.X_mul_zero a
 | succ j => rw [PS.X_mul_succ, if_neg (by omega)]; rfl
theorem F0 (hm : Md m) {k i : Nat} (f g : PS (Zm m)) {x : Int} (h : x = (f.c i).val) : (L k (mix i f g)).set i x = L k (mix (i + 1) f g) :=
 dX _ h (Ag.of_eq (nS i f g).symm)
theorem I8 {k : Nat} (f g : PS (Zm m)) {i : Nat} (h : k ≤ i) : L k (mix i f g) = L k f := cV (fun j hj => by rw [eV, if_pos (by omega)])
theorem yV (i : Nat) (f g : PS (Zm m)) : (mix i f g).c i = g.c i := by rw [eV, if_neg (by omega)]
theorem rE (hm : Md m) (o : Bool) (rl : List Int) {k : Nat} (hk : qJ rl k) (c : Zm m) {C : Int} (hC : C = c.val) : aI Tryz.prog 267 [vB m o rl, aA C] (LD true k (PS.C c)) := by
 obtain ⟨hl, hk1, hk4, hr⟩ := hk
 subst hC
 subst hl
 refine aU Tryz.tabOk aF Tryz.func267 rfl rfl ?_
 conv => whnf
 repeat' first | ((first | refine z0 ?_ | (refine zP (fun h => ?_) (fun h => ?_) <;> (try simp only [aB, aE] at h)) | refine zS ?_ | refine zV ?_ | (apply zI; refine zP aM ?_) | (apply zI; refine zP aG ?_) | refine zA ?_ | refine Alt.fst ?_ | refine Or.inl ?_) <;> conv => whnf) | fail
 exact congrArg (fun x => D.list true 1 (ints x)) (by
   rw [← fU (m := m)]
   exact dX c rfl (fun j hj => by rw [bY]; rfl))
theorem Acn (hm : Md m) (o o1 : Bool) (rl : List Int) {k : Nat} (hk : qJ rl k) (a : PS (Zm m)) : aI Tryz.prog 270 [vB m o rl, LD o1 k a] (LD true k (cZ k (rd m rl) a)) := by
 obtain ⟨hl, hk1, hk4, hr⟩ := hk
 have hm1 := hm.1
 have hm2 := hm.2
 subst hl
 refine aU Tryz.tabOk aF Tryz.func270 rfl rfl ?_
 conv => whnf
 repeat' first | ((first | refine z0 ?_ | refine Or.inr (iJ Tryz.tabOk aF _ Tryz.func316 rfl rfl ?_) | (refine zP (fun h => ?_) (fun h => ?_) <;> (try simp only [aB, aE] at h)) | refine zS ?_ | refine zV ?_ | (apply zI; refine zP aG ?_) | refine Alt.fst ?_ | refine Or.inl ?_) <;> conv => whnf) | fail
 refine aZ Tryz.tabOk aF (α := Nat) (fun i => [(12, aA i)]) (fun i => [(2, some ⟨false, 1, ints (L rl.length (mix i (cZ rl.length (rd m rl) a) (PS.C 0 + PS.X * a)))⟩)]) (fun i => i ≤ rl.length) (fun i => rl.length - i) (0) ?_ ?_ ?_
 · omega
 · conv => whnf
   first | refine aH.autoR ?_ | refine aC.autoR ?_
   conv => whnf
   repeat' ((first | refine z1 ?_ | refine z2 ?_ | refine zV ?_ | refine zP cA ?_ | refine zP cB ?_ | refine zP ?_ ?_ | exact trivial) <;> try (conv => whnf))
   all_goals (rw [kU, ← Ais _ _ hk1]; rfl)
 intro i hi
 conv => whnf
 have x1 := fun h => Au5 hm (hr i h) (a.c (rl.length - 1))
 have x2 := Zm.val_range hm.pos ((mix i (cZ rl.length (rd m rl) a) (PS.C 0 + PS.X * a)).c i)
 repeat' first | ((first | refine z0 ?_ | (apply zI; refine zP (jZ _ _ hm.pos (by omega)) ?_) | (refine zP (fun h => ?_) (fun h => ?_) <;> (try simp only [aB, aE] at h)) | refine zS ?_ | refine zV ?_ | (apply zI; refine zP aG ?_) | refine Alt.fst ?_ | refine Or.inl ?_) <;> conv => whnf) | fail
 · have hi' : i < rl.length := aD
   refine Exists.intro (i + 1) (zP aD (zP aD ?_))
   first | refine aH.autoR ?_ | refine aC.autoR ?_
   conv => whnf
   repeat' ((first | refine z1 ?_ | refine z2 ?_ | refine zV ?_ | refine zP cA ?_ | refine zP cB ?_ | refine zP ?_ ?_ | exact trivial) <;> try (conv => whnf))
   refine cJ (F0 hm _ _ ?_)
   rw [yV, Alp, Ali, dI, if_pos hi']
   rfl
 · rw [I8 _ _ aD]
theorem V7 (hm : Md m) (o o1 o2 : Bool) (rl : List Int) {k : Nat} (hk : qJ rl k) (a b : PS (Zm m)) : aI Tryz.prog 268 [vB m o rl, LD o1 k a, LD o2 k b] (LD true k (dC k (rd m rl) a b)) := by
 have hk0 := hk
 obtain ⟨hl, hk1, hk4, hr⟩ := hk
 have hm1 := hm.1
 have hm2 := hm.2
 subst hl
 refine aU Tryz.tabOk aF Tryz.func268 rfl rfl ?_
 conv => whnf
 repeat' first | ((first | refine z0 ?_ | (refine zP (fun h => ?_) (fun h => ?_) <;> (try simp only [aB, aE] at h)) | refine zS ?_ | refine zV ?_ | (apply zI; refine zP aM ?_) | (apply zI; refine zP aG ?_) | refine zA ?_ | refine Alt.fst ?_ | refine Or.inl ?_) <;> conv => whnf) | fail
 refine aZ Tryz.tabOk aF (α := Nat) (fun i => [(20, aA i), (10, .undef), (15, .undef), (17, .undef), (8, .ref 3 [] 1 0 rl.length)]) (fun i => [(1, some ⟨false, 1, ints (L rl.length (kZ rl.length (rd m rl) a b i))⟩), (3, some ⟨false, 1, ints (L rl.length (bP rl.length (rd m rl) i b))⟩)]) (fun i => i ≤ rl.length) (fun i => rl.length - i) (0) ?_ ?_ ?_
 · omega
 · conv => whnf
   first | refine aH.autoR ?_ | refine aC.autoR ?_
   conv => whnf
   repeat' ((first | refine z1 ?_ | refine z2 ?_ | refine zV ?_ | refine zP cA ?_ | refine zP cB ?_ | refine zP ?_ ?_ | exact trivial) <;> try (conv => whnf))
   all_goals first
     | (rw [At3, fU]; done)
     | rfl
     | skip
 intro i hi
 conv => whnf
 repeat' first | ((first | refine z0 ?_ | refine Or.inr (iJ Tryz.tabOk aF _ Tryz.func316 rfl rfl ?_) | (refine zP (fun h => ?_) (fun h => ?_) <;> (try simp only [aB, aE] at h)) | refine zS ?_ | refine zV ?_ | (apply zI; refine zP aG ?_) | refine Alt.fst ?_ | refine Or.inl ?_) <;> conv => whnf) | fail
 · have hi' : i < rl.length := aD
   refine aZ Tryz.tabOk aF (α := Nat) (fun j => [(12, aA j)]) (fun j => [(1, some ⟨false, 1, ints (L rl.length (mix j (kZ rl.length (rd m rl) a b (i + 1)) (kZ rl.length (rd m rl) a b i)))⟩)]) (fun j => j ≤ rl.length) (fun j => rl.length - j) (0) ?_ ?_ ?_
   · omega
   · conv => whnf
     first | refine aH.autoR ?_ | refine aC.autoR ?_
     conv => whnf
     repeat' ((first | refine z1 ?_ | refine z2 ?_ | refine zV ?_ | refine zP cA ?_ | refine zP cB ?_ | refine zP ?_ ?_ | exact trivial) <;> try (conv => whnf))
     all_goals rw [kU]
   intro j hj
   conv => whnf
   have x1 := hm.mul (a.c i) ((bP rl.length (rd m rl) i b).c j)
   have x2 := Zm.val_range hm.pos ((mix j (kZ rl.length (rd m rl) a b (i + 1)) (kZ rl.length (rd m rl) a b i)).c j)
   repeat' first | ((first | (apply zI; refine zP (jZ _ _ hm.pos (by omega)) ?_) | (apply zI; refine zP (Acn hm _ _ rl hk0 _) ?_) | (refine zP (fun h => ?_) (fun h => ?_) <;> (try simp only [aB, aE] at h)) | refine zS ?_ | refine zV ?_ | (apply zI; refine zP aG ?_) | refine Alt.fst ?_ | refine Or.inl ?_) <;> conv => whnf) | fail
   · have hj' : j < rl.length := aD
     refine Exists.intro (j + 1) (zP aD (zP aD ?_))
     first | refine aH.autoR ?_ | refine aC.autoR ?_
     conv => whnf
     repeat' ((first | refine z1 ?_ | refine z2 ?_ | refine zV ?_ | refine zP cA ?_ | refine zP cB ?_ | refine zP ?_ ?_ | exact trivial) <;> try (conv => whnf))
     refine cJ (F0 hm _ _ ?_)
     rw [yV, Ab8, Ast, add_c, C_mul]
   · refine Exists.intro (i + 1) (zP aD (zP aD ?_))
     first | refine aH.autoR ?_ | refine aC.autoR ?_
     conv => whnf
     repeat' ((first | refine z1 ?_ | refine z2 ?_ | refine zV ?_ | refine zP cA ?_ | refine zP cB ?_ | refine zP ?_ ?_ | exact trivial) <;> try (conv => whnf))
     all_goals first
       | (exact cJ (I8 _ _ aD))
       | rfl
       | skip
 · rw [show i = rl.length by simp only [aT] at *; omega]
   rfl
abbrev gF (o p : Bool) (w N : Nat) (f : PS (PS (Zm m))) : D := .list o 1 (rows p (bN w N f))
def fO (g : Nat → List (List Int)) (n : Nat) : List D := (List.range n).map fun c => .list true 1 (rows true (g c))
@[simp] theorem J9 (g : Nat → List (List Int)) (k : Nat) : (fO g k).length = k := by simp [fO]
theorem aK {p : Prop} (h : p := by first | omega | (simp only [aB, aQ, nM, wP, aE, aT, J9, aV, Nat.mul_one, Nat.zero_add, kR] at *; first | done | omega)) : p := h
theorem Ah3 {g : Nat → List (List Int)} {k : Nat} {t : List D} (h : t = rows true (g k)) : fO g k ++ [.list true 1 t] = fO g (k + 1) := by
 subst h; simp [fO, List.range_succ]
theorem Aef {g : Nat → List (List Int)} {k i : Nat} (h : i < k) : (fO g k)[i]? = some (.list true 1 (rows true (g i))) := by simp [fO, h]
theorem Aeo {g : Nat → List (List Int)} {k a : Nat} (e : a = k) : a = (fO g k).length := by rw [J9]; exact e
theorem sZ {g : Nat → List (List Int)} {k a : Nat} (i : Nat) (e : a = i) (h : i < k) : eW (fO g k) [] a (.list true 1 (rows true (g i))) := by
 subst e; exact ⟨_, rfl, Aef h⟩
theorem rF {g : Nat → List (List Int)} {k a : Nat} (i : Nat) (e : a = i) (h : i < k) : bE (fO g k) ([] ++ [a]) = some (rows true (g i)) := by
 subst e
 show (match (fO g k)[a]? with | some (.list true _ cs') => bE cs' [] | _ => none) = _
 rw [Aef h]; rfl
theorem Ack {g : Nat → List (List Int)} {k i : Nat} (h : i < k) : 0 ≤ (i : Int) ∧ (i : Int) < (cnt 1 (fO g k) : Nat) := by rw [aB, J9]; omega
theorem Afc (g : Nat → List (List Int)) (k : Nat) : ∀ x ∈ fO g k, PlainD x := fun x hx => by
 simp only [fO, List.mem_map] at hx
 obtain ⟨c, _, rfl⟩ := hx
 exact .list _ _ (D4 _)
theorem X0 (cs : List D) : ∀ d ∈ [D.list true 1 cs], d.one = true := fun d hd => by
 simp only [List.mem_cons, List.not_mem_nil, or_false] at hd
 subst hd; rfl
theorem tB {w N i : Nat} (f : PS (PS (Zm m))) (h : i < N) : (bN w N f).getD i [] = L w (f.c i) := by simp [bN, h]
theorem qI {w N : Nat} {f g : PS (PS (Zm m))} (h : ∀ i, i < N → Ag w (f.c i) (g.c i)) : bN w N f = bN w N g :=
 List.map_congr_left (fun i hi => cV (h i (by simpa using hi)))
theorem zT {w N i : Nat} (f : PS (PS (Zm m))) (r : PS (Zm m)) (h : i < N) : (bN w N f).set i (L w r) = bN w N (f.upd i r) := by
 refine List.ext_getElem (by simp) (fun k h1 h2 => ?_)
 rw [List.getElem_set]
 simp only [bN, List.getElem_map, List.getElem_range]
 by_cases e : i = k
 · subst e; rw [if_pos rfl, bY, if_pos rfl]
 · rw [if_neg e, bY, if_neg (fun x => e x.symm)]
theorem Atc (f : PS (PS (Zm m))) (r : Nat) (a b : PS (Zm m)) : (f.upd r a).upd r b = f.upd r b := by
 refine PS.ext (fun n => ?_)
 rw [bY, bY, bY]
 split <;> rfl
theorem Amp (f : PS (PS (Zm m))) (r : Nat) : f.upd r (f.c r) = f := by
 refine PS.ext (fun n => ?_)
 rw [bY]
 split
 · rename_i h; rw [h]
 · rfl
def jU (F : PS (PS (Zm m))) (r l : Nat) (v : PS (Zm m)) : PS (PS (Zm m)) := F.upd r (mix l v (F.c r))
theorem Aag (F : PS (PS (Zm m))) (r : Nat) (v : PS (Zm m)) : jU F r 0 v = F := by unfold jU; rw [kU, Amp]
theorem Q6 (F : PS (PS (Zm m))) (r l : Nat) (v : PS (Zm m)) : (jU F r l v).c r = mix l v (F.c r) := by unfold jU; rw [bY, if_pos rfl]
theorem Aei {w N : Nat} (F : PS (PS (Zm m))) (r : Nat) {l : Nat} (v : PS (Zm m)) (h : w ≤ l) : bN w N (jU F r l v) = bN w N (F.upd r v) := qI (fun i _ j hj => by
 unfold jU
 rw [bY, bY]
 split
 · rw [eV, if_pos (by omega)]
 · rfl)
theorem Afr {w N : Nat} (F : PS (PS (Zm m))) {r l : Nat} (v : PS (Zm m)) {x : Int} (h : r < N) (hl : l < w) (hx : x = (v.c l).val) : eG (bN w N (jU F r l v)) r l x = bN w N (jU F r (l + 1) v) := by
 unfold eG
 rw [tB _ h, Q6, dX (v.c l) hx (Ag.of_eq (nS l v (F.c r)).symm), zT _ _ h]
 unfold jU
 rw [Atc]
theorem V2 {w N q' k i j : Nat} {f : PS (PS (Zm m))} (x : Int) (e : q' = i) (e2 : k = j) (h : i < N) (h2 : j < w) : jQ (rows true (bN w N f)) ([] ++ [q']) k (aA x) (rows true (eG (bN w N f) i j x)) := by
 subst e; subst e2
 exact O1 x (by simpa using h) (by rw [tB f h, aT]; exact h2)
theorem qM {w N q' i : Nat} {o : Bool} {f : PS (PS (Zm m))} (e : q' = i) (h : i < N) : eW (rows o (bN w N f)) [] q' (.list o 1 (ints (L w (f.c i)))) := by
 subst e
 exact ⟨_, rfl, by rw [lT (by simpa using h), tB f h]⟩
theorem xS {w N q' i : Nat} {o : Bool} {f : PS (PS (Zm m))} (e : q' = i) (h : i < N) : (rows o (bN w N f))[q']? = some (.list o 1 (ints (L w (f.c i)))) := by
 subst e
 rw [lT (by simpa using h), tB f h]
theorem G9 {w N q' i : Nat} {f : PS (PS (Zm m))} (e : q' = i) (h : i < N) : bE (rows true (bN w N f)) ([] ++ [q']) = some (ints (L w (f.c i))) := by
 subst e
 rw [List.nil_append, sE (by simpa using h), tB f h]
theorem C3 {w N q' k i j : Nat} {f : PS (PS (Zm m))} (e : q' = i) (e2 : k = j) (h : i < N) (h2 : j < w) : eW (rows true (bN w N f)) ([] ++ [q']) k (aA ((f.c i).c j).val) := by
 subst e2
 exact ⟨_, G9 e h, by simp [ints, L, h2]⟩
theorem Awx {n k l : Nat} {a : PS (Zm m)} (e : k = l) (h : l < n) : (ints (L n a))[k]? = some (aA (a.c l).val) := by
 subst e; simp [ints, L, h]
theorem Ai2 {w N i : Nat} {o : Bool} {f : PS (PS (Zm m))} (h : i < N) : 0 ≤ (i : Int) ∧ (i : Int) < (cnt 1 (rows o (bN w N f)) : Nat) := by rw [aB, aQ, nM]; omega
theorem Axi (cs : List D) : ∀ d ∈ [D.list true 1 cs], d.one = true := X0 cs
theorem J8 {w N a k : Nat} {o : Bool} {f : PS (PS (Zm m))} (e : a = k) (h : k ≤ N) : sub (rows o (bN w N f)) 1 0 a = rows o (bN w k f) := by
 subst e
 simp only [sub, Nat.zero_mul, List.drop_zero, Nat.mul_one, rows, bN, ← List.map_take]
 rw [List.take_range, Nat.min_eq_left h]
theorem Aa3 (hm : Md m) (o o1 o2 p1 p2 : Bool) (rl : List Int) {k : Nat} (hk : qJ rl k) (N : Nat) (hN : 1 ≤ N ∧ N ≤ 100) (f g : PS (PS (Zm m))) : aI Tryz.prog 318 [vB m o rl, gF o1 p1 k N f, gF o2 p2 k N g] (gF true true k N (fJ k (rd m rl) N f g)) := by
 have hk0 := hk
 obtain ⟨hl, hk1, hk4, hr⟩ := hk
 have hm1 := hm.1
 have hm2 := hm.2
 refine aU Tryz.tabOk aF Tryz.func318 rfl rfl ?_
 conv => whnf
 repeat' first | ((first | refine z0 ?_ | (refine zP (fun h => ?_) (fun h => ?_) <;> (try simp only [aB, aE] at h)) | refine zS ?_ | refine zV ?_ | (apply zI; refine zP aM ?_) | (apply zI; refine zP aG ?_) | refine zA ?_ | refine Alt.fst ?_ | refine Or.inl ?_) <;> conv => whnf) | fail
 refine aZ Tryz.tabOk aF (α := Nat) (fun i => [(15, aA i), (7, .ref 1 [] 1 0 i), (12, .undef)]) (fun i => [(1, some ⟨false, 1, rows true (bN k i (0 : PS (PS (Zm m))))⟩)]) (fun i => i ≤ N) (fun i => N - i) (0) ?_ ?_ ?_
 · omega
 · conv => whnf
   first | refine aH.autoR ?_ | refine aC.autoR ?_
   conv => whnf
   repeat' ((first | refine z1 ?_ | refine zP ?_ ?_ | exact trivial) <;> try (conv => whnf))
 intro i hi
 conv => whnf
 repeat' first | ((first | (apply zI; refine zP (rE hm _ rl hk0 0 (by rw [Zm.val_zero])) ?_) | (refine zP (fun h => ?_) (fun h => ?_) <;> (try simp only [aB, aE] at h)) | refine zV ?_ | (apply zI; refine zP aG ?_) | refine zP (aK) ?_ | refine Or.inl ?_) <;> conv => whnf) | fail
 · refine Exists.intro (i + 1) (zP aK (zP aK ?_))
   first | refine aH.autoR ?_ | refine aC.autoR ?_
   conv => whnf
   repeat' ((first | refine z1 ?_ | refine zP ?_ ?_ | exact trivial) <;> try (conv => whnf))
   exact cC (qW (by rw [PS.C_zero]; rfl))
 · have hiN : i = N := aK
   rw [hiN]
   refine aZ Tryz.tabOk aF (α := Nat) (fun i => [(25, aA i), (8, .undef), (9, .undef)]) (fun i => [(1, some ⟨false, 1, rows true (bN k N (gH k (rd m rl) f g i 0))⟩)]) (fun i => i ≤ N) (fun i => N - i) (0) ?_ ?_ ?_
   · omega
   · conv => whnf
     first | refine aH.autoR ?_ | refine aC.autoR ?_
     conv => whnf
     repeat' ((first | refine z1 ?_ | refine zP ?_ ?_ | exact trivial) <;> try (conv => whnf))
     all_goals rw [Ae6]
   intro i hi
   conv => whnf
   repeat' first | ((first | refine z0 ?_ | (apply zI; refine zP (xS (i := i) aY aK) ?_) | (refine zP (fun h => ?_) (fun h => ?_) <;> (try simp only [aB, aE] at h)) | refine zV ?_ | (apply zI; refine zP aG ?_) | refine zP (eJ aK aK) ?_ | refine zP (aK) ?_) <;> conv => whnf) | fail
   · have hi' : i < N := aK
     rw [show sub (rows p2 (bN k N g)) 1 0 (((cnt 1 (rows p2 (bN k N g)) : Nat) : Int) - (i : Int)).toNat = rows p2 (bN k (N - i) g) from J8 (by rw [aB, aQ, nM]; omega) (by omega)]
     refine aZ Tryz.tabOk aF (α := Nat) (fun j => [(37, aA j), (10, .undef), (11, .undef)]) (fun j => [(1, some ⟨false, 1, rows true (bN k N (gH k (rd m rl) f g i j))⟩)]) (fun j => j ≤ N - i) (fun j => N - j) (0) ?_ ?_ ?_
     · omega
     · conv => whnf
       first | refine aH.autoR ?_ | refine aC.autoR ?_
       conv => whnf
       repeat' ((first | refine z1 ?_ | refine zP ?_ ?_ | exact trivial) <;> try (conv => whnf))
     intro j hj
     conv => whnf
     repeat' first | ((first | (apply zI; refine zP (xS (i := j) aY aK) ?_) | (apply zI; refine zP (qM (i := i + j) aY aK) ?_) | (apply zI; refine zP (V7 hm _ _ _ rl hk0 (f.c i) (g.c j)) ?_) | refine Or.inr (iJ Tryz.tabOk aF _ Tryz.func316 rfl rfl ?_) | (refine zP (fun h => ?_) (fun h => ?_) <;> (try simp only [aB, aE] at h)) | refine zS ?_ | refine zV ?_ | refine zP (aK) ?_ | refine Alt.fst ?_ | refine Or.inl ?_) <;> conv => whnf) | fail
     · have hj' : j < N - i := aK
       refine aZ Tryz.tabOk aF (α := Nat) (fun l => [(12, aA l)]) (fun l => [(1, some ⟨false, 1, rows true (bN k N (jU (gH k (rd m rl) f g i j) (i + j) l ((gH k (rd m rl) f g i j).c (i + j) + dC k (rd m rl) (f.c i) (g.c j))))⟩)]) (fun l => l ≤ k) (fun l => k - l) (0) ?_ ?_ ?_
       · omega
       · conv => whnf
         first | refine aH.autoR ?_ | refine aC.autoR ?_
         conv => whnf
         repeat' ((first | refine z1 ?_ | refine zP ?_ ?_ | exact trivial) <;> try (conv => whnf))
         all_goals rw [Aag]
       intro l hll
       conv => whnf
       have x1 := Zm.val_range hm.pos (((jU (gH k (rd m rl) f g i j) (i + j) l ((gH k (rd m rl) f g i j).c (i + j) + dC k (rd m rl) (f.c i) (g.c j))).c (i + j)).c l)
       have x2 := Zm.val_range hm.pos ((dC k (rd m rl) (f.c i) (g.c j)).c l)
       repeat' first | ((first | (apply zI; refine zP (C3 (i := i + j) (j := l) aY aY aK aK) ?_) | (apply zI; refine zP (V2 (i := i + j) (j := l) _ aY aY aK aK) ?_) | (apply zI; refine zP (jZ _ _ hm.pos (by omega)) ?_) | (refine zP (fun h => ?_) (fun h => ?_) <;> (try simp only [aB, aE] at h)) | refine zS ?_ | refine zV ?_ | (apply zI; refine zP aG ?_) | refine Alt.fst ?_ | refine Or.inl ?_) <;> conv => whnf) | fail
       · have hl' : l < k := aK
         refine Exists.intro (l + 1) (zP aK (zP aK ?_))
         first | refine aH.autoR ?_ | refine aC.autoR ?_
         conv => whnf
         repeat' ((first | refine z1 ?_ | refine zP ?_ ?_ | exact trivial) <;> try (conv => whnf))
         refine cC (Afr _ _ aK hl' ?_)
         rw [Q6, yV, add_c, ← Av6, Int.one_mul]
       · refine Exists.intro (j + 1) (zP aK (zP aK ?_))
         first | refine aH.autoR ?_ | refine aC.autoR ?_
         conv => whnf
         repeat' ((first | refine z1 ?_ | refine zP ?_ ?_ | exact trivial) <;> try (conv => whnf))
         refine cC ?_
         rw [Aei _ _ _ aK, ← Agf]
     · have hj' : j = N - i := aK
       refine Exists.intro (i + 1) (zP aK (zP aK ?_))
       first | refine aH.autoR ?_ | refine aC.autoR ?_
       conv => whnf
       repeat' ((first | refine z1 ?_ | refine zP ?_ ?_ | exact trivial) <;> try (conv => whnf))
       refine cC (qI (fun n hn => Ag.of_eq (Abo _ _ _ _ (by omega) n hn)))
   · rw [show i = N from aK]
     rfl
theorem Ajq (hm : Md m) (i : Nat) : (1 : Int) - min (i : Int) 1 = (if i = 0 then (1 : Zm m) else 0).val := by
 have := hm.1
 by_cases h : i = 0
 · subst h; rw [if_pos rfl, Zm.val_one (by omega)]; rfl
 · rw [if_neg h, Zm.val_zero]; omega
def xZ (k : Nat) (ρ : PS (Zm m)) (N : Nat) (a : PS (PS (Zm m))) (i : Nat) : List (List Int) := bN k N (dV k ρ N a i)
theorem Aro (hm : Md m) (o o1 o2 p1 p2 : Bool) (rl : List Int) {k : Nat} (hk : qJ rl k) (N : Nat) (hN : 1 ≤ N ∧ N ≤ 100) (f : PS (PS (Zm m))) (a : PS (PS (Zm m))) :
   aI Tryz.prog 317 [gF o1 p1 k N a, .cptr [aA m, .list o 1 (ints rl)] 0, .cptr [aA m, .list o2 1 (rows p2 (Tb N f))] 0] (.list true 1 (fO (xZ k (rd m rl) N a) N)) := by
 have hk0 := hk
 obtain ⟨hl, hk1, hk4, hr⟩ := hk
 have hm1 := hm.1
 have hm2 := hm.2
 refine aU Tryz.tabOk aF Tryz.func317 rfl rfl ?_
 conv => whnf
 repeat' first | ((first | refine z0 ?_ | (refine zP (fun h => ?_) (fun h => ?_) <;> (try simp only [aB, aE] at h)) | refine zS ?_ | refine zV ?_ | (apply zI; refine zP aM ?_) | (apply zI; refine zP aG ?_) | refine zA ?_ | refine Alt.fst ?_ | refine Or.inl ?_) <;> conv => whnf) | fail
 refine aZ Tryz.tabOk aF (α := Nat) (fun i => [(11, aA i), (6, .undef), (5, .ref 0 [] 1 0 i), (8, .undef)]) (fun i => [(0, some ⟨false, 1, rows true (bN k i (1 : PS (PS (Zm m))))⟩)]) (fun i => i ≤ N) (fun i => N - i) (0) ?_ ?_ ?_
 · omega
 · conv => whnf
   first | refine aH.autoR ?_ | refine aC.autoR ?_
   conv => whnf
   repeat' ((first | refine z1 ?_ | refine zP ?_ ?_ | exact trivial) <;> try (conv => whnf))
 intro i hi
 conv => whnf
 repeat' first | ((first | (apply zI; refine zP (rE hm _ rl hk0 (if i = 0 then 1 else 0) (Ajq hm i)) ?_) | (apply zI; refine zP (nW _ _ N (by omega) f) ?_) | (refine zP (fun h => ?_) (fun h => ?_) <;> (try simp only [aB, aE] at h)) | refine zV ?_ | (apply zI; refine zP aG ?_) | refine zP (aK) ?_ | refine Or.inl ?_) <;> conv => whnf) | fail
 · have hi' : i < N := aK
   refine Exists.intro (i + 1) (zP aK (zP aK ?_))
   first | refine aH.autoR ?_ | refine aC.autoR ?_
   conv => whnf
   repeat' ((first | refine z1 ?_ | refine zP ?_ ?_ | exact trivial) <;> try (conv => whnf))
   exact cC (qW (by
     rw [PS.one_c]
     split
     · rfl
     · rw [PS.C_zero]))
 · have hiN : i = N := aK
   subst hiN
   refine aZ Tryz.tabOk aF (α := Nat) (fun j => [(27, aA j), (7, .ref 1 [] 1 0 (j + 1)), (5, .undef), (23, .undef), (24, .undef)]) (fun j => [(1, some ⟨false, 1, fO (xZ k (rd m rl) i a) (j + 1)⟩)]) (fun j => j + 1 ≤ i) (fun j => i - j) (0) ?_ ?_ ?_
   · omega
   · conv => whnf
     first | refine aH.autoR ?_ | refine aC.autoR ?_
     conv => whnf
     repeat' ((first | refine z1 ?_ | refine zP ?_ ?_ | exact trivial) <;> try (conv => whnf))
   intro j hj
   conv => whnf
   repeat' first | ((first | refine z0 ?_ | (apply zI; refine zP (sZ j aY aK) ?_) | (apply zI; refine zP (rF j aY aK) ?_) | (apply zI; refine zP (Aa3 hm _ _ _ _ _ rl hk0 i hN (dV k (rd m rl) i a j) a) ?_) | (refine zP (fun h => ?_) (fun h => ?_) <;> (try simp only [aB, aE] at h)) | refine zS ?_ | refine zV ?_ | (apply zI; refine zP aM ?_) | (apply zI; refine zP aG ?_) | refine zP (Aeo aK) ?_ | refine zP (X0 _) ?_ | refine zP (Afc _ _) ?_ | refine Alt.fst ?_ | refine Or.inl ?_) <;> conv => whnf) | fail
   · refine Exists.intro (j + 1) (zP aK (zP aK ?_))
     first | refine aH.autoR ?_ | refine aC.autoR ?_
     conv => whnf
     repeat' ((first | refine z1 ?_ | refine zP ?_ ?_ | exact trivial) <;> try (conv => whnf))
     exact Ah3 rfl
   · rw [show j + 1 = i from aK]
end Go.Proofs
