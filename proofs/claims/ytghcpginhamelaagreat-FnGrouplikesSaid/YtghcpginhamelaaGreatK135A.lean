/- Parts of the proof. -/
import Derived.Test.YtghcpginhamelaaGreatK127
import Derived.Test.YtghcpginhamelaaGreatK16
import Derived.Test.YtghcpginhamelaaGreatK33
import Derived.Test.YtghcpginhamelaaGreatVm32
namespace Go.Proofs
open Go Go.Vm Go.Fg Go.Fg.PS
set_option maxRecDepth 100000
set_option maxHeartbeats 4000000
set_option linter.unusedSimpArgs false
set_option linter.unusedVariables false
variable {m : Int}
theorem Ajw (hm : Md m) (o p o1 : Bool) (n : Nat) (hn : 2 ≤ n ∧ n ≤ 100) (f : PS (PS (Zm m))) (a : PS (Zm m)) : aL Tryz.prog 247 [aA m, cH o p n f, LD o1 n a] (cH true true n (bI f a a n n)) := by
 refine aX Tryz.tabOk aE Tryz.func247 rfl rfl ?_
 conv => whnf
 repeat' first | ((first | refine z0 ?_ | (apply zI; refine zP (Ahr hm _ _ _ _ n hn f a a) ?_) | refine zV ?_ | refine Or.inl ?_) <;> conv => whnf) | fail
theorem yP (hm : Md m) (o p o1 : Bool) (n : Nat) (hn : 2 ≤ n ∧ n ≤ 11) (f : PS (PS (Zm m))) (a : PS (Zm m)) : aL Tryz.prog 151 [aA m, cH o p n f, LD o1 n a] (cH true true n (bC a (bI f (rev (aY m (a.c 1).val) a) (rev (aY m (a.c 1).val) a) n n) 0 n)) := by
 have hm1 := hm.1
 have hm2 := hm.2
 refine aX Tryz.tabOk aE Tryz.func151 rfl rfl ?_
 conv => whnf
 repeat' first | ((first | refine z0 ?_ | (apply zI; refine zP (Ao3 hm _ n n (by simp [aB]) (by omega) (by omega) (by omega) a _ (D2 hm _)) ?_) | (apply zI; refine zP (Ajw hm _ _ _ n (by omega) f _) ?_) | (apply zI; refine zP (zE hm _ _ _ n (by omega) n (by omega) a _) ?_) | refine zV ?_ | (apply zI; refine zP aK ?_) | (apply zI; refine zP aH ?_) | refine Or.inl ?_) <;> conv => whnf) | fail
theorem vW {x : Int} (h : 0 ≤ x ∧ x < m) : ∃ z : Zm m, x = z.val := ⟨Zm.mk m x, (Int.emod_eq_of_lt h.1 h.2).symm⟩
theorem Akr (hm : Md m) (o : Bool) (l : List Nat) (hb : ∀ b ∈ l, b < 256) (hl : l.length ≤ 4611686018427387904) (a : Nat) (ha : a ≤ l.length) (hs : Int) (n : Nat) (hn : 2 ≤ n ∧ n ≤ 11) {d : Int} (hd : d + 1 = n) (hW : ∀ (o : Bool) (a : PS (Zm m)), ∃ F : PS (PS (Zm m)), aL Tryz.prog 117 [aA m, aA d, LD o 5 a] (cH true true n F)) :
   cM Tryz.prog 315 2 [.ptr 1 [] 0, aA m, aA d] [none, some (aU o l a hs)]
     (fun d rt => ∃ (f : PS (PS (Zm m))) (a' : Nat) (h' : Int), a' ≤ l.length ∧ d = .ref 2 [] 1 0 n ∧ rt = [none, some (aU o l a' h'), some ⟨false, 1, rows true (Tb n f)⟩]) := by
 have hm1 := hm.1
 have hm2 := hm.2
 refine eR Tryz.tabOk aE 2 _ Tryz.func315 rfl rfl ?_
 conv => whnf
 repeat' first | (refine bM [1] (dV o l hb hl a ha hs 6) (fun d rt' hd => ?_)) | fail
 obtain ⟨x, a1, h1, hx, ha1, rfl, rfl⟩ := hd
 refine ⟨rfl, by simp, ?_⟩
 conv => whnf
 have hx2 := hx.2 (by omega)
 have k0 := O4 hm n hn hd 0
 rw [Zm.val_zero] at k0
 repeat' first | (refine bM [1] (dV o l hb hl a1 ha1 h1 m) (fun d rt' hd => ?_)) | (refine bM [1] (All hm o l hb hl a1 ha1 h1) (fun d rt' hd => ?_)) | ((first | refine z0 ?_ | (apply zI; refine zP (k0) ?_) | (refine zP (fun h => ?_) (fun h => ?_) <;> (try simp only [aB, aD] at h) <;> first | (exfalso; omega) | skip) | refine zV ?_ | refine Or.inl ?_) <;> conv => whnf) | fail
 · first
     | (refine ⟨.ref 2 [] 1 0 n, [none, some (aU o l a1 h1), some ⟨false, 1, rows true (Tb n (cU n 0))⟩], ⟨cU n 0, a1, h1, ha1, rfl, rfl⟩, aC.of (kp := 2) [none, some 1, some 2] ?_⟩
        (conv => whnf)
        repeat' ((first | refine zP rfl ?_ | refine zP bP ?_ | exact trivial) <;> try (conv => whnf))
        all_goals first | omega | (simp [aB]; done)
        done)
     | (refine ⟨.ref 2 [] 1 0 n, [none, some (aU o l a1 h1), some ⟨false, 1, rows true (Tb n (cU n 0))⟩], ⟨cU n 0, a1, h1, ha1, rfl, rfl⟩, aC.of (kp := 2) [none, some 1, some 3] ?_⟩
        (conv => whnf)
        repeat' ((first | refine zP rfl ?_ | refine zP bP ?_ | exact trivial) <;> try (conv => whnf))
        all_goals first | omega | (simp [aB]; done)
        done)
     | (refine ⟨.ref 2 [] 1 0 n, [none, some (aU o l a1 h1), some ⟨false, 1, rows true (Tb n (cU n 0))⟩], ⟨cU n 0, a1, h1, ha1, rfl, rfl⟩, aC.of (kp := 2) [none, some 1, some 4] ?_⟩
        (conv => whnf)
        repeat' ((first | refine zP rfl ?_ | refine zP bP ?_ | exact trivial) <;> try (conv => whnf))
        all_goals first | omega | (simp [aB]; done)
        done)
     | (refine ⟨.ref 2 [] 1 0 n, [none, some (aU o l a1 h1), some ⟨false, 1, rows true (Tb n (cU n 0))⟩], ⟨cU n 0, a1, h1, ha1, rfl, rfl⟩, aC.of (kp := 2) [none, some 1, some 5] ?_⟩
        (conv => whnf)
        repeat' ((first | refine zP rfl ?_ | refine zP bP ?_ | exact trivial) <;> try (conv => whnf))
        all_goals first | omega | (simp [aB]; done)
        done)
     | (refine ⟨.ref 2 [] 1 0 n, [none, some (aU o l a1 h1), some ⟨false, 1, rows true (Tb n (cU n 0))⟩], ⟨cU n 0, a1, h1, ha1, rfl, rfl⟩, aC.of (kp := 2) [none, some 1, some 6] ?_⟩
        (conv => whnf)
        repeat' ((first | refine zP rfl ?_ | refine zP bP ?_ | exact trivial) <;> try (conv => whnf))
        all_goals first | omega | (simp [aB]; done)
        done)
 · obtain ⟨yz, a2, h2, hy, ha2, rfl, rfl⟩ := hd
   refine ⟨rfl, by simp, ?_⟩
   conv => whnf
   obtain ⟨z, rfl⟩ := vW (hy.2 (by omega))
   repeat' first | ((first | refine z0 ?_ | (apply zI; refine zP (O4 hm n hn hd z) ?_) | refine Or.inl ?_) <;> conv => whnf) | fail
   first
     | (refine ⟨.ref 2 [] 1 0 n, [none, some (aU o l a2 h2), some ⟨false, 1, rows true (Tb n (cU n z))⟩], ⟨cU n z, a2, h2, ha2, rfl, rfl⟩, aC.of (kp := 2) [none, some 1, some 2] ?_⟩
        (conv => whnf)
        repeat' ((first | refine zP rfl ?_ | refine zP bP ?_ | exact trivial) <;> try (conv => whnf))
        all_goals first | omega | (simp [aB]; done)
        done)
     | (refine ⟨.ref 2 [] 1 0 n, [none, some (aU o l a2 h2), some ⟨false, 1, rows true (Tb n (cU n z))⟩], ⟨cU n z, a2, h2, ha2, rfl, rfl⟩, aC.of (kp := 2) [none, some 1, some 3] ?_⟩
        (conv => whnf)
        repeat' ((first | refine zP rfl ?_ | refine zP bP ?_ | exact trivial) <;> try (conv => whnf))
        all_goals first | omega | (simp [aB]; done)
        done)
     | (refine ⟨.ref 2 [] 1 0 n, [none, some (aU o l a2 h2), some ⟨false, 1, rows true (Tb n (cU n z))⟩], ⟨cU n z, a2, h2, ha2, rfl, rfl⟩, aC.of (kp := 2) [none, some 1, some 4] ?_⟩
        (conv => whnf)
        repeat' ((first | refine zP rfl ?_ | refine zP bP ?_ | exact trivial) <;> try (conv => whnf))
        all_goals first | omega | (simp [aB]; done)
        done)
     | (refine ⟨.ref 2 [] 1 0 n, [none, some (aU o l a2 h2), some ⟨false, 1, rows true (Tb n (cU n z))⟩], ⟨cU n z, a2, h2, ha2, rfl, rfl⟩, aC.of (kp := 2) [none, some 1, some 5] ?_⟩
        (conv => whnf)
        repeat' ((first | refine zP rfl ?_ | refine zP bP ?_ | exact trivial) <;> try (conv => whnf))
        all_goals first | omega | (simp [aB]; done)
        done)
     | (refine ⟨.ref 2 [] 1 0 n, [none, some (aU o l a2 h2), some ⟨false, 1, rows true (Tb n (cU n z))⟩], ⟨cU n z, a2, h2, ha2, rfl, rfl⟩, aC.of (kp := 2) [none, some 1, some 6] ?_⟩
        (conv => whnf)
        repeat' ((first | refine zP rfl ?_ | refine zP bP ?_ | exact trivial) <;> try (conv => whnf))
        all_goals first | omega | (simp [aB]; done)
        done)
 · obtain ⟨yz, a2, h2, hy, ha2, rfl, rfl⟩ := hd
   refine ⟨rfl, by simp, ?_⟩
   conv => whnf
   obtain ⟨z, rfl⟩ := vW (hy.2 (by omega))
   repeat' first | ((first | refine z0 ?_ | (apply zI; refine zP (O4 hm n hn hd z) ?_) | refine Or.inl ?_) <;> conv => whnf) | fail
   first
     | (refine ⟨.ref 2 [] 1 0 n, [none, some (aU o l a2 h2), some ⟨false, 1, rows true (Tb n (cU n z))⟩], ⟨cU n z, a2, h2, ha2, rfl, rfl⟩, aC.of (kp := 2) [none, some 1, some 2] ?_⟩
        (conv => whnf)
        repeat' ((first | refine zP rfl ?_ | refine zP bP ?_ | exact trivial) <;> try (conv => whnf))
        all_goals first | omega | (simp [aB]; done)
        done)
     | (refine ⟨.ref 2 [] 1 0 n, [none, some (aU o l a2 h2), some ⟨false, 1, rows true (Tb n (cU n z))⟩], ⟨cU n z, a2, h2, ha2, rfl, rfl⟩, aC.of (kp := 2) [none, some 1, some 3] ?_⟩
        (conv => whnf)
        repeat' ((first | refine zP rfl ?_ | refine zP bP ?_ | exact trivial) <;> try (conv => whnf))
        all_goals first | omega | (simp [aB]; done)
        done)
     | (refine ⟨.ref 2 [] 1 0 n, [none, some (aU o l a2 h2), some ⟨false, 1, rows true (Tb n (cU n z))⟩], ⟨cU n z, a2, h2, ha2, rfl, rfl⟩, aC.of (kp := 2) [none, some 1, some 4] ?_⟩
        (conv => whnf)
        repeat' ((first | refine zP rfl ?_ | refine zP bP ?_ | exact trivial) <;> try (conv => whnf))
        all_goals first | omega | (simp [aB]; done)
        done)
     | (refine ⟨.ref 2 [] 1 0 n, [none, some (aU o l a2 h2), some ⟨false, 1, rows true (Tb n (cU n z))⟩], ⟨cU n z, a2, h2, ha2, rfl, rfl⟩, aC.of (kp := 2) [none, some 1, some 5] ?_⟩
        (conv => whnf)
        repeat' ((first | refine zP rfl ?_ | refine zP bP ?_ | exact trivial) <;> try (conv => whnf))
        all_goals first | omega | (simp [aB]; done)
        done)
     | (refine ⟨.ref 2 [] 1 0 n, [none, some (aU o l a2 h2), some ⟨false, 1, rows true (Tb n (cU n z))⟩], ⟨cU n z, a2, h2, ha2, rfl, rfl⟩, aC.of (kp := 2) [none, some 1, some 6] ?_⟩
        (conv => whnf)
        repeat' ((first | refine zP rfl ?_ | refine zP bP ?_ | exact trivial) <;> try (conv => whnf))
        all_goals first | omega | (simp [aB]; done)
        done)
 · obtain ⟨yz, a2, h2, hy, ha2, rfl, rfl⟩ := hd
   refine ⟨rfl, by simp, ?_⟩
   conv => whnf
   obtain ⟨z, rfl⟩ := vW (hy.2 (by omega))
   repeat' first | ((first | refine z0 ?_ | (apply zI; refine zP (Ah2 hm n hn hd z) ?_) | refine Or.inl ?_) <;> conv => whnf) | fail
   first
     | (refine ⟨.ref 2 [] 1 0 n, [none, some (aU o l a2 h2), some ⟨false, 1, rows true (Tb n (gX z (n / 2)))⟩], ⟨gX z (n / 2), a2, h2, ha2, rfl, rfl⟩, aC.of (kp := 2) [none, some 1, some 2] ?_⟩
        (conv => whnf)
        repeat' ((first | refine zP rfl ?_ | refine zP bP ?_ | exact trivial) <;> try (conv => whnf))
        all_goals first | omega | (simp [aB]; done)
        done)
     | (refine ⟨.ref 2 [] 1 0 n, [none, some (aU o l a2 h2), some ⟨false, 1, rows true (Tb n (gX z (n / 2)))⟩], ⟨gX z (n / 2), a2, h2, ha2, rfl, rfl⟩, aC.of (kp := 2) [none, some 1, some 3] ?_⟩
        (conv => whnf)
        repeat' ((first | refine zP rfl ?_ | refine zP bP ?_ | exact trivial) <;> try (conv => whnf))
        all_goals first | omega | (simp [aB]; done)
        done)
     | (refine ⟨.ref 2 [] 1 0 n, [none, some (aU o l a2 h2), some ⟨false, 1, rows true (Tb n (gX z (n / 2)))⟩], ⟨gX z (n / 2), a2, h2, ha2, rfl, rfl⟩, aC.of (kp := 2) [none, some 1, some 4] ?_⟩
        (conv => whnf)
        repeat' ((first | refine zP rfl ?_ | refine zP bP ?_ | exact trivial) <;> try (conv => whnf))
        all_goals first | omega | (simp [aB]; done)
        done)
     | (refine ⟨.ref 2 [] 1 0 n, [none, some (aU o l a2 h2), some ⟨false, 1, rows true (Tb n (gX z (n / 2)))⟩], ⟨gX z (n / 2), a2, h2, ha2, rfl, rfl⟩, aC.of (kp := 2) [none, some 1, some 5] ?_⟩
        (conv => whnf)
        repeat' ((first | refine zP rfl ?_ | refine zP bP ?_ | exact trivial) <;> try (conv => whnf))
        all_goals first | omega | (simp [aB]; done)
        done)
     | (refine ⟨.ref 2 [] 1 0 n, [none, some (aU o l a2 h2), some ⟨false, 1, rows true (Tb n (gX z (n / 2)))⟩], ⟨gX z (n / 2), a2, h2, ha2, rfl, rfl⟩, aC.of (kp := 2) [none, some 1, some 6] ?_⟩
        (conv => whnf)
        repeat' ((first | refine zP rfl ?_ | refine zP bP ?_ | exact trivial) <;> try (conv => whnf))
        all_goals first | omega | (simp [aB]; done)
        done)
 · obtain ⟨yz, a2, h2, hy, ha2, rfl, rfl⟩ := hd
   refine ⟨rfl, by simp, ?_⟩
   conv => whnf
   obtain ⟨z, rfl⟩ := vW (hy.2 (by omega))
   repeat' first | (refine bM [1] (dV o l hb hl a2 ha2 h2 m) (fun d rt' hd => ?_)) | fail
   obtain ⟨yu, a3, h3, hy, ha3, rfl, rfl⟩ := hd
   refine ⟨rfl, by simp, ?_⟩
   conv => whnf
   obtain ⟨u, rfl⟩ := vW (hy.2 (by omega))
   repeat' first | ((first | refine z0 ?_ | (apply zI; refine zP (Ago hm n hn hd z u) ?_) | refine Or.inl ?_) <;> conv => whnf) | fail
   first
     | (refine ⟨.ref 2 [] 1 0 n, [none, some (aU o l a3 h3), some ⟨false, 1, rows true (Tb n (iC (rS z u (aY m 2) (n - 1)) (n - 1) (n - 1) * eF u ((n + 3) / 4)))⟩], ⟨iC (rS z u (aY m 2) (n - 1)) (n - 1) (n - 1) * eF u ((n + 3) / 4), a3, h3, ha3, rfl, rfl⟩, aC.of (kp := 2) [none, some 1, some 2] ?_⟩
        (conv => whnf)
        repeat' ((first | refine zP rfl ?_ | refine zP bP ?_ | exact trivial) <;> try (conv => whnf))
        all_goals first | omega | (simp [aB]; done)
        done)
     | (refine ⟨.ref 2 [] 1 0 n, [none, some (aU o l a3 h3), some ⟨false, 1, rows true (Tb n (iC (rS z u (aY m 2) (n - 1)) (n - 1) (n - 1) * eF u ((n + 3) / 4)))⟩], ⟨iC (rS z u (aY m 2) (n - 1)) (n - 1) (n - 1) * eF u ((n + 3) / 4), a3, h3, ha3, rfl, rfl⟩, aC.of (kp := 2) [none, some 1, some 3] ?_⟩
        (conv => whnf)
        repeat' ((first | refine zP rfl ?_ | refine zP bP ?_ | exact trivial) <;> try (conv => whnf))
        all_goals first | omega | (simp [aB]; done)
        done)
     | (refine ⟨.ref 2 [] 1 0 n, [none, some (aU o l a3 h3), some ⟨false, 1, rows true (Tb n (iC (rS z u (aY m 2) (n - 1)) (n - 1) (n - 1) * eF u ((n + 3) / 4)))⟩], ⟨iC (rS z u (aY m 2) (n - 1)) (n - 1) (n - 1) * eF u ((n + 3) / 4), a3, h3, ha3, rfl, rfl⟩, aC.of (kp := 2) [none, some 1, some 4] ?_⟩
        (conv => whnf)
        repeat' ((first | refine zP rfl ?_ | refine zP bP ?_ | exact trivial) <;> try (conv => whnf))
        all_goals first | omega | (simp [aB]; done)
        done)
     | (refine ⟨.ref 2 [] 1 0 n, [none, some (aU o l a3 h3), some ⟨false, 1, rows true (Tb n (iC (rS z u (aY m 2) (n - 1)) (n - 1) (n - 1) * eF u ((n + 3) / 4)))⟩], ⟨iC (rS z u (aY m 2) (n - 1)) (n - 1) (n - 1) * eF u ((n + 3) / 4), a3, h3, ha3, rfl, rfl⟩, aC.of (kp := 2) [none, some 1, some 5] ?_⟩
        (conv => whnf)
        repeat' ((first | refine zP rfl ?_ | refine zP bP ?_ | exact trivial) <;> try (conv => whnf))
        all_goals first | omega | (simp [aB]; done)
        done)
     | (refine ⟨.ref 2 [] 1 0 n, [none, some (aU o l a3 h3), some ⟨false, 1, rows true (Tb n (iC (rS z u (aY m 2) (n - 1)) (n - 1) (n - 1) * eF u ((n + 3) / 4)))⟩], ⟨iC (rS z u (aY m 2) (n - 1)) (n - 1) (n - 1) * eF u ((n + 3) / 4), a3, h3, ha3, rfl, rfl⟩, aC.of (kp := 2) [none, some 1, some 6] ?_⟩
        (conv => whnf)
        repeat' ((first | refine zP rfl ?_ | refine zP bP ?_ | exact trivial) <;> try (conv => whnf))
        all_goals first | omega | (simp [aB]; done)
        done)
 · obtain ⟨f, a2, h2, ha2, rfl, rfl⟩ := hd
   refine ⟨rfl, by simp, ?_⟩
   conv => whnf
   obtain ⟨F, hF⟩ := hW false f
   repeat' first | ((first | refine z0 ?_ | (apply zI; refine zP (hF) ?_) | refine zV ?_ | (apply zI; refine zP aH ?_) | refine Or.inl ?_) <;> conv => whnf) | fail
   first
     | (refine ⟨.ref 2 [] 1 0 n, [none, some (aU o l a2 h2), some ⟨false, 1, rows true (Tb n (F))⟩], ⟨F, a2, h2, ha2, rfl, rfl⟩, aC.of (kp := 2) [none, some 1, some 2] ?_⟩
        (conv => whnf)
        repeat' ((first | refine zP rfl ?_ | refine zP bP ?_ | exact trivial) <;> try (conv => whnf))
        all_goals first | omega | (simp [aB]; done)
        done)
     | (refine ⟨.ref 2 [] 1 0 n, [none, some (aU o l a2 h2), some ⟨false, 1, rows true (Tb n (F))⟩], ⟨F, a2, h2, ha2, rfl, rfl⟩, aC.of (kp := 2) [none, some 1, some 3] ?_⟩
        (conv => whnf)
        repeat' ((first | refine zP rfl ?_ | refine zP bP ?_ | exact trivial) <;> try (conv => whnf))
        all_goals first | omega | (simp [aB]; done)
        done)
     | (refine ⟨.ref 2 [] 1 0 n, [none, some (aU o l a2 h2), some ⟨false, 1, rows true (Tb n (F))⟩], ⟨F, a2, h2, ha2, rfl, rfl⟩, aC.of (kp := 2) [none, some 1, some 4] ?_⟩
        (conv => whnf)
        repeat' ((first | refine zP rfl ?_ | refine zP bP ?_ | exact trivial) <;> try (conv => whnf))
        all_goals first | omega | (simp [aB]; done)
        done)
     | (refine ⟨.ref 2 [] 1 0 n, [none, some (aU o l a2 h2), some ⟨false, 1, rows true (Tb n (F))⟩], ⟨F, a2, h2, ha2, rfl, rfl⟩, aC.of (kp := 2) [none, some 1, some 5] ?_⟩
        (conv => whnf)
        repeat' ((first | refine zP rfl ?_ | refine zP bP ?_ | exact trivial) <;> try (conv => whnf))
        all_goals first | omega | (simp [aB]; done)
        done)
     | (refine ⟨.ref 2 [] 1 0 n, [none, some (aU o l a2 h2), some ⟨false, 1, rows true (Tb n (F))⟩], ⟨F, a2, h2, ha2, rfl, rfl⟩, aC.of (kp := 2) [none, some 1, some 6] ?_⟩
        (conv => whnf)
        repeat' ((first | refine zP rfl ?_ | refine zP bP ?_ | exact trivial) <;> try (conv => whnf))
        all_goals first | omega | (simp [aB]; done)
        done)
 · obtain ⟨f, a2, h2, ha2, rfl, rfl⟩ := hd
   refine ⟨rfl, by simp, ?_⟩
   conv => whnf
   obtain ⟨F, hF⟩ := hW false f
   repeat' first | ((first | refine z0 ?_ | (apply zI; refine zP (hF) ?_) | refine zV ?_ | (apply zI; refine zP aH ?_) | refine Or.inl ?_) <;> conv => whnf) | fail
   first
     | (refine ⟨.ref 2 [] 1 0 n, [none, some (aU o l a2 h2), some ⟨false, 1, rows true (Tb n (F))⟩], ⟨F, a2, h2, ha2, rfl, rfl⟩, aC.of (kp := 2) [none, some 1, some 2] ?_⟩
        (conv => whnf)
        repeat' ((first | refine zP rfl ?_ | refine zP bP ?_ | exact trivial) <;> try (conv => whnf))
        all_goals first | omega | (simp [aB]; done)
        done)
     | (refine ⟨.ref 2 [] 1 0 n, [none, some (aU o l a2 h2), some ⟨false, 1, rows true (Tb n (F))⟩], ⟨F, a2, h2, ha2, rfl, rfl⟩, aC.of (kp := 2) [none, some 1, some 3] ?_⟩
        (conv => whnf)
        repeat' ((first | refine zP rfl ?_ | refine zP bP ?_ | exact trivial) <;> try (conv => whnf))
        all_goals first | omega | (simp [aB]; done)
        done)
     | (refine ⟨.ref 2 [] 1 0 n, [none, some (aU o l a2 h2), some ⟨false, 1, rows true (Tb n (F))⟩], ⟨F, a2, h2, ha2, rfl, rfl⟩, aC.of (kp := 2) [none, some 1, some 4] ?_⟩
        (conv => whnf)
        repeat' ((first | refine zP rfl ?_ | refine zP bP ?_ | exact trivial) <;> try (conv => whnf))
        all_goals first | omega | (simp [aB]; done)
        done)
     | (refine ⟨.ref 2 [] 1 0 n, [none, some (aU o l a2 h2), some ⟨false, 1, rows true (Tb n (F))⟩], ⟨F, a2, h2, ha2, rfl, rfl⟩, aC.of (kp := 2) [none, some 1, some 5] ?_⟩
        (conv => whnf)
        repeat' ((first | refine zP rfl ?_ | refine zP bP ?_ | exact trivial) <;> try (conv => whnf))
        all_goals first | omega | (simp [aB]; done)
        done)
     | (refine ⟨.ref 2 [] 1 0 n, [none, some (aU o l a2 h2), some ⟨false, 1, rows true (Tb n (F))⟩], ⟨F, a2, h2, ha2, rfl, rfl⟩, aC.of (kp := 2) [none, some 1, some 6] ?_⟩
        (conv => whnf)
        repeat' ((first | refine zP rfl ?_ | refine zP bP ?_ | exact trivial) <;> try (conv => whnf))
        all_goals first | omega | (simp [aB]; done)
        done)
theorem xL (hm : Md m) (o : Bool) (l : List Nat) (hb : ∀ b ∈ l, b < 256) (hl : l.length ≤ 4611686018427387904) (a : Nat) (ha : a ≤ l.length) (hs : Int) (n : Nat) (hn : 2 ≤ n ∧ n ≤ 11) {d : Int} (hd : d + 1 = n) (hW : ∀ (o : Bool) (a : PS (Zm m)), ∃ F : PS (PS (Zm m)), aL Tryz.prog 117 [aA m, aA d, LD o 5 a] (cH true true n F)) :
   cM Tryz.prog 260 2 [.ptr 1 [] 0, aA m, aA d] [none, some (aU o l a hs)]
     (fun d rt => ∃ (f : PS (PS (Zm m))) (a' : Nat) (h' : Int), a' ≤ l.length ∧ d = .agg [aA m, .ref 2 [] 1 0 n] ∧ rt = [none, some (aU o l a' h'), some ⟨false, 1, rows true (Tb n f)⟩]) := by
 have hm1 := hm.1
 have hd0 := hd
 have hm2 := hm.2
 refine eR Tryz.tabOk aE 2 _ Tryz.func260 rfl rfl ?_
 conv => whnf
 repeat' first | (refine bM [1] (Akr hm o l hb hl a ha hs n hn hd hW) (fun d rt' hd => ?_)) | fail
 obtain ⟨F, a1, h1, ha1, rfl, rfl⟩ := hd
 refine ⟨rfl, by simp, ?_⟩
 conv => whnf
 repeat' first | (refine bM [1] (dV o l hb hl a1 ha1 h1 3) (fun d rt' hd => ?_)) | fail
 obtain ⟨x, a2, h2, hx, ha2, rfl, rfl⟩ := hd
 refine ⟨rfl, by simp, ?_⟩
 conv => whnf
 have hx2 := hx.2 (by omega)
 repeat' first | (refine bM [1] (yH hm o l hb hl a2 ha2 h2 n hn hd0) (fun d rt' hd => ?_)) | ((first | refine z0 ?_ | refine Or.inl (Or.inr (zP (oZ) ?_)) | (refine zP (fun h => ?_) (fun h => ?_) <;> (try simp only [aB, aD] at h) <;> first | (exfalso; omega) | skip) | refine Or.inl ?_) <;> conv => whnf) | fail
 · obtain ⟨b, a3, h3, hb3, ha3, rfl, rfl⟩ := hd
   refine ⟨rfl, by simp, ?_⟩
   conv => whnf
   repeat' first | ((first | refine z0 ?_ | (apply zI; refine zP (yP hm _ _ _ n hn F b) ?_) | refine Or.inl (Or.inr (zP (oZ) ?_)) | refine zV ?_ | (apply zI; refine zP aK ?_) | (apply zI; refine zP aH ?_) | refine Or.inl ?_) <;> conv => whnf) | fail
   first
     | (refine ⟨.agg [aA m, .ref 2 [] 1 0 n], [none, some (aU o l a3 h3), some ⟨false, 1, rows true (Tb n (bC b (bI F (rev (aY m (b.c 1).val) b) (rev (aY m (b.c 1).val) b) n n) 0 n))⟩], ⟨bC b (bI F (rev (aY m (b.c 1).val) b) (rev (aY m (b.c 1).val) b) n n) 0 n, a3, h3, ha3, rfl, rfl⟩, aC.of (kp := 2) [none, some 1, some 2] ?_⟩
        (conv => whnf)
        repeat' ((first | refine zP rfl ?_ | refine zP bP ?_ | exact trivial) <;> try (conv => whnf))
        all_goals first | omega | (simp [aB]; done)
        done)
     | (refine ⟨.agg [aA m, .ref 2 [] 1 0 n], [none, some (aU o l a3 h3), some ⟨false, 1, rows true (Tb n (bC b (bI F (rev (aY m (b.c 1).val) b) (rev (aY m (b.c 1).val) b) n n) 0 n))⟩], ⟨bC b (bI F (rev (aY m (b.c 1).val) b) (rev (aY m (b.c 1).val) b) n n) 0 n, a3, h3, ha3, rfl, rfl⟩, aC.of (kp := 2) [none, some 1, some 3] ?_⟩
        (conv => whnf)
        repeat' ((first | refine zP rfl ?_ | refine zP bP ?_ | exact trivial) <;> try (conv => whnf))
        all_goals first | omega | (simp [aB]; done)
        done)
     | (refine ⟨.agg [aA m, .ref 2 [] 1 0 n], [none, some (aU o l a3 h3), some ⟨false, 1, rows true (Tb n (bC b (bI F (rev (aY m (b.c 1).val) b) (rev (aY m (b.c 1).val) b) n n) 0 n))⟩], ⟨bC b (bI F (rev (aY m (b.c 1).val) b) (rev (aY m (b.c 1).val) b) n n) 0 n, a3, h3, ha3, rfl, rfl⟩, aC.of (kp := 2) [none, some 1, some 4] ?_⟩
        (conv => whnf)
        repeat' ((first | refine zP rfl ?_ | refine zP bP ?_ | exact trivial) <;> try (conv => whnf))
        all_goals first | omega | (simp [aB]; done)
        done)
     | (refine ⟨.agg [aA m, .ref 2 [] 1 0 n], [none, some (aU o l a3 h3), some ⟨false, 1, rows true (Tb n (bC b (bI F (rev (aY m (b.c 1).val) b) (rev (aY m (b.c 1).val) b) n n) 0 n))⟩], ⟨bC b (bI F (rev (aY m (b.c 1).val) b) (rev (aY m (b.c 1).val) b) n n) 0 n, a3, h3, ha3, rfl, rfl⟩, aC.of (kp := 2) [none, some 1, some 5] ?_⟩
        (conv => whnf)
        repeat' ((first | refine zP rfl ?_ | refine zP bP ?_ | exact trivial) <;> try (conv => whnf))
        all_goals first | omega | (simp [aB]; done)
        done)
     | (refine ⟨.agg [aA m, .ref 2 [] 1 0 n], [none, some (aU o l a3 h3), some ⟨false, 1, rows true (Tb n (bC b (bI F (rev (aY m (b.c 1).val) b) (rev (aY m (b.c 1).val) b) n n) 0 n))⟩], ⟨bC b (bI F (rev (aY m (b.c 1).val) b) (rev (aY m (b.c 1).val) b) n n) 0 n, a3, h3, ha3, rfl, rfl⟩, aC.of (kp := 2) [none, some 1, some 6] ?_⟩
        (conv => whnf)
        repeat' ((first | refine zP rfl ?_ | refine zP bP ?_ | exact trivial) <;> try (conv => whnf))
        all_goals first | omega | (simp [aB]; done)
        done)
     | (refine ⟨.agg [aA m, .ref 2 [] 1 0 n], [none, some (aU o l a3 h3), some ⟨false, 1, rows true (Tb n (bC b (bI F (rev (aY m (b.c 1).val) b) (rev (aY m (b.c 1).val) b) n n) 0 n))⟩], ⟨bC b (bI F (rev (aY m (b.c 1).val) b) (rev (aY m (b.c 1).val) b) n n) 0 n, a3, h3, ha3, rfl, rfl⟩, aC.of (kp := 2) [none, some 1, some 7] ?_⟩
        (conv => whnf)
        repeat' ((first | refine zP rfl ?_ | refine zP bP ?_ | exact trivial) <;> try (conv => whnf))
        all_goals first | omega | (simp [aB]; done)
        done)
     | (refine ⟨.agg [aA m, .ref 2 [] 1 0 n], [none, some (aU o l a3 h3), some ⟨false, 1, rows true (Tb n (bC b (bI F (rev (aY m (b.c 1).val) b) (rev (aY m (b.c 1).val) b) n n) 0 n))⟩], ⟨bC b (bI F (rev (aY m (b.c 1).val) b) (rev (aY m (b.c 1).val) b) n n) 0 n, a3, h3, ha3, rfl, rfl⟩, aC.of (kp := 2) [none, some 1, some 8] ?_⟩
        (conv => whnf)
        repeat' ((first | refine zP rfl ?_ | refine zP bP ?_ | exact trivial) <;> try (conv => whnf))
        all_goals first | omega | (simp [aB]; done)
        done)
     | (refine ⟨.agg [aA m, .ref 2 [] 1 0 n], [none, some (aU o l a3 h3), some ⟨false, 1, rows true (Tb n (bC b (bI F (rev (aY m (b.c 1).val) b) (rev (aY m (b.c 1).val) b) n n) 0 n))⟩], ⟨bC b (bI F (rev (aY m (b.c 1).val) b) (rev (aY m (b.c 1).val) b) n n) 0 n, a3, h3, ha3, rfl, rfl⟩, aC.of (kp := 2) [none, some 1, some 9] ?_⟩
        (conv => whnf)
        repeat' ((first | refine zP rfl ?_ | refine zP bP ?_ | exact trivial) <;> try (conv => whnf))
        all_goals first | omega | (simp [aB]; done)
        done)
 · first
     | (refine ⟨.agg [aA m, .ref 2 [] 1 0 n], [none, some (aU o l a2 h2), some ⟨false, 1, rows true (Tb n (F))⟩], ⟨F, a2, h2, ha2, rfl, rfl⟩, aC.of (kp := 2) [none, some 1, some 2] ?_⟩
        (conv => whnf)
        repeat' ((first | refine zP rfl ?_ | refine zP bP ?_ | exact trivial) <;> try (conv => whnf))
        all_goals first | omega | (simp [aB]; done)
        done)
     | (refine ⟨.agg [aA m, .ref 2 [] 1 0 n], [none, some (aU o l a2 h2), some ⟨false, 1, rows true (Tb n (F))⟩], ⟨F, a2, h2, ha2, rfl, rfl⟩, aC.of (kp := 2) [none, some 1, some 3] ?_⟩
        (conv => whnf)
        repeat' ((first | refine zP rfl ?_ | refine zP bP ?_ | exact trivial) <;> try (conv => whnf))
        all_goals first | omega | (simp [aB]; done)
        done)
     | (refine ⟨.agg [aA m, .ref 2 [] 1 0 n], [none, some (aU o l a2 h2), some ⟨false, 1, rows true (Tb n (F))⟩], ⟨F, a2, h2, ha2, rfl, rfl⟩, aC.of (kp := 2) [none, some 1, some 4] ?_⟩
        (conv => whnf)
        repeat' ((first | refine zP rfl ?_ | refine zP bP ?_ | exact trivial) <;> try (conv => whnf))
        all_goals first | omega | (simp [aB]; done)
        done)
     | (refine ⟨.agg [aA m, .ref 2 [] 1 0 n], [none, some (aU o l a2 h2), some ⟨false, 1, rows true (Tb n (F))⟩], ⟨F, a2, h2, ha2, rfl, rfl⟩, aC.of (kp := 2) [none, some 1, some 5] ?_⟩
        (conv => whnf)
        repeat' ((first | refine zP rfl ?_ | refine zP bP ?_ | exact trivial) <;> try (conv => whnf))
        all_goals first | omega | (simp [aB]; done)
        done)
     | (refine ⟨.agg [aA m, .ref 2 [] 1 0 n], [none, some (aU o l a2 h2), some ⟨false, 1, rows true (Tb n (F))⟩], ⟨F, a2, h2, ha2, rfl, rfl⟩, aC.of (kp := 2) [none, some 1, some 6] ?_⟩
        (conv => whnf)
        repeat' ((first | refine zP rfl ?_ | refine zP bP ?_ | exact trivial) <;> try (conv => whnf))
        all_goals first | omega | (simp [aB]; done)
        done)
     | (refine ⟨.agg [aA m, .ref 2 [] 1 0 n], [none, some (aU o l a2 h2), some ⟨false, 1, rows true (Tb n (F))⟩], ⟨F, a2, h2, ha2, rfl, rfl⟩, aC.of (kp := 2) [none, some 1, some 7] ?_⟩
        (conv => whnf)
        repeat' ((first | refine zP rfl ?_ | refine zP bP ?_ | exact trivial) <;> try (conv => whnf))
        all_goals first | omega | (simp [aB]; done)
        done)
     | (refine ⟨.agg [aA m, .ref 2 [] 1 0 n], [none, some (aU o l a2 h2), some ⟨false, 1, rows true (Tb n (F))⟩], ⟨F, a2, h2, ha2, rfl, rfl⟩, aC.of (kp := 2) [none, some 1, some 8] ?_⟩
        (conv => whnf)
        repeat' ((first | refine zP rfl ?_ | refine zP bP ?_ | exact trivial) <;> try (conv => whnf))
        all_goals first | omega | (simp [aB]; done)
        done)
     | (refine ⟨.agg [aA m, .ref 2 [] 1 0 n], [none, some (aU o l a2 h2), some ⟨false, 1, rows true (Tb n (F))⟩], ⟨F, a2, h2, ha2, rfl, rfl⟩, aC.of (kp := 2) [none, some 1, some 9] ?_⟩
        (conv => whnf)
        repeat' ((first | refine zP rfl ?_ | refine zP bP ?_ | exact trivial) <;> try (conv => whnf))
        all_goals first | omega | (simp [aB]; done)
        done)
def wV (z : Nat → Zm m) (w : PS (Zm m)) (k : Nat) : Int := (z 0).val * (w.c (k - 1)).val + (z 1).val * (w.c (k - 2)).val + (z 2).val * ((w * w).c k).val + (z 3).val * ((w * w).c (k - 1)).val + (z 4).val * ((w * w * w).c k).val + (if k = 3 then 1 else 0)
def wS (z : Nat → Zm m) : Nat → PS (Zm m)
 | 0 => 0
 | t + 1 => (wS z t).upd (t + 3) (Zm.mk m (wV z (wS z t) (t + 3)))
theorem Adv (hm : Md m) {z : Nat → Zm m} {n t : Nat} {X : Int} (h : 0 ≤ X) (e : X = wV z (wS z t) (t + 3)) : (L n (wS z t)).set (t + 3) (X.tmod m) = L n (wS z (t + 1)) :=
 eW _ (by rw [oH hm h, e]) (fun k hk => rfl)
theorem Akm (hm : Md m) (o : Bool) (n : Nat) (hn : 3 ≤ n ∧ n ≤ 12) {d : Int} (hd : d + 1 = n) (a : PS (Zm m)) : aL Tryz.prog 120 [aA m, aA d, LD o 5 a] (LD true n (wS a.c (n - 3))) := by
 have hm1 := hm.1
 have hm2 := hm.2
 refine aX Tryz.tabOk aE Tryz.func120 rfl rfl ?_
 conv => whnf
 repeat' first | ((first | refine z0 ?_ | (refine zP (fun h => ?_) (fun h => ?_) <;> (try simp only [aB, aD] at h)) | refine zS ?_ | refine zV ?_ | (apply zI; refine zP aK ?_) | (apply zI; refine zP aH ?_) | refine zA ?_ | refine Alt.fst ?_ | refine Or.inl ?_) <;> conv => whnf) | fail
 refine aR Tryz.tabOk aE (α := Nat) (fun t => [(8, aA ((t : Int) + 3)), (7, .ref 0 [] 1 0 n), (14, .undef), (9, .undef), (10, .undef)]) (fun t => [(0, some ⟨false, 1, ints (L n (wS a.c t))⟩)]) (fun t => t + 3 ≤ n) (fun t => n - t) (0) ?_ ?_ ?_
 · omega
 · conv => whnf
   first | refine aG.autoR ?_ | refine aC.autoR ?_
   conv => whnf
   repeat' ((first | refine z1 ?_ | refine zV ?_ | refine zP ?_ ?_ | exact trivial) <;> try (conv => whnf))
   all_goals first
     | omega
     | exact cQ (by rw [show (d + 1).toNat = n by omega, ← fT (m := m)]; rfl)
 intro t ht
 conv => whnf
 by_cases htn : t + 3 < n
 · have hx0 := hm.mul (a.c 0) ((wS a.c t).c (t + 2))
   have hx1 := hm.mul (a.c 1) ((wS a.c t).c (t + 1))
   have hx2 := hm.mul (a.c (Int.toNat 2)) ((wS a.c t * wS a.c t).c (t + 3))
   have hx3 := hm.mul (a.c (Int.toNat 3)) ((wS a.c t * wS a.c t).c (t + 2))
   have hx4 := hm.mul (a.c (Int.toNat 4)) ((wS a.c t * wS a.c t * wS a.c t).c (t + 3))
   repeat' first | ((first | (apply zI; refine zP (sF hm _ _ (t + 4) n n (by omega) (by omega) (by omega) (by omega) (by omega) (by omega) (wS a.c t) (wS a.c t)) ?_) | (apply zI; refine zP (sF hm _ _ (t + 4) (t + 4) n (by omega) (by omega) (by omega) (by omega) (by omega) (by omega) (wS a.c t * wS a.c t) (wS a.c t)) ?_) | (refine zP (fun h => ?_) (fun h => ?_) <;> (try simp only [aB, aD] at h) <;> first | (exfalso; omega) | skip) | refine zS ?_ | refine zV ?_ | (apply zI; refine zP aH ?_) | refine Or.inl ?_) <;> conv => whnf) | fail
   have e1 : ((t : Int) + 3 - 1).toNat = t + 2 := by omega
   have e2 : ((t : Int) + 3 - 2).toNat = t + 1 := by omega
   have e3 : ((t : Int) + 3).toNat = t + 3 := by omega
   rw [e1, e2]
   repeat' first | ((first | (refine zP (fun h => ?_) (fun h => ?_) <;> (try simp only [aB, aD] at h) <;> first | (exfalso; omega) | skip) | refine zS ?_ | refine zV ?_ | (apply zI; refine zP aK ?_) | (apply zI; refine zP aH ?_)) <;> conv => whnf) | fail
   rw [e3]
   repeat' first | ((first | (refine zP (fun h => ?_) (fun h => ?_) <;> (try simp only [aB, aD] at h) <;> first | (exfalso; omega) | skip) | refine zS ?_ | refine zV ?_ | (apply zI; refine zP aK ?_) | (apply zI; refine zP aH ?_)) <;> conv => whnf) | fail
   rw [e1]
   repeat' first | ((first | (refine zP (fun h => ?_) (fun h => ?_) <;> (try simp only [aB, aD] at h) <;> first | (exfalso; omega) | skip) | refine zS ?_ | refine zV ?_ | (apply zI; refine zP aK ?_) | (apply zI; refine zP aH ?_)) <;> conv => whnf) | fail
   rw [e3]
   repeat' first | ((first | (refine zP (fun h => ?_) (fun h => ?_) <;> (try simp only [aB, aD] at h) <;> first | (exfalso; omega) | skip) | refine zS ?_ | refine zV ?_ | (apply zI; refine zP aK ?_) | (apply zI; refine zP aH ?_)) <;> conv => whnf) | fail
   · refine Exists.intro (t + 1) (zP aF (zP aF ?_))
     first | refine aG.autoR ?_ | refine aC.autoR ?_
     conv => whnf
     repeat' ((first | refine z1 ?_ | refine zV ?_ | refine zP ?_ ?_ | exact trivial) <;> try (conv => whnf))
     all_goals first
       | omega
       | exact cQ (Adv hm (by omega) (by unfold wV; rw [if_pos (by omega)]; rfl))
   · refine Exists.intro (t + 1) (zP aF (zP aF ?_))
     first | refine aG.autoR ?_ | refine aC.autoR ?_
     conv => whnf
     repeat' ((first | refine z1 ?_ | refine zV ?_ | refine zP ?_ ?_ | exact trivial) <;> try (conv => whnf))
     all_goals first
       | omega
       | exact cQ (Adv hm (by omega) (by unfold wV; rw [if_neg (by omega), Int.add_zero]; rfl))
 · repeat' first | ((first | refine z0 ?_ | (refine zP (fun h => ?_) (fun h => ?_) <;> (try simp only [aB, aD] at h) <;> first | (exfalso; omega) | skip) | refine zS ?_ | refine zV ?_ | (apply zI; refine zP aK ?_) | (apply zI; refine zP aH ?_)) <;> conv => whnf) | fail
   have htn2 : t = n - 3 := by omega
   rw [htn2]
def fdL (f g : PS (PS (Zm m))) (k i : Nat) : List Int := (List.range i).map fun i => ((g.c i).c (k - i) + -(f.c i).c (k - i)).val
@[simp] theorem At0 (f g : PS (PS (Zm m))) (k i : Nat) : (fdL f g k i).length = i := by simp [fdL]
theorem L0 {m : Int} {t : List (List Int)} (h : gF m t = true) : (Md m ∧ (2 ≤ t.length ∧ t.length ≤ 11)) ∧ Tb t.length (aZ m t) = t ∧ mL (aZ m t) t.length := by
 unfold gF at h
 simp only [Bool.and_eq_true, mQ, decide_eq_true_eq] at h
 obtain ⟨hm, h3, h4, _⟩ := fI h.1
 exact ⟨⟨hm, h3, h4⟩, dY h.1, h.2⟩
theorem iV {r : Nat} {cs : List D} {d d' : D} (h : Fz r cs d d') : ∀ i, Fz r cs ([d].getD i .undef) ([d'].getD i .undef)
 | 0 => h
 | i + 1 => .rfl _
theorem Arl (o : Bool) (t : List (List Int)) : (rows o t).map frz1 = rows false t := by
 simp [rows, Function.comp_def, frz1]
theorem Aoy {o : Bool} {t : List (List Int)} {off n : Nat} : sub (rows o t) 1 off n = rows o ((t.drop off).take n) := by
 unfold sub rows
 rw [Nat.mul_one, Nat.mul_one, ← List.map_drop, ← List.map_take]
theorem jX {r off n : Nat} {t t' : List (List Int)} (h1 : off + n ≤ t.length) (h2 : (t.drop off).take n = t') {x : D} : Fz r (rows true t) (.agg [x, .ref r [] 1 off n]) (.agg [x, .list false 1 (rows false t')]) :=
 .agg _ _ rfl (fun i d d' hd hd' => by
   match i, hd, hd' with
   | 0, hd, hd' => simp at hd hd'; subst hd; subst hd'; exact .rfl _
   | 1, hd, hd' =>
     simp at hd hd'; subst hd; subst hd'
     exact .ref _ _ _ _ (by rw [Nat.mul_one, Nat.mul_one, aP]; exact h1) (by rw [Aoy, Arl, h2])
   | i + 2, hd, hd' => simp at hd)
theorem Arb {r : Nat} {cs : List D} {x : D} : Fz r cs (.agg [x, .lit (.slice none 0 0)]) (.agg [x, .list false 1 (rows false [])]) :=
 .agg _ _ rfl (fun i d d' hd hd' => by
   match i, hd, hd' with
   | 0, hd, hd' => simp at hd hd'; subst hd; subst hd'; exact .rfl _
   | 1, hd, hd' => simp at hd hd'; subst hd; subst hd'; exact .nil _
   | i + 2, hd, hd' => simp at hd)
def gI (t : List (List Int)) : Prop := t.length ≤ 11 ∧ ∀ k, (t.getD k []).length ≤ 11
theorem kY {t : List (List Int)} (h : gI t) : t.length ≤ 1048576 ∧ dP t := ⟨by have := h.1; omega, fun i _ => by have := h.2 i; omega⟩
theorem jD {n : Nat} (hn : n ≤ 11) (f : PS (PS (Zm m))) : gI (Tb n f) := by
 refine ⟨by simp; omega, fun k => ?_⟩
 by_cases h : k < n
 · rw [lO f h]; simp; omega
 · rw [List.getD_eq_getElem?_getD, List.getElem?_eq_none (by simp; omega)]; simp
theorem Aqg {t : List (List Int)} (h : gI t) (i j : Nat) (x : Int) : gI (cR t i j x) := by
 unfold cR
 refine ⟨by rw [List.length_set]; exact h.1, fun k => ?_⟩
 by_cases e : i = k
 · subst e
   by_cases hl : i < t.length
   · rw [List.getD_eq_getElem?_getD, List.getElem?_set_self hl]; simp only [Option.getD_some, List.length_set]; exact h.2 i
   · rw [List.getD_eq_getElem?_getD, List.getElem?_eq_none (by rw [List.length_set]; omega)]; simp
 · rw [List.getD_eq_getElem?_getD, List.getElem?_set_ne e, ← List.getD_eq_getElem?_getD]; exact h.2 k
theorem sV (t : List (List Int)) (i j : Nat) (x : Int) : (cR t i j x).length = t.length := by unfold cR; rw [List.length_set]
theorem Ar4 {t : List (List Int)} (h : gI t) : gI (t.drop 1) := by
 refine ⟨by rw [List.length_drop]; have := h.1; omega, fun k => ?_⟩
 rw [List.getD_eq_getElem?_getD, List.getElem?_drop, ← List.getD_eq_getElem?_getD]; exact h.2 _
theorem Ali : gI [] := ⟨by simp, fun k => by simp⟩
abbrev Wei : Prop := ∀ (m : Int) (hm : Md m) (n : Nat) (hn : 2 ≤ n ∧ n ≤ 11) (d : Int) (hd : d + 1 = n) (o : Bool) (a : PS (Zm m)), ∃ F : PS (PS (Zm m)), aL Tryz.prog 117 [aA m, aA d, LD o 5 a] (cH true true n F)
theorem Ars (hW : Wei) (o : Bool) (l : List Nat) (hb : ∀ b ∈ l, b < 256) (hl : l.length ≤ 4611686018427387904) (a : Nat) (ha : a ≤ l.length) (hs : Int) :
   cM Tryz.prog 248 2 [.ptr 1 [] 0] [none, some (aU o l a hs)]
     (fun d rt => ∃ (m : Int) (n : Nat) (F : PS (PS (Zm m))) (a' : Nat) (h' : Int), Md m ∧ m ≤ 9973 ∧ (2 ≤ n ∧ n ≤ 11) ∧ a' ≤ l.length ∧ d = .agg [aA m, .ref 2 [] 1 0 n] ∧ rt = [none, some (aU o l a' h'), some ⟨false, 1, rows true (Tb n F)⟩]) := by
 refine eR Tryz.tabOk aE 2 _ Tryz.func248 rfl rfl ?_
 conv => whnf
 repeat' first | (refine bM [1] (Anf o l hb hl a ha hs) (fun d rt' hd => ?_)) | fail
 obtain ⟨m, a1, h1, hm0, ha1, rfl, rfl⟩ := hd
 refine ⟨rfl, by simp, ?_⟩
 conv => whnf
 have hm : Md m := ⟨hm0.1, by omega⟩
 repeat' first | (refine bM [1] (dV o l hb hl a1 ha1 h1 10) (fun d rt' hd => ?_)) | fail
 obtain ⟨x, a2, h2, hx, ha2, rfl, rfl⟩ := hd
 refine ⟨rfl, by simp, ?_⟩
 conv => whnf
 have hx2 := hx.2 (by omega)
 repeat' first | (refine bM [1, 3] (sR o l hb hl a2 ha2 h2 [1, 2, 3, 4, 6, 9, x] (by simp)) (fun d rt' hd => ?_)) | fail
 obtain ⟨v, a3, h3, hv, ha3, rfl, rfl⟩ := hd
 refine ⟨rfl, by simp, ?_⟩
 conv => whnf
 have hv2 : 0 ≤ v ∧ v ≤ 9 := by
   simp only [List.mem_cons, List.not_mem_nil, or_false] at hv
   omega
 repeat' first | (refine bM [1] (xL hm o l hb hl a3 ha3 h3 (v + 2).toNat (by omega) (d := 1 + v) (by omega) (fun o a => hW m hm (v + 2).toNat (by omega) (1 + v) (by omega) o a)) (fun d rt' hd => ?_)) | ((first | refine zV ?_) <;> conv => whnf) | fail
 obtain ⟨F, a4, h4, ha4, rfl, rfl⟩ := hd
 refine ⟨rfl, by simp, ?_⟩
 conv => whnf
 repeat' first | ((first | refine z0 ?_ | (refine zP (fun h => ?_) (fun h => ?_) <;> (try simp only [aB, aD] at h)) | refine zS ?_ | refine zV ?_ | (apply zI; refine zP aK ?_) | (apply zI; refine zP aH ?_) | refine zA ?_ | refine Alt.fst ?_ | refine Or.inl ?_) <;> conv => whnf) | fail
 first
   | (refine ⟨.agg [aA m, .ref 2 [] 1 0 (v + 2).toNat], [none, some (aU o l a4 h4), some ⟨false, 1, rows true (Tb (v + 2).toNat F)⟩], ⟨m, (v + 2).toNat, F, a4, h4, hm, by omega, by omega, ha4, rfl, rfl⟩, aC.of (kp := 2) [none, some 1, some 2] ?_⟩
      (conv => whnf)
      repeat' ((first | refine zP rfl ?_ | exact trivial) <;> try (conv => whnf))
      done)
   | (refine ⟨.agg [aA m, .ref 2 [] 1 0 (v + 2).toNat], [none, some (aU o l a4 h4), some ⟨false, 1, rows true (Tb (v + 2).toNat F)⟩], ⟨m, (v + 2).toNat, F, a4, h4, hm, by omega, by omega, ha4, rfl, rfl⟩, aC.of (kp := 2) [none, some 1, some 3] ?_⟩
      (conv => whnf)
      repeat' ((first | refine zP rfl ?_ | exact trivial) <;> try (conv => whnf))
      done)
   | (refine ⟨.agg [aA m, .ref 2 [] 1 0 (v + 2).toNat], [none, some (aU o l a4 h4), some ⟨false, 1, rows true (Tb (v + 2).toNat F)⟩], ⟨m, (v + 2).toNat, F, a4, h4, hm, by omega, by omega, ha4, rfl, rfl⟩, aC.of (kp := 2) [none, some 1, some 4] ?_⟩
      (conv => whnf)
      repeat' ((first | refine zP rfl ?_ | exact trivial) <;> try (conv => whnf))
      done)
   | (refine ⟨.agg [aA m, .ref 2 [] 1 0 (v + 2).toNat], [none, some (aU o l a4 h4), some ⟨false, 1, rows true (Tb (v + 2).toNat F)⟩], ⟨m, (v + 2).toNat, F, a4, h4, hm, by omega, by omega, ha4, rfl, rfl⟩, aC.of (kp := 2) [none, some 1, some 5] ?_⟩
      (conv => whnf)
      repeat' ((first | refine zP rfl ?_ | exact trivial) <;> try (conv => whnf))
      done)
   | (refine ⟨.agg [aA m, .ref 2 [] 1 0 (v + 2).toNat], [none, some (aU o l a4 h4), some ⟨false, 1, rows true (Tb (v + 2).toNat F)⟩], ⟨m, (v + 2).toNat, F, a4, h4, hm, by omega, by omega, ha4, rfl, rfl⟩, aC.of (kp := 2) [none, some 1, some 6] ?_⟩
      (conv => whnf)
      repeat' ((first | refine zP rfl ?_ | exact trivial) <;> try (conv => whnf))
      done)
   | (refine ⟨.agg [aA m, .ref 2 [] 1 0 (v + 2).toNat], [none, some (aU o l a4 h4), some ⟨false, 1, rows true (Tb (v + 2).toNat F)⟩], ⟨m, (v + 2).toNat, F, a4, h4, hm, by omega, by omega, ha4, rfl, rfl⟩, aC.of (kp := 2) [none, some 1, some 7] ?_⟩
      (conv => whnf)
      repeat' ((first | refine zP rfl ?_ | exact trivial) <;> try (conv => whnf))
      done)
theorem Alg (hW : Wei) (o : Bool) (l : List Nat) (hb : ∀ b ∈ l, b < 256) (hl : l.length ≤ 4611686018427387904) (a : Nat) (ha : a ≤ l.length) (hs : Int) :
   cM Tryz.prog 152 2 [.ptr 1 [] 0] [none, some (aU o l a hs)]
     (fun d rt => ∃ (m : Int) (t : List (List Int)) (a' : Nat) (h' : Int), (1 ≤ m ∧ m ≤ 10001) ∧ gI t ∧ a' ≤ l.length ∧ d = .agg [aA m, .list false 1 (rows false t)] ∧ rt = [none, some (aU o l a' h')]) := by
 refine eR Tryz.tabOk aE 2 _ Tryz.func152 rfl rfl ?_
 conv => whnf
 repeat' first | (refine bM [1] (Ars hW o l hb hl a ha hs) (fun d rt' hd => ?_)) | fail
 obtain ⟨m, n, F, a1, h1, hm, hm9, hn, ha1, rfl, rfl⟩ := hd
 refine ⟨rfl, by simp, ?_⟩
 conv => whnf
 repeat' first | (refine bM [1] (dV o l hb hl a1 ha1 h1 n) (fun d rt' hd => ?_)) | fail
 obtain ⟨i, a2, h2, hi, ha2, rfl, rfl⟩ := hd
 refine ⟨rfl, by simp, ?_⟩
 conv => whnf
 have hi2 := hi.2 (by omega)
 repeat' first | (refine bM [1] (dV o l hb hl a2 ha2 h2 24) (fun d rt' hd => ?_)) | ((first | refine zV ?_ | (apply zI; refine zP aH ?_)) <;> conv => whnf) | fail
 obtain ⟨x, a3, h3, hx, ha3, rfl, rfl⟩ := hd
 refine ⟨rfl, by simp, ?_⟩
 conv => whnf
 have hx2 := hx.2 (by omega)
 have hm1 := hm.1
 have hm2 := hm.2
 have hnm : (cnt 1 (ints (L (n - i.toNat) (F.c i.toNat))) : Nat) = n - i.toNat := by simp [aB]
 repeat' first | (refine bM [1] (dV o l hb hl a3 ha3 h3 (cnt 1 (ints (L (n - i.toNat) (F.c i.toNat))) : Nat)) (fun d rt' hd => ?_)) | (refine bM [1, 5] (sR o l hb hl a3 ha3 h3 [1, 10001, 2] (by simp)) (fun d rt' hd => ?_)) | ((refine zP (show zF _ _ = true by decide +kernel) ?_; conv => whnf)) | ((first | refine z0 ?_ | (refine zP (fun h => ?_) (fun h => ?_) <;> (try simp only [aB, aD] at h) <;> first | (exfalso; omega) | skip) | refine zV ?_ | refine Or.inl ?_) <;> conv => whnf) | fail
 · obtain ⟨y, a4, h4, hy, ha4, rfl, rfl⟩ := hd
   refine ⟨rfl, by simp, ?_⟩
   conv => whnf
   have hy2 := hy.2 (by omega)
   repeat' first | (refine bM [1] (dV o l hb hl a4 ha4 h4 (m + 1)) (fun d rt' hd => ?_)) | ((refine zP (show (_ : List (Option Root))[_]? = _ from rfl) ?_; conv => whnf)) | fail
   obtain ⟨z, a5, h5, hz, ha5, rfl, rfl⟩ := hd
   refine ⟨rfl, by simp, ?_⟩
   conv => whnf
   repeat' first | ((refine zP (show (_ : List (Option Root))[_]? = _ from rfl) ?_; conv => whnf)) | ((first | refine z0 ?_ | refine zV ?_ | (apply zI; refine zP aK ?_)) <;> conv => whnf) | fail
   have hz2 := hz.2 (by omega)
   first
     | (refine ⟨.agg [aA (m), .list false 1 (rows false (cR (Tb n F) i.toNat y.toNat z))], [none, some (aU o l a5 h5)], ⟨m, cR (Tb n F) i.toNat y.toNat z, a5, h5, ⟨by have := hm.1; omega, by omega⟩, Aqg (jD (by omega) F) _ _ _, ha5, rfl, rfl⟩, aC.trans (aC.freezeR (kp := 2) (r := 3) (s0 := 1) (env' := [.agg [aA (m), .list false 1 (rows false (cR (Tb n F) i.toNat y.toNat z))]]) rfl rfl (iV (jX (by rw [sV]; simp) (by rw [List.drop_zero, List.take_of_length_le (by rw [sV]; simp)])))) (aC.of (kp := 2) [none, some 1] ?_)⟩
        (conv => whnf)
        repeat' ((first | refine zP rfl ?_ | exact trivial) <;> try (conv => whnf))
        done)
 · obtain ⟨y, a4, h4, hy, ha4, rfl, rfl⟩ := hd
   refine ⟨rfl, by simp, ?_⟩
   conv => whnf
   have hy2 : 1 ≤ y ∧ y ≤ 10001 := by
     simp only [List.mem_cons, List.not_mem_nil, or_false] at hy
     omega
   repeat' first | ((first | refine z0 ?_ | (refine zP (fun h => ?_) (fun h => ?_) <;> (try simp only [aB, aD] at h) <;> first | (exfalso; omega) | skip) | refine zS ?_ | refine zV ?_ | (apply zI; refine zP aK ?_) | (apply zI; refine zP aH ?_)) <;> conv => whnf) | fail
   first
     | (refine ⟨.agg [aA (y), .list false 1 (rows false (Tb n F))], [none, some (aU o l a4 h4)], ⟨y, Tb n F, a4, h4, hy2, jD (by omega) F, ha4, rfl, rfl⟩, aC.trans (aC.freezeR (kp := 2) (r := 3) (s0 := 1) (env' := [.agg [aA (y), .list false 1 (rows false (Tb n F))]]) rfl rfl (iV (jX (by simp) (by rw [List.drop_zero, List.take_of_length_le (by simp)])))) (aC.of (kp := 2) [none, some 1] ?_)⟩
        (conv => whnf)
        repeat' ((first | refine zP rfl ?_ | exact trivial) <;> try (conv => whnf))
        done)
 · first
     | (refine ⟨.agg [aA (m), .list false 1 (rows false ((Tb n F).drop 1))], [none, some (aU o l a3 h3)], ⟨m, (Tb n F).drop 1, a3, h3, ⟨by have := hm.1; omega, by omega⟩, Ar4 (jD (by omega) F), ha3, rfl, rfl⟩, aC.trans (aC.freezeR (kp := 2) (r := 3) (s0 := 1) (env' := [.agg [aA (m), .list false 1 (rows false ((Tb n F).drop 1))]]) rfl rfl (iV (jX (by simp; omega) (by simp [List.take_of_length_le])))) (aC.of (kp := 2) [none, some 1] ?_)⟩
        (conv => whnf)
        repeat' ((first | refine zP rfl ?_ | exact trivial) <;> try (conv => whnf))
        done)
 · first
     | (refine ⟨.agg [aA (m), .list false 1 (rows false ([]))], [none, some (aU o l a3 h3)], ⟨m, [], a3, h3, ⟨by have := hm.1; omega, by omega⟩, Ali, ha3, rfl, rfl⟩, aC.trans (aC.freezeR (kp := 2) (r := 3) (s0 := 1) (env' := [.agg [aA (m), .list false 1 (rows false ([]))]]) rfl rfl (iV Arb)) (aC.of (kp := 2) [none, some 1] ?_)⟩
        (conv => whnf)
        repeat' ((first | refine zP rfl ?_ | exact trivial) <;> try (conv => whnf))
        done)
 · first
     | (refine ⟨.agg [aA (m), .list false 1 (rows false (Tb n F))], [none, some (aU o l a3 h3)], ⟨m, Tb n F, a3, h3, ⟨by have := hm.1; omega, by omega⟩, jD (by omega) F, ha3, rfl, rfl⟩, aC.trans (aC.freezeR (kp := 2) (r := 3) (s0 := 1) (env' := [.agg [aA (m), .list false 1 (rows false (Tb n F))]]) rfl rfl (iV (jX (by simp) (by rw [List.drop_zero, List.take_of_length_le (by simp)])))) (aC.of (kp := 2) [none, some 1] ?_)⟩
        (conv => whnf)
        repeat' ((first | refine zP rfl ?_ | exact trivial) <;> try (conv => whnf))
        done)
theorem Aok (o : Bool) (l : List Nat) (hl : l.length ≤ 9223372036854775807) : aL Tryz.prog 8 [.list o 1 (dR l)] (bD (decide (4096 < l.length))) := by
 have hc : cnt 1 (dR l) = l.length := by simp [aB]
 refine aX Tryz.tabOk aE Tryz.func8 rfl rfl ?_
 conv => whnf
 repeat' first | ((first | refine z0 ?_ | (refine zP (fun h => ?_) (fun h => ?_) <;> (try simp only [aB, aD] at h)) | refine zS ?_ | refine zV ?_ | (apply zI; refine zP aK ?_) | (apply zI; refine zP aH ?_) | refine zA ?_ | refine Alt.fst ?_ | refine Or.inl ?_) <;> conv => whnf) | fail
 all_goals first | rfl | (refine bO ?_; simp at *; omega)
theorem Aqd {a b : List Int} (h : a.length = b.length) (hab : a ≠ b) (hk : ∀ k, k < a.length → a.getD k 0 = b.getD k 0) : False :=
 hab (List.ext_getElem h (fun i h1 h2 => by have := hk i h1; simpa [h1, h2] using this))
theorem lG (o o' : Bool) (a b : List Int) (ha : a.length ≤ 9223372036854775807) (hb : b.length ≤ 9223372036854775807) : aL Tryz.prog 35 [.list o 1 (ints a), .list o' 1 (ints b)] (bD (decide (a = b))) := by
 have h1 : cnt 1 (ints a) = a.length := by simp [aB]
 have h2 : cnt 1 (ints b) = b.length := by simp [aB]
 by_cases hab : a = b
 · subst hab
   rw [show decide (a = a) = true by simp]
   refine aX Tryz.tabOk aE Tryz.func35 rfl rfl ?_
   conv => whnf
   repeat' first | ((first | refine z0 ?_ | (refine zP (fun h => ?_) (fun h => ?_) <;> (try simp only [aB, aD] at h) <;> first | (exfalso; omega) | skip) | refine zS ?_ | refine zV ?_ | (apply zI; refine zP aK ?_) | (apply zI; refine zP aH ?_)) <;> conv => whnf) | fail
   refine aR Tryz.tabOk aE (α := Nat) (fun i => [(5, aA i)]) (fun i => []) (fun i => i ≤ a.length) (fun i => a.length - i) (0) ?_ ?_ ?_
   · omega
   · conv => whnf
     first | refine aG.autoR ?_ | refine aC.autoR ?_
     conv => whnf
     repeat' ((first | refine z1 ?_ | refine z2 ?_ | refine zV ?_ | refine zP bQ ?_ | refine zP bR ?_ | refine zP ?_ ?_ | exact trivial) <;> try (conv => whnf))
   intro i hi
   conv => whnf
   repeat' first | ((first | refine z0 ?_ | (refine zP (fun h => ?_) (fun h => ?_) <;> (try simp only [aB, aD] at h) <;> first | (exfalso; omega) | skip) | refine zS ?_ | refine zV ?_ | (apply zI; refine zP aK ?_) | (apply zI; refine zP aH ?_)) <;> conv => whnf) | fail
   · refine Exists.intro (i + 1) (zP aF (zP aF ?_))
     first | refine aG.autoR ?_ | refine aC.autoR ?_
     conv => whnf
     repeat' ((first | refine z1 ?_ | refine z2 ?_ | refine zV ?_ | refine zP bQ ?_ | refine zP bR ?_ | refine zP ?_ ?_ | exact trivial) <;> try (conv => whnf))
   all_goals first | rfl
 · rw [show decide (a = b) = false by simp [hab]]
   refine aX Tryz.tabOk aE Tryz.func35 rfl rfl ?_
   conv => whnf
   by_cases hl : a.length = b.length
   · repeat' first | ((first | refine z0 ?_ | (refine zP (fun h => ?_) (fun h => ?_) <;> (try simp only [aB, aD] at h) <;> first | (exfalso; omega) | skip) | refine zS ?_ | refine zV ?_ | (apply zI; refine zP aK ?_) | (apply zI; refine zP aH ?_)) <;> conv => whnf) | fail
     refine aR Tryz.tabOk aE (α := Nat) (fun i => [(5, aA i)]) (fun i => []) (fun i => i ≤ a.length ∧ ∀ k, k < i → a.getD k 0 = b.getD k 0) (fun i => a.length - i) (0) ?_ ?_ ?_
     · exact ⟨by omega, by omega⟩
     · conv => whnf
       first | refine aG.autoR ?_ | refine aC.autoR ?_
       conv => whnf
       repeat' ((first | refine z1 ?_ | refine z2 ?_ | refine zV ?_ | refine zP bQ ?_ | refine zP bR ?_ | refine zP ?_ ?_ | exact trivial) <;> try (conv => whnf))
     intro i hi
     obtain ⟨hi, hk⟩ := hi
     conv => whnf
     by_cases hin : i < a.length
     · repeat' first | ((first | refine z0 ?_ | (refine zP (fun h => ?_) (fun h => ?_) <;> (try simp only [aB, aD] at h) <;> first | (exfalso; omega) | skip) | refine zS ?_ | refine zV ?_ | (apply zI; refine zP aK ?_) | (apply zI; refine zP aH ?_)) <;> conv => whnf) | fail
       · refine Exists.intro (i + 1) (zP ⟨by omega, fun k hk9 => ?_⟩ (zP aF ?_))
         · rcases Nat.lt_or_ge k i with h9 | h9
           · exact hk k h9
           · have e : k = i := by omega
             rw [e]; omega
         first | refine aG.autoR ?_ | refine aC.autoR ?_
         conv => whnf
         repeat' ((first | refine z1 ?_ | refine z2 ?_ | refine zV ?_ | refine zP bQ ?_ | refine zP bR ?_ | refine zP ?_ ?_ | exact trivial) <;> try (conv => whnf))
     · exact (Aqd hl hab (fun k hk9 => hk k (by omega))).elim
   · repeat' first | ((first | refine z0 ?_ | (refine zP (fun h => ?_) (fun h => ?_) <;> (try simp only [aB, aD] at h) <;> first | (exfalso; omega) | skip) | refine zS ?_ | refine zV ?_ | (apply zI; refine zP aK ?_) | (apply zI; refine zP aH ?_)) <;> conv => whnf) | fail
     all_goals first | rfl
theorem pW : aL Tryz.prog 35 [.lit (.slice none 0 0), .lit (.slice none 0 0)] (bD true) := by
 refine aX Tryz.tabOk aE Tryz.func35 rfl rfl ?_
 conv => whnf
 repeat' first | ((first | refine z0 ?_ | (refine zP (fun h => ?_) (fun h => ?_) <;> (try simp only [aB, aD] at h) <;> first | (exfalso; omega) | skip) | refine zS ?_ | refine zV ?_ | (apply zI; refine zP aK ?_) | (apply zI; refine zP aH ?_)) <;> conv => whnf) | fail
 refine aR Tryz.tabOk aE (α := Nat) (fun i => [(5, aA i)]) (fun i => []) (fun i => i = 0) (fun i => i) (0) ?_ ?_ ?_
 · omega
 · conv => whnf
   first | refine aG.autoR ?_ | refine aC.autoR ?_
   conv => whnf
   repeat' ((first | refine z1 ?_ | refine z2 ?_ | refine zV ?_ | refine zP bQ ?_ | refine zP bR ?_ | refine zP ?_ ?_ | exact trivial) <;> try (conv => whnf))
 intro i hi
 subst hi
 conv => whnf
 repeat' first | ((first | refine z0 ?_ | (refine zP (fun h => ?_) (fun h => ?_) <;> (try simp only [aB, aD] at h) <;> first | (exfalso; omega) | skip) | refine zS ?_ | refine zV ?_ | (apply zI; refine zP aK ?_) | (apply zI; refine zP aH ?_)) <;> conv => whnf) | fail
end Go.Proofs
namespace Go.Vm
open Go
def xY (k : Nat) (st : St) : St := ⟨st.env.take k ++ List.replicate (st.env.length - k) .undef, st.rt⟩
structure Hold (p : Prop) : Prop where
 out : p
section
variable {P : Program} {T : Tab} {kp : Nat}
theorem P5 (hT : TabOk P T) (hm : P.follows .mixedOrders = true) (k : Nat) {body : Code} {Q : Exit → St → Prop} {st : St} {α : Type} (cs : α → List (Nat × D)) (rs : α → List (Nat × Option Root)) (J : α → Prop) (μ : α → Nat) (x0 : α) (h0 : J x0)
   (hw : nD (iJ body) fun ds => aG kp st (iB kp (lH (xY k st) ds (cs x0) (rs x0))))
   (round : ∀ x, J x → nD (iJ body) fun ds => rY kp (lH (xY k st) ds (cs x) (rs x)) (iH P T kp body (fun e st' => match e with
     | .normal => ∃ y, J y ∧ μ y < μ x ∧ aC kp st' (iB kp (lH (xY k st) ds (cs y) (rs y)))
     | e => Q e st'))) : iR P kp body Q st :=
 X4 hT hm (fun x => iB kp (lH (xY k st) (iJ body) (cs x) (rs x))) J μ x0 h0 (by rw [sM] at hw; exact hw.to) (fun x hx => by
   have h := round x hx
   rw [sM, D1, rR] at h
   exact h)
end
end Go.Vm
namespace Go.Proofs
open Go Go.Vm Go.Fg Go.Fg.PS
set_option maxRecDepth 100000
set_option maxHeartbeats 4000000
set_option linter.unusedSimpArgs false
set_option linter.unusedVariables false
variable {m : Int}
def M6 (w : PS (Zm m)) (G : PS (PS (Zm m))) (k : Nat) : Nat → PS (PS (Zm m))
 | 0 => G
 | i + 1 => bT (M6 w G k i) i (k - 1 - i) (w.c k)
def wW (w : PS (Zm m)) : Nat → PS (PS (Zm m))
 | 0 => 0
 | k + 1 => M6 w (wW w k) (k + 1) (k + 1)
def yD (w : PS (Zm m)) : Nat → PS (PS (Zm m))
 | 0 => 0
 | k + 1 => bT (yD w k) k 0 (w.c k)
def oK : PS (Zm m) := ⟨fun k => if k % 2 = 0 then 1 else -1⟩
def G4 (a w : PS (Zm m)) : PS (Zm m) := ⟨fun k => if k = 0 then 1 else Zm.mk m (m - ((a.c 2).val * (w.c k).val + (if k = 1 then (a.c 0).val else 0)).tmod m)⟩
theorem xU (hm : Md m) : m - 1 = (-1 : Zm m).val := by
 have h1 := hm.1
 have e := oH hm (show 0 ≤ m - 1 by omega)
 rw [Int.tmod_eq_of_lt (by omega) (by omega)] at e
 rw [e]
 congr 1
 rw [Zm.mk_sub, Zm.mk_self, Go.Fg.sub_def, CR.zero_add]; rfl
section
variable (n : Nat) (a : PS (Zm m))
def w0 : PS (Zm m) := wS a.c (n + 1 - 3)
def iE : PS (PS (Zm m)) := wW (w0 n a) n
def qM : PS (PS (Zm m)) := yD (w0 n a) n + PS.C (PS.C (-1)) * (iE n a * bT 0 1 0 1)
def oJ : PS (PS (Zm m)) := iE n a * iE n a
def D3 : PS (PS (Zm m)) := PS.C (PS.C (a.c 0)) * iE n a + PS.C (PS.C (a.c 1)) * qM n a
def I8 : PS (PS (Zm m)) := D3 n a + PS.C (PS.C (a.c 2)) * oJ n a
def H7 : PS (PS (Zm m)) := iE n a * qM n a
def M7 : PS (PS (Zm m)) := I8 n a + PS.C (PS.C (Zm.mk m (2 * (a.c (Int.toNat 3)).val))) * H7 n a
def P6 : PS (PS (Zm m)) := oJ n a * qM n a
def xK : PS (PS (Zm m)) := M7 n a + PS.C (PS.C (Zm.mk m (3 * (a.c (Int.toNat 4)).val))) * P6 n a
def J7 : PS (PS (Zm m)) := PS.C (PS.C (a.c 1)) * iE n a + PS.C (PS.C (a.c 3)) * oJ n a
def Q5 : PS (PS (Zm m)) := oJ n a * iE n a
def vY : PS (PS (Zm m)) := J7 n a + PS.C (PS.C (a.c 4)) * Q5 n a
def wQ : PS (PS (Zm m)) := xK n a * bC oK (vY n a) 0 n
def wU : PS (PS (Zm m)) := PS.C (PS.C (-1)) * (bT 0 1 0 1 + turn (bT 0 1 0 1) + wQ n a)
def lN : PS (Zm m) := G4 a (w0 n a)
def wF : PS (PS (Zm m)) := bC ((⟨fun k => if k = 1 then -1 else 0⟩ : PS (Zm m)) * inv (aY m ((lN n a).c 0).val) (lN n a)) (wU n a) 0 n
end
noncomputable def X6 (hm : Md m) (o : Bool) (n : Nat) (hn : 2 ≤ n ∧ n ≤ 11) {d : Int} (hd : d + 1 = n) (a : PS (Zm m)) (F : PS (PS (Zm m))) : (R : Prop) ×' (Hold R → aL Tryz.prog 117 [aA m, aA d, LD o 5 a] (cH true true n F)) := by
 have hm1 := hm.1
 have hm2 := hm.2
 apply PSigma.mk
 intro h0
 refine aX Tryz.tabOk aE Tryz.func117 rfl rfl ?_
 conv => whnf
 repeat' first | ((first | (apply zI; refine zP (kT (m := m) n aF aF) ?_) | (apply zI; refine zP (Akm hm _ (n + 1) aF aF a) ?_) | refine zV ?_ | refine Or.inl ?_) <;> conv => whnf) | fail
 rw [show wS a.c (n + 1 - 3) = w0 n a from rfl]
 refine aR Tryz.tabOk aE (α := Nat) (fun k => [(9, aA ((k : Int) + 1))]) (fun k => [(1, some ⟨false, 1, rows true (Tb n (wW (w0 n a) k))⟩)]) (fun k => k ≤ n) (fun k => n - k) (0) ?_ ?_ ?_
 · omega
 · conv => whnf
   first | refine aG.autoR ?_ | refine aC.autoR ?_
   conv => whnf
   repeat' ((first | refine z1 ?_ | refine z2 ?_ | refine zV ?_ | refine zP bQ ?_ | refine zP bR ?_ | refine zP ?_ ?_ | exact trivial) <;> try (conv => whnf))
   all_goals first | rfl
 intro k hk
 conv => whnf
 repeat' first | ((first | (apply zI; refine zP (kT (m := m) n aF aF) ?_) | (refine zP (fun h => ?_) (fun h => ?_) <;> (try simp only [aB, aD] at h)) | refine zV ?_ | (apply zI; refine zP aK ?_) | (apply zI; refine zP aH ?_) | refine Or.inl ?_) <;> conv => whnf) | fail
 · have hkn : k < n := aF
   refine aR Tryz.tabOk aE (α := Nat) (fun i => [(10, aA i)]) (fun i => [(1, some ⟨false, 1, rows true (Tb n (M6 (w0 n a) (wW (w0 n a) k) (k + 1) i))⟩)]) (fun i => i ≤ k + 1) (fun i => n - i) (0) ?_ ?_ ?_
   · omega
   · conv => whnf
     first | refine aG.autoR ?_ | refine aC.autoR ?_
     conv => whnf
     repeat' ((first | refine z1 ?_ | refine z2 ?_ | refine zV ?_ | refine zP bQ ?_ | refine zP bR ?_ | refine zP ?_ ?_ | exact trivial) <;> try (conv => whnf))
     all_goals first | rfl
   intro i hi
   conv => whnf
   repeat' first | ((first | refine z0 ?_ | (refine zP (fun h => ?_) (fun h => ?_) <;> (try simp only [aB, aD] at h)) | refine zS ?_ | refine zV ?_ | (apply zI; refine zP aK ?_) | (apply zI; refine zP aH ?_) | refine zA ?_ | refine Alt.fst ?_ | refine Or.inl ?_) <;> conv => whnf) | fail
   · have hik : i < k + 1 := aF
     refine Exists.intro (i + 1) (zP aF (zP aF ?_))
     first | refine aG.autoR ?_ | refine aC.autoR ?_
     conv => whnf
     repeat' ((first | refine z1 ?_ | refine z2 ?_ | refine zV ?_ | refine zP bQ ?_ | refine zP bR ?_ | refine zP ?_ ?_ | exact trivial) <;> try (conv => whnf))
     all_goals first
       | exact bV (dX ((w0 n a).c (k + 1)) rfl (by omega) (cC.of_eq rfl))
       | (rw [show ((k : Int) + 1 - 1 - (i : Int)).toNat = k - i by omega]; exact bV (dX ((w0 n a).c (k + 1)) rfl (by omega) (cC.of_eq rfl)))
   · have hik : i = k + 1 := aF
     refine Exists.intro (k + 1) (zP aF (zP aF ?_))
     first | refine aG.autoR ?_ | refine aC.autoR ?_
     conv => whnf
     repeat' ((first | refine z1 ?_ | refine z2 ?_ | refine zV ?_ | refine zP bQ ?_ | refine zP bR ?_ | refine zP ?_ ?_ | exact trivial) <;> try (conv => whnf))
     all_goals first | (rw [hik]; rfl) | omega
 have hkn : n = k := by omega
 subst hkn
 have h1 : (1 : Int) = (1 : Zm m).val := (Zm.val_one (by omega)).symm
 rw [show cR (Tb n (0 : PS (PS (Zm m)))) 1 0 1 = Tb n (bT 0 1 0 1) from dX (1 : Zm m) h1 (by omega) (cC.of_eq rfl)]
 rw [show wW (w0 n a) n = iE n a from rfl]
 refine P5 Tryz.tabOk aE 26 (α := Nat) (fun i => [(8, .ref 1 [] 1 0 n), (9, .undef), (11, .ref 2 [] 1 0 n), (12, .ref 3 [] 1 0 n), (13, aA i)]) (fun i => [(3, some ⟨false, 1, rows true (Tb n (yD (w0 n a) i))⟩)]) (fun i => i ≤ n) (fun i => n - i) (0) ?_ ?_ ?_
 · omega
 · conv => whnf
   first | refine aG.autoR ?_ | refine aC.autoR ?_
   conv => whnf
   repeat' ((first | refine z1 ?_ | refine z2 ?_ | refine zV ?_ | refine zP bQ ?_ | refine zP bR ?_ | refine zP ?_ ?_ | exact trivial) <;> try (conv => whnf))
   all_goals first | rfl
 exact h0.out
end Go.Proofs
