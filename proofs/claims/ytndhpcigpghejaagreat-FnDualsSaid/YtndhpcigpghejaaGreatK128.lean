import Derived.Test.YtndhpcigpghejaaGreatK125
import Derived.Test.YtndhpcigpghejaaGreatK127
import Derived.Test.YtndhpcigpghejaaGreatK112
import Derived.Test.YtndhpcigpghejaaGreatK16
import Derived.Test.YtndhpcigpghejaaGreatK22
namespace Go.Proofs
open Go Go.Vm Go.Fg Go.Fg.PS
set_option maxRecDepth 100000
set_option maxHeartbeats 4000000
set_option linter.unusedSimpArgs false
set_option linter.unusedVariables false
variable {m : Int}
theorem c_l03Both2 (hm : Md m) (o p o1 : Bool) (n : Nat) (hn : 2 ≤ n ∧ n ≤ 100) (f : PS (PS (Zm m))) (a : PS (Zm m)) : PureCall Tryz.prog 383 [dint m, TbD o p n f, LD o1 n a] (TbD true true n (bI f a a n n)) := by
 refine pure_of_vcR Tryz.tabOk mixOrd Tryz.func383 rfl rfl ?_
 conv => whnf
 repeat' first | ((first | refine z0 ?_ | (apply zI; refine zP (c_l03Both hm _ _ _ _ n hn f a a) ?_) | refine zV ?_ | refine Or.inl ?_) <;> conv => whnf) | fail
theorem c_l06Conjugate (hm : Md m) (o p o1 : Bool) (n : Nat) (hn : 2 ≤ n ∧ n ≤ 11) (f : PS (PS (Zm m))) (a : PS (Zm m)) : PureCall Tryz.prog 253 [dint m, TbD o p n f, LD o1 n a] (TbD true true n (comp2N a (bI f (rev (invN m (a.c 1).val) a) (rev (invN m (a.c 1).val) a) n n) 0 n)) := by
 have hm1 := hm.1
 have hm2 := hm.2
 refine pure_of_vcR Tryz.tabOk mixOrd Tryz.func253 rfl rfl ?_
 conv => whnf
 repeat' first | ((first | refine z0 ?_ | (apply zI; refine zP (c_l02Reverse hm _ n n (by simp [cnt1]) (by omega) (by omega) (by omega) a _ (c_l01Inv hm _)) ?_) | (apply zI; refine zP (c_l03Both2 hm _ _ _ n (by omega) f _) ?_) | (apply zI; refine zP (c_l03After hm _ _ _ n (by omega) n (by omega) a _) ?_) | refine zV ?_ | (apply zI; refine zP vObt ?_) | (apply zI; refine zP vObx ?_) | refine Or.inl ?_) <;> conv => whnf) | fail
theorem ofRange {x : Int} (h : 0 ≤ x ∧ x < m) : ∃ z : Zm m, x = z.val := ⟨Zm.mk m x, (Int.emod_eq_of_lt h.1 h.2).symm⟩
theorem c_l08Any (hm : Md m) (o : Bool) (l : List Nat) (hb : ∀ b ∈ l, b < 256) (hl : l.length ≤ 4611686018427387904) (a : Nat) (ha : a ≤ l.length) (hs : Int) (n : Nat) (hn : 2 ≤ n ∧ n ≤ 11) {d : Int} (hd : d + 1 = n) (hW : ∀ (o : Bool) (a : PS (Zm m)), ∃ F : PS (PS (Zm m)), PureCall Tryz.prog 184 [dint m, dint d, LD o 5 a] (TbD true true n F)) :
   CallsTo Tryz.prog 423 2 [.ptr 1 [] 0, dint m, dint d] [none, some (srcR o l a hs)]
     (fun d rt => ∃ (f : PS (PS (Zm m))) (a' : Nat) (h' : Int), a' ≤ l.length ∧ d = .ref 2 [] 1 0 n ∧ rt = [none, some (srcR o l a' h'), some ⟨false, 1, rows true (Tb n f)⟩]) := by
 have hm1 := hm.1
 have hm2 := hm.2
 refine callsTo_of Tryz.tabOk mixOrd 2 _ Tryz.func423 rfl rfl ?_
 conv => whnf
 repeat' first | (refine borA [1] (c_l01Next o l hb hl a ha hs 6) (fun d rt' hd => ?_)) | fail
 obtain ⟨x, a1, h1, hx, ha1, rfl, rfl⟩ := hd
 refine ⟨rfl, by simp, ?_⟩
 conv => whnf
 have hx2 := hx.2 (by omega)
 have k0 := c_l08Multiplicative hm n hn hd 0
 rw [Zm.val_zero] at k0
 repeat' first | (refine borA [1] (c_l01Next o l hb hl a1 ha1 h1 m) (fun d rt' hd => ?_)) | (refine borA [1] (c_l08DrawList hm o l hb hl a1 ha1 h1) (fun d rt' hd => ?_)) | ((first | refine z0 ?_ | (apply zI; refine zP (k0) ?_) | (refine And.intro (fun h => ?_) (fun h => ?_) <;> (try simp only [cnt1, ints_length] at h) <;> first | (exfalso; omega) | skip) | refine zV ?_ | refine Or.inl ?_) <;> conv => whnf) | fail
 · first
     | (refine ⟨.ref 2 [] 1 0 n, [none, some (srcR o l a1 h1), some ⟨false, 1, rows true (Tb n (mulT n 0))⟩], ⟨mulT n 0, a1, h1, ha1, rfl, rfl⟩, Weak.of (kp := 2) [none, some 1, some 2] ?_⟩
        (conv => whnf)
        repeat' ((first | refine And.intro rfl ?_ | refine And.intro vOb ?_ | exact trivial) <;> try (conv => whnf))
        all_goals first | omega | (simp [cnt1]; done)
        done)
     | (refine ⟨.ref 2 [] 1 0 n, [none, some (srcR o l a1 h1), some ⟨false, 1, rows true (Tb n (mulT n 0))⟩], ⟨mulT n 0, a1, h1, ha1, rfl, rfl⟩, Weak.of (kp := 2) [none, some 1, some 3] ?_⟩
        (conv => whnf)
        repeat' ((first | refine And.intro rfl ?_ | refine And.intro vOb ?_ | exact trivial) <;> try (conv => whnf))
        all_goals first | omega | (simp [cnt1]; done)
        done)
     | (refine ⟨.ref 2 [] 1 0 n, [none, some (srcR o l a1 h1), some ⟨false, 1, rows true (Tb n (mulT n 0))⟩], ⟨mulT n 0, a1, h1, ha1, rfl, rfl⟩, Weak.of (kp := 2) [none, some 1, some 4] ?_⟩
        (conv => whnf)
        repeat' ((first | refine And.intro rfl ?_ | refine And.intro vOb ?_ | exact trivial) <;> try (conv => whnf))
        all_goals first | omega | (simp [cnt1]; done)
        done)
     | (refine ⟨.ref 2 [] 1 0 n, [none, some (srcR o l a1 h1), some ⟨false, 1, rows true (Tb n (mulT n 0))⟩], ⟨mulT n 0, a1, h1, ha1, rfl, rfl⟩, Weak.of (kp := 2) [none, some 1, some 5] ?_⟩
        (conv => whnf)
        repeat' ((first | refine And.intro rfl ?_ | refine And.intro vOb ?_ | exact trivial) <;> try (conv => whnf))
        all_goals first | omega | (simp [cnt1]; done)
        done)
     | (refine ⟨.ref 2 [] 1 0 n, [none, some (srcR o l a1 h1), some ⟨false, 1, rows true (Tb n (mulT n 0))⟩], ⟨mulT n 0, a1, h1, ha1, rfl, rfl⟩, Weak.of (kp := 2) [none, some 1, some 6] ?_⟩
        (conv => whnf)
        repeat' ((first | refine And.intro rfl ?_ | refine And.intro vOb ?_ | exact trivial) <;> try (conv => whnf))
        all_goals first | omega | (simp [cnt1]; done)
        done)
 · obtain ⟨yz, a2, h2, hy, ha2, rfl, rfl⟩ := hd
   refine ⟨rfl, by simp, ?_⟩
   conv => whnf
   obtain ⟨z, rfl⟩ := ofRange (hy.2 (by omega))
   repeat' first | ((first | refine z0 ?_ | (apply zI; refine zP (c_l08Multiplicative hm n hn hd z) ?_) | refine Or.inl ?_) <;> conv => whnf) | fail
   first
     | (refine ⟨.ref 2 [] 1 0 n, [none, some (srcR o l a2 h2), some ⟨false, 1, rows true (Tb n (mulT n z))⟩], ⟨mulT n z, a2, h2, ha2, rfl, rfl⟩, Weak.of (kp := 2) [none, some 1, some 2] ?_⟩
        (conv => whnf)
        repeat' ((first | refine And.intro rfl ?_ | refine And.intro vOb ?_ | exact trivial) <;> try (conv => whnf))
        all_goals first | omega | (simp [cnt1]; done)
        done)
     | (refine ⟨.ref 2 [] 1 0 n, [none, some (srcR o l a2 h2), some ⟨false, 1, rows true (Tb n (mulT n z))⟩], ⟨mulT n z, a2, h2, ha2, rfl, rfl⟩, Weak.of (kp := 2) [none, some 1, some 3] ?_⟩
        (conv => whnf)
        repeat' ((first | refine And.intro rfl ?_ | refine And.intro vOb ?_ | exact trivial) <;> try (conv => whnf))
        all_goals first | omega | (simp [cnt1]; done)
        done)
     | (refine ⟨.ref 2 [] 1 0 n, [none, some (srcR o l a2 h2), some ⟨false, 1, rows true (Tb n (mulT n z))⟩], ⟨mulT n z, a2, h2, ha2, rfl, rfl⟩, Weak.of (kp := 2) [none, some 1, some 4] ?_⟩
        (conv => whnf)
        repeat' ((first | refine And.intro rfl ?_ | refine And.intro vOb ?_ | exact trivial) <;> try (conv => whnf))
        all_goals first | omega | (simp [cnt1]; done)
        done)
     | (refine ⟨.ref 2 [] 1 0 n, [none, some (srcR o l a2 h2), some ⟨false, 1, rows true (Tb n (mulT n z))⟩], ⟨mulT n z, a2, h2, ha2, rfl, rfl⟩, Weak.of (kp := 2) [none, some 1, some 5] ?_⟩
        (conv => whnf)
        repeat' ((first | refine And.intro rfl ?_ | refine And.intro vOb ?_ | exact trivial) <;> try (conv => whnf))
        all_goals first | omega | (simp [cnt1]; done)
        done)
     | (refine ⟨.ref 2 [] 1 0 n, [none, some (srcR o l a2 h2), some ⟨false, 1, rows true (Tb n (mulT n z))⟩], ⟨mulT n z, a2, h2, ha2, rfl, rfl⟩, Weak.of (kp := 2) [none, some 1, some 6] ?_⟩
        (conv => whnf)
        repeat' ((first | refine And.intro rfl ?_ | refine And.intro vOb ?_ | exact trivial) <;> try (conv => whnf))
        all_goals first | omega | (simp [cnt1]; done)
        done)
 · obtain ⟨yz, a2, h2, hy, ha2, rfl, rfl⟩ := hd
   refine ⟨rfl, by simp, ?_⟩
   conv => whnf
   obtain ⟨z, rfl⟩ := ofRange (hy.2 (by omega))
   repeat' first | ((first | refine z0 ?_ | (apply zI; refine zP (c_l08Multiplicative hm n hn hd z) ?_) | refine Or.inl ?_) <;> conv => whnf) | fail
   first
     | (refine ⟨.ref 2 [] 1 0 n, [none, some (srcR o l a2 h2), some ⟨false, 1, rows true (Tb n (mulT n z))⟩], ⟨mulT n z, a2, h2, ha2, rfl, rfl⟩, Weak.of (kp := 2) [none, some 1, some 2] ?_⟩
        (conv => whnf)
        repeat' ((first | refine And.intro rfl ?_ | refine And.intro vOb ?_ | exact trivial) <;> try (conv => whnf))
        all_goals first | omega | (simp [cnt1]; done)
        done)
     | (refine ⟨.ref 2 [] 1 0 n, [none, some (srcR o l a2 h2), some ⟨false, 1, rows true (Tb n (mulT n z))⟩], ⟨mulT n z, a2, h2, ha2, rfl, rfl⟩, Weak.of (kp := 2) [none, some 1, some 3] ?_⟩
        (conv => whnf)
        repeat' ((first | refine And.intro rfl ?_ | refine And.intro vOb ?_ | exact trivial) <;> try (conv => whnf))
        all_goals first | omega | (simp [cnt1]; done)
        done)
     | (refine ⟨.ref 2 [] 1 0 n, [none, some (srcR o l a2 h2), some ⟨false, 1, rows true (Tb n (mulT n z))⟩], ⟨mulT n z, a2, h2, ha2, rfl, rfl⟩, Weak.of (kp := 2) [none, some 1, some 4] ?_⟩
        (conv => whnf)
        repeat' ((first | refine And.intro rfl ?_ | refine And.intro vOb ?_ | exact trivial) <;> try (conv => whnf))
        all_goals first | omega | (simp [cnt1]; done)
        done)
     | (refine ⟨.ref 2 [] 1 0 n, [none, some (srcR o l a2 h2), some ⟨false, 1, rows true (Tb n (mulT n z))⟩], ⟨mulT n z, a2, h2, ha2, rfl, rfl⟩, Weak.of (kp := 2) [none, some 1, some 5] ?_⟩
        (conv => whnf)
        repeat' ((first | refine And.intro rfl ?_ | refine And.intro vOb ?_ | exact trivial) <;> try (conv => whnf))
        all_goals first | omega | (simp [cnt1]; done)
        done)
     | (refine ⟨.ref 2 [] 1 0 n, [none, some (srcR o l a2 h2), some ⟨false, 1, rows true (Tb n (mulT n z))⟩], ⟨mulT n z, a2, h2, ha2, rfl, rfl⟩, Weak.of (kp := 2) [none, some 1, some 6] ?_⟩
        (conv => whnf)
        repeat' ((first | refine And.intro rfl ?_ | refine And.intro vOb ?_ | exact trivial) <;> try (conv => whnf))
        all_goals first | omega | (simp [cnt1]; done)
        done)
 · obtain ⟨yz, a2, h2, hy, ha2, rfl, rfl⟩ := hd
   refine ⟨rfl, by simp, ?_⟩
   conv => whnf
   obtain ⟨z, rfl⟩ := ofRange (hy.2 (by omega))
   repeat' first | ((first | refine z0 ?_ | (apply zI; refine zP (c_l08Tangent hm n hn hd z) ?_) | refine Or.inl ?_) <;> conv => whnf) | fail
   first
     | (refine ⟨.ref 2 [] 1 0 n, [none, some (srcR o l a2 h2), some ⟨false, 1, rows true (Tb n (tgT z (n / 2)))⟩], ⟨tgT z (n / 2), a2, h2, ha2, rfl, rfl⟩, Weak.of (kp := 2) [none, some 1, some 2] ?_⟩
        (conv => whnf)
        repeat' ((first | refine And.intro rfl ?_ | refine And.intro vOb ?_ | exact trivial) <;> try (conv => whnf))
        all_goals first | omega | (simp [cnt1]; done)
        done)
     | (refine ⟨.ref 2 [] 1 0 n, [none, some (srcR o l a2 h2), some ⟨false, 1, rows true (Tb n (tgT z (n / 2)))⟩], ⟨tgT z (n / 2), a2, h2, ha2, rfl, rfl⟩, Weak.of (kp := 2) [none, some 1, some 3] ?_⟩
        (conv => whnf)
        repeat' ((first | refine And.intro rfl ?_ | refine And.intro vOb ?_ | exact trivial) <;> try (conv => whnf))
        all_goals first | omega | (simp [cnt1]; done)
        done)
     | (refine ⟨.ref 2 [] 1 0 n, [none, some (srcR o l a2 h2), some ⟨false, 1, rows true (Tb n (tgT z (n / 2)))⟩], ⟨tgT z (n / 2), a2, h2, ha2, rfl, rfl⟩, Weak.of (kp := 2) [none, some 1, some 4] ?_⟩
        (conv => whnf)
        repeat' ((first | refine And.intro rfl ?_ | refine And.intro vOb ?_ | exact trivial) <;> try (conv => whnf))
        all_goals first | omega | (simp [cnt1]; done)
        done)
     | (refine ⟨.ref 2 [] 1 0 n, [none, some (srcR o l a2 h2), some ⟨false, 1, rows true (Tb n (tgT z (n / 2)))⟩], ⟨tgT z (n / 2), a2, h2, ha2, rfl, rfl⟩, Weak.of (kp := 2) [none, some 1, some 5] ?_⟩
        (conv => whnf)
        repeat' ((first | refine And.intro rfl ?_ | refine And.intro vOb ?_ | exact trivial) <;> try (conv => whnf))
        all_goals first | omega | (simp [cnt1]; done)
        done)
     | (refine ⟨.ref 2 [] 1 0 n, [none, some (srcR o l a2 h2), some ⟨false, 1, rows true (Tb n (tgT z (n / 2)))⟩], ⟨tgT z (n / 2), a2, h2, ha2, rfl, rfl⟩, Weak.of (kp := 2) [none, some 1, some 6] ?_⟩
        (conv => whnf)
        repeat' ((first | refine And.intro rfl ?_ | refine And.intro vOb ?_ | exact trivial) <;> try (conv => whnf))
        all_goals first | omega | (simp [cnt1]; done)
        done)
 · obtain ⟨yz, a2, h2, hy, ha2, rfl, rfl⟩ := hd
   refine ⟨rfl, by simp, ?_⟩
   conv => whnf
   obtain ⟨z, rfl⟩ := ofRange (hy.2 (by omega))
   repeat' first | (refine borA [1] (c_l01Next o l hb hl a2 ha2 h2 m) (fun d rt' hd => ?_)) | fail
   obtain ⟨yu, a3, h3, hy, ha3, rfl, rfl⟩ := hd
   refine ⟨rfl, by simp, ?_⟩
   conv => whnf
   obtain ⟨u, rfl⟩ := ofRange (hy.2 (by omega))
   repeat' first | ((first | refine z0 ?_ | (apply zI; refine zP (c_l08Euler hm n hn hd z u) ?_) | refine Or.inl ?_) <;> conv => whnf) | fail
   first
     | (refine ⟨.ref 2 [] 1 0 n, [none, some (srcR o l a3 h3), some ⟨false, 1, rows true (Tb n (eT2 (rS z u (invN m 2) (n - 1)) (n - 1) (n - 1) * eF u ((n + 3) / 4)))⟩], ⟨eT2 (rS z u (invN m 2) (n - 1)) (n - 1) (n - 1) * eF u ((n + 3) / 4), a3, h3, ha3, rfl, rfl⟩, Weak.of (kp := 2) [none, some 1, some 2] ?_⟩
        (conv => whnf)
        repeat' ((first | refine And.intro rfl ?_ | refine And.intro vOb ?_ | exact trivial) <;> try (conv => whnf))
        all_goals first | omega | (simp [cnt1]; done)
        done)
     | (refine ⟨.ref 2 [] 1 0 n, [none, some (srcR o l a3 h3), some ⟨false, 1, rows true (Tb n (eT2 (rS z u (invN m 2) (n - 1)) (n - 1) (n - 1) * eF u ((n + 3) / 4)))⟩], ⟨eT2 (rS z u (invN m 2) (n - 1)) (n - 1) (n - 1) * eF u ((n + 3) / 4), a3, h3, ha3, rfl, rfl⟩, Weak.of (kp := 2) [none, some 1, some 3] ?_⟩
        (conv => whnf)
        repeat' ((first | refine And.intro rfl ?_ | refine And.intro vOb ?_ | exact trivial) <;> try (conv => whnf))
        all_goals first | omega | (simp [cnt1]; done)
        done)
     | (refine ⟨.ref 2 [] 1 0 n, [none, some (srcR o l a3 h3), some ⟨false, 1, rows true (Tb n (eT2 (rS z u (invN m 2) (n - 1)) (n - 1) (n - 1) * eF u ((n + 3) / 4)))⟩], ⟨eT2 (rS z u (invN m 2) (n - 1)) (n - 1) (n - 1) * eF u ((n + 3) / 4), a3, h3, ha3, rfl, rfl⟩, Weak.of (kp := 2) [none, some 1, some 4] ?_⟩
        (conv => whnf)
        repeat' ((first | refine And.intro rfl ?_ | refine And.intro vOb ?_ | exact trivial) <;> try (conv => whnf))
        all_goals first | omega | (simp [cnt1]; done)
        done)
     | (refine ⟨.ref 2 [] 1 0 n, [none, some (srcR o l a3 h3), some ⟨false, 1, rows true (Tb n (eT2 (rS z u (invN m 2) (n - 1)) (n - 1) (n - 1) * eF u ((n + 3) / 4)))⟩], ⟨eT2 (rS z u (invN m 2) (n - 1)) (n - 1) (n - 1) * eF u ((n + 3) / 4), a3, h3, ha3, rfl, rfl⟩, Weak.of (kp := 2) [none, some 1, some 5] ?_⟩
        (conv => whnf)
        repeat' ((first | refine And.intro rfl ?_ | refine And.intro vOb ?_ | exact trivial) <;> try (conv => whnf))
        all_goals first | omega | (simp [cnt1]; done)
        done)
     | (refine ⟨.ref 2 [] 1 0 n, [none, some (srcR o l a3 h3), some ⟨false, 1, rows true (Tb n (eT2 (rS z u (invN m 2) (n - 1)) (n - 1) (n - 1) * eF u ((n + 3) / 4)))⟩], ⟨eT2 (rS z u (invN m 2) (n - 1)) (n - 1) (n - 1) * eF u ((n + 3) / 4), a3, h3, ha3, rfl, rfl⟩, Weak.of (kp := 2) [none, some 1, some 6] ?_⟩
        (conv => whnf)
        repeat' ((first | refine And.intro rfl ?_ | refine And.intro vOb ?_ | exact trivial) <;> try (conv => whnf))
        all_goals first | omega | (simp [cnt1]; done)
        done)
 · obtain ⟨f, a2, h2, ha2, rfl, rfl⟩ := hd
   refine ⟨rfl, by simp, ?_⟩
   conv => whnf
   obtain ⟨F, hF⟩ := hW false f
   repeat' first | ((first | refine z0 ?_ | (apply zI; refine zP (hF) ?_) | refine zV ?_ | (apply zI; refine zP vObx ?_) | refine Or.inl ?_) <;> conv => whnf) | fail
   first
     | (refine ⟨.ref 2 [] 1 0 n, [none, some (srcR o l a2 h2), some ⟨false, 1, rows true (Tb n (F))⟩], ⟨F, a2, h2, ha2, rfl, rfl⟩, Weak.of (kp := 2) [none, some 1, some 2] ?_⟩
        (conv => whnf)
        repeat' ((first | refine And.intro rfl ?_ | refine And.intro vOb ?_ | exact trivial) <;> try (conv => whnf))
        all_goals first | omega | (simp [cnt1]; done)
        done)
     | (refine ⟨.ref 2 [] 1 0 n, [none, some (srcR o l a2 h2), some ⟨false, 1, rows true (Tb n (F))⟩], ⟨F, a2, h2, ha2, rfl, rfl⟩, Weak.of (kp := 2) [none, some 1, some 3] ?_⟩
        (conv => whnf)
        repeat' ((first | refine And.intro rfl ?_ | refine And.intro vOb ?_ | exact trivial) <;> try (conv => whnf))
        all_goals first | omega | (simp [cnt1]; done)
        done)
     | (refine ⟨.ref 2 [] 1 0 n, [none, some (srcR o l a2 h2), some ⟨false, 1, rows true (Tb n (F))⟩], ⟨F, a2, h2, ha2, rfl, rfl⟩, Weak.of (kp := 2) [none, some 1, some 4] ?_⟩
        (conv => whnf)
        repeat' ((first | refine And.intro rfl ?_ | refine And.intro vOb ?_ | exact trivial) <;> try (conv => whnf))
        all_goals first | omega | (simp [cnt1]; done)
        done)
     | (refine ⟨.ref 2 [] 1 0 n, [none, some (srcR o l a2 h2), some ⟨false, 1, rows true (Tb n (F))⟩], ⟨F, a2, h2, ha2, rfl, rfl⟩, Weak.of (kp := 2) [none, some 1, some 5] ?_⟩
        (conv => whnf)
        repeat' ((first | refine And.intro rfl ?_ | refine And.intro vOb ?_ | exact trivial) <;> try (conv => whnf))
        all_goals first | omega | (simp [cnt1]; done)
        done)
     | (refine ⟨.ref 2 [] 1 0 n, [none, some (srcR o l a2 h2), some ⟨false, 1, rows true (Tb n (F))⟩], ⟨F, a2, h2, ha2, rfl, rfl⟩, Weak.of (kp := 2) [none, some 1, some 6] ?_⟩
        (conv => whnf)
        repeat' ((first | refine And.intro rfl ?_ | refine And.intro vOb ?_ | exact trivial) <;> try (conv => whnf))
        all_goals first | omega | (simp [cnt1]; done)
        done)
 · obtain ⟨f, a2, h2, ha2, rfl, rfl⟩ := hd
   refine ⟨rfl, by simp, ?_⟩
   conv => whnf
   obtain ⟨F, hF⟩ := hW false f
   repeat' first | ((first | refine z0 ?_ | (apply zI; refine zP (hF) ?_) | refine zV ?_ | (apply zI; refine zP vObx ?_) | refine Or.inl ?_) <;> conv => whnf) | fail
   first
     | (refine ⟨.ref 2 [] 1 0 n, [none, some (srcR o l a2 h2), some ⟨false, 1, rows true (Tb n (F))⟩], ⟨F, a2, h2, ha2, rfl, rfl⟩, Weak.of (kp := 2) [none, some 1, some 2] ?_⟩
        (conv => whnf)
        repeat' ((first | refine And.intro rfl ?_ | refine And.intro vOb ?_ | exact trivial) <;> try (conv => whnf))
        all_goals first | omega | (simp [cnt1]; done)
        done)
     | (refine ⟨.ref 2 [] 1 0 n, [none, some (srcR o l a2 h2), some ⟨false, 1, rows true (Tb n (F))⟩], ⟨F, a2, h2, ha2, rfl, rfl⟩, Weak.of (kp := 2) [none, some 1, some 3] ?_⟩
        (conv => whnf)
        repeat' ((first | refine And.intro rfl ?_ | refine And.intro vOb ?_ | exact trivial) <;> try (conv => whnf))
        all_goals first | omega | (simp [cnt1]; done)
        done)
     | (refine ⟨.ref 2 [] 1 0 n, [none, some (srcR o l a2 h2), some ⟨false, 1, rows true (Tb n (F))⟩], ⟨F, a2, h2, ha2, rfl, rfl⟩, Weak.of (kp := 2) [none, some 1, some 4] ?_⟩
        (conv => whnf)
        repeat' ((first | refine And.intro rfl ?_ | refine And.intro vOb ?_ | exact trivial) <;> try (conv => whnf))
        all_goals first | omega | (simp [cnt1]; done)
        done)
     | (refine ⟨.ref 2 [] 1 0 n, [none, some (srcR o l a2 h2), some ⟨false, 1, rows true (Tb n (F))⟩], ⟨F, a2, h2, ha2, rfl, rfl⟩, Weak.of (kp := 2) [none, some 1, some 5] ?_⟩
        (conv => whnf)
        repeat' ((first | refine And.intro rfl ?_ | refine And.intro vOb ?_ | exact trivial) <;> try (conv => whnf))
        all_goals first | omega | (simp [cnt1]; done)
        done)
     | (refine ⟨.ref 2 [] 1 0 n, [none, some (srcR o l a2 h2), some ⟨false, 1, rows true (Tb n (F))⟩], ⟨F, a2, h2, ha2, rfl, rfl⟩, Weak.of (kp := 2) [none, some 1, some 6] ?_⟩
        (conv => whnf)
        repeat' ((first | refine And.intro rfl ?_ | refine And.intro vOb ?_ | exact trivial) <;> try (conv => whnf))
        all_goals first | omega | (simp [cnt1]; done)
        done)
theorem c_l04With (hm : Md m) (o : Bool) (l : List Nat) (hb : ∀ b ∈ l, b < 256) (hl : l.length ≤ 4611686018427387904) (a : Nat) (ha : a ≤ l.length) (hs : Int) (n : Nat) (hn : 2 ≤ n ∧ n ≤ 11) {d : Int} (hd : d + 1 = n) (hW : ∀ (o : Bool) (a : PS (Zm m)), ∃ F : PS (PS (Zm m)), PureCall Tryz.prog 184 [dint m, dint d, LD o 5 a] (TbD true true n F)) :
   CallsTo Tryz.prog 323 2 [.ptr 1 [] 0, dint m, dint d] [none, some (srcR o l a hs)]
     (fun d rt => ∃ (f : PS (PS (Zm m))) (a' : Nat) (h' : Int), a' ≤ l.length ∧ d = .agg [dint m, .ref 2 [] 1 0 n] ∧ rt = [none, some (srcR o l a' h'), some ⟨false, 1, rows true (Tb n f)⟩]) := by
 have hm1 := hm.1
 have hd0 := hd
 have hm2 := hm.2
 refine callsTo_of Tryz.tabOk mixOrd 2 _ Tryz.func323 rfl rfl ?_
 conv => whnf
 repeat' first | (refine borA [1] (c_l08Any hm o l hb hl a ha hs n hn hd hW) (fun d rt' hd => ?_)) | fail
 obtain ⟨F, a1, h1, ha1, rfl, rfl⟩ := hd
 refine ⟨rfl, by simp, ?_⟩
 conv => whnf
 repeat' first | (refine borA [1] (c_l01Next o l hb hl a1 ha1 h1 3) (fun d rt' hd => ?_)) | fail
 obtain ⟨x, a2, h2, hx, ha2, rfl, rfl⟩ := hd
 refine ⟨rfl, by simp, ?_⟩
 conv => whnf
 have hx2 := hx.2 (by omega)
 repeat' first | (refine borA [1] (c_l04DrawCurve hm o l hb hl a2 ha2 h2 n hn hd0) (fun d rt' hd => ?_)) | ((first | refine z0 ?_ | refine Or.inl (Or.inr (And.intro (mk_l03Make) ?_)) | (refine And.intro (fun h => ?_) (fun h => ?_) <;> (try simp only [cnt1, ints_length] at h) <;> first | (exfalso; omega) | skip) | refine Or.inl ?_) <;> conv => whnf) | fail
 · obtain ⟨b, a3, h3, hb3, ha3, rfl, rfl⟩ := hd
   refine ⟨rfl, by simp, ?_⟩
   conv => whnf
   repeat' first | ((first | refine z0 ?_ | (apply zI; refine zP (c_l06Conjugate hm _ _ _ n hn F b) ?_) | refine Or.inl (Or.inr (And.intro (mk_l03Make) ?_)) | refine zV ?_ | (apply zI; refine zP vObt ?_) | (apply zI; refine zP vObx ?_) | refine Or.inl ?_) <;> conv => whnf) | fail
   first
     | (refine ⟨.agg [dint m, .ref 2 [] 1 0 n], [none, some (srcR o l a3 h3), some ⟨false, 1, rows true (Tb n (comp2N b (bI F (rev (invN m (b.c 1).val) b) (rev (invN m (b.c 1).val) b) n n) 0 n))⟩], ⟨comp2N b (bI F (rev (invN m (b.c 1).val) b) (rev (invN m (b.c 1).val) b) n n) 0 n, a3, h3, ha3, rfl, rfl⟩, Weak.of (kp := 2) [none, some 1, some 2] ?_⟩
        (conv => whnf)
        repeat' ((first | refine And.intro rfl ?_ | refine And.intro vOb ?_ | exact trivial) <;> try (conv => whnf))
        all_goals first | omega | (simp [cnt1]; done)
        done)
     | (refine ⟨.agg [dint m, .ref 2 [] 1 0 n], [none, some (srcR o l a3 h3), some ⟨false, 1, rows true (Tb n (comp2N b (bI F (rev (invN m (b.c 1).val) b) (rev (invN m (b.c 1).val) b) n n) 0 n))⟩], ⟨comp2N b (bI F (rev (invN m (b.c 1).val) b) (rev (invN m (b.c 1).val) b) n n) 0 n, a3, h3, ha3, rfl, rfl⟩, Weak.of (kp := 2) [none, some 1, some 3] ?_⟩
        (conv => whnf)
        repeat' ((first | refine And.intro rfl ?_ | refine And.intro vOb ?_ | exact trivial) <;> try (conv => whnf))
        all_goals first | omega | (simp [cnt1]; done)
        done)
     | (refine ⟨.agg [dint m, .ref 2 [] 1 0 n], [none, some (srcR o l a3 h3), some ⟨false, 1, rows true (Tb n (comp2N b (bI F (rev (invN m (b.c 1).val) b) (rev (invN m (b.c 1).val) b) n n) 0 n))⟩], ⟨comp2N b (bI F (rev (invN m (b.c 1).val) b) (rev (invN m (b.c 1).val) b) n n) 0 n, a3, h3, ha3, rfl, rfl⟩, Weak.of (kp := 2) [none, some 1, some 4] ?_⟩
        (conv => whnf)
        repeat' ((first | refine And.intro rfl ?_ | refine And.intro vOb ?_ | exact trivial) <;> try (conv => whnf))
        all_goals first | omega | (simp [cnt1]; done)
        done)
     | (refine ⟨.agg [dint m, .ref 2 [] 1 0 n], [none, some (srcR o l a3 h3), some ⟨false, 1, rows true (Tb n (comp2N b (bI F (rev (invN m (b.c 1).val) b) (rev (invN m (b.c 1).val) b) n n) 0 n))⟩], ⟨comp2N b (bI F (rev (invN m (b.c 1).val) b) (rev (invN m (b.c 1).val) b) n n) 0 n, a3, h3, ha3, rfl, rfl⟩, Weak.of (kp := 2) [none, some 1, some 5] ?_⟩
        (conv => whnf)
        repeat' ((first | refine And.intro rfl ?_ | refine And.intro vOb ?_ | exact trivial) <;> try (conv => whnf))
        all_goals first | omega | (simp [cnt1]; done)
        done)
     | (refine ⟨.agg [dint m, .ref 2 [] 1 0 n], [none, some (srcR o l a3 h3), some ⟨false, 1, rows true (Tb n (comp2N b (bI F (rev (invN m (b.c 1).val) b) (rev (invN m (b.c 1).val) b) n n) 0 n))⟩], ⟨comp2N b (bI F (rev (invN m (b.c 1).val) b) (rev (invN m (b.c 1).val) b) n n) 0 n, a3, h3, ha3, rfl, rfl⟩, Weak.of (kp := 2) [none, some 1, some 6] ?_⟩
        (conv => whnf)
        repeat' ((first | refine And.intro rfl ?_ | refine And.intro vOb ?_ | exact trivial) <;> try (conv => whnf))
        all_goals first | omega | (simp [cnt1]; done)
        done)
     | (refine ⟨.agg [dint m, .ref 2 [] 1 0 n], [none, some (srcR o l a3 h3), some ⟨false, 1, rows true (Tb n (comp2N b (bI F (rev (invN m (b.c 1).val) b) (rev (invN m (b.c 1).val) b) n n) 0 n))⟩], ⟨comp2N b (bI F (rev (invN m (b.c 1).val) b) (rev (invN m (b.c 1).val) b) n n) 0 n, a3, h3, ha3, rfl, rfl⟩, Weak.of (kp := 2) [none, some 1, some 7] ?_⟩
        (conv => whnf)
        repeat' ((first | refine And.intro rfl ?_ | refine And.intro vOb ?_ | exact trivial) <;> try (conv => whnf))
        all_goals first | omega | (simp [cnt1]; done)
        done)
     | (refine ⟨.agg [dint m, .ref 2 [] 1 0 n], [none, some (srcR o l a3 h3), some ⟨false, 1, rows true (Tb n (comp2N b (bI F (rev (invN m (b.c 1).val) b) (rev (invN m (b.c 1).val) b) n n) 0 n))⟩], ⟨comp2N b (bI F (rev (invN m (b.c 1).val) b) (rev (invN m (b.c 1).val) b) n n) 0 n, a3, h3, ha3, rfl, rfl⟩, Weak.of (kp := 2) [none, some 1, some 8] ?_⟩
        (conv => whnf)
        repeat' ((first | refine And.intro rfl ?_ | refine And.intro vOb ?_ | exact trivial) <;> try (conv => whnf))
        all_goals first | omega | (simp [cnt1]; done)
        done)
     | (refine ⟨.agg [dint m, .ref 2 [] 1 0 n], [none, some (srcR o l a3 h3), some ⟨false, 1, rows true (Tb n (comp2N b (bI F (rev (invN m (b.c 1).val) b) (rev (invN m (b.c 1).val) b) n n) 0 n))⟩], ⟨comp2N b (bI F (rev (invN m (b.c 1).val) b) (rev (invN m (b.c 1).val) b) n n) 0 n, a3, h3, ha3, rfl, rfl⟩, Weak.of (kp := 2) [none, some 1, some 9] ?_⟩
        (conv => whnf)
        repeat' ((first | refine And.intro rfl ?_ | refine And.intro vOb ?_ | exact trivial) <;> try (conv => whnf))
        all_goals first | omega | (simp [cnt1]; done)
        done)
 · first
     | (refine ⟨.agg [dint m, .ref 2 [] 1 0 n], [none, some (srcR o l a2 h2), some ⟨false, 1, rows true (Tb n (F))⟩], ⟨F, a2, h2, ha2, rfl, rfl⟩, Weak.of (kp := 2) [none, some 1, some 2] ?_⟩
        (conv => whnf)
        repeat' ((first | refine And.intro rfl ?_ | refine And.intro vOb ?_ | exact trivial) <;> try (conv => whnf))
        all_goals first | omega | (simp [cnt1]; done)
        done)
     | (refine ⟨.agg [dint m, .ref 2 [] 1 0 n], [none, some (srcR o l a2 h2), some ⟨false, 1, rows true (Tb n (F))⟩], ⟨F, a2, h2, ha2, rfl, rfl⟩, Weak.of (kp := 2) [none, some 1, some 3] ?_⟩
        (conv => whnf)
        repeat' ((first | refine And.intro rfl ?_ | refine And.intro vOb ?_ | exact trivial) <;> try (conv => whnf))
        all_goals first | omega | (simp [cnt1]; done)
        done)
     | (refine ⟨.agg [dint m, .ref 2 [] 1 0 n], [none, some (srcR o l a2 h2), some ⟨false, 1, rows true (Tb n (F))⟩], ⟨F, a2, h2, ha2, rfl, rfl⟩, Weak.of (kp := 2) [none, some 1, some 4] ?_⟩
        (conv => whnf)
        repeat' ((first | refine And.intro rfl ?_ | refine And.intro vOb ?_ | exact trivial) <;> try (conv => whnf))
        all_goals first | omega | (simp [cnt1]; done)
        done)
     | (refine ⟨.agg [dint m, .ref 2 [] 1 0 n], [none, some (srcR o l a2 h2), some ⟨false, 1, rows true (Tb n (F))⟩], ⟨F, a2, h2, ha2, rfl, rfl⟩, Weak.of (kp := 2) [none, some 1, some 5] ?_⟩
        (conv => whnf)
        repeat' ((first | refine And.intro rfl ?_ | refine And.intro vOb ?_ | exact trivial) <;> try (conv => whnf))
        all_goals first | omega | (simp [cnt1]; done)
        done)
     | (refine ⟨.agg [dint m, .ref 2 [] 1 0 n], [none, some (srcR o l a2 h2), some ⟨false, 1, rows true (Tb n (F))⟩], ⟨F, a2, h2, ha2, rfl, rfl⟩, Weak.of (kp := 2) [none, some 1, some 6] ?_⟩
        (conv => whnf)
        repeat' ((first | refine And.intro rfl ?_ | refine And.intro vOb ?_ | exact trivial) <;> try (conv => whnf))
        all_goals first | omega | (simp [cnt1]; done)
        done)
     | (refine ⟨.agg [dint m, .ref 2 [] 1 0 n], [none, some (srcR o l a2 h2), some ⟨false, 1, rows true (Tb n (F))⟩], ⟨F, a2, h2, ha2, rfl, rfl⟩, Weak.of (kp := 2) [none, some 1, some 7] ?_⟩
        (conv => whnf)
        repeat' ((first | refine And.intro rfl ?_ | refine And.intro vOb ?_ | exact trivial) <;> try (conv => whnf))
        all_goals first | omega | (simp [cnt1]; done)
        done)
     | (refine ⟨.agg [dint m, .ref 2 [] 1 0 n], [none, some (srcR o l a2 h2), some ⟨false, 1, rows true (Tb n (F))⟩], ⟨F, a2, h2, ha2, rfl, rfl⟩, Weak.of (kp := 2) [none, some 1, some 8] ?_⟩
        (conv => whnf)
        repeat' ((first | refine And.intro rfl ?_ | refine And.intro vOb ?_ | exact trivial) <;> try (conv => whnf))
        all_goals first | omega | (simp [cnt1]; done)
        done)
     | (refine ⟨.agg [dint m, .ref 2 [] 1 0 n], [none, some (srcR o l a2 h2), some ⟨false, 1, rows true (Tb n (F))⟩], ⟨F, a2, h2, ha2, rfl, rfl⟩, Weak.of (kp := 2) [none, some 1, some 9] ?_⟩
        (conv => whnf)
        repeat' ((first | refine And.intro rfl ?_ | refine And.intro vOb ?_ | exact trivial) <;> try (conv => whnf))
        all_goals first | omega | (simp [cnt1]; done)
        done)
end Go.Proofs
