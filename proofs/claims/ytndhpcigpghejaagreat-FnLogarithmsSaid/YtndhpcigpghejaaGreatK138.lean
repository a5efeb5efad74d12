import Derived.Test.YtndhpcigpghejaaGreatK32
import Derived.Test.YtndhpcigpghejaaGreatK31
import Derived.Test.YtndhpcigpghejaaGreatKN
import Derived.Test.YtndhpcigpghejaaGreatK9
import Derived.Test.YtndhpcigpghejaaGreatAlg21
namespace Go.Proofs
open Go Go.Vm Go.Fg Go.Fg.PS
set_option maxRecDepth 100000
set_option maxHeartbeats 4000000
set_option linter.unusedSimpArgs false
set_option linter.unusedVariables false
variable {m : Int}
inductive Mul (f : PS (PS (Zm m))) (n : Nat) : Nat → PS (Zm m) → PS (Zm m) → PS (Zm m) → Prop
 | zero (out a : PS (Zm m)) : Mul f n 0 out a out
 | odd (k : Nat) (out a r : PS (Zm m)) (h2 : k % 2 = 1) (h : Mul f n (k / 2) (putS f out a n) (putS f a a n) r) : Mul f n k out a r
 | even (k : Nat) (out a r : PS (Zm m)) (h1 : k ≠ 0) (h2 : k % 2 = 0) (h : Mul f n (k / 2) out (putS f a a n) r) : Mul f n k out a r
theorem mul_ex (f : PS (PS (Zm m))) (n : Nat) (k : Nat) : ∀ out a, ∃ r, Mul f n k out a r := by
 induction k using Nat.strongRecOn with
 | ind k ih =>
   intro out a
   by_cases h0 : k = 0
   · subst h0; exact ⟨out, .zero _ _⟩
   · rcases (show k % 2 = 1 ∨ k % 2 = 0 by omega) with h | h
     · obtain ⟨r, hr⟩ := ih (k / 2) (by omega) (putS f out a n) (putS f a a n)
       exact ⟨r, .odd _ _ _ _ h hr⟩
     · obtain ⟨r, hr⟩ := ih (k / 2) (by omega) out (putS f a a n)
       exact ⟨r, .even _ _ _ _ h0 h hr⟩
theorem Mul.inv {f : PS (PS (Zm m))} {n k : Nat} {out a r : PS (Zm m)} (h : Mul f n k out a r) : (k = 0 → r = out) ∧ (k % 2 = 1 → Mul f n (k / 2) (putS f out a n) (putS f a a n) r) ∧ (k ≠ 0 → k % 2 = 0 → Mul f n (k / 2) out (putS f a a n) r) := by
 cases h with
 | zero => exact ⟨fun _ => rfl, fun h => by omega, fun h => absurd rfl h⟩
 | odd _ _ _ _ h2 h => exact ⟨fun e => by omega, fun _ => h, fun _ e => by omega⟩
 | even _ _ _ _ h1 h2 h => exact ⟨fun e => absurd e h1, fun e => by omega, fun _ _ => h⟩
theorem loop_peelV {P : Program} {T : Tab} {kp : Nat} (hT : TabOk P T) (hm : P.follows .mixedOrders = true) {body : Code} {Q : Exit → St → Prop} {st : St}
   (h : vcR P T kp body (fun e st' => match e with
     | .normal => forceS st' (LoopK P kp body Q)
     | e => Q e st') st) : LoopK P kp body Q st := loop_peel hT hm (by rw [← vcR_eq]; exact h)
theorem c_multiple (hm : Md m) (o p o' : Bool) (n : Nat) (hn : 1 ≤ n ∧ n ≤ 100) (f : PS (PS (Zm m))) (a : PS (Zm m)) (k : Nat) (hk : k ≤ 1000000) (r : PS (Zm m)) (hr : Mul f n k 0 a r) {K : Int} (hK : K = k) : PureCall Tryz.prog 189 [PlD m o p n f, dint K, SerD m o' n a] (SerD m true n r) := by
 subst hK
 have hm1 := hm.1
 have hm2 := hm.2
 refine pure_of_vcR Tryz.tabOk mixOrd Tryz.func189 rfl rfl ?_
 conv => whnf
 repeat' first | ((first | refine z0 ?_ | (apply zI; refine zP (c_degreeP _ _ _ vAr _) ?_) | (apply zI; refine zP (c_zero n vAr vAr) ?_) | (refine And.intro (fun h => ?_) (fun h => ?_) <;> (try simp only [cnt1, ints_length] at h) <;> first | (exfalso; omega) | skip) | refine zS ?_ | refine zV ?_ | (apply zI; refine zP vObt ?_) | (apply zI; refine zP vObx ?_) | refine zA ?_ | refine Alt.fst ?_ | refine Or.inl ?_) <;> conv => whnf) | fail
 refine loop_peelV Tryz.tabOk mixOrd ?_
 conv => whnf
 repeat' first | ((first | refine z0 ?_ | (apply zI; refine zP (c_curves hm _ _ _ _ n hn f _ _) ?_) | (refine And.intro (fun h => ?_) (fun h => ?_) <;> (try simp only [cnt1, ints_length] at h) <;> first | (exfalso; omega) | skip) | refine zS ?_ | refine zV ?_ | (apply zI; refine zP vObt ?_) | (apply zI; refine zP vObx ?_) | refine zA ?_ | refine Alt.fst ?_ | refine Or.inl ?_) <;> conv => whnf) | fail
 · rw [tmod2] at h
   refine loop_atR Tryz.tabOk mixOrd (α := PS (Zm m) × PS (Zm m) × Nat) (fun x => [(1, dint x.2.2), (21, .undef), (30, .undef), (32, .undef), (34, .undef), (35, .undef), (36, .undef)]) (fun x => [(10, some ⟨false, 1, ints (L n x.2.1)⟩), (8, some ⟨false, 1, ints (L n x.1)⟩), (1, some ⟨true, 1, [dint m, .ref 10 [] 1 0 n]⟩), (6, some ⟨true, 1, [dint m, .ref 8 [] 1 0 n]⟩)]) (fun x => Mul f n x.2.2 x.1 x.2.1 r ∧ x.2.2 ≤ 1000000) (fun x => x.2.2) (putS f 0 a n, putS f a a n, k / 2) ?_ ?_ ?_
   · exact ⟨hr.inv.2.1 (by omega), by simp only; omega⟩
   · conv => whnf
     first | refine WeakS.autoR ?_ | refine Weak.autoR ?_
     conv => whnf
     repeat' ((first | refine z1 ?_ | refine z2 ?_ | refine zV ?_ | refine And.intro vRepl ?_ | refine And.intro vReplL ?_ | refine And.intro ?_ ?_ | exact trivial) <;> try (conv => whnf))
   intro ⟨x, y, q⟩ ⟨hx, hq⟩
   simp only at hx hq
   conv => whnf
   repeat' first | ((first | refine z0 ?_ | (apply zI; refine zP (c_curves hm _ _ _ _ n hn f _ _) ?_) | (refine And.intro (fun h => ?_) (fun h => ?_) <;> (try simp only [cnt1, ints_length] at h) <;> first | (exfalso; omega) | skip) | refine zS ?_ | refine zV ?_ | (apply zI; refine zP vObt ?_) | (apply zI; refine zP vObx ?_) | refine zA ?_ | refine Alt.fst ?_ | refine Or.inl ?_) <;> conv => whnf) | fail
   · rw [tmod2] at h
     refine Exists.intro (putS f x y n, putS f y y n, q / 2) (And.intro ⟨hx.inv.2.1 (by omega), by simp only; omega⟩ (And.intro (by simp only; omega) ?_))
     first | refine WeakS.autoR ?_ | refine Weak.autoR ?_
     conv => whnf
     repeat' ((first | refine z1 ?_ | refine z2 ?_ | refine zV ?_ | refine And.intro vRepl ?_ | refine And.intro vReplL ?_ | refine And.intro ?_ ?_ | exact trivial) <;> try (conv => whnf))
   · rw [tmod2] at h
     refine Exists.intro (x, putS f y y n, q / 2) (And.intro ⟨hx.inv.2.2 (by omega) (by omega), by simp only; omega⟩ (And.intro (by simp only; omega) ?_))
     first | refine WeakS.autoR ?_ | refine Weak.autoR ?_
     conv => whnf
     repeat' ((first | refine z1 ?_ | refine z2 ?_ | refine zV ?_ | refine And.intro vRepl ?_ | refine And.intro vReplL ?_ | refine And.intro ?_ ?_ | exact trivial) <;> try (conv => whnf))
   · have hq0 : q = 0 := by omega
     subst hq0
     rw [hx.inv.1 rfl]
 · rw [tmod2] at h
   refine loop_atR Tryz.tabOk mixOrd (α := PS (Zm m) × PS (Zm m) × Nat) (fun x => [(1, dint x.2.2), (21, .undef), (30, .undef), (32, .undef), (34, .undef), (35, .undef), (36, .undef)]) (fun x => [(8, some ⟨false, 1, ints (L n x.2.1)⟩), (5, some ⟨false, 1, ints (L n x.1)⟩), (1, some ⟨true, 1, [dint m, .ref 8 [] 1 0 n]⟩), (6, some ⟨true, 1, [dint m, .ref 5 [] 1 0 n]⟩)]) (fun x => Mul f n x.2.2 x.1 x.2.1 r ∧ x.2.2 ≤ 1000000) (fun x => x.2.2) (0, putS f a a n, k / 2) ?_ ?_ ?_
   · exact ⟨hr.inv.2.2 (by omega) (by omega), by simp only; omega⟩
   · conv => whnf
     first | refine WeakS.autoR ?_ | refine Weak.autoR ?_
     conv => whnf
     repeat' ((first | refine z1 ?_ | refine z2 ?_ | refine zV ?_ | refine And.intro vRepl ?_ | refine And.intro vReplL ?_ | refine And.intro ?_ ?_ | exact trivial) <;> try (conv => whnf))
   intro ⟨x, y, q⟩ ⟨hx, hq⟩
   simp only at hx hq
   conv => whnf
   repeat' first | ((first | refine z0 ?_ | (apply zI; refine zP (c_curves hm _ _ _ _ n hn f _ _) ?_) | (refine And.intro (fun h => ?_) (fun h => ?_) <;> (try simp only [cnt1, ints_length] at h) <;> first | (exfalso; omega) | skip) | refine zS ?_ | refine zV ?_ | (apply zI; refine zP vObt ?_) | (apply zI; refine zP vObx ?_) | refine zA ?_ | refine Alt.fst ?_ | refine Or.inl ?_) <;> conv => whnf) | fail
   · rw [tmod2] at h
     refine Exists.intro (putS f x y n, putS f y y n, q / 2) (And.intro ⟨hx.inv.2.1 (by omega), by simp only; omega⟩ (And.intro (by simp only; omega) ?_))
     first | refine WeakS.autoR ?_ | refine Weak.autoR ?_
     conv => whnf
     repeat' ((first | refine z1 ?_ | refine z2 ?_ | refine zV ?_ | refine And.intro vRepl ?_ | refine And.intro vReplL ?_ | refine And.intro ?_ ?_ | exact trivial) <;> try (conv => whnf))
   · rw [tmod2] at h
     refine Exists.intro (x, putS f y y n, q / 2) (And.intro ⟨hx.inv.2.2 (by omega) (by omega), by simp only; omega⟩ (And.intro (by simp only; omega) ?_))
     first | refine WeakS.autoR ?_ | refine Weak.autoR ?_
     conv => whnf
     repeat' ((first | refine z1 ?_ | refine z2 ?_ | refine zV ?_ | refine And.intro vRepl ?_ | refine And.intro vReplL ?_ | refine And.intro ?_ ?_ | exact trivial) <;> try (conv => whnf))
   · have hq0 : q = 0 := by omega
     subst hq0
     rw [hx.inv.1 rfl]
 · have hk0 : k = 0 := by omega
   subst hk0
   rw [hr.inv.1 rfl]
theorem putS_ev (f : PS (PS (Zm m))) (a b : PS (Zm m)) (n : Nat) : putS f a b n = evT n f a b := by
 unfold putS putP evT
 exact Go.Fg.add_zero _
theorem neg_val (hm : Md m) (z : Zm m) : (0 - z.val) % m = (-z).val := by rw [Int.zero_sub]; exact (Zm.val_neg z).symm
def MulZ (f : PS (PS (Zm m))) (n : Nat) (k : Int) (a r : PS (Zm m)) : Prop := if 0 ≤ k then Mul f n k.toNat 0 a r else ∃ s, Mul f n (-k).toNat 0 a s ∧ r = compN (ivS n f) s 0 n
theorem mulZ_ex (f : PS (PS (Zm m))) (n : Nat) (k : Int) (a : PS (Zm m)) : ∃ r, MulZ f n k a r := by
 unfold MulZ
 by_cases h : 0 ≤ k
 · obtain ⟨r, hr⟩ := mul_ex f n k.toNat 0 a
   exact ⟨r, by rw [if_pos h]; exact hr⟩
 · obtain ⟨s, hs⟩ := mul_ex f n (-k).toNat 0 a
   exact ⟨_, by rw [if_neg h]; exact ⟨s, hs, rfl⟩⟩
theorem c_inverseP (hm : Md m) (o p : Bool) (n : Nat) (hn : 2 ≤ n ∧ n ≤ 100) (f : PS (PS (Zm m))) : PureCall Tryz.prog 309 [PlD m o p n f] (SerD m true n (ivS n f)) := by
 have hm1 := hm.1
 have hm2 := hm.2
 refine pure_of_vcR Tryz.tabOk mixOrd Tryz.func309 rfl rfl ?_
 conv => whnf
 repeat' first | ((first | refine z0 ?_ | (apply zI; refine zP (c_degreeP _ _ n vAr _) ?_) | (apply zI; refine zP (c_variable n vAr vAr hm) ?_) | (apply zI; refine zP (c_zero n vAr vAr) ?_) | (refine And.intro (fun h => ?_) (fun h => ?_) <;> (try simp only [cnt1, ints_length] at h)) | refine zS ?_ | refine zV ?_ | (apply zI; refine zP vObt ?_) | (apply zI; refine zP vObx ?_) | refine zA ?_ | refine Alt.fst ?_ | refine Or.inl ?_) <;> conv => whnf) | fail
 refine loop_atR Tryz.tabOk mixOrd (α := Nat) (fun k => [(5, dint ((k : Int) + 1))]) (fun k => [(8, some ⟨false, 1, ints (L n (ivP n f k))⟩)]) (fun k => k + 1 ≤ n) (fun k => n - k) (0) ?_ ?_ ?_
 · omega
 · conv => whnf
   first | refine WeakS.autoR ?_ | refine Weak.autoR ?_
   conv => whnf
   repeat' ((first | refine z1 ?_ | refine z2 ?_ | refine zV ?_ | refine And.intro vRepl ?_ | refine And.intro vReplL ?_ | refine And.intro ?_ ?_ | exact trivial) <;> try (conv => whnf))
   all_goals first | rfl
 intro k hk
 conv => whnf
 have hr := Zm.val_range hm.pos ((putS f PS.X (ivP n f k) n).c (k + 1))
 repeat' first | ((first | refine z0 ?_ | (apply zI; refine zP (c_degreeP _ _ n vAr _) ?_) | (apply zI; refine zP (c_curves hm _ _ _ _ n vAr f _ _) ?_) | (apply zI; refine zP (c_mod _ _ hm.pos (by omega)) ?_) | (refine And.intro (fun h => ?_) (fun h => ?_) <;> (try simp only [cnt1, ints_length] at h)) | refine zS ?_ | refine zV ?_ | (apply zI; refine zP vObt ?_) | (apply zI; refine zP vObx ?_) | refine zA ?_ | refine Alt.fst ?_ | refine Or.inl ?_) <;> conv => whnf) | fail
 · refine Exists.intro (k + 1) (And.intro (by omega) (And.intro (by omega) ?_))
   first | refine WeakS.autoR ?_ | refine Weak.autoR ?_
   conv => whnf
   repeat' ((first | refine z1 ?_ | refine z2 ?_ | refine zV ?_ | refine And.intro vRepl ?_ | refine And.intro vReplL ?_ | refine And.intro ?_ ?_ | exact trivial) <;> try (conv => whnf))
   all_goals (refine ints_congr' (L_set_eq _ (neg_val hm _) ?_); rw [putS_ev]; exact Ag.rfl)
 · rw [ivS, show n - 1 = k by omega]
theorem c_oppositeP (hm : Md m) (o p o1 : Bool) (n : Nat) (hn : 2 ≤ n ∧ n ≤ 100) (f : PS (PS (Zm m))) (a : PS (Zm m)) : PureCall Tryz.prog 354 [PlD m o p n f, SerD m o1 n a] (SerD m true n (compN (ivS n f) a 0 n)) := by
 have hm1 := hm.1
 have hm2 := hm.2
 refine pure_of_vcR Tryz.tabOk mixOrd Tryz.func354 rfl rfl ?_
 conv => whnf
 repeat' first | ((first | refine z0 ?_ | (apply zI; refine zP (c_inverseP hm _ _ n hn f) ?_) | (apply zI; refine zP (c_compose hm _ _ n vAr _ _) ?_) | (refine And.intro (fun h => ?_) (fun h => ?_) <;> (try simp only [cnt1, ints_length] at h)) | refine zS ?_ | refine zV ?_ | (apply zI; refine zP vObt ?_) | (apply zI; refine zP vObx ?_) | refine zA ?_ | refine Alt.fst ?_ | refine Or.inl ?_) <;> conv => whnf) | fail
theorem c_multipleZ (hm : Md m) (o p o' : Bool) (n : Nat) (hn : 2 ≤ n ∧ n ≤ 100) (f : PS (PS (Zm m))) (a : PS (Zm m)) (k : Int) (hk : -1000000 ≤ k ∧ k ≤ 1000000) (r : PS (Zm m)) (hr : MulZ f n k a r) : PureCall Tryz.prog 189 [PlD m o p n f, dint k, SerD m o' n a] (SerD m true n r) := by
 have hm1 := hm.1
 have hm2 := hm.2
 unfold MulZ at hr
 by_cases h0 : 0 ≤ k
 · rw [if_pos h0] at hr
   exact c_multiple hm o p o' n (by omega) f a k.toNat (by omega) r hr (by omega)
 · rw [if_neg h0] at hr
   obtain ⟨s, hs, rfl⟩ := hr
   refine pure_of_vcR Tryz.tabOk mixOrd Tryz.func189 rfl rfl ?_
   conv => whnf
   repeat' first | ((first | refine z0 ?_ | (apply zI; refine zP (c_multiple hm _ _ _ n (by omega) f a (-k).toNat (by omega) s hs (by omega)) ?_) | (apply zI; refine zP (c_oppositeP hm _ _ _ n hn f s) ?_) | (refine And.intro (fun h => ?_) (fun h => ?_) <;> (try simp only [cnt1, ints_length] at h) <;> first | (exfalso; omega) | skip) | refine zS ?_ | refine zV ?_ | (apply zI; refine zP vObt ?_) | (apply zI; refine zP vObx ?_) | refine zA ?_ | refine Alt.fst ?_ | refine Or.inl ?_) <;> conv => whnf) | fail
end Go.Proofs
