import Derived.Test.YtndhpcigpghejaaGreatK32
import Derived.Test.YtndhpcigpghejaaGreatK31
import Derived.Test.YtndhpcigpghejaaGreatK22
namespace Go.Proofs
open Go Go.Vm Go.Fg Go.Fg.PS
set_option maxRecDepth 100000
set_option maxHeartbeats 4000000
set_option linter.unusedSimpArgs false
set_option linter.unusedVariables false
variable {m : Int}
inductive Mul (f : PS (PS (Zm m))) (n : Nat) : Nat → PS (Zm m) → PS (Zm m) → PS (Zm m) → Prop
 | zero (out a : PS (Zm m)) : Mul f n 0 out a out
 | odd (k : Nat) (out a r : PS (Zm m)) (h2 : k % 2 = 1) (h : Mul f n (k / 2) (putS f out a n) (putS f a a n) r) : Mul f n k out a r
 | even (k : Nat) (out a r : PS (Zm m)) (h1 : k ≠ 0) (h2 : k % 2 = 0) (h : Mul f n (k / 2) out (putS f a a n) r) : Mul f n k out a r
theorem mul_ex (f : PS (PS (Zm m))) (n : Nat) (k : Nat) : ∀ out a, ∃ r, Mul f n k out a r := by
 induction k using Nat.strongRecOn with
 | ind k ih =>
   intro out a
   by_cases h0 : k = 0
   · subst h0; exact ⟨out, .zero _ _⟩
   · rcases (show k % 2 = 1 ∨ k % 2 = 0 by omega) with h | h
     · obtain ⟨r, hr⟩ := ih (k / 2) (by omega) (putS f out a n) (putS f a a n)
       exact ⟨r, .odd _ _ _ _ h hr⟩
     · obtain ⟨r, hr⟩ := ih (k / 2) (by omega) out (putS f a a n)
       exact ⟨r, .even _ _ _ _ h0 h hr⟩
theorem Mul.inv {f : PS (PS (Zm m))} {n k : Nat} {out a r : PS (Zm m)} (h : Mul f n k out a r) : (k = 0 → r = out) ∧ (k % 2 = 1 → Mul f n (k / 2) (putS f out a n) (putS f a a n) r) ∧ (k ≠ 0 → k % 2 = 0 → Mul f n (k / 2) out (putS f a a n) r) := by
 cases h with
 | zero => exact ⟨fun _ => rfl, fun h => by omega, fun h => absurd rfl h⟩
 | odd _ _ _ _ h2 h => exact ⟨fun e => by omega, fun _ => h, fun _ e => by omega⟩
 | even _ _ _ _ h1 h2 h => exact ⟨fun e => absurd e h1, fun e => by omega, fun _ _ => h⟩
theorem Mul.c0 {f : PS (PS (Zm m))} {n k : Nat} {out a r : PS (Zm m)} (hf : (f.c 0).c 0 = 0) (h : Mul f n k out a r) (ho : out.c 0 = 0) (ha : a.c 0 = 0) : r.c 0 = 0 := by
 induction h with
 | zero => exact ho
 | odd _ _ _ _ _ _ ih => exact ih (putS_0 hf ho ha) (putS_0 hf ha ha)
 | even _ _ _ _ _ _ _ ih => exact ih ho (putS_0 hf ha ha)
theorem loop_peelV {P : Program} {T : Tab} {kp : Nat} (hT : TabOk P T) (hm : P.follows .mixedOrders = true) {body : Code} {Q : Exit → St → Prop} {st : St}
   (h : vcR P T kp body (fun e st' => match e with
     | .normal => forceS st' (LoopK P kp body Q)
     | e => Q e st') st) : LoopK P kp body Q st := loop_peel hT hm (by rw [← vcR_eq]; exact h)
theorem c_multiple (hm : Md m) (o p o' : Bool) (n : Nat) (hn : 1 ≤ n ∧ n ≤ 100) (f : PS (PS (Zm m))) (a : PS (Zm m)) (k : Nat) (hk : k ≤ 1000000) (r : PS (Zm m)) (hr : Mul f n k 0 a r) {K : Int} (hK : K = k) : PureCall Tryz.prog 189 [PlD m o p n f, dint K, SerD m o' n a] (SerD m true n r) := by
 subst hK
 have hm1 := hm.1
 have hm2 := hm.2
 refine pure_of_vcR Tryz.tabOk mixOrd Tryz.func189 rfl rfl ?_
 conv => whnf
 repeat' first | ((first | (apply zI; refine zP (c_degreeP _ _ _ vAr _) ?_) | (apply zI; refine zP (c_zero n vAr vAr) ?_) | (refine And.intro (fun h => ?_) (fun h => ?_) <;> (try simp only [cnt1, ints_length] at h) <;> first | (exfalso; omega) | skip) | refine zS ?_ | refine Alt.fst ?_ | refine Or.inl ?_) <;> conv => whnf) | fail
 refine loop_peelV Tryz.tabOk mixOrd ?_
 conv => whnf
 repeat' first | ((first | refine z0 ?_ | (apply zI; refine zP (c_curves hm _ _ _ _ n hn f _ _) ?_) | (refine And.intro (fun h => ?_) (fun h => ?_) <;> (try simp only [cnt1, ints_length] at h) <;> first | (exfalso; omega) | skip) | refine zV ?_ | (apply zI; refine zP vObx ?_) | refine Or.inl ?_) <;> conv => whnf) | fail
 · rw [tmod2] at h
   refine loop_atR Tryz.tabOk mixOrd (α := PS (Zm m) × PS (Zm m) × Nat) (fun x => [(1, dint x.2.2), (21, .undef), (30, .undef), (32, .undef), (34, .undef), (35, .undef), (36, .undef)]) (fun x => [(10, some ⟨false, 1, ints (L n x.2.1)⟩), (8, some ⟨false, 1, ints (L n x.1)⟩), (1, some ⟨true, 1, [dint m, .ref 10 [] 1 0 n]⟩), (6, some ⟨true, 1, [dint m, .ref 8 [] 1 0 n]⟩)]) (fun x => Mul f n x.2.2 x.1 x.2.1 r ∧ x.2.2 ≤ 1000000) (fun x => x.2.2) (putS f 0 a n, putS f a a n, k / 2) ?_ ?_ ?_
   · exact ⟨hr.inv.2.1 (by omega), by simp only; omega⟩
   · conv => whnf
     first | refine WeakS.autoR ?_ | refine Weak.autoR ?_
     conv => whnf
     repeat' ((first | refine z1 ?_ | refine zV ?_ | exact trivial) <;> try (conv => whnf))
   intro ⟨x, y, q⟩ ⟨hx, hq⟩
   simp only at hx hq
   conv => whnf
   repeat' first | ((first | refine z0 ?_ | (apply zI; refine zP (c_curves hm _ _ _ _ n hn f _ _) ?_) | (refine And.intro (fun h => ?_) (fun h => ?_) <;> (try simp only [cnt1, ints_length] at h) <;> first | (exfalso; omega) | skip) | refine zV ?_ | (apply zI; refine zP vObx ?_) | refine Or.inl ?_) <;> conv => whnf) | fail
   · rw [tmod2] at h
     refine Exists.intro (putS f x y n, putS f y y n, q / 2) (And.intro ⟨hx.inv.2.1 (by omega), by simp only; omega⟩ (And.intro (by simp only; omega) ?_))
     first | refine WeakS.autoR ?_ | refine Weak.autoR ?_
     conv => whnf
     repeat' ((first | refine z1 ?_ | refine zV ?_ | exact trivial) <;> try (conv => whnf))
   · rw [tmod2] at h
     refine Exists.intro (x, putS f y y n, q / 2) (And.intro ⟨hx.inv.2.2 (by omega) (by omega), by simp only; omega⟩ (And.intro (by simp only; omega) ?_))
     first | refine WeakS.autoR ?_ | refine Weak.autoR ?_
     conv => whnf
     repeat' ((first | refine z1 ?_ | refine zV ?_ | exact trivial) <;> try (conv => whnf))
   · have hq0 : q = 0 := by omega
     subst hq0
     rw [hx.inv.1 rfl]
 · rw [tmod2] at h
   refine loop_atR Tryz.tabOk mixOrd (α := PS (Zm m) × PS (Zm m) × Nat) (fun x => [(1, dint x.2.2), (21, .undef), (30, .undef), (32, .undef), (34, .undef), (35, .undef), (36, .undef)]) (fun x => [(8, some ⟨false, 1, ints (L n x.2.1)⟩), (5, some ⟨false, 1, ints (L n x.1)⟩), (1, some ⟨true, 1, [dint m, .ref 8 [] 1 0 n]⟩), (6, some ⟨true, 1, [dint m, .ref 5 [] 1 0 n]⟩)]) (fun x => Mul f n x.2.2 x.1 x.2.1 r ∧ x.2.2 ≤ 1000000) (fun x => x.2.2) (0, putS f a a n, k / 2) ?_ ?_ ?_
   · exact ⟨hr.inv.2.2 (by omega) (by omega), by simp only; omega⟩
   · conv => whnf
     first | refine WeakS.autoR ?_ | refine Weak.autoR ?_
     conv => whnf
     repeat' ((first | refine z1 ?_ | refine zV ?_ | exact trivial) <;> try (conv => whnf))
   intro ⟨x, y, q⟩ ⟨hx, hq⟩
   simp only at hx hq
   conv => whnf
   repeat' first | ((first | refine z0 ?_ | (apply zI; refine zP (c_curves hm _ _ _ _ n hn f _ _) ?_) | (refine And.intro (fun h => ?_) (fun h => ?_) <;> (try simp only [cnt1, ints_length] at h) <;> first | (exfalso; omega) | skip) | refine zV ?_ | (apply zI; refine zP vObx ?_) | refine Or.inl ?_) <;> conv => whnf) | fail
   · rw [tmod2] at h
     refine Exists.intro (putS f x y n, putS f y y n, q / 2) (And.intro ⟨hx.inv.2.1 (by omega), by simp only; omega⟩ (And.intro (by simp only; omega) ?_))
     first | refine WeakS.autoR ?_ | refine Weak.autoR ?_
     conv => whnf
     repeat' ((first | refine z1 ?_ | refine zV ?_ | exact trivial) <;> try (conv => whnf))
   · rw [tmod2] at h
     refine Exists.intro (x, putS f y y n, q / 2) (And.intro ⟨hx.inv.2.2 (by omega) (by omega), by simp only; omega⟩ (And.intro (by simp only; omega) ?_))
     first | refine WeakS.autoR ?_ | refine Weak.autoR ?_
     conv => whnf
     repeat' ((first | refine z1 ?_ | refine zV ?_ | exact trivial) <;> try (conv => whnf))
   · have hq0 : q = 0 := by omega
     subst hq0
     rw [hx.inv.1 rfl]
 · have hk0 : k = 0 := by omega
   subst hk0
   rw [hr.inv.1 rfl]
theorem c_l04Multiple (hm : Md m) (o p o' : Bool) (n : Nat) (hn : 1 ≤ n ∧ n ≤ 100) (f : PS (PS (Zm m))) (a : PS (Zm m)) (k : Nat) (hk : k ≤ 1000000) (r : PS (Zm m)) (hr : Mul f n k 0 a r) {K : Int} (hK : K = k) : PureCall Tryz.prog 360 [PlD m o p n f, dint K, LD o' n a] (LD true n r) := by
 subst hK
 have hm1 := hm.1
 have hm2 := hm.2
 refine pure_of_vcR Tryz.tabOk mixOrd Tryz.func360 rfl rfl ?_
 conv => whnf
 repeat' first | ((first | refine z0 ?_ | (refine And.intro (fun h => ?_) (fun h => ?_) <;> (try simp only [cnt1, ints_length] at h) <;> first | (exfalso; omega) | skip) | refine zS ?_ | refine zV ?_ | (apply zI; refine zP vObt ?_) | (apply zI; refine zP vObx ?_)) <;> conv => whnf) | fail
 rw [show List.replicate n 0 = L n (0 : PS (Zm m)) from (L_zero n).symm]
 refine loop_peelV Tryz.tabOk mixOrd ?_
 conv => whnf
 repeat' first | ((first | refine z0 ?_ | (apply zI; refine zP (c_l03Put hm _ _ _ _ n hn f _ _) ?_) | (refine And.intro (fun h => ?_) (fun h => ?_) <;> (try simp only [cnt1, ints_length] at h) <;> first | (exfalso; omega) | skip) | refine zV ?_ | (apply zI; refine zP vObx ?_) | refine Or.inl ?_) <;> conv => whnf) | fail
 · rw [tmod2] at h
   refine loop_atR Tryz.tabOk mixOrd (α := PS (Zm m) × PS (Zm m) × Nat) (fun x => [(1, dint x.2.2), (2, .ref 3 [] 1 0 n), (7, .ref 2 [] 1 0 n), (19, .undef), (31, .undef), (33, .undef), (38, .undef), (39, .undef), (40, .undef)]) (fun x => [(3, some ⟨false, 1, ints (L n x.2.1)⟩), (2, some ⟨false, 1, ints (L n x.1)⟩)]) (fun x => Mul f n x.2.2 x.1 x.2.1 r ∧ x.2.2 ≤ 1000000) (fun x => x.2.2) (putS f 0 a n, putS f a a n, k / 2) ?_ ?_ ?_
   · exact ⟨hr.inv.2.1 (by omega), by simp only; omega⟩
   · conv => whnf
     first | refine WeakS.autoR ?_ | refine Weak.autoR ?_
     conv => whnf
     repeat' ((first | refine z1 ?_ | refine zV ?_ | exact trivial) <;> try (conv => whnf))
   intro ⟨x, y, q⟩ ⟨hx, hq⟩
   simp only at hx hq
   conv => whnf
   repeat' first | ((first | refine z0 ?_ | (apply zI; refine zP (c_l03Put hm _ _ _ _ n hn f _ _) ?_) | (refine And.intro (fun h => ?_) (fun h => ?_) <;> (try simp only [cnt1, ints_length] at h) <;> first | (exfalso; omega) | skip) | refine zV ?_ | (apply zI; refine zP vObx ?_) | refine Or.inl ?_) <;> conv => whnf) | fail
   · rw [tmod2] at h
     refine Exists.intro (putS f x y n, putS f y y n, q / 2) (And.intro ⟨hx.inv.2.1 (by omega), by simp only; omega⟩ (And.intro (by simp only; omega) ?_))
     first | refine WeakS.autoR ?_ | refine Weak.autoR ?_
     conv => whnf
     repeat' ((first | refine z1 ?_ | refine zV ?_ | exact trivial) <;> try (conv => whnf))
   · rw [tmod2] at h
     refine Exists.intro (x, putS f y y n, q / 2) (And.intro ⟨hx.inv.2.2 (by omega) (by omega), by simp only; omega⟩ (And.intro (by simp only; omega) ?_))
     first | refine WeakS.autoR ?_ | refine Weak.autoR ?_
     conv => whnf
     repeat' ((first | refine z1 ?_ | refine zV ?_ | exact trivial) <;> try (conv => whnf))
   · have hq0 : q = 0 := by omega
     subst hq0
     rw [hx.inv.1 rfl]
 · rw [tmod2] at h
   refine loop_atR Tryz.tabOk mixOrd (α := PS (Zm m) × PS (Zm m) × Nat) (fun x => [(1, dint x.2.2), (2, .ref 2 [] 1 0 n), (7, .ref 1 [] 1 0 n), (19, .undef), (31, .undef), (33, .undef), (38, .undef), (39, .undef), (40, .undef)]) (fun x => [(2, some ⟨false, 1, ints (L n x.2.1)⟩), (1, some ⟨false, 1, ints (L n x.1)⟩)]) (fun x => Mul f n x.2.2 x.1 x.2.1 r ∧ x.2.2 ≤ 1000000) (fun x => x.2.2) (0, putS f a a n, k / 2) ?_ ?_ ?_
   · exact ⟨hr.inv.2.2 (by omega) (by omega), by simp only; omega⟩
   · conv => whnf
     first | refine WeakS.autoR ?_ | refine Weak.autoR ?_
     conv => whnf
     repeat' ((first | refine z1 ?_ | refine zV ?_ | exact trivial) <;> try (conv => whnf))
   intro ⟨x, y, q⟩ ⟨hx, hq⟩
   simp only at hx hq
   conv => whnf
   repeat' first | ((first | refine z0 ?_ | (apply zI; refine zP (c_l03Put hm _ _ _ _ n hn f _ _) ?_) | (refine And.intro (fun h => ?_) (fun h => ?_) <;> (try simp only [cnt1, ints_length] at h) <;> first | (exfalso; omega) | skip) | refine zV ?_ | (apply zI; refine zP vObx ?_) | refine Or.inl ?_) <;> conv => whnf) | fail
   · rw [tmod2] at h
     refine Exists.intro (putS f x y n, putS f y y n, q / 2) (And.intro ⟨hx.inv.2.1 (by omega), by simp only; omega⟩ (And.intro (by simp only; omega) ?_))
     first | refine WeakS.autoR ?_ | refine Weak.autoR ?_
     conv => whnf
     repeat' ((first | refine z1 ?_ | refine zV ?_ | exact trivial) <;> try (conv => whnf))
   · rw [tmod2] at h
     refine Exists.intro (x, putS f y y n, q / 2) (And.intro ⟨hx.inv.2.2 (by omega) (by omega), by simp only; omega⟩ (And.intro (by simp only; omega) ?_))
     first | refine WeakS.autoR ?_ | refine Weak.autoR ?_
     conv => whnf
     repeat' ((first | refine z1 ?_ | refine zV ?_ | exact trivial) <;> try (conv => whnf))
   · have hq0 : q = 0 := by omega
     subst hq0
     rw [hx.inv.1 rfl]
 · have hk0 : k = 0 := by omega
   subst hk0
   rw [hr.inv.1 rfl]
end Go.Proofs
