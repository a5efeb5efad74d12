/- The law of Weierstrass of the reference, last part. -/
import Derived.Test.YthpbaehnkmmkgaaGreatK135C
import Derived.Test.YthpbaehnkmmkgaaGreatK133
import Derived.Test.YthpbaehnkmmkgaaGreatK130
import Derived.Test.YthpbaehnkmmkgaaGreatK132
import Derived.Test.YthpbaehnkmmkgaaGreatK19
import Derived.Test.YthpbaehnkmmkgaaGreatVm32

-- tables
-- rec
namespace Go.Proofs
open Go Go.Vm Go.Fg Go.Fg.PS
set_option maxRecDepth 100000
set_option maxHeartbeats 4000000
set_option linter.unusedSimpArgs false
set_option linter.unusedVariables false
variable {m : Int}
theorem tm_rng (hm : Md m) {x : Int} (h : 0 ≤ x) : 0 ≤ x.tmod m ∧ x.tmod m < m := by
  have := hm.pos
  rw [Int.tmod_eq_emod_of_nonneg h]
  exact ⟨Int.emod_nonneg _ (by omega), Int.emod_lt_of_pos _ (by omega)⟩
theorem bl_one (hm : Md m) {n : Nat} {a : PS (Zm m)} : [dint 1] = ints (L (0 + 1) (wBl n a)) := by
  have h1 : (1 : Int) = (1 : Zm m).val := (Zm.val_one (by have := hm.1; omega)).symm
  show _ = [dint (1 : Zm m).val]
  rw [← h1]
def tS : PS (Zm m) := ⟨fun k => if k = 1 then -1 else 0⟩
theorem tS_list (hm : Md m) {n : Nat} (hn : 2 ≤ n ∧ n ≤ 11) {d : Int} (hd : d + 1 = n) : (List.replicate (d + 1).toNat (0 : Int)).set 1 (m - 1) = L n (tS : PS (Zm m)) := by
  rw [show (d + 1).toNat = n by omega]
  refine List.ext_getElem (by simp) (fun i h1 h2 => ?_)
  rw [List.getElem_set, L_getElem]
  unfold tS
  by_cases h : 1 = i
  · rw [if_pos h]; simp only [if_pos h.symm]; exact neg_one_val hm
  · rw [if_neg h]; simp only [if_neg (Ne.symm h), List.getElem_replicate]; rfl
theorem c_l08Weierstrass (hm : Md m) (o : Bool) (n : Nat) (hn : 2 ≤ n ∧ n ≤ 11) {d : Int} (hd : d + 1 = n) (a : PS (Zm m)) : PureCall Tryz.prog 244 [dint m, dint d, LD o 5 a] (TbD true true n (wF n a)) := by
  have hm1 := hm.1
  have hm2 := hm.2
  refine (wstA hm o n hn hd a (wF n a)).2 ⟨(wstB hm o n hn hd a (wF n a)).2 ⟨(wstC hm o n hn hd a (wF n a)).2 ⟨?_⟩⟩⟩
  conv => whnf
  refine loop_cutR Tryz.tabOk mixOrd 26 (α := Nat) (fun k => [(7, .ref 0 [] 1 0 (n + 1)), (11, .undef), (16, .undef), (17, .undef), (18, .undef), (19, .undef), (20, .undef), (21, .ref 31 [] 1 0 n), (22, .ref 32 [] 1 0 (k + 1)), (23, dint ((k : Int) + 1)), (24, .undef)]) (fun k => [(32, some ⟨false, 1, ints (L (k + 1) (wBl n a))⟩)]) (fun k => k + 1 ≤ n) (fun k => n - k) (0) ?_ ?_ ?_
  · omega
  · conv => whnf
    first | refine WeakS.autoR ?_ | refine Weak.autoR ?_
    conv => whnf
    repeat' ((first | refine z1 ?_ | refine z2 ?_ | refine zV ?_ | refine And.intro vRepl ?_ | refine And.intro vReplL ?_ | refine And.intro ?_ ?_ | exact trivial) <;> try (conv => whnf))
    all_goals first | rfl | exact bl_one hm
  intro k hk
  conv => whnf
  have hx2 := hm.mul (a.c (Int.toNat 2)) ((w0 n a).c (k + 1))
  have hx0 := Zm.val_range hm.pos (a.c 0)
  have e1 : ((k : Int) + 1).toNat = k + 1 := by omega
  by_cases hk9 : k + 1 < n
  · have hy1 := tm_rng hm (x := (a.c (Int.toNat 2)).val * ((w0 n a).c (k + 1)).val + (a.c 0).val) (by omega)
    have hy2 := tm_rng hm (x := (a.c (Int.toNat 2)).val * ((w0 n a).c (k + 1)).val) (by omega)
    repeat' first | ((first | refine z0 ?_ | (refine And.intro (fun h => ?_) (fun h => ?_) <;> (try simp only [cnt1, ints_length] at h) <;> first | (exfalso; omega) | skip) | refine zS ?_ | refine zV ?_ | (apply zI; refine zP vObt ?_) | (apply zI; refine zP vObx ?_) | refine zA ?_ | refine And.intro ((inR64 (by omega) (by omega))) ?_ | refine Alt.fst ?_ | refine Or.inl ?_) <;> conv => whnf) | fail
    · refine Exists.intro (k + 1) (And.intro vAr (And.intro vAr ?_))
      first | refine WeakS.autoR ?_ | refine Weak.autoR ?_
      conv => whnf
      repeat' ((first | refine z1 ?_ | refine z2 ?_ | refine zV ?_ | refine And.intro vRepl ?_ | refine And.intro vReplL ?_ | refine And.intro ?_ ?_ | exact trivial) <;> try (conv => whnf))
      all_goals first
        | omega
        | exact ints_congr' (L_push (by unfold wBl blS; simp only [if_neg (show ¬k + 1 = 0 by omega), if_pos (show k + 1 = 1 by omega)]; exact tm_mk hm (by omega)))
    · refine Exists.intro (k + 1) (And.intro vAr (And.intro vAr ?_))
      first | refine WeakS.autoR ?_ | refine Weak.autoR ?_
      conv => whnf
      repeat' ((first | refine z1 ?_ | refine z2 ?_ | refine zV ?_ | refine And.intro vRepl ?_ | refine And.intro vReplL ?_ | refine And.intro ?_ ?_ | exact trivial) <;> try (conv => whnf))
      all_goals first
        | omega
        | exact ints_congr' (L_push (by unfold wBl blS; simp only [if_neg (show ¬k + 1 = 0 by omega), if_neg (show ¬k + 1 = 1 by omega), Int.add_zero]; exact tm_mk hm (by omega)))
  have hkn : n = k + 1 := by omega
  repeat' first | ((first | refine z0 ?_ | (apply zI; refine zP (c_l02Inverse hm _ n (k + 1) hd (by omega) (by omega) (by omega) (wBl n a) _ (c_l01Inv hm _)) ?_) | (refine And.intro (fun h => ?_) (fun h => ?_) <;> (try simp only [cnt1, ints_length] at h) <;> first | (exfalso; omega) | skip) | refine zS ?_ | refine zV ?_ | (apply zI; refine zP vObt ?_) | (apply zI; refine zP vObx ?_) | refine zA ?_ | refine Alt.fst ?_ | refine Or.inl ?_) <;> conv => whnf) | fail
  rw [tS_list hm hn hd]
  repeat' first | ((first | refine z0 ?_ | (apply zI; refine zP (c_l02Times hm _ _ n n n hd (by omega) (by omega) (by omega) (by omega) (by omega) (tS : PS (Zm m)) (inv (invN m ((wBl n a).c 0).val) (wBl n a))) ?_) | (apply zI; refine zP (c_l03After hm _ _ _ n (by omega) n (by omega) (tS * inv (invN m ((wBl n a).c 0).val) (wBl n a)) (wU n a)) ?_) | (refine And.intro (fun h => ?_) (fun h => ?_) <;> (try simp only [cnt1, ints_length] at h) <;> first | (exfalso; omega) | skip) | refine zS ?_ | refine zV ?_ | (apply zI; refine zP vObt ?_) | (apply zI; refine zP vObx ?_) | refine zA ?_ | refine Alt.fst ?_ | refine Or.inl ?_) <;> conv => whnf) | fail
  all_goals rfl
end Go.Proofs



-- tables
-- rec
namespace Go.Proofs
open Go Go.Vm Go.Fg Go.Fg.PS
set_option maxRecDepth 100000
set_option maxHeartbeats 4000000
set_option linter.unusedSimpArgs false
set_option linter.unusedVariables false
variable {m : Int}
abbrev plF (m : Int) (t : List (List Int)) : D := .agg [dint m, .list false 1 (rows false t)]
theorem fz_tup2 {r : Nat} {cs : List D} {a a' b b' : D} (h1 : Fz r cs a a') (h2 : Fz r cs b b') : Fz r cs (.tup [a, b]) (.tup [a', b']) :=
  .tup _ _ rfl (fun i d d' hd hd' => by
    match i, hd, hd' with
    | 0, hd, hd' => simp at hd hd'; subst hd; subst hd'; exact h1
    | 1, hd, hd' => simp at hd hd'; subst hd; subst hd'; exact h2
    | i + 2, hd, hd' => simp at hd)
end Go.Proofs



-- tables
-- rec
namespace Go.Proofs
open Go Go.Vm Go.Fg Go.Fg.PS
set_option maxRecDepth 100000
set_option maxHeartbeats 4000000
set_option linter.unusedSimpArgs false
set_option linter.unusedVariables false
variable {m : Int}
def cocQ (f : PS (PS (Zm m))) (N a b : Nat) : Prop := 1 ≤ a → 1 ≤ b → a + b < N - 1 → cocR f (N - 1) a b
theorem two_tmod (hm : 0 < m) (s t : Int) : (0 + s.tmod m + t.tmod m) % m = (s + t) % m := by
  have e : ∀ u : Int, u.tmod m % m = u % m := fun u => by
    have h := Int.tmod_add_mul_tdiv u m
    conv => rhs; rw [← h]
    rw [Int.add_mul_emod_self_left]
  rw [Int.zero_add, Int.add_emod, e, e, ← Int.add_emod]
theorem tot_iff (hm : 0 < m) (f : PS (PS (Zm m))) (N x y : Nat) :
    (0 + (((bin (N - 1 - x) y : Nat) : Int) * ((topS f N).c x).val).tmod m + ((0 - ((bin (x + y) x : Nat) : Int)) * ((topS f N).c (x + y)).val).tmod m) % m = 0 ↔ cocR f (N - 1) x y := by
  rw [two_tmod hm, Int.zero_sub, Int.neg_mul, ← Int.sub_eq_add_neg, ← Int.emod_eq_emod_iff_emod_sub_eq_zero, ← Zm.mk_eq, Zm.mk_mul, Zm.mk_mul, Zm.mk_val, Zm.mk_val]
  exact ⟨fun h => h.symm, fun h => Eq.symm h⟩
theorem tot_zero (hm : 0 < m) {a b v : Int} (h : a + b = 0) : (0 + (a * v).tmod m + (b * v).tmod m) % m = 0 := by
  rw [two_tmod hm, ← Int.add_mul, h, Int.zero_mul]; rfl
theorem cocR_zero (f : PS (PS (Zm m))) (n x : Nat) : cocR f n x 0 := by
  unfold cocR
  rw [Nat.add_zero, bin_self, bin_zero]
theorem inl_round (hm : Md m) (o p : Bool) (N : Nat) (hN : 2 ≤ N ∧ N ≤ 11) (f : PS (PS (Zm m))) (x y : Nat) (hxy : x + y ≤ N - 1) (fy : Bool) (env : List D) (c7 c9 c12 : List D) (q : Nat) (hqN : N = q) (K : D → List (Option Root) → Prop)
    (h0 : fy = false → ∀ t n : Int, K (oneD []) [some ⟨true, 1, [dint m, .list o 1 (rows p (Tb N f))]⟩, none, none, some ⟨false, 1, ints (L N (topS f N))⟩, some ⟨true, 1, [.ref 3 [] 1 0 q]⟩, none, none, some ⟨false, 1, c7⟩, none, some ⟨false, 1, c9⟩, none, none, some ⟨false, 1, c12⟩, none, none, some ⟨true, 1, [.kb false]⟩, none,
        some ⟨true, 1, [dint t]⟩, some ⟨true, 1, [.fn (.func 291) [] [.ptr 17 [] 0, .ptr 4 [] 0, .ptr 0 [] 0]]⟩, some ⟨true, 1, [dint n]⟩, none, none])
    (h1 : fy = true → ∀ (b : Bool) (t n : Int), (b = true ↔ cocQ f N x y) → K (oneD []) [some ⟨true, 1, [dint m, .list o 1 (rows p (Tb N f))]⟩, none, none, some ⟨false, 1, ints (L N (topS f N))⟩, some ⟨true, 1, [.ref 3 [] 1 0 q]⟩, none, none, some ⟨false, 1, c7⟩, none, some ⟨false, 1, c9⟩, none, none, some ⟨false, 1, c12⟩, none, none, some ⟨true, 1, [.kb b]⟩, none,
        some ⟨true, 1, [dint t]⟩, some ⟨true, 1, [.fn (.func 291) [] [.ptr 17 [] 0, .ptr 4 [] 0, .ptr 0 [] 0]]⟩, some ⟨true, 1, [dint n]⟩, none, none, none]) :
    inlK Tryz.prog Tryz.tab (.fn (.func 289) [] [.ptr 4 [] 0, .ptr 0 [] 0, .ptr 15 [] 0]) [dint x, dint y, dint (N - 1 - x - y)]
      ⟨env, [some ⟨true, 1, [dint m, .list o 1 (rows p (Tb N f))]⟩, none, none, some ⟨false, 1, ints (L N (topS f N))⟩, some ⟨true, 1, [.ref 3 [] 1 0 q]⟩, none, none, some ⟨false, 1, c7⟩, none, some ⟨false, 1, c9⟩, none, none, some ⟨false, 1, c12⟩, none, none, some ⟨true, 1, [.kb fy]⟩, none]⟩ K := by
  subst hqN
  have hK0 := h0
  have hK1 := h1
  clear h0 h1
  have hm1 := hm.1
  have hm2 := hm.2
  have hB : ∀ n k : Nat, n ≤ 10 → 0 ≤ ((bin n k : Nat) : Int) ∧ ((bin n k : Nat) : Int) ≤ 1024 := fun n k h => by
    have h1 := bin_le n k
    have h2 : 2 ^ n ≤ 2 ^ 10 := Nat.pow_le_pow_right (by omega) h
    omega
  have hV : ∀ i, 0 ≤ ((topS f N).c i).val ∧ ((topS f N).c i).val < m := fun i => Zm.val_range hm.pos _
  have hP : ∀ (n k i : Nat), n ≤ 10 → 0 ≤ ((bin n k : Nat) : Int) * ((topS f N).c i).val ∧ ((bin n k : Nat) : Int) * ((topS f N).c i).val ≤ 10240000 := fun n k i h => by
    have h1 := hB n k h
    have h2 := hV i
    refine ⟨Int.mul_nonneg h1.1 h2.1, ?_⟩
    have := Int.mul_le_mul h1.2 (show ((topS f N).c i).val ≤ 10000 by omega) h2.1 (by omega)
    omega
  have hQ : ∀ (n k i : Nat), n ≤ 10 → -10240000 ≤ (0 - ((bin n k : Nat) : Int)) * ((topS f N).c i).val ∧ (0 - ((bin n k : Nat) : Int)) * ((topS f N).c i).val ≤ 0 := fun n k i h => by
    have h1 := hP n k i h
    have e : (0 - ((bin n k : Nat) : Int)) * ((topS f N).c i).val = - (((bin n k : Nat) : Int) * ((topS f N).c i).val) := by rw [Int.zero_sub, Int.neg_mul]
    omega
  have hT : ∀ t : Int, -10000 < t.tmod m ∧ t.tmod m < 10000 := fun t => by
    have h1 := Int.lt_tmod_of_pos t (show 0 < m by omega)
    have h2 := Int.tmod_lt_of_pos t (show 0 < m by omega)
    omega
  have hxyN : ((x : Int) + y).toNat = x + y := by omega
  have v1 := hV x
  have v2 := hV y
  have b1 := hB (N - 1 - x) y (by omega)
  have b2 := hB (x + y) x (by omega)
  have p1 := hP (N - 1 - x) y x (by omega)
  have p2 := hQ (x + y) x (x + y) (by omega)
  have p3 := hP (N - 1 - x) y ((x : Int) + y).toNat (by omega)
  have t1 := hT (((bin (N - 1 - x) y : Nat) : Int) * ((topS f N).c x).val)
  have t2 := hT ((0 - ((bin (x + y) x : Nat) : Int)) * ((topS f N).c (x + y)).val)
  have t3 := hT (1 * ((topS f N).c y).val)
  have t4 := hT (-1 * ((topS f N).c x).val)
  have t5 := hT ((0 - ((bin (x + y) x : Nat) : Int)) * ((topS f N).c ((x : Int) + y).toNat).val)
  have p4 := hQ (x + y) x ((x : Int) + y).toNat (by omega)
  refine inl_ofR Tryz.tabOk mixOrd _ Tryz.func289 rfl rfl ?_
  cases fy
  all_goals conv => whnf
  repeat' first | ((first | refine z0 ?_ | refine Or.inr (inl_ofR Tryz.tabOk mixOrd _ Tryz.func290 rfl rfl ?_) | refine Or.inr (inl_ofR Tryz.tabOk mixOrd _ Tryz.func394 rfl rfl ?_) | refine Or.inr (inl_ofR Tryz.tabOk mixOrd _ Tryz.func291 rfl rfl ?_) | (apply zI; refine zP (c_binomial (N - 1 - x) y (by omega) (by omega) (by omega) (by omega)) ?_) | (apply zI; refine zP (c_binomial (x + y) x (by omega) (by omega) (by omega) (by omega)) ?_) | (apply zI; refine zP (c_mod _ _ hm.pos (by omega)) ?_) | (refine And.intro (fun h => ?_) (fun h => ?_) <;> (try simp only [cnt1, ints_length] at h) <;> first | (exfalso; omega) | skip) | refine zS ?_ | refine zV ?_ | (apply zI; refine zP vObt ?_) | (apply zI; refine zP vObx ?_) | refine zA ?_ | refine Alt.fst ?_ | refine Or.inl ?_) <;> conv => whnf) | fail
  all_goals first | exact hK0 rfl _ _ | refine hK1 rfl _ _ _ ?_
  all_goals first
    | (refine ⟨fun _ => ?_, fun _ => rfl⟩
       intro h1 h2 h3
       first
         | (exfalso; omega)
         | exact (tot_iff hm.pos f N x y).1 (by assumption))
    | (refine ⟨fun h => (by cases h), fun hq => ?_⟩
       exfalso
       first
         | exact absurd (Int.zero_emod m) (by assumption)
         | (have hx0 : x = 0 := by omega
            subst hx0
            refine h ?_
            rw [bin_zero, Nat.zero_add]
            exact tot_zero hm.pos (by decide))
         | (have hyN : N - 1 - x = y := by omega
            refine h ?_
            rw [hyN, bin_self]
            exact tot_zero hm.pos (by decide))
         | (refine h ((tot_iff hm.pos f N x y).2 ?_)
            rcases Nat.eq_zero_or_pos y with rfl | hy
            · exact cocR_zero f (N - 1) x
            · exact hq (by omega) hy (by omega)))
end Go.Proofs


