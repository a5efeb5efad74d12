/- Cocycles: one round of the program's own check. -/
-- tables
-- rec
import Derived.Test.YthpbaehnkmmkgaaGreatK19
import Derived.Test.YthpbaehnkmmkgaaGreatVm32
namespace Go.Proofs
open Go Go.Vm Go.Fg Go.Fg.PS
set_option maxRecDepth 100000
set_option maxHeartbeats 4000000
set_option linter.unusedSimpArgs false
set_option linter.unusedVariables false
variable {m : Int}
def cocQ (f : PS (PS (Zm m))) (N a b : Nat) : Prop := 1 ≤ a → 1 ≤ b → a + b < N - 1 → cocR f (N - 1) a b
theorem two_tmod (hm : 0 < m) (s t : Int) : (0 + s.tmod m + t.tmod m) % m = (s + t) % m := by
  have e : ∀ u : Int, u.tmod m % m = u % m := fun u => by
    have h := Int.tmod_add_mul_tdiv u m
    conv => rhs; rw [← h]
    rw [Int.add_mul_emod_self_left]
  rw [Int.zero_add, Int.add_emod, e, e, ← Int.add_emod]
theorem tot_iff (hm : 0 < m) (f : PS (PS (Zm m))) (N x y : Nat) :
    (0 + (((bin (N - 1 - x) y : Nat) : Int) * ((topS f N).c x).val).tmod m + ((0 - ((bin (x + y) x : Nat) : Int)) * ((topS f N).c (x + y)).val).tmod m) % m = 0 ↔ cocR f (N - 1) x y := by
  rw [two_tmod hm, Int.zero_sub, Int.neg_mul, ← Int.sub_eq_add_neg, ← Int.emod_eq_emod_iff_emod_sub_eq_zero, ← Zm.mk_eq, Zm.mk_mul, Zm.mk_mul, Zm.mk_val, Zm.mk_val]
  exact ⟨fun h => h.symm, fun h => Eq.symm h⟩
theorem tot_zero (hm : 0 < m) {a b v : Int} (h : a + b = 0) : (0 + (a * v).tmod m + (b * v).tmod m) % m = 0 := by
  rw [two_tmod hm, ← Int.add_mul, h, Int.zero_mul]; rfl
theorem cocR_zero (f : PS (PS (Zm m))) (n x : Nat) : cocR f n x 0 := by
  unfold cocR
  rw [Nat.add_zero, bin_self, bin_zero]
theorem inl_round (hm : Md m) (o p : Bool) (N : Nat) (hN : 2 ≤ N ∧ N ≤ 11) (f : PS (PS (Zm m))) (x y : Nat) (hxy : x + y ≤ N - 1) (fy : Bool) (env : List D) (c7 c9 c12 : List D) (q : Nat) (hqN : N = q) (K : D → List (Option Root) → Prop)
    (h0 : fy = false → ∀ t n : Int, K (oneD []) [some ⟨true, 1, [dint m, .list o 1 (rows p (Tb N f))]⟩, none, none, some ⟨false, 1, ints (L N (topS f N))⟩, some ⟨true, 1, [.ref 3 [] 1 0 q]⟩, none, none, some ⟨false, 1, c7⟩, none, some ⟨false, 1, c9⟩, none, none, some ⟨false, 1, c12⟩, none, none, some ⟨true, 1, [.kb false]⟩, none,
        some ⟨true, 1, [dint t]⟩, some ⟨true, 1, [.fn (.func 291) [] [.ptr 17 [] 0, .ptr 4 [] 0, .ptr 0 [] 0]]⟩, some ⟨true, 1, [dint n]⟩, none, none])
    (h1 : fy = true → ∀ (b : Bool) (t n : Int), (b = true ↔ cocQ f N x y) → K (oneD []) [some ⟨true, 1, [dint m, .list o 1 (rows p (Tb N f))]⟩, none, none, some ⟨false, 1, ints (L N (topS f N))⟩, some ⟨true, 1, [.ref 3 [] 1 0 q]⟩, none, none, some ⟨false, 1, c7⟩, none, some ⟨false, 1, c9⟩, none, none, some ⟨false, 1, c12⟩, none, none, some ⟨true, 1, [.kb b]⟩, none,
        some ⟨true, 1, [dint t]⟩, some ⟨true, 1, [.fn (.func 291) [] [.ptr 17 [] 0, .ptr 4 [] 0, .ptr 0 [] 0]]⟩, some ⟨true, 1, [dint n]⟩, none, none, none]) :
    inlK Tryz.prog Tryz.tab (.fn (.func 289) [] [.ptr 4 [] 0, .ptr 0 [] 0, .ptr 15 [] 0]) [dint x, dint y, dint (N - 1 - x - y)]
      ⟨env, [some ⟨true, 1, [dint m, .list o 1 (rows p (Tb N f))]⟩, none, none, some ⟨false, 1, ints (L N (topS f N))⟩, some ⟨true, 1, [.ref 3 [] 1 0 q]⟩, none, none, some ⟨false, 1, c7⟩, none, some ⟨false, 1, c9⟩, none, none, some ⟨false, 1, c12⟩, none, none, some ⟨true, 1, [.kb fy]⟩, none]⟩ K := by
  subst hqN
  have hK0 := h0
  have hK1 := h1
  clear h0 h1
  have hm1 := hm.1
  have hm2 := hm.2
  have hB : ∀ n k : Nat, n ≤ 10 → 0 ≤ ((bin n k : Nat) : Int) ∧ ((bin n k : Nat) : Int) ≤ 1024 := fun n k h => by
    have h1 := bin_le n k
    have h2 : 2 ^ n ≤ 2 ^ 10 := Nat.pow_le_pow_right (by omega) h
    omega
  have hV : ∀ i, 0 ≤ ((topS f N).c i).val ∧ ((topS f N).c i).val < m := fun i => Zm.val_range hm.pos _
  have hP : ∀ (n k i : Nat), n ≤ 10 → 0 ≤ ((bin n k : Nat) : Int) * ((topS f N).c i).val ∧ ((bin n k : Nat) : Int) * ((topS f N).c i).val ≤ 10240000 := fun n k i h => by
    have h1 := hB n k h
    have h2 := hV i
    refine ⟨Int.mul_nonneg h1.1 h2.1, ?_⟩
    have := Int.mul_le_mul h1.2 (show ((topS f N).c i).val ≤ 10000 by omega) h2.1 (by omega)
    omega
  have hQ : ∀ (n k i : Nat), n ≤ 10 → -10240000 ≤ (0 - ((bin n k : Nat) : Int)) * ((topS f N).c i).val ∧ (0 - ((bin n k : Nat) : Int)) * ((topS f N).c i).val ≤ 0 := fun n k i h => by
    have h1 := hP n k i h
    have e : (0 - ((bin n k : Nat) : Int)) * ((topS f N).c i).val = - (((bin n k : Nat) : Int) * ((topS f N).c i).val) := by rw [Int.zero_sub, Int.neg_mul]
    omega
  have hT : ∀ t : Int, -10000 < t.tmod m ∧ t.tmod m < 10000 := fun t => by
    have h1 := Int.lt_tmod_of_pos t (show 0 < m by omega)
    have h2 := Int.tmod_lt_of_pos t (show 0 < m by omega)
    omega
  have hxyN : ((x : Int) + y).toNat = x + y := by omega
  have v1 := hV x
  have v2 := hV y
  have b1 := hB (N - 1 - x) y (by omega)
  have b2 := hB (x + y) x (by omega)
  have p1 := hP (N - 1 - x) y x (by omega)
  have p2 := hQ (x + y) x (x + y) (by omega)
  have p3 := hP (N - 1 - x) y ((x : Int) + y).toNat (by omega)
  have t1 := hT (((bin (N - 1 - x) y : Nat) : Int) * ((topS f N).c x).val)
  have t2 := hT ((0 - ((bin (x + y) x : Nat) : Int)) * ((topS f N).c (x + y)).val)
  have t3 := hT (1 * ((topS f N).c y).val)
  have t4 := hT (-1 * ((topS f N).c x).val)
  have t5 := hT ((0 - ((bin (x + y) x : Nat) : Int)) * ((topS f N).c ((x : Int) + y).toNat).val)
  have p4 := hQ (x + y) x ((x : Int) + y).toNat (by omega)
  refine inl_ofR Tryz.tabOk mixOrd _ Tryz.func289 rfl rfl ?_
  cases fy
  all_goals conv => whnf
  repeat' first | ((first | refine z0 ?_ | refine Or.inr (inl_ofR Tryz.tabOk mixOrd _ Tryz.func290 rfl rfl ?_) | refine Or.inr (inl_ofR Tryz.tabOk mixOrd _ Tryz.func394 rfl rfl ?_) | refine Or.inr (inl_ofR Tryz.tabOk mixOrd _ Tryz.func291 rfl rfl ?_) | (apply zI; refine zP (c_binomial (N - 1 - x) y (by omega) (by omega) (by omega) (by omega)) ?_) | (apply zI; refine zP (c_binomial (x + y) x (by omega) (by omega) (by omega) (by omega)) ?_) | (apply zI; refine zP (c_mod _ _ hm.pos (by omega)) ?_) | (refine And.intro (fun h => ?_) (fun h => ?_) <;> (try simp only [cnt1, ints_length] at h) <;> first | (exfalso; omega) | skip) | refine zS ?_ | refine zV ?_ | (apply zI; refine zP vObt ?_) | (apply zI; refine zP vObx ?_) | refine zA ?_ | refine Alt.fst ?_ | refine Or.inl ?_) <;> conv => whnf) | fail
  all_goals first | exact hK0 rfl _ _ | refine hK1 rfl _ _ _ ?_
  all_goals first
    | (refine ⟨fun _ => ?_, fun _ => rfl⟩
       intro h1 h2 h3
       first
         | (exfalso; omega)
         | exact (tot_iff hm.pos f N x y).1 (by assumption))
    | (refine ⟨fun h => (by cases h), fun hq => ?_⟩
       exfalso
       first
         | exact absurd (Int.zero_emod m) (by assumption)
         | (have hx0 : x = 0 := by omega
            subst hx0
            refine h ?_
            rw [bin_zero, Nat.zero_add]
            exact tot_zero hm.pos (by decide))
         | (have hyN : N - 1 - x = y := by omega
            refine h ?_
            rw [hyN, bin_self]
            exact tot_zero hm.pos (by decide))
         | (refine h ((tot_iff hm.pos f N x y).2 ?_)
            rcases Nat.eq_zero_or_pos y with rfl | hy
            · exact cocR_zero f (N - 1) x
            · exact hq (by omega) hy (by omega)))
end Go.Proofs

