import Derived.Test.YtghcpginhamelaaGreatAlg24
namespace Go.Fg
set_option linter.unusedVariables false
set_option linter.unusedSimpArgs false
set_option linter.unusedSectionVars false
namespace PS
section
variable {m : Int}
section
variable {f : PS (PS (Zm m))} {n : Nat}
end
end
section
variable {R : Type} [CR R]
end
end PS
end Go.Fg
namespace Go.Fg
set_option linter.unusedVariables false
set_option linter.unusedSimpArgs false
set_option linter.unusedSectionVars false
namespace PS
section
variable {m : Int}
theorem vP {f : PS (PS (Zm m))} (f0 : (f.c 0).c 0 = 0) {K N p q k : Nat} (hs : p + q + k < N) (hK : N ≤ K) : gam f K p q k = 0 ↔ Go.Fg.sm (N - k) (fun i => (f.c i).c k * ((Go.Fg.pw f i).c p).c q) = Go.Fg.sm (N - p) (fun j => (f.c p).c j * ((Go.Fg.pw f j).c q).c k) := by
 unfold gam
 rw [sub_eq_zero, mL (show N - k ≤ K by omega) (fun i h1 _ => by rw [nF f0 i p q (by omega), Go.Fg.mul_zero]), mL (show N - p ≤ K by omega) (fun j h1 _ => by rw [nF f0 j q k (by omega), Go.Fg.mul_zero])]
theorem LwN.low {f : PS (PS (Zm m))} {N : Nat} (L : LwN f N) : Lw (mN f N) N := by
 have hN := L.pos
 have e : ∀ i j, i + j < N → ((mN f N).c i).c j = (f.c i).c j := fun i j h => by rw [pB, if_pos h]
 refine ⟨by omega, by rw [e 0 0 (by omega), L.z0], by rw [e 1 0 (by omega), L.z1], fun i h1 h2 => ?_, fun i j h => ?_, fun p q k h => ?_⟩
 · rw [pB]
   split
   · exact L.zz i (by omega) h2
   · rfl
 · rw [pB, pB]
   by_cases h1 : i + j < N
   · rw [if_pos h1, if_pos (by omega), L.sym i j h1]
   · rw [if_neg h1, if_neg (by omega)]
 · rw [W2 (f := mN f N) (g := f) (n := N) (by rw [e 0 0 (by omega), L.z0]) L.z0 (fun i j h => e i j h) h]
   exact (vP L.z0 h (by omega)).2 (L.as p q k h)
end
end PS
end Go.Fg
