/- Laws to a degree and their tops. -/
-- tables
-- rec
import Derived.Test.YthpbaehnkmmkgaaGreatK154
import Derived.Test.YthpbaehnkmmkgaaGreatK28
import Derived.Test.YthpbaehnkmmkgaaGreatK16
namespace Go.Proofs
open Go Go.Vm Go.Fg Go.Fg.PS
set_option maxRecDepth 100000
set_option maxHeartbeats 4000000
set_option linter.unusedSimpArgs false
set_option linter.unusedVariables false
variable {m : Int}
theorem gam_lr1 {f : PS (PS (Zm m))} {n a b c : Nat} (h0 : (f.c 0).c 0 = 0) (h : a + b + c < n) : gam f (n + 1) a b c = lft f n a b c - rgt f n a b c := by
  have e1 : sm (n + 1) (fun i => (f.c i).c c * ((pw f i).c a).c b) = lft f n a b c := sm_ext (n := n - c) (by omega) (fun i h1 h2 => by rw [pw_low2 h0 i a b (by omega), Go.Fg.mul_zero])
  have e2 : sm (n + 1) (fun j => (f.c a).c j * ((pw f j).c b).c c) = rgt f n a b c := sm_ext (n := n - a) (by omega) (fun i h1 h2 => by rw [pw_low2 h0 i b c (by omega), Go.Fg.mul_zero])
  unfold gam
  rw [e1, e2]
theorem lowP_low {f : PS (PS (Zm m))} {n i j : Nat} (h : i + j < n) : ((lowP f n).c i).c j = (f.c i).c j := if_pos h
theorem lw_of {f : PS (PS (Zm m))} {n : Nat} (hn : 2 ≤ n) (L : LawP f n) : Lw (lowP f n) n := by
  have hf0 : (f.c 0).c 0 = 0 := by rw [L.1 0 (by omega)]; exact if_neg (by omega)
  have h0 : ((lowP f n).c 0).c 0 = 0 := by rw [lowP_low (by omega)]; exact hf0
  refine ⟨by omega, h0, ?_, fun i hi hne => ?_, fun i j hij => ?_, fun p q k h => ?_⟩
  · rw [lowP_low (by omega), L.1 1 (by omega)]; exact if_pos rfl
  · rw [lowP_cc]
    split
    · rw [L.1 i (by omega)]; exact if_neg hne
    · rfl
  · rw [lowP_cc, lowP_cc]
    by_cases h : i + j < n
    · rw [if_pos h, if_pos (by omega), L.2.1 i j h]
    · rw [if_neg h, if_neg (by omega)]
  · rw [gam_congr h0 hf0 (n := n) (fun i j hij => lowP_low hij) h, gam_lr1 hf0 h, L.2.2 p q k h, Go.Fg.sub_self]
theorem law_bud {f : PS (PS (Zm m))} {n : Nat} (hn : 2 ≤ n ∧ n ≤ 10) (L : LawP f (n + 1)) : BudEq (lowP f n) n (fun i => (f.c i).c (n - i)) ∧ (f.c 0).c (n - 0) = 0 := by
  have L0 : LawP f n := by
    have hf0 : (f.c 0).c 0 = 0 := by rw [L.1 0 (by omega)]; exact if_neg (by omega)
    refine ⟨fun i hi => L.1 i (by omega), fun i j h => L.2.1 i j (by omega), fun a b c h => ?_⟩
    have h1 := gam_lr1 hf0 h
    rw [gam_lr hf0 (show a + b + c < n + 1 by omega), L.2.2 a b c (by omega), Go.Fg.sub_self] at h1
    exact Go.Fg.sub_eq_zero.1 h1.symm
  have Lw1 := lw_of hn.1 L0
  have hv0 : (f.c 0).c (n - 0) = 0 := by
    rw [L.2.1 0 (n - 0) (by omega), L.1 (n - 0) (by omega)]
    exact if_neg (by omega)
  have hs : ∀ i, i ≤ n → (f.c (n - i)).c (n - (n - i)) = (f.c i).c (n - i) := fun i hi => by
    rw [L.2.1 (n - i) (n - (n - i)) (by omega), show n - (n - i) = i by omega]
  refine ⟨(bud_iff (v := fun i => (f.c i).c (n - i)) Lw1 hn hv0 hs).1 (fun p q k h => ?_), hv0⟩
  have L' := Lw1.top (v := fun i => (f.c i).c (n - i)) hn.1 hv0 hs
  have hf0 : (f.c 0).c 0 = 0 := by rw [L.1 0 (by omega)]; exact if_neg (by omega)
  rw [gam_congr (g := f) L'.z0 hf0 (n := n + 1) (fun i j hij => ?_) h, gam_lr hf0 h, L.2.2 p q k h, Go.Fg.sub_self]
  rw [topAdd_cc, lowP_cc]
  by_cases e : i + j = n
  · rw [if_pos e, if_neg (by omega), CR.zero_add, show n - i = j by omega]
  · rw [if_neg e, if_pos (by omega)]
theorem lawP_one {f : PS (PS (Zm m))} {n : Nat} (hn : 1 ≤ n) (L : LawP f (n + 1)) : LawP f n := by
  have hf0 : (f.c 0).c 0 = 0 := by rw [L.1 0 (by omega)]; exact if_neg (by omega)
  refine ⟨fun i hi => L.1 i (by omega), fun i j h => L.2.1 i j (by omega), fun a b c h => ?_⟩
  have h1 := gam_lr1 hf0 h
  rw [gam_lr hf0 (show a + b + c < n + 1 by omega), L.2.2 a b c (by omega), Go.Fg.sub_self] at h1
  exact Go.Fg.sub_eq_zero.1 h1.symm
theorem lawP_le {f : PS (PS (Zm m))} {n : Nat} (hn : 1 ≤ n) : ∀ {N : Nat}, n ≤ N → LawP f N → LawP f n := by
  intro N h
  induction N with
  | zero => omega
  | succ N ih =>
    intro L
    by_cases e : n = N + 1
    · rw [e]; exact L
    · exact ih (by omega) (lawP_one (by omega) L)
end Go.Proofs

