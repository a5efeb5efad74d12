/- Laws by their logarithms are laws. -/
import Derived.Test.YthpbaehnkmmkgaaGreatK164
import Derived.Test.YthpbaehnkmmkgaaGreatK15
import Derived.Test.YthpbaehnkmmkgaaGreatK139
import Derived.Test.YthpbaehnkmmkgaaGreatK5
import Derived.Test.YthpbaehnkmmkgaaGreatKS

namespace Go.Proofs
open Go Go.Vm Go.Fg Go.Fg.PS
set_option maxRecDepth 100000
set_option maxHeartbeats 4000000
set_option linter.unusedSimpArgs false
set_option linter.unusedVariables false
variable {m : Int}
theorem lawP_congr {f g : PS (PS (Zm m))} {n : Nat} (h : Ag2 n f g) (L : LawP f n) : LawP g n := by
  obtain ⟨h1, h2, h3⟩ := L
  refine ⟨fun i hi => by rw [← h i 0 (by omega)]; exact h1 i hi, fun i j hij => by rw [← h i j hij, ← h j i (by omega)]; exact h2 i j hij, fun a b c habc => ?_⟩
  have e1 : lft f n a b c = lft g n a b c := by
    unfold lft
    exact sm_congr (fun i hi => by rw [h i c (by omega), Ag2.pw h i a b (by omega)])
  have e2 : rgt f n a b c = rgt g n a b c := by
    unfold rgt
    exact sm_congr (fun i hi => by rw [h a i (by omega), Ag2.pw h i b c (by omega)])
  rw [← e1, ← e2]
  exact h3 a b c habc
theorem lawP_of {f : PS (PS (Zm m))} {n : Nat} (L : LwN f n) : LawP f n :=
  ⟨fun i hi => by
    by_cases e : i = 1
    · subst e; rw [L.z1]; exact (if_pos rfl).symm
    · rw [L.zz i hi e]; exact (if_neg e).symm, L.sym, fun a b c h => L.as a b c h⟩
theorem lawB_of (hm : Md m) {N : Nat} (hN : 2 ≤ N ∧ N ≤ 11) {f : PS (PS (Zm m))} (L : LawP f N) : lawB m (Tb N f) = true := by
  rw [lawB_yes (plB_TbT hm hN f), Tb_length]
  exact trL_yes (lawP_congr (fun i j hij => (rd2_TbC f hij).symm) L)
theorem gen_law (hm : Md m) {a : PS (Zm m)} (h0 : a.c 0 = 1) (N : Nat) : lawG N (logG a) = logL (X * inv 1 a) (logG a) N := by
  have e0 : (X * inv 1 a : PS (Zm m)).c 0 = 0 := X_mul_zero _
  have e1 : (X * inv 1 a : PS (Zm m)).c 1 * 1 = 1 := by rw [X_mul_succ, inv_c0, CR.one_mul]
  unfold lawG logL
  rw [gen_logG hm h0, rev_c1, invN_v1 hm.1, rev_rev e0 e1 (CR.one_mul 1)]
theorem gen_lwN (hm : Md m) {a : PS (Zm m)} (h0 : a.c 0 = 1) {N : Nat} (hN : 2 ≤ N) : LwN (lawG N (logG a)) N := by
  have e0 : (X * inv 1 a : PS (Zm m)).c 0 = 0 := X_mul_zero _
  have e1 : (X * inv 1 a : PS (Zm m)).c 1 * 1 = 1 := by rw [X_mul_succ, inv_c0, CR.one_mul]
  rw [gen_law hm h0, gen_logG hm h0]
  exact logL_law e0 (rev_c0 1 _) hN (Ag.of_eq (comp_rev e0 e1)) (Ag.of_eq (rev_comp e0 e1))
theorem gen_milV (hm : Md m) {a : PS (Zm m)} (h0 : a.c 0 = 1) {N i j : Nat} (hN : i + j < N) :
    milV a i j = sm (i + 1) fun x => sm (j + 1) fun y => (projS a).c x * (projS a).c y * ((lawG N (logG a)).c (i - x)).c (j - y) := by
  have e0 : (X * inv 1 a : PS (Zm m)).c 0 = 0 := X_mul_zero _
  have e1 : (X * inv 1 a : PS (Zm m)).c 1 * 1 = 1 := by rw [X_mul_succ, inv_c0, CR.one_mul]
  have hU : a * inv 1 a = 1 := mul_inv (by rw [h0, CR.one_mul])
  rw [gen_law hm h0, gen_proj hm h0, gen_logG hm h0]
  unfold milV
  rw [h0, invN_v1 hm.1]
  exact milS_log hU (rev_c0 1 _) (rev_comp e0 e1) hN
theorem hir_geo (hm : Md m) (y : Int) {N : Nat} (hN : 1 ≤ N) (hu : unitsB m N = true) : (hirR m y).c 0 = 1 ∧ Ag N (projS (hirR m y)) ⟨geo (-Zm.mk m y)⟩ := by
  have i1 : ifactZ m 1 = 1 := by
    show ifactZ m 0 * invN m ((0 : Nat) + 1 : Int) = 1
    rw [show ifactZ m 0 = 1 from rfl, CR.one_mul]; exact invN_1 hm.1
  have hS : hirS m y = strS ⟨fun k => ifactZ m (k + 1)⟩ (-(1 + Zm.mk m y)) := by
    unfold hirS expoH
    rw [show Zm.mk m (0 - (1 + y)) = -(1 + Zm.mk m y) by rw [Zm.mk_sub, Zm.mk_add, Zm.mk_zero, Zm.mk_one, Go.Fg.sub_def, CR.zero_add]]
  have hH : (hirS m y).c 0 = 1 := by
    rw [hS]
    show ifactZ m 1 * Go.Fg.pw _ 0 = 1
    rw [i1, pw_zero, CR.one_mul]
  have hf : ∀ k, k < N → nc (Zm m) (k + 1) * ifactZ m (k + 1) = ifactZ m k := fun k hk => by
    show nc (Zm m) (k + 1) * (ifactZ m k * invN m ((k : Int) + 1)) = ifactZ m k
    have := nc_invN hm.1 hu (i := k + 1) (by omega)
    rw [show nc (Zm m) (k + 1) * (ifactZ m k * invN m ((k : Int) + 1)) = ifactZ m k * (nc (Zm m) (k + 1) * invN m ((k : Int) + 1)) by ac_rfl, show ((k : Int) + 1) = ((k + 1 : Nat) : Int) by omega, this, Go.Fg.mul_one]
  have hg : Ag N (dS (X * hirS m y)) (1 + C (-(1 + Zm.mk m y)) * (X * hirS m y)) := by
    rw [hS]; exact expo_dS hm.1 rfl hf
  have hJ : inv (invN m ((hirS m y).c 0).val) (hirS m y) * hirS m y = 1 := by
    rw [CR.mul_comm]; exact mul_inv (by rw [hH, invN_v1 hm.1, CR.one_mul])
  refine ⟨?_, ?_⟩
  · unfold hirR
    rw [sub_c, C_mul, X_c, if_neg (by omega), Go.Fg.mul_zero, inv_c0, hH, invN_v1 hm.1, Go.Fg.sub_def, Go.Fg.neg_zero, Go.Fg.add_zero]
  · have := hirz (y := Zm.mk m y) hJ hH hg
    exact this
end Go.Proofs



namespace Go.Proofs
open Go Go.Vm Go.Fg Go.Fg.PS
set_option maxRecDepth 100000
set_option maxHeartbeats 4000000
set_option linter.unusedSimpArgs false
set_option linter.unusedVariables false

end Go.Proofs



-- tables
-- rec
namespace Go.Proofs
open Go Go.Vm Go.Fg Go.Fg.PS
set_option maxRecDepth 100000
set_option maxHeartbeats 4000000
set_option linter.unusedSimpArgs false
set_option linter.unusedVariables false
variable {m : Int}
theorem charB_L (hm : Md m) {n : Nat} (hn : 2 ≤ n ∧ n ≤ 11) {a : PS (Zm m)} (h0 : a.c 0 = 1) : charB m (L n a) = true := by
  have := hm.1
  unfold charB
  rw [serB_LX hm hn a, L_getD _ (by omega), h0, Zm.val_one (by omega)]
  simp
theorem c_implProjGenY (o : Bool) (hm : Md m) (n : Nat) (hn : 2 ≤ n ∧ n ≤ 11) (a : PS (Zm m)) (h0 : a.c 0 = 1) : PureCall Tryz.prog 15 [SerD m o n a] (.tup [.list true 1 (ints (L n (projS a))), dint 0]) := by
  have key := c_implProjectiveGenera o m (L n a) (by simp; omega) (charB_L hm hn h0)
  rw [L_length, L_congr (ag_proj (rd_L n a))] at key
  exact key
end Go.Proofs


