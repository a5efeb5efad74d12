/- Factors of cocycles are unique; numbers of laws. -/
import Derived.Test.YthpbaehnkmmkgaaGreatK143
import Derived.Test.YthpbaehnkmmkgaaGreatK13
import Derived.Test.YthpbaehnkmmkgaaGreatK23

-- tables
-- rec
namespace Go.Proofs
open Go Go.Vm Go.Fg Go.Fg.PS
set_option maxRecDepth 100000
set_option maxHeartbeats 4000000
set_option linter.unusedSimpArgs false
set_option linter.unusedVariables false
variable {m : Int}
theorem laz_bez {n : Nat} (hn : 2 ≤ n ∧ n ≤ 10) : ∃ (i j k : Nat) (a b c : Int), i ≤ n ∧ j ≤ n ∧ k ≤ n ∧ a * (lazV n i : Nat) + b * (lazV n j : Nat) + c * (lazV n k : Nat) = 1 := by
  rcases (show n = 2 ∨ n = 3 ∨ n = 4 ∨ n = 5 ∨ n = 6 ∨ n = 7 ∨ n = 8 ∨ n = 9 ∨ n = 10 by omega) with rfl | rfl | rfl | rfl | rfl | rfl | rfl | rfl | rfl
  · exact ⟨1, 1, 1, 1, 0, 0, by decide +kernel⟩
  · exact ⟨1, 1, 1, 1, 0, 0, by decide +kernel⟩
  · exact ⟨1, 2, 1, -1, 1, 0, by decide +kernel⟩
  · exact ⟨1, 1, 1, 1, 0, 0, by decide +kernel⟩
  · exact ⟨1, 2, 3, -14, 7, -1, by decide +kernel⟩
  · exact ⟨1, 1, 1, 1, 0, 0, by decide +kernel⟩
  · exact ⟨1, 4, 1, 9, -1, 0, by decide +kernel⟩
  · exact ⟨1, 3, 1, -9, 1, 0, by decide +kernel⟩
  · exact ⟨1, 2, 5, 46, 1, -2, by decide +kernel⟩
theorem fac_uniq (hm : Md m) {f : PS (PS (Zm m))} {n x y : Nat} (hn : 2 ≤ n ∧ n ≤ 10) (hx : FacP f n x) (hy : FacP f n y) : Zm.mk m x = Zm.mk m y := by
  obtain ⟨i, j, k, a, b, c, hi, hj, hk, h⟩ := laz_bez hn
  have h1 : Zm.mk m a * Zm.mk m (lazV n i : Nat) + Zm.mk m b * Zm.mk m (lazV n j : Nat) + Zm.mk m c * Zm.mk m (lazV n k : Nat) = 1 := by
    rw [← Zm.mk_mul, ← Zm.mk_mul, ← Zm.mk_mul, ← Zm.mk_add, ← Zm.mk_add, h]; rfl
  have key : ∀ z : Nat, FacP f n z → Zm.mk m z = Zm.mk m a * tpc f n i + Zm.mk m b * tpc f n j + Zm.mk m c * tpc f n k := fun z hz => by
    rw [← hz i hi, ← hz j hj, ← hz k hk]
    conv => lhs; rw [← Go.Fg.mul_one (Zm.mk m z), ← h1]
    rw [CR.mul_add, CR.mul_add]
    ac_rfl
  rw [key x hx, key y hy]
theorem fac_double (hm : Md m) {f : PS (PS (Zm m))} {n x y : Nat} (hn : 2 ≤ n ∧ n ≤ 10) (hx : FacP f n x) (hy : FacP (f + f) n y) (hy2 : y < m.toNat) : (y : Int) = (2 * (x : Int)).tmod m := by
  have hm1 := hm.1
  have h2 : FacP (f + f) n (x + x) := fun i hi => by
    show Zm.mk m ((x + x : Nat) : Int) * _ = tpc f n i + tpc f n i
    rw [← hx i hi, show ((x + x : Nat) : Int) = (x : Int) + x by omega, Zm.mk_add, Go.Fg.add_mul]
  have h3 := fac_uniq hm hn hy h2
  have h4 := Zm.mk_eq.1 h3
  rw [Int.tmod_eq_emod_of_nonneg (by omega), show 2 * (x : Int) = ((x + x : Nat) : Int) by omega, ← h4]
  exact (Int.emod_eq_of_lt (by omega) (by omega)).symm
theorem coc_double {f : PS (PS (Zm m))} {n : Nat} (h : CocP f n) : CocP (f + f) n := by
  have e : ∀ i, tpc (f + f) n i = tpc f n i + tpc f n i := fun i => rfl
  refine ⟨h.1, fun i j hij => ?_, fun i hi => ?_, ?_, fun a b ha hb hab => ?_⟩
  · rw [add_c, add_c, h.2.1 i j hij, Go.Fg.add_zero]
  · rw [e, e, ← h.2.2.1 i hi]
  · rw [e, h.2.2.2.1, Go.Fg.add_zero]
  · have := h.2.2.2.2 a b ha hb hab
    unfold cocR at this ⊢
    rw [e, e, CR.mul_add, CR.mul_add, this]
theorem fac_own {f : PS (PS (Zm m))} {n x : Nat} (h : CocP f n) (hf : FacP f n x) : Tb (n + 1) (PS.C (PS.C (Zm.mk m x)) * topP n (fun i => Zm.mk m (lazV n i : Nat))) = Tb (n + 1) f := Tb_congr (fun i j hij => by
  rw [C_mul, C_mul, topP_cc]
  by_cases e : i + j = n
  · rw [if_pos e, hf i (by omega)]
    show (f.c i).c (n - i) = _
    rw [show n - i = j by omega]
  · rw [if_neg e, Go.Fg.mul_zero, h.2.1 i j (by omega)])
def clP (m most : Int) : Nat → Option Int
  | 0 => some 1
  | k + 1 => match clP m most k with
    | some x => if x > most.tdiv m then none else some (x * m)
    | none => none
theorem clP_none {m most : Int} {k : Nat} (h : clP m most k = none) : ∀ j, k ≤ j → clP m most j = none
  | 0, hj => by rw [show k = 0 by omega] at h; exact h
  | j + 1, hj => by
    rcases Nat.eq_or_lt_of_le hj with e | e
    · rw [← e]; exact h
    · have := clP_none h j (by omega)
      simp only [clP, this]
theorem clP_le {m most : Int} (hm : 0 < m) (hM : 1 ≤ most) : ∀ {k : Nat} {x : Int}, clP m most k = some x → 1 ≤ x ∧ x ≤ most
  | 0, x, h => by
    have : (1 : Int) = x := by simpa [clP] using h
    omega
  | k + 1, x, h => by
    unfold clP at h
    split at h
    · rename_i y hy
      have ih := clP_le hm hM hy
      split at h
      · cases h
      · rename_i h9
        have e : y * m = x := by simpa using h
        have h1 : y ≤ most.tdiv m := by omega
        have h2 : most.tdiv m * m ≤ most := by
          rw [Int.tdiv_eq_ediv_of_nonneg (by omega)]
          exact Int.ediv_mul_le most (by omega)
        have h3 : y * m ≤ most.tdiv m * m := Int.mul_le_mul_of_nonneg_right h1 (by omega)
        have h4 : 1 * 1 ≤ y * m := Int.mul_le_mul ih.1 (by omega) (by omega) (by omega)
        omega
    · cases h
def nlC (m d : Int) : Int := if inB m 2 10000 = true then (if inB d 1 10 = true then (match clP m 1000000000000000000 (d - 1).toNat with | some _ => 0 | none => 3) else 2) else 1
def nlV (m d : Int) : Int := if nlC m d = 0 then (clP m 1000000000000000000 (d - 1).toNat).getD 0 else 0
theorem nlV_step {m d : Int} (h : nlC m d = 0) (hd : 1 < d) : nlC m (d - 1) = 0 ∧ nlV m d = nlV m (d - 1) * m := by
  have hk := h
  unfold nlC at h
  split at h
  · rename_i h1
    split at h
    · rename_i h2
      split at h
      · rename_i x hx
        obtain ⟨k, hk2⟩ : ∃ k : Nat, (d - 1).toNat = k + 1 := ⟨(d - 1).toNat - 1, by omega⟩
        have hx' := hx
        rw [hk2] at hx
        unfold clP at hx
        split at hx
        · rename_i y hy
          split at hx
          · cases hx
          · have e : y * m = x := by simpa using hx
            have h3 : inB (d - 1) 1 10 = true := by simp [inB] at h2 ⊢; omega
            have h4 : (d - 1 - 1).toNat = k := by omega
            have h5 : nlC m (d - 1) = 0 := by unfold nlC; rw [if_pos h1, if_pos h3, h4, hy]
            refine ⟨h5, ?_⟩
            unfold nlV
            rw [if_pos hk, if_pos h5, hx', h4, hy]
            exact e.symm
        · cases hx
      · cases h
    · cases h
  · cases h
end Go.Proofs



-- tables
-- rec
namespace Go.Proofs
open Go Go.Vm Go.Fg Go.Fg.PS
set_option maxRecDepth 100000
set_option maxHeartbeats 4000000
set_option linter.unusedSimpArgs false
set_option linter.unusedVariables false
variable {m : Int}
theorem c_minusP1 (hm : Md m) (o p o' p' : Bool) (n : Nat) (hn : 1 ≤ n ∧ n ≤ 100) (f g : PS (PS (Zm m))) (i j : Nat) (h : i + j < n) : PureCall Tryz.prog 370 [dint i, dint j, .cptr [dint m, .list o 1 (rows p (Tb n f))] 0, .cptr [dint m, .list o' 1 (rows p' (Tb n g))] 0] (dint (((f.c i).c j).val - ((g.c i).c j).val)) := by
  have hm1 := hm.1
  have hm2 := hm.2
  have h1 := Zm.val_range hm.pos ((f.c i).c j)
  have h2 := Zm.val_range hm.pos ((g.c i).c j)
  refine pure_of_vcR Tryz.tabOk mixOrd Tryz.func370 rfl rfl ?_
  conv => whnf
  repeat' first | ((first | refine z0 ?_ | (refine And.intro (fun h => ?_) (fun h => ?_) <;> (try simp only [cnt1, ints_length] at h)) | refine zS ?_ | refine zV ?_ | (apply zI; refine zP vObt ?_) | (apply zI; refine zP vObx ?_) | refine zA ?_ | refine Alt.fst ?_ | refine Or.inl ?_) <;> conv => whnf) | fail
  all_goals rfl
theorem c_minusP (hm : Md m) (o p o' p' : Bool) (n : Nat) (hn : 1 ≤ n ∧ n ≤ 100) (f g : PS (PS (Zm m))) : PureCall Tryz.prog 238 [PlD m o p n f, PlD m o' p' n g] (PlD m true true n (f - g)) := by
  have hm1 := hm.1
  have hm2 := hm.2
  refine pure_of_vcR Tryz.tabOk mixOrd Tryz.func238 rfl rfl ?_
  conv => whnf
  repeat' first | ((first | refine z0 ?_ | (apply zI; refine zP (c_mapped2 hm _ _ _ n hn (fun i j => ((f.c i).c j).val - ((g.c i).c j).val) (fun i j h => c_minusP1 hm _ _ _ _ n hn f g i j h) _ _ f) ?_) | (refine And.intro (fun h => ?_) (fun h => ?_) <;> (try simp only [cnt1, ints_length] at h)) | refine zS ?_ | refine zV ?_ | (apply zI; refine zP vObt ?_) | (apply zI; refine zP vObx ?_) | refine zA ?_ | refine Alt.fst ?_ | refine Or.inl ?_) <;> conv => whnf) | fail
  refine plD_congr (Tb_congr (fun i j hij => ?_))
  rw [pl_c, Zm.mk_sub, Zm.mk_val, Zm.mk_val]; rfl
end Go.Proofs



namespace Go.Proofs
open Go Go.Vm Go.Fg Go.Fg.PS
set_option maxRecDepth 100000
set_option linter.unusedSimpArgs false
set_option linter.unusedVariables false
variable {m : Int}
theorem FacP.congr {f g : PS (PS (Zm m))} {n x : Nat} (e : ∀ i, i ≤ n → tpc f n i = tpc g n i) : FacP f n x ↔ FacP g n x := by
  constructor
  · intro h i hi; rw [h i hi, e i hi]
  · intro h i hi; rw [h i hi, ← e i hi]
theorem gap_top (f g : PS (PS (Zm m))) (n i : Nat) : tpc (f + PS.C (PS.C (Zm.mk m (m - 1))) * g) n i = tpc (f - g) n i := by
  show ((f + PS.C (PS.C (Zm.mk m (m - 1))) * g).c i).c (n - i) = ((f - g).c i).c (n - i)
  rw [add_c, add_c, C_mul, C_mul, sub_c, sub_c]
  have e : Zm.mk m (m - 1) = - (1 : Zm m) := by
    rw [Zm.mk_sub, show Zm.mk m m = 0 from Zm.mk_eq_zero.2 (Int.emod_self), Go.Fg.sub_def, CR.zero_add]; rfl
  rw [e, Go.Fg.neg_mul, CR.one_mul, Go.Fg.sub_def]
theorem gap_fac {f : PS (PS (Zm m))} {g : PS (PS (Zm m))} {n x : Nat} : FacP (f + PS.C (PS.C (Zm.mk m (m - 1))) * g) n x ↔ FacP (f - g) n x := FacP.congr (fun i _ => gap_top f g n i)
end Go.Proofs


