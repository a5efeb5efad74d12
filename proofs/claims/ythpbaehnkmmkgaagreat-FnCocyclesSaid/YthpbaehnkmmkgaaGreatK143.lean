/- The law of cocycles. -/
import Derived.Test.YthpbaehnkmmkgaaGreatK20
import Derived.Test.YthpbaehnkmmkgaaGreatK23
import Derived.Test.YthpbaehnkmmkgaaGreatK132
import Derived.Test.YthpbaehnkmmkgaaGreatK135A
import Derived.Test.YthpbaehnkmmkgaaGreatK130
import Derived.Test.YthpbaehnkmmkgaaGreatK32
import Derived.Test.YthpbaehnkmmkgaaGreatKN
import Derived.Test.YthpbaehnkmmkgaaGreatK21
import Derived.Test.YthpbaehnkmmkgaaGreatK27
import Derived.Test.YthpbaehnkmmkgaaGreatK133

-- tables
-- rec
namespace Go.Proofs
open Go Go.Vm Go.Fg Go.Fg.PS
set_option maxRecDepth 100000
set_option maxHeartbeats 4000000
set_option linter.unusedSimpArgs false
set_option linter.unusedVariables false
noncomputable def cocB (m : Int) (t : List (List Int)) : Bool := plB m t && tr (CocP (rd2 m t) (t.length - 1))
theorem cocB_no {m : Int} {t : List (List Int)} (h : plB m t = false) : cocB m t = false := by simp [cocB, h]
theorem cocB_yes {m : Int} {t : List (List Int)} (h : plB m t = true) : cocB m t = tr (CocP (rd2 m t) (t.length - 1)) := by simp [cocB, h]
theorem c_l07Is (o p : Bool) (m : Int) (t : List (List Int)) (hl : t.length ≤ 1048576) (hr : lensOk t) : PureCall Tryz.prog 280 [.agg [dint m, .list o 1 (rows p t)]] (dbool (cocB m t)) := by
  cases hp : plB m t with
  | true =>
    obtain ⟨hm, h2, h3, _⟩ := plB_md hp
    have key := c_l07IsL hm o p t.length ⟨h2, h3⟩ (rd2 m t) (by rw [plB_T hp]; exact hp)
    simp only [PlD, plB_T hp] at key
    rw [cocB_yes hp]
    exact key
  | false =>
    have hli := c_l03Is o p m t hl hr
    rw [hp] at hli
    rw [cocB_no hp]
    refine pure_of_vcR Tryz.tabOk mixOrd Tryz.func280 rfl rfl ?_
    conv => whnf
    repeat' first | ((first | refine z0 ?_ | (apply zI; refine zP (hli) ?_) | (refine And.intro (fun h => ?_) (fun h => ?_) <;> (try simp only [cnt1, ints_length] at h)) | refine zS ?_ | refine zV ?_ | (apply zI; refine zP vObt ?_) | (apply zI; refine zP vObx ?_) | refine zA ?_ | refine Alt.fst ?_ | refine Or.inl ?_) <;> conv => whnf) | fail
    all_goals (exfalso; simp_all)
theorem c_specIsCocycle (o p : Bool) (m : Int) (t : List (List Int)) (hl : t.length ≤ 1048576) (hr : lensOk t) : PureCall Tryz.prog 96 [.agg [dint m, .list o 1 (rows p t)]] (dbool (cocB m t)) := by
  refine pure_of_vcR Tryz.tabOk mixOrd Tryz.func96 rfl rfl ?_
  conv => whnf
  repeat' first | ((first | refine z0 ?_ | (apply zI; refine zP (c_l07Is _ _ _ _ hl hr) ?_) | (refine And.intro (fun h => ?_) (fun h => ?_) <;> (try simp only [cnt1, ints_length] at h)) | refine zS ?_ | refine zV ?_ | (apply zI; refine zP vObt ?_) | (apply zI; refine zP vObx ?_) | refine zA ?_ | refine Alt.fst ?_ | refine Or.inl ?_) <;> conv => whnf) | fail
  all_goals rw [h]
theorem c_implIsCocycle (o p : Bool) (m : Int) (t : List (List Int)) (hl : t.length ≤ 1048576) (hr : lensOk t) : PureCall Tryz.prog 95 [.agg [dint m, .list o 1 (rows p t)]] (dbool (cocB m t)) := by
  cases hp : plB m t with
  | true =>
    obtain ⟨hm, h2, h3, _⟩ := plB_md hp
    have key := c_implIsCocycleL hm o p t.length ⟨h2, h3⟩ (rd2 m t) (by rw [plB_T hp]; exact hp)
    simp only [PlD, plB_T hp] at key
    rw [cocB_yes hp]
    exact key
  | false =>
    have hli := c_IsPlane o p m t hl hr
    rw [hp] at hli
    rw [cocB_no hp]
    refine pure_of_vcR Tryz.tabOk mixOrd Tryz.func95 rfl rfl ?_
    conv => whnf
    repeat' first | ((first | refine z0 ?_ | (apply zI; refine zP (hli) ?_) | (refine And.intro (fun h => ?_) (fun h => ?_) <;> (try simp only [cnt1, ints_length] at h)) | refine zS ?_ | refine zV ?_ | (apply zI; refine zP vObt ?_) | (apply zI; refine zP vObx ?_) | refine zA ?_ | refine Alt.fst ?_ | refine Or.inl ?_) <;> conv => whnf) | fail
    all_goals (exfalso; simp_all)
end Go.Proofs



-- tables
-- rec
namespace Go.Proofs
open Go Go.Vm Go.Fg Go.Fg.PS
set_option maxRecDepth 100000
set_option maxHeartbeats 4000000
set_option linter.unusedSimpArgs false
set_option linter.unusedVariables false
theorem cocB_pl {m : Int} {t : List (List Int)} (h : cocB m t = true) : plB m t = true ∧ CocP (rd2 m t) (t.length - 1) := by
  simp only [cocB, tr, Bool.and_eq_true, decide_eq_true_eq] at h
  exact h
theorem c_specCocycleFactorN (o p : Bool) (m : Int) (t : List (List Int)) (hl : t.length ≤ 1048576) (hr : lensOk t) (hc : cocB m t = false) : PureCall Tryz.prog 94 [.agg [dint m, .list o 1 (rows p t)]] (.tup [dint 0, dint 1]) := by
  have h0 := c_l07Is o p m t hl hr
  rw [hc] at h0
  refine pure_of_vcR Tryz.tabOk mixOrd Tryz.func94 rfl rfl ?_
  conv => whnf
  repeat' first | ((first | refine z0 ?_ | (apply zI; refine zP (h0) ?_) | (refine And.intro (fun h => ?_) (fun h => ?_) <;> (try simp only [cnt1, ints_length] at h)) | refine zS ?_ | refine zV ?_ | (apply zI; refine zP vObt ?_) | (apply zI; refine zP vObx ?_) | refine zA ?_ | refine Alt.fst ?_ | refine Or.inl ?_) <;> conv => whnf) | fail
  all_goals (exfalso; simp_all)
theorem c_implCocycleFactorN (o p : Bool) (m : Int) (t : List (List Int)) (hl : t.length ≤ 1048576) (hr : lensOk t) (hc : cocB m t = false) : PureCall Tryz.prog 93 [.agg [dint m, .list o 1 (rows p t)]] (.tup [dint 0, dint 1]) := by
  have h0 := c_implIsCocycle o p m t hl hr
  rw [hc] at h0
  refine pure_of_vcR Tryz.tabOk mixOrd Tryz.func93 rfl rfl ?_
  conv => whnf
  repeat' first | ((first | refine z0 ?_ | (apply zI; refine zP (h0) ?_) | (refine And.intro (fun h => ?_) (fun h => ?_) <;> (try simp only [cnt1, ints_length] at h)) | refine zS ?_ | refine zV ?_ | (apply zI; refine zP vObt ?_) | (apply zI; refine zP vObx ?_) | refine zA ?_ | refine Alt.fst ?_ | refine Or.inl ?_) <;> conv => whnf) | fail
  all_goals (exfalso; simp_all)
theorem c_specCocycleFactorY (o p : Bool) (m : Int) (t : List (List Int)) (hl : t.length ≤ 1048576) (hr : lensOk t) (hc : cocB m t = true) (k : Nat) (hk : k < m.toNat) (hf : FacP (rd2 m t) (t.length - 1) k) (hmin : ∀ j, j < k → ¬ FacP (rd2 m t) (t.length - 1) j) : PureCall Tryz.prog 94 [.agg [dint m, .list o 1 (rows p t)]] (.tup [dint k, dint 0]) := by
  obtain ⟨hp, h2⟩ := cocB_pl hc
  obtain ⟨hm, h3, h4, _⟩ := plB_md hp
  have h5 := h2.1
  have h0 := c_l07Is o p m t hl hr
  rw [hc] at h0
  have key := c_l07Factor hm o p t.length (by omega) (rd2 m t) k hk hf hmin
  simp only [TbD, plB_T hp] at key
  refine pure_of_vcR Tryz.tabOk mixOrd Tryz.func94 rfl rfl ?_
  conv => whnf
  repeat' first | ((first | refine z0 ?_ | (apply zI; refine zP (h0) ?_) | (apply zI; refine zP (key) ?_) | (refine And.intro (fun h => ?_) (fun h => ?_) <;> (try simp only [cnt1, ints_length] at h)) | refine zS ?_ | refine zV ?_ | (apply zI; refine zP vObt ?_) | (apply zI; refine zP vObx ?_) | refine zA ?_ | refine Alt.fst ?_ | refine Or.inl ?_) <;> conv => whnf) | fail
  all_goals (exfalso; simp_all)
theorem c_implCocycleFactorY (o p : Bool) (m : Int) (t : List (List Int)) (hl : t.length ≤ 1048576) (hr : lensOk t) (hc : cocB m t = true) (k : Nat) (hk : k < m.toNat) (hf : FacP (rd2 m t) (t.length - 1) k) (hmin : ∀ j, j < k → ¬ FacP (rd2 m t) (t.length - 1) j) : PureCall Tryz.prog 93 [.agg [dint m, .list o 1 (rows p t)]] (.tup [dint k, dint 0]) := by
  obtain ⟨hp, h2⟩ := cocB_pl hc
  obtain ⟨hm, h3, h4, _⟩ := plB_md hp
  have h5 := h2.1
  have h0 := c_implIsCocycle o p m t hl hr
  rw [hc] at h0
  have key1 := c_top o p t.length ⟨h3, h4⟩ (rd2 m t)
  simp only [PlD, plB_T hp] at key1
  have key := c_factorOf hm false t.length (by omega) (rd2 m t) k hk hf hmin
  refine pure_of_vcR Tryz.tabOk mixOrd Tryz.func93 rfl rfl ?_
  conv => whnf
  repeat' first | ((first | refine z0 ?_ | (apply zI; refine zP (h0) ?_) | (apply zI; refine zP (key1) ?_) | (apply zI; refine zP (key) ?_) | (refine And.intro (fun h => ?_) (fun h => ?_) <;> (try simp only [cnt1, ints_length] at h)) | refine zS ?_ | refine zV ?_ | (apply zI; refine zP vObt ?_) | (apply zI; refine zP vObx ?_) | refine zA ?_ | refine Alt.fst ?_ | refine Or.inl ?_) <;> conv => whnf) | fail
  all_goals (exfalso; simp_all)
end Go.Proofs



-- tables
-- rec
namespace Go.Proofs
open Go Go.Vm Go.Fg Go.Fg.PS
set_option maxRecDepth 100000
set_option linter.unusedSimpArgs false
set_option linter.unusedVariables false
variable {m : Int}
theorem rd2_TbC {N i j : Nat} (f : PS (PS (Zm m))) (h : i + j < N) : ((rd2 m (Tb N f)).c i).c j = (f.c i).c j := by
  show Zm.mk m (((Tb N f).getD i []).getD j 0) = _
  rw [Tb_getD f (by omega), L_getD _ (by omega), Zm.mk_val]
theorem numsB_L (hm : Md m) (n : Nat) (a : PS (Zm m)) : numsB m (L n a) = true := numsB_of (fun j hj => by
  rw [L_getD _ (by simpa using hj)]
  have := Zm.val_range hm.pos (a.c j)
  simp [inB]; omega)
theorem plB_TbT (hm : Md m) {N : Nat} (hN : 2 ≤ N ∧ N ≤ 11) (f : PS (PS (Zm m))) : plB m (Tb N f) = true :=
  plB_yes (by simpa [inB, Md] using hm) (by simpa using hN) (fun j hj => by
    have hj2 : j < N := by simpa using hj
    unfold rowOk
    rw [Tb_getD f hj2]
    simp only [L_length, Tb_length, decide_true, Bool.true_and]
    exact numsB_L hm _ _)
theorem tpc_Tb {N n i : Nat} (f : PS (PS (Zm m))) (h : n < N) (hi : i ≤ n) : tpc (rd2 m (Tb N f)) n i = tpc f n i := by
  unfold tpc
  exact rd2_TbC f (by omega)
theorem cocP_Tb {N n : Nat} {f : PS (PS (Zm m))} (hN : n < N) (h : CocP f n) : CocP (rd2 m (Tb N f)) n := by
  refine ⟨h.1, fun i j hij => by rw [rd2_TbC f (by omega)]; exact h.2.1 i j hij, fun i hi => ?_, ?_, fun a b ha hb hab => ?_⟩
  · rw [tpc_Tb f hN hi, tpc_Tb f hN (by omega)]; exact h.2.2.1 i hi
  · rw [tpc_Tb f hN (by omega)]; exact h.2.2.2.1
  · have := h.2.2.2.2 a b ha hb hab
    unfold cocR at this ⊢
    rw [tpc_Tb f hN (by omega), tpc_Tb f hN (by omega)]; exact this
theorem facP_Tb {N n x : Nat} {f : PS (PS (Zm m))} (hN : n < N) : FacP (rd2 m (Tb N f)) n x ↔ FacP f n x := by
  constructor
  · intro h i hi; rw [h i hi, tpc_Tb f hN hi]
  · intro h i hi; rw [h i hi, tpc_Tb f hN hi]
theorem law_00b {f g : PS (PS (Zm m))} {N : Nat} (hN : 2 ≤ N) (hf : LawP f N) (hg : LawP g N) : eqK f g 0 := fun i hi => by
  have : i = 0 := by omega
  subst this
  rw [hf.1 0 (by omega), hg.1 0 (by omega)]
end Go.Proofs



-- tables
-- rec
namespace Go.Proofs
open Go Go.Vm Go.Fg Go.Fg.PS
set_option maxRecDepth 100000
set_option maxHeartbeats 4000000
set_option linter.unusedSimpArgs false
set_option linter.unusedVariables false
end Go.Proofs



-- tables
-- rec
namespace Go.Proofs
open Go Go.Vm Go.Fg Go.Fg.PS
set_option maxRecDepth 100000
set_option maxHeartbeats 4000000
set_option linter.unusedSimpArgs false
set_option linter.unusedVariables false
variable {m : Int}
inductive Mul (f : PS (PS (Zm m))) (n : Nat) : Nat → PS (Zm m) → PS (Zm m) → PS (Zm m) → Prop
  | zero (out a : PS (Zm m)) : Mul f n 0 out a out
  | odd (k : Nat) (out a r : PS (Zm m)) (h2 : k % 2 = 1) (h : Mul f n (k / 2) (putS f out a n) (putS f a a n) r) : Mul f n k out a r
  | even (k : Nat) (out a r : PS (Zm m)) (h1 : k ≠ 0) (h2 : k % 2 = 0) (h : Mul f n (k / 2) out (putS f a a n) r) : Mul f n k out a r
end Go.Proofs



-- tables
-- rec
namespace Go.Proofs
open Go Go.Vm Go.Fg Go.Fg.PS
set_option maxRecDepth 100000
set_option maxHeartbeats 4000000
set_option linter.unusedSimpArgs false
set_option linter.unusedVariables false
variable {m : Int}
end Go.Proofs



namespace Go.Proofs
open Go Go.Vm Go.Fg Go.Fg.PS
set_option linter.unusedVariables false
theorem wei : Wei := fun _ hm n hn _ hd o a => ⟨wF n a, c_l08Weierstrass hm o n hn hd a⟩
end Go.Proofs


