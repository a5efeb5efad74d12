/- Numbers on top of a plane, times a factor; lists compared. -/
-- tables
-- rec
import Derived.Test.YtbaojihanfkofaaGreatK84
import Derived.Test.YtbaojihanfkofaaGreatK28
import Derived.Test.YtbaojihanfkofaaGreatK79
import Derived.Test.YtbaojihanfkofaaGreatVm32
import Derived.Test.YtbaojihanfkofaaGreatK16
namespace Go.Proofs
open Go Go.Vm Go.Fg Go.Fg.PS
set_option maxRecDepth 100000
set_option maxHeartbeats 4000000
set_option linter.unusedSimpArgs false
set_option linter.unusedVariables false
variable {m : Int}
theorem gam_lr1 {f : PS (PS (Zm m))} {n a b c : Nat} (h0 : (f.c 0).c 0 = 0) (h : a + b + c < n) : gam f (n + 1) a b c = lft f n a b c - rgt f n a b c := by
  have e1 : sm (n + 1) (fun i => (f.c i).c c * ((pw f i).c a).c b) = lft f n a b c := sm_ext (n := n - c) (by omega) (fun i h1 h2 => by rw [pw_low2 h0 i a b (by omega), Go.Fg.mul_zero])
  have e2 : sm (n + 1) (fun j => (f.c a).c j * ((pw f j).c b).c c) = rgt f n a b c := sm_ext (n := n - a) (by omega) (fun i h1 h2 => by rw [pw_low2 h0 i b c (by omega), Go.Fg.mul_zero])
  unfold gam
  rw [e1, e2]
theorem lowP_low {f : PS (PS (Zm m))} {n i j : Nat} (h : i + j < n) : ((lowP f n).c i).c j = (f.c i).c j := if_pos h
theorem lw_of {f : PS (PS (Zm m))} {n : Nat} (hn : 2 ≤ n) (L : LawP f n) : Lw (lowP f n) n := by
  have hf0 : (f.c 0).c 0 = 0 := by rw [L.1 0 (by omega)]; exact if_neg (by omega)
  have h0 : ((lowP f n).c 0).c 0 = 0 := by rw [lowP_low (by omega)]; exact hf0
  refine ⟨by omega, h0, ?_, fun i hi hne => ?_, fun i j hij => ?_, fun p q k h => ?_⟩
  · rw [lowP_low (by omega), L.1 1 (by omega)]; exact if_pos rfl
  · rw [lowP_cc]
    split
    · rw [L.1 i (by omega)]; exact if_neg hne
    · rfl
  · rw [lowP_cc, lowP_cc]
    by_cases h : i + j < n
    · rw [if_pos h, if_pos (by omega), L.2.1 i j h]
    · rw [if_neg h, if_neg (by omega)]
  · rw [gam_congr h0 hf0 (n := n) (fun i j hij => lowP_low hij) h, gam_lr1 hf0 h, L.2.2 p q k h, Go.Fg.sub_self]
theorem law_bud {f : PS (PS (Zm m))} {n : Nat} (hn : 2 ≤ n ∧ n ≤ 10) (L : LawP f (n + 1)) : BudEq (lowP f n) n (fun i => (f.c i).c (n - i)) ∧ (f.c 0).c (n - 0) = 0 := by
  have L0 : LawP f n := by
    have hf0 : (f.c 0).c 0 = 0 := by rw [L.1 0 (by omega)]; exact if_neg (by omega)
    refine ⟨fun i hi => L.1 i (by omega), fun i j h => L.2.1 i j (by omega), fun a b c h => ?_⟩
    have h1 := gam_lr1 hf0 h
    rw [gam_lr hf0 (show a + b + c < n + 1 by omega), L.2.2 a b c (by omega), Go.Fg.sub_self] at h1
    exact Go.Fg.sub_eq_zero.1 h1.symm
  have Lw1 := lw_of hn.1 L0
  have hv0 : (f.c 0).c (n - 0) = 0 := by
    rw [L.2.1 0 (n - 0) (by omega), L.1 (n - 0) (by omega)]
    exact if_neg (by omega)
  have hs : ∀ i, i ≤ n → (f.c (n - i)).c (n - (n - i)) = (f.c i).c (n - i) := fun i hi => by
    rw [L.2.1 (n - i) (n - (n - i)) (by omega), show n - (n - i) = i by omega]
  refine ⟨(bud_iff (v := fun i => (f.c i).c (n - i)) Lw1 hn hv0 hs).1 (fun p q k h => ?_), hv0⟩
  have L' := Lw1.top (v := fun i => (f.c i).c (n - i)) hn.1 hv0 hs
  have hf0 : (f.c 0).c 0 = 0 := by rw [L.1 0 (by omega)]; exact if_neg (by omega)
  rw [gam_congr (g := f) L'.z0 hf0 (n := n + 1) (fun i j hij => ?_) h, gam_lr hf0 h, L.2.2 p q k h, Go.Fg.sub_self]
  rw [topAdd_cc, lowP_cc]
  by_cases e : i + j = n
  · rw [if_pos e, if_neg (by omega), CR.zero_add, show n - i = j by omega]
  · rw [if_neg e, if_pos (by omega)]
def wx (m : Int) (n : Nat) (v : Nat → Zm m) (x : Nat) : Nat → Zm m := fun i => v i + lazM m n (Zm.mk m x) i
theorem lazV_zero (n : Nat) : lazV n 0 = 0 := by unfold lazV; rw [if_neg (by omega)]
theorem wx_zero (n : Nat) (v : Nat → Zm m) : wx m n v 0 = v := by
  funext i
  show v i + Zm.mk m ((0 : Nat) : Int) * Zm.mk m (lazV n i : Nat) = v i
  rw [show Zm.mk m ((0 : Nat) : Int) = (0 : Zm m) from rfl, Go.Fg.zero_mul, Go.Fg.add_zero]
theorem wx_at0 {n : Nat} {v : Nat → Zm m} (h0 : v 0 = 0) (x : Nat) : wx m n v x 0 = 0 := by
  show v 0 + Zm.mk m x * Zm.mk m (lazV n 0 : Nat) = 0
  rw [lazV_zero, h0, show Zm.mk m ((0 : Nat) : Int) = (0 : Zm m) from rfl, Go.Fg.mul_zero, CR.zero_add]
theorem lexV_congr {n : Nat} {v w w' : Nat → Zm m} (h : LexV (n + 1) v w) (e : ∀ i, i ≤ n → w' i = w i) : LexV (n + 1) v w' := by
  rcases h with h | ⟨k, hk, h1, h2⟩
  · exact .inl (fun k hk => by rw [e k (by omega)]; exact h k hk)
  · exact .inr ⟨k, hk, fun i hi => by rw [e i (by omega)]; exact h1 i hi, by rw [e k (by omega)]; exact h2⟩
theorem lexV_refl {n : Nat} (v : Nat → Zm m) : LexV n v v := .inl (fun _ _ => rfl)
theorem lexV_trans {n : Nat} {a b c : Nat → Zm m} (h : LexV n a b) (k : LexV n b c) : LexV n a c := by
  rcases h with h | ⟨i, hi, h1, h2⟩
  · rcases k with k | ⟨j, hj, k1, k2⟩
    · exact .inl (fun t ht => (h t ht).trans (k t ht))
    · exact .inr ⟨j, hj, fun t ht => (h t (by omega)).trans (k1 t ht), by rw [h j hj]; exact k2⟩
  · rcases k with k | ⟨j, hj, k1, k2⟩
    · exact .inr ⟨i, hi, fun t ht => (h1 t ht).trans (k t (by omega)), by rw [← k i hi]; exact h2⟩
    · rcases Nat.lt_trichotomy i j with e | e | e
      · exact .inr ⟨i, hi, fun t ht => (h1 t ht).trans (k1 t (by omega)), by rw [← k1 i e]; exact h2⟩
      · subst e; exact .inr ⟨i, hi, fun t ht => (h1 t ht).trans (k1 t ht), by omega⟩
      · exact .inr ⟨j, hj, fun t ht => (h1 t (by omega)).trans (k1 t ht), by rw [h1 j e]; exact k2⟩
theorem first_wx (hm : 0 < m) {n : Nat} (hn : 2 ≤ n ∧ n ≤ 10) {f : PS (PS (Zm m))} {v : Nat → Zm m} (h0 : v 0 = 0) (hB : BudEq f n v) {x0 : Nat} (h : ∀ x, x < m.toNat → LexV (n + 1) (wx m n v x0) (wx m n v x)) : First f n (wx m n v x0) := by
  refine ⟨wx_at0 h0 _, hB.laz hn _, fun w hw hwB => ?_⟩
  obtain ⟨c, hc, e⟩ := bud_laz hm hn h0 hw hB hwB
  exact lexV_congr (h c hc) e
open Classical in
noncomputable def cmpF (n : Nat) (w w' : Nat → Int) : Int := if ∃ k, k < n ∧ (∀ i, i < k → w i = w' i) ∧ w k < w' k then -1 else if ∀ k, k < n → w k = w' k then 0 else 1
theorem cmpF_lt {n : Nat} {w w' : Nat → Int} {k : Nat} (hk : k < n) (h1 : ∀ i, i < k → w i = w' i) (h2 : w k < w' k) : cmpF n w w' = -1 := if_pos ⟨k, hk, h1, h2⟩
theorem cmpF_gt {n : Nat} {w w' : Nat → Int} {k : Nat} (hk : k < n) (h1 : ∀ i, i < k → w i = w' i) (h2 : w' k < w k) : cmpF n w w' = 1 := by
  unfold cmpF
  rw [if_neg, if_neg]
  · intro h; have := h k hk; omega
  · rintro ⟨j, hj, h3, h4⟩
    rcases Nat.lt_trichotomy j k with e | e | e
    · have := h1 j e; omega
    · subst e; omega
    · have := h3 k e; omega
theorem cmpF_eq {n : Nat} {w w' : Nat → Int} (h : ∀ k, k < n → w k = w' k) : cmpF n w w' = 0 := by
  unfold cmpF
  rw [if_neg, if_pos h]
  rintro ⟨j, hj, h3, h4⟩
  have := h j hj
  omega
theorem cmpF_yes {n : Nat} {w w' : Nat → Zm m} (h : cmpF n (fun i => (w i).val) (fun i => (w' i).val) < 0) : LexV n w w' := by
  unfold cmpF at h
  split at h
  · rename_i h1
    obtain ⟨k, hk, h2, h3⟩ := h1
    exact .inr ⟨k, hk, fun i hi => Zm.val_inj (h2 i hi), h3⟩
  · split at h <;> omega
theorem cmpF_no {n : Nat} {w w' : Nat → Zm m} (h : ¬ cmpF n (fun i => (w i).val) (fun i => (w' i).val) < 0) : LexV n w' w := by
  have h1 : ¬ ∃ k, k < n ∧ (∀ i, i < k → (w i).val = (w' i).val) ∧ (w k).val < (w' k).val := fun hc => by
    obtain ⟨k, hk, h2, h3⟩ := hc
    have e := cmpF_lt (n := n) (w := fun i => (w i).val) (w' := fun i => (w' i).val) hk h2 h3
    rw [e] at h
    exact h (by decide)
  rcases Classical.em (∃ k, k < n ∧ w k ≠ w' k) with ⟨k0, hk0, hne0⟩ | h2
  · obtain ⟨k, ⟨hk, hne⟩, hmin⟩ := natMin (p := fun k => k < n ∧ w k ≠ w' k) ⟨hk0, hne0⟩
    have heq : ∀ i, i < k → w i = w' i := fun i hi => Classical.byContradiction (fun c => hmin i hi ⟨by omega, c⟩)
    refine .inr ⟨k, hk, fun i hi => (heq i hi).symm, ?_⟩
    have h3 : ¬ (w k).val < (w' k).val := fun c => h1 ⟨k, hk, fun i hi => by rw [heq i hi], c⟩
    have h4 : (w k).val ≠ (w' k).val := fun c => hne (Zm.val_inj c)
    omega
  · exact .inl (fun k hk => Classical.byContradiction (fun c => h2 ⟨k, hk, fun e => c e.symm⟩))
theorem extP_swap {f : PS (PS (Zm m))} {n : Nat} {v w : Nat → Zm m} {i j : Nat} (h : i + j < n + 1) :
    ((addTop (addTop (extP f n v) n (n + 1) (fun i => Zm.mk m (-1) * v i)) n (n + 1) w).c i).c j = ((extP f n w).c i).c j := by
  rw [addTop_cc, addTop_cc, extP_cc, extP_cc]
  by_cases e : i + j = n
  · rw [if_pos ⟨e, by omega⟩, if_pos ⟨e, by omega⟩, if_neg (by omega), if_pos e, if_neg (by omega), if_pos e]
    have h1 : v i + Zm.mk m (-1) * v i = 0 := by
      have h2 : Zm.mk m (-1) = - (1 : Zm m) := rfl
      rw [h2, Go.Fg.neg_mul, CR.one_mul, Go.Fg.add_neg]
    rw [h1, CR.zero_add]
  · rw [if_neg (by omega), if_neg (by omega), if_pos (by omega), if_pos (by omega)]
theorem vLoadN {w q : Nat} {r : Nat → Int} (i : Nat) (e : q = i) (h : i < w) : LoadRow (ints (lM w r)) [] q (dint (r i)) := by
  subst e; exact ⟨_, rfl, ints_at (lM_get r h)⟩
theorem sub_lM (w : Nat) (r : Nat → Int) : sub (ints (lM w r)) 1 0 w = ints (lM w r) := by
  unfold sub
  rw [Nat.zero_mul, List.drop_zero, List.take_of_length_le (by simp)]
theorem vMn {p : Prop} (h : p := by first | omega | (simp only [cnt1, rows_length, Tb_length, lM_length, ints_length, Nat.mul_one, Nat.zero_add, place1] at *; first | done | omega)) : p := h
theorem vAtN {w q : Nat} {r : Nat → Int} (i : Nat) (e : q = i) (h : i < w) : (ints (lM w r))[q]? = some (dint (r i)) := by
  subst e; exact ints_at (lM_get r h)
theorem c_compare (o o' : Bool) (n : Nat) (hn : n ≤ 1000) (w w' : Nat → Int) : PureCall Tryz.prog 48 [.list o 1 (ints (lM n w)), .list o' 1 (ints (lM n w'))] (dint (cmpF n w w')) := by
  refine pure_of_vcR Tryz.tabOk mixOrd Tryz.func48 rfl rfl ?_
  conv => whnf
  repeat' first | ((first | refine And.intro (Or.inl rfl) ?_ | (refine And.intro (fun h => ?_) (fun h => ?_) <;> (try simp only [cnt1, ints_length] at h)) | refine And.intro (show slotsOk _ = true by decide +kernel) ?_ | refine And.intro vOb ?_ | (apply Exists.intro; refine And.intro vObt ?_) | (apply Exists.intro; refine And.intro vObx ?_) | refine And.intro vArT ?_ | refine Or.inl ?_) <;> conv => whnf) | fail
  refine loop_atR Tryz.tabOk mixOrd (α := Nat) (fun i => [(11, dint i)]) (fun i => []) (fun i => i ≤ n ∧ ∀ k, k < i → w k = w' k) (fun i => n - i) (0) ?_ ?_ ?_
  · exact ⟨by omega, fun k hk => by omega⟩
  · conv => whnf
    first | refine WeakS.autoR ?_ | refine Weak.autoR ?_
    conv => whnf
    repeat' ((first | exact trivial | refine And.intro rfl ?_ | refine And.intro (eqV_int vAr) ?_ | refine And.intro vOb ?_ | refine And.intro vRepl ?_ | refine And.intro vReplL ?_ | refine And.intro ?_ ?_) <;> try (conv => whnf))
  intro i ⟨hi, he⟩
  conv => whnf
  by_cases hin : i < n
  · by_cases hlt : w i < w' i
    · have e := cmpF_lt hin he hlt
      repeat' first | ((first | refine And.intro (Or.inl rfl) ?_ | (apply Exists.intro; refine And.intro (vAtN i vIx hin) ?_) | refine Or.inr (inl_ofR Tryz.tabOk mixOrd _ Tryz.func75 rfl rfl ?_) | refine Or.inr (inl_ofR Tryz.tabOk mixOrd _ Tryz.func96 rfl rfl ?_) | (refine And.intro (fun h => ?_) (fun h => ?_) <;> (try simp only [cnt1, ints_length, rows_length, Tb_length, lM_length, tM_length] at h) <;> first | (exfalso; omega) | skip) | refine And.intro (show slotsOk _ = true by decide +kernel) ?_ | refine And.intro vOb ?_ | (apply Exists.intro; refine And.intro vObt ?_) | (apply Exists.intro; refine And.intro vObx ?_) | refine And.intro vArT ?_ | refine And.intro (vMn) ?_ | refine Or.inl ?_) <;> conv => whnf) | fail
      rw [e]
    · by_cases hgt : w' i < w i
      · have e := cmpF_gt hin he hgt
        repeat' first | ((first | refine And.intro (Or.inl rfl) ?_ | (apply Exists.intro; refine And.intro (vAtN i vIx hin) ?_) | refine Or.inr (inl_ofR Tryz.tabOk mixOrd _ Tryz.func75 rfl rfl ?_) | refine Or.inr (inl_ofR Tryz.tabOk mixOrd _ Tryz.func96 rfl rfl ?_) | (refine And.intro (fun h => ?_) (fun h => ?_) <;> (try simp only [cnt1, ints_length, rows_length, Tb_length, lM_length, tM_length] at h) <;> first | (exfalso; omega) | skip) | refine And.intro (show slotsOk _ = true by decide +kernel) ?_ | refine And.intro vOb ?_ | (apply Exists.intro; refine And.intro vObt ?_) | (apply Exists.intro; refine And.intro vObx ?_) | refine And.intro vArT ?_ | refine And.intro (vMn) ?_ | refine Or.inl ?_) <;> conv => whnf) | fail
        rw [e]
      · repeat' first | ((first | refine And.intro (Or.inl rfl) ?_ | (apply Exists.intro; refine And.intro (vAtN i vIx hin) ?_) | refine Or.inr (inl_ofR Tryz.tabOk mixOrd _ Tryz.func75 rfl rfl ?_) | refine Or.inr (inl_ofR Tryz.tabOk mixOrd _ Tryz.func96 rfl rfl ?_) | (refine And.intro (fun h => ?_) (fun h => ?_) <;> (try simp only [cnt1, ints_length, rows_length, Tb_length, lM_length, tM_length] at h) <;> first | (exfalso; omega) | skip) | refine And.intro (show slotsOk _ = true by decide +kernel) ?_ | refine And.intro vOb ?_ | (apply Exists.intro; refine And.intro vObt ?_) | (apply Exists.intro; refine And.intro vObx ?_) | refine And.intro vArT ?_ | refine And.intro (vMn) ?_ | refine Or.inl ?_) <;> conv => whnf) | fail
        refine Exists.intro (i + 1) (And.intro ⟨by omega, fun k hk => ?_⟩ (And.intro (by omega) ?_))
        · by_cases e : k = i
          · rw [e]; omega
          · exact he k (by omega)
        first | refine WeakS.autoR ?_ | refine Weak.autoR ?_
        conv => whnf
        repeat' ((first | exact trivial | refine And.intro rfl ?_ | refine And.intro (eqV_int vAr) ?_ | refine And.intro vOb ?_ | refine And.intro vRepl ?_ | refine And.intro vReplL ?_ | refine And.intro ?_ ?_) <;> try (conv => whnf))
  · have hin2 : i = n := by omega
    subst hin2
    have e := cmpF_eq he
    repeat' first | ((first | refine And.intro (Or.inl rfl) ?_ | (refine And.intro (fun h => ?_) (fun h => ?_) <;> (try simp only [cnt1, ints_length, rows_length, Tb_length, lM_length, tM_length] at h) <;> first | (exfalso; omega) | skip) | refine And.intro (show slotsOk _ = true by decide +kernel) ?_ | refine And.intro vOb ?_ | (apply Exists.intro; refine And.intro vObt ?_) | (apply Exists.intro; refine And.intro vObx ?_) | refine And.intro vArT ?_ | refine Or.inl ?_) <;> conv => whnf) | fail
    rw [e]
theorem c_onTopT (hm : Md m) (o p o' : Bool) (n : Nat) (hn : 2 ≤ n ∧ n ≤ 50) (f : PS (PS (Zm m))) (l : List Int) (hl : l.length = n) (hb : ∀ i, i < n → 0 ≤ l.getD i 0 ∧ l.getD i 0 ≤ 4611686018427387904) (t : Int) (ht : -10000 ≤ t ∧ t ≤ 10000) :
    PureCall Tryz.prog 49 [PlD m o p n f, .list o' 1 (ints l), dint t] (PlD m true true n (addTop f (n - 1) n (fun i => Zm.mk m t * Zm.mk m (l.getD i 0)))) := by
  have hm1 := hm.1
  have hm2 := hm.2
  refine pure_of_vcR Tryz.tabOk mixOrd Tryz.func49 rfl rfl ?_
  conv => whnf
  repeat' first | ((first | refine And.intro (Or.inl rfl) ?_ | (apply Exists.intro; refine And.intro (c_copied _ _ n vAr _) ?_) | (apply Exists.intro; refine And.intro (c_degreeP _ _ _ vAr _) ?_) | (refine And.intro (fun h => ?_) (fun h => ?_) <;> (try simp only [cnt1, ints_length] at h)) | refine And.intro (show slotsOk _ = true by decide +kernel) ?_ | refine And.intro vOb ?_ | (apply Exists.intro; refine And.intro vObt ?_) | (apply Exists.intro; refine And.intro vObx ?_) | refine And.intro vArT ?_ | refine Or.inl ?_) <;> conv => whnf) | fail
  refine loop_atR Tryz.tabOk mixOrd (α := Nat) (fun i => [(17, dint i)]) (fun i => [(3, some ⟨false, 1, rows true (Tb n (addTop f (n - 1) i (fun i => Zm.mk m t * Zm.mk m (l.getD i 0))))⟩)]) (fun i => i ≤ n) (fun i => n - i) (0) ?_ ?_ ?_
  · omega
  · conv => whnf
    first | refine WeakS.autoR ?_ | refine Weak.autoR ?_
    conv => whnf
    repeat' ((first | exact trivial | refine And.intro rfl ?_ | refine And.intro (eqV_int vAr) ?_ | refine And.intro vOb ?_ | refine And.intro vRepl ?_ | refine And.intro vReplL ?_ | refine And.intro ?_ ?_) <;> try (conv => whnf))
    all_goals rw [addTop_zero]
  intro i hi
  conv => whnf
  have he := Int.emod_nonneg (l.getD i 0) (show m ≠ 0 by omega)
  have he2 := Int.emod_lt_of_pos (l.getD i 0) (show 0 < m by omega)
  have he3 : -100000000 ≤ t * (l.getD i 0 % m) ∧ t * (l.getD i 0 % m) ≤ 100000000 := by
    have h1 := Int.mul_le_mul_of_nonneg_right ht.1 he
    have h2 := Int.mul_le_mul_of_nonneg_right ht.2 he
    omega
  have hz := Zm.val_range hm.pos (((addTop f (n - 1) i (fun i => Zm.mk m t * Zm.mk m (l.getD i 0))).c i).c ((n : Int) - 1 - i).toNat)
  have hbi : i < n → 0 ≤ l.getD i 0 ∧ l.getD i 0 ≤ 4611686018427387904 := hb i
  repeat' first | ((first | refine And.intro (Or.inl rfl) ?_ | (apply Exists.intro; refine And.intro (c_mod _ _ hm.pos (by omega)) ?_) | (refine And.intro (fun h => ?_) (fun h => ?_) <;> (try simp only [cnt1, ints_length] at h)) | refine And.intro (show slotsOk _ = true by decide +kernel) ?_ | refine And.intro vOb ?_ | (apply Exists.intro; refine And.intro vObt ?_) | (apply Exists.intro; refine And.intro vObx ?_) | refine And.intro vArT ?_ | refine Or.inl ?_) <;> conv => whnf) | fail
  · have hi' : i < n := by omega
    refine Exists.intro (i + 1) (And.intro vAr (And.intro vAr ?_))
    first | refine WeakS.autoR ?_ | refine Weak.autoR ?_
    conv => whnf
    repeat' ((first | exact trivial | refine And.intro rfl ?_ | refine And.intro (eqV_int vAr) ?_ | refine And.intro vOb ?_ | refine And.intro vRepl ?_ | refine And.intro vReplL ?_ | refine And.intro ?_ ?_) <;> try (conv => whnf))
    rw [show ((n : Int) - 1 - i).toNat = n - 1 - i by omega]
    refine rows_congr (setT_eq (((addTop f (n - 1) i (fun i => Zm.mk m t * Zm.mk m (l.getD i 0))).c i).c (n - 1 - i) + Zm.mk m t * Zm.mk m (l.getD i 0)) (Zm.emod_val ?_) (by omega) (Ag2.of_eq (addTop_step f (fun i => Zm.mk m t * Zm.mk m (l.getD i 0)) (by omega))))
    rw [Zm.mk_add, Zm.mk_val, Zm.mk_mul, Zm.mk_mod]
  · rw [show i = n by omega]
end Go.Proofs

