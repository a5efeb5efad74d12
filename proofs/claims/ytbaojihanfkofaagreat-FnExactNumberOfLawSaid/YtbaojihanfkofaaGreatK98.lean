/- The program's first extension. -/
-- tables
-- rec
import Derived.Test.YtbaojihanfkofaaGreatK102
import Derived.Test.YtbaojihanfkofaaGreatK94
import Derived.Test.YtbaojihanfkofaaGreatK19
namespace Go.Proofs
open Go Go.Vm Go.Fg Go.Fg.PS
set_option maxRecDepth 100000
set_option maxHeartbeats 4000000
set_option linter.unusedSimpArgs false
set_option linter.unusedVariables false
variable {m : Int}
theorem lowM_row {n i : Nat} (f : PS (PS (Zm m))) (hi : i < n) :
    updB (rows true (Tb (n + 1) (lowP (mix i f 0) n))) [i] (fun l => l.take 0 ++ ((ints (L (n - i) (f.c i))).take (min (n - i) (n + 1 - i)) ++ l.drop (min (n - i) (n + 1 - i)))) = rows true (Tb (n + 1) (lowP (mix (i + 1) f 0) n)) := by
  have key : L (n - i) (f.c i) ++ (L (n + 1 - i) ((lowP (mix i f 0) n).c i)).drop (n - i) = L (n + 1 - i) ((lowP (mix (i + 1) f 0) n).c i) := by
    obtain ⟨k, hk⟩ : ∃ k, n - i = k := ⟨_, rfl⟩
    rw [show n + 1 - i = k + 1 by omega, hk]
    have e1 : ∀ j, j < k → ((lowP (mix (i + 1) f 0) n).c i).c j = (f.c i).c j := fun j hj => by rw [lowP_low (by omega), mix_c, if_pos (by omega)]
    rw [← L_push (n := k) (a := (lowP (mix i f 0) n).c i) rfl, ← L_push (n := k) (a := (lowP (mix (i + 1) f 0) n).c i) rfl, L_congr (a := (lowP (mix (i + 1) f 0) n).c i) (b := f.c i) e1]
    rw [List.drop_left' (by simp), lowP_cc, lowP_cc, if_neg (by omega), if_neg (by omega)]
  rw [updB_rows _ (by simp; omega) _ (L (n + 1 - i) ((lowP (mix (i + 1) f 0) n).c i)), Tb_set _ _ (by omega)]
  · refine congrArg (rows true) (Tb_congr (fun a b hab => ?_))
    rw [upd_c]
    by_cases e : a = i
    · rw [if_pos e, e]
    · rw [if_neg e, lowP_cc, lowP_cc]
      split
      · rw [mix_c, mix_c]
        by_cases h : a < i
        · rw [if_pos h, if_pos (by omega)]
        · rw [if_neg h, if_neg (by omega)]
      · rfl
  · rw [Tb_getD _ (by omega), List.take_zero, List.nil_append, Nat.min_eq_left (by omega), ints_take, ints_drop, ints_append, L_take _ (Nat.le_refl _), key]
theorem lowM_zero (f : PS (PS (Zm m))) (n N : Nat) : Tb N (lowP (mix 0 f 0) n) = Tb N (0 : PS (PS (Zm m))) := Tb_congr (fun a b _ => by
  rw [lowP_cc, mix_zero]
  split <;> rfl)
theorem lowM_full (f : PS (PS (Zm m))) (n N : Nat) : Tb N (lowP (mix n f 0) n) = Tb N (lowP f n) := Tb_congr (fun a b _ => by
  rw [lowP_cc, lowP_cc]
  split
  · rw [mix_c, if_pos (by omega)]
  · rfl)
theorem mixZ_zero {n : Nat} (Y : Nat → Int) : List.replicate (n + 1) (0 : Int) = lM (n + 1) (mixZ (xt n Y) (fun _ => 0) (0 + 1)) := by
  rw [lM_zeros]
  refine lM_congr (fun j hj => ?_)
  show 0 = if j < 0 + 1 then xt n Y j else 0
  split
  · unfold xt; rw [if_neg (by omega)]
  · rfl
theorem mixZ_full {n : Nat} (Y : Nat → Int) : lM (n + 1) (mixZ (xt n Y) (fun _ => 0) n) = lM (n + 1) (xt n Y) := lM_congr (fun j hj => by
  show (if j < n then xt n Y j else 0) = xt n Y j
  split
  · rfl
  · unfold xt; rw [if_neg (by omega)])
theorem xt_b {n H : Nat} (hH : H = n / 2) {Y : Nat → Int} (hm : 0 < m) (h : ∀ i, i < H → 0 ≤ Y i ∧ Y i < m) (i : Nat) : 0 ≤ xt n Y i ∧ xt n Y i < m := by
  unfold xt
  split
  · exact h _ (by omega)
  · omega
theorem some_tab (f : PS (PS (Zm m))) {n : Nat} (Y : Nat → Int) : Tb (n + 1) (addTop (lowP f n) (n + 1 - 1) (n + 1) (fun i => Zm.mk m ((lM (n + 1) (xt n Y)).getD i 0))) = Tb (n + 1) (extP f n (vOf m n fun k => xt n Y (k + 1))) := Tb_congr (fun i j hij => by
  rw [addTop_cc, extP_cc, lowP_cc]
  by_cases e : i + j = n
  · rw [if_pos ⟨by omega, by omega⟩, if_neg (by omega), if_neg (by omega), if_pos e, CR.zero_add, lM_getD _ (by omega)]
    exact xt_top Y (by omega)
  · rw [if_neg (by omega), if_pos (by omega), if_pos (by omega)])
theorem c_some (hm : Md m) (o p : Bool) (n : Nat) (hn : 2 ≤ n ∧ n ≤ 10) (f : PS (PS (Zm m))) (hL : LawP f n) :
    CallsTo Tryz.prog 47 1 [PlD m o p n f] [none]
      (fun d rt => ∃ v : Nat → Zm m, v 0 = 0 ∧ BudEq (lowP f n) n v ∧ d = .agg [dint m, .ref 1 [] 1 0 (n + 1)] ∧ rt = [none, some ⟨false, 1, rows true (Tb (n + 1) (extP f n v))⟩]) := by
  have hm1 := hm.1
  have hm2 := hm.2
  have L := lw_of hn.1 hL
  have hH : ((n : Int) - 1 + 1).tdiv 2 = ((n / 2 : Nat) : Int) := by
    rw [Int.sub_add_cancel, Int.tdiv_eq_ediv_of_nonneg (by omega)]; rfl
  refine callsTo_of Tryz.tabOk mixOrd 1 _ Tryz.func47 rfl rfl ?_
  conv => whnf
  repeat' first | ((first | refine And.intro (Or.inl rfl) ?_ | (apply Exists.intro; refine And.intro (c_degreeP _ _ _ vAr _) ?_) | (apply Exists.intro; refine And.intro (c_emptyPlane (n + 1) vAr vAr) ?_) | (refine And.intro (fun h => ?_) (fun h => ?_) <;> (try simp only [cnt1, ints_length] at h)) | refine And.intro (show slotsOk _ = true by decide +kernel) ?_ | refine And.intro vOb ?_ | (apply Exists.intro; refine And.intro vObt ?_) | (apply Exists.intro; refine And.intro vObx ?_) | refine And.intro vArT ?_ | refine Or.inl ?_) <;> conv => whnf) | fail
  refine loop_atR Tryz.tabOk mixOrd (α := Nat × Bool) (fun x => [(24, dint x.1), (6, .undef), (7, .undef), (20, .undef), (30, .undef), (33, .undef)]) (fun x => [(6, cond x.2 none (some ⟨false, 1, rows true (Tb (n + 1) (lowP (mix x.1 f 0) n))⟩)), (7, some ⟨true, 1, [dint m, cond x.2 (.list false 1 (rows true (Tb (n + 1) (lowP f n)))) (.ref 6 [] 1 0 (n + 1))]⟩)]) (fun x => x.1 ≤ n ∧ (x.2 = true ↔ x.1 = n)) (fun x => n - x.1) ((0, false)) ?_ ?_ ?_
  · exact ⟨by simp only; omega, by simp; omega⟩
  · conv => whnf
    first | refine WeakS.autoR ?_ | refine Weak.autoR ?_
    conv => whnf
    repeat' ((first | exact trivial | refine And.intro rfl ?_ | refine And.intro (eqV_int vAr) ?_ | refine And.intro vOb ?_ | refine And.intro vRepl ?_ | refine And.intro vReplL ?_ | refine And.intro ?_ ?_) <;> try (conv => whnf))
    all_goals exact congrArg (rows true) (lowM_zero f n (n + 1)).symm
  intro ⟨i, b⟩ ⟨hi, hb⟩
  simp only at hi hb
  cases b with
  | false =>
    have hin : i ≠ n := fun e => by simpa using hb.2 e
    conv => whnf
    repeat' first | ((first | refine And.intro (Or.inl rfl) ?_ | (apply Exists.intro; refine And.intro (getB_rowT vAr) ?_) | (refine And.intro (fun h => ?_) (fun h => ?_) <;> (try simp only [cnt1, ints_length, rows_length, Tb_length] at h) <;> first | (exfalso; omega) | skip) | refine And.intro (show slotsOk _ = true by decide +kernel) ?_ | refine And.intro vOb ?_ | (apply Exists.intro; refine And.intro vObt ?_) | (apply Exists.intro; refine And.intro vObx ?_) | refine And.intro vArT ?_ | refine Or.inl ?_) <;> conv => whnf) | fail
    by_cases e : i + 1 = n
    · refine Exists.intro (i + 1, true) (And.intro ⟨by simp only; omega, by simp only; simp [e]⟩ (And.intro (by simp only; omega) ?_))
      refine Weak.trans (Weak.freezeB (kp := 1) (r := 6) (q := 7) (j := 1) (sz := 1) (n := n + 1) (by omega) (by omega) rfl rfl rfl (by simp only [cnt1, ints_length, L_length, place1, Int.toNat_natCast, Nat.zero_add, List.nil_append]; rw [lowM_row f (by omega)]; simp) false) ?_
      first | refine WeakS.autoR ?_ | refine Weak.autoR ?_
      conv => whnf
      repeat' ((first | exact trivial | refine And.intro rfl ?_ | refine And.intro (eqV_int vAr) ?_ | refine And.intro vOb ?_ | refine And.intro vRepl ?_ | refine And.intro vReplL ?_ | refine And.intro ?_ ?_) <;> try (conv => whnf))
      simp only [cnt1, ints_length, L_length, place1, Int.toNat_natCast, Nat.zero_add, List.nil_append]
      exact (lowM_row f (by omega)).trans (by rw [e, lowM_full])
    · refine Exists.intro (i + 1, false) (And.intro ⟨by simp only; omega, by simp only; simp [e]⟩ (And.intro (by simp only; omega) ?_))
      first | refine WeakS.autoR ?_ | refine Weak.autoR ?_
      conv => whnf
      repeat' ((first | exact trivial | refine And.intro rfl ?_ | refine And.intro (eqV_int vAr) ?_ | refine And.intro vOb ?_ | refine And.intro vRepl ?_ | refine And.intro vReplL ?_ | refine And.intro ?_ ?_) <;> try (conv => whnf))
      simp only [cnt1, ints_length, L_length, place1, Int.toNat_natCast, Nat.zero_add, List.nil_append]
      exact lowM_row f (by omega)
  | true =>
    have hin : i = n := hb.1 rfl
    subst hin
    conv => whnf
    repeat' first | ((first | refine And.intro (Or.inl rfl) ?_ | refine Or.inr (Exists.intro _ (And.intro (c_defectsOf hm true (i + 1) ⟨by omega, by omega⟩ (lowP f i)) ?_)) | refine Or.inl (Or.inr (Exists.intro _ (And.intro (c_defectsOf hm true (i + 1) ⟨by omega, by omega⟩ (lowP f i)) ?_))) | refine Or.inl (Or.inl (Or.inr (Exists.intro _ (And.intro (c_defectsOf hm true (i + 1) ⟨by omega, by omega⟩ (lowP f i)) ?_)))) | (refine And.intro (fun h => ?_) (fun h => ?_) <;> (try simp only [cnt1, ints_length, rows_length, Tb_length] at h) <;> first | (exfalso; omega) | skip) | refine And.intro (show slotsOk _ = true by decide +kernel) ?_ | refine And.intro vOb ?_ | (apply Exists.intro; refine And.intro vObt ?_) | (apply Exists.intro; refine And.intro vObx ?_) | refine And.intro vArT ?_) <;> conv => whnf) | fail
    rw [hH]
    repeat' first | (refine bor_of [4, 9, 8] (c_together hm i (i + 1) (i / 2) hn rfl rfl (lowP f i) L) (by decide) ?_ (fun d rt' hd => ?_); (focus ((conv => whnf); (repeat' ((first | exact trivial | refine And.intro rfl ?_ | refine And.intro (eqV_int vAr) ?_ | refine And.intro vOb ?_) <;> (conv => whnf))); done))) | ((first | refine And.intro (Or.inl rfl) ?_ | (refine And.intro (fun h => ?_) (fun h => ?_) <;> (try simp only [cnt1, ints_length] at h)) | refine And.intro (show slotsOk _ = true by decide +kernel) ?_ | refine And.intro vOb ?_ | (apply Exists.intro; refine And.intro vObt ?_) | (apply Exists.intro; refine And.intro vObx ?_) | refine And.intro vArT ?_ | refine Or.inl ?_) <;> conv => whnf) | fail
    obtain ⟨Y, hY, hE, rfl, rfl⟩ := hd
    refine ⟨rfl, by simp, ?_⟩
    conv => whnf
    repeat' first | ((first | refine And.intro (Or.inl rfl) ?_ | (refine And.intro (fun h => ?_) (fun h => ?_) <;> (try simp only [cnt1, ints_length] at h)) | refine And.intro (show slotsOk _ = true by decide +kernel) ?_ | refine And.intro vOb ?_ | (apply Exists.intro; refine And.intro vObt ?_) | (apply Exists.intro; refine And.intro vObx ?_) | refine And.intro vArT ?_ | refine Or.inl ?_) <;> conv => whnf) | fail
    refine loop_atR Tryz.tabOk mixOrd (α := Nat) (fun k => [(12, dint ((k : Int) + 1))]) (fun k => [(11, some ⟨false, 1, ints (lM (i + 1) (mixZ (xt i Y) (fun _ => 0) (k + 1)))⟩)]) (fun k => k + 1 ≤ i) (fun k => i - k) (0) ?_ ?_ ?_
    · omega
    · conv => whnf
      first | refine WeakS.autoR ?_ | refine Weak.autoR ?_
      conv => whnf
      repeat' ((first | exact trivial | refine And.intro rfl ?_ | refine And.intro (eqV_int vAr) ?_ | refine And.intro vOb ?_ | refine And.intro vRepl ?_ | refine And.intro vReplL ?_ | refine And.intro ?_ ?_) <;> try (conv => whnf))
      all_goals exact congrArg ints (mixZ_zero Y)
    intro k hk
    conv => whnf
    by_cases hki : k + 1 < i
    · have hxt : Y (min (k + 1) (i - (k + 1)) - 1) = xt i Y (k + 1) := by
        unfold xt
        rw [if_pos (by omega)]
      repeat' first | ((first | refine And.intro (Or.inl rfl) ?_ | (apply Exists.intro; refine And.intro (vLoadN (w := i / 2) (r := Y) (min (k + 1) (i - (k + 1)) - 1) (by first | omega | (simp only [place1]; omega)) (by omega)) ?_) | (apply Exists.intro; refine And.intro (vStoreJ hxt (by first | omega | (simp only [place1]; omega)) (by omega)) ?_) | (refine And.intro (fun h => ?_) (fun h => ?_) <;> (try simp only [cnt1, ints_length, rows_length, Tb_length, lM_length, tM_length] at h) <;> first | (exfalso; omega) | skip) | refine And.intro (show slotsOk _ = true by decide +kernel) ?_ | refine And.intro vOb ?_ | (apply Exists.intro; refine And.intro vObt ?_) | (apply Exists.intro; refine And.intro vObx ?_) | refine And.intro vArT ?_ | refine And.intro (vMn) ?_ | refine Or.inl ?_) <;> conv => whnf) | fail
      refine Exists.intro (k + 1) (And.intro (by omega) (And.intro (by omega) ?_))
      first | refine WeakS.autoR ?_ | refine Weak.autoR ?_
      conv => whnf
      repeat' ((first | exact trivial | refine And.intro rfl ?_ | refine And.intro (eqV_int vAr) ?_ | refine And.intro vOb ?_ | refine And.intro vRepl ?_ | refine And.intro vReplL ?_ | refine And.intro ?_ ?_) <;> try (conv => whnf))
    · have hki2 : k + 1 = i := by omega
      rw [hki2, mixZ_full]
      have hsub : sub (ints (lM (i + 1) (xt i Y))) 1 0 (i + 1) = ints (lM (i + 1) (xt i Y)) := by
        unfold sub
        rw [Nat.zero_mul, List.drop_zero, List.take_of_length_le (by simp)]
      repeat' first | ((first | refine And.intro (Or.inl rfl) ?_ | (apply Exists.intro; refine And.intro (hsub) ?_) | (apply Exists.intro; refine And.intro (c_onTop hm _ _ _ (i + 1) (by omega) (lowP f i) (lM (i + 1) (xt i Y)) (by simp) (fun j hj => by rw [lM_getD _ hj]; have := xt_b rfl hm.pos hY j; omega)) ?_) | (refine And.intro (fun h => ?_) (fun h => ?_) <;> (try simp only [cnt1, ints_length, rows_length, Tb_length, lM_length, tM_length] at h) <;> first | (exfalso; omega) | skip) | refine And.intro (show slotsOk _ = true by decide +kernel) ?_ | refine And.intro vOb ?_ | (apply Exists.intro; refine And.intro vObt ?_) | (apply Exists.intro; refine And.intro vObx ?_) | refine And.intro vArT ?_ | refine And.intro (vMn) ?_ | refine Or.inl ?_) <;> conv => whnf) | fail
      rw [some_tab]
      refine ⟨.agg [dint m, .ref 1 [] 1 0 (i + 1)], [none, some ⟨false, 1, rows true (Tb (i + 1) (extP f i (vOf m i fun k => xt i Y (k + 1))))⟩], ⟨vOf m i (fun k => xt i Y (k + 1)), if_neg (by omega), eqX_bud hE, rfl, rfl⟩, Weak.of (kp := 1) [none, some 13] ?_⟩
      conv => whnf
      repeat' ((first | exact trivial | refine And.intro rfl ?_ | refine And.intro (eqV_int vAr) ?_ | refine And.intro vOb ?_ | refine And.intro ?_ ?_) <;> try (conv => whnf))
      all_goals simp [cnt1]
theorem top_ext (f : PS (PS (Zm m))) (n : Nat) (v : Nat → Zm m) : L (n + 1) (topS (extP f n v) (n + 1)) = lM (n + 1) (fun i => (v i).val) :=
  List.map_congr_left (fun i hi => by
    have h := List.mem_range.1 hi
    show (((extP f n v).c i).c (n + 1 - 1 - i)).val = (v i).val
    rw [extP_cc, if_neg (by omega), if_pos (by omega)])
theorem wx_val (hm : 0 < m) (n : Nat) (v : Nat → Zm m) (x i : Nat) : (wx m n v x i).val = ((v i).val + (x : Int) * ((lazV n i : Nat) : Int).tmod m).tmod m := by
  have h1 := (Zm.val_range hm (v i)).1
  have h2 := Int.tmod_nonneg m (Int.natCast_nonneg (lazV n i))
  have h3 : 0 ≤ (x : Int) * ((lazV n i : Nat) : Int).tmod m := Int.mul_nonneg (by omega) h2
  rw [Int.tmod_eq_emod_of_nonneg (show 0 ≤ (v i).val + (x : Int) * ((lazV n i : Nat) : Int).tmod m by omega)]
  refine (Zm.emod_val ?_).symm
  rw [Int.tmod_eq_emod_of_nonneg (Int.natCast_nonneg _), Zm.mk_add, Zm.mk_val, Zm.mk_mul, Zm.mk_mod]
  rfl
theorem plD_ext {f : PS (PS (Zm m))} {n : Nat} {v w : Nat → Zm m} : Tb (n + 1) (addTop (addTop (extP f n v) (n + 1 - 1) (n + 1) (fun i => Zm.mk m (-1) * Zm.mk m ((lM (n + 1) fun i => (v i).val).getD i 0))) (n + 1 - 1) (n + 1) (fun i => Zm.mk m 1 * Zm.mk m ((lM (n + 1) fun i => (w i).val).getD i 0))) = Tb (n + 1) (extP f n w) := by
  refine Tb_congr (fun i j hij => ?_)
  have e := extP_swap (f := f) (v := v) (w := w) hij
  rw [← e, addTop_cc, addTop_cc, addTop_cc, addTop_cc, lM_getD _ (by omega), lM_getD _ (by omega), Zm.mk_val, Zm.mk_val, show Zm.mk m 1 = (1 : Zm m) from rfl, CR.one_mul]
  rfl
theorem c_firstExtension (hm : Md m) (o p : Bool) (n : Nat) (hn : 2 ≤ n ∧ n ≤ 10) (f : PS (PS (Zm m))) (hL : LawP f n) (v : Nat → Zm m) (hv : First (lowP f n) n v) : PureCall Tryz.prog 28 [PlD m o p n f] (PlD m true true (n + 1) (extP f n v)) := by
  have hm1 := hm.1
  have hm2 := hm.2
  refine pure_of_vcR Tryz.tabOk mixOrd Tryz.func28 rfl rfl ?_
  conv => whnf
  repeat' first | (refine bor_of [] (c_some hm o p n hn f hL) (by decide) ?_ (fun d rt' hd => ?_); (focus ((conv => whnf); (repeat' ((first | exact trivial | refine And.intro rfl ?_ | refine And.intro (eqV_int vAr) ?_ | refine And.intro vOb ?_) <;> (conv => whnf))); done))) | ((first | refine And.intro (Or.inl rfl) ?_ | (refine And.intro (fun h => ?_) (fun h => ?_) <;> (try simp only [cnt1, ints_length] at h)) | refine And.intro (show slotsOk _ = true by decide +kernel) ?_ | refine And.intro vOb ?_ | (apply Exists.intro; refine And.intro vObt ?_) | (apply Exists.intro; refine And.intro vObx ?_) | refine And.intro vArT ?_ | refine Or.inl ?_) <;> conv => whnf) | fail
  obtain ⟨v0, h0, hB, rfl, rfl⟩ := hd
  refine ⟨rfl, by simp, ?_⟩
  conv => whnf
  have htop : ∀ o p, PureCall Tryz.prog 29 [PlD m o p (n + 1) (extP f n v0)] (.list true 1 (ints (lM (n + 1) fun i => (v0 i).val))) := fun o p => by
    have := c_top o p (n + 1) (by omega) (extP f n v0)
    rwa [top_ext] at this
  have hlaz : ∀ n' : Int, n' = n → PureCall Tryz.prog 43 [dint n'] (.list true 1 (ints (lM (n + 1) fun i => ((lazV n i : Nat) : Int)))) := fun n' e => c_lazard n ⟨hn.1, by omega⟩ e
  repeat' first | ((first | refine And.intro (Or.inl rfl) ?_ | (apply Exists.intro; refine And.intro (c_degreeP _ _ (n + 1) vAr _) ?_) | (apply Exists.intro; refine And.intro (hlaz _ vAr) ?_) | (apply Exists.intro; refine And.intro (htop _ _) ?_) | (refine And.intro (fun h => ?_) (fun h => ?_) <;> (try simp only [cnt1, ints_length] at h)) | refine And.intro (show slotsOk _ = true by decide +kernel) ?_ | refine And.intro vOb ?_ | (apply Exists.intro; refine And.intro vObt ?_) | (apply Exists.intro; refine And.intro vObx ?_) | refine And.intro vArT ?_ | refine Or.inl ?_) <;> conv => whnf) | fail
  have hlb : ∀ (w : Nat → Zm m) i, i < n + 1 → 0 ≤ (lM (n + 1) fun j => (w j).val).getD i 0 ∧ (lM (n + 1) fun j => (w j).val).getD i 0 ≤ 4611686018427387904 := fun w i hi => by
    rw [lM_getD _ hi]
    have := Zm.val_range hm.pos (w i)
    omega
  refine loop_atR Tryz.tabOk mixOrd (α := Nat × Nat) (fun x => [(25, dint x.1), (6, .ref 6 [] 1 0 (n + 1)), (21, .undef), (9, .undef), (28, .undef)]) (fun x => [(6, some ⟨false, 1, ints (lM (n + 1) fun i => (wx m n v0 x.2 i).val)⟩)]) (fun x => x.1 ≤ m.toNat ∧ x.2 < m.toNat ∧ ∀ x', x' < x.1 → LexV (n + 1) (wx m n v0 x.2) (wx m n v0 x')) (fun x => m.toNat - x.1) ((0, 0)) ?_ ?_ ?_
  · exact ⟨by omega, by simp only; omega, fun x' h => by simp only at h; omega⟩
  · conv => whnf
    first | refine WeakS.autoR ?_ | refine Weak.autoR ?_
    conv => whnf
    repeat' ((first | exact trivial | refine And.intro rfl ?_ | refine And.intro (eqV_int vAr) ?_ | refine And.intro vOb ?_ | refine And.intro vRepl ?_ | refine And.intro vReplL ?_ | refine And.intro ?_ ?_) <;> try (conv => whnf))
    all_goals first | (simp [cnt1]; done) | exact congrArg ints (lM_congr (fun i _ => by rw [wx_zero]))
  intro ⟨x, x0⟩ ⟨hx, hx0, hle⟩
  simp only at hx hx0 hle
  conv => whnf
  by_cases hxm : x < m.toNat
  · repeat' first | ((first | refine And.intro (Or.inl rfl) ?_ | (refine And.intro (fun h => ?_) (fun h => ?_) <;> (try simp only [cnt1, ints_length, rows_length, Tb_length, lM_length, tM_length] at h) <;> first | (exfalso; omega) | skip) | refine And.intro (show slotsOk _ = true by decide +kernel) ?_ | refine And.intro vOb ?_ | (apply Exists.intro; refine And.intro vObt ?_) | (apply Exists.intro; refine And.intro vObx ?_) | refine And.intro vArT ?_ | refine Or.inl ?_) <;> conv => whnf) | fail
    refine loop_atR Tryz.tabOk mixOrd (α := Nat) (fun i => [(31, dint i), (9, .ref 8 [] 1 0 i), (28, .undef), (36, .undef), (39, .undef)]) (fun i => [(8, some ⟨false, 1, ints (lM i fun j => (wx m n v0 x j).val)⟩)]) (fun i => i ≤ n + 1) (fun i => n + 1 - i) (0) ?_ ?_ ?_
    · omega
    · conv => whnf
      first | refine WeakS.autoR ?_ | refine Weak.autoR ?_
      conv => whnf
      repeat' ((first | exact trivial | refine And.intro rfl ?_ | refine And.intro (eqV_int vAr) ?_ | refine And.intro vOb ?_ | refine And.intro vRepl ?_ | refine And.intro vReplL ?_ | refine And.intro ?_ ?_) <;> try (conv => whnf))
    intro i hi
    conv => whnf
    by_cases hin : i < n + 1
    · have hvr := Zm.val_range hm.pos (v0 i)
      have c1 := Int.tmod_nonneg m (Int.natCast_nonneg (lazV n i))
      have c2 := Int.tmod_lt_of_pos ((lazV n i : Nat) : Int) (show 0 < m by omega)
      have p1 : 0 ≤ (x : Int) * ((lazV n i : Nat) : Int).tmod m := Int.mul_nonneg (by omega) c1
      have p2 : (x : Int) * ((lazV n i : Nat) : Int).tmod m ≤ 10000 * 10000 := Int.mul_le_mul (by omega) (by omega) c1 (by omega)
      repeat' first | ((first | refine And.intro (Or.inl rfl) ?_ | (apply Exists.intro; refine And.intro (vLoadN (w := n + 1) (r := fun i => (v0 i).val) i vIx hin) ?_) | (apply Exists.intro; refine And.intro (vLoadN (w := n + 1) (r := fun i => ((lazV n i : Nat) : Int)) i vIx hin) ?_) | (refine And.intro (fun h => ?_) (fun h => ?_) <;> (try simp only [cnt1, ints_length, rows_length, Tb_length, lM_length, tM_length] at h) <;> first | (exfalso; omega) | skip) | refine And.intro (show slotsOk _ = true by decide +kernel) ?_ | refine And.intro vOb ?_ | (apply Exists.intro; refine And.intro vObt ?_) | (apply Exists.intro; refine And.intro vObx ?_) | refine And.intro vArT ?_ | refine And.intro (vMn) ?_ | refine Or.inl ?_) <;> conv => whnf) | fail
      refine Exists.intro (i + 1) (And.intro (by omega) (And.intro (by omega) ?_))
      first | refine WeakS.autoR ?_ | refine Weak.autoR ?_
      conv => whnf
      repeat' ((first | exact trivial | refine And.intro rfl ?_ | refine And.intro (eqV_int vAr) ?_ | refine And.intro vOb ?_ | refine And.intro vRepl ?_ | refine And.intro vReplL ?_ | refine And.intro ?_ ?_) <;> try (conv => whnf))
      all_goals exact congrArg ints (lM_push (wx_val hm.pos n v0 x i).symm)
    · have hin2 : i = n + 1 := by omega
      subst hin2
      repeat' first | ((first | refine And.intro (Or.inl rfl) ?_ | (apply Exists.intro; refine And.intro (sub_lM _ _) ?_) | (apply Exists.intro; refine And.intro (c_compare _ _ (n + 1) (by omega) (fun j => (wx m n v0 x j).val) (fun j => (wx m n v0 x0 j).val)) ?_) | (refine And.intro (fun h => ?_) (fun h => ?_) <;> (try simp only [cnt1, ints_length, rows_length, Tb_length, lM_length, tM_length] at h) <;> first | (exfalso; omega) | skip) | refine And.intro (show slotsOk _ = true by decide +kernel) ?_ | refine And.intro vOb ?_ | (apply Exists.intro; refine And.intro vObt ?_) | (apply Exists.intro; refine And.intro vObx ?_) | refine And.intro vArT ?_ | refine And.intro (vMn) ?_ | refine Or.inl ?_) <;> conv => whnf) | fail
      · have hlt : cmpF (n + 1) (fun j => (wx m n v0 x j).val) (fun j => (wx m n v0 x0 j).val) < 0 := by assumption
        refine Exists.intro (x + 1, x) (And.intro ⟨by simp only; omega, by simp only; omega, fun x' h => ?_⟩ (And.intro (by simp only; omega) ?_))
        · simp only at h ⊢
          by_cases e : x' = x
          · rw [e]; exact lexV_refl _
          · exact lexV_trans (cmpF_yes hlt) (hle x' (by omega))
        first | refine WeakS.autoR ?_ | refine Weak.autoR ?_
        conv => whnf
        repeat' ((first | exact trivial | refine And.intro rfl ?_ | refine And.intro (eqV_int vAr) ?_ | refine And.intro vOb ?_ | refine And.intro vRepl ?_ | refine And.intro vReplL ?_ | refine And.intro ?_ ?_) <;> try (conv => whnf))
      · have hge : ¬ cmpF (n + 1) (fun j => (wx m n v0 x j).val) (fun j => (wx m n v0 x0 j).val) < 0 := by assumption
        refine Exists.intro (x + 1, x0) (And.intro ⟨by simp only; omega, by simp only; omega, fun x' h => ?_⟩ (And.intro (by simp only; omega) ?_))
        · simp only at h ⊢
          by_cases e : x' = x
          · rw [e]; exact cmpF_no hge
          · exact hle x' (by omega)
        first | refine WeakS.autoR ?_ | refine Weak.autoR ?_
        conv => whnf
        repeat' ((first | exact trivial | refine And.intro rfl ?_ | refine And.intro (eqV_int vAr) ?_ | refine And.intro vOb ?_ | refine And.intro vRepl ?_ | refine And.intro vReplL ?_ | refine And.intro ?_ ?_) <;> try (conv => whnf))
  · have hxm2 : x = m.toNat := by omega
    subst hxm2
    have hF := first_wx hm.pos hn h0 hB hle
    repeat' first | ((first | refine And.intro (Or.inl rfl) ?_ | (apply Exists.intro; refine And.intro (sub_lM _ _) ?_) | (apply Exists.intro; refine And.intro (c_onTopT hm _ _ _ (n + 1) (by omega) (extP f n v0) (lM (n + 1) fun i => (v0 i).val) (by simp) (hlb v0) (-1) (by omega)) ?_) | (apply Exists.intro; refine And.intro (c_onTopT hm _ _ _ (n + 1) (by omega) (addTop (extP f n v0) (n + 1 - 1) (n + 1) (fun i => Zm.mk m (-1) * Zm.mk m ((lM (n + 1) fun i => (v0 i).val).getD i 0))) (lM (n + 1) fun i => (wx m n v0 x0 i).val) (by simp) (hlb (wx m n v0 x0)) 1 (by omega)) ?_) | (refine And.intro (fun h => ?_) (fun h => ?_) <;> (try simp only [cnt1, ints_length, rows_length, Tb_length, lM_length, tM_length] at h) <;> first | (exfalso; omega) | skip) | refine And.intro (show slotsOk _ = true by decide +kernel) ?_ | refine And.intro vOb ?_ | (apply Exists.intro; refine And.intro vObt ?_) | (apply Exists.intro; refine And.intro vObx ?_) | refine And.intro vArT ?_ | refine And.intro (vMn) ?_ | refine Or.inl ?_) <;> conv => whnf) | fail
    refine plD_congr (plD_ext.trans (Tb_congr (fun i j hij => ?_)))
    rw [extP_cc, extP_cc]
    split
    · rfl
    · split
      · exact hF.uniq hv i (by omega)
      · rfl
end Go.Proofs

