/- Lazard's cocycle. -/
-- tables
import Derived.Test.YthpbaehnkmmkgaaGreatK13
import Derived.Test.YthpbaehnkmmkgaaGreatKP
namespace Go.Proofs
open Go Go.Vm Go.Fg Go.Fg.PS
set_option maxRecDepth 100000
set_option maxHeartbeats 4000000
set_option linter.unusedSimpArgs false
set_option linter.unusedVariables false
variable {m : Int}
theorem c_binomial (n k : Nat) {n' k' : Int} (hn : n ≤ 60) (hk : k ≤ 60) (h1 : n' = n) (h2 : k' = k) : PureCall Tryz.prog 249 [dint n', dint k'] (dint (bin n k : Nat)) := by
  subst h1; subst h2
  refine pure_of_vc Tryz.tabOk mixOrd Tryz.func249 rfl rfl ?_
  conv => whnf
  repeat' first | ((first | refine z0 ?_ | (refine And.intro (fun h => ?_) (fun h => ?_) <;> (try simp only [cnt1, ints_length] at h)) | refine zS ?_ | refine zV ?_ | (apply zI; refine zP vObt ?_) | (apply zI; refine zP vObx ?_) | refine zA ?_ | refine Alt.fst ?_ | refine Or.inl ?_) <;> conv => whnf) | fail
  · rw [bin_gt (by omega)]; rfl
  refine loop_at Tryz.tabOk mixOrd (α := Nat) (fun i => [(5, .ref 0 [] 1 0 (i + 1)), (13, dint i), (11, .undef)]) (fun i => [(0, some ⟨false, 1, ints (pasc i (i + 1))⟩)]) (fun i => i ≤ n) (fun i => n - i) (0) ?_ ?_ ?_
  · omega
  · conv => whnf
    first | refine WeakS.auto ?_ | refine Weak.auto ?_
    conv => whnf
    repeat' ((first | refine z1 ?_ | refine z2 ?_ | refine zV ?_ | refine And.intro vRepl ?_ | refine And.intro vReplL ?_ | refine And.intro ?_ ?_ | exact trivial) <;> try (conv => whnf))
  intro i hi
  conv => whnf
  repeat' first | ((first | refine z0 ?_ | (apply zI; refine zP (vLoad vIx (by simp; omega)) ?_) | (refine And.intro (fun h => ?_) (fun h => ?_) <;> (try simp only [cnt1, ints_length] at h)) | refine zS ?_ | refine zV ?_ | (apply zI; refine zP vObt ?_) | (apply zI; refine zP vObx ?_) | refine zA ?_ | refine Alt.fst ?_ | refine Or.inl ?_) <;> conv => whnf) | fail
  · refine loop_at Tryz.tabOk mixOrd (α := Nat) (fun j => [(6, .ref 1 [] 1 0 (j + 1)), (7, dint ((j : Int) + 1)), (15, .undef)]) (fun j => [(1, some ⟨false, 1, ints (pasc (i + 1) (j + 1))⟩)]) (fun j => j ≤ i) (fun j => i - j) (0) ?_ ?_ ?_
    · omega
    · conv => whnf
      first | refine WeakS.auto ?_ | refine Weak.auto ?_
      conv => whnf
      repeat' ((first | refine z1 ?_ | refine z2 ?_ | refine zV ?_ | refine And.intro vRepl ?_ | refine And.intro vReplL ?_ | refine And.intro ?_ ?_ | exact trivial) <;> try (conv => whnf))
    intro j hj
    conv => whnf
    have hb1 := bin_le i j
    have hb2 := bin_le i (j + 1)
    have hb3 : 2 ^ i ≤ 2 ^ 60 := Nat.pow_le_pow_right (by omega) (by omega)
    repeat' first | ((first | refine z0 ?_ | (apply zI; refine zP (vPasc j (by simp only [place1]; omega) (by omega)) ?_) | (apply zI; refine zP (vPasc (j + 1) (by simp only [place1]; omega) (by omega)) ?_) | (refine And.intro (fun h => ?_) (fun h => ?_) <;> (try simp only [cnt1, ints_length] at h)) | refine zS ?_ | refine zV ?_ | (apply zI; refine zP vObt ?_) | (apply zI; refine zP vObx ?_) | refine zA ?_ | refine Alt.fst ?_ | refine Or.inl ?_) <;> conv => whnf) | fail
    · refine Exists.intro (j + 1) (And.intro vAr (And.intro vAr ?_))
      first | refine WeakS.auto ?_ | refine Weak.auto ?_
      conv => whnf
      repeat' ((first | refine z1 ?_ | refine z2 ?_ | refine zV ?_ | refine And.intro vRepl ?_ | refine And.intro vReplL ?_ | refine And.intro ?_ ?_ | exact trivial) <;> try (conv => whnf))
      exact ints_congr (pasc_push (by rw [bin_succ, Int.natCast_add]))
    · refine Exists.intro (i + 1) (And.intro vAr (And.intro vAr ?_))
      first | refine WeakS.auto ?_ | refine Weak.auto ?_
      conv => whnf
      repeat' ((first | refine z1 ?_ | refine z2 ?_ | refine zV ?_ | refine And.intro vRepl ?_ | refine And.intro vReplL ?_ | refine And.intro ?_ ?_ | exact trivial) <;> try (conv => whnf))
      refine ints_congr ?_
      rw [show j = i from vAr]
      exact pasc_push (by rw [bin_self]; rfl)
  · exact congrArg dint (by rw [pasc_getD (by omega), show i = n by omega])
theorem c_binomialDivisor (n : Nat) {n' : Int} (hn : 1 ≤ n ∧ n ≤ 60) (h1 : n' = n) : PureCall Tryz.prog 395 [dint n'] (dint (gcdB n (n - 1) : Nat)) := by
  subst h1
  refine pure_of_vc Tryz.tabOk mixOrd Tryz.func395 rfl rfl ?_
  conv => whnf
  refine loop_at Tryz.tabOk mixOrd (α := Nat) (fun k => [(3, dint (gcdB n k : Nat)), (4, dint ((k : Int) + 1))]) (fun k => []) (fun k => k + 1 ≤ n) (fun k => n - k) (0) ?_ ?_ ?_
  · omega
  · conv => whnf
    first | refine WeakS.auto ?_ | refine Weak.auto ?_
    conv => whnf
    repeat' ((first | refine z1 ?_ | refine z2 ?_ | refine zV ?_ | refine And.intro vRepl ?_ | refine And.intro vReplL ?_ | refine And.intro ?_ ?_ | exact trivial) <;> try (conv => whnf))
  intro k hk
  conv => whnf
  have hg := gcdB_le n k
  have hb := bin_le n (k + 1)
  have h60 : 2 ^ n ≤ 2 ^ 60 := Nat.pow_le_pow_right (by omega) (by omega)
  repeat' first | ((first | refine z0 ?_ | (apply zI; refine zP (c_binomial n (k + 1) (by omega) (by omega) rfl vAr) ?_) | (apply zI; refine zP (c_gcd _ _ (by omega) (by omega)) ?_) | (refine And.intro (fun h => ?_) (fun h => ?_) <;> (try simp only [cnt1, ints_length] at h)) | refine zS ?_ | refine zV ?_ | (apply zI; refine zP vObt ?_) | (apply zI; refine zP vObx ?_) | refine zA ?_ | refine Alt.fst ?_ | refine Or.inl ?_) <;> conv => whnf) | fail
  · refine Exists.intro (k + 1) (And.intro vAr (And.intro vAr ?_))
    first | refine WeakS.auto ?_ | refine Weak.auto ?_
    conv => whnf
    repeat' ((first | refine z1 ?_ | refine z2 ?_ | refine zV ?_ | refine And.intro vRepl ?_ | refine And.intro vReplL ?_ | refine And.intro ?_ ?_ | exact trivial) <;> try (conv => whnf))
  · exact congrArg dint (by rw [show n - 1 = k by omega])
theorem c_l01Lazard (n : Nat) {n' : Int} (hn : 1 ≤ n ∧ n ≤ 60) (h1 : n' = n) : PureCall Tryz.prog 397 [dint n'] (dint (gcdB n (n - 1) : Nat)) := by
  subst h1
  refine pure_of_vc Tryz.tabOk mixOrd Tryz.func397 rfl rfl ?_
  conv => whnf
  refine loop_at Tryz.tabOk mixOrd (α := Nat) (fun k => [(3, dint (gcdB n k : Nat)), (4, dint ((k : Int) + 1))]) (fun k => []) (fun k => k + 1 ≤ n) (fun k => n - k) (0) ?_ ?_ ?_
  · omega
  · conv => whnf
    first | refine WeakS.auto ?_ | refine Weak.auto ?_
    conv => whnf
    repeat' ((first | refine z1 ?_ | refine z2 ?_ | refine zV ?_ | refine And.intro vRepl ?_ | refine And.intro vReplL ?_ | refine And.intro ?_ ?_ | exact trivial) <;> try (conv => whnf))
  intro k hk
  conv => whnf
  have hg := gcdB_le n k
  have hb := bin_le n (k + 1)
  have h60 : 2 ^ n ≤ 2 ^ 60 := Nat.pow_le_pow_right (by omega) (by omega)
  repeat' first | ((first | refine z0 ?_ | (apply zI; refine zP (c_l01Binomial' n (k + 1) (by omega) rfl vAr) ?_) | (apply zI; refine zP (c_l01Gcd _ _ (by omega) (by omega)) ?_) | (refine And.intro (fun h => ?_) (fun h => ?_) <;> (try simp only [cnt1, ints_length] at h)) | refine zS ?_ | refine zV ?_ | (apply zI; refine zP vObt ?_) | (apply zI; refine zP vObx ?_) | refine zA ?_ | refine Alt.fst ?_ | refine Or.inl ?_) <;> conv => whnf) | fail
  · refine Exists.intro (k + 1) (And.intro vAr (And.intro vAr ?_))
    first | refine WeakS.auto ?_ | refine Weak.auto ?_
    conv => whnf
    repeat' ((first | refine z1 ?_ | refine z2 ?_ | refine zV ?_ | refine And.intro vRepl ?_ | refine And.intro vReplL ?_ | refine And.intro ?_ ?_ | exact trivial) <;> try (conv => whnf))
  · exact congrArg dint (by rw [show n - 1 = k by omega])
theorem updB_rowT {n i a : Nat} {F : PS (PS (Zm m))} {g : PS (Zm m)} (hi : i < n) (ha : n - i ≤ a) : updB (rows true (Tb n F)) [i] (fun l => l.take 0 ++ ((ints (L a g)).take (min a (n - i)) ++ l.drop (min a (n - i)))) = rows true (Tb n (F.upd i g)) := by
  rw [updB_rows _ (by simpa using hi) _ (L (n - i) g), Tb_set F g hi]
  rw [Tb_getD F hi, Nat.min_eq_right ha, List.take_zero, List.nil_append, ints_take, ints_drop, ints_append, L_take g ha]
  rw [show (L (n - i) (F.c i)).drop (n - i) = [] from List.drop_eq_nil_of_le (by simp), List.append_nil]
theorem getB_rowT {n q : Nat} {F : PS (PS (Zm m))} (h : q < n) : getB (rows true (Tb n F)) ([] ++ [q]) = some (ints (L (n - q) (F.c q))) := by
  rw [List.nil_append, getB_rows (by simpa using h), Tb_getD F h]
theorem c_cut (o p : Bool) (n k : Nat) {d : Int} (hd : d + 1 = k) (hk : k ≤ n) (hn : n ≤ 100) (f : PS (PS (Zm m))) : PureCall Tryz.prog 263 [PlD m o p n f, dint d] (PlD m true true k f) := by
  refine pure_of_vc Tryz.tabOk mixOrd Tryz.func263 rfl rfl ?_
  conv => whnf
  repeat' first | ((first | refine z0 ?_ | (apply zI; refine zP (c_emptyPlane k vAr vAr) ?_) | (refine And.intro (fun h => ?_) (fun h => ?_) <;> (try simp only [cnt1, ints_length] at h)) | refine zS ?_ | refine zV ?_ | (apply zI; refine zP vObt ?_) | (apply zI; refine zP vObx ?_) | refine zA ?_ | refine Alt.fst ?_ | refine Or.inl ?_) <;> conv => whnf) | fail
  refine loop_at Tryz.tabOk mixOrd (α := Nat) (fun i => [(15, dint i)]) (fun i => [(3, some ⟨false, 1, rows true (Tb k (mix i f 0))⟩)]) (fun i => i ≤ k) (fun i => k - i) (0) ?_ ?_ ?_
  · omega
  · conv => whnf
    first | refine WeakS.auto ?_ | refine Weak.auto ?_
    conv => whnf
    repeat' ((first | refine z1 ?_ | refine z2 ?_ | refine zV ?_ | refine And.intro vRepl ?_ | refine And.intro vReplL ?_ | refine And.intro ?_ ?_ | exact trivial) <;> try (conv => whnf))
    all_goals rw [mix_zero]
  intro i hi
  conv => whnf
  repeat' first | ((first | refine z0 ?_ | (apply zI; refine zP (getB_rowT vAr) ?_) | (refine And.intro (fun h => ?_) (fun h => ?_) <;> (try simp only [cnt1, ints_length] at h)) | refine zS ?_ | refine zV ?_ | (apply zI; refine zP vObt ?_) | (apply zI; refine zP vObx ?_) | refine zA ?_ | refine Alt.fst ?_ | refine Or.inl ?_) <;> conv => whnf) | fail
  · refine Exists.intro (i + 1) (And.intro vAr (And.intro vAr ?_))
    first | refine WeakS.auto ?_ | refine Weak.auto ?_
    conv => whnf
    repeat' ((first | refine z1 ?_ | refine z2 ?_ | refine zV ?_ | refine And.intro vRepl ?_ | refine And.intro vReplL ?_ | refine And.intro ?_ ?_ | exact trivial) <;> try (conv => whnf))
    simp only [cnt1, ints_length, L_length, place1, Int.toNat_natCast, Nat.zero_add, List.nil_append]
    rw [← mix_rows]
    exact updB_rowT vAr vAr
  · refine plD_congr (Tb_congr (fun a b hab => ?_))
    have : k ≤ i := by simp only [rows_length, Tb_length] at *; omega
    rw [mix_c, if_pos (by omega)]
theorem c_copied (o p : Bool) (n : Nat) (hn : 1 ≤ n ∧ n ≤ 100) (f : PS (PS (Zm m))) : PureCall Tryz.prog 391 [PlD m o p n f] (PlD m true true n f) := by
  refine pure_of_vc Tryz.tabOk mixOrd Tryz.func391 rfl rfl ?_
  conv => whnf
  repeat' first | ((first | refine z0 ?_ | (apply zI; refine zP (c_degreeP _ _ _ vAr _) ?_) | (apply zI; refine zP (c_cut _ _ n n vAr vAr vAr _) ?_) | (refine And.intro (fun h => ?_) (fun h => ?_) <;> (try simp only [cnt1, ints_length] at h)) | refine zS ?_ | refine zV ?_ | (apply zI; refine zP vObt ?_) | (apply zI; refine zP vObx ?_) | refine zA ?_ | refine Alt.fst ?_ | refine Or.inl ?_) <;> conv => whnf) | fail
theorem c_onTop (hm : Md m) (o p o' : Bool) (n : Nat) (hn : 2 ≤ n ∧ n ≤ 50) (f : PS (PS (Zm m))) (l : List Int) (hl : l.length = n) (hb : ∀ i, i < n → 0 ≤ l.getD i 0 ∧ l.getD i 0 ≤ 4611686018427387904) : PureCall Tryz.prog 284 [PlD m o p n f, .list o' 1 (ints l), dint 1] (PlD m true true n (addTop f (n - 1) n (fun i => Zm.mk m (l.getD i 0)))) := by
  have hm1 := hm.1
  have hm2 := hm.2
  refine pure_of_vc Tryz.tabOk mixOrd Tryz.func284 rfl rfl ?_
  conv => whnf
  repeat' first | ((first | refine z0 ?_ | (apply zI; refine zP (c_copied _ _ n vAr _) ?_) | (apply zI; refine zP (c_degreeP _ _ _ vAr _) ?_) | (refine And.intro (fun h => ?_) (fun h => ?_) <;> (try simp only [cnt1, ints_length] at h)) | refine zS ?_ | refine zV ?_ | (apply zI; refine zP vObt ?_) | (apply zI; refine zP vObx ?_) | refine zA ?_ | refine Alt.fst ?_ | refine Or.inl ?_) <;> conv => whnf) | fail
  refine loop_at Tryz.tabOk mixOrd (α := Nat) (fun i => [(17, dint i)]) (fun i => [(3, some ⟨false, 1, rows true (Tb n (addTop f (n - 1) i (fun i => Zm.mk m (l.getD i 0))))⟩)]) (fun i => i ≤ n) (fun i => n - i) (0) ?_ ?_ ?_
  · omega
  · conv => whnf
    first | refine WeakS.auto ?_ | refine Weak.auto ?_
    conv => whnf
    repeat' ((first | refine z1 ?_ | refine z2 ?_ | refine zV ?_ | refine And.intro vRepl ?_ | refine And.intro vReplL ?_ | refine And.intro ?_ ?_ | exact trivial) <;> try (conv => whnf))
    all_goals rw [addTop_zero]
  intro i hi
  conv => whnf
  have he := Int.emod_nonneg (l.getD i 0) (show m ≠ 0 by omega)
  have he2 := Int.emod_lt_of_pos (l.getD i 0) (show 0 < m by omega)
  have hz := Zm.val_range hm.pos (((addTop f (n - 1) i (fun i => Zm.mk m (l.getD i 0))).c i).c ((n : Int) - 1 - i).toNat)
  have hbi : i < n → 0 ≤ l.getD i 0 ∧ l.getD i 0 ≤ 4611686018427387904 := hb i
  repeat' first | ((first | refine z0 ?_ | (apply zI; refine zP (c_mod _ _ hm.pos (by omega)) ?_) | (refine And.intro (fun h => ?_) (fun h => ?_) <;> (try simp only [cnt1, ints_length] at h)) | refine zS ?_ | refine zV ?_ | (apply zI; refine zP vObt ?_) | (apply zI; refine zP vObx ?_) | refine zA ?_ | refine Alt.fst ?_ | refine Or.inl ?_) <;> conv => whnf) | fail
  · have hi' : i < n := by omega
    refine Exists.intro (i + 1) (And.intro vAr (And.intro vAr ?_))
    first | refine WeakS.auto ?_ | refine Weak.auto ?_
    conv => whnf
    repeat' ((first | refine z1 ?_ | refine z2 ?_ | refine zV ?_ | refine And.intro vRepl ?_ | refine And.intro vReplL ?_ | refine And.intro ?_ ?_ | exact trivial) <;> try (conv => whnf))
    rw [show ((n : Int) - 1 - i).toNat = n - 1 - i by omega]
    refine rows_congr (setT_eq (((addTop f (n - 1) i (fun i => Zm.mk m (l.getD i 0))).c i).c (n - 1 - i) + Zm.mk m (l.getD i 0)) (Zm.emod_val ?_) (by omega) (Ag2.of_eq (addTop_step f (fun i => Zm.mk m (l.getD i 0)) (by omega))))
    rw [Zm.mk_add, Zm.mk_val, Int.one_mul, Zm.mk_mod]
  · rw [show i = n by omega]
def lazL (n : Nat) : List Int := (List.range (n + 1)).map fun i => (lazV n i : Int)
def lazP (n k : Nat) : List Int := (List.range (n + 1)).map fun i => if i < k then (lazV n i : Int) else 0
theorem lazP_one (n : Nat) : lazP n (0 + 1) = List.replicate (n + 1) 0 := by
  refine List.ext_getElem (by simp [lazP]) (fun i h1 h2 => ?_)
  simp only [lazP, List.getElem_map, List.getElem_range, List.getElem_replicate]
  split
  · rw [show i = 0 by omega]; rfl
  · rfl
theorem lazP_full (n : Nat) : lazP n n = lazL n := by
  refine List.map_congr_left (fun i hi => ?_)
  split
  · rfl
  · have : i = n := by simp at hi; omega
    subst this
    unfold lazV
    rw [if_neg (by omega)]; rfl
theorem lazP_set {n i : Nat} {x : Int} (h : i ≤ n) (hx : x = (lazV n i : Int)) : (lazP n i).set i x = lazP n (i + 1) := by
  subst hx
  refine List.ext_getElem (by simp [lazP]) (fun k h1 h2 => ?_)
  rw [List.getElem_set]
  simp only [lazP, List.getElem_map, List.getElem_range]
  by_cases e : i = k
  · subst e; rw [if_pos rfl, if_pos (by omega)]
  · rw [if_neg e]
    by_cases e2 : k < i
    · rw [if_pos e2, if_pos (by omega)]
    · rw [if_neg e2, if_neg (by omega)]
theorem laz_div {n i : Nat} (h : i + 1 < n) : ((bin n (i + 1) : Nat) : Int).tdiv ((gcdB n (n - 1) : Nat) : Int) = ((lazV n (i + 1) : Nat) : Int) := by
  unfold lazV
  rw [if_pos (by omega), Int.tdiv_eq_ediv_of_nonneg (by omega)]; rfl
theorem c_lazard (n : Nat) {n' : Int} (hn : 2 ≤ n ∧ n ≤ 40) (h1 : n' = n) : PureCall Tryz.prog 293 [dint n'] (.list true 1 (ints (lazL n))) := by
  subst h1
  refine pure_of_vc Tryz.tabOk mixOrd Tryz.func293 rfl rfl ?_
  conv => whnf
  repeat' first | ((first | refine z0 ?_ | (apply zI; refine zP (c_binomialDivisor n vAr rfl) ?_) | (refine And.intro (fun h => ?_) (fun h => ?_) <;> (try simp only [cnt1, ints_length] at h)) | refine zS ?_ | refine zV ?_ | (apply zI; refine zP vObt ?_) | (apply zI; refine zP vObx ?_) | refine zA ?_ | refine Alt.fst ?_ | refine Or.inl ?_) <;> conv => whnf) | fail
  refine loop_at Tryz.tabOk mixOrd (α := Nat) (fun i => [(5, dint ((i : Int) + 1))]) (fun i => [(1, some ⟨false, 1, ints (lazP n (i + 1))⟩)]) (fun i => i + 1 ≤ n) (fun i => n - i) (0) ?_ ?_ ?_
  · omega
  · conv => whnf
    first | refine WeakS.auto ?_ | refine Weak.auto ?_
    conv => whnf
    repeat' ((first | refine z1 ?_ | refine z2 ?_ | refine zV ?_ | refine And.intro vRepl ?_ | refine And.intro vReplL ?_ | refine And.intro ?_ ?_ | exact trivial) <;> try (conv => whnf))
    all_goals rw [lazP_one]
  intro i hi
  conv => whnf
  have hd : ((gcdB n (n - 1) : Nat) : Int) ≠ 0 := by have := gcdB_pos (n := n) (k := n - 1) (by omega) (by omega); omega
  have hle := lazV_le n (i + 1)
  have h60 : 2 ^ n ≤ 2 ^ 40 := Nat.pow_le_pow_right (by omega) (by omega)
  repeat' first | ((first | refine z0 ?_ | (apply zI; refine zP (c_binomial n (i + 1) vAr vAr rfl vAr) ?_) | (apply zI; refine zP (vStore _ vIx (by simp [lazP]; omega)) ?_) | (refine And.intro (fun h => ?_) (fun h => ?_) <;> (try simp only [cnt1, ints_length] at h)) | refine zS ?_ | refine zV ?_ | (apply zI; refine zP vObt ?_) | (apply zI; refine zP vObx ?_) | refine zA ?_ | refine Alt.fst ?_ | refine Or.inl ?_) <;> conv => whnf) | fail
  · rw [laz_div (by omega)]
    repeat' first | ((first | refine z0 ?_ | (apply zI; refine zP (vStore _ vIx (by simp [lazP]; omega)) ?_) | (refine And.intro (fun h => ?_) (fun h => ?_) <;> (try simp only [cnt1, ints_length] at h)) | refine zS ?_ | refine zV ?_ | (apply zI; refine zP vObt ?_) | (apply zI; refine zP vObx ?_) | refine zA ?_ | refine Alt.fst ?_ | refine Or.inl ?_) <;> conv => whnf) | fail
    refine Exists.intro (i + 1) (And.intro vAr (And.intro vAr ?_))
    first | refine WeakS.auto ?_ | refine Weak.auto ?_
    conv => whnf
    repeat' ((first | refine z1 ?_ | refine z2 ?_ | refine zV ?_ | refine And.intro vRepl ?_ | refine And.intro vReplL ?_ | refine And.intro ?_ ?_ | exact trivial) <;> try (conv => whnf))
    exact ints_congr (lazP_set (by omega) rfl)
  · refine And.intro (by simp [lazP]) ?_
    conv => whnf
    repeat' first | ((first | refine z0 ?_ | (refine And.intro (fun h => ?_) (fun h => ?_) <;> (try simp only [cnt1, ints_length] at h)) | refine zS ?_ | refine zV ?_ | (apply zI; refine zP vObt ?_) | (apply zI; refine zP vObx ?_) | refine zA ?_ | refine Alt.fst ?_ | refine Or.inl ?_) <;> conv => whnf) | fail
    rw [show i + 1 = n by omega, lazP_full]
theorem c_l07Cocycle (hm : Md m) (n : Nat) {n' : Int} (hn : 2 ≤ n ∧ n ≤ 40) (h1 : n' = n) : PureCall Tryz.prog 297 [dint m, dint n'] (TbD true true (n + 1) (topP n (fun i => Zm.mk m (lazV n i)))) := by
  subst h1
  refine pure_of_vc Tryz.tabOk mixOrd Tryz.func297 rfl rfl ?_
  conv => whnf
  repeat' first | ((first | refine z0 ?_ | (apply zI; refine zP (c_l03Zero (m := m) (n + 1) vAr vAr) ?_) | (apply zI; refine zP (c_l01Lazard n vAr rfl) ?_) | (refine And.intro (fun h => ?_) (fun h => ?_) <;> (try simp only [cnt1, ints_length] at h)) | refine zS ?_ | refine zV ?_ | (apply zI; refine zP vObt ?_) | (apply zI; refine zP vObx ?_) | refine zA ?_ | refine Alt.fst ?_ | refine Or.inl ?_) <;> conv => whnf) | fail
  refine loop_at Tryz.tabOk mixOrd (α := Nat) (fun i => [(7, dint ((i : Int) + 1))]) (fun i => [(0, some ⟨false, 1, rows true (Tb (n + 1) (addTop 0 n (i + 1) (fun i => Zm.mk m (lazV n i))))⟩)]) (fun i => i + 1 ≤ n) (fun i => n - i) (0) ?_ ?_ ?_
  · omega
  · conv => whnf
    first | refine WeakS.auto ?_ | refine Weak.auto ?_
    conv => whnf
    repeat' ((first | refine z1 ?_ | refine z2 ?_ | refine zV ?_ | refine And.intro vRepl ?_ | refine And.intro vReplL ?_ | refine And.intro ?_ ?_ | exact trivial) <;> try (conv => whnf))
    all_goals exact rows_congr (Tb_congr (fun a b hab => by
      rw [addTop_cc]; split
      · rename_i h; rw [show a = 0 by omega]; exact (Go.Fg.add_zero _).symm
      · rfl))
  intro i hi
  conv => whnf
  have hd : ((gcdB n (n - 1) : Nat) : Int) ≠ 0 := by have := gcdB_pos (n := n) (k := n - 1) (by omega) (by omega); omega
  have hle := lazV_le n (i + 1)
  have h60 : 2 ^ n ≤ 2 ^ 40 := Nat.pow_le_pow_right (by omega) (by omega)
  have hz := Zm.val_range hm.pos (((addTop (0 : PS (PS (Zm m))) n (i + 1) (fun i => Zm.mk m (lazV n i))).c (i + 1)).c (n - (i + 1)))
  repeat' first | ((first | refine z0 ?_ | (apply zI; refine zP (c_l01Binomial' n (i + 1) vAr rfl vAr) ?_) | (refine And.intro (fun h => ?_) (fun h => ?_) <;> (try simp only [cnt1, ints_length] at h)) | refine zS ?_ | refine zV ?_ | (apply zI; refine zP vObt ?_) | (apply zI; refine zP vObx ?_) | refine zA ?_ | refine Alt.fst ?_ | refine Or.inl ?_) <;> conv => whnf) | fail
  · rw [laz_div (by omega)]
    repeat' first | ((first | refine z0 ?_ | (refine And.intro (fun h => ?_) (fun h => ?_) <;> (try simp only [cnt1, ints_length] at h)) | refine zS ?_ | refine zV ?_ | (apply zI; refine zP vObt ?_) | (apply zI; refine zP vObx ?_) | refine zA ?_ | refine Alt.fst ?_ | refine Or.inl ?_) <;> conv => whnf) | fail
    refine Exists.intro (i + 1) (And.intro vAr (And.intro vAr ?_))
    first | refine WeakS.auto ?_ | refine Weak.auto ?_
    conv => whnf
    repeat' ((first | refine z1 ?_ | refine z2 ?_ | refine zV ?_ | refine And.intro vRepl ?_ | refine And.intro vReplL ?_ | refine And.intro ?_ ?_ | exact trivial) <;> try (conv => whnf))
    rw [show ((n : Int) - ((i : Int) + 1)).toNat = n - (i + 1) by omega]
    have h0 : ((addTop (0 : PS (PS (Zm m))) n (i + 1) (fun i => Zm.mk m (lazV n i))).c (i + 1)).c (n - (i + 1)) = 0 := by rw [addTop_cc, if_neg (by omega)]; rfl
    refine rows_congr (setT_eq (((addTop (0 : PS (PS (Zm m))) n (i + 1) (fun i => Zm.mk m (lazV n i))).c (i + 1)).c (n - (i + 1)) + Zm.mk m (lazV n (i + 1))) ?_ (by omega) (Ag2.of_eq (addTop_step 0 (fun i => Zm.mk m (lazV n i)) (by omega))))
    rw [h0, CR.zero_add]
    exact Zm.tmod_val (by omega) rfl
  · refine tbD_congr (Tb_congr (fun a b hab => ?_))
    rw [addTop_cc, topP_cc]
    by_cases h : a + b = n
    · rw [if_pos h]
      by_cases h2 : a < i + 1
      · rw [if_pos ⟨h, h2⟩]; exact CR.zero_add _
      · rw [if_neg (by omega), show a = n by omega]
        show (0 : Zm m) = Zm.mk m (lazV n n)
        unfold lazV
        rw [if_neg (by omega)]; rfl
    · rw [if_neg (by omega), if_neg h]; rfl
def lazCode (m n : Int) : Int := if inB m 2 10000 then (if inB n 2 10 then 0 else 2) else 1
def zplD : D := .agg [dint 0, .lit (.slice none 0 0)]
def plRes (m : Int) (n : Nat) (a : PS (PS (Zm m))) (code : Int) : D := if code = 0 then .tup [PlD m true true n a, dint 0] else .tup [zplD, dint code]
theorem plRes_no {n : Nat} {a : PS (PS (Zm m))} {c c' : Int} (h : c' ≠ 0) (e : c' = c) : D.tup [zplD, dint c'] = plRes m n a c := by
  subst e; rw [plRes, if_neg h]
theorem plRes_yes {n : Nat} {a b : PS (PS (Zm m))} {c : Int} (h : c = 0) (e : Ag2 n a b) : D.tup [PlD m true true n a, dint 0] = plRes m n b c := by
  subst h; rw [plRes, if_pos rfl, PlD, PlD, Tb_congr e]
theorem md_of {m : Int} (h : inB m 2 10000 = true) : Md m := by simpa [inB, Md] using h
theorem lazL_getD {n i : Nat} (h : i ≤ n) : (lazL n).getD i 0 = (lazV n i : Int) := by simp [lazL, show i < n + 1 by omega]
theorem c_implLazardCocycle (m n : Int) : PureCall Tryz.prog 97 [dint m, dint n] (plRes m (n.toNat + 1) (topP n.toNat (fun i => Zm.mk m (lazV n.toNat i))) (lazCode m n)) := by
  refine pure_of_vc Tryz.tabOk mixOrd Tryz.func97 rfl rfl ?_
  conv => whnf
  repeat' first | ((first | refine z0 ?_ | (apply zI; refine zP (c_IsModulus _) ?_) | (apply zI; refine zP (c_impl_in _ _ _) ?_) | (refine And.intro (fun h => ?_) (fun h => ?_) <;> (try simp only [cnt1, ints_length] at h)) | refine zS ?_ | refine zV ?_ | (apply zI; refine zP vObt ?_) | (apply zI; refine zP vObx ?_) | refine zA ?_ | refine Alt.fst ?_ | refine Or.inl ?_) <;> conv => whnf) | fail
  · have hm := md_of (m := m) (by assumption)
    have hb : inB n 2 10 = true := by assumption
    simp only [inB, decide_eq_true_eq] at hb
    obtain ⟨n, rfl⟩ := Int.eq_ofNat_of_zero_le (show 0 ≤ n by omega)
    have hlb : ∀ i, i < n + 1 → 0 ≤ (lazL n).getD i 0 ∧ (lazL n).getD i 0 ≤ 4611686018427387904 := fun i hi => by
      rw [lazL_getD (by omega)]
      have := lazV_le n i
      have h60 : 2 ^ n ≤ 2 ^ 40 := Nat.pow_le_pow_right (by omega) (by omega)
      omega
    repeat' first | ((first | refine z0 ?_ | (apply zI; refine zP (c_emptyPlane (n + 1) vAr vAr) ?_) | (apply zI; refine zP (c_lazard n vAr rfl) ?_) | (apply zI; refine zP (c_onTop hm _ _ _ (n + 1) vAr _ (lazL n) (by simp [lazL]) hlb) ?_) | (refine And.intro (fun h => ?_) (fun h => ?_) <;> (try simp only [cnt1, ints_length] at h)) | refine zS ?_ | refine zV ?_ | (apply zI; refine zP vObt ?_) | (apply zI; refine zP vObx ?_) | refine zA ?_ | refine Alt.fst ?_ | refine Or.inl ?_) <;> conv => whnf) | fail
    refine plRes_yes (by unfold lazCode; simp_all) (fun a b hab => ?_)
    rw [addTop_cc, Int.toNat_natCast, topP_cc]
    by_cases h : a + b = n
    · rw [if_pos h, if_pos (by omega), lazL_getD (by omega)]; exact CR.zero_add _
    · rw [if_neg h, if_neg (by omega)]; rfl
  · exact plRes_no (by omega) (by unfold lazCode; simp_all)
  · exact plRes_no (by omega) (by unfold lazCode; simp_all)
theorem mk_l03Make : MakesAgg Tryz.prog 224 := fun m b n c => by
  refine pure_of_vc Tryz.tabOk mixOrd Tryz.func224 rfl rfl ?_
  conv => whnf
  repeat' first | ((first | refine z0 ?_ | (refine And.intro (fun h => ?_) (fun h => ?_) <;> (try simp only [cnt1, ints_length] at h)) | refine zS ?_ | refine zV ?_ | (apply zI; refine zP vObt ?_) | (apply zI; refine zP vObx ?_) | refine zA ?_ | refine Alt.fst ?_ | refine Or.inl ?_) <;> conv => whnf) | fail
theorem c_specLazardCocycle (m n : Int) : PureCall Tryz.prog 101 [dint m, dint n] (plRes m (n.toNat + 1) (topP n.toNat (fun i => Zm.mk m (lazV n.toNat i))) (lazCode m n)) := by
  refine pure_of_vc Tryz.tabOk mixOrd Tryz.func101 rfl rfl ?_
  conv => whnf
  repeat' first | ((first | refine z0 ?_ | (apply zI; refine zP (c_l01Modulus _) ?_) | (apply zI; refine zP (c_l01In _ _ _) ?_) | (refine And.intro (fun h => ?_) (fun h => ?_) <;> (try simp only [cnt1, ints_length] at h)) | refine zS ?_ | refine zV ?_ | (apply zI; refine zP vObt ?_) | (apply zI; refine zP vObx ?_) | refine zA ?_ | refine Alt.fst ?_ | refine Or.inl ?_) <;> conv => whnf) | fail
  · have hm := md_of (m := m) (by assumption)
    have hb : inB n 2 10 = true := by assumption
    simp only [inB, decide_eq_true_eq] at hb
    obtain ⟨n, rfl⟩ := Int.eq_ofNat_of_zero_le (show 0 ≤ n by omega)
    repeat' first | ((first | refine z0 ?_ | (apply zI; refine zP (c_l07Cocycle hm n vAr rfl) ?_) | refine Or.inl (Or.inr (And.intro (mk_l03Make) ?_)) | refine Or.inr (And.intro (mk_l03Make) ?_) | (refine And.intro (fun h => ?_) (fun h => ?_) <;> (try simp only [cnt1, ints_length] at h)) | refine zS ?_ | refine zV ?_ | (apply zI; refine zP vObt ?_) | (apply zI; refine zP vObx ?_) | refine zA ?_ | refine Alt.fst ?_ | refine Or.inl ?_) <;> conv => whnf) | fail
    exact plRes_yes (by unfold lazCode; simp_all) Ag2.rfl
  · exact plRes_no (by omega) (by unfold lazCode; simp_all)
  · exact plRes_no (by omega) (by unfold lazCode; simp_all)
end Go.Proofs

