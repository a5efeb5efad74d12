/- Cocycles. -/
-- tables
import Derived.Test.YtocnfkphpmolkaaGreatK16
import Derived.Test.YtocnfkphpmolkaaGreatKP
namespace Go.Proofs
open Go Go.Vm Go.Fg Go.Fg.PS
set_option maxRecDepth 100000
set_option maxHeartbeats 4000000
set_option linter.unusedSimpArgs false
set_option linter.unusedVariables false
variable {m : Int}
open Classical in
noncomputable def tr (p : Prop) : Bool := decide p
theorem tr_yes {p : Prop} (h : p) : tr p = true := by simp [tr, h]
theorem tr_no {p : Prop} (h : ¬ p) : tr p = false := by simp [tr, h]
def tpc (f : PS (PS (Zm m))) (n i : Nat) : Zm m := (f.c i).c (n - i)
def cocR (f : PS (PS (Zm m))) (n a b : Nat) : Prop := Zm.mk m (bin (a + b) a) * tpc f n (a + b) = Zm.mk m (bin (n - a) b) * tpc f n a
def CocP (f : PS (PS (Zm m))) (n : Nat) : Prop :=
  2 ≤ n ∧ (∀ i j, i + j < n → (f.c i).c j = 0) ∧ (∀ i, i ≤ n → tpc f n i = tpc f n (n - i)) ∧ tpc f n 0 = 0 ∧ ∀ a b, 1 ≤ a → 1 ≤ b → a + b < n → cocR f n a b
theorem tmod_sub_zero {a b : Int} : (a - b).tmod m = 0 ↔ Zm.mk m a = Zm.mk m b := by
  rw [Zm.mk_eq]
  constructor
  · intro h
    have h1 : m ∣ a - b := Int.dvd_of_tmod_eq_zero h
    exact Int.emod_eq_emod_iff_emod_sub_eq_zero.2 (Int.emod_eq_zero_of_dvd h1)
  · intro h
    exact Int.tmod_eq_zero_of_dvd (Int.dvd_of_emod_eq_zero (Int.emod_eq_emod_iff_emod_sub_eq_zero.1 h))
def topS (f : PS (PS (Zm m))) (N : Nat) : PS (Zm m) := ⟨fun i => tpc f (N - 1) i⟩
theorem c_top (o p : Bool) (N : Nat) (hN : 2 ≤ N ∧ N ≤ 11) (f : PS (PS (Zm m))) : PureCall Tryz.prog 121 [PlD m o p N f] (.list true 1 (ints (L N (topS f N)))) := by
  refine pure_of_vc Tryz.tabOk mixOrd Tryz.func121 rfl rfl ?_
  conv => whnf
  repeat' first | ((first | refine And.intro (Or.inl rfl) ?_ | (apply Exists.intro; refine And.intro (c_degreeP _ _ _ vAr _) ?_) | (refine And.intro (fun h => ?_) (fun h => ?_) <;> (try simp only [cnt1, ints_length] at h)) | refine And.intro (show slotsOk _ = true by decide +kernel) ?_ | refine And.intro vOb ?_ | (apply Exists.intro; refine And.intro vObt ?_) | (apply Exists.intro; refine And.intro vObx ?_) | refine And.intro vArT ?_ | refine Alt.fst ?_ | refine Or.inl ?_) <;> conv => whnf) | fail
  refine loop_at Tryz.tabOk mixOrd (α := Nat) (fun i => [(11, dint i), (3, .ref 1 [] 1 0 i), (6, .undef)]) (fun i => [(1, some ⟨false, 1, ints (L i (topS f N))⟩)]) (fun i => i ≤ N) (fun i => N - i) (0) ?_ ?_ ?_
  · omega
  · conv => whnf
    first | refine WeakS.auto ?_ | refine Weak.auto ?_
    conv => whnf
    repeat' ((first | refine And.intro rfl ?_ | refine And.intro (eqV_int vAr) ?_ | refine And.intro vOb ?_ | refine And.intro vRepl ?_ | refine And.intro vReplL ?_ | refine And.intro ?_ ?_ | exact trivial) <;> try (conv => whnf))
  intro i hi
  conv => whnf
  repeat' first | ((first | refine And.intro (Or.inl rfl) ?_ | (refine And.intro (fun h => ?_) (fun h => ?_) <;> (try simp only [cnt1, ints_length] at h)) | refine And.intro (show slotsOk _ = true by decide +kernel) ?_ | refine And.intro vOb ?_ | (apply Exists.intro; refine And.intro vObt ?_) | (apply Exists.intro; refine And.intro vObx ?_) | refine And.intro vArT ?_ | refine Alt.fst ?_ | refine Or.inl ?_) <;> conv => whnf) | fail
  · refine Exists.intro (i + 1) (And.intro vAr (And.intro vAr ?_))
    first | refine WeakS.auto ?_ | refine Weak.auto ?_
    conv => whnf
    repeat' ((first | refine And.intro rfl ?_ | refine And.intro (eqV_int vAr) ?_ | refine And.intro vOb ?_ | refine And.intro vRepl ?_ | refine And.intro vReplL ?_ | refine And.intro ?_ ?_ | exact trivial) <;> try (conv => whnf))
    refine ints_congr (L_push ?_)
    rw [show ((N : Int) - 1 - i).toNat = N - 1 - i by omega]; rfl
  · rw [show i = N by omega]
theorem c_turned1 (o p : Bool) (n : Nat) (hn : 1 ≤ n ∧ n ≤ 100) (f : PS (PS (Zm m))) (i j : Nat) (h : i + j < n) : PureCall Tryz.prog 217 [dint i, dint j, .cptr [dint m, .list o 1 (rows p (Tb n f))] 0] (dint ((f.c j).c i).val) := by
  refine pure_of_vc Tryz.tabOk mixOrd Tryz.func217 rfl rfl ?_
  conv => whnf
  repeat' first | ((first | refine And.intro (Or.inl rfl) ?_ | (refine And.intro (fun h => ?_) (fun h => ?_) <;> (try simp only [cnt1, ints_length] at h)) | refine And.intro (show slotsOk _ = true by decide +kernel) ?_ | refine And.intro vOb ?_ | (apply Exists.intro; refine And.intro vObt ?_) | (apply Exists.intro; refine And.intro vObx ?_) | refine And.intro vArT ?_ | refine Alt.fst ?_ | refine Or.inl ?_) <;> conv => whnf) | fail
  all_goals rfl
theorem c_turned (hm : Md m) (o p : Bool) (n : Nat) (hn : 1 ≤ n ∧ n ≤ 100) (f : PS (PS (Zm m))) : PureCall Tryz.prog 138 [PlD m o p n f] (PlD m true true n (pl fun i j => (f.c j).c i)) := by
  refine pure_of_vc Tryz.tabOk mixOrd Tryz.func138 rfl rfl ?_
  conv => whnf
  repeat' first | ((first | refine And.intro (Or.inl rfl) ?_ | (apply Exists.intro; refine And.intro (c_mapped1 hm _ _ n hn (fun i j => ((f.c j).c i).val) (fun i j h => c_turned1 _ _ n hn f i j h) _ _ f) ?_) | (refine And.intro (fun h => ?_) (fun h => ?_) <;> (try simp only [cnt1, ints_length] at h)) | refine And.intro (show slotsOk _ = true by decide +kernel) ?_ | refine And.intro vOb ?_ | (apply Exists.intro; refine And.intro vObt ?_) | (apply Exists.intro; refine And.intro vObx ?_) | refine And.intro vArT ?_ | refine Alt.fst ?_ | refine Or.inl ?_) <;> conv => whnf) | fail
  refine plD_congr (Tb_congr (fun i j hij => ?_))
  rw [pl_c, pl_c, Zm.mk_val]
theorem c_slEqual (o o' : Bool) (l l' : List Int) (hl : l.length ≤ 1048576) : PureCall Tryz.prog 216 [.list o 1 (ints l), .list o' 1 (ints l')] (dbool (decide (l = l'))) := by
  refine pure_of_vc Tryz.tabOk mixOrd Tryz.func216 rfl rfl ?_
  conv => whnf
  repeat' first | ((first | refine And.intro (Or.inl rfl) ?_ | (refine And.intro (fun h => ?_) (fun h => ?_) <;> (try simp only [cnt1, ints_length] at h)) | refine And.intro (show slotsOk _ = true by decide +kernel) ?_ | refine And.intro vOb ?_ | (apply Exists.intro; refine And.intro vObt ?_) | (apply Exists.intro; refine And.intro vObx ?_) | refine And.intro vArT ?_ | refine Alt.fst ?_ | refine Or.inl ?_) <;> conv => whnf) | fail
  · refine dbool_congr ?_
    rw [eq_comm, decide_eq_false_iff_not]
    intro e; subst e; simp_all
  refine loop_at Tryz.tabOk mixOrd (α := Nat) (fun i => [(13, dint i)]) (fun i => []) (fun i => i ≤ l.length ∧ ∀ j, j < i → l.getD j 0 = l'.getD j 0) (fun i => l.length - i) (0) ?_ ?_ ?_
  · exact ⟨by omega, by omega⟩
  · conv => whnf
    first | refine WeakS.auto ?_ | refine Weak.auto ?_
    conv => whnf
    repeat' ((first | refine And.intro rfl ?_ | refine And.intro (eqV_int vAr) ?_ | refine And.intro vOb ?_ | refine And.intro vRepl ?_ | refine And.intro vReplL ?_ | refine And.intro ?_ ?_ | exact trivial) <;> try (conv => whnf))
  intro i hi
  conv => whnf
  repeat' first | ((first | refine And.intro (Or.inl rfl) ?_ | (refine And.intro (fun h => ?_) (fun h => ?_) <;> (try simp only [cnt1, ints_length] at h)) | refine And.intro (show slotsOk _ = true by decide +kernel) ?_ | refine And.intro vOb ?_ | (apply Exists.intro; refine And.intro vObt ?_) | (apply Exists.intro; refine And.intro vObx ?_) | refine And.intro vArT ?_ | refine Alt.fst ?_ | refine Or.inl ?_) <;> conv => whnf) | fail
  · exact dbool_congr (by rw [eq_comm, decide_eq_false_iff_not]; intro e; subst e; simp_all)
  · refine Exists.intro (i + 1) (And.intro ⟨by omega, lt_cases hi.2 (by omega)⟩ (And.intro (by omega) ?_))
    first | refine WeakS.auto ?_ | refine Weak.auto ?_
    conv => whnf
    repeat' ((first | refine And.intro rfl ?_ | refine And.intro (eqV_int vAr) ?_ | refine And.intro vOb ?_ | refine And.intro vRepl ?_ | refine And.intro vReplL ?_ | refine And.intro ?_ ?_ | exact trivial) <;> try (conv => whnf))
  · refine dbool_congr ?_
    rw [eq_comm, decide_eq_true_iff]
    refine List.ext_getElem (by omega) (fun j k1 k2 => ?_)
    have := hi.2 j (by omega)
    simpa [k1, k2] using this
theorem c_same1 (o o' : Bool) (l l' : List Int) (hl : l.length ≤ 1048576) : PureCall Tryz.prog 215 [.list o 1 (ints l), .list o' 1 (ints l')] (dbool (decide (l = l'))) := by
  refine pure_of_vc Tryz.tabOk mixOrd Tryz.func215 rfl rfl ?_
  conv => whnf
  repeat' first | ((first | refine And.intro (Or.inl rfl) ?_ | (apply Exists.intro; refine And.intro (c_slEqual _ _ _ _ hl) ?_) | (refine And.intro (fun h => ?_) (fun h => ?_) <;> (try simp only [cnt1, ints_length] at h)) | refine And.intro (show slotsOk _ = true by decide +kernel) ?_ | refine And.intro vOb ?_ | (apply Exists.intro; refine And.intro vObt ?_) | (apply Exists.intro; refine And.intro vObx ?_) | refine And.intro vArT ?_ | refine Alt.fst ?_ | refine Or.inl ?_) <;> conv => whnf) | fail
  all_goals (refine dbool_congr ?_; first | rfl | (simp_all []; done) | (simp_all []; omega) | (simp_all []; intros; omega))
theorem c_EqualFunc (o o' p p' : Bool) (t t' : List (List Int)) (hl : t.length ≤ 1048576) (hr : lensOk t) : PureCall Tryz.prog 214 [.list o 1 (rows p t), .list o' 1 (rows p' t'), .fn (.func 215) [] []] (dbool (decide (t = t'))) := by
  refine pure_of_vc Tryz.tabOk mixOrd Tryz.func214 rfl rfl ?_
  conv => whnf
  repeat' first | ((first | refine And.intro (Or.inl rfl) ?_ | (refine And.intro (fun h => ?_) (fun h => ?_) <;> (try simp only [cnt1, ints_length] at h)) | refine And.intro (show slotsOk _ = true by decide +kernel) ?_ | refine And.intro vOb ?_ | (apply Exists.intro; refine And.intro vObt ?_) | (apply Exists.intro; refine And.intro vObx ?_) | refine And.intro vArT ?_ | refine Alt.fst ?_ | refine Or.inl ?_) <;> conv => whnf) | fail
  · refine dbool_congr ?_
    rw [eq_comm, decide_eq_false_iff_not]
    intro e; subst e; simp_all
  · have hlen : t.length = t'.length := by simp only [rows_length] at *; omega
    refine loop_at Tryz.tabOk mixOrd (α := Nat) (fun i => [(17, dint i)]) (fun i => []) (fun i => i ≤ t.length ∧ ∀ j, j < i → t.getD j [] = t'.getD j []) (fun i => t.length - i) (0) ?_ ?_ ?_
    · exact ⟨by omega, by omega⟩
    · conv => whnf
      first | refine WeakS.auto ?_ | refine Weak.auto ?_
      conv => whnf
      repeat' ((first | refine And.intro rfl ?_ | refine And.intro (eqV_int vAr) ?_ | refine And.intro vOb ?_ | refine And.intro vRepl ?_ | refine And.intro vReplL ?_ | refine And.intro ?_ ?_ | exact trivial) <;> try (conv => whnf))
    intro i hi
    conv => whnf
    repeat' first | ((first | refine And.intro (Or.inl rfl) ?_ | (apply Exists.intro; refine And.intro (c_same1 _ _ _ _ (hr i vAr)) ?_) | (refine And.intro (fun h => ?_) (fun h => ?_) <;> (try simp only [cnt1, ints_length] at h)) | refine And.intro (show slotsOk _ = true by decide +kernel) ?_ | refine And.intro vOb ?_ | (apply Exists.intro; refine And.intro vObt ?_) | (apply Exists.intro; refine And.intro vObx ?_) | refine And.intro vArT ?_ | refine Alt.fst ?_ | refine Or.inl ?_) <;> conv => whnf) | fail
    · refine Exists.intro (i + 1) (And.intro ⟨vAr, lt_cases hi.2 (of_decide_eq_true (by assumption))⟩ (And.intro vAr ?_))
      first | refine WeakS.auto ?_ | refine Weak.auto ?_
      conv => whnf
      repeat' ((first | refine And.intro rfl ?_ | refine And.intro (eqV_int vAr) ?_ | refine And.intro vOb ?_ | refine And.intro vRepl ?_ | refine And.intro vReplL ?_ | refine And.intro ?_ ?_ | exact trivial) <;> try (conv => whnf))
    · refine dbool_congr ?_
      rw [eq_comm, decide_eq_false_iff_not]
      intro e; subst e
      have := of_decide_eq_false (by assumption)
      exact this rfl
    · refine dbool_congr ?_
      rw [eq_comm, decide_eq_true_iff]
      exact eqT_of hlen (fun j hj => hi.2 j vAr)
theorem c_sameP (o o' p p' : Bool) (n n' : Nat) (hn : n ≤ 100) (f g : PS (PS (Zm m))) : PureCall Tryz.prog 137 [PlD m o p n f, PlD m o' p' n' g] (dbool (decide (Tb n f = Tb n' g))) := by
  refine pure_of_vc Tryz.tabOk mixOrd Tryz.func137 rfl rfl ?_
  conv => whnf
  repeat' first | ((first | refine And.intro (Or.inl rfl) ?_ | (apply Exists.intro; refine And.intro (c_EqualFunc _ _ _ _ _ _ vAr (lensOk_Tb (by omega) _)) ?_) | (refine And.intro (fun h => ?_) (fun h => ?_) <;> (try simp only [cnt1, ints_length] at h)) | refine And.intro (show slotsOk _ = true by decide +kernel) ?_ | refine And.intro vOb ?_ | (apply Exists.intro; refine And.intro vObt ?_) | (apply Exists.intro; refine And.intro vObx ?_) | refine And.intro vArT ?_ | refine Alt.fst ?_ | refine Or.inl ?_) <;> conv => whnf) | fail
  all_goals (refine dbool_congr ?_; first | rfl | (simp_all []; done) | (simp_all []; omega) | (simp_all []; intros; omega))
theorem top_iff {f : PS (PS (Zm m))} {N : Nat} (hN : 2 ≤ N) : Tb N f = Tb N (addTop 0 (N - 1) N fun i => Zm.mk m ((L N (topS f N)).getD i 0)) ↔ ∀ i j, i + j < N - 1 → (f.c i).c j = 0 := by
  constructor
  · intro h i j hij
    rw [Tb_inj h i j (by omega), addTop_cc, if_neg (by omega)]; rfl
  · intro h
    refine Tb_congr (fun i j hij => ?_)
    rw [addTop_cc]
    by_cases e : i + j = N - 1
    · rw [if_pos ⟨e, by omega⟩, L_getD _ (by omega), Zm.mk_val]
      show _ = 0 + (f.c i).c (N - 1 - i)
      rw [CR.zero_add, show N - 1 - i = j by omega]
    · rw [if_neg (by omega), h i j (by omega)]; rfl
theorem turn_iff {f : PS (PS (Zm m))} {N : Nat} (hN : 2 ≤ N) (hl : ∀ i j, i + j < N - 1 → (f.c i).c j = 0) : Tb N f = Tb N (pl fun i j => (f.c j).c i) ↔ ∀ i, i ≤ N - 1 → tpc f (N - 1) i = tpc f (N - 1) (N - 1 - i) := by
  constructor
  · intro h i hi
    have := Tb_inj h i (N - 1 - i) (by omega)
    rw [pl_c] at this
    unfold tpc
    rw [this, show N - 1 - (N - 1 - i) = i by omega]
  · intro h
    refine Tb_congr (fun i j hij => ?_)
    rw [pl_c]
    by_cases e : i + j = N - 1
    · have := h i (by omega)
      unfold tpc at this
      rw [show N - 1 - (N - 1 - i) = i by omega, show N - 1 - i = j by omega] at this
      exact this
    · rw [hl i j (by omega), hl j i (by omega)]
theorem c_IsCocycle1 (x : Int) : PureCall Tryz.prog 140 [dint x] (dbool (decide (x ≠ 0))) := by
  refine pure_of_vc Tryz.tabOk mixOrd Tryz.func140 rfl rfl ?_
  conv => whnf
  repeat' first | ((first | refine And.intro (Or.inl rfl) ?_ | (refine And.intro (fun h => ?_) (fun h => ?_) <;> (try simp only [cnt1, ints_length] at h)) | refine And.intro (show slotsOk _ = true by decide +kernel) ?_ | refine And.intro vOb ?_ | (apply Exists.intro; refine And.intro vObt ?_) | (apply Exists.intro; refine And.intro vObx ?_) | refine And.intro vArT ?_ | refine Alt.fst ?_ | refine Or.inl ?_) <;> conv => whnf) | fail
  all_goals (refine dbool_congr ?_; first | rfl | (simp_all []; done) | (simp_all []; omega) | (simp_all []; intros; omega))
end Go.Proofs

