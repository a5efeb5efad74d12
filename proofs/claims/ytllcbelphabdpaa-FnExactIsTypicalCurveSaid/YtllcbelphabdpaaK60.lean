/- Numbers with a root of unity: the reference. -/
-- tables
-- rec
import Derived.Test.YtllcbelphabdpaaK57
namespace Go.Proofs
open Go Go.Vm Go.Fg Go.Fg.PS
set_option maxRecDepth 100000
set_option maxHeartbeats 4000000
set_option linter.unusedSimpArgs false
set_option linter.unusedVariables false
variable {m : Int}
/-- What the polynomial brings down is the rule's product. -/
def FlP (k : Nat) (φ ρ : PS (Zm m)) : Prop := ∀ (a b : PS (Zm m)) j, j < k → (rdI k φ (fuP k a b k 0) k).c j = (rtM k ρ a b).c j
theorem FlP_n {n : Nat} (hn : 2 ≤ n ∧ n ≤ 5) : FlP (m := m) (kN n) (rd m (flN n)) (rd m (rlN n)) := fun a b j hj => rd_eq hn a b hj
theorem flN_L (hm : Md m) {n : Nat} (hn : 2 ≤ n ∧ n ≤ 5) : flN n = L (kN n) (rd m (flN n)) := by
  have h2 := hm.1
  have key : ∀ l : List Int, (∀ x ∈ l, 0 ≤ x ∧ x ≤ 1) → L l.length (rd m l) = l := fun l hl => L_rd (fun x hx => by have := hl x hx; omega)
  rcases (show n = 2 ∨ n = 3 ∨ n = 4 ∨ n = 5 by omega) with rfl | rfl | rfl | rfl
  · exact (key [1] (by simp)).symm
  · exact (key [1, 1] (by simp)).symm
  · exact (key [1, 0] (by simp)).symm
  · exact (key [1, 1, 1, 1] (by simp)).symm
theorem kN_le {n : Nat} (hn : 2 ≤ n ∧ n ≤ 5) : 1 ≤ kN n ∧ kN n ≤ 4 := ⟨(rlN_ok hn).2.1, (rlN_ok hn).2.2.1⟩
theorem fuP_skipj (k : Nat) (a b : PS (Zm m)) (i j : Nat) (h : a.c i = 0) : fuP k a b i j = fuP k a b (i + 1) 0 := by
  rw [← fuP_row]
  ext n
  rw [fuP_c, fuP_c, h, Go.Fg.zero_mul]
  split <;> split <;> rfl
theorem rdI_succ (k : Nat) (φ g : PS (Zm m)) (r : Nat) : rdI k φ g (r + 1) = rdP k φ (rdI k φ g r) (2 * k - 1 - r) k := rfl
theorem c_l12Field (n : Nat) (hn : 2 ≤ n ∧ n ≤ 5) (hm : Md m) : PureCall Try.prog 96 [dint n] (LD true (kN n) (rd m (flN n))) := by
  rw [show (LD true (kN n) (rd m (flN n)) : D) = .list true 1 (ints (flN n)) from congrArg (fun x => D.list true 1 (ints x)) (flN_L hm hn).symm]
  rcases (show n = 2 ∨ n = 3 ∨ n = 4 ∨ n = 5 by omega) with rfl | rfl | rfl | rfl
  all_goals
    refine pure_of_vcR Try.tabOk mixOrd Try.func96 rfl rfl ?_
    conv => whnf
    repeat' first
      | (refine And.intro (Or.inl rfl) ?_; conv => whnf)
      | (refine And.intro (fun h => ?_) (fun h => ?_) <;> (try simp only [cnt1, ints_length] at h) <;> first | (exfalso; omega) | (conv => whnf))
      | (refine And.intro (show slotsOk _ = true by decide +kernel) ?_; conv => whnf)
      | (refine And.intro vOb ?_; conv => whnf)
      | (apply Exists.intro; refine And.intro vObt ?_; conv => whnf)
      | (apply Exists.intro; refine And.intro vObx ?_; conv => whnf)
      | (refine And.intro vArT ?_; conv => whnf)
      | (refine And.intro (ints_plain [1]) ?_; conv => whnf)
      | (refine And.intro (ints_plain [1, 1]) ?_; conv => whnf)
      | (refine And.intro (ints_plain [1, 0]) ?_; conv => whnf)
      | (refine And.intro (ints_plain [1, 1, 1, 1]) ?_; conv => whnf)
      | (refine Or.inl ?_; conv => whnf)
      | fail
    all_goals rfl
theorem c_l12Product (hm : Md m) (o o1 o2 : Bool) (k : Nat) (hk : 1 ≤ k ∧ k ≤ 4) (φ ρ a b : PS (Zm m)) (hf : FlP k φ ρ) : PureCall Try.prog 146 [dint m, LD o k φ, LD o1 k a, LD o2 k b] (LD true k (rtM k ρ a b)) := by
  have hm1 := hm.1
  have hm2 := hm.2
  refine pure_of_vcR Try.tabOk mixOrd Try.func146 rfl rfl ?_
  conv => whnf
  repeat' first
    | (refine And.intro (Or.inl rfl) ?_; conv => whnf)
    | (refine And.intro (fun h => ?_) (fun h => ?_) <;> (try simp only [cnt1, ints_length] at h) <;> conv => whnf)
    | (refine And.intro (show slotsOk _ = true by decide +kernel) ?_; conv => whnf)
    | (refine And.intro vOb ?_; conv => whnf)
    | (apply Exists.intro; refine And.intro vObt ?_; conv => whnf)
    | (apply Exists.intro; refine And.intro vObx ?_; conv => whnf)
    | (refine And.intro vArT ?_; conv => whnf)
    | (refine Or.inl ?_; conv => whnf)
    | fail
  refine loop_atR Try.tabOk mixOrd (α := Nat) (fun i => [(11, dint i)]) (fun i => [(0, some ⟨false, 1, ints (L (2 * k) (fuP k a b i 0))⟩)]) (fun i => i ≤ k) (fun i => k - i) (0) ?_ ?_ ?_
  · omega
  · conv => whnf
    first | refine WeakS.autoR ?_ | refine Weak.autoR ?_
    conv => whnf
    repeat' first
      | exact trivial
      | (refine And.intro rfl ?_; conv => whnf)
      | (refine And.intro (eqV_int vAr) ?_; conv => whnf)
      | (refine And.intro vOb ?_; conv => whnf)
      | (refine And.intro vRepl ?_; conv => whnf)
      | (refine And.intro vReplL ?_; conv => whnf)
      | (refine And.intro ?_ ?_ <;> try (conv => whnf))
    all_goals
      rw [fuP_zero, L_zero]
      try rw [show (2 * (k : Int)).toNat = 2 * k by omega]
  intro i hi
  conv => whnf
  repeat' first
    | (refine And.intro (Or.inl rfl) ?_; conv => whnf)
    | (refine And.intro (fun h => ?_) (fun h => ?_) <;> (try simp only [cnt1, ints_length] at h) <;> conv => whnf)
    | (refine And.intro (show slotsOk _ = true by decide +kernel) ?_; conv => whnf)
    | (refine And.intro vOb ?_; conv => whnf)
    | (apply Exists.intro; refine And.intro vObt ?_; conv => whnf)
    | (apply Exists.intro; refine And.intro vObx ?_; conv => whnf)
    | (refine And.intro vArT ?_; conv => whnf)
    | (refine Or.inl ?_; conv => whnf)
    | fail
  · have hi' : i < k := vAr
    refine loop_atR Try.tabOk mixOrd (α := Nat) (fun j => [(12, dint j)]) (fun j => [(0, some ⟨false, 1, ints (L (2 * k) (fuP k a b i j))⟩)]) (fun j => j ≤ k) (fun j => k - j) (0) ?_ ?_ ?_
    · omega
    · conv => whnf
      first | refine WeakS.autoR ?_ | refine Weak.autoR ?_
      conv => whnf
      repeat' first
        | exact trivial
        | (refine And.intro rfl ?_; conv => whnf)
        | (refine And.intro (eqV_int vAr) ?_; conv => whnf)
        | (refine And.intro vOb ?_; conv => whnf)
        | (refine And.intro vRepl ?_; conv => whnf)
        | (refine And.intro vReplL ?_; conv => whnf)
        | (refine And.intro ?_ ?_ <;> try (conv => whnf))
    intro j hj
    conv => whnf
    have x1 := hm.mul (a.c i) (b.c j)
    have x2 := Zm.val_range hm.pos ((fuP k a b i j).c (i + j))
    repeat' first
      | (refine And.intro (Or.inl rfl) ?_; conv => whnf)
      | (refine And.intro (fun h => ?_) (fun h => ?_) <;> (try simp only [cnt1, ints_length] at h) <;> conv => whnf)
      | (refine And.intro (show slotsOk _ = true by decide +kernel) ?_; conv => whnf)
      | (refine And.intro vOb ?_; conv => whnf)
      | (apply Exists.intro; refine And.intro vObt ?_; conv => whnf)
      | (apply Exists.intro; refine And.intro vObx ?_; conv => whnf)
      | (refine And.intro vArT ?_; conv => whnf)
      | (refine Or.inl ?_; conv => whnf)
      | fail
    · have hj' : j < k := vAr
      refine Exists.intro (j + 1) (And.intro vAr (And.intro vAr ?_))
      first | refine WeakS.autoR ?_ | refine Weak.autoR ?_
      conv => whnf
      repeat' first
        | exact trivial
        | (refine And.intro rfl ?_; conv => whnf)
        | (refine And.intro (eqV_int vAr) ?_; conv => whnf)
        | (refine And.intro vOb ?_; conv => whnf)
        | (refine And.intro vRepl ?_; conv => whnf)
        | (refine And.intro vReplL ?_; conv => whnf)
        | (refine And.intro ?_ ?_ <;> try (conv => whnf))
      exact ints_congr' (L_set_eq _ (tm_mulA hm _ _ _) (Ag.of_eq (fuP_step k a b i j).symm))
    · have he := Zm.val_eq_zero.1 (Classical.not_not.1 h)
      refine Exists.intro (i + 1) (And.intro vAr (And.intro vAr ?_))
      first | refine WeakS.autoR ?_ | refine Weak.autoR ?_
      conv => whnf
      repeat' first
        | exact trivial
        | (refine And.intro rfl ?_; conv => whnf)
        | (refine And.intro (eqV_int vAr) ?_; conv => whnf)
        | (refine And.intro vOb ?_; conv => whnf)
        | (refine And.intro vRepl ?_; conv => whnf)
        | (refine And.intro vReplL ?_; conv => whnf)
        | (refine And.intro ?_ ?_ <;> try (conv => whnf))
      rw [fuP_skipj k a b i j he]
    · refine Exists.intro (i + 1) (And.intro vAr (And.intro vAr ?_))
      first | refine WeakS.autoR ?_ | refine Weak.autoR ?_
      conv => whnf
      repeat' first
        | exact trivial
        | (refine And.intro rfl ?_; conv => whnf)
        | (refine And.intro (eqV_int vAr) ?_; conv => whnf)
        | (refine And.intro vOb ?_; conv => whnf)
        | (refine And.intro vRepl ?_; conv => whnf)
        | (refine And.intro vReplL ?_; conv => whnf)
        | (refine And.intro ?_ ?_ <;> try (conv => whnf))
      rw [show j = k from vAr, fuP_row]
  · rw [show i = k from vAr]
    repeat' first
      | (refine And.intro (Or.inl rfl) ?_; conv => whnf)
      | (refine And.intro (fun h => ?_) (fun h => ?_) <;> (try simp only [cnt1, ints_length] at h) <;> conv => whnf)
      | (refine And.intro (show slotsOk _ = true by decide +kernel) ?_; conv => whnf)
      | (refine And.intro vOb ?_; conv => whnf)
      | (apply Exists.intro; refine And.intro vObt ?_; conv => whnf)
      | (apply Exists.intro; refine And.intro vObx ?_; conv => whnf)
      | (refine And.intro vArT ?_; conv => whnf)
      | (refine Or.inl ?_; conv => whnf)
      | fail
    refine loop_atR Try.tabOk mixOrd (α := Nat) (fun r => [(13, dint (2 * (k : Int) - 1 - r))]) (fun r => [(0, some ⟨false, 1, ints (L (2 * k) (rdI k φ (fuP k a b k 0) r))⟩)]) (fun r => r ≤ k) (fun r => k - r) (0) ?_ ?_ ?_
    · omega
    · conv => whnf
      first | refine WeakS.autoR ?_ | refine Weak.autoR ?_
      conv => whnf
      repeat' first
        | exact trivial
        | (refine And.intro rfl ?_; conv => whnf)
        | (refine And.intro (eqV_int vAr) ?_; conv => whnf)
        | (refine And.intro vOb ?_; conv => whnf)
        | (refine And.intro vRepl ?_; conv => whnf)
        | (refine And.intro vReplL ?_; conv => whnf)
        | (refine And.intro ?_ ?_ <;> try (conv => whnf))
      all_goals first
        | rfl
        | (exact eqV_int (by omega))
        | skip
    intro r hr
    conv => whnf
    repeat' first
      | (refine And.intro (Or.inl rfl) ?_; conv => whnf)
      | (refine Or.inl (Or.inl (Exists.intro _ (And.intro (c_l01Own _ (L k (rdI k φ (fuP k a b k 0) r)) (by rw [L_length]; omega)) ?_))); conv => whnf)
      | (refine Or.inl (Exists.intro _ (And.intro (c_l01Own _ (L k (rdI k φ (fuP k a b k 0) r)) (by rw [L_length]; omega)) ?_)); conv => whnf)
      | (apply Exists.intro; refine And.intro (c_l01Own _ (L k (rdI k φ (fuP k a b k 0) r)) (by rw [L_length]; omega)) ?_; conv => whnf)
      | (refine And.intro (fun h => ?_) (fun h => ?_) <;> (try simp only [cnt1, ints_length] at h) <;> conv => whnf)
      | (refine And.intro (show slotsOk _ = true by decide +kernel) ?_; conv => whnf)
      | (refine And.intro vOb ?_; conv => whnf)
      | (apply Exists.intro; refine And.intro vObt ?_; conv => whnf)
      | (apply Exists.intro; refine And.intro vObx ?_; conv => whnf)
      | (refine And.intro vArT ?_; conv => whnf)
      | (refine Or.inl ?_; conv => whnf)
      | fail
    · have hr' : r < k := vAr
      generalize hg : rdI k φ (fuP k a b k 0) r = g at *
      refine loop_atR Try.tabOk mixOrd (α := Nat) (fun j => [(14, dint j)]) (fun j => [(0, some ⟨false, 1, ints (L (2 * k) (rdP k φ g (2 * k - 1 - r) j))⟩)]) (fun j => j ≤ k) (fun j => k - j) (0) ?_ ?_ ?_
      · omega
      · conv => whnf
        first | refine WeakS.autoR ?_ | refine Weak.autoR ?_
        conv => whnf
        repeat' first
          | exact trivial
          | (refine And.intro rfl ?_; conv => whnf)
          | (refine And.intro (eqV_int vAr) ?_; conv => whnf)
          | (refine And.intro vOb ?_; conv => whnf)
          | (refine And.intro vRepl ?_; conv => whnf)
          | (refine And.intro vReplL ?_; conv => whnf)
          | (refine And.intro ?_ ?_ <;> try (conv => whnf))
        all_goals rw [rdP_zero]
      intro j hj
      conv => whnf
      have y1 := Zm.val_range hm.pos ((rdP k φ g (2 * k - 1 - r) j).c (2 * k - 1 - r - k + j))
      have y2 := hm.mul ((rdP k φ g (2 * k - 1 - r) j).c (2 * k - 1 - r)) (φ.c j)
      have y3 := tm_mul hm ((rdP k φ g (2 * k - 1 - r) j).c (2 * k - 1 - r)) (φ.c j)
      have y4 := Zm.val_range hm.pos ((rdP k φ g (2 * k - 1 - r) j).c (2 * k - 1 - r) * φ.c j)
      have z1 : (2 * (k : Int) - 1 - r - k + j).toNat = 2 * k - 1 - r - k + j := by omega
      have z2 : (2 * (k : Int) - 1 - r).toNat = 2 * k - 1 - r := by omega
      have y5 := Zm.val_range hm.pos ((rdP k φ g (2 * k - 1 - r) j).c (2 * (k : Int) - 1 - r - k + j).toNat)
      repeat' first
        | (refine And.intro (Or.inl rfl) ?_; conv => whnf)
        | (refine Or.inl (Or.inl (Exists.intro _ (And.intro (c_l01Mod _ _ hm.pos (by omega)) ?_))); conv => whnf)
        | (refine Or.inl (Exists.intro _ (And.intro (c_l01Mod _ _ hm.pos (by omega)) ?_)); conv => whnf)
        | (apply Exists.intro; refine And.intro (c_l01Mod _ _ hm.pos (by omega)) ?_; conv => whnf)
        | (refine Or.inl (Or.inl (Exists.intro _ (And.intro (vLoadL (i := 2 * k - 1 - r - k + j) (by simp only [place1, Nat.zero_add]; exact z1) (by omega)) ?_))); conv => whnf)
        | (refine Or.inl (Exists.intro _ (And.intro (vLoadL (i := 2 * k - 1 - r - k + j) (by simp only [place1, Nat.zero_add]; exact z1) (by omega)) ?_)); conv => whnf)
        | (apply Exists.intro; refine And.intro (vLoadL (i := 2 * k - 1 - r - k + j) (by simp only [place1, Nat.zero_add]; exact z1) (by omega)) ?_; conv => whnf)
        | (refine Or.inl (Or.inl (Exists.intro _ (And.intro (vLoadL (i := 2 * k - 1 - r) (by simp only [place1, Nat.zero_add]; exact z2) (by omega)) ?_))); conv => whnf)
        | (refine Or.inl (Exists.intro _ (And.intro (vLoadL (i := 2 * k - 1 - r) (by simp only [place1, Nat.zero_add]; exact z2) (by omega)) ?_)); conv => whnf)
        | (apply Exists.intro; refine And.intro (vLoadL (i := 2 * k - 1 - r) (by simp only [place1, Nat.zero_add]; exact z2) (by omega)) ?_; conv => whnf)
        | (refine Or.inl (Or.inl (Exists.intro _ (And.intro (vStore (i := 2 * k - 1 - r - k + j) _ (by simp only [place1, Nat.zero_add]; exact z1) (by rw [L_length]; omega)) ?_))); conv => whnf)
        | (refine Or.inl (Exists.intro _ (And.intro (vStore (i := 2 * k - 1 - r - k + j) _ (by simp only [place1, Nat.zero_add]; exact z1) (by rw [L_length]; omega)) ?_)); conv => whnf)
        | (apply Exists.intro; refine And.intro (vStore (i := 2 * k - 1 - r - k + j) _ (by simp only [place1, Nat.zero_add]; exact z1) (by rw [L_length]; omega)) ?_; conv => whnf)
        | (refine And.intro (fun h => ?_) (fun h => ?_) <;> (try simp only [cnt1, ints_length] at h) <;> conv => whnf)
        | (refine And.intro (show slotsOk _ = true by decide +kernel) ?_; conv => whnf)
        | (refine And.intro vOb ?_; conv => whnf)
        | (apply Exists.intro; refine And.intro vObt ?_; conv => whnf)
        | (apply Exists.intro; refine And.intro vObx ?_; conv => whnf)
        | (refine And.intro vArT ?_; conv => whnf)
        | (refine And.intro (inR64 (by rw [y3]; omega) (by rw [y3]; omega)) ?_; conv => whnf)
        | (refine Or.inl ?_; conv => whnf)
        | fail
      · have hj' : j < k := vAr
        refine Exists.intro (j + 1) (And.intro vAr (And.intro vAr ?_))
        first | refine WeakS.autoR ?_ | refine Weak.autoR ?_
        conv => whnf
        repeat' first
          | exact trivial
          | (refine And.intro rfl ?_; conv => whnf)
          | (refine And.intro (eqV_int vAr) ?_; conv => whnf)
          | (refine And.intro vOb ?_; conv => whnf)
          | (refine And.intro vRepl ?_; conv => whnf)
          | (refine And.intro vReplL ?_; conv => whnf)
          | (refine And.intro ?_ ?_ <;> try (conv => whnf))
        all_goals
          rw [y3, em_sub]
          refine ints_congr' ?_
          simp only [z1]
          rw [show 2 * k - 1 - r - k + j = 2 * k - 1 - r - k + j from rfl]
          exact L_set_eq _ rfl (Ag.of_eq (rdP_step k φ g (by omega) hj').symm)
      · refine Exists.intro (r + 1) (And.intro vAr (And.intro vAr ?_))
        first | refine WeakS.autoR ?_ | refine Weak.autoR ?_
        conv => whnf
        repeat' first
          | exact trivial
          | (refine And.intro rfl ?_; conv => whnf)
          | (refine And.intro (eqV_int vAr) ?_; conv => whnf)
          | (refine And.intro vOb ?_; conv => whnf)
          | (refine And.intro vRepl ?_; conv => whnf)
          | (refine And.intro vReplL ?_; conv => whnf)
          | (refine And.intro ?_ ?_ <;> try (conv => whnf))
        all_goals first
          | (rw [show j = k from vAr, ← hg, ← rdI_succ]; done)
          | (exact eqV_int (by omega))
          | skip
    · rw [show r = k from vAr]
      exact congrArg (fun x => D.list true 1 (ints x)) (L_congr (fun j hj => hf a b j hj))
/-- Series over the numbers. -/
theorem c_l12Zero (o : Bool) (k : Nat) (hk : 1 ≤ k ∧ k ≤ 4) (φ : PS (Zm m)) (N : Nat) (hN : 1 ≤ N ∧ N ≤ 100) {d : Int} (hd : d + 1 = N) : PureCall Try.prog 97 [LD o k φ, dint d] (RtD true true k N (0 : PS (PS (Zm m)))) := by
  refine pure_of_vcR Try.tabOk mixOrd Try.func97 rfl rfl ?_
  conv => whnf
  repeat' first
    | (refine And.intro (Or.inl rfl) ?_; conv => whnf)
    | (refine And.intro (fun h => ?_) (fun h => ?_) <;> (try simp only [cnt1, ints_length] at h) <;> conv => whnf)
    | (refine And.intro (show slotsOk _ = true by decide +kernel) ?_; conv => whnf)
    | (refine And.intro vOb ?_; conv => whnf)
    | (apply Exists.intro; refine And.intro vObt ?_; conv => whnf)
    | (apply Exists.intro; refine And.intro vObx ?_; conv => whnf)
    | (refine And.intro vArT ?_; conv => whnf)
    | (refine Or.inl ?_; conv => whnf)
    | fail
  refine loop_atR Try.tabOk mixOrd (α := Nat) (fun i => [(6, dint i), (5, .ref 0 [] 1 0 i), (7, .undef)]) (fun i => [(0, some ⟨false, 1, rows true (sqP k i (0 : PS (PS (Zm m))))⟩)]) (fun i => i ≤ N) (fun i => N - i) (0) ?_ ?_ ?_
  · omega
  · conv => whnf
    first | refine WeakS.autoR ?_ | refine Weak.autoR ?_
    conv => whnf
    repeat' first
      | exact trivial
      | (refine And.intro rfl ?_; conv => whnf)
      | (refine And.intro (eqV_int vAr) ?_; conv => whnf)
      | (refine And.intro vOb ?_; conv => whnf)
      | (refine And.intro vRepl ?_; conv => whnf)
      | (refine And.intro vReplL ?_; conv => whnf)
      | (refine And.intro ?_ ?_ <;> try (conv => whnf))
  intro i hi
  conv => whnf
  repeat' first
    | (refine And.intro (Or.inl rfl) ?_; conv => whnf)
    | (refine And.intro (fun h => ?_) (fun h => ?_) <;> (try simp only [cnt1, ints_length] at h) <;> conv => whnf)
    | (refine And.intro (show slotsOk _ = true by decide +kernel) ?_; conv => whnf)
    | (refine And.intro vOb ?_; conv => whnf)
    | (apply Exists.intro; refine And.intro vObt ?_; conv => whnf)
    | (apply Exists.intro; refine And.intro vObx ?_; conv => whnf)
    | (refine And.intro vArT ?_; conv => whnf)
    | (refine And.intro (vRA) ?_; conv => whnf)
    | (refine And.intro (one_in _) ?_; conv => whnf)
    | (refine And.intro (rows_plain _) ?_; conv => whnf)
    | (refine Or.inl ?_; conv => whnf)
    | fail
  · refine Exists.intro (i + 1) (And.intro vRA (And.intro vRA ?_))
    first | refine WeakS.autoR ?_ | refine Weak.autoR ?_
    conv => whnf
    repeat' first
      | exact trivial
      | (refine And.intro rfl ?_; conv => whnf)
      | (refine And.intro (eqV_int vAr) ?_; conv => whnf)
      | (refine And.intro vOb ?_; conv => whnf)
      | (refine And.intro vRepl ?_; conv => whnf)
      | (refine And.intro vReplL ?_; conv => whnf)
      | (refine And.intro ?_ ?_ <;> try (conv => whnf))
    all_goals exact rows_congr (sqP_push (show _ = L k ((0 : PS (PS (Zm m))).c i) from (L_zero k).symm))
  · rw [show i = N from vRA]
theorem c_l12Times (hm : Md m) (o o1 o2 p1 p2 : Bool) (k : Nat) (hk : 1 ≤ k ∧ k ≤ 4) (φ ρ : PS (Zm m)) (hf : FlP k φ ρ) (N : Nat) (hN : 1 ≤ N ∧ N ≤ 100) (f g : PS (PS (Zm m))) : PureCall Try.prog 143 [dint m, LD o k φ, RtD o1 p1 k N f, RtD o2 p2 k N g] (RtD true true k N (prM k ρ N f g)) := by
  have hm1 := hm.1
  have hm2 := hm.2
  refine pure_of_vcR Try.tabOk mixOrd Try.func143 rfl rfl ?_
  conv => whnf
  repeat' first
    | (refine And.intro (Or.inl rfl) ?_; conv => whnf)
    | (refine Or.inl (Or.inl (Exists.intro _ (And.intro (c_l12Zero _ k hk φ N hN vRA) ?_))); conv => whnf)
    | (refine Or.inl (Exists.intro _ (And.intro (c_l12Zero _ k hk φ N hN vRA) ?_)); conv => whnf)
    | (apply Exists.intro; refine And.intro (c_l12Zero _ k hk φ N hN vRA) ?_; conv => whnf)
    | (refine And.intro (fun h => ?_) (fun h => ?_) <;> (try simp only [cnt1, ints_length] at h) <;> conv => whnf)
    | (refine And.intro (show slotsOk _ = true by decide +kernel) ?_; conv => whnf)
    | (refine And.intro vOb ?_; conv => whnf)
    | (apply Exists.intro; refine And.intro vObt ?_; conv => whnf)
    | (apply Exists.intro; refine And.intro vObx ?_; conv => whnf)
    | (refine And.intro vArT ?_; conv => whnf)
    | (refine And.intro (inR64 vRA vRA) ?_; conv => whnf)
    | (refine Or.inl ?_; conv => whnf)
    | fail
  refine loop_atR Try.tabOk mixOrd (α := Nat) (fun i => [(11, dint i), (10, .ref 0 [] 1 0 N)]) (fun i => [(0, some ⟨false, 1, rows true (sqP k N (prP k ρ f g i 0))⟩)]) (fun i => i ≤ N) (fun i => N - i) (0) ?_ ?_ ?_
  · omega
  · conv => whnf
    first | refine WeakS.autoR ?_ | refine Weak.autoR ?_
    conv => whnf
    repeat' first
      | exact trivial
      | (refine And.intro rfl ?_; conv => whnf)
      | (refine And.intro (eqV_int vAr) ?_; conv => whnf)
      | (refine And.intro vOb ?_; conv => whnf)
      | (refine And.intro vRepl ?_; conv => whnf)
      | (refine And.intro vReplL ?_; conv => whnf)
      | (refine And.intro ?_ ?_ <;> try (conv => whnf))
    all_goals first
      | (rw [prP_zero]; done)
      | (rw [cnt1, rows_length, sqP_length]; done)
      | skip
  intro i hi
  conv => whnf
  repeat' first
    | (refine And.intro (Or.inl rfl) ?_; conv => whnf)
    | (refine And.intro (fun h => ?_) (fun h => ?_) <;> (try simp only [cnt1, ints_length] at h) <;> conv => whnf)
    | (refine And.intro (show slotsOk _ = true by decide +kernel) ?_; conv => whnf)
    | (refine And.intro vOb ?_; conv => whnf)
    | (apply Exists.intro; refine And.intro vObt ?_; conv => whnf)
    | (apply Exists.intro; refine And.intro vObx ?_; conv => whnf)
    | (refine And.intro vArT ?_; conv => whnf)
    | (refine And.intro (vRA) ?_; conv => whnf)
    | (refine And.intro (rows_plain _) ?_; conv => whnf)
    | (refine Or.inl ?_; conv => whnf)
    | fail
  · have hi' : i < N := vRA
    refine loop_atR Try.tabOk mixOrd (α := Nat) (fun j => [(12, dint j), (10, .ref 0 [] 1 0 N), (41, .undef), (53, .undef), (52, .undef)]) (fun j => [(0, some ⟨false, 1, rows true (sqP k N (prP k ρ f g i j))⟩)]) (fun j => j ≤ N - i) (fun j => N - j) (0) ?_ ?_ ?_
    · omega
    · conv => whnf
      first | refine WeakS.autoR ?_ | refine Weak.autoR ?_
      conv => whnf
      repeat' first
        | exact trivial
        | (refine And.intro rfl ?_; conv => whnf)
        | (refine And.intro (eqV_int vAr) ?_; conv => whnf)
        | (refine And.intro vOb ?_; conv => whnf)
        | (refine And.intro vRepl ?_; conv => whnf)
        | (refine And.intro vReplL ?_; conv => whnf)
        | (refine And.intro ?_ ?_ <;> try (conv => whnf))
    intro j hj
    conv => whnf
    repeat' first
      | (refine And.intro (Or.inl rfl) ?_; conv => whnf)
      | (refine Or.inl (Or.inl (Exists.intro _ (And.intro (vRtC (i := i) vIx vRA) ?_))); conv => whnf)
      | (refine Or.inl (Exists.intro _ (And.intro (vRtC (i := i) vIx vRA) ?_)); conv => whnf)
      | (apply Exists.intro; refine And.intro (vRtC (i := i) vIx vRA) ?_; conv => whnf)
      | (refine Or.inl (Or.inl (Exists.intro _ (And.intro (vRtC (i := j) vIx vRA) ?_))); conv => whnf)
      | (refine Or.inl (Exists.intro _ (And.intro (vRtC (i := j) vIx vRA) ?_)); conv => whnf)
      | (apply Exists.intro; refine And.intro (vRtC (i := j) vIx vRA) ?_; conv => whnf)
      | (refine Or.inl (Or.inl (Exists.intro _ (And.intro (vRtL (i := i + j) vIx vRA) ?_))); conv => whnf)
      | (refine Or.inl (Exists.intro _ (And.intro (vRtL (i := i + j) vIx vRA) ?_)); conv => whnf)
      | (apply Exists.intro; refine And.intro (vRtL (i := i + j) vIx vRA) ?_; conv => whnf)
      | (refine Or.inl (Or.inl (Exists.intro _ (And.intro (vRtG (i := i + j) vIx vRA) ?_))); conv => whnf)
      | (refine Or.inl (Exists.intro _ (And.intro (vRtG (i := i + j) vIx vRA) ?_)); conv => whnf)
      | (apply Exists.intro; refine And.intro (vRtG (i := i + j) vIx vRA) ?_; conv => whnf)
      | (refine Or.inl (Or.inl (Exists.intro _ (And.intro (c_l12Product hm _ _ _ k hk φ ρ (f.c i) (g.c j) hf) ?_))); conv => whnf)
      | (refine Or.inl (Exists.intro _ (And.intro (c_l12Product hm _ _ _ k hk φ ρ (f.c i) (g.c j) hf) ?_)); conv => whnf)
      | (apply Exists.intro; refine And.intro (c_l12Product hm _ _ _ k hk φ ρ (f.c i) (g.c j) hf) ?_; conv => whnf)
      | (refine Or.inl (Or.inl (Exists.intro _ (And.intro (c_l02Add hm _ _ k vRA _ _) ?_))); conv => whnf)
      | (refine Or.inl (Exists.intro _ (And.intro (c_l02Add hm _ _ k vRA _ _) ?_)); conv => whnf)
      | (apply Exists.intro; refine And.intro (c_l02Add hm _ _ k vRA _ _) ?_; conv => whnf)
      | (refine move_of ?_; conv => whnf)
      | (refine Or.inl (Or.inl (Exists.intro _ (And.intro (rows_set _ _ _ _) ?_))); conv => whnf)
      | (refine Or.inl (Exists.intro _ (And.intro (rows_set _ _ _ _) ?_)); conv => whnf)
      | (apply Exists.intro; refine And.intro (rows_set _ _ _ _) ?_; conv => whnf)
      | (refine And.intro (fun h => ?_) (fun h => ?_) <;> (try simp only [cnt1, ints_length] at h) <;> conv => whnf)
      | (refine And.intro (show slotsOk _ = true by decide +kernel) ?_; conv => whnf)
      | (refine And.intro vOb ?_; conv => whnf)
      | (apply Exists.intro; refine And.intro vObt ?_; conv => whnf)
      | (apply Exists.intro; refine And.intro vObx ?_; conv => whnf)
      | (refine And.intro vArT ?_; conv => whnf)
      | (refine And.intro (rtIx vRA) ?_; conv => whnf)
      | (refine And.intro (vRA) ?_; conv => whnf)
      | (refine Or.inl ?_; conv => whnf)
      | fail
    · refine Exists.intro (j + 1) (And.intro vRA (And.intro vRA ?_))
      first | refine WeakS.autoR ?_ | refine Weak.autoR ?_
      conv => whnf
      repeat' first
        | exact trivial
        | (refine And.intro rfl ?_; conv => whnf)
        | (refine And.intro (eqV_int vAr) ?_; conv => whnf)
        | (refine And.intro vOb ?_; conv => whnf)
        | (refine And.intro vRepl ?_; conv => whnf)
        | (refine And.intro vReplL ?_; conv => whnf)
        | (refine And.intro ?_ ?_ <;> try (conv => whnf))
      refine rows_congr ?_
      rw [show place 1 0 ((i : Int) + (j : Int)).toNat = i + j from vIx, rt_set _ _ (show i + j < N from vRA), ← prP_step]
    · have hj' : j = N - i := vRA
      refine Exists.intro (i + 1) (And.intro vRA (And.intro vRA ?_))
      first | refine WeakS.autoR ?_ | refine Weak.autoR ?_
      conv => whnf
      repeat' first
        | exact trivial
        | (refine And.intro rfl ?_; conv => whnf)
        | (refine And.intro (eqV_int vAr) ?_; conv => whnf)
        | (refine And.intro vOb ?_; conv => whnf)
        | (refine And.intro vRepl ?_; conv => whnf)
        | (refine And.intro vReplL ?_; conv => whnf)
        | (refine And.intro ?_ ?_ <;> try (conv => whnf))
      refine rows_congr (rt_congr (fun n hn => Ag.of_eq (prP_row _ _ _ _ (by omega) n hn)))
  · rw [show i = N from vRA]
    rfl
theorem c_l12Powers (hm : Md m) (o o1 p1 : Bool) (k : Nat) (hk : 1 ≤ k ∧ k ≤ 4) (φ ρ : PS (Zm m)) (hf : FlP k φ ρ) (N : Nat) (hN : 1 ≤ N ∧ N ≤ 100) (a : PS (PS (Zm m))) : PureCall Try.prog 142 [dint m, LD o k φ, RtD o1 p1 k N a] (.list true 1 (tbg (pwG k ρ N a) N)) := by
  have hm1 := hm.1
  have hm2 := hm.2
  refine pure_of_vcR Try.tabOk mixOrd Try.func142 rfl rfl ?_
  conv => whnf
  repeat' first
    | (refine And.intro (Or.inl rfl) ?_; conv => whnf)
    | (refine Or.inl (Or.inl (Exists.intro _ (And.intro (c_l12Zero _ k hk φ N hN vRA) ?_))); conv => whnf)
    | (refine Or.inl (Exists.intro _ (And.intro (c_l12Zero _ k hk φ N hN vRA) ?_)); conv => whnf)
    | (apply Exists.intro; refine And.intro (c_l12Zero _ k hk φ N hN vRA) ?_; conv => whnf)
    | (refine Or.inl (Or.inl (Exists.intro _ (And.intro (vRtL (i := 0) vIx vRA) ?_))); conv => whnf)
    | (refine Or.inl (Exists.intro _ (And.intro (vRtL (i := 0) vIx vRA) ?_)); conv => whnf)
    | (apply Exists.intro; refine And.intro (vRtL (i := 0) vIx vRA) ?_; conv => whnf)
    | (refine Or.inl (Or.inl (Exists.intro _ (And.intro (vRtG (i := 0) vIx vRA) ?_))); conv => whnf)
    | (refine Or.inl (Exists.intro _ (And.intro (vRtG (i := 0) vIx vRA) ?_)); conv => whnf)
    | (apply Exists.intro; refine And.intro (vRtG (i := 0) vIx vRA) ?_; conv => whnf)
    | (refine Or.inl (Or.inl (Exists.intro _ (And.intro (vRtStore (i := 0) (j := 0) _ vIx vIx vRA vRA) ?_))); conv => whnf)
    | (refine Or.inl (Exists.intro _ (And.intro (vRtStore (i := 0) (j := 0) _ vIx vIx vRA vRA) ?_)); conv => whnf)
    | (apply Exists.intro; refine And.intro (vRtStore (i := 0) (j := 0) _ vIx vIx vRA vRA) ?_; conv => whnf)
    | (refine And.intro (fun h => ?_) (fun h => ?_) <;> (try simp only [cnt1, ints_length] at h) <;> conv => whnf)
    | (refine And.intro (show slotsOk _ = true by decide +kernel) ?_; conv => whnf)
    | (refine And.intro vOb ?_; conv => whnf)
    | (apply Exists.intro; refine And.intro vObt ?_; conv => whnf)
    | (apply Exists.intro; refine And.intro vObx ?_; conv => whnf)
    | (refine And.intro vArT ?_; conv => whnf)
    | (refine And.intro (inR64 vRA vRA) ?_; conv => whnf)
    | (refine And.intro (vRA) ?_; conv => whnf)
    | (refine Or.inl ?_; conv => whnf)
    | fail
  refine loop_atR Try.tabOk mixOrd (α := Nat) (fun i => [(10, dint ((i : Int) + 1)), (9, .ref 1 [] 1 0 (i + 1)), (7, .undef), (8, .undef), (15, .undef), (16, .undef), (17, .undef), (18, .undef), (19, .undef), (20, .undef), (21, .undef), (22, .undef)]) (fun i => [(1, some ⟨false, 1, tbg (pwG k ρ N a) (i + 1)⟩)]) (fun i => i + 1 ≤ N) (fun i => N - i) (0) ?_ ?_ ?_
  · omega
  · conv => whnf
    first | refine WeakS.autoR ?_ | refine Weak.autoR ?_
    conv => whnf
    repeat' first
      | exact trivial
      | (refine And.intro rfl ?_; conv => whnf)
      | (refine And.intro (eqV_int vAr) ?_; conv => whnf)
      | (refine And.intro vOb ?_; conv => whnf)
      | (refine And.intro vRepl ?_; conv => whnf)
      | (refine And.intro vReplL ?_; conv => whnf)
      | (refine And.intro ?_ ?_ <;> try (conv => whnf))
    all_goals
      refine congrArg (fun x => [D.list true 1 (rows true x)]) ?_
      refine (?_ : setT (sqP k N 0) 0 0 1 = sqP k N 1)
      unfold setT
      rw [rt_getD _ (by omega), L_set_eq (1 : Zm m) (Zm.val_one (by omega)).symm (b := 1) (fun j hj => by rw [upd_c, PS.one_c]; split <;> rfl), rt_set _ _ (by omega)]
      exact rt_congr (fun i hi => Ag.of_eq (by rw [upd_c, PS.one_c]; split <;> rfl))
  intro i hi
  conv => whnf
  have hi1 : place 1 0 ((i : Int) + 1 - 1).toNat = i := by rw [place1]; omega
  repeat' first
    | (refine And.intro (Or.inl rfl) ?_; conv => whnf)
    | (refine Or.inl (Or.inl (Exists.intro _ (And.intro (vTgL i hi1 vRA) ?_))); conv => whnf)
    | (refine Or.inl (Exists.intro _ (And.intro (vTgL i hi1 vRA) ?_)); conv => whnf)
    | (apply Exists.intro; refine And.intro (vTgL i hi1 vRA) ?_; conv => whnf)
    | (refine Or.inl (Or.inl (Exists.intro _ (And.intro (vTgG i hi1 vRA) ?_))); conv => whnf)
    | (refine Or.inl (Exists.intro _ (And.intro (vTgG i hi1 vRA) ?_)); conv => whnf)
    | (apply Exists.intro; refine And.intro (vTgG i hi1 vRA) ?_; conv => whnf)
    | (refine Or.inl (Or.inl (Exists.intro _ (And.intro (sub_rt vRA (Nat.le_refl _)) ?_))); conv => whnf)
    | (refine Or.inl (Exists.intro _ (And.intro (sub_rt vRA (Nat.le_refl _)) ?_)); conv => whnf)
    | (apply Exists.intro; refine And.intro (sub_rt vRA (Nat.le_refl _)) ?_; conv => whnf)
    | (refine Or.inl (Or.inl (Exists.intro _ (And.intro (c_l12Times hm _ _ _ _ _ k hk φ ρ hf N hN (pwR k ρ N a i) a) ?_))); conv => whnf)
    | (refine Or.inl (Exists.intro _ (And.intro (c_l12Times hm _ _ _ _ _ k hk φ ρ hf N hN (pwR k ρ N a i) a) ?_)); conv => whnf)
    | (apply Exists.intro; refine And.intro (c_l12Times hm _ _ _ _ _ k hk φ ρ hf N hN (pwR k ρ N a i) a) ?_; conv => whnf)
    | (refine And.intro (fun h => ?_) (fun h => ?_) <;> (try simp only [cnt1, ints_length] at h) <;> conv => whnf)
    | (refine And.intro (show slotsOk _ = true by decide +kernel) ?_; conv => whnf)
    | (refine And.intro vOb ?_; conv => whnf)
    | (apply Exists.intro; refine And.intro vObt ?_; conv => whnf)
    | (apply Exists.intro; refine And.intro vObx ?_; conv => whnf)
    | (refine And.intro vArT ?_; conv => whnf)
    | (refine And.intro (inR64 vRA vRA) ?_; conv => whnf)
    | (refine And.intro (vTgLen vRA) ?_; conv => whnf)
    | (refine And.intro (one_lg _) ?_; conv => whnf)
    | (refine And.intro (tbg_plain _ _) ?_; conv => whnf)
    | (refine And.intro (vTgIx vRA) ?_; conv => whnf)
    | (refine And.intro (vRA) ?_; conv => whnf)
    | (refine Or.inl ?_; conv => whnf)
    | fail
  · refine Exists.intro (i + 1) (And.intro vRA (And.intro vRA ?_))
    first | refine WeakS.autoR ?_ | refine Weak.autoR ?_
    conv => whnf
    repeat' first
      | exact trivial
      | (refine And.intro rfl ?_; conv => whnf)
      | (refine And.intro (eqV_int vAr) ?_; conv => whnf)
      | (refine And.intro vOb ?_; conv => whnf)
      | (refine And.intro vRepl ?_; conv => whnf)
      | (refine And.intro vReplL ?_; conv => whnf)
      | (refine And.intro ?_ ?_ <;> try (conv => whnf))
    exact tbg_push rfl
  · rw [show i + 1 = N from vRA]
end Go.Proofs

