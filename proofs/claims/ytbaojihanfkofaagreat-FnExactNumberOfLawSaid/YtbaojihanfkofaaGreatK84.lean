/- The reference's equations for the extensions of a law. -/
-- tables
-- rec
import Derived.Test.YtbaojihanfkofaaGreatK82
import Derived.Test.YtbaojihanfkofaaGreatK29
namespace Go.Proofs
open Go Go.Vm Go.Fg Go.Fg.PS
set_option maxRecDepth 100000
set_option maxHeartbeats 4000000
set_option linter.unusedSimpArgs false
set_option linter.unusedVariables false
variable {m : Int}
theorem lowP_row (f : PS (PS (Zm m))) {n i : Nat} (h : i < n) : L (n - i) (f.c i) ++ [0] = L (n + 1 - i) ((lowP f n).c i) := by
  rw [show n + 1 - i = n - i + 1 by omega]
  have e : L (n - i) (f.c i) = L (n - i) ((lowP f n).c i) := L_congr (fun j hj => by rw [lowP_cc, if_pos (by omega)])
  rw [e]
  exact L_push (by rw [lowP_cc, if_neg (by omega)]; exact Zm.val_zero.symm)
theorem lowP_last (f : PS (PS (Zm m))) (n : Nat) : [0] = L (n + 1 - n) ((lowP f n).c n) := by
  rw [show n + 1 - n = 0 + 1 by omega]
  exact L_push (n := 0) (by rw [lowP_cc, if_neg (by omega)]; exact Zm.val_zero.symm)
theorem Tb_take_push (f : PS (PS (Zm m))) {n i : Nat} {l : List Int} (h : i < n) (e : l = L (n - i) (f.c i)) : (Tb n f).take i ++ [l] = (Tb n f).take (i + 1) := by
  subst e
  rw [List.take_add_one, ← Tb_getD f h, List.getD_eq_getElem?_getD, List.getElem?_eq_getElem (by simpa using h)]; rfl
theorem c_l01OwnB (o : Bool) (l : List Int) (hl : l.length ≤ 1048576) : PureCall Tryz.prog 58 [.list o 1 (ints l)] (.list true 1 (ints l)) := by
  refine pure_of_vcR Tryz.tabOk mixOrd Tryz.func58 rfl rfl ?_
  conv => whnf
  repeat' first | ((first | refine And.intro (Or.inl rfl) ?_ | (refine And.intro (fun h => ?_) (fun h => ?_) <;> (try simp only [cnt1, ints_length] at h)) | refine And.intro (show slotsOk _ = true by decide +kernel) ?_ | refine And.intro vOb ?_ | (apply Exists.intro; refine And.intro vObt ?_) | (apply Exists.intro; refine And.intro vObx ?_) | refine And.intro vArT ?_ | refine Or.inl ?_) <;> conv => whnf) | fail
  rfl
theorem c_l07Longer (o p : Bool) (n : Nat) (hn : 1 ≤ n ∧ n ≤ 100) (f : PS (PS (Zm m))) : PureCall Tryz.prog 54 [TbD o p n f] (TbD true true (n + 1) (lowP f n)) := by
  have hT : ∀ i, i < n → (Tb (n + 1) (lowP f n)).take i ++ [L (n - i) (f.c i) ++ [0]] = (Tb (n + 1) (lowP f n)).take (i + 1) := fun i hi => Tb_take_push _ (by omega) (lowP_row f hi)
  have hE : (Tb (n + 1) (lowP f n)).take n ++ [[0]] = Tb (n + 1) (lowP f n) := by
    rw [Tb_take_push (lowP f n) (by omega) (lowP_last f n), List.take_of_length_le (by simp)]
  have hPl : ∀ (t : List (List Int)) (x : D), x ∈ rows true t ++ [D.list true 1 [dint 0]] → PlainD x := fun t => by
    rw [show ([D.list true 1 [dint 0]] : List D) = [D.list true 1 (ints [0])] from rfl, rows_append]; exact rows_plain _
  refine pure_of_vcR Tryz.tabOk mixOrd Tryz.func54 rfl rfl ?_
  conv => whnf
  repeat' first | ((first | refine And.intro (Or.inl rfl) ?_ | (refine And.intro (fun h => ?_) (fun h => ?_) <;> (try simp only [cnt1, ints_length] at h)) | refine And.intro (show slotsOk _ = true by decide +kernel) ?_ | refine And.intro vOb ?_ | (apply Exists.intro; refine And.intro vObt ?_) | (apply Exists.intro; refine And.intro vObx ?_) | refine And.intro vArT ?_ | refine Or.inl ?_) <;> conv => whnf) | fail
  refine loop_atR Tryz.tabOk mixOrd (α := Nat) (fun i => [(4, dint i), (3, .ref 0 [] 1 0 i), (5, .undef)]) (fun i => [(0, some ⟨false, 1, rows true ((Tb (n + 1) (lowP f n)).take i)⟩)]) (fun i => i ≤ n) (fun i => n - i) (0) ?_ ?_ ?_
  · omega
  · conv => whnf
    first | refine WeakS.autoR ?_ | refine Weak.autoR ?_
    conv => whnf
    repeat' ((first | exact trivial | refine And.intro rfl ?_ | refine And.intro (eqV_int vAr) ?_ | refine And.intro vOb ?_ | refine And.intro vRepl ?_ | refine And.intro vReplL ?_ | refine And.intro ?_ ?_) <;> try (conv => whnf))
  intro i hi
  conv => whnf
  repeat' first | ((first | refine And.intro (Or.inl rfl) ?_ | (apply Exists.intro; refine And.intro (c_l01OwnB _ (L (n - i) (f.c i)) (by rw [L_length]; omega)) ?_) | (refine And.intro (fun h => ?_) (fun h => ?_) <;> (try simp only [cnt1, ints_length] at h)) | refine And.intro (show slotsOk _ = true by decide +kernel) ?_ | refine And.intro vOb ?_ | (apply Exists.intro; refine And.intro vObt ?_) | (apply Exists.intro; refine And.intro vObx ?_) | refine And.intro vArT ?_ | (refine And.intro ((by simp; omega)) ?_) | refine And.intro (one_lst _ _ _) ?_ | refine And.intro (rows_plain _) ?_ | refine And.intro (hPl _) ?_ | refine Or.inl ?_) <;> conv => whnf) | fail
  · refine Exists.intro (i + 1) (And.intro vAr (And.intro vAr ?_))
    first | refine WeakS.autoR ?_ | refine Weak.autoR ?_
    conv => whnf
    repeat' ((first | exact trivial | refine And.intro rfl ?_ | refine And.intro (eqV_int vAr) ?_ | refine And.intro vOb ?_ | refine And.intro vRepl ?_ | refine And.intro vReplL ?_ | refine And.intro ?_ ?_) <;> try (conv => whnf))
    exact rows_congr (hT i vAr)
  · have e : i = n := vAr
    subst e
    exact congrArg (D.list true 1) ((rows_append true _ [0]).trans (rows_congr hE))
theorem getD_set (l : List Int) (i k : Nat) (x : Int) : (l.set i x).getD k 0 = if k = i ∧ i < l.length then x else l.getD k 0 := by
  simp only [List.getD_eq_getElem?_getD]
  by_cases e : i = k
  · subst e
    by_cases h : i < l.length
    · rw [List.getElem?_set_self h, if_pos ⟨rfl, h⟩]; rfl
    · rw [if_neg (fun c => h c.2), List.getElem?_eq_none (by simpa using h), List.getElem?_eq_none (by simpa using h)]
  · rw [List.getElem?_set_ne e, if_neg (fun c => e c.1.symm)]
theorem row3_at {n i j : Nat} {X Y Z : Int} (hi : i < n - 1) (hj : j < n - 1) (hij : i ≠ j) (k : Nat) : ((((List.replicate n (0 : Int)).set i X).set j Y).set (n - 1) Z).getD k 0 = if k = n - 1 then Z else if k = j then Y else if k = i then X else 0 := by
  rw [getD_set, getD_set, getD_set, zero_getD]
  simp only [List.length_set, List.length_replicate]
  have h1 : n - 1 < n := by omega
  have h2 : j < n := by omega
  have h3 : i < n := by omega
  simp only [h1, h2, h3, and_true]
theorem row3_iff {n i j : Nat} {X Y Z : Int} (hi : i < n - 1) (hj : j < n - 1) (hij : i ≠ j) (x : Nat → Int) : RowS m (n - 1) ((((List.replicate n (0 : Int)).set i X).set j Y).set (n - 1) Z) x ↔ m ∣ X * x i + Y * x j - Z := by
  unfold RowS
  rw [sumI_two hi hj hij (fun k h1 h2 h3 => by rw [row3_at hi hj hij, if_neg (by omega), if_neg h3, if_neg h2, Int.zero_mul])]
  simp only [row3_at hi hj hij]
  rw [if_neg (by omega), if_neg hij, if_pos trivial, if_neg (by omega), if_pos trivial, if_pos trivial]
theorem row3_b {n i j : Nat} {X Y Z : Int} (hm : 0 < m) (hn : 1 ≤ n) (hi : i < n - 1) (hj : j < n - 1) (hij : i ≠ j) (hX : 0 ≤ X ∧ X < m) (hY : 0 ≤ Y ∧ Y < m) (hZ : 0 ≤ Z ∧ Z < m) :
    RowB m (n - 1) (n - 1) ((((List.replicate n (0 : Int)).set i X).set j Y).set (n - 1) Z) := by
  refine ⟨by simp; omega, fun k => ?_, fun k h1 h2 => by omega⟩
  rw [row3_at hi hj hij]
  split
  · exact hZ
  · split
    · exact hY
    · split
      · exact hX
      · omega
theorem row2_eq {n i j : Nat} {X Y : Int} (hi : i < n - 1) (hj : j < n - 1) : ((List.replicate n (0 : Int)).set i X).set j Y = (((List.replicate n (0 : Int)).set i X).set j Y).set (n - 1) 0 := by
  refine List.ext_getElem? (fun k => ?_)
  rw [List.getElem?_set (i := n - 1)]
  by_cases h1 : n - 1 = k
  · subst h1
    rw [if_pos rfl, List.getElem?_set_ne (by omega), List.getElem?_set_ne (by omega), List.getElem?_replicate]
    simp
  · rw [if_neg h1]
theorem gam_lr {f : PS (PS (Zm m))} {N a b c : Nat} (h0 : (f.c 0).c 0 = 0) (h : a + b + c < N) : gam f N a b c = lft f N a b c - rgt f N a b c := by
  have e1 : sm N (fun i => (f.c i).c c * ((pw f i).c a).c b) = lft f N a b c := sm_ext (n := N - c) (by omega) (fun i h1 h2 => by rw [pw_low2 h0 i a b (by omega), Go.Fg.mul_zero])
  have e2 : sm N (fun j => (f.c a).c j * ((pw f j).c b).c c) = rgt f N a b c := sm_ext (n := N - a) (by omega) (fun i h1 h2 => by rw [pw_low2 h0 i b c (by omega), Go.Fg.mul_zero])
  unfold gam
  rw [e1, e2]
theorem vGB {n q : Nat} {f : PS (PS (Zm m))} (a : Nat) (e : q = a) (h : a < n) : getB (rows true (Tb n f)) ([] ++ [q]) = some (ints (L (n - a) (f.c a))) := by
  subst e
  rw [← Tb_getD f h]
  exact getB_rows (by simpa using h)
theorem vLTb {n q r : Nat} {f : PS (PS (Zm m))} (a b : Nat) (e : q = a) (e2 : r = b) (h : a + b < n) : LoadRow (rows true (Tb n f)) ([] ++ [q]) r (dint ((f.c a).c b).val) := by
  subst e; subst e2
  exact vLoadT rfl rfl h
theorem set3_congr {n n' i i' j j' k k' : Nat} {X X' Y Y' Z Z' : Int} (h : n = n') (h1 : i = i') (h2 : X = X') (h3 : j = j') (h4 : Y = Y') (h5 : k = k') (h6 : Z = Z') :
    (((List.replicate n (0 : Int)).set i X).set j Y).set k Z = (((List.replicate n' (0 : Int)).set i' X').set j' Y').set k' Z' := by
  subst h; subst h1; subst h2; subst h3; subst h4; subst h5; subst h6; rfl
def EqSy (m : Int) (n K : Nat) (x : Nat → Int) : Prop := ∀ k, 1 ≤ k → k < K → 2 * k < n → m ∣ x (k - 1) - x (n - k - 1)
def EqAs (f : PS (PS (Zm m))) (n C A : Nat) (x : Nat → Int) : Prop := ∀ a b c, 1 ≤ a → 1 ≤ b → 1 ≤ c → a + b + c = n → (c < C ∨ (c = C ∧ a < A)) → m ∣ x (a + b - 1) * (bin (a + b) a : Nat) - x (a - 1) * (bin (b + c) b : Nat) + (gam f (n + 1) a b c).val
theorem sy_row {n k : Nat} (x : Nat → Int) (hk : 1 ≤ k) (h : 2 * k < n) : RowS m (n - 1) (((List.replicate n (0 : Int)).set (k - 1) 1).set (n - k - 1) (m - 1)) x ↔ m ∣ x (k - 1) - x (n - k - 1) := by
  rw [row2_eq (by omega) (by omega), row3_iff (by omega) (by omega) (by omega)]
  refine dvd_mod_iff ?_
  rw [show 1 * x (k - 1) + (m - 1) * x (n - k - 1) - 0 - (x (k - 1) - x (n - k - 1)) = m * x (n - k - 1) by rw [Int.sub_mul]; omega]
  exact Int.dvd_mul_right _ _
theorem as_row {f : PS (PS (Zm m))} {n a b c : Nat} {X Y Z : Int} (x : Nat → Int) (h0 : (f.c 0).c 0 = 0) (ha : 1 ≤ a) (hb : 1 ≤ b) (hc : 1 ≤ c) (h : a + b + c = n) (hX : Zm.mk m X = Zm.mk m (bin (a + b) a : Nat)) (hY : Zm.mk m Y = Zm.mk m (0 - (bin (b + c) b : Nat)))
    (hZ : Zm.mk m Z = rgt f (n + 1) a b c - lft f (n + 1) a b c) : RowS m (n - 1) ((((List.replicate n (0 : Int)).set (a + b - 1) X).set (a - 1) Y).set (n - 1) Z) x ↔ m ∣ x (a + b - 1) * (bin (a + b) a : Nat) - x (a - 1) * (bin (b + c) b : Nat) + (gam f (n + 1) a b c).val := by
  rw [row3_iff (by omega) (by omega) (by omega), ← mk_zero_iff, ← mk_zero_iff]
  rw [Zm.mk_sub, Zm.mk_add, Zm.mk_mul, Zm.mk_mul, hX, hY, hZ, Zm.mk_add (x (a + b - 1) * _ - _), Zm.mk_sub (x (a + b - 1) * _), Zm.mk_mul (x (a + b - 1)), Zm.mk_mul (x (a - 1)), Zm.mk_val, gam_lr h0 (by omega), Zm.mk_sub, Zm.mk_zero]
  rw [show Zm.mk m (bin (a + b) a : Nat) * Zm.mk m (x (a + b - 1)) + (0 - Zm.mk m (bin (b + c) b : Nat)) * Zm.mk m (x (a - 1)) - (rgt f (n + 1) a b c - lft f (n + 1) a b c)
    = Zm.mk m (x (a + b - 1)) * Zm.mk m (bin (a + b) a : Nat) - Zm.mk m (x (a - 1)) * Zm.mk m (bin (b + c) b : Nat) + (lft f (n + 1) a b c - rgt f (n + 1) a b c) by
      simp only [Go.Fg.sub_def, CR.zero_add, Go.Fg.neg_mul, Go.Fg.neg_add_rev, Go.Fg.neg_neg]
      rw [CR.mul_comm (Zm.mk m (bin (a + b) a : Nat)), CR.mul_comm (Zm.mk m (bin (b + c) b : Nat))]
      ac_rfl]
theorem c_l07Equations (hm : Md m) (o p : Bool) (n : Nat) (hn : 2 ≤ n ∧ n ≤ 10) (f : PS (PS (Zm m))) (h00 : (f.c 0).c 0 = 0) : CallsTo Tryz.prog 55 1 [dint m, TbD o p n f] [none]
    (fun d rt => ∃ M : List (List Int), (∀ r ∈ M, RowB m (n - 1) (n - 1) r) ∧ M.length ≤ 200 ∧ (∀ x, AllS m (n - 1) M x ↔ EqI (lowP f n) n x) ∧ d = .ref 1 [] 1 0 M.length ∧ rt = [none, some ⟨false, 1, rows true M⟩]) := by
  have hm1 := hm.1
  have hm2 := hm.2
  have hF0 : ((lowP f n).c 0).c 0 = 0 := by rw [lowP_cc, if_pos (by omega)]; exact h00
  refine callsTo_of Tryz.tabOk mixOrd 1 _ Tryz.func55 rfl rfl ?_
  conv => whnf
  repeat' first | ((first | refine And.intro (Or.inl rfl) ?_ | (apply Exists.intro; refine And.intro (c_l07Longer _ _ n vAr f) ?_) | (refine And.intro (fun h => ?_) (fun h => ?_) <;> (try simp only [cnt1, ints_length] at h)) | refine And.intro (show slotsOk _ = true by decide +kernel) ?_ | refine And.intro vOb ?_ | (apply Exists.intro; refine And.intro vObt ?_) | (apply Exists.intro; refine And.intro vObx ?_) | refine And.intro vArT ?_ | refine Or.inl ?_) <;> conv => whnf) | fail
  refine loop_atR Tryz.tabOk mixOrd (α := (List (List Int)) × Nat) (fun x => [(8, dint ((x.2 : Int) + 1)), (7, .ref 2 [] 1 0 x.1.length), (9, .undef), (23, .undef), (35, .undef), (43, .undef)]) (fun x => [(2, some ⟨false, 1, rows true x.1⟩)]) (fun x => (∀ r ∈ x.1, RowB m (n - 1) (n - 1) r) ∧ x.1.length = x.2 ∧ x.2 ≤ n ∧ ∀ y, AllS m (n - 1) x.1 y ↔ EqSy m n (x.2 + 1) y) (fun x => n - x.2) (([], 0)) ?_ ?_ ?_
  · exact ⟨fun r hr => by simp at hr, rfl, by omega, fun y => ⟨fun _ k h1 h2 h3 => by simp only at h2; omega, fun _ r hr => by simp at hr⟩⟩
  · conv => whnf
    first | refine WeakS.autoR ?_ | refine Weak.autoR ?_
    conv => whnf
    repeat' ((first | exact trivial | refine And.intro rfl ?_ | refine And.intro (eqV_int vAr) ?_ | refine And.intro vOb ?_ | refine And.intro vRepl ?_ | refine And.intro vReplL ?_ | refine And.intro ?_ ?_) <;> try (conv => whnf))
  intro ⟨M, k⟩ ⟨hMb, hMl, hk, hMs⟩
  simp only at hMb hMl hk hMs
  conv => whnf
  repeat' first | ((first | refine And.intro (Or.inl rfl) ?_ | (refine And.intro (fun h => ?_) (fun h => ?_) <;> (try simp only [cnt1, ints_length] at h)) | refine And.intro (show slotsOk _ = true by decide +kernel) ?_ | refine And.intro vOb ?_ | (apply Exists.intro; refine And.intro vObt ?_) | (apply Exists.intro; refine And.intro vObx ?_) | refine And.intro vArT ?_ | refine Or.inl ?_) <;> conv => whnf) | fail
  · have h2 : 2 * (k + 1) < n := vAr
    refine Exists.intro (M ++ [((List.replicate n 0).set (k + 1 - 1) 1).set (n - (k + 1) - 1) (m - 1)], k + 1) (And.intro ⟨fun r hr => ?_, by simp only [List.length_append, List.length_singleton]; omega, by simp only; omega, fun y => ?_⟩ (And.intro (by simp only; omega) ?_))
    · rcases List.mem_append.1 hr with h | h
      · exact hMb r h
      · rw [List.mem_singleton.1 h, row2_eq (by omega) (by omega)]
        exact row3_b hm.pos (by omega) (by omega) (by omega) (by omega) (by omega) (by omega) (by omega)
    · rw [AllS.append, AllS.one, hMs, sy_row y (by omega) h2]
      constructor
      · rintro ⟨h3, h4⟩ k' h5 h6 h7
        rcases Nat.lt_or_ge k' (k + 1) with h' | h'
        · exact h3 k' h5 h' h7
        · rw [show k' = k + 1 by simp only at h6; omega]; exact h4
      · exact fun h3 => ⟨fun k' h5 h6 h7 => h3 k' h5 (by simp only; omega) h7, h3 (k + 1) (by omega) (by simp only; omega) h2⟩
    first | refine WeakS.autoR ?_ | refine Weak.autoR ?_
    conv => whnf
    repeat' ((first | exact trivial | refine And.intro rfl ?_ | refine And.intro (eqV_int vAr) ?_ | refine And.intro vOb ?_ | refine And.intro vRepl ?_ | refine And.intro vReplL ?_ | refine And.intro ?_ ?_) <;> try (conv => whnf))
    refine rows_congr ?_
    rw [show n + 1 - 1 = n by omega, show ((k : Int) + 1 - 1).toNat = k + 1 - 1 by omega, show (((n + 1 : Nat) : Int) - 1 - ((k : Int) + 1) - 1).toNat = n - (k + 1) - 1 by omega]
  · have h2 : ¬ 2 * (k + 1) < n := vAr
    have hMs' : ∀ y, AllS m (n - 1) M y ↔ EqSy m n n y := fun y => (hMs y).trans ⟨fun h k' h5 h6 h7 => h k' h5 (by omega) h7, fun h k' h5 h6 h7 => h k' h5 (by omega) h7⟩
    have hR : ∀ a b c, ((comp2N ((lowP f n).c a) (lowP f n) 0 (n + 1 - a)).c b).c c = rgt (lowP f n) (n + 1) a b c := fun a b c => rgt_eq _ _ _ _ _
    refine loop_atR Tryz.tabOk mixOrd (α := Nat) (fun a => [(11, dint a), (10, .ref 3 [] 1 0 a), (48, .undef)]) (fun a => [(3, some ⟨false, 1, tbs (n + 1) (fun a => comp2N ((lowP f n).c a) (lowP f n) 0 (n + 1 - a)) a⟩)]) (fun a => a ≤ n) (fun a => n - a) (0) ?_ ?_ ?_
    · omega
    · conv => whnf
      first | refine WeakS.autoR ?_ | refine Weak.autoR ?_
      conv => whnf
      repeat' ((first | exact trivial | refine And.intro rfl ?_ | refine And.intro (eqV_int vAr) ?_ | refine And.intro vOb ?_ | refine And.intro vRepl ?_ | refine And.intro vReplL ?_ | refine And.intro ?_ ?_) <;> try (conv => whnf))
    intro a ha
    conv => whnf
    repeat' first | ((first | refine And.intro (Or.inl rfl) ?_ | (apply Exists.intro; refine And.intro (c_l03After hm _ _ _ (n + 1) vAr (n + 1 - a) vAr _ _) ?_) | (apply Exists.intro; refine And.intro (vGB a vIx vAr) ?_) | (refine And.intro (fun h => ?_) (fun h => ?_) <;> (try simp only [cnt1, ints_length] at h)) | refine And.intro (show slotsOk _ = true by decide +kernel) ?_ | refine And.intro vOb ?_ | (apply Exists.intro; refine And.intro vObt ?_) | (apply Exists.intro; refine And.intro vObx ?_) | refine And.intro vArT ?_ | refine And.intro (vTlen (by omega)) ?_ | refine And.intro (one_lst _ _ _) ?_ | refine Or.inl ?_) <;> conv => whnf) | fail
    · refine Exists.intro (a + 1) (And.intro vAr (And.intro vAr ?_))
      first | refine WeakS.autoR ?_ | refine Weak.autoR ?_
      conv => whnf
      repeat' ((first | exact trivial | refine And.intro rfl ?_ | refine And.intro (eqV_int vAr) ?_ | refine And.intro vOb ?_ | refine And.intro vRepl ?_ | refine And.intro vReplL ?_ | refine And.intro ?_ ?_) <;> try (conv => whnf))
      exact tbs_push rfl
    · have han : a = n := vAr
      subst han
      refine loop_atR Tryz.tabOk mixOrd (α := (List (List Int)) × Nat) (fun x => [(12, dint ((x.2 : Int) + 1)), (7, .ref 2 [] 1 0 x.1.length), (13, .undef), (14, .undef), (15, .undef), (16, .undef), (17, .undef)]) (fun x => [(2, some ⟨false, 1, rows true x.1⟩)]) (fun x => (∀ r ∈ x.1, RowB m (a - 1) (a - 1) r) ∧ x.1.length ≤ 20 + 12 * x.2 ∧ x.2 + 1 ≤ a ∧ ∀ y, AllS m (a - 1) x.1 y ↔ EqSy m a a y ∧ EqAs (lowP f a) a (x.2 + 1) 1 y) (fun x => a - x.2) ((M, 0)) ?_ ?_ ?_
      · exact ⟨hMb, by simp only; omega, by omega, fun y => (hMs' y).trans ⟨fun h => ⟨h, fun p q r h1 h2 h3 h4 h5 => by simp only at h5; omega⟩, fun h => h.1⟩⟩
      · conv => whnf
        first | refine WeakS.autoR ?_ | refine Weak.autoR ?_
        conv => whnf
        repeat' ((first | exact trivial | refine And.intro rfl ?_ | refine And.intro (eqV_int vAr) ?_ | refine And.intro vOb ?_ | refine And.intro vRepl ?_ | refine And.intro vReplL ?_ | refine And.intro ?_ ?_) <;> try (conv => whnf))
      intro ⟨M, c⟩ ⟨hMb, hMl, hc, hMs⟩
      simp only at hMb hMl hc hMs
      conv => whnf
      repeat' first | ((first | refine And.intro (Or.inl rfl) ?_ | (apply Exists.intro; refine And.intro (c_l04Column _ _ (a + 1) vAr (lowP f a) (c + 1) vAr) ?_) | (apply Exists.intro; refine And.intro (c_l03After hm _ _ _ (a + 1) vAr (a + 1 - (c + 1)) vAr _ _) ?_) | (refine And.intro (fun h => ?_) (fun h => ?_) <;> (try simp only [cnt1, ints_length] at h)) | refine And.intro (show slotsOk _ = true by decide +kernel) ?_ | refine And.intro vOb ?_ | (apply Exists.intro; refine And.intro vObt ?_) | (apply Exists.intro; refine And.intro vObx ?_) | refine And.intro vArT ?_ | refine Or.inl ?_) <;> conv => whnf) | fail
      · have hca : c + 1 < a := vAr
        refine loop_atR Tryz.tabOk mixOrd (α := (List (List Int)) × Nat) (fun x => [(14, dint ((x.2 : Int) + 1)), (7, .ref 2 [] 1 0 x.1.length), (15, .undef), (16, .undef), (17, .undef)]) (fun x => [(2, some ⟨false, 1, rows true x.1⟩)]) (fun x => (∀ r ∈ x.1, RowB m (a - 1) (a - 1) r) ∧ x.1.length ≤ 20 + 12 * c + x.2 ∧ x.2 + c + 2 ≤ a ∧ ∀ y, AllS m (a - 1) x.1 y ↔ EqSy m a a y ∧ EqAs (lowP f a) a (c + 1) (x.2 + 1) y) (fun x => a - x.2) ((M, 0)) ?_ ?_ ?_
        · exact ⟨hMb, by simp only; omega, by simp only; omega, hMs⟩
        · conv => whnf
          first | refine WeakS.autoR ?_ | refine Weak.autoR ?_
          conv => whnf
          repeat' ((first | exact trivial | refine And.intro rfl ?_ | refine And.intro (eqV_int vAr) ?_ | refine And.intro vOb ?_ | refine And.intro vRepl ?_ | refine And.intro vReplL ?_ | refine And.intro ?_ ?_) <;> try (conv => whnf))
        intro ⟨M, i⟩ ⟨hMb, hMl, hi, hMs⟩
        simp only at hMb hMl hi hMs
        have hB : ∀ n k : Nat, n ≤ 10 → 0 ≤ ((bin n k : Nat) : Int) ∧ ((bin n k : Nat) : Int) ≤ 1024 := fun n k h => by
          have h1 := bin_le n k
          have h2 : 2 ^ n ≤ 2 ^ 10 := Nat.pow_le_pow_right (by omega) h
          omega
        conv => whnf
        by_cases hia : i + 1 + (c + 1) < a
        · obtain ⟨b, hb⟩ : ∃ b, b = a - (i + 1) - (c + 1) := ⟨_, rfl⟩
          have hb1 := hB (i + 1 + b) (i + 1) (by omega)
          have hb2 := hB (b + (c + 1)) b (by omega)
          have hv1 := fun p q r : Nat => Zm.val_range hm.pos (((comp2N ((lowP f a).c p) (lowP f a) 0 (a + 1 - p)).c q).c r)
          have hv2 := fun p q : Nat => Zm.val_range hm.pos (((comp2N (colS (lowP f a) (c + 1)) (lowP f a) 0 (a + 1 - (c + 1))).c p).c q)
          have hw1 := hv1 (i + 1) b (c + 1)
          have hw2 := hv2 (i + 1) b
          repeat' first | ((first | refine And.intro (Or.inl rfl) ?_ | (apply Exists.intro; refine And.intro (c_l01Binomial' (i + 1 + b) (i + 1) (by omega) vAr vAr) ?_) | (apply Exists.intro; refine And.intro (c_l01Binomial' (b + (c + 1)) b (by omega) vAr vAr) ?_) | (apply Exists.intro; refine And.intro (c_l01Mod _ _ hm.pos (by omega)) ?_) | (apply Exists.intro; refine And.intro (vT3a (i + 1) vIx vAr) ?_) | (apply Exists.intro; refine And.intro (vT3b (i + 1) b vIx (by first | omega | (simp only [place1, cnt1, rows_length, Tb_length]; omega)) vAr vAr) ?_) | (apply Exists.intro; refine And.intro (vT3c (i + 1) b (c + 1) vIx (by first | omega | (simp only [place1, cnt1, rows_length, Tb_length]; omega)) vIx vAr vAr) ?_) | (apply Exists.intro; refine And.intro (vLTb (i + 1) b vIx (by first | omega | (simp only [place1, cnt1, rows_length, Tb_length]; omega)) vAr) ?_) | (refine And.intro (fun h => ?_) (fun h => ?_) <;> (try simp only [cnt1, ints_length, rows_length, Tb_length] at h) <;> first | (exfalso; omega) | skip) | refine And.intro (show slotsOk _ = true by decide +kernel) ?_ | refine And.intro vOb ?_ | (apply Exists.intro; refine And.intro vObt ?_) | (apply Exists.intro; refine And.intro vObx ?_) | refine And.intro vArT ?_ | (refine And.intro ((by rw [zero_getD]; exact inR64 (by omega) (by omega))) ?_) | (refine And.intro ((by rw [getD_set, if_neg (fun e => by omega), zero_getD]; exact inR64 (by omega) (by omega))) ?_) | refine Or.inl ?_) <;> conv => whnf) | fail
          have hX : Zm.mk m (((bin (i + 1 + b) (i + 1) : Nat) : Int).tmod m) = Zm.mk m (bin (i + 1 + b) (i + 1) : Nat) := Zm.mk_tmod _
          have hY : Zm.mk m ((0 - ((bin (b + (c + 1)) b : Nat) : Int)) % m) = Zm.mk m (0 - (bin (b + (c + 1)) b : Nat)) := Zm.mk_mod _
          have hZ : Zm.mk m (((((comp2N ((lowP f a).c (i + 1)) (lowP f a) 0 (a + 1 - (i + 1))).c b).c (c + 1)).val - (((comp2N (colS (lowP f a) (c + 1)) (lowP f a) 0 (a + 1 - (c + 1))).c (i + 1)).c b).val) % m) = rgt (lowP f a) (a + 1) (i + 1) b (c + 1) - lft (lowP f a) (a + 1) (i + 1) b (c + 1) := by
            rw [Zm.mk_mod, Zm.mk_sub, Zm.mk_val, Zm.mk_val, rgt_eq, lft_eq]
          have rX := Int.tmod_nonneg m hb1.1
          have rX2 := Int.tmod_lt_of_pos ((bin (i + 1 + b) (i + 1) : Nat) : Int) (show 0 < m by omega)
          have rM : ∀ z : Int, 0 ≤ z % m ∧ z % m < m := fun z => ⟨Int.emod_nonneg _ (by omega), Int.emod_lt_of_pos _ (by omega)⟩
          refine Exists.intro (M ++ [(((List.replicate a (0 : Int)).set (i + 1 + b - 1) (((bin (i + 1 + b) (i + 1) : Nat) : Int).tmod m)).set (i + 1 - 1) ((0 - ((bin (b + (c + 1)) b : Nat) : Int)) % m)).set (a - 1) (((((comp2N ((lowP f a).c (i + 1)) (lowP f a) 0 (a + 1 - (i + 1))).c b).c (c + 1)).val - (((comp2N (colS (lowP f a) (c + 1)) (lowP f a) 0 (a + 1 - (c + 1))).c (i + 1)).c b).val) % m)], i + 1) (And.intro ⟨fun r hr => ?_, by simp only [List.length_append, List.length_singleton]; omega, by simp only; omega, fun y => ?_⟩ (And.intro (by simp only; omega) ?_))
          · rcases List.mem_append.1 hr with h | h
            · exact hMb r h
            · rw [List.mem_singleton.1 h]
              exact row3_b hm.pos (by omega) (by omega) (by omega) (by omega) ⟨rX, rX2⟩ (rM _) (rM _)
          · rw [AllS.append, AllS.one, hMs, as_row y hF0 (by omega) (by omega) (by omega) (by omega) hX hY hZ, and_assoc]
            refine and_congr Iff.rfl ⟨?_, ?_⟩
            · rintro ⟨h3, h4⟩ p q r h5 h6 h7 h8 h9
              by_cases e : r = c + 1 ∧ p = i + 1
              · obtain ⟨e1, e2⟩ := e
                subst e1; subst e2
                rw [show q = b by omega]; exact h4
              · exact h3 p q r h5 h6 h7 h8 (by simp only at h9; omega)
            · exact fun h3 => ⟨fun p q r h5 h6 h7 h8 h9 => h3 p q r h5 h6 h7 h8 (by simp only; omega), h3 (i + 1) b (c + 1) (by omega) (by omega) (by omega) (by omega) (.inr ⟨rfl, Nat.lt_succ_self _⟩)⟩
          first | refine WeakS.autoR ?_ | refine Weak.autoR ?_
          conv => whnf
          repeat' ((first | exact trivial | refine And.intro rfl ?_ | refine And.intro (eqV_int vAr) ?_ | refine And.intro vOb ?_ | refine And.intro vRepl ?_ | refine And.intro vReplL ?_ | refine And.intro ?_ ?_) <;> try (conv => whnf))
          refine rows_congr (congrArg (fun r => M ++ [r]) ?_)
          exact set3_congr (by omega) (by first | omega | (simp only [place1, cnt1, rows_length, Tb_length]; omega)) (by rw [zero_getD, Int.zero_add]) (by first | omega | (simp only [place1, cnt1, rows_length, Tb_length]; omega)) (by rw [getD_set, if_neg (fun e => by first | omega | (simp only [place1, cnt1, rows_length, Tb_length] at e; omega)), zero_getD]) (by first | omega | (simp only [place1, cnt1, rows_length, Tb_length]; omega)) rfl
        · repeat' first | ((first | refine And.intro (Or.inl rfl) ?_ | (refine And.intro (fun h => ?_) (fun h => ?_) <;> (try simp only [cnt1, ints_length, rows_length, Tb_length] at h) <;> first | (exfalso; omega) | skip) | refine And.intro (show slotsOk _ = true by decide +kernel) ?_ | refine And.intro vOb ?_ | (apply Exists.intro; refine And.intro vObt ?_) | (apply Exists.intro; refine And.intro vObx ?_) | refine And.intro vArT ?_ | refine Or.inl ?_) <;> conv => whnf) | fail
          have hia2 : i + 1 + (c + 1) = a := by omega
          refine Exists.intro (M, c + 1) (And.intro ⟨hMb, by simp only; omega, by simp only; omega, fun y => (hMs y).trans ?_⟩ (And.intro (by simp only; omega) ?_))
          · refine and_congr Iff.rfl ⟨fun h p q r h1 h2 h3 h4 h5 => h p q r h1 h2 h3 h4 (by simp only at h5; omega), fun h p q r h1 h2 h3 h4 h5 => h p q r h1 h2 h3 h4 (by simp only; omega)⟩
          first | refine WeakS.autoR ?_ | refine Weak.autoR ?_
          conv => whnf
          repeat' ((first | exact trivial | refine And.intro rfl ?_ | refine And.intro (eqV_int vAr) ?_ | refine And.intro vOb ?_ | refine And.intro vRepl ?_ | refine And.intro vReplL ?_ | refine And.intro ?_ ?_) <;> try (conv => whnf))
      · have hca : c + 1 = a := by simp only [rows_length, Tb_length] at *; omega
        refine ⟨.ref 1 [] 1 0 M.length, [none, some ⟨false, 1, rows true M⟩], ⟨M, hMb, by omega, fun y => (hMs y).trans ?_, rfl, rfl⟩, ?_⟩
        · exact and_congr ⟨fun h k' h5 h7 => h k' h5 (by omega) h7, fun h k' h5 h6 h7 => h k' h5 h7⟩ ⟨fun h p q r h1 h2 h3 h4 => h p q r h1 h2 h3 h4 (by omega), fun h p q r h1 h2 h3 h4 h5 => h p q r h1 h2 h3 h4⟩
        · have hw := fun st => Weak.autoR (kp := 1) (st := st) (st2 := ⟨[.ref 1 [] 1 0 M.length], [none, some ⟨false, 1, rows true M⟩]⟩)
          refine hw _ ?_
          conv => whnf
          repeat' first
            | exact trivial
            | (refine And.intro rfl ?_; conv => whnf)
end Go.Proofs

