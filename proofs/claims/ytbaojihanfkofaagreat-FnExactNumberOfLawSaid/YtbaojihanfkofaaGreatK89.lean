/- The program's equations: solutions. -/
-- tables
-- rec
import Derived.Test.YtbaojihanfkofaaGreatK86
import Derived.Test.YtbaojihanfkofaaGreatK84
namespace Go.Proofs
open Go Go.Vm Go.Fg Go.Fg.PS
set_option maxRecDepth 100000
set_option maxHeartbeats 4000000
set_option linter.unusedSimpArgs false
set_option linter.unusedVariables false
variable {m : Int}
def rowT (f : PS (PS (Zm m))) (n N H : Nat) (q : Int) (a b : Nat) : List Int := (sideL n q (H + 1) a b (n - a - b)).set H ((lft f N a b (n - a - b) - rgt f N a b (n - a - b)).val.tmod q)
def rowsA (f : PS (PS (Zm m))) (n N H : Nat) (q : Int) : Nat → List (List Int)
  | 0 => []
  | a + 1 => rowsA f n N H q a ++ (List.range (n - a + 1)).map (rowT f n N H q a)
def rowsAB (f : PS (PS (Zm m))) (n N H : Nat) (q : Int) (a b : Nat) : List (List Int) := rowsA f n N H q a ++ (List.range b).map (rowT f n N H q a)
theorem rowsAB_zero (f : PS (PS (Zm m))) (n N H : Nat) (q : Int) (a : Nat) : rowsAB f n N H q a 0 = rowsA f n N H q a := by simp [rowsAB]
theorem rowsAB_push (f : PS (PS (Zm m))) (n N H : Nat) (q : Int) (a b : Nat) : rowsAB f n N H q a b ++ [rowT f n N H q a b] = rowsAB f n N H q a (b + 1) := by
  simp [rowsAB, List.range_succ]
theorem rowsAB_end (f : PS (PS (Zm m))) (n N H : Nat) (q : Int) {a b : Nat} (h : b = n - a + 1) : rowsAB f n N H q a b = rowsA f n N H q (a + 1) := by subst h; rfl
theorem rowsA_len (f : PS (PS (Zm m))) (n N H : Nat) (q : Int) (a : Nat) : (rowsA f n N H q a).length ≤ a * (n + 1) := by
  induction a with
  | zero => simp [rowsA]
  | succ a ih =>
    simp only [rowsA, List.length_append, List.length_map, List.length_range, Nat.add_mul]
    omega
theorem c_triples (hm : Md m) {q : Int} (hq : Md q) (n N H : Nat) (hn : 2 ≤ n ∧ n ≤ 10) (hN : N = n + 1) (hh : H = n / 2) (f : PS (PS (Zm m))) :
    CallsTo Tryz.prog 70 7 [dint n, .fn (.func 71) [] [.ptr 2 [] 0, .ptr 1 [] 0, .ptr 3 [] 0, .ptr 4 [] 0, .ptr 5 [] 0]]
      (none :: rtX m f n N H q 0 6 ++ [some ⟨false, 1, rows true []⟩])
      (fun d rt => d = .tup [] ∧ rt = (none :: rtX m f n N H q (rowsA f n N H q (n + 1)).length 7 ++ none :: [some ⟨false, 1, rows true (rowsA f n N H q (n + 1))⟩])) := by
  have hlen : ∀ a b, a ≤ n → b ≤ n + 1 → (rowsAB f n N H q a b).length ≤ 1000 := fun a b h1 h2 => by
    have := rowsA_len f n N H q a
    have h3 : a * (n + 1) ≤ 10 * 11 := Nat.mul_le_mul (by omega) (by omega)
    simp only [rowsAB, List.length_append, List.length_map, List.length_range]
    omega
  refine callsTo_of Tryz.tabOk mixOrd 7 _ Tryz.func70 rfl rfl ?_
  conv => whnf
  repeat' first | ((first | refine And.intro (Or.inl rfl) ?_ | (refine And.intro (fun h => ?_) (fun h => ?_) <;> (try simp only [cnt1, ints_length] at h)) | refine And.intro (show slotsOk _ = true by decide +kernel) ?_ | refine And.intro vOb ?_ | (apply Exists.intro; refine And.intro vObt ?_) | (apply Exists.intro; refine And.intro vObx ?_) | refine And.intro vArT ?_ | refine Or.inl ?_) <;> conv => whnf) | fail
  refine loop_atR Tryz.tabOk mixOrd (α := Nat) (fun a => [(4, dint a), (5, .undef)]) (fun a => [(5, some ⟨true, 1, [.ref 7 [] 1 0 (rowsA f n N H q a).length]⟩), (6, none), (7, some ⟨false, 1, rows true (rowsA f n N H q a)⟩)]) (fun a => a ≤ n + 1) (fun a => n + 1 - a) (0) ?_ ?_ ?_
  · omega
  · conv => whnf
    first | refine WeakS.autoR ?_ | refine Weak.autoR ?_
    conv => whnf
    repeat' ((first | exact trivial | refine And.intro rfl ?_ | refine And.intro (eqV_int vAr) ?_ | refine And.intro vOb ?_ | refine And.intro vRepl ?_ | refine And.intro vReplL ?_ | refine And.intro ?_ ?_) <;> try (conv => whnf))
  intro a ha
  conv => whnf
  repeat' first | ((first | refine And.intro (Or.inl rfl) ?_ | (refine And.intro (fun h => ?_) (fun h => ?_) <;> (try simp only [cnt1, ints_length] at h)) | refine And.intro (show slotsOk _ = true by decide +kernel) ?_ | refine And.intro vOb ?_ | (apply Exists.intro; refine And.intro vObt ?_) | (apply Exists.intro; refine And.intro vObx ?_) | refine And.intro vArT ?_ | refine Or.inl ?_) <;> conv => whnf) | fail
  · have han : a ≤ n := vAr
    refine loop_atR Tryz.tabOk mixOrd (α := Nat) (fun b => [(5, dint b)]) (fun b => [(5, some ⟨true, 1, [.ref 7 [] 1 0 (rowsAB f n N H q a b).length]⟩), (7, some ⟨false, 1, rows true (rowsAB f n N H q a b)⟩)]) (fun b => a + b ≤ n + 1) (fun b => n + 1 - b) (0) ?_ ?_ ?_
    · omega
    · conv => whnf
      first | refine WeakS.autoR ?_ | refine Weak.autoR ?_
      conv => whnf
      repeat' ((first | exact trivial | refine And.intro rfl ?_ | refine And.intro (eqV_int vAr) ?_ | refine And.intro vOb ?_ | refine And.intro vRepl ?_ | refine And.intro vReplL ?_ | refine And.intro ?_ ?_) <;> try (conv => whnf))
      all_goals rw [rowsAB_zero]
    intro b hb
    conv => whnf
    by_cases hab : a + b ≤ n
    · repeat' first | (refine borD_of [1, 2, 3, 4, 5, 7] (c_round hm hq n N H hn hN hh f (rowsAB f n N H q a b) (hlen a b han (by omega)) a b (n - a - b) (by omega) (C := (n : Int) - a - b) (by omega)) (by decide) ?_ (by simp) ?_; (focus ((conv => whnf); (repeat' ((first | exact trivial | refine And.intro rfl ?_ | refine And.intro (eqV_int vAr) ?_ | refine And.intro vOb ?_) <;> (conv => whnf))); done)); conv => whnf) | ((first | refine And.intro (Or.inl rfl) ?_ | (refine And.intro (fun h => ?_) (fun h => ?_) <;> (try simp only [cnt1, ints_length] at h) <;> first | (exfalso; omega) | skip) | refine And.intro (show slotsOk _ = true by decide +kernel) ?_ | refine And.intro vOb ?_ | (apply Exists.intro; refine And.intro vObt ?_) | (apply Exists.intro; refine And.intro vObx ?_) | refine And.intro vArT ?_ | refine Or.inl ?_) <;> conv => whnf) | fail
      have hp := rowsAB_push f n N H q a b
      have hpl := congrArg List.length hp
      simp only [List.length_append, List.length_singleton] at hpl
      refine Exists.intro (b + 1) (And.intro (by omega) (And.intro (by omega) ?_))
      first | refine WeakS.autoR ?_ | refine Weak.autoR ?_
      conv => whnf
      repeat' ((first | exact trivial | refine And.intro rfl ?_ | refine And.intro (eqV_int vAr) ?_ | refine And.intro vOb ?_ | refine And.intro vRepl ?_ | refine And.intro vReplL ?_ | refine And.intro ?_ ?_) <;> try (conv => whnf))
      all_goals first | exact hpl | exact congrArg (rows true) hp
    · have hb2 : b = n - a + 1 := by omega
      repeat' first | ((first | refine And.intro (Or.inl rfl) ?_ | (refine And.intro (fun h => ?_) (fun h => ?_) <;> (try simp only [cnt1, ints_length] at h) <;> first | (exfalso; omega) | skip) | refine And.intro (show slotsOk _ = true by decide +kernel) ?_ | refine And.intro vOb ?_ | (apply Exists.intro; refine And.intro vObt ?_) | (apply Exists.intro; refine And.intro vObx ?_) | refine And.intro vArT ?_ | refine Or.inl ?_) <;> conv => whnf) | fail
      have hp := rowsAB_end f n N H q hb2
      refine Exists.intro (a + 1) (And.intro (by omega) (And.intro (by omega) ?_))
      first | refine WeakS.autoR ?_ | refine Weak.autoR ?_
      conv => whnf
      repeat' ((first | exact trivial | refine And.intro rfl ?_ | refine And.intro (eqV_int vAr) ?_ | refine And.intro vOb ?_ | refine And.intro vRepl ?_ | refine And.intro vReplL ?_ | refine And.intro ?_ ?_) <;> try (conv => whnf))
      all_goals first | exact congrArg List.length hp | exact congrArg (rows true) hp
  · have han : a = n + 1 := by omega
    subst han
    refine ⟨.tup [], none :: rtX m f n N H q (rowsA f n N H q (n + 1)).length 7 ++ none :: [some ⟨false, 1, rows true (rowsA f n N H q (n + 1))⟩], ⟨rfl, rfl⟩, Weak.of (kp := 7) [none, some 1, some 2, some 3, some 4, some 5, none, some 7] ?_⟩
    conv => whnf
    repeat' ((first | exact trivial | refine And.intro rfl ?_ | refine And.intro (eqV_int vAr) ?_ | refine And.intro vOb ?_ | refine And.intro ?_ ?_) <;> try (conv => whnf))
def xt (n : Nat) (X : Nat → Int) (i : Nat) : Int := if 0 < i ∧ i < n then X (min i (n - i) - 1) else 0
def phi (H : Nat) (l : List Int) (X : Nat → Int) : Int := sumI H fun k => l.getD k 0 * X k
theorem getD_setN (l : List Int) (i k : Nat) (x : Int) : (l.set i x).getD k 0 = if k = i ∧ i < l.length then x else l.getD k 0 := by
  simp only [List.getD_eq_getElem?_getD]
  by_cases e : i = k
  · subst e
    by_cases h : i < l.length
    · rw [List.getElem?_set_self h, if_pos ⟨rfl, h⟩]; rfl
    · rw [if_neg (fun c => h c.2), List.getElem?_eq_none (by simpa using h), List.getElem?_eq_none (by simpa using h)]
  · rw [List.getElem?_set_ne e, if_neg (fun c => e c.1.symm)]
theorem phi_set {H k : Nat} {l : List Int} (hk : k < H) (hl : H ≤ l.length) (y : Int) (X : Nat → Int) : phi H (l.set k y) X = phi H l X + (y - l.getD k 0) * X k := by
  unfold phi
  rw [sumI_out hk, sumI_out hk (fun k => l.getD k 0 * X k)]
  rw [sumI_congr (n := H) (f := fun i => if i = k then 0 else (l.set k y).getD i 0 * X i) (g := fun i => if i = k then 0 else l.getD i 0 * X i) (fun i _ => by
    by_cases e : i = k
    · rw [if_pos e, if_pos e]
    · rw [if_neg e, if_neg e, getD_setN, if_neg (fun h => e h.1)])]
  rw [getD_setN, if_pos ⟨rfl, by omega⟩, Int.sub_mul]
  omega
theorem phi_add {n H : Nat} {q : Int} {l : List Int} (hH : H = n / 2) (hl : l.length = H + 1) (i : Nat) (hi : i ≤ n) (fac : Int) (X : Nat → Int) : q ∣ phi H (addL n q l i fac) X - (phi H l X + fac * xt n X i) := by
  unfold addL xt
  by_cases e : 0 < i ∧ i < n
  · rw [if_pos e, if_pos e, phi_set (by omega) (by omega)]
    generalize hk : min i (n - i) - 1 = k
    have h1 := Int.dvd_trans ((Int.dvd_neg).2 (dvd_emod_sub q (l.getD k 0 + fac))) (Int.dvd_mul_right _ (X k))
    rwa [show -(l.getD k 0 + fac - (l.getD k 0 + fac) % q) * X k = phi H l X + ((l.getD k 0 + fac) % q - l.getD k 0) * X k - (phi H l X + fac * X k) by
      rw [Int.sub_mul, Int.neg_mul, Int.sub_mul, Int.add_mul]; omega] at h1
  · rw [if_neg e, if_neg e, Int.mul_zero, Int.add_zero, Int.sub_self]; exact Int.dvd_zero _
theorem phi_zero (H w : Nat) (X : Nat → Int) : phi H (List.replicate w 0) X = 0 := sumI_zero (fun k _ => by rw [zero_getD, Int.zero_mul])
def cocX (n : Nat) (X : Nat → Int) (a b c : Nat) : Int := (if a = 0 then xt n X b else 0) + (bin (b + c) b : Nat) * xt n X a - (bin (a + b) a : Nat) * xt n X (a + b) - (if c = 0 then xt n X a else 0)
theorem phi_side {n H : Nat} {q : Int} (hH : H = n / 2) {a b c : Nat} (habc : a + b + c = n) (X : Nat → Int) : q ∣ phi H (sideL n q (H + 1) a b c) X - cocX n X a b c := by
  have h1 : q ∣ phi H (if a = 0 then addL n q (List.replicate (H + 1) 0) b 1 else List.replicate (H + 1) 0) X - (if a = 0 then xt n X b else 0) ∧ (if a = 0 then addL n q (List.replicate (H + 1) 0) b 1 else List.replicate (H + 1) (0 : Int)).length = H + 1 := by
    split
    · have := phi_add (n := n) (q := q) (l := List.replicate (H + 1) 0) hH (by simp) b (by omega) 1 X
      rw [phi_zero, Int.zero_add, Int.one_mul] at this
      exact ⟨this, by simp⟩
    · rw [phi_zero]; exact ⟨Int.dvd_zero _, by simp⟩
  obtain ⟨h1, l1⟩ := h1
  have h2 := phi_add (q := q) hH l1 a (by omega) (bin (b + c) b : Nat) X
  have l2 : (addL n q (if a = 0 then addL n q (List.replicate (H + 1) 0) b 1 else List.replicate (H + 1) 0) a (bin (b + c) b : Nat)).length = H + 1 := by rw [addL_length]; exact l1
  have h3 := phi_add (q := q) hH l2 (a + b) (by omega) (0 - (bin (a + b) a : Nat)) X
  have l3 : (addL n q (addL n q (if a = 0 then addL n q (List.replicate (H + 1) 0) b 1 else List.replicate (H + 1) 0) a (bin (b + c) b : Nat)) (a + b) (0 - (bin (a + b) a : Nat))).length = H + 1 := by rw [addL_length]; exact l2
  have h4 := phi_add (q := q) hH l3 a (by omega) (-1) X
  unfold sideL cocX
  simp only
  generalize (if a = 0 then addL n q (List.replicate (H + 1) 0) b 1 else List.replicate (H + 1) 0) = L1 at *
  generalize (if a = 0 then xt n X b else 0) = x1 at *
  have h5 := Int.dvd_add (Int.dvd_add h1 h2) h3
  rw [Int.sub_mul, Int.zero_mul] at h5
  by_cases hc : c = 0
  · rw [if_pos hc, if_pos hc]
    have h6 := Int.dvd_add h5 h4
    refine (dvd_mod_iff ?_).1 h6
    rw [Int.neg_mul, Int.one_mul]
    refine ⟨0, ?_⟩
    omega
  · rw [if_neg hc, if_neg hc]
    refine (dvd_mod_iff ?_).1 h5
    refine ⟨0, ?_⟩
    omega
theorem rowT_eq {f : PS (PS (Zm m))} {n N H : Nat} {q : Int} (hq : 0 < q) (hm : 0 < m) (hH : H = n / 2) {a b : Nat} (hab : a + b ≤ n) (X : Nat → Int) :
    q ∣ (phi H (rowT f n N H q a b) X - (rowT f n N H q a b).getD H 0) ↔ q ∣ cocX n X a b (n - a - b) - (lft f N a b (n - a - b) - rgt f N a b (n - a - b)).val := by
  have hlen : (sideL n q (H + 1) a b (n - a - b)).length = H + 1 := by
    unfold sideL
    simp only
    split <;> split <;> simp
  have e1 : (rowT f n N H q a b).getD H 0 = (lft f N a b (n - a - b) - rgt f N a b (n - a - b)).val.tmod q := by
    unfold rowT
    rw [getD_setN, if_pos ⟨rfl, by omega⟩]
  have e2 : phi H (rowT f n N H q a b) X = phi H (sideL n q (H + 1) a b (n - a - b)) X := sumI_congr (fun k hk => by
    unfold rowT
    rw [getD_setN, if_neg (by omega)])
  rw [e1, e2, Int.tmod_eq_emod_of_nonneg (Zm.val_range hm _).1]
  refine dvd_mod_iff ?_
  have h1 := phi_side (q := q) hH (show a + b + (n - a - b) = n by omega) X
  have h2 := dvd_emod_sub q (lft f N a b (n - a - b) - rgt f N a b (n - a - b)).val
  have := Int.dvd_add h1 h2
  refine (dvd_mod_iff ⟨0, ?_⟩).1 this
  omega
def EqX (f : PS (PS (Zm m))) (n : Nat) (q : Int) (X : Nat → Int) : Prop := ∀ a b, a + b ≤ n → q ∣ cocX n X a b (n - a - b) - (gam f (n + 1) a b (n - a - b)).val
theorem mem_rowsA {f : PS (PS (Zm m))} {n N H : Nat} {q : Int} {r : List Int} : ∀ {A : Nat}, r ∈ rowsA f n N H q A ↔ ∃ a b, a < A ∧ b ≤ n - a ∧ r = rowT f n N H q a b
  | 0 => by simp [rowsA]
  | A + 1 => by
    rw [rowsA, List.mem_append, mem_rowsA (A := A), List.mem_map]
    constructor
    · rintro (⟨a, b, h1, h2, h3⟩ | ⟨b, hb, rfl⟩)
      · exact ⟨a, b, by omega, h2, h3⟩
      · exact ⟨A, b, by omega, by have := List.mem_range.1 hb; omega, rfl⟩
    · rintro ⟨a, b, h1, h2, h3⟩
      by_cases e : a = A
      · subst e; exact .inr ⟨b, List.mem_range.2 (by omega), h3.symm⟩
      · exact .inl ⟨a, b, by omega, h2, h3⟩
theorem rowT_len (f : PS (PS (Zm m))) (n N H : Nat) (q : Int) (a b : Nat) : (rowT f n N H q a b).length = H + 1 := by
  unfold rowT sideL
  simp only [List.length_set]
  split <;> split <;> simp
def mOf (R : List (List Int)) (i j : Nat) : Int := (R.getD i []).getD j 0
theorem tM_of {R : List (List Int)} {w : Nat} (h : ∀ r ∈ R, r.length = w) : tM R.length w (mOf R) = R := by
  refine List.ext_getElem (by simp) (fun i h1 h2 => ?_)
  have hr := h _ (List.getElem_mem h2)
  simp only [tM, List.getElem_map, List.getElem_range]
  refine List.ext_getElem (by simp [hr]) (fun j k1 k2 => ?_)
  simp only [lM, List.getElem_map, List.getElem_range]
  unfold mOf
  rw [List.getD_eq_getElem?_getD (l := R), List.getElem?_eq_getElem h2, Option.getD_some, List.getD_eq_getElem?_getD, List.getElem?_eq_getElem k2, Option.getD_some]
theorem sol_iff {f : PS (PS (Zm m))} {n N H : Nat} {q : Int} (hq : 0 < q) (hm : 0 < m) (hN : N = n + 1) (hH : H = n / 2) (h0 : (f.c 0).c 0 = 0) (X : Nat → Int) :
    SolE q (rowsA f n N H q (n + 1)).length H (mOf (rowsA f n N H q (n + 1))) (fun j => j) X ↔ EqX f n q X := by
  have key : ∀ a b, a + b ≤ n → (q ∣ (phi H (rowT f n N H q a b) X - (rowT f n N H q a b).getD H 0) ↔ q ∣ cocX n X a b (n - a - b) - (gam f (n + 1) a b (n - a - b)).val) := fun a b hab => by
    rw [rowT_eq hq hm hH hab, gam_lr h0 (by omega), hN]
  constructor
  · intro h a b hab
    refine (key a b hab).1 ?_
    obtain ⟨i, hi, he⟩ := List.getElem_of_mem (mem_rowsA.2 ⟨a, b, by omega, by omega, rfl⟩ : rowT f n N H q a b ∈ rowsA f n N H q (n + 1))
    have h1 := h i hi
    unfold mOf at h1
    rw [List.getD_eq_getElem?_getD, List.getElem?_eq_getElem hi, Option.getD_some, he] at h1
    exact h1
  · intro h i hi
    unfold mOf
    rw [List.getD_eq_getElem?_getD, List.getElem?_eq_getElem hi, Option.getD_some]
    obtain ⟨a, b, h1, h2, h3⟩ := mem_rowsA.1 (List.getElem_mem hi)
    rw [h3]
    exact (key a b (by omega)).2 (h a b (by omega))
theorem xt_val (hm : 0 < m) {n : Nat} {v : Nat → Zm m} (h0 : v 0 = 0) (hs : ∀ i, i ≤ n → v (n - i) = v i) {i : Nat} (hi : i ≤ n) : xt n (fun k => (v (k + 1)).val) i = (v i).val := by
  unfold xt
  by_cases e : 0 < i ∧ i < n
  · rw [if_pos e]
    show (v (min i (n - i) - 1 + 1)).val = (v i).val
    rcases Nat.le_total i (n - i) with h | h
    · rw [Nat.min_eq_left h, show i - 1 + 1 = i by omega]
    · rw [Nat.min_eq_right h, show n - i - 1 + 1 = n - i by omega, hs i hi]
  · rw [if_neg e]
    rcases (show i = 0 ∨ i = n by omega) with h | h
    · rw [h, h0]; exact Zm.val_zero.symm
    · have := hs 0 (by omega)
      rw [Nat.sub_zero] at this
      rw [h, this, h0]; exact Zm.val_zero.symm
theorem eqX_ex (hm : 0 < m) {f : PS (PS (Zm m))} {n : Nat} (L : Lw f n) (hn : 2 ≤ n ∧ n ≤ 10) {q : Int} (hq : q ∣ m) : ∃ X, EqX f n q X := by
  obtain ⟨v, h0, hs, hB⟩ := bud_ex L hn
  refine ⟨fun k => (v (k + 1)).val, fun a b hab => Int.dvd_trans hq ?_⟩
  have ex := fun i hi => xt_val hm (n := n) h0 hs (i := i) hi
  have hvn : v n = 0 := by have := hs 0 (by omega); rw [Nat.sub_zero] at this; rw [this, h0]
  unfold cocX
  rw [ex a (by omega), ex b (by omega), ex (a + b) (by omega)]
  by_cases hz : a = 0 ∨ b = 0 ∨ n - a - b = 0
  · rw [gam_zero L (by omega) hz, Zm.val_zero, Int.sub_zero]
    rcases hz with h | h | h
    · subst h
      rw [if_pos rfl, h0, Zm.val_zero, Nat.zero_add, bin_zero, Int.mul_zero]
      refine ⟨0, ?_⟩
      split <;> omega
    · subst h
      rw [Nat.zero_add, Nat.add_zero, bin_zero, bin_self, h0, Zm.val_zero]
      refine ⟨0, ?_⟩
      by_cases ha : a = 0
      · subst ha
        rw [h0, Zm.val_zero]; simp
      · rw [if_neg ha]
        by_cases hc : n - a - 0 = 0
        · rw [if_pos hc, show a = n by omega, hvn, Zm.val_zero]; simp
        · rw [if_neg hc]; omega
    · rw [if_pos h, show a + b = n by omega, hvn, Zm.val_zero, Int.mul_zero, h, Nat.add_zero, bin_self]
      refine ⟨0, ?_⟩
      by_cases ha : a = 0
      · rw [if_pos ha, show b = n by omega, hvn, ha, h0, Zm.val_zero]; simp
      · rw [if_neg ha]; omega
  · have h1 := hB a b (n - a - b) (by omega) (by omega) (by omega) (by omega)
    rw [if_neg (by omega), if_neg (by omega), ← mk_zero_iff]
    simp only [Zm.mk_sub, Zm.mk_add, Zm.mk_mul, Zm.mk_val, Zm.mk_zero, CR.zero_add]
    rw [CR.mul_comm (Zm.mk m (bin (b + (n - a - b)) b : Nat)), ← h1, CR.mul_comm (Zm.mk m (bin (a + b) a : Nat))]
    rw [Go.Fg.add_sub_cancel]
    simp only [Go.Fg.sub_def, Go.Fg.neg_zero, Go.Fg.add_zero, Go.Fg.add_neg]
theorem eqX_bud {f : PS (PS (Zm m))} {n : Nat} {X : Nat → Int} (h : EqX f n m X) : BudEq f n (vOf m n fun k => xt n X (k + 1)) := by
  refine (eqI_iff f n _).1 ⟨fun k h1 h2 => ?_, fun a b c ha hb hc e => ?_⟩
  · show m ∣ xt n X (k - 1 + 1) - xt n X (n - k - 1 + 1)
    rw [show k - 1 + 1 = k by omega, show n - k - 1 + 1 = n - k by omega]
    have : xt n X k = xt n X (n - k) := by
      unfold xt
      rw [if_pos (by omega), if_pos (by omega), show n - (n - k) = k by omega, Nat.min_comm]
    rw [this, Int.sub_self]; exact Int.dvd_zero _
  · have h1 := (Int.dvd_neg).2 (h a b (by omega))
    unfold cocX at h1
    rw [if_neg (by omega), if_neg (by omega), show n - a - b = c by omega] at h1
    show m ∣ xt n X (a + b - 1 + 1) * ((bin (a + b) a : Nat) : Int) - xt n X (a - 1 + 1) * ((bin (b + c) b : Nat) : Int) + (gam f (n + 1) a b c).val
    rw [show a + b - 1 + 1 = a + b by omega, show a - 1 + 1 = a by omega]
    rwa [show -(0 + ((bin (b + c) b : Nat) : Int) * xt n X a - ((bin (a + b) a : Nat) : Int) * xt n X (a + b) - 0 - (gam f (n + 1) a b c).val) = xt n X (a + b) * ((bin (a + b) a : Nat) : Int) - xt n X a * ((bin (b + c) b : Nat) : Int) + (gam f (n + 1) a b c).val by
      rw [Int.mul_comm (xt n X (a + b)), Int.mul_comm (xt n X a)]; omega] at h1
end Go.Proofs

