/- All lists of a length, in order. -/
import Derived.Test.YtmnphhjljlbfmaaGreatK1
namespace Go.Proofs
open Go Go.Vm Go.Fg
set_option maxRecDepth 100000
set_option linter.unusedSimpArgs false
set_option linter.unusedVariables false
def dig (p : Nat) : Nat → Nat → List Int
  | 0, _ => []
  | n + 1, N => ((N / p ^ n : Nat) : Int) :: dig p n (N % p ^ n)
@[simp] theorem dig_length (p : Nat) : ∀ n N, (dig p n N).length = n
  | 0, _ => rfl
  | n + 1, N => by simp [dig, dig_length p n]
theorem dig_range {p : Nat} (hp : 0 < p) : ∀ n N, N < p ^ n → ∀ x ∈ dig p n N, 0 ≤ x ∧ x < (p : Int)
  | 0, _, _, x, hx => by simp [dig] at hx
  | n + 1, N, hN, x, hx => by
    have hP : 0 < p ^ n := Nat.pow_pos hp
    simp only [dig, List.mem_cons] at hx
    rcases hx with rfl | hx
    · have : N / p ^ n < p := Nat.div_lt_of_lt_mul (by rw [Nat.pow_succ] at hN; exact hN)
      exact ⟨Int.natCast_nonneg _, Int.ofNat_lt.2 this⟩
    · exact dig_range hp n _ (Nat.mod_lt _ hP) x hx
theorem dig_zero (p : Nat) : ∀ n, dig p n 0 = List.replicate n 0
  | 0 => rfl
  | n + 1 => by simp [dig, dig_zero p n, List.replicate_succ]
def nx (p : Int) : List Int → Option (List Int)
  | [] => none
  | x :: u => match nx p u with
    | some v => some (x :: v)
    | none => if x + 1 < p then some ((x + 1) :: List.replicate u.length 0) else none
theorem nx_dig {p : Nat} (hp : 0 < p) : ∀ n N, N < p ^ n → nx p (dig p n N) = if N + 1 < p ^ n then some (dig p n (N + 1)) else none
  | 0, N, hN => by
    have : N = 0 := by simpa using hN
    subst this; rfl
  | n + 1, N, hN => by
    have hP : 0 < p ^ n := Nat.pow_pos hp
    have ih := nx_dig hp n (N % p ^ n) (Nat.mod_lt _ hP)
    have hd := Nat.div_add_mod N (p ^ n)
    have hml := Nat.mod_lt N hP
    rw [Nat.pow_succ] at hN ⊢
    have hX : N / p ^ n < p := Nat.div_lt_of_lt_mul hN
    simp only [dig, nx, ih]
    generalize p ^ n = P at *
    generalize N / P = X at *
    generalize N % P = M at *
    by_cases h : M + 1 < P
    · have e : N + 1 = P * X + (M + 1) := by omega
      have h3 : P * (X + 1) ≤ P * p := Nat.mul_le_mul_left _ hX
      rw [Nat.mul_add, Nat.mul_one] at h3
      have e2 : N + 1 < P * p := by omega
      rw [if_pos h]
      simp only []
      rw [if_pos e2, e, Nat.mul_add_div hP, Nat.mul_add_mod, Nat.div_eq_of_lt h, Nat.mod_eq_of_lt h]
      rfl
    · have e : N + 1 = P * (X + 1) := by rw [Nat.mul_add, Nat.mul_one]; omega
      rw [if_neg h]
      simp only [dig_length]
      by_cases h2 : X + 1 < p
      · have h3 : P * (X + 1) < P * p := Nat.mul_lt_mul_of_pos_left h2 hP
        rw [if_pos (by omega), if_pos (by omega), e, Nat.mul_div_cancel_left _ hP, Nat.mul_mod_right, dig_zero]
        rfl
      · have h3 : P * p ≤ P * (X + 1) := Nat.mul_le_mul_left _ (by omega)
        rw [if_neg (by omega), if_neg (by omega)]
theorem nx_app {p : Int} {b b' : List Int} (h : nx p b = some b') : ∀ a : List Int, nx p (a ++ b) = some (a ++ b')
  | [] => h
  | x :: a => by simp only [List.cons_append, nx, nx_app h a]
theorem nx_up {p x : Int} {b : List Int} (h : nx p b = none) (hx : x + 1 < p) : nx p (x :: b) = some ((x + 1) :: List.replicate b.length 0) := by
  simp only [nx, h, if_pos hx]
theorem nx_no {p x : Int} {b : List Int} (h : nx p b = none) (hx : ¬ x + 1 < p) : nx p (x :: b) = none := by
  simp only [nx, h, if_neg hx]
def ext (p : Nat) (good : List Int → Bool) : Nat → List Int → List (List Int)
  | 0, u => if good u then [u] else []
  | n + 1, u => (List.range p).flatMap fun (x : Nat) => ext p good n (u ++ [(x : Int)])
def extR (p : Nat) (good : List Int → Bool) (n : Nat) (u : List Int) (x : Nat) : List (List Int) := (List.range x).flatMap fun (x : Nat) => ext p good n (u ++ [(x : Int)])
theorem extR_zero (p : Nat) (good : List Int → Bool) (n : Nat) (u : List Int) : extR p good n u 0 = [] := rfl
theorem extR_succ (p : Nat) (good : List Int → Bool) (n : Nat) (u : List Int) (x : Nat) : extR p good n u (x + 1) = extR p good n u x ++ ext p good n (u ++ [(x : Int)]) := by
  simp [extR, List.range_succ]
theorem extR_end (p : Nat) (good : List Int → Bool) (n : Nat) (u : List Int) : extR p good n u p = ext p good (n + 1) u := rfl
theorem range_mul (P : Nat) {α : Type} (f : Nat → α) : ∀ k, (List.range (k * P)).map f = (List.range k).flatMap fun x => (List.range P).map fun N => f (x * P + N)
  | 0 => by simp
  | k + 1 => by
    rw [Nat.succ_mul, List.range_add, List.map_append, range_mul P f k, List.range_succ, List.flatMap_append]
    simp [List.map_map, Function.comp_def]
theorem ext_eq {p : Nat} (hp : 0 < p) (good : List Int → Bool) : ∀ (n : Nat) (u : List Int), ext p good n u = ((List.range (p ^ n)).map fun N => u ++ dig p n N).filter good
  | 0, u => by
    simp only [ext, Nat.pow_zero, dig, List.append_nil]
    by_cases h : good u <;> simp [h]
  | n + 1, u => by
    have hP : 0 < p ^ n := Nat.pow_pos hp
    rw [show p ^ (n + 1) = p * p ^ n by rw [Nat.pow_succ, Nat.mul_comm], range_mul, List.filter_flatMap]
    unfold ext
    congr 1
    funext x
    rw [ext_eq hp good n]
    congr 1
    refine List.map_congr_left (fun N hN => ?_)
    have hN := List.mem_range.1 hN
    simp only [dig, List.append_assoc, List.singleton_append]
    rw [Nat.mul_comm x, Nat.mul_add_div hP, Nat.mul_add_mod, Nat.div_eq_of_lt hN, Nat.mod_eq_of_lt hN, Nat.add_zero]
theorem ext_len {p : Nat} (hp : 0 < p) (good : List Int → Bool) (n : Nat) (u : List Int) : (ext p good n u).length ≤ p ^ n := by
  rw [ext_eq hp]
  refine Nat.le_trans (List.length_filter_le _ _) ?_
  simp
theorem extR_len {p : Nat} (hp : 0 < p) (good : List Int → Bool) (n : Nat) (u : List Int) : ∀ x, (extR p good n u x).length ≤ x * p ^ n
  | 0 => by simp [extR]
  | x + 1 => by
    rw [extR_succ, List.length_append, Nat.succ_mul]
    have := extR_len hp good n u x
    have := ext_len hp good n (u ++ [(x : Int)])
    omega
theorem flat_one {α : Type} {f : Nat → List α} {h : Nat} : ∀ {k : Nat}, (∀ x, x < k → x ≠ h → f x = []) → (List.range k).flatMap f = if h < k then f h else []
  | 0, _ => by simp
  | k + 1, hf => by
    rw [List.range_succ, List.flatMap_append, flat_one (fun x hx hn => hf x (by omega) hn)]
    simp only [List.flatMap_cons, List.flatMap_nil, List.append_nil]
    by_cases e : h = k
    · subst e; rw [if_neg (by omega), if_pos (by omega)]; rfl
    · rw [hf k (by omega) (fun x => e x.symm), List.append_nil]
      by_cases e2 : h < k
      · rw [if_pos e2, if_pos (by omega)]
      · rw [if_neg e2, if_neg (by omega)]
theorem ext_head {p h : Nat} (hp : 0 < p) (hh : h < p) (good g : List Int → Bool) (k : Nat) (e : ∀ u : List Int, u.length = k + 1 → good u = (decide (u.getD 0 0 = (h : Int)) && g u)) :
    ext p good (k + 1) [] = ((List.range (p ^ k)).map fun N => (h : Int) :: dig p k N).filter g := by
  unfold ext
  rw [flat_one (h := h) (fun x _ hn => ?_), if_pos hh, ext_eq hp]
  · simp only [List.nil_append, List.singleton_append]
    refine List.filter_congr (fun u hu => ?_)
    simp only [List.mem_map, List.mem_range] at hu
    obtain ⟨N, _, rfl⟩ := hu
    rw [e _ (by simp)]
    simp
  · rw [ext_eq hp, List.filter_eq_nil_iff]
    intro u hu
    simp only [List.nil_append, List.singleton_append, List.mem_map, List.mem_range] at hu
    obtain ⟨N, _, rfl⟩ := hu
    rw [e _ (by simp)]
    simp only [List.getD_cons_zero, Bool.and_eq_true, decide_eq_true_eq]
    intro c
    exact hn (by have := c.1; omega)
theorem ext_one {p n : Nat} (hp : 0 < p) (good : List Int → Bool) (h0 : good (dig p n 0) = true) : decide ((ext p good n []).length = 1) = true ↔ ∀ N, N + 1 < p ^ n → good (dig p n (N + 1)) = false := by
  have hP : 0 < p ^ n := Nat.pow_pos hp
  obtain ⟨P, hP2⟩ : ∃ P, p ^ n = P + 1 := ⟨p ^ n - 1, by omega⟩
  rw [ext_eq hp, hP2, List.range_succ_eq_map, List.map_cons, List.nil_append, List.filter_cons, if_pos h0]
  simp only [List.length_cons, decide_eq_true_eq]
  constructor
  · intro h N hN
    have hnil := List.eq_nil_of_length_eq_zero (show (List.filter good (List.map (fun N => [] ++ dig p n N) (List.map Nat.succ (List.range P)))).length = 0 by omega)
    rw [List.filter_eq_nil_iff] at hnil
    have := hnil (dig p n (N + 1)) (by
      simp only [List.map_map, List.mem_map, List.mem_range, Function.comp_def, List.nil_append]
      exact ⟨N, by omega, rfl⟩)
    simpa using this
  · intro h
    have : List.filter good (List.map (fun N => [] ++ dig p n N) (List.map Nat.succ (List.range P))) = [] := by
      rw [List.filter_eq_nil_iff]
      intro u hu
      simp only [List.map_map, List.mem_map, List.mem_range, Function.comp_def, List.nil_append] at hu
      obtain ⟨N, hN, rfl⟩ := hu
      simp [h N (by omega)]
    rw [this]; rfl
end Go.Proofs

