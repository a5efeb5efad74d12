/- Power series in two variables: products step by step, substitutions. -/
import Derived.Test.YtnonhialafcjmaaAlg4
set_option linter.unusedVariables false
set_option linter.unusedSimpArgs false
set_option linter.unusedSectionVars false
namespace Go.Fg
open CR PS

section
variable {R : Type} [CR R]
theorem mono_zero (n : Nat) : mono n (0 : R) = 0 := by ext i; rw [mono_c]; split <;> rfl
theorem mono_mul_c (i : Nat) (p : R) (g : PS R) (a : Nat) : (mono i p * g).c a = if a < i then 0 else p * g.c (a - i) := by
  rw [mul_c]
  by_cases h : a < i
  · rw [if_pos h]
    exact sm_zero (fun j hj => by rw [mono_c, if_neg (by omega), zero_mul])
  · rw [if_neg h, sm_one i (by omega) (fun j _ hj => by rw [mono_c, if_neg hj, zero_mul]), mono_c, if_pos rfl]

/-- The first i rows of f, and j places of the next one. -/
def trunc (f : PS (PS R)) (i j : Nat) : PS (PS R) := (mix i f 0).upd i (mix j (f.c i) 0)
theorem trunc_zero (f : PS (PS R)) : trunc f 0 0 = 0 := by
  ext a b
  show (if a = 0 then mix 0 (f.c 0) 0 else if a < 0 then f.c a else (0 : PS (PS R)).c a).c b = 0
  split
  · rw [mix_zero]; rfl
  · rw [if_neg (by omega)]; rfl
theorem trunc_cc (f : PS (PS R)) (i j a b : Nat) : ((trunc f i j).c a).c b = if a < i ∨ (a = i ∧ b < j) then (f.c a).c b else 0 := by
  unfold trunc
  rw [upd_c]
  by_cases h : a = i
  · subst h
    rw [if_pos rfl, mix_c]
    by_cases h2 : b < j
    · rw [if_pos h2, if_pos (.inr ⟨rfl, h2⟩)]
    · rw [if_neg h2, if_neg (by omega)]; rfl
  · rw [if_neg h, mix_c]
    by_cases h2 : a < i
    · rw [if_pos h2, if_pos (.inl h2)]
    · rw [if_neg h2, if_neg (by omega)]; rfl
theorem trunc_step (f : PS (PS R)) (i j : Nat) : trunc f i (j + 1) = trunc f i j + mono i (mono j ((f.c i).c j)) := by
  ext a b
  rw [add_c, add_c, trunc_cc, trunc_cc, mono_c]
  by_cases h : a = i
  · subst h
    rw [if_pos rfl, mono_c]
    by_cases h2 : b = j
    · subst h2
      rw [if_pos rfl, if_pos (by omega), if_neg (by omega), zero_add]
    · rw [if_neg h2, add_zero]
      by_cases h3 : b < j
      · rw [if_pos (by omega), if_pos (by omega)]
      · rw [if_neg (by omega), if_neg (by omega)]
  · rw [if_neg h, zero_c, add_zero]
    by_cases h3 : a < i
    · rw [if_pos (by omega), if_pos (by omega)]
    · rw [if_neg (by omega), if_neg (by omega)]
theorem trunc_skip (f : PS (PS R)) (i j : Nat) (h : (f.c i).c j = 0) : trunc f i (j + 1) = trunc f i j := by
  rw [trunc_step, h, mono_zero, mono_zero, add_zero]

/-- The product of what f has up to (i, j) with g, and, of the next product, k rows and l places. -/
def pP (f g : PS (PS R)) (i j : Nat) : PS (PS R) := trunc f i j * g
def pQ (f g : PS (PS R)) (i j k l : Nat) : PS (PS R) := (mix (i + k) (pP f g i (j + 1)) (pP f g i j)).upd (i + k) (mix (j + l) ((pP f g i (j + 1)).c (i + k)) ((pP f g i j).c (i + k)))
theorem pP_zero (f g : PS (PS R)) : pP f g 0 0 = 0 := by unfold pP; rw [trunc_zero, zero_mul]
theorem pP_skip (f g : PS (PS R)) (i j : Nat) (h : (f.c i).c j = 0) : pP f g i (j + 1) = pP f g i j := by unfold pP; rw [trunc_skip f i j h]
theorem pP_next (f g : PS (PS R)) (i j a b : Nat) : ((pP f g i (j + 1)).c a).c b = ((pP f g i j).c a).c b + if a < i then 0 else if b < j then 0 else (f.c i).c j * (g.c (a - i)).c (b - j) := by
  unfold pP
  rw [trunc_step, add_mul, add_c, add_c, mono_mul_c]
  congr 1
  split
  · rfl
  · rw [mono_mul_c]
theorem pQ_cc (f g : PS (PS R)) (i j k l a b : Nat) : ((pQ f g i j k l).c a).c b = if a < i + k ∨ (a = i + k ∧ b < j + l) then ((pP f g i (j + 1)).c a).c b else ((pP f g i j).c a).c b := by
  unfold pQ
  rw [upd_c]
  by_cases h : a = i + k
  · rw [if_pos h, h, mix_c]
    by_cases h2 : b < j + l
    · rw [if_pos h2, if_pos (.inr ⟨rfl, h2⟩)]
    · rw [if_neg h2, if_neg (by omega)]
  · rw [if_neg h, mix_c]
    by_cases h2 : a < i + k
    · rw [if_pos h2, if_pos (.inl h2)]
    · rw [if_neg h2, if_neg (by omega)]
theorem pQ_zero (f g : PS (PS R)) (i j : Nat) : pQ f g i j 0 0 = pP f g i j := by
  ext a b
  rw [pQ_cc]
  split
  · rw [pP_next]
    by_cases h : a < i
    · rw [if_pos h, add_zero]
    · rw [if_neg h, if_pos (by omega), add_zero]
  · rfl
theorem pQ_c (f g : PS (PS R)) (i j k l : Nat) : ((pQ f g i j k l).c (i + k)).c (j + l) = ((pP f g i j).c (i + k)).c (j + l) := by
  rw [pQ_cc, if_neg (by omega)]
theorem pQ_step (f g : PS (PS R)) (i j k l : Nat) : pQ f g i j k (l + 1) = (pQ f g i j k l).upd (i + k) (((pQ f g i j k l).c (i + k)).upd (j + l) (((pQ f g i j k l).c (i + k)).c (j + l) + (f.c i).c j * (g.c k).c l)) := by
  ext a b
  rw [upd_c]
  by_cases h : a = i + k
  · rw [if_pos h, upd_c]
    by_cases h2 : b = j + l
    · subst h h2
      rw [if_pos rfl, pQ_c, pQ_cc, if_pos (by omega), pP_next, if_neg (by omega), if_neg (by omega), show i + k - i = k by omega, show j + l - j = l by omega]
    · rw [if_neg h2, ← h, pQ_cc, pQ_cc]
      by_cases h3 : b < j + l
      · rw [if_pos (by omega), if_pos (by omega)]
      · rw [if_neg (by omega), if_neg (by omega)]
  · rw [if_neg h, pQ_cc, pQ_cc]
    by_cases h3 : a < i + k
    · rw [if_pos (by omega), if_pos (by omega)]
    · rw [if_neg (by omega), if_neg (by omega)]
theorem pP_left (f g : PS (PS R)) (i j a b : Nat) (h : b < j) : ((pP f g i (j + 1)).c a).c b = ((pP f g i j).c a).c b := by
  rw [pP_next, if_pos h]
  split <;> exact add_zero _

/-- A series of a plane. -/
def comp2N (a : PS R) (f : PS (PS R)) (k n : Nat) : PS (PS R) := sm n (fun i => C (C (a.c (k + i))) * pw f i)
theorem comp2N_step (a : PS R) (f : PS (PS R)) (k n : Nat) : comp2N a f (k + 1) n * f + C (C (a.c k)) = comp2N a f k (n + 1) := by
  unfold comp2N
  rw [sm_succ_left, sm_mul_right, add_comm]
  congr 1
  · rw [pw_zero, mul_one]; rfl
  · refine sm_congr (fun i _ => ?_)
    rw [pw_succ, mul_assoc, show k + 1 + i = k + (i + 1) by omega]
/-- A series of x, one of y. -/
def axX (a : PS R) : PS (PS R) := ⟨fun i => C (a.c i)⟩
def axY (a : PS R) : PS (PS R) := C a
theorem axX_c (a : PS R) (i j : Nat) : ((axX a).c i).c j = if j = 0 then a.c i else 0 := rfl
theorem axY_c (a : PS R) (i j : Nat) : ((axY a).c i).c j = if i = 0 then a.c j else 0 := by
  show (if i = 0 then a else (0 : PS R)).c j = _
  split <;> rfl
theorem axX_zero : axX (0 : PS R) = 0 := by ext i j; rw [axX_c]; split <;> rfl
theorem axY_zero : axY (0 : PS R) = 0 := by ext i j; rw [axY_c]; split <;> rfl
/-- The plane of a function. -/
def pl (v : Nat → Nat → R) : PS (PS R) := ⟨fun i => ⟨fun j => v i j⟩⟩
theorem pl_c (v : Nat → Nat → R) (i j : Nat) : ((pl v).c i).c j = v i j := rfl
theorem ext2 {f g : PS (PS R)} (h : ∀ i j, (f.c i).c j = (g.c i).c j) : f = g := by ext i j; exact h i j
end

variable {m : Int}
theorem Ag2.rfl {n : Nat} {f : PS (PS (Zm m))} : Ag2 n f f := fun _ _ _ => Eq.refl _
theorem Ag2.symm {n : Nat} {f g : PS (PS (Zm m))} (h : Ag2 n f g) : Ag2 n g f := fun i j hij => (h i j hij).symm
theorem Ag2.trans {n : Nat} {f g k : PS (PS (Zm m))} (h : Ag2 n f g) (h2 : Ag2 n g k) : Ag2 n f k := fun i j hij => (h i j hij).trans (h2 i j hij)
theorem Ag2.of_eq {n : Nat} {f g : PS (PS (Zm m))} (h : f = g) : Ag2 n f g := h ▸ Ag2.rfl
theorem Ag2.le {n k : Nat} {f g : PS (PS (Zm m))} (h : Ag2 n f g) (hk : k ≤ n) : Ag2 k f g := fun i j hij => h i j (by omega)
theorem Ag2.add {n : Nat} {f g h k : PS (PS (Zm m))} (h1 : Ag2 n f g) (h2 : Ag2 n h k) : Ag2 n (f + h) (g + k) := fun i j hij => by
  rw [add_c, add_c, add_c, add_c, h1 i j hij, h2 i j hij]
theorem Ag2.mul {n : Nat} {f g h k : PS (PS (Zm m))} (h1 : Ag2 n f g) (h2 : Ag2 n h k) : Ag2 n (f * h) (g * k) := fun i j hij => by
  rw [mul_c, mul_c, sm_c, sm_c]
  refine sm_congr (fun a ha => ?_)
  rw [mul_c, mul_c]
  exact sm_congr (fun b hb => by rw [h1 a b (by omega), h2 (i - a) (j - b) (by omega)])
theorem Ag2.pw {n : Nat} {f g : PS (PS (Zm m))} (h : Ag2 n f g) (k : Nat) : Ag2 n (pw f k) (pw g k) := by
  induction k with
  | zero => exact Ag2.rfl
  | succ k ih => exact ih.mul h
theorem Ag2.sm {n k : Nat} {f g : Nat → PS (PS (Zm m))} (h : ∀ i, i < k → Ag2 n (f i) (g i)) : Ag2 n (sm k f) (sm k g) := fun i j hij => by
  rw [sm_c, sm_c, sm_c, sm_c]; exact sm_congr (fun q hq => h q hq i j hij)
theorem trunc_row (f : PS (PS (Zm m))) {n i j : Nat} (h : n ≤ i + j) : Ag2 n (trunc f i j) (trunc f (i + 1) 0) := fun a b hab => by
  rw [trunc_cc, trunc_cc]
  by_cases h1 : a < i + 1
  · rw [if_pos (by omega), if_pos (by omega)]
  · rw [if_neg (by omega), if_neg (by omega)]
theorem trunc_full (f : PS (PS (Zm m))) {n i : Nat} (h : n ≤ i) : Ag2 n (trunc f i 0) f := fun a b hab => by
  rw [trunc_cc, if_pos (by omega)]
theorem pP_row (f g : PS (PS (Zm m))) {n i j : Nat} (h : n ≤ i + j) : Ag2 n (pP f g i j) (pP f g (i + 1) 0) := (trunc_row f h).mul Ag2.rfl
theorem pP_full (f g : PS (PS (Zm m))) {n i : Nat} (h : n ≤ i) : Ag2 n (pP f g i 0) (f * g) := (trunc_full f h).mul Ag2.rfl
theorem pQ_row (f g : PS (PS (Zm m))) {n i j k l : Nat} (h : n ≤ i + j + k + l) : Ag2 n (pQ f g i j k l) (pQ f g i j (k + 1) 0) := fun a b hab => by
  rw [pQ_cc, pQ_cc]
  by_cases h1 : a < i + k + 1
  · rw [if_pos (by omega), if_pos (by omega)]
  · rw [if_neg (by omega)]
    split
    · exact (pP_left f g i j a b (by omega)).symm
    · exact Eq.refl _
theorem pQ_end (f g : PS (PS (Zm m))) {n i j k : Nat} (h : n ≤ i + j + k) : Ag2 n (pQ f g i j k 0) (pP f g i (j + 1)) := fun a b hab => by
  rw [pQ_cc]
  split
  · exact Eq.refl _
  · exact (pP_left f g i j a b (by omega)).symm
theorem comp2N_congr {a b : PS (Zm m)} {f g : PS (PS (Zm m))} {k n N : Nat} (h : ∀ i, k ≤ i → i < k + n → a.c i = b.c i) (h2 : Ag2 N f g) : Ag2 N (comp2N a f k n) (comp2N b g k n) :=
  Ag2.sm (fun i hi => by rw [h (k + i) (by omega) (by omega)]; exact Ag2.rfl.mul (h2.pw i))

/-- The first k lists of a table. -/
def TbP (n k : Nat) (f : PS (PS (Zm m))) : List (List Int) := (List.range k).map fun i => L (n - i) (f.c i)
@[simp] theorem TbP_length (n k : Nat) (f : PS (PS (Zm m))) : (TbP n k f).length = k := by simp [TbP]
theorem TbP_full (n : Nat) (f : PS (PS (Zm m))) : TbP n n f = Tb n f := Eq.refl _
theorem TbP_zero (n : Nat) (f : PS (PS (Zm m))) : TbP n 0 f = [] := Eq.refl _
theorem TbP_snoc (n k : Nat) (f : PS (PS (Zm m))) : TbP n k f ++ [L (n - k) (f.c k)] = TbP n (k + 1) f := by simp [TbP, List.range_succ]
theorem TbP_push {n k : Nat} {f : PS (PS (Zm m))} {l : List Int} (h : l = L (n - k) (f.c k)) : TbP n k f ++ [l] = TbP n (k + 1) f := by subst h; exact TbP_snoc n k f
theorem Tb_set {n i : Nat} (f : PS (PS (Zm m))) (r : PS (Zm m)) (h : i < n) : (Tb n f).set i (L (n - i) r) = Tb n (f.upd i r) := by
  refine List.ext_getElem (by simp) (fun k h1 h2 => ?_)
  rw [List.getElem_set, Tb_getElem, Tb_getElem, upd_c]
  by_cases e : i = k
  · subst e; rw [if_pos (Eq.refl _), if_pos (Eq.refl _)]
  · rw [if_neg e, if_neg (fun x => e x.symm)]
/-- A number put into a table. -/
def upd2 (f : PS (PS (Zm m))) (i j : Nat) (v : Zm m) : PS (PS (Zm m)) := f.upd i ((f.c i).upd j v)
theorem upd2_cc (f : PS (PS (Zm m))) (i j : Nat) (v : Zm m) (a b : Nat) : ((upd2 f i j v).c a).c b = if a = i ∧ b = j then v else (f.c a).c b := by
  unfold upd2
  rw [upd_c]
  by_cases h : a = i
  · subst h
    rw [if_pos (Eq.refl _), upd_c]
    by_cases h2 : b = j
    · rw [if_pos h2, if_pos ⟨Eq.refl _, h2⟩]
    · rw [if_neg h2, if_neg (fun x => h2 x.2)]
  · rw [if_neg h, if_neg (fun x => h x.1)]
theorem axX_step (a : PS (Zm m)) (i : Nat) : upd2 (axX (mix i a 0)) i 0 (a.c i) = axX (mix (i + 1) a 0) := ext2 (fun p q => by
  rw [upd2_cc, axX_c, axX_c, mix_succ, upd_c]
  by_cases h : p = i
  · subst h
    by_cases h2 : q = 0
    · rw [if_pos ⟨Eq.refl _, h2⟩, if_pos h2, if_pos (Eq.refl _)]
    · rw [if_neg (fun x => h2 x.2), if_neg h2, if_neg h2]
  · rw [if_neg (fun x => h x.1), if_neg h])
theorem axY_step (a : PS (Zm m)) (i : Nat) : upd2 (axY (mix i a 0)) 0 i (a.c i) = axY (mix (i + 1) a 0) := ext2 (fun p q => by
  rw [upd2_cc, axY_c, axY_c, mix_succ, upd_c]
  by_cases h : q = i
  · subst h
    by_cases h2 : p = 0
    · rw [if_pos ⟨h2, Eq.refl _⟩, if_pos h2, if_pos (Eq.refl _)]
    · rw [if_neg (fun x => h2 x.1), if_neg h2, if_neg h2]
  · rw [if_neg (fun x => h x.2), if_neg h])
theorem axX_ag {n : Nat} {a b : PS (Zm m)} (h : Ag n a b) : Ag2 n (axX a) (axX b) := fun i j hij => by
  rw [axX_c, axX_c, h i (by omega)]
theorem axY_ag {n : Nat} {a b : PS (Zm m)} (h : Ag n a b) : Ag2 n (axY a) (axY b) := fun i j hij => by
  rw [axY_c, axY_c, h j (by omega)]
/-- The first i rows of f and j places of the next one, then g. -/
def mixP (f g : PS (PS (Zm m))) (i j : Nat) : PS (PS (Zm m)) := ⟨fun a => ⟨fun b => if a < i ∨ (a = i ∧ b < j) then (f.c a).c b else (g.c a).c b⟩⟩
theorem mixP_cc (f g : PS (PS (Zm m))) (i j a b : Nat) : ((mixP f g i j).c a).c b = if a < i ∨ (a = i ∧ b < j) then (f.c a).c b else (g.c a).c b := Eq.refl _
theorem mixP_zero (f g : PS (PS (Zm m))) : mixP f g 0 0 = g := ext2 (fun a b => by rw [mixP_cc, if_neg (by omega)])
theorem mixP_c (f g : PS (PS (Zm m))) (i j : Nat) : ((mixP f g i j).c i).c j = (g.c i).c j := by rw [mixP_cc, if_neg (by omega)]
theorem mixP_step (f g : PS (PS (Zm m))) (i j : Nat) : mixP f g i (j + 1) = upd2 (mixP f g i j) i j ((f.c i).c j) := ext2 (fun a b => by
  rw [upd2_cc, mixP_cc, mixP_cc]
  by_cases h : a = i ∧ b = j
  · rw [if_pos (by omega), if_pos h, h.1, h.2]
  · rw [if_neg h]
    by_cases h2 : a < i ∨ (a = i ∧ b < j)
    · rw [if_pos h2, if_pos (by omega)]
    · rw [if_neg h2, if_neg (by omega)])
theorem mixP_row (f g : PS (PS (Zm m))) {n i j : Nat} (h : n ≤ i + j) : Ag2 n (mixP f g i j) (mixP f g (i + 1) 0) := fun a b hab => by
  rw [mixP_cc, mixP_cc]
  by_cases h1 : a < i + 1
  · rw [if_pos (by omega), if_pos (by omega)]
  · rw [if_neg (by omega), if_neg (by omega)]
theorem mixP_full (f g : PS (PS (Zm m))) {n i : Nat} (h : n ≤ i) : Ag2 n (mixP f g i 0) f := fun a b hab => by
  rw [mixP_cc, if_pos (by omega)]
end Go.Fg
