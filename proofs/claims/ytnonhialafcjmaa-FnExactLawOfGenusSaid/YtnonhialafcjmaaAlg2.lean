/- Lists of numbers as power series modulo m. -/
import Derived.Test.YtnonhialafcjmaaAlg1
set_option linter.unusedVariables false
set_option linter.unusedSimpArgs false
set_option linter.unusedSectionVars false
namespace Go.Fg
open CR

namespace Zm
variable {m : Int}
theorem val_add (a b : Zm m) : (a + b).val = (a.val + b.val) % m := by
  rw [← val_mk, mk_add, mk_val, mk_val]
theorem val_mul (a b : Zm m) : (a * b).val = (a.val * b.val) % m := by
  rw [← val_mk, mk_mul, mk_val, mk_val]
theorem val_neg (a : Zm m) : (-a).val = (-a.val) % m := by
  rw [← val_mk, mk_neg, mk_val]
theorem val_zero : (0 : Zm m).val = 0 := by show (mk m 0).val = 0; rw [val_mk]; simp
theorem val_one (h : 1 < m) : (1 : Zm m).val = 1 := val_of_range (a := 1) ⟨by omega, h⟩
theorem emod_val {e : Int} {z : Zm m} (h : mk m e = z) : e % m = z.val := by rw [← h, val_mk]
theorem tmod_val {e : Int} {z : Zm m} (h0 : 0 ≤ e) (h : mk m e = z) : e.tmod m = z.val := by
  rw [Int.tmod_eq_emod_of_nonneg h0, emod_val h]
theorem mk_tmod (e : Int) : mk m (e.tmod m) = mk m e := by
  refine mk_eq.2 ?_
  rw [Int.tmod_eq_emod]
  split
  · simp
  · rename_i h
    have h2 : (↑(m.natAbs) : Int) % m = 0 := Int.emod_eq_zero_of_dvd (Int.dvd_natAbs.2 (Int.dvd_refl m))
    rw [Int.sub_emod, h2]; simp
theorem mk_eq_zero {a : Int} : mk m a = 0 ↔ a % m = 0 := by
  rw [← mk_zero, mk_eq]; simp
theorem val_eq_zero {a : Zm m} : a.val = 0 ↔ a = 0 := by
  constructor
  · intro h; rw [← mk_val a, h]; rfl
  · rintro rfl; exact val_zero
theorem mk_inj {a b : Int} (ha : 0 ≤ a ∧ a < m) (hb : 0 ≤ b ∧ b < m) (h : mk m a = mk m b) : a = b := by
  rw [← val_of_range ha, ← val_of_range hb, h]
end Zm

namespace PS
variable {R : Type}
def upd (a : PS R) (k : Nat) (v : R) : PS R := ⟨fun n => if n = k then v else a.c n⟩
def mix (k : Nat) (a b : PS R) : PS R := ⟨fun n => if n < k then a.c n else b.c n⟩
def shl (a : PS R) : PS R := ⟨fun n => a.c (n + 1)⟩
theorem upd_c (a : PS R) (k : Nat) (v : R) (n : Nat) : (a.upd k v).c n = if n = k then v else a.c n := rfl
theorem mix_c (k : Nat) (a b : PS R) (n : Nat) : (mix k a b).c n = if n < k then a.c n else b.c n := rfl
theorem shl_c (a : PS R) (n : Nat) : a.shl.c n = a.c (n + 1) := rfl
theorem mix_succ (k : Nat) (a b : PS R) : mix (k + 1) a b = (mix k a b).upd k (a.c k) := by
  ext n; simp only [upd_c, mix_c]
  by_cases h : n = k
  · subst h; simp
  · rw [if_neg h]; by_cases h2 : n < k
    · rw [if_pos h2, if_pos (by omega)]
    · rw [if_neg h2, if_neg (by omega)]
theorem mix_zero (a b : PS R) : mix 0 a b = b := by ext n; simp [mix_c]

/-- Series that agree in their first n coefficients. -/
def Ag (n : Nat) (a b : PS R) : Prop := ∀ i, i < n → a.c i = b.c i
theorem Ag.rfl {n : Nat} {a : PS R} : Ag n a a := fun _ _ => Eq.refl _
theorem Ag.symm {n : Nat} {a b : PS R} (h : Ag n a b) : Ag n b a := fun i hi => (h i hi).symm
theorem Ag.trans {n : Nat} {a b c : PS R} (h : Ag n a b) (k : Ag n b c) : Ag n a c := fun i hi => (h i hi).trans (k i hi)
theorem Ag.le {n k : Nat} {a b : PS R} (h : Ag n a b) (hk : k ≤ n) : Ag k a b := fun i hi => h i (by omega)
theorem Ag.of_eq {n : Nat} {a b : PS R} (h : a = b) : Ag n a b := h ▸ Ag.rfl
variable [CR R]
theorem Ag.add {n : Nat} {a b c d : PS R} (h : Ag n a b) (k : Ag n c d) : Ag n (a + c) (b + d) := fun i hi => by rw [add_c, add_c, h i hi, k i hi]
theorem Ag.neg {n : Nat} {a b : PS R} (h : Ag n a b) : Ag n (-a) (-b) := fun i hi => by rw [neg_c, neg_c, h i hi]
theorem Ag.sub {n : Nat} {a b c d : PS R} (h : Ag n a b) (k : Ag n c d) : Ag n (a - c) (b - d) := h.add k.neg
theorem Ag.mul {n : Nat} {a b c d : PS R} (h : Ag n a b) (k : Ag n c d) : Ag n (a * c) (b * d) := fun i hi => by
  rw [mul_c, mul_c]
  exact sm_congr (fun j hj => by rw [h j (by omega), k (i - j) (by omega)])
theorem Ag.pw {n : Nat} {a b : PS R} (h : Ag n a b) (k : Nat) : Ag n (pw a k) (pw b k) := by
  induction k with
  | zero => exact Ag.rfl
  | succ k ih => exact ih.mul h
theorem Ag.sm {n k : Nat} {f g : Nat → PS R} (h : ∀ i, i < k → Ag n (f i) (g i)) : Ag n (sm k f) (sm k g) := fun i hi => by
  rw [sm_c, sm_c]; exact sm_congr (fun j hj => h j hj i hi)
end PS

open PS
variable {m : Int}

/-- The list of the first n coefficients. -/
def L (n : Nat) (a : PS (Zm m)) : List Int := (List.range n).map fun i => (a.c i).val
def rd (m : Int) (l : List Int) : PS (Zm m) := ⟨fun n => Zm.mk m (l.getD n 0)⟩
def Nums (m : Int) (l : List Int) : Prop := ∀ x ∈ l, 0 ≤ x ∧ x < m

theorem rd_c (l : List Int) (n : Nat) : (rd m l).c n = Zm.mk m (l.getD n 0) := rfl
@[simp] theorem L_length (n : Nat) (a : PS (Zm m)) : (L n a).length = n := by simp [L]
theorem L_getD {n i : Nat} (a : PS (Zm m)) (h : i < n) : (L n a).getD i 0 = (a.c i).val := by simp [L, h]
theorem L_getElem {n i : Nat} (a : PS (Zm m)) (h : i < (L n a).length) : (L n a)[i] = (a.c i).val := by simp [L]
theorem L_getElem? {n i : Nat} (a : PS (Zm m)) (h : i < n) : (L n a)[i]? = some (a.c i).val := by simp [L, h]
theorem L_congr {n : Nat} {a b : PS (Zm m)} (h : Ag n a b) : L n a = L n b := by
  refine List.map_congr_left (fun i hi => ?_)
  rw [h i (by simpa using hi)]
theorem L_inj {n : Nat} {a b : PS (Zm m)} (h : L n a = L n b) : Ag n a b := fun i hi => by
  have := congrArg (fun l => l.getD i 0) h
  simp only [L_getD _ hi] at this
  exact Zm.val_inj this
theorem L_iff {n : Nat} {a b : PS (Zm m)} : L n a = L n b ↔ Ag n a b := ⟨L_inj, L_congr⟩
theorem L_set {n i : Nat} (a : PS (Zm m)) (v : Zm m) : (L n a).set i v.val = L n (a.upd i v) := by
  refine List.ext_getElem (by simp) (fun k h1 h2 => ?_)
  rw [List.getElem_set, L_getElem, L_getElem, upd_c]
  by_cases h : i = k
  · rw [if_pos h, if_pos h.symm]
  · rw [if_neg h, if_neg (fun e => h e.symm)]
theorem L_nums (hm : 0 < m) (n : Nat) (a : PS (Zm m)) : Nums m (L n a) := by
  intro x hx
  simp only [L, List.mem_map] at hx
  obtain ⟨i, _, rfl⟩ := hx
  exact Zm.val_range hm _
theorem L_rd {l : List Int} (h : Nums m l) : L l.length (rd m l) = l := by
  refine List.ext_getElem (by simp) (fun k h1 h2 => ?_)
  rw [L_getElem, rd_c]
  have e : l.getD k 0 = l[k] := by simp [h2]
  rw [e]
  exact Zm.val_of_range (h _ (List.getElem_mem h2))
theorem rd_L (n : Nat) (a : PS (Zm m)) : Ag n (rd m (L n a)) a := fun i hi => by rw [rd_c, L_getD _ hi, Zm.mk_val]
theorem L_zero (n : Nat) : L n (0 : PS (Zm m)) = List.replicate n 0 := by
  refine List.ext_getElem (by simp) (fun k h1 h2 => ?_)
  rw [L_getElem, zero_c, Zm.val_zero]; simp
theorem L_take {n k : Nat} (a : PS (Zm m)) (h : k ≤ n) : (L n a).take k = L k a := by
  refine List.ext_getElem (by simp; omega) (fun i h1 h2 => ?_)
  rw [List.getElem_take, L_getElem, L_getElem]
theorem L_drop_one (n : Nat) (a : PS (Zm m)) : (L (n + 1) a).drop 1 = L n a.shl := by
  refine List.ext_getElem (by simp) (fun i h1 h2 => ?_)
  rw [List.getElem_drop, L_getElem, L_getElem, shl_c, Nat.add_comm]
theorem L_snoc (n : Nat) (a : PS (Zm m)) : L n a ++ [(a.c n).val] = L (n + 1) a := by
  simp [L, List.range_succ]
theorem L_nil (a : PS (Zm m)) : L 0 a = [] := rfl
theorem L_cons (n : Nat) (v : Zm m) (a : PS (Zm m)) : v.val :: L n a = L (n + 1) (PS.C v + PS.X * a) := by
  refine List.ext_getElem (by simp) (fun i h1 h2 => ?_)
  rw [L_getElem, add_c]
  cases i with
  | zero => rw [X_mul_zero, C_c, if_pos rfl, add_zero]; rfl
  | succ i => rw [X_mul_succ, C_c, if_neg (by omega), zero_add, List.getElem_cons_succ, L_getElem]
theorem L_set_eq {n i : Nat} {a b : PS (Zm m)} {x : Int} (v : Zm m) (hx : x = v.val) (h : Ag n (a.upd i v) b) : (L n a).set i x = L n b := by
  subst hx; rw [L_set, L_congr h]
theorem L_push {n : Nat} {a : PS (Zm m)} {x : Int} (hx : x = (a.c n).val) : L n a ++ [x] = L (n + 1) a := by
  subst hx; exact L_snoc n a
theorem L_push' {n : Nat} {a b : PS (Zm m)} {x : Int} (h : Ag n a b) (hx : x = (b.c n).val) : L n a ++ [x] = L (n + 1) b := by
  rw [L_congr h]; exact L_push hx
end Go.Fg

namespace Go.Fg
open CR PS
variable {m : Int}
/-- The table of a series in two variables: the list i has the coefficients of x^i. -/
def Tb (n : Nat) (f : PS (PS (Zm m))) : List (List Int) := (List.range n).map fun i => L (n - i) (f.c i)
@[simp] theorem Tb_length (n : Nat) (f : PS (PS (Zm m))) : (Tb n f).length = n := by simp [Tb]
theorem Tb_getD {n i : Nat} (f : PS (PS (Zm m))) (h : i < n) : (Tb n f).getD i [] = L (n - i) (f.c i) := by simp [Tb, h]
theorem Tb_getElem {n i : Nat} (f : PS (PS (Zm m))) (h : i < (Tb n f).length) : (Tb n f)[i] = L (n - i) (f.c i) := by simp [Tb]
/-- Series in two variables that agree below the degree n. -/
def Ag2 (n : Nat) (f g : PS (PS (Zm m))) : Prop := ∀ i j, i + j < n → (f.c i).c j = (g.c i).c j
theorem Tb_congr {n : Nat} {f g : PS (PS (Zm m))} (h : Ag2 n f g) : Tb n f = Tb n g := by
  refine List.map_congr_left (fun i hi => ?_)
  have : i < n := by simpa using hi
  exact L_congr (fun j hj => h i j (by omega))
theorem Tb_inj {n : Nat} {f g : PS (PS (Zm m))} (h : Tb n f = Tb n g) : Ag2 n f g := fun i j hij => by
  have := congrArg (fun l => l.getD i []) h
  simp only [Tb_getD _ (show i < n by omega)] at this
  exact L_inj this j (by omega)
def rd2 (m : Int) (t : List (List Int)) : PS (PS (Zm m)) := ⟨fun i => rd m (t.getD i [])⟩
/-- A table of a plane. -/
def IsTb (m : Int) (t : List (List Int)) : Prop := ∀ i, i < t.length → (t.getD i []).length = t.length - i ∧ Nums m (t.getD i [])
theorem Tb_rd {t : List (List Int)} (h : IsTb m t) : Tb t.length (rd2 m t) = t := by
  refine List.ext_getElem (by simp) (fun i h1 h2 => ?_)
  obtain ⟨h3, h4⟩ := h i h2
  rw [Tb_getElem]
  show L (t.length - i) (rd m (t.getD i [])) = _
  rw [← h3, L_rd h4]
  simp [h2]
theorem Tb_is (hm : 0 < m) (n : Nat) (f : PS (PS (Zm m))) : IsTb m (Tb n f) := fun i hi => by
  have : i < n := by simpa using hi
  rw [Tb_getD f this]
  exact ⟨by simp, L_nums hm _ _⟩
end Go.Fg
