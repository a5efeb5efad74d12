import Derived.Test.YtndhpcigpghejaaGreatAlg7
set_option linter.unusedVariables false
set_option linter.unusedSimpArgs false
set_option linter.unusedSectionVars false
namespace Go.Fg
open CR PS
variable {m : Int}
def AgS (q : Nat) (f g : PS (PS (Zm m))) : Prop := ∀ i j, i < q → j < q → (f.c i).c j = (g.c i).c j
theorem AgS.rfl {q : Nat} {f : PS (PS (Zm m))} : AgS q f f := fun _ _ _ _ => Eq.refl _
theorem AgS.symm {q : Nat} {f g : PS (PS (Zm m))} (h : AgS q f g) : AgS q g f := fun i j h1 h2 => (h i j h1 h2).symm
theorem AgS.trans {q : Nat} {f g k : PS (PS (Zm m))} (h : AgS q f g) (h2 : AgS q g k) : AgS q f k := fun i j a b => (h i j a b).trans (h2 i j a b)
theorem AgS.of_eq {q : Nat} {f g : PS (PS (Zm m))} (h : f = g) : AgS q f g := h ▸ AgS.rfl
theorem AgS.mul {q : Nat} {f g h k : PS (PS (Zm m))} (h1 : AgS q f g) (h2 : AgS q h k) : AgS q (f * h) (g * k) := fun i j hi hj => by
 rw [mul_c, mul_c, sm_c, sm_c]
 refine sm_congr (fun a ha => ?_)
 rw [mul_c, mul_c]
 exact sm_congr (fun b hb => by rw [h1 a b (by omega) (by omega), h2 (i - a) (j - b) (by omega) (by omega)])
theorem sq_trunc_row (f : PS (PS (Zm m))) {q i j : Nat} (h : q ≤ j) : AgS q (trunc f i j) (trunc f (i + 1) 0) := fun a b ha hb => by
 rw [trunc_cc, trunc_cc]
 by_cases h1 : a < i + 1
 · rw [if_pos (by omega), if_pos (by omega)]
 · rw [if_neg (by omega), if_neg (by omega)]
theorem sq_row (f g : PS (PS (Zm m))) {q i j : Nat} (h : q ≤ j) : AgS q (pP f g i j) (pP f g (i + 1) 0) := (sq_trunc_row f h).mul AgS.rfl
theorem sq_full (f g : PS (PS (Zm m))) {q i : Nat} (h : q ≤ i) : AgS q (pP f g i 0) (f * g) := by
 refine AgS.mul (fun a b ha hb => ?_) AgS.rfl
 rw [trunc_cc, if_pos (by omega)]
theorem sq_qrow (f g : PS (PS (Zm m))) {q i j k l : Nat} (h : q ≤ j + l) : AgS q (pQ f g i j k l) (pQ f g i j (k + 1) 0) := fun a b ha hb => by
 rw [pQ_cc, pQ_cc]
 by_cases h1 : a < i + k + 1
 · rw [if_pos (by omega), if_pos (by omega)]
 · rw [if_neg (by omega)]
   split
   · exact (pP_left f g i j a b (by omega)).symm
   · exact Eq.refl _
theorem sq_qend (f g : PS (PS (Zm m))) {q i j k : Nat} (h : q ≤ i + k) : AgS q (pQ f g i j k 0) (pP f g i (j + 1)) := fun a b ha hb => by
 rw [pQ_cc, if_pos (by omega)]
def sqT (q : Nat) (f : PS (PS (Zm m))) : List (List Int) := (List.range q).map fun i => L q (f.c i)
@[simp] theorem sqT_length (q : Nat) (f : PS (PS (Zm m))) : (sqT q f).length = q := by simp [sqT]
theorem sqT_getD {q i : Nat} (f : PS (PS (Zm m))) (h : i < q) : (sqT q f).getD i [] = L q (f.c i) := by simp [sqT, h]
theorem sqT_congr {q : Nat} {f g : PS (PS (Zm m))} (h : AgS q f g) : sqT q f = sqT q g :=
 List.map_congr_left (fun i hi => L_congr (fun j hj => h i j (by simpa using hi) hj))
def sqP (q k : Nat) (f : PS (PS (Zm m))) : List (List Int) := (List.range k).map fun i => L q (f.c i)
theorem sqP_full (q : Nat) (f : PS (PS (Zm m))) : sqP q q f = sqT q f := Eq.refl _
theorem sqP_push {q k : Nat} {f : PS (PS (Zm m))} {l : List Int} (h : l = L q (f.c k)) : sqP q k f ++ [l] = sqP q (k + 1) f := by
 subst h; simp [sqP, List.range_succ]
@[simp] theorem sqP_length (q k : Nat) (f : PS (PS (Zm m))) : (sqP q k f).length = k := by simp [sqP]
theorem sqT_set {q i : Nat} (f : PS (PS (Zm m))) (r : PS (Zm m)) (h : i < q) : (sqT q f).set i (L q r) = sqT q (f.upd i r) := by
 refine List.ext_getElem (by simp) (fun k h1 h2 => ?_)
 rw [List.getElem_set]
 simp only [sqT, List.getElem_map, List.getElem_range]
 by_cases e : i = k
 · subst e; rw [if_pos (Eq.refl _), upd_c, if_pos (Eq.refl _)]
 · rw [if_neg e, upd_c, if_neg (fun x => e x.symm)]
end Go.Fg
