import Derived.Test.YtghcpginhamelaaGreatAlg7
set_option linter.unusedVariables false
set_option linter.unusedSimpArgs false
set_option linter.unusedSectionVars false
namespace Go.Fg
open CR PS
variable {m : Int}
def bF (q : Nat) (f g : PS (PS (Zm m))) : Prop := ∀ i j, i < q → j < q → (f.c i).c j = (g.c i).c j
theorem bF.rfl {q : Nat} {f : PS (PS (Zm m))} : bF q f f := fun _ _ _ _ => Eq.refl _
theorem bF.symm {q : Nat} {f g : PS (PS (Zm m))} (h : bF q f g) : bF q g f := fun i j h1 h2 => (h i j h1 h2).symm
theorem bF.trans {q : Nat} {f g k : PS (PS (Zm m))} (h : bF q f g) (h2 : bF q g k) : bF q f k := fun i j a b => (h i j a b).trans (h2 i j a b)
theorem bF.of_eq {q : Nat} {f g : PS (PS (Zm m))} (h : f = g) : bF q f g := h ▸ bF.rfl
theorem bF.mul {q : Nat} {f g h k : PS (PS (Zm m))} (h1 : bF q f g) (h2 : bF q h k) : bF q (f * h) (g * k) := fun i j hi hj => by
 rw [cN, cN, sm_c, sm_c]
 refine bS (fun a ha => ?_)
 rw [cN, cN]
 exact bS (fun b hb => by rw [h1 a b (by omega) (by omega), h2 (i - a) (j - b) (by omega) (by omega)])
theorem Ar7 (f : PS (PS (Zm m))) {q i j : Nat} (h : q ≤ j) : bF q (trunc f i j) (trunc f (i + 1) 0) := fun a b ha hb => by
 rw [oR, oR]
 by_cases h1 : a < i + 1
 · rw [if_pos (by omega), if_pos (by omega)]
 · rw [if_neg (by omega), if_neg (by omega)]
theorem Ag7 (f g : PS (PS (Zm m))) {q i j : Nat} (h : q ≤ j) : bF q (pP f g i j) (pP f g (i + 1) 0) := (Ar7 f h).mul bF.rfl
theorem W9 (f g : PS (PS (Zm m))) {q i : Nat} (h : q ≤ i) : bF q (pP f g i 0) (f * g) := by
 refine bF.mul (fun a b ha hb => ?_) bF.rfl
 rw [oR, if_pos (by omega)]
theorem Abs (f g : PS (PS (Zm m))) {q i j k l : Nat} (h : q ≤ j + l) : bF q (pQ f g i j k l) (pQ f g i j (k + 1) 0) := fun a b ha hb => by
 rw [iO, iO]
 by_cases h1 : a < i + k + 1
 · rw [if_pos (by omega), if_pos (by omega)]
 · rw [if_neg (by omega)]
   split
   · exact (I9 f g i j a b (by omega)).symm
   · exact Eq.refl _
theorem Adn (f g : PS (PS (Zm m))) {q i j k : Nat} (h : q ≤ i + k) : bF q (pQ f g i j k 0) (pP f g i (j + 1)) := fun a b ha hb => by
 rw [iO, if_pos (by omega)]
def bA (q : Nat) (f : PS (PS (Zm m))) : List (List Int) := (List.range q).map fun i => L q (f.c i)
@[simp] theorem uM (q : Nat) (f : PS (PS (Zm m))) : (bA q f).length = q := by simp [bA]
theorem iU {q i : Nat} (f : PS (PS (Zm m))) (h : i < q) : (bA q f).getD i [] = L q (f.c i) := by simp [bA, h]
theorem eS {q : Nat} {f g : PS (PS (Zm m))} (h : bF q f g) : bA q f = bA q g :=
 List.map_congr_left (fun i hi => dW (fun j hj => h i j (by simpa using hi) hj))
def jR (q k : Nat) (f : PS (PS (Zm m))) : List (List Int) := (List.range k).map fun i => L q (f.c i)
theorem wG (q : Nat) (f : PS (PS (Zm m))) : jR q q f = bA q f := Eq.refl _
theorem vK {q k : Nat} {f : PS (PS (Zm m))} {l : List Int} (h : l = L q (f.c k)) : jR q k f ++ [l] = jR q (k + 1) f := by
 subst h; simp [jR, List.range_succ]
@[simp] theorem Afz (q k : Nat) (f : PS (PS (Zm m))) : (jR q k f).length = k := by simp [jR]
theorem S2 {q i : Nat} (f : PS (PS (Zm m))) (r : PS (Zm m)) (h : i < q) : (bA q f).set i (L q r) = bA q (f.upd i r) := by
 refine List.ext_getElem (by simp) (fun k h1 h2 => ?_)
 rw [List.getElem_set]
 simp only [bA, List.getElem_map, List.getElem_range]
 by_cases e : i = k
 · subst e; rw [if_pos (Eq.refl _), cL, if_pos (Eq.refl _)]
 · rw [if_neg e, cL, if_neg (fun x => e x.symm)]
end Go.Fg
