/- Tables in two variables: obligations. -/
import Derived.Test.YtnonhialafcjmaaVm30
import Derived.Test.YtnonhialafcjmaaAlg7
set_option linter.unusedVariables false
set_option linter.unusedSimpArgs false
set_option linter.unusedSectionVars false
namespace Go.Vm
open Go Go.RowKit Go.Fg

/-- A number put into a table. -/
def setT (t : List (List Int)) (i j : Nat) (x : Int) : List (List Int) := t.set i ((t.getD i []).set j x)
@[simp] theorem setT_length (t : List (List Int)) (i j : Nat) (x : Int) : (setT t i j x).length = t.length := by simp [setT]
theorem setT_getD (t : List (List Int)) (i j : Nat) (x : Int) (k : Nat) : ((setT t i j x).getD k []).length = (t.getD k []).length := by
  unfold setT
  by_cases h : i = k
  · subst h
    by_cases h2 : i < t.length
    · simp [h2]
    · simp [List.set_eq_of_length_le (by omega : t.length ≤ i)]
  · simp [List.getElem?_set_ne h]
theorem updB_rows (t : List (List Int)) {i : Nat} (h : i < t.length) (f : List D → List D) (l : List Int) (hf : f (ints (t.getD i [])) = ints l) : updB (rows true t) [i] f = rows true (t.set i l) := by
  show (match (rows true t)[i]? with | some (.list true sz cs') => (rows true t).set i (.list true sz (updB cs' [] f)) | _ => rows true t) = _
  rw [rows_get h]
  show (rows true t).set i (.list true 1 (f (ints (t.getD i [])))) = _
  rw [hf, rows_set]
theorem store_rows {t : List (List Int)} {i j : Nat} (x : Int) (h : i < t.length) (h2 : j < (t.getD i []).length) : StoreRow (rows true t) [i] j (dint x) (rows true (setT t i j x)) := by
  refine ⟨_, getB_rows h, by simpa using h2, fun y hy => ?_, ?_⟩
  · simp only [ints, List.getElem?_map, Option.map_eq_some_iff] at hy
    obtain ⟨a, _, rfl⟩ := hy; rfl
  · exact updB_rows t h _ _ (ints_set _ _ _)
theorem rowLen {m : Int} {n i : Nat} {f : PS (PS (Zm m))} (h : i < n) : ((Tb n f).getD i []).length = n - i := by rw [Tb_getD f h]; simp
theorem vStoreR {t : List (List Int)} {q i k j : Nat} (x : Int) (e : q = i := by exact vIx) (e2 : k = j := by exact vIx) (h : i < t.length := by exact vAr) (h2 : j < (t.getD i []).length := by exact vAr) : StoreRow (rows true t) [q] k (dint x) (rows true (setT t i j x)) := by subst e; subst e2; exact store_rows x h h2
theorem vStoreT {m : Int} {n q i k j : Nat} {f : PS (PS (Zm m))} (x : Int) (e : q = i := by exact vIx) (e2 : k = j := by exact vIx) (h : i + j < n := by exact vAr) : StoreRow (rows true (Tb n f)) [q] k (dint x) (rows true (setT (Tb n f) i j x)) := by
  subst e; subst e2
  exact store_rows x (by simp; omega) (by rw [rowLen (by omega)]; omega)
theorem setT_eq {m : Int} {n i j : Nat} {f g : PS (PS (Zm m))} {x : Int} (v : Zm m) (hx : x = v.val) (h : i < n) (ha : Ag2 n (upd2 f i j v) g) : setT (Tb n f) i j x = Tb n g := by
  subst hx
  unfold setT
  rw [Tb_getD f h, L_set, Tb_set f _ h]
  exact Tb_congr ha
theorem rows_congr {o : Bool} {t t' : List (List Int)} (h : t = t') : rows o t = rows o t' := by rw [h]
theorem vAppT {m : Int} {n k : Nat} {f : PS (PS (Zm m))} (t : List (List Int)) (l : List Int) : rows true t ++ [.list true 1 (ints l)] = rows true (t ++ [l]) := rows_append true t l
theorem vLoadRT {m : Int} {n k i : Nat} {f : PS (PS (Zm m))} (e : k = i := by exact vIx) (h : i < n := by exact vAr) : LoadRow (rows true (Tb n f)) [] k (.list true 1 (ints (L (n - i) (f.c i)))) := vRowT e h
theorem sub_rows {o : Bool} {t : List (List Int)} {n : Nat} (h : n = t.length) : sub (rows o t) 1 0 n = rows o t := by
  subst h
  simp [sub, rows, List.take_of_length_le]
theorem vSubR {o : Bool} {t : List (List Int)} {n : Nat} (h : n = t.length := by first | exact vAr | (simp; first | done | omega)) : sub (rows o t) 1 0 n = rows o t := sub_rows h
theorem sub_one (d : D) : sub [d] 1 0 1 = [d] := rfl
/-- Arithmetic with tables. -/
theorem vArT {p : Prop} (h : p := by simp only [cnt1, ints_length, rows_length, setT_length, TbP_length, pasc_length, Tb_length, L_length, Nat.mul_one]; first | done | omega) : p := h
/-- An obligation with a hole, of tables. -/
theorem vObt {p : Prop} (h : p := by first | exact sub_one _ | exact vStoreT _ | exact vStoreR _ | exact vSubR) : p := h
end Go.Vm
