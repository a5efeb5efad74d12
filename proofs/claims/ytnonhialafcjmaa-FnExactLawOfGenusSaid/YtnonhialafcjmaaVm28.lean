/- Obligations that a fixed script settles. -/
import Derived.Test.YtnonhialafcjmaaVm27
import Derived.Test.YtnonhialafcjmaaAlg3
set_option linter.unusedVariables false
set_option linter.unusedSimpArgs false
set_option linter.unusedSectionVars false
namespace Go.Vm
open Go Go.RowKit Go.Fg

/-- Rows of rows of numbers. -/
def rows (o : Bool) (t : List (List Int)) : List D := t.map fun l => .list o 1 (ints l)
@[simp] theorem rows_length (o : Bool) (t : List (List Int)) : (rows o t).length = t.length := by simp [rows]
theorem rows_nil (o : Bool) : rows o [] = [] := rfl
theorem rows_at {o : Bool} {t : List (List Int)} {i : Nat} {l : List Int} (h : t[i]? = some l) : (rows o t)[i]? = some (.list o 1 (ints l)) := by simp [rows, h]
theorem rows_get {o : Bool} {t : List (List Int)} {i : Nat} (h : i < t.length) : (rows o t)[i]? = some (.list o 1 (ints (t.getD i []))) := by
  rw [rows_at (List.getElem?_eq_getElem h)]; simp [h]
theorem rows_append (o : Bool) (t : List (List Int)) (l : List Int) : rows o t ++ [.list o 1 (ints l)] = rows o (t ++ [l]) := by simp [rows]
theorem rows_set (o : Bool) (t : List (List Int)) (i : Nat) (l : List Int) : (rows o t).set i (.list o 1 (ints l)) = rows o (t.set i l) := by simp [rows, List.map_set]
theorem rows_plain (t : List (List Int)) : ∀ x ∈ rows true t, PlainD x := by
  intro x hx
  simp only [rows, List.mem_map] at hx
  obtain ⟨l, _, rfl⟩ := hx
  exact .list 1 _ (ints_plain l)
theorem getB_rows {t : List (List Int)} {i : Nat} (h : i < t.length) : getB (rows true t) [i] = some (ints (t.getD i [])) := by
  show (match (rows true t)[i]? with | some (.list true _ cs) => getB cs [] | _ => none) = _
  rw [rows_get h]; rfl
theorem load_rows {t : List (List Int)} {i j : Nat} (h : i < t.length) (h2 : j < (t.getD i []).length) : LoadRow (rows true t) [i] j (dint ((t.getD i []).getD j 0)) := ⟨_, getB_rows h, ints_get h2⟩
theorem load_row {t : List (List Int)} {i : Nat} (h : i < t.length) : LoadRow (rows true t) [] i (.list true 1 (ints (t.getD i []))) := ⟨_, rfl, rows_get h⟩
theorem SubD.cells {o o' : Bool} {sz : Nat} {cs cs' : List D} (hl : cs.length = cs'.length) (h : ∀ (i : Nat) d d', cs[i]? = some d → cs'[i]? = some d' → SubD d d') : SubD (.list o sz cs) (.list o' sz cs') := by
  intro w ok v hv
  cases hv with
  | nil => cases cs' with
    | nil => exact .nil o' sz
    | cons _ _ => simp at hl
  | wild _ _ ad => cases cs' with
    | nil => exact .wild o' sz ad
    | cons _ _ => simp at hl
  | list _ _ _ b off len cap hl2 hlc hb hc hr =>
    refine .list o' sz cs' b off len cap (by rw [hl2, hl]) hlc hb (fun i hi => hc i (by omega)) (fun i d' v hd' hv => ?_)
    obtain ⟨d, hd⟩ := at_of_len hl.symm hd'
    exact h i d d' hd hd' w ok v (hr i d v hd hv)
theorem SubD.rows (o o' p p' : Bool) (t : List (List Int)) : SubD (.list o 1 (rows p t)) (.list o' 1 (rows p' t)) := by
  refine SubD.cells (by simp) (fun i d d' h h' => ?_)
  simp only [Go.Vm.rows, List.getElem?_map, Option.map_eq_some_iff] at h h'
  obtain ⟨l, hl, rfl⟩ := h
  obtain ⟨l', hl', rfl⟩ := h'
  rw [hl] at hl'; cases hl'
  exact SubD.list _ _ _ _

def marks (k : Int) (n : Nat) : List Int := (List.range n).map fun (i : Nat) => k + (i : Int)
@[simp] theorem marks_length (k : Int) (n : Nat) : (marks k n).length = n := by simp [marks]
theorem marks_getD {k : Int} {n i : Nat} (h : i < n) : (marks k n).getD i 0 = k + i := by simp [marks, h]
theorem toNat_add (a b : Nat) : ((a : Int) + (b : Int)).toNat = a + b := by omega
theorem toNat_add1 (a : Nat) : ((a : Int) + 1).toNat = a + 1 := by omega
theorem toNat_add2 (a : Nat) : ((a : Int) + 2).toNat = a + 2 := by omega
theorem toNat_sub (a b : Nat) : ((a : Int) - (b : Int)).toNat = a - b := by omega
theorem toNat_sub11 (a b : Nat) : ((a : Int) + 1 - ((b : Int) + 1)).toNat = a - b := by omega
theorem toNat_sub1 (a : Nat) : ((a : Int) - 1).toNat = a - 1 := by omega
theorem tdiv2 (a : Nat) : ((a : Int)).tdiv 2 = ((a / 2 : Nat) : Int) := by rw [Int.tdiv_eq_ediv_of_nonneg (by omega)]; omega
theorem tmod2 (a : Nat) : ((a : Int)).tmod 2 = ((a % 2 : Nat) : Int) := by rw [Int.tmod_eq_emod_of_nonneg (by omega)]; omega
theorem toNat_0 : (0 : Int).toNat = 0 := rfl
theorem toNat_1 : (1 : Int).toNat = 1 := rfl

/-- Arithmetic. -/
theorem vAr {p : Prop} (h : p := by first | omega | (simp only [cnt1, ints_length, rows_length, L_length, Tb_length, marks_length, place1, List.length_set, List.length_append, List.length_cons, List.length_nil, List.length_replicate, Int.toNat_natCast, tdiv2, tmod2] at *; first | done | omega)) : p := h
/-- An index in its plain form. -/
theorem vIx {k i : Nat} (h : k = i := by first | (simp only [place1, cnt1, ints_length, rows_length, L_length, Tb_length, marks_length, List.length_set, List.length_replicate, Int.toNat_natCast, Nat.zero_add, Nat.add_zero, toNat_add, toNat_add1, toNat_add2, toNat_sub, toNat_sub11, toNat_sub1, toNat_0, toNat_1]; first | done | rfl) | rfl) : k = i := h
theorem vRoomL {n b : Nat} {l c : Int} (h1 : 0 ≤ l := by exact vAr) (h2 : l ≤ c := by exact vAr) (hb : b = 8 ∨ b = 24 := by first | exact .inl rfl | exact .inr rfl) (h3 : n ≤ 1000000000000 := by exact vAr) : 0 ≤ l ∧ l ≤ c ∧ roomOk n b := ⟨h1, h2, ⟨by rcases hb with rfl | rfl <;> omega, by omega⟩⟩
theorem vRoom {n b : Nat} (hb : b = 8 ∨ b = 24 := by first | exact .inl rfl | exact .inr rfl) (h3 : n ≤ 1000000000000 := by exact vAr) : roomOk n b := ⟨by rcases hb with rfl | rfl <;> omega, by omega⟩
/-- A modulus. -/
def Md (m : Int) : Prop := 2 ≤ m ∧ m ≤ 10000
theorem Md.pos {m : Int} (h : Md m) : 0 < m := by have := h.1; omega
theorem Md.mul {m : Int} (h : Md m) (a b : Zm m) : 0 ≤ a.val * b.val ∧ a.val * b.val ≤ 100000000 := by
  have h1 := Zm.val_range h.pos a
  have h2 := Zm.val_range h.pos b
  refine ⟨Int.mul_nonneg h1.1 h2.1, ?_⟩
  have := h.2
  calc a.val * b.val ≤ 10000 * b.val := Int.mul_le_mul_of_nonneg_right (by omega) h2.1
    _ ≤ 10000 * 10000 := Int.mul_le_mul_of_nonneg_left (by omega) (by omega)
    _ = 100000000 := by rfl
theorem vNegV {m : Int} (h : Md m) (a : Zm m) : inR .i64 (0 - a.val) := by
  have := Zm.val_range h.pos a; have := h.2; exact inR64 (by omega) (by omega)
theorem vAddV {m : Int} (h : Md m) (a b : Zm m) : inR .i64 (a.val + b.val) := by
  have := Zm.val_range h.pos a; have := Zm.val_range h.pos b; have := h.2; exact inR64 (by omega) (by omega)
theorem vSubV {m : Int} (h : Md m) (a b : Zm m) : inR .i64 (a.val - b.val) := by
  have := Zm.val_range h.pos a; have := Zm.val_range h.pos b; have := h.2; exact inR64 (by omega) (by omega)
theorem vMulV {m : Int} (h : Md m) (a b : Zm m) : inR .i64 (a.val * b.val) := by
  have := h.mul a b; exact inR64 (by omega) (by omega)
theorem vMulAV {m : Int} (h : Md m) (a b c : Zm m) : inR .i64 (c.val + a.val * b.val) := by
  have := h.mul a b; have := Zm.val_range h.pos c; have := h.2; exact inR64 (by omega) (by omega)
theorem vSubM {m : Int} (h : Md m) (a : Zm m) : inR .i64 (m - a.val) := by
  have := Zm.val_range h.pos a; have := h.2; exact inR64 (by omega) (by omega)
theorem vMod {m : Int} (h : Md m) : m ≠ 0 := by have := h.1; omega
/-- Numbers: what is reckoned modulo m. -/
theorem tm {m : Int} (h : Md m) {e : Int} {z : Zm m} (h0 : 0 ≤ e) (hz : Zm.mk m e = z) : e.tmod m = z.val := Zm.tmod_val h0 hz
theorem tm_add {m : Int} (h : Md m) (a b : Zm m) : (a.val + b.val).tmod m = (a + b).val := by
  have := Zm.val_range h.pos a; have := Zm.val_range h.pos b
  exact Zm.tmod_val (by omega) (by rw [Zm.mk_add, Zm.mk_val, Zm.mk_val])
theorem tm_mul {m : Int} (h : Md m) (a b : Zm m) : (a.val * b.val).tmod m = (a * b).val :=
  Zm.tmod_val (h.mul a b).1 (by rw [Zm.mk_mul, Zm.mk_val, Zm.mk_val])
theorem tm_mulA {m : Int} (h : Md m) (a b c : Zm m) : (c.val + a.val * b.val).tmod m = (c + a * b).val := by
  have := h.mul a b; have := Zm.val_range h.pos c
  exact Zm.tmod_val (by omega) (by rw [Zm.mk_add, Zm.mk_mul, Zm.mk_val, Zm.mk_val, Zm.mk_val])
theorem em_neg {m : Int} (a : Zm m) : (0 - a.val) % m = (-a).val := by
  rw [Zm.emod_val (z := -a)]; rw [Int.zero_sub, Zm.mk_neg, Zm.mk_val]
theorem em_sub {m : Int} (a b : Zm m) : (a.val - b.val) % m = (a - b).val := by
  rw [Zm.emod_val (z := a - b)]; rw [Zm.mk_sub, Zm.mk_val, Zm.mk_val]
theorem em_add {m : Int} (a b : Zm m) : (a.val + b.val) % m = (a + b).val := by
  rw [Zm.emod_val (z := a + b)]; rw [Zm.mk_add, Zm.mk_val, Zm.mk_val]
theorem em_mul {m : Int} (a b : Zm m) : (a.val * b.val) % m = (a * b).val := by
  rw [Zm.emod_val (z := a * b)]; rw [Zm.mk_mul, Zm.mk_val, Zm.mk_val]

theorem subM_bd {m : Int} (h : Md m) (x u : Zm m) : 0 ≤ (m - x.val) * u.val ∧ (m - x.val) * u.val ≤ 100000000 := by
  have h1 := Zm.val_range h.pos x
  have h2 := Zm.val_range h.pos u
  refine ⟨Int.mul_nonneg (by omega) h2.1, ?_⟩
  have := h.2
  calc (m - x.val) * u.val ≤ 10000 * u.val := Int.mul_le_mul_of_nonneg_right (by omega) h2.1
    _ ≤ 10000 * 10000 := Int.mul_le_mul_of_nonneg_left (by omega) (by omega)
    _ = 100000000 := by rfl
theorem vSubMul {m : Int} (h : Md m) (x u : Zm m) : inR .i64 ((m - x.val) * u.val) := by
  have := subM_bd h x u; exact inR64 (by omega) (by omega)
theorem tm_negmul {m : Int} (h : Md m) (x u : Zm m) : ((m - x.val) * u.val).tmod m = (-(x * u)).val :=
  Zm.tmod_val (subM_bd h x u).1 (by rw [Zm.mk_mul, Zm.mk_sub, Zm.mk_val, Zm.mk_val, Zm.mk_self, Go.Fg.sub_def, CR.zero_add, Go.Fg.neg_mul])
theorem mulV0 {m : Int} (h : Md m) (a b : Zm m) : 0 ≤ a.val * b.val := (h.mul a b).1

theorem vCell1 (x : Int) : ∀ d ∈ sub [dint x] 1 0 1, d.cellOk = true := by
  intro d hd
  simp [sub] at hd
  subst hd; rfl
theorem vCellI (l : List Int) : ∀ d ∈ ints l, d.cellOk = true := by
  intro d hd
  simp only [ints, List.mem_map] at hd
  obtain ⟨x, _, rfl⟩ := hd; rfl
theorem vOneR (o : Bool) (t : List (List Int)) : ∀ d ∈ rows o t, d.one = true := by
  intro d hd
  simp only [rows, List.mem_map] at hd
  obtain ⟨x, _, rfl⟩ := hd; rfl
theorem vOne1 (l : List Int) : ∀ d ∈ [D.list true 1 (ints l)], d.one = true := by
  intro d hd
  simp at hd
  subst hd; rfl
/-- An obligation. -/
theorem vOb {p : Prop} (h : p := by first | exact rfl | assumption | exact .inl rfl | exact .inr rfl | exact ints_plain _ | exact rows_plain _ | exact vCell1 _ | exact vCellI _ | exact vOneR _ _ | exact vOne1 _ | exact inR64 vAr vAr | exact vNegV (by assumption) _ | exact vAddV (by assumption) _ _ | exact vSubV (by assumption) _ _ | exact vMulV (by assumption) _ _ | exact vMulAV (by assumption) _ _ _ | exact vSubM (by assumption) _ | exact vSubMul (by assumption) _ _ | exact vAr | exact vRoomL | exact vRoom) : p := h
theorem vLoad {l : List Int} {k i : Nat} (e : k = i := by exact vIx) (h : i < l.length := by exact vAr) : LoadRow (ints l) [] k (dint (l.getD i 0)) := by subst e; exact load_ints h
theorem vGet {l : List Int} {k i : Nat} (e : k = i := by exact vIx) (h : i < l.length := by exact vAr) : (ints l)[k]? = some (dint (l.getD i 0)) := by subst e; exact ints_get h
theorem vStore {l : List Int} {k i : Nat} (x : Int) (e : k = i := by exact vIx) (h : i < l.length := by exact vAr) : StoreRow (ints l) [] k (dint x) (ints (l.set i x)) := by subst e; exact StoreRow.ints x h
theorem vSub {l : List Int} {n : Nat} (h : n = l.length := by exact vAr) : sub (ints l) 1 0 n = ints l := sub_ints h
theorem vRload {t : List (List Int)} {q i k j : Nat} (e : q = i := by exact vIx) (e2 : k = j := by exact vIx) (h : i < t.length := by exact vAr) (h2 : j < (t.getD i []).length := by exact vAr) : LoadRow (rows true t) [q] k (dint ((t.getD i []).getD j 0)) := by subst e; subst e2; exact load_rows h h2
theorem vRrow {t : List (List Int)} {k i : Nat} (e : k = i := by exact vIx) (h : i < t.length := by exact vAr) : LoadRow (rows true t) [] k (.list true 1 (ints (t.getD i []))) := by subst e; exact load_row h
theorem vRget {o : Bool} {t : List (List Int)} {k i : Nat} (e : k = i := by exact vIx) (h : i < t.length := by exact vAr) : (rows o t)[k]? = some (.list o 1 (ints (t.getD i []))) := by subst e; exact rows_get h
theorem vSubL {m : Int} {n k k' : Nat} {a : PS (Zm m)} (e : k = k' := by exact vIx) (h : k' ≤ n := by exact vAr) : sub (ints (L n a)) 1 0 k = ints (L k' a) := by
  subst e; rw [sub_ints', List.drop_zero, L_take a h]
theorem vApp1 (l : List Int) (x : Int) : ints l ++ [dint x] = ints (l ++ [x]) := by simp [ints]
theorem vAppR (t : List (List Int)) (l : List Int) : rows true t ++ [.list true 1 (ints l)] = rows true (t ++ [l]) := rows_append true t l
theorem vRepl0 (n : Nat) : replN n [dint 0] = ints (List.replicate n 0) := replN_ints n 0
theorem vRepl {n k : Nat} (h : n = k := by exact vAr) : replN n [dint 0] = ints (List.replicate k 0) := by subst h; exact replN_ints n 0
theorem vReplL {m : Int} {n k : Nat} (h : n = k := by exact vAr) : replN n [dint 0] = ints (L k (0 : PS (Zm m))) := by subst h; rw [L_zero]; exact replN_ints n 0
theorem vLoadL {m : Int} {n k i : Nat} {a : PS (Zm m)} (e : k = i := by exact vIx) (h : i < n := by exact vAr) : LoadRow (ints (L n a)) [] k (dint (a.c i).val) := by
  subst e; rw [← L_getD a h]; exact load_ints (by simpa using h)
theorem vGetL {m : Int} {n k i : Nat} {a : PS (Zm m)} (e : k = i := by exact vIx) (h : i < n := by exact vAr) : (ints (L n a))[k]? = some (dint (a.c i).val) := by
  subst e; rw [← L_getD a h]; exact ints_get (by simpa using h)
theorem vLoadT {m : Int} {n q i k j : Nat} {f : PS (PS (Zm m))} (e : q = i := by exact vIx) (e2 : k = j := by exact vIx) (h : i + j < n := by exact vAr) : LoadRow (rows true (Tb n f)) [q] k (dint ((f.c i).c j).val) := by
  subst e; subst e2
  have h1 := load_rows (t := Tb n f) (i := q) (j := k) (by simp; omega) (by rw [Tb_getD f (by omega)]; simp; omega)
  rw [Tb_getD f (by omega), L_getD _ (by omega)] at h1
  exact h1
theorem vRowT {m : Int} {n k i : Nat} {f : PS (PS (Zm m))} (e : k = i := by exact vIx) (h : i < n := by exact vAr) : LoadRow (rows true (Tb n f)) [] k (.list true 1 (ints (L (n - i) (f.c i)))) := by
  subst e; rw [← Tb_getD f h]; exact load_row (by simpa using h)
theorem vGetT {m : Int} {o : Bool} {n k i : Nat} {f : PS (PS (Zm m))} (e : k = i := by exact vIx) (h : i < n := by exact vAr) : (rows o (Tb n f))[k]? = some (.list o 1 (ints (L (n - i) (f.c i)))) := by
  subst e; rw [← Tb_getD f h]; exact rows_get (by simpa using h)
/-- An obligation with a hole. -/
theorem vObx {p : Prop} (h : p := by first | exact vLoadL | exact vRepl0 _ | exact vApp1 _ _ | exact vAppR _ _ | exact vIx | exact vGetL | exact vLoadT | exact vRowT | exact vGetT | exact vLoad | exact vGet | exact vStore _ | exact vSub | exact vSubL | exact sub_ints' _ _ _ | exact vRload | exact vRrow | exact vRget | exact rfl) : p := h
end Go.Vm
