/- The reference's elimination: rows less multiples of rows, pivots. -/
-- tables
-- rec
import Derived.Test.YtbaojihanfkofaaGreatK80
import Derived.Test.YtbaojihanfkofaaGreatK22
import Derived.Test.YtbaojihanfkofaaGreatVm32
namespace Go.Proofs
open Go Go.Vm Go.Fg Go.Fg.PS
set_option maxRecDepth 100000
set_option maxHeartbeats 4000000
set_option linter.unusedSimpArgs false
set_option linter.unusedVariables false
variable {m : Int}
theorem rows_frz (o : Bool) (t : List (List Int)) : (rows o t).map frz1 = rows false t := by
  unfold rows
  rw [List.map_map]
  exact List.map_congr_left (fun _ _ => rfl)
theorem take_push {l : List Int} {i : Nat} {x : Int} (h : i < l.length) (hx : x = l.getD i 0) : l.take i ++ [x] = l.take (i + 1) := by
  subst hx
  rw [List.take_add_one, List.getD_eq_getElem?_getD, List.getElem?_eq_getElem h]; rfl
theorem emod_sub_tmod (hm : 0 < m) (a b : Int) : (a - b.tmod m) % m = (a - b) % m := by
  have h := Int.tmod_add_mul_tdiv b m
  conv => rhs; rw [← h]
  rw [show a - (b.tmod m + m * b.tdiv m) = a - b.tmod m + m * -(b.tdiv m) by rw [Int.mul_neg]; omega, Int.add_mul_emod_self_left]
theorem c_l07MinusO (hm : Md m) (o o' : Bool) (a b : List Int) (k : Int) (ha : ∀ i, 0 ≤ a.getD i 0 ∧ a.getD i 0 < m) (hb : ∀ i, 0 ≤ b.getD i 0 ∧ b.getD i 0 < m) (hk : 0 ≤ k ∧ k ≤ m) (hl : a.length ≤ b.length ∧ b.length ≤ 100) :
    PureCall Tryz.prog 81 [dint m, .list o 1 (ints a), .list o' 1 (ints b), dint k] (.list true 1 (ints (minR m a b k))) := by
  have hm1 := hm.1
  have hm2 := hm.2
  refine pure_of_vcR Tryz.tabOk mixOrd Tryz.func81 rfl rfl ?_
  conv => whnf
  repeat' first | ((first | refine And.intro (Or.inl rfl) ?_ | (refine And.intro (fun h => ?_) (fun h => ?_) <;> (try simp only [cnt1, ints_length] at h)) | refine And.intro (show slotsOk _ = true by decide +kernel) ?_ | refine And.intro vOb ?_ | (apply Exists.intro; refine And.intro vObt ?_) | (apply Exists.intro; refine And.intro vObx ?_) | refine And.intro vArT ?_ | refine Or.inl ?_) <;> conv => whnf) | fail
  refine loop_atR Tryz.tabOk mixOrd (α := Nat) (fun i => [(10, dint i), (9, .ref 0 [] 1 0 i), (11, .undef)]) (fun i => [(0, some ⟨false, 1, ints ((minR m a b k).take i)⟩)]) (fun i => i ≤ a.length) (fun i => a.length - i) (0) ?_ ?_ ?_
  · omega
  · conv => whnf
    first | refine WeakS.autoR ?_ | refine Weak.autoR ?_
    conv => whnf
    repeat' ((first | exact trivial | refine And.intro rfl ?_ | refine And.intro (eqV_int vAr) ?_ | refine And.intro vOb ?_ | refine And.intro vRepl ?_ | refine And.intro vReplL ?_ | refine And.intro ?_ ?_) <;> try (conv => whnf))
  intro i hi
  conv => whnf
  have h1 := ha i
  have h2 := hb i
  have h3 : 0 ≤ k * b.getD i 0 := Int.mul_nonneg hk.1 h2.1
  have h4 : k * b.getD i 0 ≤ 10000 * 10000 := Int.mul_le_mul (by omega) (by omega) h2.1 (by omega)
  have h5 := Int.tmod_lt_of_pos (k * b.getD i 0) (show 0 < m by omega)
  have h6 := Int.tmod_nonneg m h3

  repeat' first | ((first | refine And.intro (Or.inl rfl) ?_ | (apply Exists.intro; refine And.intro (c_l01Mod _ _ hm.pos (by omega)) ?_) | (refine And.intro (fun h => ?_) (fun h => ?_) <;> (try simp only [cnt1, ints_length] at h)) | refine And.intro (show slotsOk _ = true by decide +kernel) ?_ | refine And.intro vOb ?_ | (apply Exists.intro; refine And.intro vObt ?_) | (apply Exists.intro; refine And.intro vObx ?_) | refine And.intro vArT ?_ | (refine And.intro ((by simp; omega)) ?_) | refine Or.inl ?_) <;> conv => whnf) | fail
  · refine Exists.intro (i + 1) (And.intro vAr (And.intro vAr ?_))
    first | refine WeakS.autoR ?_ | refine Weak.autoR ?_
    conv => whnf
    repeat' ((first | exact trivial | refine And.intro rfl ?_ | refine And.intro (eqV_int vAr) ?_ | refine And.intro vOb ?_ | refine And.intro vRepl ?_ | refine And.intro vReplL ?_ | refine And.intro ?_ ?_) <;> try (conv => whnf))
    have hia : i < a.length := vAr
    exact ints_congr (take_push (by rw [minR_length]; exact hia) ((emod_sub_tmod hm.pos _ _).trans (minR_getD (m := m) (b := b) (k := k) hia).symm))
  · rw [show i = (minR m a b k).length by rw [minR_length]; exact vAr, List.take_length]
theorem c_l07Minus (hm : Md m) (o o' : Bool) (a b : List Int) (k : Int) (ha : ∀ i, 0 ≤ a.getD i 0 ∧ a.getD i 0 < m) (hb : ∀ i, 0 ≤ b.getD i 0 ∧ b.getD i 0 < m) (hk : 0 ≤ k ∧ k ≤ m) (hl : a.length ≤ b.length ∧ b.length ≤ 100) :
    PureCall Tryz.prog 81 [dint m, .list o 1 (ints a), .list o' 1 (ints b), dint k] (.list false 1 (ints (minR m a b k))) :=
  (c_l07MinusO hm o o' a b k ha hb hk hl).freeze (by simp [cnt1]) (ints_frz _)
theorem rows_plainF (t : List (List Int)) : ∀ x ∈ rows false t, x.notOwn = true := fun x hx => by
  simp only [rows, List.mem_map] at hx
  obtain ⟨l, _, rfl⟩ := hx; rfl
theorem vM {p : Prop} (h : p := by first | omega | (simp only [cnt1, rows_length, ints_length, Nat.mul_one, Nat.zero_add, place1] at *; first | done | omega)) : p := h
theorem vStoreF {t : List (List Int)} {k i : Nat} (l : List Int) (e : k = i) (h : i < t.length) : StoreRow (rows false t) [] k (.list false 1 (ints l)) (rows false (t.set i l)) := by
  subst e
  refine ⟨_, rfl, by simpa using h, fun x hx => rows_plainF t x (List.mem_of_getElem? hx), ?_⟩
  show (rows false t).set k _ = _
  rw [rows_set]
theorem one_lst (o : Bool) (sz : Nat) (cs : List D) : ∀ d ∈ [D.list o sz cs], d.one = true := fun d hd => by
  rw [List.mem_singleton.1 hd]; rfl
theorem frz_zeros {k w : Nat} (hk : k = w) : (ints (List.replicate k 0)).map frz1 = ints (List.replicate w 0) := by
  rw [hk, ints_frz]
theorem quo {a b : Int} (ha : 0 ≤ a ∧ a < m) (hb : 0 ≤ b ∧ b < m) (h0 : b ≠ 0) : a.tdiv b = a / b ∧ 0 ≤ a.tdiv b ∧ a.tdiv b ≤ m := by
  rw [Int.tdiv_eq_ediv_of_nonneg ha.1]
  have h1 := Int.ediv_le_self b ha.1
  exact ⟨rfl, Int.ediv_nonneg ha.1 hb.1, by omega⟩
theorem quoR (hm : Md m) {a b : Int} (ha : 0 ≤ a ∧ a < m) (hb : 0 ≤ b ∧ b < m) (h0 : b ≠ 0) : inR .i64 (a.tdiv b) := by
  have h1 := quo ha hb h0
  have h2 := hm.2
  exact inR64 (by omega) (by omega)
theorem zero_getD (w k : Nat) : (List.replicate w (0 : Int)).getD k 0 = 0 := by
  rw [List.getD_eq_getElem?_getD, List.getElem?_replicate]; split <;> rfl
end Go.Proofs

