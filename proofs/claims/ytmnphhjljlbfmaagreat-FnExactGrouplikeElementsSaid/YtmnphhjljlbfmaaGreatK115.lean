/- The reference's next element. -/
-- tables
-- rec
import Derived.Test.YtmnphhjljlbfmaaGreatK113
import Derived.Test.YtmnphhjljlbfmaaGreatK79
namespace Go.Proofs
open Go Go.Vm Go.Fg Go.Fg.PS
set_option maxRecDepth 100000
set_option maxHeartbeats 4000000
set_option linter.unusedSimpArgs false
set_option linter.unusedVariables false
def nxW (q j : Nat) (u : List Int) : List Int := u.take (q - j) ++ List.replicate j 0
theorem nxW_length {q j : Nat} {u : List Int} (hu : u.length = q) (hj : j ≤ q) : (nxW q j u).length = q := by simp [nxW]; omega
theorem nxW_zero {q : Nat} {u : List Int} (hu : u.length = q) : nxW q 0 u = u := by
  subst hu
  simp [nxW]
theorem nxW_full (q : Nat) (u : List Int) : nxW q q u = List.replicate q 0 := by simp [nxW]
theorem nxW_get {q j : Nat} {u : List Int} (hu : u.length = q) (hj : j < q) : (nxW q j u).getD (q - 1 - j) 0 = u.getD (q - 1 - j) 0 := by
  unfold nxW
  rw [List.getD_eq_getElem?_getD, List.getElem?_append_left (by simp; omega), List.getElem?_take, if_pos (by omega), ← List.getD_eq_getElem?_getD]
theorem nxW_split {q j : Nat} {u : List Int} (hu : u.length = q) (hj : j < q) : u.take (q - j) = u.take (q - 1 - j) ++ [u.getD (q - 1 - j) 0] := by
  rw [show q - j = (q - 1 - j) + 1 by omega, List.take_add_one, List.getD_eq_getElem?_getD, List.getElem?_eq_getElem (by omega)]; rfl
theorem nxW_set {q j : Nat} {u : List Int} (hu : u.length = q) (hj : j < q) (x : Int) : (nxW q j u).set (q - 1 - j) x = u.take (q - 1 - j) ++ x :: List.replicate j 0 := by
  unfold nxW
  rw [nxW_split hu hj, List.append_assoc, List.set_append_right _ _ (by simp; omega), show q - 1 - j - (u.take (q - 1 - j)).length = 0 by simp; omega]
  rfl
theorem nxW_step {q j : Nat} {u : List Int} (hu : u.length = q) (hj : j < q) : (nxW q j u).set (q - 1 - j) 0 = nxW q (j + 1) u := by
  rw [nxW_set hu hj]
  unfold nxW
  rw [show q - (j + 1) = q - 1 - j by omega]
  rfl
theorem drop_split {q j : Nat} {u : List Int} (hu : u.length = q) (hj : j < q) : u.drop (q - 1 - j) = u.getD (q - 1 - j) 0 :: u.drop (q - j) := by
  rw [show q - j = (q - 1 - j) + 1 by omega, List.getD_eq_getElem?_getD, List.getElem?_eq_getElem (show q - 1 - j < u.length by omega)]
  exact List.drop_eq_getElem_cons (by omega)
theorem nxW_up {p : Int} {q j : Nat} {u : List Int} (hu : u.length = q) (hj : j < q) (hn : nx p (u.drop (q - j)) = none) (hx : u.getD (q - 1 - j) 0 + 1 < p) : nx p u = some ((nxW q j u).set (q - 1 - j) (u.getD (q - 1 - j) 0 + 1)) := by
  have h1 := nx_up hn hx
  rw [← drop_split hu hj] at h1
  have h2 := nx_app h1 (u.take (q - 1 - j))
  rw [List.take_append_drop] at h2
  rw [h2, nxW_set hu hj, List.length_drop, hu, show q - (q - j) = j by omega]
theorem nxW_no {p : Int} {q j : Nat} {u : List Int} (hu : u.length = q) (hj : j < q) (hn : nx p (u.drop (q - j)) = none) (hx : ¬ u.getD (q - 1 - j) 0 + 1 < p) : nx p (u.drop (q - (j + 1))) = none := by
  rw [show q - (j + 1) = q - 1 - j by omega, drop_split hu hj]
  exact nx_no hn hx
theorem c_l17Next (p : Int) (hp : 0 ≤ p ∧ p ≤ 100000) (q : Nat) (hq : q ≤ 1000) (u : List Int) (hu : u.length = q) (hb : ∀ x ∈ u, 0 ≤ x ∧ x < p) :
    CallsTo Tryz.prog 22 2 [dint p, .ref 1 [] 1 0 q] [none, some ⟨false, 1, ints u⟩]
      (fun d rt => d = .kb (nx p u).isSome ∧ rt = [none, some ⟨false, 1, ints ((nx p u).getD (List.replicate q 0))⟩]) := by
  refine callsTo_of Tryz.tabOk mixOrd 2 _ Tryz.func22 rfl rfl ?_
  conv => whnf
  repeat' first | ((first | refine And.intro (Or.inl rfl) ?_ | (refine And.intro (fun h => ?_) (fun h => ?_) <;> (try simp only [cnt1, ints_length] at h)) | refine And.intro (show slotsOk _ = true by decide +kernel) ?_ | refine And.intro vOb ?_ | (apply Exists.intro; refine And.intro vObt ?_) | (apply Exists.intro; refine And.intro vObx ?_) | refine And.intro vArT ?_ | refine Or.inl ?_) <;> conv => whnf) | fail
  refine loop_atR Tryz.tabOk mixOrd (α := Nat) (fun j => [(5, dint ((q : Int) - 1 - j))]) (fun j => [(1, some ⟨false, 1, ints (nxW q j u)⟩)]) (fun j => j ≤ q ∧ nx p (u.drop (q - j)) = none) (fun j => q - j) (0) ?_ ?_ ?_
  · exact ⟨by omega, by rw [Nat.sub_zero, ← hu, List.drop_length]; rfl⟩
  · conv => whnf
    first | refine WeakS.autoR ?_ | refine Weak.autoR ?_
    conv => whnf
    repeat' ((first | exact trivial | refine And.intro rfl ?_ | refine And.intro (eqV_int vAr) ?_ | refine And.intro vOb ?_ | refine And.intro vRepl ?_ | refine And.intro vReplL ?_ | refine And.intro ?_ ?_) <;> try (conv => whnf))
    all_goals rw [nxW_zero hu]
  intro j hj
  obtain ⟨hj, hn⟩ := hj
  have hl := nxW_length hu hj
  have hxx : j < q → 0 ≤ u.getD (q - 1 - j) 0 ∧ u.getD (q - 1 - j) 0 < p := fun h => hb _ (by rw [List.getD_eq_getElem?_getD, List.getElem?_eq_getElem (by omega)]; exact List.getElem_mem _)
  conv => whnf
  repeat' first | ((first | refine And.intro (Or.inl rfl) ?_ | (refine And.intro (fun h => ?_) (fun h => ?_) <;> (try simp only [cnt1, ints_length] at h)) | refine And.intro (show slotsOk _ = true by decide +kernel) ?_ | refine And.intro vOb ?_ | (apply Exists.intro; refine And.intro vObt ?_) | (apply Exists.intro; refine And.intro vObx ?_) | refine And.intro vArT ?_ | refine Or.inl ?_) <;> conv => whnf) | fail
  · have hjq : j < q := by omega
    have hx := hxx hjq
    have hg := nxW_get hu hjq
    have ei : ((q : Int) - 1 - (j : Int)).toNat = q - 1 - j := by omega
    repeat' first | ((first | refine And.intro (Or.inl rfl) ?_ | (refine And.intro (fun h => ?_) (fun h => ?_) <;> (try simp only [cnt1, ints_length] at h)) | refine And.intro (show slotsOk _ = true by decide +kernel) ?_ | refine And.intro vOb ?_ | (apply Exists.intro; refine And.intro vObt ?_) | (apply Exists.intro; refine And.intro vObx ?_) | refine And.intro vArT ?_ | refine Or.inl ?_) <;> conv => whnf) | fail
    rw [ei, hg]
    repeat' first | ((first | refine And.intro (Or.inl rfl) ?_ | (refine And.intro (fun h => ?_) (fun h => ?_) <;> (try simp only [cnt1, ints_length] at h)) | refine And.intro (show slotsOk _ = true by decide +kernel) ?_ | refine And.intro vOb ?_ | (apply Exists.intro; refine And.intro vObt ?_) | (apply Exists.intro; refine And.intro vObx ?_) | refine And.intro vArT ?_ | refine And.intro ((inR64 (by omega) (by omega))) ?_ | refine Or.inl ?_) <;> conv => whnf) | fail
    · have hxp : u.getD (q - 1 - j) 0 + 1 < p := by assumption
      rw [ei, hg]
      repeat' first | ((first | refine And.intro (Or.inl rfl) ?_ | (refine And.intro (fun h => ?_) (fun h => ?_) <;> (try simp only [cnt1, ints_length] at h)) | refine And.intro (show slotsOk _ = true by decide +kernel) ?_ | refine And.intro vOb ?_ | (apply Exists.intro; refine And.intro vObt ?_) | (apply Exists.intro; refine And.intro vObx ?_) | refine And.intro vArT ?_ | refine And.intro ((inR64 (by omega) (by omega))) ?_ | refine Or.inl ?_) <;> conv => whnf) | fail
      have hu1 := nxW_up hu hjq hn hxp
      have hwk := fun st => Weak.autoR (kp := 2) (st := st) (st2 := ⟨[.kb true], [none, some ⟨false, 1, ints ((nxW q j u).set (q - 1 - j) (u.getD (q - 1 - j) 0 + 1))⟩]⟩)
      refine ⟨.kb true, [none, some ⟨false, 1, ints ((nxW q j u).set (q - 1 - j) (u.getD (q - 1 - j) 0 + 1))⟩], ⟨by rw [hu1]; rfl, by rw [hu1]; rfl⟩, hwk _ ?_⟩
      conv => whnf
      repeat' ((first | exact trivial | refine And.intro rfl ?_ | refine And.intro (eqV_int vAr) ?_ | refine And.intro vOb ?_ | refine And.intro ?_ ?_) <;> try (conv => whnf))
      all_goals rw [ei]
    · have hxp : ¬ u.getD (q - 1 - j) 0 + 1 < p := by assumption
      refine Exists.intro (j + 1) (And.intro ⟨by omega, nxW_no hu hjq hn hxp⟩ (And.intro (by omega) ?_))
      first | refine WeakS.autoR ?_ | refine Weak.autoR ?_
      conv => whnf
      repeat' ((first | exact trivial | refine And.intro rfl ?_ | refine And.intro (eqV_int vAr) ?_ | refine And.intro vOb ?_ | refine And.intro vRepl ?_ | refine And.intro vReplL ?_ | refine And.intro ?_ ?_) <;> try (conv => whnf))
      all_goals first | (rw [ei, nxW_step hu hjq]; done) | omega
  · have hjq : j = q := by omega
    subst hjq
    rw [Nat.sub_self, List.drop_zero] at hn
    have hwk := fun st => Weak.autoR (kp := 2) (st := st) (st2 := ⟨[.kb false], [none, some ⟨false, 1, ints (List.replicate j 0)⟩]⟩)
    refine ⟨.kb false, [none, some ⟨false, 1, ints (List.replicate j 0)⟩], ⟨by rw [hn]; rfl, by rw [hn]; rfl⟩, hwk _ ?_⟩
    conv => whnf
    repeat' ((first | exact trivial | refine And.intro rfl ?_ | refine And.intro (eqV_int vAr) ?_ | refine And.intro vOb ?_ | refine And.intro ?_ ?_) <;> try (conv => whnf))
    rw [nxW_full]
theorem c_l17NextS (p : Int) (hp : 0 ≤ p ∧ p ≤ 100000) (q : Nat) (hq : q ≤ 1000) (u v : List Int) (hu : u.length = q) (hb : ∀ x ∈ u, 0 ≤ x ∧ x < p) (hn : nx p u = some v) :
    CallsTo Tryz.prog 22 2 [dint p, .ref 1 [] 1 0 q] [none, some ⟨false, 1, ints u⟩] (fun d rt => d = .kb true ∧ rt = [none, some ⟨false, 1, ints v⟩]) := by
  have := c_l17Next p hp q hq u hu hb
  simp only [hn] at this
  exact this
theorem c_l17NextN (p : Int) (hp : 0 ≤ p ∧ p ≤ 100000) (q : Nat) (hq : q ≤ 1000) (u : List Int) (hu : u.length = q) (hb : ∀ x ∈ u, 0 ≤ x ∧ x < p) (hn : nx p u = none) :
    CallsTo Tryz.prog 22 2 [dint p, .ref 1 [] 1 0 q] [none, some ⟨false, 1, ints u⟩] (fun d rt => d = .kb false ∧ rt = [none, some ⟨false, 1, ints (List.replicate q 0)⟩]) := by
  have := c_l17Next p hp q hq u hu hb
  simp only [hn] at this
  exact this
end Go.Proofs

