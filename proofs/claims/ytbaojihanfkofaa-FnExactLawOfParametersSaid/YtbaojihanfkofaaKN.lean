/- Numbers: greatest common divisors, units, powers. -/
import Derived.Test.YtbaojihanfkofaaK2
import Derived.Test.YtbaojihanfkofaaK3
import Derived.Test.YtbaojihanfkofaaK7
import Derived.Test.YtbaojihanfkofaaAlg7
namespace Go.Proofs
open Go Go.Vm Go.Fg Go.Fg.PS
set_option maxRecDepth 100000
set_option maxHeartbeats 4000000
set_option linter.unusedSimpArgs false
set_option linter.unusedVariables false
variable {m : Int}
theorem tmod_nat (a b : Nat) : ((a : Int)).tmod (b : Int) = ((a % b : Nat) : Int) := by
  rw [Int.tmod_eq_emod_of_nonneg (by omega)]; rfl
theorem c_gcd (a b : Nat) (ha : a ≤ 4611686018427387904) (hb : b ≤ 4611686018427387904) : PureCall Try.prog 114 [dint a, dint b] (dint (Nat.gcd a b : Nat)) := by
  refine pure_of_vc Try.tabOk mixOrd Try.func114 rfl rfl ?_
  conv => whnf
  refine loop_at Try.tabOk mixOrd (α := Nat × Nat) (fun x => [(0, dint x.1), (1, dint x.2)]) (fun x => []) (fun x => Nat.gcd x.1 x.2 = Nat.gcd a b ∧ x.1 ≤ 4611686018427387904 ∧ x.2 ≤ 4611686018427387904) (fun x => x.2) ((a, b)) ?_ ?_ ?_
  · exact ⟨rfl, ha, hb⟩
  · conv => whnf
    first | refine WeakS.auto ?_ | refine Weak.auto ?_
    conv => whnf
    repeat' ((first | exact trivial | refine And.intro rfl ?_ | refine And.intro (eqV_int vAr) ?_ | refine And.intro vOb ?_ | refine And.intro vRepl ?_ | refine And.intro vReplL ?_ | refine And.intro ?_ ?_) <;> try (conv => whnf))
  intro ⟨x, y⟩ ⟨h1, h2, h3⟩
  simp only at h1 h2 h3
  conv => whnf
  repeat' first | ((first | refine And.intro (Or.inl rfl) ?_ | (refine And.intro (fun h => ?_) (fun h => ?_) <;> (try simp only [cnt1, ints_length] at h)) | refine And.intro (show slotsOk _ = true by decide +kernel) ?_ | refine And.intro vOb ?_ | (apply Exists.intro; refine And.intro vObx ?_) | refine Or.inl ?_) <;> conv => whnf) | fail
  · have hy : y ≠ 0 := by omega
    have hlt := Nat.mod_lt x (show y > 0 by omega)
    refine Exists.intro (y, x % y) (And.intro ⟨by rw [← h1, Nat.gcd_comm y, ← Nat.gcd_rec, Nat.gcd_comm], h3, by simp only; omega⟩ (And.intro hlt ?_))
    first | refine WeakS.auto ?_ | refine Weak.auto ?_
    conv => whnf
    repeat' ((first | exact trivial | refine And.intro rfl ?_ | refine And.intro (eqV_int vAr) ?_ | refine And.intro vOb ?_ | refine And.intro vRepl ?_ | refine And.intro vReplL ?_ | refine And.intro ?_ ?_) <;> try (conv => whnf))
  · refine congrArg dint ?_
    rw [← h1, show y = 0 by omega, Nat.gcd_zero_right]
    show max (x : Int) (0 - (x : Int)) = x
    omega
theorem c_l01Gcd (a b : Nat) (ha : a ≤ 4611686018427387904) (hb : b ≤ 4611686018427387904) : PureCall Try.prog 78 [dint a, dint b] (dint (Nat.gcd a b : Nat)) := by
  refine pure_of_vc Try.tabOk mixOrd Try.func78 rfl rfl ?_
  conv => whnf
  repeat' first | ((first | refine And.intro (Or.inl rfl) ?_ | (refine And.intro (fun h => ?_) (fun h => ?_) <;> (try simp only [cnt1, ints_length] at h)) | refine And.intro (show slotsOk _ = true by decide +kernel) ?_ | refine And.intro vOb ?_ | (apply Exists.intro; refine And.intro vObx ?_) | refine Or.inl ?_) <;> conv => whnf) | fail
  all_goals try (exfalso; omega)
  refine loop_at Try.tabOk mixOrd (α := Nat × Nat) (fun x => [(0, dint x.1), (1, dint x.2)]) (fun x => []) (fun x => Nat.gcd x.1 x.2 = Nat.gcd a b ∧ x.1 ≤ 4611686018427387904 ∧ x.2 ≤ 4611686018427387904) (fun x => x.2) ((a, b)) ?_ ?_ ?_
  · exact ⟨rfl, ha, hb⟩
  · conv => whnf
    first | refine WeakS.auto ?_ | refine Weak.auto ?_
    conv => whnf
    repeat' ((first | exact trivial | refine And.intro rfl ?_ | refine And.intro (eqV_int vAr) ?_ | refine And.intro vOb ?_ | refine And.intro vRepl ?_ | refine And.intro vReplL ?_ | refine And.intro ?_ ?_) <;> try (conv => whnf))
  intro ⟨x, y⟩ ⟨h1, h2, h3⟩
  simp only at h1 h2 h3
  conv => whnf
  repeat' first | ((first | refine And.intro (Or.inl rfl) ?_ | (refine And.intro (fun h => ?_) (fun h => ?_) <;> (try simp only [cnt1, ints_length] at h)) | refine And.intro (show slotsOk _ = true by decide +kernel) ?_ | refine And.intro vOb ?_ | (apply Exists.intro; refine And.intro vObx ?_) | refine Or.inl ?_) <;> conv => whnf) | fail
  · have hy : y ≠ 0 := by omega
    have hlt := Nat.mod_lt x (show y > 0 by omega)
    refine Exists.intro (y, x % y) (And.intro ⟨by rw [← h1, Nat.gcd_comm y, ← Nat.gcd_rec, Nat.gcd_comm], h3, by simp only; omega⟩ (And.intro hlt ?_))
    first | refine WeakS.auto ?_ | refine Weak.auto ?_
    conv => whnf
    repeat' ((first | exact trivial | refine And.intro rfl ?_ | refine And.intro (eqV_int vAr) ?_ | refine And.intro vOb ?_ | refine And.intro vRepl ?_ | refine And.intro vReplL ?_ | refine And.intro ?_ ?_) <;> try (conv => whnf))
  · refine congrArg dint ?_
    rw [← h1, show y = 0 by omega, Nat.gcd_zero_right]
def codeN (m : Int) (l : List Int) : Int := if inB m 2 10000 then (if numsB m l then 0 else 2) else 1
theorem codeN_0 {m : Int} {l : List Int} (h : codeN m l = 0) : Md m ∧ numsB m l = true := by
  unfold codeN at h; split at h
  · split at h
    · refine ⟨?_, by assumption⟩
      have : inB m 2 10000 = true := by assumption
      simpa [inB, Md] using this
    · omega
  · omega
theorem c_modular1 (a m : Int) (h1 : inR .i64 (m - 1)) : PureCall Try.prog 60 [dint a, .cptr [dint m] 0] (dbool (inB a 0 (m - 1))) := by
  refine pure_of_vc Try.tabOk mixOrd Try.func60 rfl rfl ?_
  conv => whnf
  repeat' first | ((first | refine And.intro (Or.inl rfl) ?_ | (apply Exists.intro; refine And.intro (c_isNumber _ _ h1) ?_) | (refine And.intro (fun h => ?_) (fun h => ?_) <;> (try simp only [cnt1, ints_length] at h)) | refine And.intro (show slotsOk _ = true by decide +kernel) ?_ | refine And.intro vOb ?_ | (apply Exists.intro; refine And.intro vObx ?_) | refine Or.inl ?_) <;> conv => whnf) | fail
  all_goals (refine dbool_congr ?_; first | rfl | (simp_all []; done) | (simp_all []; omega) | (simp_all []; intros; omega))
theorem c_modular (o : Bool) (m : Int) (l : List Int) (hl : l.length ≤ 1048576) : PureCall Try.prog 34 [dint m, .list o 1 (ints l)] (dint (codeN m l)) := by
  refine pure_of_vc Try.tabOk mixOrd Try.func34 rfl rfl ?_
  conv => whnf
  repeat' first | ((first | refine And.intro (Or.inl rfl) ?_ | (apply Exists.intro; refine And.intro (c_IsModulus _) ?_) | (apply Exists.intro; refine And.intro (c_allA 60 [dint m] (fun a => inB a 0 (m - 1)) (fun a => c_modular1 a m (h1of (by assumption))) _ l hl) ?_) | (refine And.intro (fun h => ?_) (fun h => ?_) <;> (try simp only [cnt1, ints_length] at h)) | refine And.intro (show slotsOk _ = true by decide +kernel) ?_ | refine And.intro vOb ?_ | (apply Exists.intro; refine And.intro vObx ?_) | refine Or.inl ?_) <;> conv => whnf) | fail
  all_goals (refine congrArg dint ?_; simp_all [codeN, numsB])
theorem c_l01Code (o : Bool) (m : Int) (l : List Int) (hl : l.length ≤ 1048576) : PureCall Try.prog 32 [dint m, .list o 1 (ints l)] (dint (codeN m l)) := by
  refine pure_of_vc Try.tabOk mixOrd Try.func32 rfl rfl ?_
  conv => whnf
  repeat' first | ((first | refine And.intro (Or.inl rfl) ?_ | (apply Exists.intro; refine And.intro (c_l01Modulus _) ?_) | (apply Exists.intro; refine And.intro (c_l01Numbers _ m l (h1of (by assumption)) (by omega)) ?_) | (refine And.intro (fun h => ?_) (fun h => ?_) <;> (try simp only [cnt1, ints_length] at h)) | refine And.intro (show slotsOk _ = true by decide +kernel) ?_ | refine And.intro vOb ?_ | (apply Exists.intro; refine And.intro vObx ?_) | refine Or.inl ?_) <;> conv => whnf) | fail
  all_goals (refine congrArg dint ?_; simp_all [codeN])
theorem c_variable (n : Nat) {d : Int} (hd : d + 1 = n) (hn : 2 ≤ n ∧ n ≤ 100) (hm : Md m) : PureCall Try.prog 63 [dint m, dint d] (SerD m true n (PS.X : PS (Zm m))) := by
  have hm1 := hm.1
  refine pure_of_vc Try.tabOk mixOrd Try.func63 rfl rfl ?_
  conv => whnf
  repeat' first | ((first | refine And.intro (Or.inl rfl) ?_ | (apply Exists.intro; refine And.intro (c_zero n hd vAr) ?_) | (refine And.intro (fun h => ?_) (fun h => ?_) <;> (try simp only [cnt1, ints_length] at h)) | refine And.intro (show slotsOk _ = true by decide +kernel) ?_ | refine And.intro vOb ?_ | (apply Exists.intro; refine And.intro vObx ?_) | refine Or.inl ?_) <;> conv => whnf) | fail
  refine serD_congr (L_set_eq (1 : Zm m) (Zm.val_one (by omega)).symm (fun i hi => ?_))
  rw [upd_c, X_c]; split <;> rfl
end Go.Proofs

