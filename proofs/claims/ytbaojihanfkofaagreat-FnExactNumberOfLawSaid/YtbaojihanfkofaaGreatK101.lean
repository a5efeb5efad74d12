/- Laws from parameters: what they are. -/
-- tables
-- rec
import Derived.Test.YtbaojihanfkofaaGreatK32
import Derived.Test.YtbaojihanfkofaaGreatK84
import Derived.Test.YtbaojihanfkofaaGreatK94
import Derived.Test.YtbaojihanfkofaaGreatK85
import Derived.Test.YtbaojihanfkofaaGreatK23
namespace Go.Proofs
open Go Go.Vm Go.Fg Go.Fg.PS
set_option maxRecDepth 100000
set_option maxHeartbeats 4000000
set_option linter.unusedSimpArgs false
set_option linter.unusedVariables false
variable {m : Int}
theorem c_l03Add (hm : Md m) (o p o' p' : Bool) (n : Nat) (hn : 1 ≤ n ∧ n ≤ 100) (f g : PS (PS (Zm m))) : PureCall Tryz.prog 60 [dint m, TbD o p n f, TbD o' p' n g] (TbD true true n (f + g)) := by
  have hT : ∀ i, i < n → (Tb n (f + g)).take i ++ [L (n - i) (f.c i + g.c i)] = (Tb n (f + g)).take (i + 1) := fun i hi => Tb_take_push _ hi rfl
  refine pure_of_vcR Tryz.tabOk mixOrd Tryz.func60 rfl rfl ?_
  conv => whnf
  repeat' first | ((first | refine And.intro (Or.inl rfl) ?_ | (refine And.intro (fun h => ?_) (fun h => ?_) <;> (try simp only [cnt1, ints_length] at h)) | refine And.intro (show slotsOk _ = true by decide +kernel) ?_ | refine And.intro vOb ?_ | (apply Exists.intro; refine And.intro vObt ?_) | (apply Exists.intro; refine And.intro vObx ?_) | refine And.intro vArT ?_ | refine Or.inl ?_) <;> conv => whnf) | fail
  refine loop_atR Tryz.tabOk mixOrd (α := Nat) (fun i => [(8, dint i), (7, .ref 0 [] 1 0 i), (9, .undef), (16, .undef)]) (fun i => [(0, some ⟨false, 1, rows true ((Tb n (f + g)).take i)⟩)]) (fun i => i ≤ n) (fun i => n - i) (0) ?_ ?_ ?_
  · omega
  · conv => whnf
    first | refine WeakS.autoR ?_ | refine Weak.autoR ?_
    conv => whnf
    repeat' ((first | exact trivial | refine And.intro rfl ?_ | refine And.intro (eqV_int vAr) ?_ | refine And.intro vOb ?_ | refine And.intro vRepl ?_ | refine And.intro vReplL ?_ | refine And.intro ?_ ?_) <;> try (conv => whnf))
  intro i hi
  conv => whnf
  repeat' first | ((first | refine And.intro (Or.inl rfl) ?_ | (apply Exists.intro; refine And.intro (c_l02Add hm _ _ (n - i) (by omega) (f.c i) (g.c i)) ?_) | (refine And.intro (fun h => ?_) (fun h => ?_) <;> (try simp only [cnt1, ints_length] at h)) | refine And.intro (show slotsOk _ = true by decide +kernel) ?_ | refine And.intro vOb ?_ | (apply Exists.intro; refine And.intro vObt ?_) | (apply Exists.intro; refine And.intro vObx ?_) | refine And.intro vArT ?_ | (refine And.intro ((by simp; omega)) ?_) | refine And.intro (one_lst _ _ _) ?_ | refine And.intro (rows_plain _) ?_ | refine Or.inl ?_) <;> conv => whnf) | fail
  · refine Exists.intro (i + 1) (And.intro vAr (And.intro vAr ?_))
    first | refine WeakS.autoR ?_ | refine Weak.autoR ?_
    conv => whnf
    repeat' ((first | exact trivial | refine And.intro rfl ?_ | refine And.intro (eqV_int vAr) ?_ | refine And.intro vOb ?_ | refine And.intro vRepl ?_ | refine And.intro vReplL ?_ | refine And.intro ?_ ?_) <;> try (conv => whnf))
    exact rows_congr (hT i vAr)
  · have e : i = n := vAr
    subst e
    exact congrArg (D.list true 1) (rows_congr (List.take_of_length_le (by simp)))
theorem c_l03Scale (hm : Md m) (o p : Bool) (n : Nat) (hn : 1 ≤ n ∧ n ≤ 100) (z : Zm m) {Z : Int} (hZ : Z = z.val) (f : PS (PS (Zm m))) : PureCall Tryz.prog 61 [dint m, dint Z, TbD o p n f] (TbD true true n (PS.C (PS.C z) * f)) := by
  subst hZ
  have hT : ∀ i, i < n → (Tb n (PS.C (PS.C z) * f)).take i ++ [L (n - i) (PS.C z * f.c i)] = (Tb n (PS.C (PS.C z) * f)).take (i + 1) := fun i hi => Tb_take_push _ hi (by rw [C_mul])
  refine pure_of_vcR Tryz.tabOk mixOrd Tryz.func61 rfl rfl ?_
  conv => whnf
  repeat' first | ((first | refine And.intro (Or.inl rfl) ?_ | (refine And.intro (fun h => ?_) (fun h => ?_) <;> (try simp only [cnt1, ints_length] at h)) | refine And.intro (show slotsOk _ = true by decide +kernel) ?_ | refine And.intro vOb ?_ | (apply Exists.intro; refine And.intro vObt ?_) | (apply Exists.intro; refine And.intro vObx ?_) | refine And.intro vArT ?_ | refine Or.inl ?_) <;> conv => whnf) | fail
  refine loop_atR Tryz.tabOk mixOrd (α := Nat) (fun i => [(8, dint i), (7, .ref 0 [] 1 0 i), (9, .undef), (16, .undef)]) (fun i => [(0, some ⟨false, 1, rows true ((Tb n (PS.C (PS.C z) * f)).take i)⟩)]) (fun i => i ≤ n) (fun i => n - i) (0) ?_ ?_ ?_
  · omega
  · conv => whnf
    first | refine WeakS.autoR ?_ | refine Weak.autoR ?_
    conv => whnf
    repeat' ((first | exact trivial | refine And.intro rfl ?_ | refine And.intro (eqV_int vAr) ?_ | refine And.intro vOb ?_ | refine And.intro vRepl ?_ | refine And.intro vReplL ?_ | refine And.intro ?_ ?_) <;> try (conv => whnf))
  intro i hi
  conv => whnf
  repeat' first | ((first | refine And.intro (Or.inl rfl) ?_ | (apply Exists.intro; refine And.intro (c_l02Scale hm _ (n - i) (by omega) z (f.c i)) ?_) | (refine And.intro (fun h => ?_) (fun h => ?_) <;> (try simp only [cnt1, ints_length] at h)) | refine And.intro (show slotsOk _ = true by decide +kernel) ?_ | refine And.intro vOb ?_ | (apply Exists.intro; refine And.intro vObt ?_) | (apply Exists.intro; refine And.intro vObx ?_) | refine And.intro vArT ?_ | (refine And.intro ((by simp; omega)) ?_) | refine And.intro (one_lst _ _ _) ?_ | refine And.intro (rows_plain _) ?_ | refine Or.inl ?_) <;> conv => whnf) | fail
  · refine Exists.intro (i + 1) (And.intro vAr (And.intro vAr ?_))
    first | refine WeakS.autoR ?_ | refine Weak.autoR ?_
    conv => whnf
    repeat' ((first | exact trivial | refine And.intro rfl ?_ | refine And.intro (eqV_int vAr) ?_ | refine And.intro vOb ?_ | refine And.intro vRepl ?_ | refine And.intro vReplL ?_ | refine And.intro ?_ ?_) <;> try (conv => whnf))
    exact rows_congr (hT i vAr)
  · have e : i = n := vAr
    subst e
    exact congrArg (D.list true 1) (rows_congr (List.take_of_length_le (by simp)))
theorem c_l03Cut (o p : Bool) (n k : Nat) {d : Int} (hd : d + 1 = k) (hk : k ≤ n) (hn : n ≤ 100) (f : PS (PS (Zm m))) : PureCall Tryz.prog 34 [TbD o p n f, dint d] (TbD true true k f) := by
  have hT : ∀ i, i < k → (Tb k f).take i ++ [L (k - i) (f.c i)] = (Tb k f).take (i + 1) := fun i hi => Tb_take_push _ hi rfl
  have hd2 : d = (k : Int) - 1 := by omega
  subst hd2
  refine pure_of_vcR Tryz.tabOk mixOrd Tryz.func34 rfl rfl ?_
  conv => whnf
  repeat' first | ((first | refine And.intro (Or.inl rfl) ?_ | (refine And.intro (fun h => ?_) (fun h => ?_) <;> (try simp only [cnt1, ints_length] at h)) | refine And.intro (show slotsOk _ = true by decide +kernel) ?_ | refine And.intro vOb ?_ | (apply Exists.intro; refine And.intro vObt ?_) | (apply Exists.intro; refine And.intro vObx ?_) | refine And.intro vArT ?_ | refine Or.inl ?_) <;> conv => whnf) | fail
  refine loop_atR Tryz.tabOk mixOrd (α := Nat) (fun i => [(6, dint i), (5, .ref 0 [] 1 0 i), (7, .undef), (13, .undef)]) (fun i => [(0, some ⟨false, 1, rows true ((Tb k f).take i)⟩)]) (fun i => i ≤ k) (fun i => k - i) (0) ?_ ?_ ?_
  · omega
  · conv => whnf
    first | refine WeakS.autoR ?_ | refine Weak.autoR ?_
    conv => whnf
    repeat' ((first | exact trivial | refine And.intro rfl ?_ | refine And.intro (eqV_int vAr) ?_ | refine And.intro vOb ?_ | refine And.intro vRepl ?_ | refine And.intro vReplL ?_ | refine And.intro ?_ ?_) <;> try (conv => whnf))
  intro i hi
  conv => whnf
  repeat' first | ((first | refine And.intro (Or.inl rfl) ?_ | (apply Exists.intro; refine And.intro (c_l01OwnB _ _ (by rw [L_length]; omega)) ?_) | (refine And.intro (fun h => ?_) (fun h => ?_) <;> (try simp only [cnt1, ints_length] at h) <;> first | (exfalso; omega) | skip) | refine And.intro (show slotsOk _ = true by decide +kernel) ?_ | refine And.intro vOb ?_ | (apply Exists.intro; refine And.intro vObt ?_) | (apply Exists.intro; refine And.intro vObx ?_) | refine And.intro vArT ?_ | (refine And.intro ((by simp; omega)) ?_) | refine And.intro (one_lst _ _ _) ?_ | refine And.intro (rows_plain _) ?_ | refine Or.inl ?_) <;> conv => whnf) | fail
  · have hik : i < k := by omega
    refine Exists.intro (i + 1) (And.intro (by omega) (And.intro (by omega) ?_))
    first | refine WeakS.autoR ?_ | refine Weak.autoR ?_
    conv => whnf
    repeat' ((first | exact trivial | refine And.intro rfl ?_ | refine And.intro (eqV_int vAr) ?_ | refine And.intro vOb ?_ | refine And.intro vRepl ?_ | refine And.intro vReplL ?_ | refine And.intro ?_ ?_) <;> try (conv => whnf))
    rw [show ((k : Int) - 1 - i + 1).toNat = k - i by omega]
    exact rows_congr (hT i hik)
  · have e : i = k := by omega
    subst e
    exact congrArg (D.list true 1) (rows_congr (List.take_of_length_le (by simp)))
open Classical in
noncomputable def firV (f : PS (PS (Zm m))) (n : Nat) : Nat → Zm m := if h : ∃ v, First (lowP f n) n v then h.choose else fun _ => 0
theorem firV_ok (hm : 0 < m) {f : PS (PS (Zm m))} {n : Nat} (hn : 2 ≤ n ∧ n ≤ 10) (L : LawP f n) : First (lowP f n) n (firV f n) := by
  have h := First.ex hm (lw_of hn.1 L) hn
  unfold firV
  rw [dif_pos h]
  exact h.choose_spec
theorem lawP_one {f : PS (PS (Zm m))} {n : Nat} (hn : 1 ≤ n) (L : LawP f (n + 1)) : LawP f n := by
  have hf0 : (f.c 0).c 0 = 0 := by rw [L.1 0 (by omega)]; exact if_neg (by omega)
  refine ⟨fun i hi => L.1 i (by omega), fun i j h => L.2.1 i j (by omega), fun a b c h => ?_⟩
  have h1 := gam_lr1 hf0 h
  rw [gam_lr hf0 (show a + b + c < n + 1 by omega), L.2.2 a b c (by omega), Go.Fg.sub_self] at h1
  exact Go.Fg.sub_eq_zero.1 h1.symm
theorem lawP_le {f : PS (PS (Zm m))} {n : Nat} (hn : 1 ≤ n) : ∀ {N : Nat}, n ≤ N → LawP f N → LawP f n := by
  intro N h
  induction N with
  | zero => omega
  | succ N ih =>
    intro L
    by_cases e : n = N + 1
    · rw [e]; exact L
    · exact ih (by omega) (lawP_one (by omega) L)
theorem par_ex (hm : 0 < m) {f : PS (PS (Zm m))} {n : Nat} (hn : 2 ≤ n ∧ n ≤ 10) (L : LawP f (n + 1)) : ∃ k : Nat, k < m.toNat ∧ FacP (f - extP f n (firV f n)) n k ∧ ∀ j, j < k → ¬ FacP (f - extP f n (firV f n)) n j := by
  have L0 := lawP_one (by omega) L
  have hF := firV_ok hm hn L0
  obtain ⟨hB, h0⟩ := law_bud hn L
  obtain ⟨c, hc, e⟩ := bud_laz hm hn hF.z h0 hF.eq hB
  refine least (k := c) (fun i hi => ?_) hc
  have h1 : (f.c i).c (n - i) = firV f n i + lazM m n (Zm.mk m c) i := e i hi
  have e2 : tpc (f - extP f n (firV f n)) n i = (f.c i).c (n - i) - firV f n i := by
    show ((f - extP f n (firV f n)).c i).c (n - i) = _
    rw [sub_c, sub_c, extP_cc, if_neg (by omega), if_pos (by omega)]
  rw [e2, h1]
  show Zm.mk m c * Zm.mk m (lazV n i : Nat) = firV f n i + Zm.mk m c * Zm.mk m (lazV n i : Nat) - firV f n i
  rw [CR.add_comm, Go.Fg.add_sub_cancel]
open Classical in
noncomputable def parN (f : PS (PS (Zm m))) (n : Nat) : Nat := if h : ∃ k : Nat, k < m.toNat ∧ FacP (f - extP f n (firV f n)) n k ∧ ∀ j, j < k → ¬ FacP (f - extP f n (firV f n)) n j then h.choose else 0
theorem parN_ok (hm : 0 < m) {f : PS (PS (Zm m))} {n : Nat} (hn : 2 ≤ n ∧ n ≤ 10) (L : LawP f (n + 1)) : parN f n < m.toNat ∧ FacP (f - extP f n (firV f n)) n (parN f n) ∧ ∀ j, j < parN f n → ¬ FacP (f - extP f n (firV f n)) n j := by
  have h := par_ex hm hn L
  unfold parN
  rw [dif_pos h]
  exact h.choose_spec
theorem FacP.congr {f g : PS (PS (Zm m))} {n x : Nat} (e : ∀ i, i ≤ n → tpc f n i = tpc g n i) : FacP f n x ↔ FacP g n x := by
  constructor
  · intro h i hi; rw [h i hi, e i hi]
  · intro h i hi; rw [h i hi, ← e i hi]
theorem gap_top (f g : PS (PS (Zm m))) (n i : Nat) : tpc (f + PS.C (PS.C (Zm.mk m (m - 1))) * g) n i = tpc (f - g) n i := by
  show ((f + PS.C (PS.C (Zm.mk m (m - 1))) * g).c i).c (n - i) = ((f - g).c i).c (n - i)
  rw [add_c, add_c, C_mul, C_mul, sub_c, sub_c]
  have e : Zm.mk m (m - 1) = - (1 : Zm m) := by
    rw [Zm.mk_sub, show Zm.mk m m = 0 from Zm.mk_eq_zero.2 (Int.emod_self), Go.Fg.sub_def, CR.zero_add]; rfl
  rw [e, Go.Fg.neg_mul, CR.one_mul, Go.Fg.sub_def]
theorem gap_fac {f : PS (PS (Zm m))} {g : PS (PS (Zm m))} {n x : Nat} : FacP (f + PS.C (PS.C (Zm.mk m (m - 1))) * g) n x ↔ FacP (f - g) n x := FacP.congr (fun i _ => gap_top f g n i)
noncomputable def parL (f : PS (PS (Zm m))) (k : Nat) : List Int := lM k fun i => (parN f (i + 2) : Int)
end Go.Proofs

