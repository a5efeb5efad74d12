/- The program's equations: one number put into a row. -/
-- tables
-- rec
import Derived.Test.YtbaojihanfkofaaGreatK82
import Derived.Test.YtbaojihanfkofaaGreatK79
import Derived.Test.YtbaojihanfkofaaGreatK28
import Derived.Test.YtbaojihanfkofaaGreatK16
namespace Go.Proofs
open Go Go.Vm Go.Fg Go.Fg.PS
set_option maxRecDepth 100000
set_option maxHeartbeats 4000000
set_option linter.unusedSimpArgs false
set_option linter.unusedVariables false
variable {m : Int}
theorem borD_of {P : Program} {p : Prop} {g : Nat} {fs cs args argsB : List D} {rt rt0 rtB : List (Option Root)} {d0 : D} {KB : D → List (Option Root) → Prop} {kp : Nat} (σ : List Nat) (h : CallsTo P g kp args (none :: rt) (fun d r => d = d0 ∧ r = none :: rt0)) (hkp : 1 ≤ kp ∧ kp ≤ σ.length + 1)
    (hent : chk (Go.Vm.distinct (sigN σ)) (wkL (sigN σ) args (fs ++ argsB ++ cs) (wkRoots (sigN σ) rtB (sigN σ) (none :: rt) True))) (hl : kp ≤ (none :: rt0 : List (Option Root)).length)
    (hK : forceF (renD (renI σ kp rtB.length) d0) fun d => KB d (rtFin σ kp rtB (none :: rt0))) : p ∨ borK P (.fn (.func g) fs cs) argsB rtB KB :=
  bor_of σ h hkp hent (fun d rt' hd => by
    obtain ⟨rfl, rfl⟩ := hd
    exact ⟨rfl, hl, hK⟩)
def addL (n : Nat) (q : Int) (l : List Int) (i : Nat) (fac : Int) : List Int := if 0 < i ∧ i < n then l.set (min i (n - i) - 1) ((l.getD (min i (n - i) - 1) 0 + fac) % q) else l
@[simp] theorem addL_length (n : Nat) (q : Int) (l : List Int) (i : Nat) (fac : Int) : (addL n q l i fac).length = l.length := by
  unfold addL; split <;> simp
abbrev rtY (n1 : Int) (n : Nat) (q : Int) (w : Nat) (l : List Int) : List (Option Root) := [some ⟨true, 1, [dint n1]⟩, some ⟨true, 1, [.fn (.func 73) [] [.ptr 3 [] 0, .ptr 4 [] 0, .ptr 5 [] 0]]⟩, some ⟨true, 1, [dint n]⟩, some ⟨true, 1, [.ref 6 [] 1 0 w]⟩, some ⟨true, 1, [dint q]⟩, some ⟨false, 1, ints l⟩]
theorem c_add {q : Int} (hq : Md q) (n w i : Nat) (hn : 2 ≤ n ∧ n ≤ 10) (hw : w = n / 2 + 1) (hi : i ≤ n) (fac : Int) (hf : -2000 ≤ fac ∧ fac ≤ 2000) (l : List Int) (hl : l.length = w) (hb : ∀ k, 0 ≤ l.getD k 0 ∧ l.getD k 0 < q) {I n1 : Int} (hI : I = i) (hn1 : n1 = n) :
    CallsTo Tryz.prog 93 7 [dint I, dint fac, .ptr 1 [] 0, .ptr 2 [] 0]
      (none :: rtY n1 n q w l)
      (fun d rt => d = .tup [] ∧ rt = none :: rtY n1 n q w (addL n q l i fac)) := by
  subst hI
  subst hn1
  have hm1 := hq.1
  have hm2 := hq.2
  refine callsTo_of Tryz.tabOk mixOrd 7 _ Tryz.func93 rfl rfl ?_
  conv => whnf
  have h1 := hb (min i (n - i) - 1)
  repeat' first | ((first | refine And.intro (Or.inl rfl) ?_ | refine Or.inr (inl_ofR Tryz.tabOk mixOrd _ Tryz.func73 rfl rfl ?_) | (apply Exists.intro; refine And.intro (c_mod _ _ hq.pos (by omega)) ?_) | (refine And.intro (fun h => ?_) (fun h => ?_) <;> (try simp only [cnt1, ints_length] at h)) | refine And.intro (show slotsOk _ = true by decide +kernel) ?_ | refine And.intro vOb ?_ | (apply Exists.intro; refine And.intro vObt ?_) | (apply Exists.intro; refine And.intro vObx ?_) | refine And.intro vArT ?_ | (refine And.intro ((by rw [show (min (i : Int) ((n : Int) - i) - 1).toNat = min i (n - i) - 1 by omega]; exact inR64 (by omega) (by omega))) ?_) | refine Or.inl ?_) <;> conv => whnf) | fail
  · have e : addL n q l i fac = l.set (min i (n - i) - 1) ((l.getD (min i (n - i) - 1) 0 + fac) % q) := if_pos ⟨by omega, by omega⟩
    rw [e]
    have hwk := fun st => Weak.autoR (kp := 7) (st := st) (st2 := ⟨[.tup []], none :: rtY n n q w (l.set (min i (n - i) - 1) ((l.getD (min i (n - i) - 1) 0 + fac) % q))⟩)
    refine ⟨.tup [], none :: rtY n n q w (l.set (min i (n - i) - 1) ((l.getD (min i (n - i) - 1) 0 + fac) % q)), ⟨rfl, rfl⟩, hwk _ ?_⟩
    conv => whnf
    repeat' ((first | exact trivial | refine And.intro rfl ?_ | refine And.intro (eqV_int vAr) ?_ | refine And.intro vOb ?_ | refine And.intro ?_ ?_) <;> try (conv => whnf))
    rw [show (min (i : Int) ((n : Int) - i) - 1).toNat = min i (n - i) - 1 by omega]
  · have e : addL n q l i fac = l := if_neg (by omega)
    rw [e]
    have hwk := fun st => Weak.autoR (kp := 7) (st := st) (st2 := ⟨[.tup []], none :: rtY n n q w l⟩)
    refine ⟨.tup [], none :: rtY n n q w l, ⟨rfl, rfl⟩, hwk _ ?_⟩
    conv => whnf
    repeat' ((first | exact trivial | refine And.intro rfl ?_ | refine And.intro (eqV_int vAr) ?_ | refine And.intro vOb ?_ | refine And.intro ?_ ?_) <;> try (conv => whnf))
  · have e : addL n q l i fac = l := if_neg (by omega)
    rw [e]
    have hwk := fun st => Weak.autoR (kp := 7) (st := st) (st2 := ⟨[.tup []], none :: rtY n n q w l⟩)
    refine ⟨.tup [], none :: rtY n n q w l, ⟨rfl, rfl⟩, hwk _ ?_⟩
    conv => whnf
    repeat' ((first | exact trivial | refine And.intro rfl ?_ | refine And.intro (eqV_int vAr) ?_ | refine And.intro vOb ?_ | refine And.intro ?_ ?_) <;> try (conv => whnf))
theorem vStoreS {l : List Int} {k i : Nat} (x : Int) (e : k = i) (h : i < l.length) : StoreRow (ints l) [] k (dint x) (ints (l.set i x)) := by subst e; exact StoreRow.ints x h
theorem addL_b {n : Nat} {q : Int} (hq : 0 < q) {l : List Int} (hb : ∀ k, 0 ≤ l.getD k 0 ∧ l.getD k 0 < q) (i : Nat) (fac : Int) (k : Nat) : 0 ≤ (addL n q l i fac).getD k 0 ∧ (addL n q l i fac).getD k 0 < q := by
  unfold addL
  split
  · rw [List.getD_eq_getElem?_getD]
    by_cases e : min i (n - i) - 1 = k
    · by_cases h : k < l.length
      · rw [e, List.getElem?_set_self h]
        exact ⟨Int.emod_nonneg _ (by omega), Int.emod_lt_of_pos _ hq⟩
      · rw [List.getElem?_eq_none (by simp; omega)]; exact ⟨Int.le_refl _, hq⟩
    · rw [List.getElem?_set_ne e, ← List.getD_eq_getElem?_getD]; exact hb k
  · exact hb k
def sideL (n : Nat) (q : Int) (w a b c : Nat) : List Int :=
  let l1 := if a = 0 then addL n q (List.replicate w 0) b 1 else List.replicate w 0
  let l3 := addL n q (addL n q l1 a (bin (b + c) b : Nat)) (a + b) (0 - (bin (a + b) a : Nat))
  if c = 0 then addL n q l3 a (-1) else l3
abbrev cloD (m : Int) (f : PS (PS (Zm m))) (N : Nat) : D := .fn (.func 89) [] [.cptr [dint ((N : Int) - 1)] 0, .cptr [dint m, .list false 1 (rows true (Tb N f))] 0, .cptr [.list false 2 (pls N f N)] 0]
abbrev rtX (m : Int) (f : PS (PS (Zm m))) (n N H : Nat) (q : Int) (R r : Nat) : List (Option Root) := [some ⟨true, 1, [dint n]⟩, some ⟨true, 1, [dint H]⟩, some ⟨true, 1, [dint q]⟩, some ⟨true, 1, [cloD m f N]⟩, some ⟨true, 1, [.ref r [] 1 0 R]⟩]
theorem c_round (hm : Md m) {q : Int} (hq : Md q) (n N H : Nat) (hn : 2 ≤ n ∧ n ≤ 10) (hN : N = n + 1) (hh : H = n / 2) (f : PS (PS (Zm m))) (L : List (List Int)) (hL : L.length ≤ 1000) (a b c : Nat) (habc : a + b + c = n) {C : Int} (hC : C = c) :
    CallsTo Tryz.prog 71 7 [dint a, dint b, dint C, .ptr 2 [] 0, .ptr 1 [] 0, .ptr 3 [] 0, .ptr 4 [] 0, .ptr 5 [] 0]
      (none :: rtX m f n N H q L.length 6 ++ [some ⟨false, 1, rows true L⟩])
      (fun d rt => d = .tup [] ∧ rt = (none :: rtX m f n N H q (L.length + 1) 7 ++ none :: [some ⟨false, 1, rows true (L ++ [(sideL n q (H + 1) a b c).set H ((lft f N a b c - rgt f N a b c).val.tmod q)])⟩])) := by
  subst hC
  have hm1 := hq.1
  have hm2 := hq.2
  have hM1 := hm.1
  have hM2 := hm.2
  have hB : ∀ n k : Nat, n ≤ 10 → 0 ≤ ((bin n k : Nat) : Int) ∧ ((bin n k : Nat) : Int) ≤ 1024 := fun n k h => by
    have h1 := bin_le n k
    have h2 : 2 ^ n ≤ 2 ^ 10 := Nat.pow_le_pow_right (by omega) h
    omega
  have b1 := hB (b + c) b (by omega)
  have b2 := hB (a + b) a (by omega)
  refine callsTo_of Tryz.tabOk mixOrd 7 _ Tryz.func71 rfl rfl ?_
  conv => whnf
  have zb : ∀ k, 0 ≤ (List.replicate (H + 1) (0 : Int)).getD k 0 ∧ (List.replicate (H + 1) (0 : Int)).getD k 0 < q := fun k => by rw [zero_getD]; omega
  by_cases ha : a = 0
  · have h1 := addL_b (n := n) hq.pos zb b 1
    have h2 := addL_b (n := n) hq.pos h1 a (bin (b + c) b : Nat)
    have h3 := addL_b (n := n) hq.pos h2 (a + b) (0 - (bin (a + b) a : Nat))
    have h4 := addL_b (n := n) hq.pos h3 a (-1)
    by_cases hc : c = 0
    · have eS : sideL n q (H + 1) a b c = addL n q (addL n q (addL n q (addL n q (List.replicate (H + 1) 0) b 1) a (bin (b + c) b : Nat)) (a + b) (0 - (bin (a + b) a : Nat))) a (-1) := by simp only [sideL, if_pos ha, if_pos hc]
      repeat' first | (refine borD_of [10, 9, 1, 8, 3, 7] (c_add hq n (H + 1) b hn (by omega) (by omega) 1 (by omega) (List.replicate (H + 1) 0) (by simp) zb (I := (b : Int)) (n1 := (a : Int) + b + c) (by omega) (by omega)) (by decide) ?_ (by simp) ?_; (focus ((conv => whnf); (repeat' ((first | exact trivial | refine And.intro rfl ?_ | refine And.intro (eqV_int vAr) ?_ | refine And.intro vOb ?_) <;> (conv => whnf))); done)); conv => whnf) | (refine borD_of [10, 9, 1, 8, 3, 7] (c_add hq n (H + 1) a hn (by omega) (by omega) (bin (b + c) b : Nat) (by omega) (addL n q (List.replicate (H + 1) 0) b 1) (by simp) h1 (I := (a : Int)) (n1 := (a : Int) + b + c) (by omega) (by omega)) (by decide) ?_ (by simp) ?_; (focus ((conv => whnf); (repeat' ((first | exact trivial | refine And.intro rfl ?_ | refine And.intro (eqV_int vAr) ?_ | refine And.intro vOb ?_) <;> (conv => whnf))); done)); conv => whnf) | (refine borD_of [10, 9, 1, 8, 3, 7] (c_add hq n (H + 1) (a + b) hn (by omega) (by omega) (0 - (bin (a + b) a : Nat)) (by omega) (addL n q (addL n q (List.replicate (H + 1) 0) b 1) a (bin (b + c) b : Nat)) (by simp) h2 (I := (a : Int) + (b : Int)) (n1 := (a : Int) + b + c) (by omega) (by omega)) (by decide) ?_ (by simp) ?_; (focus ((conv => whnf); (repeat' ((first | exact trivial | refine And.intro rfl ?_ | refine And.intro (eqV_int vAr) ?_ | refine And.intro vOb ?_) <;> (conv => whnf))); done)); conv => whnf) | (refine borD_of [10, 9, 1, 8, 3, 7] (c_add hq n (H + 1) a hn (by omega) (by omega) (-1) (by omega) (addL n q (addL n q (addL n q (List.replicate (H + 1) 0) b 1) a (bin (b + c) b : Nat)) (a + b) (0 - (bin (a + b) a : Nat))) (by simp) h3 (I := (a : Int)) (n1 := (a : Int) + b + c) (by omega) (by omega)) (by decide) ?_ (by simp) ?_; (focus ((conv => whnf); (repeat' ((first | exact trivial | refine And.intro rfl ?_ | refine And.intro (eqV_int vAr) ?_ | refine And.intro vOb ?_) <;> (conv => whnf))); done)); conv => whnf) | ((first | refine And.intro (Or.inl rfl) ?_ | refine Or.inr (inl_ofR Tryz.tabOk mixOrd _ Tryz.func72 rfl rfl ?_) | (apply Exists.intro; refine And.intro (c_binomial (b + c) b (by omega) (by omega) vAr vAr) ?_) | (apply Exists.intro; refine And.intro (c_binomial (a + b) a (by omega) (by omega) vAr vAr) ?_) | (apply Exists.intro; refine And.intro (vStoreS (i := H) _ (by simp [place1]) (by simp)) ?_) | (apply Exists.intro; refine And.intro (c_defects hm _ _ _ N (by omega) f a b c (by omega)) ?_) | (refine And.intro (fun h => ?_) (fun h => ?_) <;> (try simp only [cnt1, ints_length] at h) <;> first | (exfalso; omega) | skip) | refine And.intro (show slotsOk _ = true by decide +kernel) ?_ | refine And.intro vOb ?_ | (apply Exists.intro; refine And.intro vObt ?_) | (apply Exists.intro; refine And.intro vObx ?_) | refine And.intro vArT ?_ | refine And.intro ((by simp)) ?_ | refine And.intro (one_lst _ _ _) ?_ | refine And.intro (rows_plain _) ?_ | refine Or.inl ?_) <;> conv => whnf) | fail
      rw [eS]
      refine ⟨.tup [], none :: rtX m f n N H q (L.length + 1) 7 ++ none :: [some ⟨false, 1, rows true (L ++ [(addL n q (addL n q (addL n q (addL n q (List.replicate (H + 1) 0) b 1) a (bin (b + c) b : Nat)) (a + b) (0 - (bin (a + b) a : Nat))) a (-1)).set H ((lft f N a b c - rgt f N a b c).val.tmod q)])⟩], ⟨rfl, rfl⟩, Weak.of (kp := 7) [none, some 1, some 2, some 3, some 4, some 5, none, some 15] ?_⟩
      conv => whnf
      repeat' ((first | exact trivial | refine And.intro rfl ?_ | refine And.intro (eqV_int vAr) ?_ | refine And.intro vOb ?_ | refine And.intro ?_ ?_) <;> try (conv => whnf))
    · have eS : sideL n q (H + 1) a b c = addL n q (addL n q (addL n q (List.replicate (H + 1) 0) b 1) a (bin (b + c) b : Nat)) (a + b) (0 - (bin (a + b) a : Nat)) := by simp only [sideL, if_pos ha, if_neg hc]
      repeat' first | (refine borD_of [10, 9, 1, 8, 3, 7] (c_add hq n (H + 1) b hn (by omega) (by omega) 1 (by omega) (List.replicate (H + 1) 0) (by simp) zb (I := (b : Int)) (n1 := (a : Int) + b + c) (by omega) (by omega)) (by decide) ?_ (by simp) ?_; (focus ((conv => whnf); (repeat' ((first | exact trivial | refine And.intro rfl ?_ | refine And.intro (eqV_int vAr) ?_ | refine And.intro vOb ?_) <;> (conv => whnf))); done)); conv => whnf) | (refine borD_of [10, 9, 1, 8, 3, 7] (c_add hq n (H + 1) a hn (by omega) (by omega) (bin (b + c) b : Nat) (by omega) (addL n q (List.replicate (H + 1) 0) b 1) (by simp) h1 (I := (a : Int)) (n1 := (a : Int) + b + c) (by omega) (by omega)) (by decide) ?_ (by simp) ?_; (focus ((conv => whnf); (repeat' ((first | exact trivial | refine And.intro rfl ?_ | refine And.intro (eqV_int vAr) ?_ | refine And.intro vOb ?_) <;> (conv => whnf))); done)); conv => whnf) | (refine borD_of [10, 9, 1, 8, 3, 7] (c_add hq n (H + 1) (a + b) hn (by omega) (by omega) (0 - (bin (a + b) a : Nat)) (by omega) (addL n q (addL n q (List.replicate (H + 1) 0) b 1) a (bin (b + c) b : Nat)) (by simp) h2 (I := (a : Int) + (b : Int)) (n1 := (a : Int) + b + c) (by omega) (by omega)) (by decide) ?_ (by simp) ?_; (focus ((conv => whnf); (repeat' ((first | exact trivial | refine And.intro rfl ?_ | refine And.intro (eqV_int vAr) ?_ | refine And.intro vOb ?_) <;> (conv => whnf))); done)); conv => whnf) | ((first | refine And.intro (Or.inl rfl) ?_ | refine Or.inr (inl_ofR Tryz.tabOk mixOrd _ Tryz.func72 rfl rfl ?_) | (apply Exists.intro; refine And.intro (c_binomial (b + c) b (by omega) (by omega) vAr vAr) ?_) | (apply Exists.intro; refine And.intro (c_binomial (a + b) a (by omega) (by omega) vAr vAr) ?_) | (apply Exists.intro; refine And.intro (vStoreS (i := H) _ (by simp [place1]) (by simp)) ?_) | (apply Exists.intro; refine And.intro (c_defects hm _ _ _ N (by omega) f a b c (by omega)) ?_) | (refine And.intro (fun h => ?_) (fun h => ?_) <;> (try simp only [cnt1, ints_length] at h) <;> first | (exfalso; omega) | skip) | refine And.intro (show slotsOk _ = true by decide +kernel) ?_ | refine And.intro vOb ?_ | (apply Exists.intro; refine And.intro vObt ?_) | (apply Exists.intro; refine And.intro vObx ?_) | refine And.intro vArT ?_ | refine And.intro ((by simp)) ?_ | refine And.intro (one_lst _ _ _) ?_ | refine And.intro (rows_plain _) ?_ | refine Or.inl ?_) <;> conv => whnf) | fail
      rw [eS]
      refine ⟨.tup [], none :: rtX m f n N H q (L.length + 1) 7 ++ none :: [some ⟨false, 1, rows true (L ++ [(addL n q (addL n q (addL n q (List.replicate (H + 1) 0) b 1) a (bin (b + c) b : Nat)) (a + b) (0 - (bin (a + b) a : Nat))).set H ((lft f N a b c - rgt f N a b c).val.tmod q)])⟩], ⟨rfl, rfl⟩, Weak.of (kp := 7) [none, some 1, some 2, some 3, some 4, some 5, none, some 15] ?_⟩
      conv => whnf
      repeat' ((first | exact trivial | refine And.intro rfl ?_ | refine And.intro (eqV_int vAr) ?_ | refine And.intro vOb ?_ | refine And.intro ?_ ?_) <;> try (conv => whnf))
  · have h1 := zb
    have h2 := addL_b (n := n) hq.pos h1 a (bin (b + c) b : Nat)
    have h3 := addL_b (n := n) hq.pos h2 (a + b) (0 - (bin (a + b) a : Nat))
    have h4 := addL_b (n := n) hq.pos h3 a (-1)
    by_cases hc : c = 0
    · have eS : sideL n q (H + 1) a b c = addL n q (addL n q (addL n q (List.replicate (H + 1) 0) a (bin (b + c) b : Nat)) (a + b) (0 - (bin (a + b) a : Nat))) a (-1) := by simp only [sideL, if_neg ha, if_pos hc]
      repeat' first | (refine borD_of [10, 9, 1, 8, 3, 7] (c_add hq n (H + 1) a hn (by omega) (by omega) (bin (b + c) b : Nat) (by omega) (List.replicate (H + 1) 0) (by simp) h1 (I := (a : Int)) (n1 := (a : Int) + b + c) (by omega) (by omega)) (by decide) ?_ (by simp) ?_; (focus ((conv => whnf); (repeat' ((first | exact trivial | refine And.intro rfl ?_ | refine And.intro (eqV_int vAr) ?_ | refine And.intro vOb ?_) <;> (conv => whnf))); done)); conv => whnf) | (refine borD_of [10, 9, 1, 8, 3, 7] (c_add hq n (H + 1) (a + b) hn (by omega) (by omega) (0 - (bin (a + b) a : Nat)) (by omega) (addL n q (List.replicate (H + 1) 0) a (bin (b + c) b : Nat)) (by simp) h2 (I := (a : Int) + (b : Int)) (n1 := (a : Int) + b + c) (by omega) (by omega)) (by decide) ?_ (by simp) ?_; (focus ((conv => whnf); (repeat' ((first | exact trivial | refine And.intro rfl ?_ | refine And.intro (eqV_int vAr) ?_ | refine And.intro vOb ?_) <;> (conv => whnf))); done)); conv => whnf) | (refine borD_of [10, 9, 1, 8, 3, 7] (c_add hq n (H + 1) a hn (by omega) (by omega) (-1) (by omega) (addL n q (addL n q (List.replicate (H + 1) 0) a (bin (b + c) b : Nat)) (a + b) (0 - (bin (a + b) a : Nat))) (by simp) h3 (I := (a : Int)) (n1 := (a : Int) + b + c) (by omega) (by omega)) (by decide) ?_ (by simp) ?_; (focus ((conv => whnf); (repeat' ((first | exact trivial | refine And.intro rfl ?_ | refine And.intro (eqV_int vAr) ?_ | refine And.intro vOb ?_) <;> (conv => whnf))); done)); conv => whnf) | ((first | refine And.intro (Or.inl rfl) ?_ | refine Or.inr (inl_ofR Tryz.tabOk mixOrd _ Tryz.func72 rfl rfl ?_) | (apply Exists.intro; refine And.intro (c_binomial (b + c) b (by omega) (by omega) vAr vAr) ?_) | (apply Exists.intro; refine And.intro (c_binomial (a + b) a (by omega) (by omega) vAr vAr) ?_) | (apply Exists.intro; refine And.intro (vStoreS (i := H) _ (by simp [place1]) (by simp)) ?_) | (apply Exists.intro; refine And.intro (c_defects hm _ _ _ N (by omega) f a b c (by omega)) ?_) | (refine And.intro (fun h => ?_) (fun h => ?_) <;> (try simp only [cnt1, ints_length] at h) <;> first | (exfalso; omega) | skip) | refine And.intro (show slotsOk _ = true by decide +kernel) ?_ | refine And.intro vOb ?_ | (apply Exists.intro; refine And.intro vObt ?_) | (apply Exists.intro; refine And.intro vObx ?_) | refine And.intro vArT ?_ | refine And.intro ((by simp)) ?_ | refine And.intro (one_lst _ _ _) ?_ | refine And.intro (rows_plain _) ?_ | refine Or.inl ?_) <;> conv => whnf) | fail
      rw [eS]
      refine ⟨.tup [], none :: rtX m f n N H q (L.length + 1) 7 ++ none :: [some ⟨false, 1, rows true (L ++ [(addL n q (addL n q (addL n q (List.replicate (H + 1) 0) a (bin (b + c) b : Nat)) (a + b) (0 - (bin (a + b) a : Nat))) a (-1)).set H ((lft f N a b c - rgt f N a b c).val.tmod q)])⟩], ⟨rfl, rfl⟩, Weak.of (kp := 7) [none, some 1, some 2, some 3, some 4, some 5, none, some 15] ?_⟩
      conv => whnf
      repeat' ((first | exact trivial | refine And.intro rfl ?_ | refine And.intro (eqV_int vAr) ?_ | refine And.intro vOb ?_ | refine And.intro ?_ ?_) <;> try (conv => whnf))
    · have eS : sideL n q (H + 1) a b c = addL n q (addL n q (List.replicate (H + 1) 0) a (bin (b + c) b : Nat)) (a + b) (0 - (bin (a + b) a : Nat)) := by simp only [sideL, if_neg ha, if_neg hc]
      repeat' first | (refine borD_of [10, 9, 1, 8, 3, 7] (c_add hq n (H + 1) a hn (by omega) (by omega) (bin (b + c) b : Nat) (by omega) (List.replicate (H + 1) 0) (by simp) h1 (I := (a : Int)) (n1 := (a : Int) + b + c) (by omega) (by omega)) (by decide) ?_ (by simp) ?_; (focus ((conv => whnf); (repeat' ((first | exact trivial | refine And.intro rfl ?_ | refine And.intro (eqV_int vAr) ?_ | refine And.intro vOb ?_) <;> (conv => whnf))); done)); conv => whnf) | (refine borD_of [10, 9, 1, 8, 3, 7] (c_add hq n (H + 1) (a + b) hn (by omega) (by omega) (0 - (bin (a + b) a : Nat)) (by omega) (addL n q (List.replicate (H + 1) 0) a (bin (b + c) b : Nat)) (by simp) h2 (I := (a : Int) + (b : Int)) (n1 := (a : Int) + b + c) (by omega) (by omega)) (by decide) ?_ (by simp) ?_; (focus ((conv => whnf); (repeat' ((first | exact trivial | refine And.intro rfl ?_ | refine And.intro (eqV_int vAr) ?_ | refine And.intro vOb ?_) <;> (conv => whnf))); done)); conv => whnf) | ((first | refine And.intro (Or.inl rfl) ?_ | refine Or.inr (inl_ofR Tryz.tabOk mixOrd _ Tryz.func72 rfl rfl ?_) | (apply Exists.intro; refine And.intro (c_binomial (b + c) b (by omega) (by omega) vAr vAr) ?_) | (apply Exists.intro; refine And.intro (c_binomial (a + b) a (by omega) (by omega) vAr vAr) ?_) | (apply Exists.intro; refine And.intro (vStoreS (i := H) _ (by simp [place1]) (by simp)) ?_) | (apply Exists.intro; refine And.intro (c_defects hm _ _ _ N (by omega) f a b c (by omega)) ?_) | (refine And.intro (fun h => ?_) (fun h => ?_) <;> (try simp only [cnt1, ints_length] at h) <;> first | (exfalso; omega) | skip) | refine And.intro (show slotsOk _ = true by decide +kernel) ?_ | refine And.intro vOb ?_ | (apply Exists.intro; refine And.intro vObt ?_) | (apply Exists.intro; refine And.intro vObx ?_) | refine And.intro vArT ?_ | refine And.intro ((by simp)) ?_ | refine And.intro (one_lst _ _ _) ?_ | refine And.intro (rows_plain _) ?_ | refine Or.inl ?_) <;> conv => whnf) | fail
      rw [eS]
      refine ⟨.tup [], none :: rtX m f n N H q (L.length + 1) 7 ++ none :: [some ⟨false, 1, rows true (L ++ [(addL n q (addL n q (List.replicate (H + 1) 0) a (bin (b + c) b : Nat)) (a + b) (0 - (bin (a + b) a : Nat))).set H ((lft f N a b c - rgt f N a b c).val.tmod q)])⟩], ⟨rfl, rfl⟩, Weak.of (kp := 7) [none, some 1, some 2, some 3, some 4, some 5, none, some 15] ?_⟩
      conv => whnf
      repeat' ((first | exact trivial | refine And.intro rfl ?_ | refine And.intro (eqV_int vAr) ?_ | refine And.intro vOb ?_ | refine And.intro ?_ ?_) <;> try (conv => whnf))
end Go.Proofs

