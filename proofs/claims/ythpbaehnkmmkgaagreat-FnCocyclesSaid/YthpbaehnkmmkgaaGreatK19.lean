/- Cocycles. -/
-- tables
import Derived.Test.YthpbaehnkmmkgaaGreatK16
import Derived.Test.YthpbaehnkmmkgaaGreatKP
namespace Go.Proofs
open Go Go.Vm Go.Fg Go.Fg.PS
set_option maxRecDepth 100000
set_option maxHeartbeats 4000000
set_option linter.unusedSimpArgs false
set_option linter.unusedVariables false
variable {m : Int}
open Classical in
noncomputable def tr (p : Prop) : Bool := decide p
theorem tr_yes {p : Prop} (h : p) : tr p = true := by simp [tr, h]
theorem tr_no {p : Prop} (h : ¬ p) : tr p = false := by simp [tr, h]
def tpc (f : PS (PS (Zm m))) (n i : Nat) : Zm m := (f.c i).c (n - i)
def cocR (f : PS (PS (Zm m))) (n a b : Nat) : Prop := Zm.mk m (bin (a + b) a) * tpc f n (a + b) = Zm.mk m (bin (n - a) b) * tpc f n a
def CocP (f : PS (PS (Zm m))) (n : Nat) : Prop :=
  2 ≤ n ∧ (∀ i j, i + j < n → (f.c i).c j = 0) ∧ (∀ i, i ≤ n → tpc f n i = tpc f n (n - i)) ∧ tpc f n 0 = 0 ∧ ∀ a b, 1 ≤ a → 1 ≤ b → a + b < n → cocR f n a b
theorem tmod_sub_zero {a b : Int} : (a - b).tmod m = 0 ↔ Zm.mk m a = Zm.mk m b := by
  rw [Zm.mk_eq]
  constructor
  · intro h
    have h1 : m ∣ a - b := Int.dvd_of_tmod_eq_zero h
    exact Int.emod_eq_emod_iff_emod_sub_eq_zero.2 (Int.emod_eq_zero_of_dvd h1)
  · intro h
    exact Int.tmod_eq_zero_of_dvd (Int.dvd_of_emod_eq_zero (Int.emod_eq_emod_iff_emod_sub_eq_zero.1 h))
def topS (f : PS (PS (Zm m))) (N : Nat) : PS (Zm m) := ⟨fun i => tpc f (N - 1) i⟩
theorem c_l07IsL (hm : Md m) (o p : Bool) (N : Nat) (hN : 2 ≤ N ∧ N ≤ 11) (f : PS (PS (Zm m))) (hp : plB m (Tb N f) = true) : PureCall Tryz.prog 280 [PlD m o p N f] (dbool (tr (CocP f (N - 1)))) := by
  have hm1 := hm.1
  have hm2 := hm.2
  have hli := c_l03Is o p m (Tb N f) (by simp; omega) (lensOk_Tb (by omega) f)
  rw [hp] at hli
  have hdeg : PureCall Tryz.prog 298 [PlD m o p N f] (dint (N - 1)) := by
    refine pure_of_vc Tryz.tabOk mixOrd Tryz.func298 rfl rfl ?_
    conv => whnf
    repeat' first | ((first | refine z0 ?_ | (refine And.intro (fun h => ?_) (fun h => ?_) <;> (try simp only [cnt1, ints_length] at h)) | refine zS ?_ | refine zV ?_ | (apply zI; refine zP vObt ?_) | (apply zI; refine zP vObx ?_) | refine zA ?_ | refine Alt.fst ?_ | refine Or.inl ?_) <;> conv => whnf) | fail
    simp [cnt1]
  refine pure_of_vc Tryz.tabOk mixOrd Tryz.func280 rfl rfl ?_
  conv => whnf
  repeat' first | ((first | refine z0 ?_ | (apply zI; refine zP (hli) ?_) | (apply zI; refine zP (hdeg) ?_) | (refine And.intro (fun h => ?_) (fun h => ?_) <;> (try simp only [cnt1, ints_length] at h)) | refine zS ?_ | refine zV ?_ | (apply zI; refine zP vObt ?_) | (apply zI; refine zP vObx ?_) | refine zA ?_ | refine Alt.fst ?_ | refine Or.inl ?_) <;> conv => whnf) | fail
  · exact dbool_congr (tr_no (fun h => by have := h.1; omega)).symm
  · refine loop_at Tryz.tabOk mixOrd (α := Nat) (fun i => [(4, .ref 4 [] 1 0 i), (5, dint i), (21, .undef)]) (fun i => [(4, some ⟨false, 1, ints (L i (topS f N))⟩)]) (fun i => i ≤ N ∧ ∀ a b, a < i → a + b < N - 1 → (f.c a).c b = 0) (fun i => N - i) (0) ?_ ?_ ?_
    · exact ⟨by omega, by omega⟩
    · conv => whnf
      first | refine WeakS.auto ?_ | refine Weak.auto ?_
      conv => whnf
      repeat' ((first | refine z1 ?_ | refine z2 ?_ | refine zV ?_ | refine And.intro vRepl ?_ | refine And.intro vReplL ?_ | refine And.intro ?_ ?_ | exact trivial) <;> try (conv => whnf))
    intro i ⟨hi, hz⟩
    conv => whnf
    repeat' first | ((first | refine z0 ?_ | (refine And.intro (fun h => ?_) (fun h => ?_) <;> (try simp only [cnt1, ints_length] at h)) | refine zS ?_ | refine zV ?_ | (apply zI; refine zP vObt ?_) | (apply zI; refine zP vObx ?_) | refine zA ?_ | refine Alt.fst ?_ | refine Or.inl ?_) <;> conv => whnf) | fail
    · refine loop_at Tryz.tabOk mixOrd (α := Nat) (fun j => [(6, dint j)]) (fun j => []) (fun j => i + j ≤ N - 1 ∧ ∀ b, b < j → i + b < N - 1 → (f.c i).c b = 0) (fun j => N - j) (0) ?_ ?_ ?_
      · exact ⟨by omega, by omega⟩
      · conv => whnf
        first | refine WeakS.auto ?_ | refine Weak.auto ?_
        conv => whnf
        repeat' ((first | refine z1 ?_ | refine z2 ?_ | refine zV ?_ | refine And.intro vRepl ?_ | refine And.intro vReplL ?_ | refine And.intro ?_ ?_ | exact trivial) <;> try (conv => whnf))
      intro j ⟨hj, hzj⟩
      conv => whnf
      repeat' first | ((first | refine z0 ?_ | (refine And.intro (fun h => ?_) (fun h => ?_) <;> (try simp only [cnt1, ints_length] at h)) | refine zS ?_ | refine zV ?_ | (apply zI; refine zP vObt ?_) | (apply zI; refine zP vObx ?_) | refine zA ?_ | refine Alt.fst ?_ | refine Or.inl ?_) <;> conv => whnf) | fail
      · have hne : ((f.c i).c j).val ≠ 0 := by assumption
        exact dbool_congr (tr_no (fun h => hne (Zm.val_eq_zero.2 (h.2.1 i j (by omega))))).symm
      · have he : ¬ ((f.c i).c j).val ≠ 0 := by assumption
        refine Exists.intro (j + 1) (And.intro ⟨by omega, fun b hb hb2 => ?_⟩ (And.intro (by omega) ?_))
        · rcases Nat.lt_or_ge b j with h' | h'
          · exact hzj b h' hb2
          · rw [show b = j by omega]; exact Zm.val_eq_zero.1 (Classical.not_not.1 he)
        first | refine WeakS.auto ?_ | refine Weak.auto ?_
        conv => whnf
        repeat' ((first | refine z1 ?_ | refine z2 ?_ | refine zV ?_ | refine And.intro vRepl ?_ | refine And.intro vReplL ?_ | refine And.intro ?_ ?_ | exact trivial) <;> try (conv => whnf))
      · have hij : i + j = N - 1 := by omega
        refine Exists.intro (i + 1) (And.intro ⟨by omega, fun a b ha hb => ?_⟩ (And.intro (by omega) ?_))
        · rcases Nat.lt_or_ge a i with h' | h'
          · exact hz a b h' hb
          · have : a = i := by omega
            subst this
            exact hzj b (by omega) hb
        first | refine WeakS.auto ?_ | refine Weak.auto ?_
        conv => whnf
        repeat' ((first | refine z1 ?_ | refine z2 ?_ | refine zV ?_ | refine And.intro vRepl ?_ | refine And.intro vReplL ?_ | refine And.intro ?_ ?_ | exact trivial) <;> try (conv => whnf))
        refine ints_congr (L_push ?_)
        rw [show ((N : Int) - 1 - i).toNat = N - 1 - i by omega]; rfl
    · have hiN : i = N := by omega
      subst hiN
      refine loop_at Tryz.tabOk mixOrd (α := Nat) (fun q => [(7, dint q)]) (fun q => []) (fun q => q ≤ i ∧ ∀ a, a < q → tpc f (i - 1) a = tpc f (i - 1) (i - 1 - a) ∧ ((a = 0 ∨ a = i - 1) → tpc f (i - 1) a = 0)) (fun q => i - q) (0) ?_ ?_ ?_
      · exact ⟨by omega, by omega⟩
      · conv => whnf
        first | refine WeakS.auto ?_ | refine Weak.auto ?_
        conv => whnf
        repeat' ((first | refine z1 ?_ | refine z2 ?_ | refine zV ?_ | refine And.intro vRepl ?_ | refine And.intro vReplL ?_ | refine And.intro ?_ ?_ | exact trivial) <;> try (conv => whnf))
      intro q ⟨hq, hsy⟩
      conv => whnf
      have etp : ∀ a, (topS f i).c a = tpc f (i - 1) a := fun _ => rfl
      have eq1 : ((i : Int) - 1 - q).toNat = i - 1 - q := by omega
      have hgo2 : (tpc f (i - 1) q = tpc f (i - 1) (i - 1 - q)) → ((q = 0 ∨ q = i - 1) → tpc f (i - 1) q = 0) → ∀ a, a < q + 1 → tpc f (i - 1) a = tpc f (i - 1) (i - 1 - a) ∧ ((a = 0 ∨ a = i - 1) → tpc f (i - 1) a = 0) := fun h1 h2 a ha => by
        rcases Nat.lt_or_ge a q with h' | h'
        · exact hsy a h'
        · rw [show a = q by omega]; exact ⟨h1, h2⟩
      repeat' first | ((first | refine z0 ?_ | (refine And.intro (fun h => ?_) (fun h => ?_) <;> (try simp only [cnt1, ints_length] at h)) | refine zS ?_ | refine zV ?_ | (apply zI; refine zP vObt ?_) | (apply zI; refine zP vObx ?_) | refine zA ?_ | refine Alt.fst ?_ | refine Or.inl ?_) <;> conv => whnf) | fail
      · refine dbool_congr (tr_no (fun hc => ?_)).symm
        have hs := hc.2.2.1 q (by omega)
        have hne : ((topS f i).c q).val ≠ ((topS f i).c ((i : Int) - 1 - q).toNat).val := by assumption
        rw [eq1] at hne
        exact hne (congrArg Zm.val hs)
      · refine dbool_congr (tr_no (fun hc => ?_)).symm
        have hne : ((topS f i).c q).val ≠ 0 := by assumption
        rw [show q = 0 by omega] at hne
        exact hne (Zm.val_eq_zero.2 hc.2.2.2.1)
      · have e1 : ¬ ((topS f i).c q).val ≠ ((topS f i).c ((i : Int) - 1 - q).toNat).val := by assumption
        have e2 : ¬ ((topS f i).c q).val ≠ 0 := by assumption
        rw [eq1] at e1
        refine Exists.intro (q + 1) (And.intro ⟨by omega, hgo2 (Zm.val_inj (Classical.not_not.1 e1)) (fun _ => Zm.val_eq_zero.1 (Classical.not_not.1 e2))⟩ (And.intro (by omega) ?_))
        first | refine WeakS.auto ?_ | refine Weak.auto ?_
        conv => whnf
        repeat' ((first | refine z1 ?_ | refine z2 ?_ | refine zV ?_ | refine And.intro vRepl ?_ | refine And.intro vReplL ?_ | refine And.intro ?_ ?_ | exact trivial) <;> try (conv => whnf))
      · refine dbool_congr (tr_no (fun hc => ?_)).symm
        have hs := hc.2.2.1 q (by omega)
        have hne : ((topS f i).c q).val ≠ 0 := by assumption
        rw [show i - 1 - q = 0 by omega, hc.2.2.2.1] at hs
        exact hne (Zm.val_eq_zero.2 hs)
      · have e1 : ¬ ((topS f i).c q).val ≠ ((topS f i).c ((i : Int) - 1 - q).toNat).val := by assumption
        have e2 : ¬ ((topS f i).c q).val ≠ 0 := by assumption
        rw [eq1] at e1
        refine Exists.intro (q + 1) (And.intro ⟨by omega, hgo2 (Zm.val_inj (Classical.not_not.1 e1)) (fun _ => Zm.val_eq_zero.1 (Classical.not_not.1 e2))⟩ (And.intro (by omega) ?_))
        first | refine WeakS.auto ?_ | refine Weak.auto ?_
        conv => whnf
        repeat' ((first | refine z1 ?_ | refine z2 ?_ | refine zV ?_ | refine And.intro vRepl ?_ | refine And.intro vReplL ?_ | refine And.intro ?_ ?_ | exact trivial) <;> try (conv => whnf))
      · have e1 : ¬ ((topS f i).c q).val ≠ ((topS f i).c ((i : Int) - 1 - q).toNat).val := by assumption
        rw [eq1] at e1
        refine Exists.intro (q + 1) (And.intro ⟨by omega, hgo2 (Zm.val_inj (Classical.not_not.1 e1)) (fun h' => by omega)⟩ (And.intro (by omega) ?_))
        first | refine WeakS.auto ?_ | refine Weak.auto ?_
        conv => whnf
        repeat' ((first | refine z1 ?_ | refine z2 ?_ | refine zV ?_ | refine And.intro vRepl ?_ | refine And.intro vReplL ?_ | refine And.intro ?_ ?_ | exact trivial) <;> try (conv => whnf))
      · have hqi : q = i := by omega
        subst hqi
        refine loop_at Tryz.tabOk mixOrd (α := Nat) (fun x => [(8, dint ((x : Int) + 1))]) (fun x => []) (fun x => x + 1 ≤ q ∧ ∀ a b, 1 ≤ a → a ≤ x → 1 ≤ b → a + b < q - 1 → cocR f (q - 1) a b) (fun x => q - x) (0) ?_ ?_ ?_
        · exact ⟨by omega, by omega⟩
        · conv => whnf
          first | refine WeakS.auto ?_ | refine Weak.auto ?_
          conv => whnf
          repeat' ((first | refine z1 ?_ | refine z2 ?_ | refine zV ?_ | refine And.intro vRepl ?_ | refine And.intro vReplL ?_ | refine And.intro ?_ ?_ | exact trivial) <;> try (conv => whnf))
        intro x ⟨hx, hco⟩
        conv => whnf
        repeat' first | ((first | refine z0 ?_ | (refine And.intro (fun h => ?_) (fun h => ?_) <;> (try simp only [cnt1, ints_length] at h)) | refine zS ?_ | refine zV ?_ | (apply zI; refine zP vObt ?_) | (apply zI; refine zP vObx ?_) | refine zA ?_ | refine Alt.fst ?_ | refine Or.inl ?_) <;> conv => whnf) | fail
        · refine loop_at Tryz.tabOk mixOrd (α := Nat) (fun y => [(9, dint ((y : Int) + 1))]) (fun y => []) (fun y => x + 1 + (y + 1) ≤ q ∧ ∀ b, 1 ≤ b → b ≤ y → x + 1 + b < q - 1 → cocR f (q - 1) (x + 1) b) (fun y => q - y) (0) ?_ ?_ ?_
          · exact ⟨by omega, by omega⟩
          · conv => whnf
            first | refine WeakS.auto ?_ | refine Weak.auto ?_
            conv => whnf
            repeat' ((first | refine z1 ?_ | refine z2 ?_ | refine zV ?_ | refine And.intro vRepl ?_ | refine And.intro vReplL ?_ | refine And.intro ?_ ?_ | exact trivial) <;> try (conv => whnf))
          intro y ⟨hy, hcy⟩
          conv => whnf
          have htm1 : ((bin (x + 1 + (y + 1)) (x + 1) : Nat) : Int).tmod m = (Zm.mk m (bin (x + 1 + (y + 1)) (x + 1) : Nat)).val := Zm.tmod_val (by omega) rfl
          have htm2 : ((bin (q - 1 - (x + 1)) (y + 1) : Nat) : Int).tmod m = (Zm.mk m (bin (q - 1 - (x + 1)) (y + 1) : Nat)).val := Zm.tmod_val (by omega) rfl
          have b1 := hm.mul (Zm.mk m (bin (x + 1 + (y + 1)) (x + 1) : Nat)) ((topS f q).c (x + 1 + (y + 1)))
          have b2 := hm.mul (Zm.mk m (bin (q - 1 - (x + 1)) (y + 1) : Nat)) ((topS f q).c (x + 1))
          repeat' first | ((first | refine z0 ?_ | (apply zI; refine zP (c_l01Binomial' (x + 1 + (y + 1)) (x + 1) (by omega) (by omega) (by omega)) ?_) | (apply zI; refine zP (c_l01Binomial' (q - 1 - (x + 1)) (y + 1) (by omega) (by omega) (by omega)) ?_) | (refine And.intro (fun h => ?_) (fun h => ?_) <;> (try simp only [cnt1, ints_length] at h)) | refine zS ?_ | refine zV ?_ | (apply zI; refine zP vObt ?_) | (apply zI; refine zP vObx ?_) | refine zA ?_ | refine Alt.fst ?_ | refine Or.inl ?_) <;> conv => whnf) | fail
          · have hxy : x + 1 + (y + 1) < q - 1 := by omega
            rw [htm1, show ((x : Int) + 1 + ((y : Int) + 1)).toNat = x + 1 + (y + 1) by omega]
            repeat' first | ((first | refine z0 ?_ | (apply zI; refine zP (c_l01Binomial' (q - 1 - (x + 1)) (y + 1) (by omega) (by omega) (by omega)) ?_) | (refine And.intro (fun h => ?_) (fun h => ?_) <;> (try simp only [cnt1, ints_length] at h)) | refine zS ?_ | refine zV ?_ | (apply zI; refine zP vObt ?_) | (apply zI; refine zP vObx ?_) | refine zA ?_ | refine Alt.fst ?_ | refine Or.inl ?_) <;> conv => whnf) | fail
            rw [htm2]
            repeat' first | ((first | refine z0 ?_ | (refine And.intro (fun h => ?_) (fun h => ?_) <;> (try simp only [cnt1, ints_length] at h)) | refine zS ?_ | refine zV ?_ | (apply zI; refine zP vObt ?_) | (apply zI; refine zP vObx ?_) | refine zA ?_ | refine Alt.fst ?_ | refine Or.inl ?_) <;> conv => whnf) | fail
            · refine dbool_congr (tr_no (fun hc => ?_)).symm
              have hr := hc.2.2.2.2 (x + 1) (y + 1) (by omega) (by omega) hxy
              have hne : ((Zm.mk m (bin (x + 1 + (y + 1)) (x + 1) : Nat)).val * ((topS f q).c (x + 1 + (y + 1))).val - (Zm.mk m (bin (q - 1 - (x + 1)) (y + 1) : Nat)).val * ((topS f q).c (x + 1)).val).tmod m ≠ 0 := by assumption
              refine hne (tmod_sub_zero.2 ?_)
              rw [Zm.mk_mul, Zm.mk_mul, Zm.mk_val, Zm.mk_val, Zm.mk_val, Zm.mk_val]
              exact hr
            · have he : ¬ ((Zm.mk m (bin (x + 1 + (y + 1)) (x + 1) : Nat)).val * ((topS f q).c (x + 1 + (y + 1))).val - (Zm.mk m (bin (q - 1 - (x + 1)) (y + 1) : Nat)).val * ((topS f q).c (x + 1)).val).tmod m ≠ 0 := by assumption
              have he2 := tmod_sub_zero.1 (Classical.not_not.1 he)
              rw [Zm.mk_mul, Zm.mk_mul, Zm.mk_val, Zm.mk_val, Zm.mk_val, Zm.mk_val] at he2
              refine Exists.intro (y + 1) (And.intro ⟨by omega, fun b hb1 hb2 hb3 => ?_⟩ (And.intro (by omega) ?_))
              · rcases Nat.lt_or_ge b (y + 1) with h' | h'
                · exact hcy b hb1 (by omega) hb3
                · rw [show b = y + 1 by omega]; exact he2
              first | refine WeakS.auto ?_ | refine Weak.auto ?_
              conv => whnf
              repeat' ((first | refine z1 ?_ | refine z2 ?_ | refine zV ?_ | refine And.intro vRepl ?_ | refine And.intro vReplL ?_ | refine And.intro ?_ ?_ | exact trivial) <;> try (conv => whnf))
          · refine Exists.intro (x + 1) (And.intro ⟨by omega, fun a b ha1 ha2 hb1 hb2 => ?_⟩ (And.intro (by omega) ?_))
            · rcases Nat.lt_or_ge a (x + 1) with h' | h'
              · exact hco a b ha1 (by omega) hb1 hb2
              · have ea : a = x + 1 := by omega
                subst ea
                exact hcy b hb1 (by omega) hb2
            first | refine WeakS.auto ?_ | refine Weak.auto ?_
            conv => whnf
            repeat' ((first | refine z1 ?_ | refine z2 ?_ | refine zV ?_ | refine And.intro vRepl ?_ | refine And.intro vReplL ?_ | refine And.intro ?_ ?_ | exact trivial) <;> try (conv => whnf))
        · refine dbool_congr (tr_yes ⟨by omega, fun a b hab => hz a b (by omega) hab, fun a ha => (hsy a (by omega)).1, (hsy 0 (by omega)).2 (.inl rfl), fun a b ha hb hab => hco a b ha (by omega) hb hab⟩).symm
  · exact absurd (by assumption) (show ¬ true = false by simp)
theorem c_top (o p : Bool) (N : Nat) (hN : 2 ≤ N ∧ N ≤ 11) (f : PS (PS (Zm m))) : PureCall Tryz.prog 279 [PlD m o p N f] (.list true 1 (ints (L N (topS f N)))) := by
  refine pure_of_vc Tryz.tabOk mixOrd Tryz.func279 rfl rfl ?_
  conv => whnf
  repeat' first | ((first | refine z0 ?_ | (apply zI; refine zP (c_degreeP _ _ _ vAr _) ?_) | (refine And.intro (fun h => ?_) (fun h => ?_) <;> (try simp only [cnt1, ints_length] at h)) | refine zS ?_ | refine zV ?_ | (apply zI; refine zP vObt ?_) | (apply zI; refine zP vObx ?_) | refine zA ?_ | refine Alt.fst ?_ | refine Or.inl ?_) <;> conv => whnf) | fail
  refine loop_at Tryz.tabOk mixOrd (α := Nat) (fun i => [(11, dint i), (3, .ref 1 [] 1 0 i), (6, .undef)]) (fun i => [(1, some ⟨false, 1, ints (L i (topS f N))⟩)]) (fun i => i ≤ N) (fun i => N - i) (0) ?_ ?_ ?_
  · omega
  · conv => whnf
    first | refine WeakS.auto ?_ | refine Weak.auto ?_
    conv => whnf
    repeat' ((first | refine z1 ?_ | refine z2 ?_ | refine zV ?_ | refine And.intro vRepl ?_ | refine And.intro vReplL ?_ | refine And.intro ?_ ?_ | exact trivial) <;> try (conv => whnf))
  intro i hi
  conv => whnf
  repeat' first | ((first | refine z0 ?_ | (refine And.intro (fun h => ?_) (fun h => ?_) <;> (try simp only [cnt1, ints_length] at h)) | refine zS ?_ | refine zV ?_ | (apply zI; refine zP vObt ?_) | (apply zI; refine zP vObx ?_) | refine zA ?_ | refine Alt.fst ?_ | refine Or.inl ?_) <;> conv => whnf) | fail
  · refine Exists.intro (i + 1) (And.intro vAr (And.intro vAr ?_))
    first | refine WeakS.auto ?_ | refine Weak.auto ?_
    conv => whnf
    repeat' ((first | refine z1 ?_ | refine z2 ?_ | refine zV ?_ | refine And.intro vRepl ?_ | refine And.intro vReplL ?_ | refine And.intro ?_ ?_ | exact trivial) <;> try (conv => whnf))
    refine ints_congr (L_push ?_)
    rw [show ((N : Int) - 1 - i).toNat = N - 1 - i by omega]; rfl
  · rw [show i = N by omega]
theorem c_turned1 (o p : Bool) (n : Nat) (hn : 1 ≤ n ∧ n ≤ 100) (f : PS (PS (Zm m))) (i j : Nat) (h : i + j < n) : PureCall Tryz.prog 392 [dint i, dint j, .cptr [dint m, .list o 1 (rows p (Tb n f))] 0] (dint ((f.c j).c i).val) := by
  refine pure_of_vc Tryz.tabOk mixOrd Tryz.func392 rfl rfl ?_
  conv => whnf
  repeat' first | ((first | refine z0 ?_ | (refine And.intro (fun h => ?_) (fun h => ?_) <;> (try simp only [cnt1, ints_length] at h)) | refine zS ?_ | refine zV ?_ | (apply zI; refine zP vObt ?_) | (apply zI; refine zP vObx ?_) | refine zA ?_ | refine Alt.fst ?_ | refine Or.inl ?_) <;> conv => whnf) | fail
  all_goals rfl
theorem c_turned (hm : Md m) (o p : Bool) (n : Nat) (hn : 1 ≤ n ∧ n ≤ 100) (f : PS (PS (Zm m))) : PureCall Tryz.prog 285 [PlD m o p n f] (PlD m true true n (pl fun i j => (f.c j).c i)) := by
  refine pure_of_vc Tryz.tabOk mixOrd Tryz.func285 rfl rfl ?_
  conv => whnf
  repeat' first | ((first | refine z0 ?_ | (apply zI; refine zP (c_mapped1 hm _ _ n hn (fun i j => ((f.c j).c i).val) (fun i j h => c_turned1 _ _ n hn f i j h) _ _ f) ?_) | (refine And.intro (fun h => ?_) (fun h => ?_) <;> (try simp only [cnt1, ints_length] at h)) | refine zS ?_ | refine zV ?_ | (apply zI; refine zP vObt ?_) | (apply zI; refine zP vObx ?_) | refine zA ?_ | refine Alt.fst ?_ | refine Or.inl ?_) <;> conv => whnf) | fail
  refine plD_congr (Tb_congr (fun i j hij => ?_))
  rw [pl_c, pl_c, Zm.mk_val]
theorem c_slEqual (o o' : Bool) (l l' : List Int) (hl : l.length ≤ 1048576) : PureCall Tryz.prog 390 [.list o 1 (ints l), .list o' 1 (ints l')] (dbool (decide (l = l'))) := by
  refine pure_of_vc Tryz.tabOk mixOrd Tryz.func390 rfl rfl ?_
  conv => whnf
  repeat' first | ((first | refine z0 ?_ | (refine And.intro (fun h => ?_) (fun h => ?_) <;> (try simp only [cnt1, ints_length] at h)) | refine zS ?_ | refine zV ?_ | (apply zI; refine zP vObt ?_) | (apply zI; refine zP vObx ?_) | refine zA ?_ | refine Alt.fst ?_ | refine Or.inl ?_) <;> conv => whnf) | fail
  · refine dbool_congr ?_
    rw [eq_comm, decide_eq_false_iff_not]
    intro e; subst e; simp_all
  refine loop_at Tryz.tabOk mixOrd (α := Nat) (fun i => [(13, dint i)]) (fun i => []) (fun i => i ≤ l.length ∧ ∀ j, j < i → l.getD j 0 = l'.getD j 0) (fun i => l.length - i) (0) ?_ ?_ ?_
  · exact ⟨by omega, by omega⟩
  · conv => whnf
    first | refine WeakS.auto ?_ | refine Weak.auto ?_
    conv => whnf
    repeat' ((first | refine z1 ?_ | refine z2 ?_ | refine zV ?_ | refine And.intro vRepl ?_ | refine And.intro vReplL ?_ | refine And.intro ?_ ?_ | exact trivial) <;> try (conv => whnf))
  intro i hi
  conv => whnf
  repeat' first | ((first | refine z0 ?_ | (refine And.intro (fun h => ?_) (fun h => ?_) <;> (try simp only [cnt1, ints_length] at h)) | refine zS ?_ | refine zV ?_ | (apply zI; refine zP vObt ?_) | (apply zI; refine zP vObx ?_) | refine zA ?_ | refine Alt.fst ?_ | refine Or.inl ?_) <;> conv => whnf) | fail
  · exact dbool_congr (by rw [eq_comm, decide_eq_false_iff_not]; intro e; subst e; simp_all)
  · refine Exists.intro (i + 1) (And.intro ⟨by omega, lt_cases hi.2 (by omega)⟩ (And.intro (by omega) ?_))
    first | refine WeakS.auto ?_ | refine Weak.auto ?_
    conv => whnf
    repeat' ((first | refine z1 ?_ | refine z2 ?_ | refine zV ?_ | refine And.intro vRepl ?_ | refine And.intro vReplL ?_ | refine And.intro ?_ ?_ | exact trivial) <;> try (conv => whnf))
  · refine dbool_congr ?_
    rw [eq_comm, decide_eq_true_iff]
    refine List.ext_getElem (by omega) (fun j k1 k2 => ?_)
    have := hi.2 j (by omega)
    simpa [k1, k2] using this
theorem c_same1 (o o' : Bool) (l l' : List Int) (hl : l.length ≤ 1048576) : PureCall Tryz.prog 389 [.list o 1 (ints l), .list o' 1 (ints l')] (dbool (decide (l = l'))) := by
  refine pure_of_vc Tryz.tabOk mixOrd Tryz.func389 rfl rfl ?_
  conv => whnf
  repeat' first | ((first | refine z0 ?_ | (apply zI; refine zP (c_slEqual _ _ _ _ hl) ?_) | (refine And.intro (fun h => ?_) (fun h => ?_) <;> (try simp only [cnt1, ints_length] at h)) | refine zS ?_ | refine zV ?_ | (apply zI; refine zP vObt ?_) | (apply zI; refine zP vObx ?_) | refine zA ?_ | refine Alt.fst ?_ | refine Or.inl ?_) <;> conv => whnf) | fail
  all_goals (refine dbool_congr ?_; first | rfl | (simp_all []; done) | (simp_all []; omega) | (simp_all []; intros; omega))
theorem c_EqualFunc (o o' p p' : Bool) (t t' : List (List Int)) (hl : t.length ≤ 1048576) (hr : lensOk t) : PureCall Tryz.prog 388 [.list o 1 (rows p t), .list o' 1 (rows p' t'), .fn (.func 389) [] []] (dbool (decide (t = t'))) := by
  refine pure_of_vc Tryz.tabOk mixOrd Tryz.func388 rfl rfl ?_
  conv => whnf
  repeat' first | ((first | refine z0 ?_ | (refine And.intro (fun h => ?_) (fun h => ?_) <;> (try simp only [cnt1, ints_length] at h)) | refine zS ?_ | refine zV ?_ | (apply zI; refine zP vObt ?_) | (apply zI; refine zP vObx ?_) | refine zA ?_ | refine Alt.fst ?_ | refine Or.inl ?_) <;> conv => whnf) | fail
  · refine dbool_congr ?_
    rw [eq_comm, decide_eq_false_iff_not]
    intro e; subst e; simp_all
  · have hlen : t.length = t'.length := by simp only [rows_length] at *; omega
    refine loop_at Tryz.tabOk mixOrd (α := Nat) (fun i => [(17, dint i)]) (fun i => []) (fun i => i ≤ t.length ∧ ∀ j, j < i → t.getD j [] = t'.getD j []) (fun i => t.length - i) (0) ?_ ?_ ?_
    · exact ⟨by omega, by omega⟩
    · conv => whnf
      first | refine WeakS.auto ?_ | refine Weak.auto ?_
      conv => whnf
      repeat' ((first | refine z1 ?_ | refine z2 ?_ | refine zV ?_ | refine And.intro vRepl ?_ | refine And.intro vReplL ?_ | refine And.intro ?_ ?_ | exact trivial) <;> try (conv => whnf))
    intro i hi
    conv => whnf
    repeat' first | ((first | refine z0 ?_ | (apply zI; refine zP (c_same1 _ _ _ _ (hr i vAr)) ?_) | (refine And.intro (fun h => ?_) (fun h => ?_) <;> (try simp only [cnt1, ints_length] at h)) | refine zS ?_ | refine zV ?_ | (apply zI; refine zP vObt ?_) | (apply zI; refine zP vObx ?_) | refine zA ?_ | refine Alt.fst ?_ | refine Or.inl ?_) <;> conv => whnf) | fail
    · refine Exists.intro (i + 1) (And.intro ⟨vAr, lt_cases hi.2 (of_decide_eq_true (by assumption))⟩ (And.intro vAr ?_))
      first | refine WeakS.auto ?_ | refine Weak.auto ?_
      conv => whnf
      repeat' ((first | refine z1 ?_ | refine z2 ?_ | refine zV ?_ | refine And.intro vRepl ?_ | refine And.intro vReplL ?_ | refine And.intro ?_ ?_ | exact trivial) <;> try (conv => whnf))
    · refine dbool_congr ?_
      rw [eq_comm, decide_eq_false_iff_not]
      intro e; subst e
      have := of_decide_eq_false (by assumption)
      exact this rfl
    · refine dbool_congr ?_
      rw [eq_comm, decide_eq_true_iff]
      exact eqT_of hlen (fun j hj => hi.2 j vAr)
theorem c_sameP (o o' p p' : Bool) (n n' : Nat) (hn : n ≤ 100) (f g : PS (PS (Zm m))) : PureCall Tryz.prog 282 [PlD m o p n f, PlD m o' p' n' g] (dbool (decide (Tb n f = Tb n' g))) := by
  refine pure_of_vc Tryz.tabOk mixOrd Tryz.func282 rfl rfl ?_
  conv => whnf
  repeat' first | ((first | refine z0 ?_ | (apply zI; refine zP (c_EqualFunc _ _ _ _ _ _ vAr (lensOk_Tb (by omega) _)) ?_) | (refine And.intro (fun h => ?_) (fun h => ?_) <;> (try simp only [cnt1, ints_length] at h)) | refine zS ?_ | refine zV ?_ | (apply zI; refine zP vObt ?_) | (apply zI; refine zP vObx ?_) | refine zA ?_ | refine Alt.fst ?_ | refine Or.inl ?_) <;> conv => whnf) | fail
  all_goals (refine dbool_congr ?_; first | rfl | (simp_all []; done) | (simp_all []; omega) | (simp_all []; intros; omega))
theorem top_iff {f : PS (PS (Zm m))} {N : Nat} (hN : 2 ≤ N) : Tb N f = Tb N (addTop 0 (N - 1) N fun i => Zm.mk m ((L N (topS f N)).getD i 0)) ↔ ∀ i j, i + j < N - 1 → (f.c i).c j = 0 := by
  constructor
  · intro h i j hij
    rw [Tb_inj h i j (by omega), addTop_cc, if_neg (by omega)]; rfl
  · intro h
    refine Tb_congr (fun i j hij => ?_)
    rw [addTop_cc]
    by_cases e : i + j = N - 1
    · rw [if_pos ⟨e, by omega⟩, L_getD _ (by omega), Zm.mk_val]
      show _ = 0 + (f.c i).c (N - 1 - i)
      rw [CR.zero_add, show N - 1 - i = j by omega]
    · rw [if_neg (by omega), h i j (by omega)]; rfl
theorem turn_iff {f : PS (PS (Zm m))} {N : Nat} (hN : 2 ≤ N) (hl : ∀ i j, i + j < N - 1 → (f.c i).c j = 0) : Tb N f = Tb N (pl fun i j => (f.c j).c i) ↔ ∀ i, i ≤ N - 1 → tpc f (N - 1) i = tpc f (N - 1) (N - 1 - i) := by
  constructor
  · intro h i hi
    have := Tb_inj h i (N - 1 - i) (by omega)
    rw [pl_c] at this
    unfold tpc
    rw [this, show N - 1 - (N - 1 - i) = i by omega]
  · intro h
    refine Tb_congr (fun i j hij => ?_)
    rw [pl_c]
    by_cases e : i + j = N - 1
    · have := h i (by omega)
      unfold tpc at this
      rw [show N - 1 - (N - 1 - i) = i by omega, show N - 1 - i = j by omega] at this
      exact this
    · rw [hl i j (by omega), hl j i (by omega)]
theorem c_IsCocycle1 (x : Int) : PureCall Tryz.prog 287 [dint x] (dbool (decide (x ≠ 0))) := by
  refine pure_of_vc Tryz.tabOk mixOrd Tryz.func287 rfl rfl ?_
  conv => whnf
  repeat' first | ((first | refine z0 ?_ | (refine And.intro (fun h => ?_) (fun h => ?_) <;> (try simp only [cnt1, ints_length] at h)) | refine zS ?_ | refine zV ?_ | (apply zI; refine zP vObt ?_) | (apply zI; refine zP vObx ?_) | refine zA ?_ | refine Alt.fst ?_ | refine Or.inl ?_) <;> conv => whnf) | fail
  all_goals (refine dbool_congr ?_; first | rfl | (simp_all []; done) | (simp_all []; omega) | (simp_all []; intros; omega))
end Go.Proofs

