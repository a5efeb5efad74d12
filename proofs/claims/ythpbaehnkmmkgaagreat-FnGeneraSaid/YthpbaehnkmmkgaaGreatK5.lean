/- Genera: products and lists of values on projective spaces. -/
import Derived.Test.YthpbaehnkmmkgaaGreatK4
namespace Go.Proofs
open Go Go.Vm Go.Fg Go.Fg.PS
set_option maxRecDepth 100000
set_option maxHeartbeats 4000000
set_option linter.unusedSimpArgs false
set_option linter.unusedVariables false

def projS {m : Int} (a : PS (Zm m)) : PS (Zm m) := ⟨fun k => (pw a (k + 1)).c k⟩
def gp {m : Int} (a : PS (Zm m)) (t : List Int) : Nat → Zm m
  | 0 => 1
  | i + 1 => gp a t i * (projS a).c (t.getD i 0).toNat
theorem gp_succ {m : Int} (a : PS (Zm m)) (t : List Int) (i : Nat) : gp a t (i + 1) = gp a t i * (projS a).c (t.getD i 0).toNat := rfl
def allIn (n : Nat) (t : List Int) : Bool := t.all fun x => inB x 0 ((n : Int) - 1)
theorem allIn_of {n : Nat} {t : List Int} (h : ∀ j, j < t.length → inB (t.getD j 0) 0 ((n : Int) - 1) = true) : allIn n t = true := by
  refine List.all_eq_true.2 (fun x hx => ?_)
  obtain ⟨i, hi, rfl⟩ := List.getElem_of_mem hx
  have := h i hi
  simpa [hi] using this
theorem allIn_at {n : Nat} {t : List Int} (h : allIn n t = true) {j : Nat} (hj : j < t.length) : inB (t.getD j 0) 0 ((n : Int) - 1) = true := by
  have := List.all_eq_true.1 h t[j] (List.getElem_mem hj)
  simpa [hj] using this
theorem allIn_not {n : Nat} {t : List Int} {i : Nat} (hi : i < t.length) (h : inB (t.getD i 0) 0 ((n : Int) - 1) = false) : allIn n t = false := by
  cases e : allIn n t with
  | false => rfl
  | true => rw [allIn_at e hi] at h; cases h
def listB (n : Nat) (t : List Int) : Bool := decide (t.length ≤ 10) && allIn n t

theorem c_projI (o : Bool) (m : Int) (l : List Int) (hc : charB m l = true) (x : Int) (hx : inB x 0 ((l.length : Int) - 1) = true) : PureCall Tryz.prog 159 [.agg [dint m, .list o 1 (ints l)], dint x] (dint ((projS (rd m l)).c x.toNat).val) := by
  have hs := charB_ser hc
  have hlen := serB_len hs
  simp only [inB, decide_eq_true_eq] at hx
  have key := c_projective (serB_md hs) o l.length (by omega) (rd m l) x.toNat (by omega)
  rw [serD_of hs, show ((x.toNat : Nat) : Int) = x by omega] at key
  exact key
theorem c_l19ProjI (o : Bool) (m : Int) (l : List Int) (hc : charB m l = true) (x : Int) (hx : inB x 0 ((l.length : Int) - 1) = true) : PureCall Tryz.prog 204 [.agg [dint m, .list o 1 (ints l)], dint x] (dint ((projS (rd m l)).c x.toNat).val) := by
  have hs := charB_ser hc
  have hlen := serB_len hs
  simp only [inB, decide_eq_true_eq] at hx
  have key := c_l19Projective (serB_md hs) o l.length (by omega) (rd m l) x.toNat (by omega)
  rw [serD_of hs, show ((x.toNat : Nat) : Int) = x by omega] at key
  exact key
theorem inB_nat {i n : Nat} (h : i < n) : inB (i : Int) 0 ((n : Int) - 1) = true := by simp [inB]; omega
theorem c_implProductOfGenera1 (o o' : Bool) (m : Int) (l t : List Int) (hl : l.length ≤ 1048576) (ht : t.length ≤ 1048576) : PureCall Tryz.prog 202 [.cptr [.list o' 1 (ints t)] 0, .cptr [dint m, .list o 1 (ints l)] 0] (dbool (listB l.length t)) := by
  refine pure_of_vc Tryz.tabOk mixOrd Tryz.func202 rfl rfl ?_
  conv => whnf
  repeat' first | ((first | refine z0 ?_ | (apply zI; refine zP (c_allC 182 m o l (fun x => inB x 0 ((l.length : Int) - 1)) (fun x => c_isDimension _ _ _ hl _) _ t ht) ?_) | (refine And.intro (fun h => ?_) (fun h => ?_) <;> (try simp only [cnt1, ints_length] at h)) | refine zS ?_ | refine zV ?_ | (apply zI; refine zP vObx ?_) | refine Alt.fst ?_ | refine Or.inl ?_) <;> conv => whnf) | fail
  all_goals (refine dbool_congr ?_; simp_all [listB, allIn])
  all_goals (intros; omega)
theorem c_implProductOfGenera (o o' : Bool) (m : Int) (l t : List Int) (hl : l.length ≤ 1048576) (ht : t.length ≤ 1048576) : PureCall Tryz.prog 33 [.agg [dint m, .list o 1 (ints l)], .list o' 1 (ints t)]
    (.tup [dint (if dimCode m l (listB l.length t) = 0 then (gp (rd m l) t t.length).val else 0), dint (dimCode m l (listB l.length t))]) := by
  refine pure_of_vc Tryz.tabOk mixOrd Tryz.func33 rfl rfl ?_
  conv => whnf
  repeat' first | ((first | refine z0 ?_ | (apply zI; refine zP (c_generic2 _ _ _ _ (c_implProductOfGenera1 _ _ _ _ _ hl ht) _ _ _ hl) ?_) | (refine And.intro (fun h => ?_) (fun h => ?_) <;> (try simp only [cnt1, ints_length] at h)) | refine zS ?_ | refine zV ?_ | (apply zI; refine zP vObx ?_) | refine Alt.fst ?_ | refine Or.inl ?_) <;> conv => whnf) | fail
  · rw [if_neg h]
  · have h0 := Classical.not_not.1 h
    obtain ⟨hc, hb⟩ := dimCode_0 h0
    have hs := charB_ser hc
    have hm := serB_md hs
    have hm1 := hm.1
    have hm2 := hm.2
    have hlen := serB_len hs
    simp only [listB, Bool.and_eq_true, decide_eq_true_eq] at hb
    refine loop_at Tryz.tabOk mixOrd (α := Nat) (fun i => [(17, dint t.length), (18, dint i), (7, dint (gp (rd m l) t i).val)]) (fun i => []) (fun i => i ≤ t.length) (fun i => t.length - i) (0) ?_ ?_ ?_
    · omega
    · conv => whnf
      first | refine WeakS.auto ?_ | refine Weak.auto ?_
      conv => whnf
      repeat' ((first | refine z1 ?_ | refine z2 ?_ | refine zV ?_ | refine And.intro vRepl ?_ | refine And.intro vReplL ?_ | refine And.intro ?_ ?_ | exact trivial) <;> try (conv => whnf))
      exact (Zm.val_one (by have := hm.1; omega)).symm
    intro i hi
    conv => whnf
    repeat' first | ((first | refine z0 ?_ | (apply zI; refine zP (c_projI _ _ _ hc _ (allIn_at hb.2 vAr)) ?_) | (refine And.intro (fun h => ?_) (fun h => ?_) <;> (try simp only [cnt1, ints_length] at h)) | refine zS ?_ | refine zV ?_ | (apply zI; refine zP vObx ?_) | refine Alt.fst ?_ | refine Or.inl ?_) <;> conv => whnf) | fail
    · refine Exists.intro (i + 1) (And.intro (by omega) (And.intro (by omega) ?_))
      first | refine WeakS.auto ?_ | refine Weak.auto ?_
      conv => whnf
      repeat' ((first | refine z1 ?_ | refine z2 ?_ | refine zV ?_ | refine And.intro vRepl ?_ | refine And.intro vReplL ?_ | refine And.intro ?_ ?_ | exact trivial) <;> try (conv => whnf))
      rw [tm_mul hm, gp_succ]
    · have e : i = t.length := by omega
      subst e
      rw [h0, if_pos rfl]
theorem c_specProductOfGenera (o o' : Bool) (m : Int) (l t : List Int) (hl : l.length ≤ 1048576) (ht : t.length ≤ 1048576) : PureCall Tryz.prog 34 [.agg [dint m, .list o 1 (ints l)], .list o' 1 (ints t)]
    (.tup [dint (if dimCode m l (listB l.length t) = 0 then (gp (rd m l) t t.length).val else 0), dint (dimCode m l (listB l.length t))]) := by
  refine pure_of_vc Tryz.tabOk mixOrd Tryz.func34 rfl rfl ?_
  conv => whnf
  repeat' first | ((first | refine z0 ?_ | (apply zI; refine zP (c_l19Is _ _ _ hl) ?_) | (refine And.intro (fun h => ?_) (fun h => ?_) <;> (try simp only [cnt1, ints_length] at h)) | refine zS ?_ | refine zV ?_ | (apply zI; refine zP vObx ?_) | refine Alt.fst ?_ | refine Or.inl ?_) <;> conv => whnf) | fail
  · have : listB l.length t = false := by simp [listB]; omega
    have hc : charB m l = true := by assumption
    simp [dimCode, hc, this]
  · have hc : charB m l = true := by assumption
    have hs := charB_ser hc
    have hm := serB_md hs
    have hm1 := hm.1
    have hm2 := hm.2
    have hlen := serB_len hs
    refine loop_at Tryz.tabOk mixOrd (α := Nat) (fun i => [(6, dint (gp (rd m l) t i).val), (7, dint i)]) (fun i => []) (fun i => i ≤ t.length ∧ ∀ j, j < i → inB (t.getD j 0) 0 ((l.length : Int) - 1) = true) (fun i => t.length - i) (0) ?_ ?_ ?_
    · exact ⟨by omega, by omega⟩
    · conv => whnf
      first | refine WeakS.auto ?_ | refine Weak.auto ?_
      conv => whnf
      repeat' ((first | refine z1 ?_ | refine z2 ?_ | refine zV ?_ | refine And.intro vRepl ?_ | refine And.intro vReplL ?_ | refine And.intro ?_ ?_ | exact trivial) <;> try (conv => whnf))
      exact (Zm.val_one (by have := hm.1; omega)).symm
    intro i hi
    conv => whnf
    have hr : i < t.length → PureCall Tryz.prog 204 [.agg [dint m, .list o 1 (ints l)], dint (t.getD i 0)] (dint ((projS (rd m l)).c (t.getD i 0).toNat).val) ∨ inB (t.getD i 0) 0 ((l.length : Int) - 1) = false := fun _ => by
      cases e : inB (t.getD i 0) 0 ((l.length : Int) - 1) with
      | true => exact .inl (c_l19ProjI _ _ _ hc _ e)
      | false => exact .inr rfl
    repeat' first | ((first | refine z0 ?_ | (apply zI; refine zP (c_l02Degree _ _ _ hl) ?_) | (apply zI; refine zP (c_l01In _ _ _) ?_) | (apply zI; refine zP (c_l19ProjI _ _ _ hc _ (by assumption)) ?_) | (refine And.intro (fun h => ?_) (fun h => ?_) <;> (try simp only [cnt1, ints_length] at h)) | refine zS ?_ | refine zV ?_ | (apply zI; refine zP vObx ?_) | refine Alt.fst ?_ | refine Or.inl ?_) <;> conv => whnf) | fail
    · refine Exists.intro (i + 1) (And.intro ⟨by omega, lt_cases hi.2 (by assumption)⟩ (And.intro (by omega) ?_))
      first | refine WeakS.auto ?_ | refine Weak.auto ?_
      conv => whnf
      repeat' ((first | refine z1 ?_ | refine z2 ?_ | refine zV ?_ | refine And.intro vRepl ?_ | refine And.intro vReplL ?_ | refine And.intro ?_ ?_ | exact trivial) <;> try (conv => whnf))
      rw [tm_mul hm, gp_succ]
    · have : listB l.length t = false := by simp only [listB, Bool.and_eq_false_iff]; exact .inr (allIn_not (i := i) (by omega) (by assumption))
      simp [dimCode, hc, this]
    · have e : i = t.length := by omega
      have : listB l.length t = true := by simp only [listB, Bool.and_eq_true, decide_eq_true_eq]; exact ⟨by omega, allIn_of (fun j hj => hi.2 j (by omega))⟩
      subst e
      simp [dimCode, hc, this]
  · have hc : charB m l = false := h
    simp [dimCode, hc]
theorem c_implProjectiveGenera (o : Bool) (m : Int) (l : List Int) (hl : l.length ≤ 1048576) (hc : charB m l = true) : PureCall Tryz.prog 15 [.agg [dint m, .list o 1 (ints l)]]
    (.tup [.list true 1 (ints (L l.length (projS (rd m l)))), dint 0]) := by
  have hs := charB_ser hc
  have hm := serB_md hs
  have hm1 := hm.1
  have hm2 := hm.2
  have hlen := serB_len hs
  refine pure_of_vc Tryz.tabOk mixOrd Tryz.func15 rfl rfl ?_
  conv => whnf
  repeat' first | ((first | refine z0 ?_ | (apply zI; refine zP (c_IsCharacteristic _ _ _ hl) ?_) | (refine And.intro (fun h => ?_) (fun h => ?_) <;> (try simp only [cnt1, ints_length] at h)) | refine zS ?_ | refine zV ?_ | (apply zI; refine zP vObx ?_) | refine Alt.fst ?_ | refine Or.inl ?_) <;> conv => whnf) | fail
  · refine loop_at Tryz.tabOk mixOrd (α := Nat) (fun i => [(12, dint l.length), (13, dint i), (4, .ref 2 [] 1 0 i), (9, .undef)]) (fun i => [(2, some ⟨false, 1, ints (L i (projS (rd m l)))⟩)]) (fun i => i ≤ l.length) (fun i => l.length - i) (0) ?_ ?_ ?_
    · omega
    · conv => whnf
      first | refine WeakS.auto ?_ | refine Weak.auto ?_
      conv => whnf
      repeat' ((first | refine z1 ?_ | refine z2 ?_ | refine zV ?_ | refine And.intro vRepl ?_ | refine And.intro vReplL ?_ | refine And.intro ?_ ?_ | exact trivial) <;> try (conv => whnf))
    intro i hi
    conv => whnf
    repeat' first | ((first | refine z0 ?_ | (apply zI; refine zP (c_projI _ _ _ hc _ (inB_nat (by omega))) ?_) | (refine And.intro (fun h => ?_) (fun h => ?_) <;> (try simp only [cnt1, ints_length] at h)) | refine zS ?_ | refine zV ?_ | (apply zI; refine zP vObx ?_) | refine Alt.fst ?_ | refine Or.inl ?_) <;> conv => whnf) | fail
    · refine Exists.intro (i + 1) (And.intro (by omega) (And.intro (by omega) ?_))
      first | refine WeakS.auto ?_ | refine Weak.auto ?_
      conv => whnf
      repeat' ((first | refine z1 ?_ | refine z2 ?_ | refine zV ?_ | refine And.intro vRepl ?_ | refine And.intro vReplL ?_ | refine And.intro ?_ ?_ | exact trivial) <;> try (conv => whnf))
      exact ints_congr' (L_push rfl)
    · rw [show i = l.length by omega]
  · exact absurd (hc.symm.trans h) (by simp)
theorem c_l19Projectives (o : Bool) (m : Int) (l : List Int) (hl : l.length ≤ 1048576) (hc : charB m l = true) : PureCall Tryz.prog 161 [.agg [dint m, .list o 1 (ints l)]]
    (.list true 1 (ints (L l.length (projS (rd m l))))) := by
  have hs := charB_ser hc
  have hm := serB_md hs
  have hm1 := hm.1
  have hm2 := hm.2
  have hlen := serB_len hs
  refine pure_of_vc Tryz.tabOk mixOrd Tryz.func161 rfl rfl ?_
  conv => whnf
  repeat' first | ((first | refine z0 ?_ | (refine And.intro (fun h => ?_) (fun h => ?_) <;> (try simp only [cnt1, ints_length] at h)) | refine zS ?_ | refine zV ?_ | (apply zI; refine zP vObx ?_) | refine Alt.fst ?_ | refine Or.inl ?_) <;> conv => whnf) | fail
  refine loop_at Tryz.tabOk mixOrd (α := Nat) (fun i => [(4, dint i), (3, .ref 1 [] 1 0 i), (5, .undef)]) (fun i => [(1, some ⟨false, 1, ints (L i (projS (rd m l)))⟩)]) (fun i => i ≤ l.length) (fun i => l.length - i) (0) ?_ ?_ ?_
  · omega
  · conv => whnf
    first | refine WeakS.auto ?_ | refine Weak.auto ?_
    conv => whnf
    repeat' ((first | refine z1 ?_ | refine z2 ?_ | refine zV ?_ | refine And.intro vRepl ?_ | refine And.intro vReplL ?_ | refine And.intro ?_ ?_ | exact trivial) <;> try (conv => whnf))
  intro i hi
  conv => whnf
  repeat' first | ((first | refine z0 ?_ | (apply zI; refine zP (c_l02Degree _ _ _ hl) ?_) | (apply zI; refine zP (c_l19ProjI _ _ _ hc _ (inB_nat (by omega))) ?_) | (refine And.intro (fun h => ?_) (fun h => ?_) <;> (try simp only [cnt1, ints_length] at h)) | refine zS ?_ | refine zV ?_ | (apply zI; refine zP vObx ?_) | refine Alt.fst ?_ | refine Or.inl ?_) <;> conv => whnf) | fail
  · refine Exists.intro (i + 1) (And.intro (by omega) (And.intro (by omega) ?_))
    first | refine WeakS.auto ?_ | refine Weak.auto ?_
    conv => whnf
    repeat' ((first | refine z1 ?_ | refine z2 ?_ | refine zV ?_ | refine And.intro vRepl ?_ | refine And.intro vReplL ?_ | refine And.intro ?_ ?_ | exact trivial) <;> try (conv => whnf))
    exact ints_congr' (L_push rfl)
  · rw [show i = l.length by omega]
theorem c_specProjectiveGenera (o : Bool) (m : Int) (l : List Int) (hl : l.length ≤ 1048576) (hc : charB m l = true) : PureCall Tryz.prog 16 [.agg [dint m, .list o 1 (ints l)]]
    (.tup [.list true 1 (ints (L l.length (projS (rd m l)))), dint 0]) := by
  have hs := charB_ser hc
  have hm := serB_md hs
  have hm1 := hm.1
  have hm2 := hm.2
  have hlen := serB_len hs
  refine pure_of_vc Tryz.tabOk mixOrd Tryz.func16 rfl rfl ?_
  conv => whnf
  repeat' first | ((first | refine z0 ?_ | (apply zI; refine zP (c_l19Is _ _ _ hl) ?_) | (apply zI; refine zP (c_l19Projectives _ _ _ hl hc) ?_) | (refine And.intro (fun h => ?_) (fun h => ?_) <;> (try simp only [cnt1, ints_length] at h)) | refine zS ?_ | refine zV ?_ | (apply zI; refine zP vObx ?_) | refine Alt.fst ?_ | refine Or.inl ?_) <;> conv => whnf) | fail
  exact absurd (hc.symm.trans h) (by simp)
theorem c_implProjectiveGenera' (o : Bool) (m : Int) (l : List Int) (hl : l.length ≤ 1048576) (hc : charB m l = false) : PureCall Tryz.prog 15 [.agg [dint m, .list o 1 (ints l)]]
    (.tup [.lit (.slice none 0 0), dint 1]) := by
  refine pure_of_vc Tryz.tabOk mixOrd Tryz.func15 rfl rfl ?_
  conv => whnf
  repeat' first | ((first | refine z0 ?_ | (apply zI; refine zP (c_IsCharacteristic _ _ _ hl) ?_) | (refine And.intro (fun h => ?_) (fun h => ?_) <;> (try simp only [cnt1, ints_length] at h)) | refine zS ?_ | refine zV ?_ | (apply zI; refine zP vObx ?_) | refine Alt.fst ?_ | refine Or.inl ?_) <;> conv => whnf) | fail
  exact absurd (hc.symm.trans h) (by simp)
theorem c_specProjectiveGenera' (o : Bool) (m : Int) (l : List Int) (hl : l.length ≤ 1048576) (hc : charB m l = false) : PureCall Tryz.prog 16 [.agg [dint m, .list o 1 (ints l)]]
    (.tup [.lit (.slice none 0 0), dint 1]) := by
  refine pure_of_vc Tryz.tabOk mixOrd Tryz.func16 rfl rfl ?_
  conv => whnf
  repeat' first | ((first | refine z0 ?_ | (apply zI; refine zP (c_l19Is _ _ _ hl) ?_) | (refine And.intro (fun h => ?_) (fun h => ?_) <;> (try simp only [cnt1, ints_length] at h)) | refine zS ?_ | refine zV ?_ | (apply zI; refine zP vObx ?_) | refine Alt.fst ?_ | refine Or.inl ?_) <;> conv => whnf) | fail
  exact absurd (hc.symm.trans h) (by simp)
end Go.Proofs

