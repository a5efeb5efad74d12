/- Grouplike and primitive elements: the reference. -/
-- tables
-- rec
import Derived.Test.YtmnphhjljlbfmaaGreatK116
import Derived.Test.YtmnphhjljlbfmaaGreatK115
namespace Go.Proofs
open Go Go.Vm Go.Fg Go.Fg.PS
set_option maxRecDepth 100000
set_option maxHeartbeats 4000000
set_option linter.unusedSimpArgs false
set_option linter.unusedVariables false
variable {m : Int}
noncomputable def fndG {m : Int} (gl : Bool) (p q : Nat) (f : PS (PS (Zm m))) (N : Nat) : List (List Int) := ((List.range N).map fun k => (hdG gl : Int) :: dig p (q - 1) k).filter (tbG gl q f)
theorem fndG_succ (gl : Bool) (p q : Nat) (f : PS (PS (Zm m))) (N : Nat) : fndG gl p q f (N + 1) = fndG gl p q f N ++ (if tbG gl q f ((hdG gl : Int) :: dig p (q - 1) N) then [(hdG gl : Int) :: dig p (q - 1) N] else []) := by
  simp only [fndG, List.range_succ, List.map_append, List.filter_append, List.map_cons, List.map_nil]
  congr 1
  by_cases h : tbG gl q f ((hdG gl : Int) :: dig p (q - 1) N) <;> simp [h]
theorem fndG_len (gl : Bool) (p q : Nat) (f : PS (PS (Zm m))) (N : Nat) : (fndG gl p q f N).length ≤ N := by
  refine Nat.le_trans (List.length_filter_le _ _) ?_
  simp
theorem fndG_end {p q : Nat} (hp : 2 ≤ p) (hq : 1 ≤ q) (gl : Bool) (f : PS (PS (Zm m))) : ext p (goodG gl q f) q [] = fndG gl p q f (p ^ (q - 1)) := by
  obtain ⟨k, rfl⟩ : ∃ k, q = k + 1 := ⟨q - 1, by omega⟩
  refine ext_head (h := hdG gl) (by omega) (by unfold hdG; split <;> omega) _ (tbG gl (k + 1) f) k (fun u hu => rfl)
def fitR (F G : PS (PS (Zm m))) (q i j : Nat) : Prop := ∀ a b, a < q → b < q → (a < i ∨ (a = i ∧ b < j)) → ((F.c a).c b).val = ((G.c a).c b).val
theorem fit_all {F G : PS (PS (Zm m))} {q : Nat} : sqT q F = sqT q G ↔ fitR F G q q 0 := by
  constructor
  · intro h a b ha hb _
    have h1 : L q (F.c a) = L q (G.c a) := by rw [← sqT_getD F ha, h, sqT_getD G ha]
    have h2 := congrArg (fun l : List Int => l.getD b 0) h1
    simp only [L_getD _ hb] at h2
    exact h2
  · intro h
    exact sqT_congr (fun a b ha hb => Zm.val_inj (h a b ha hb (.inl ha)))
theorem dg_sz (p q n : Nat) : (0 + (q - 1)) * 1 ≤ (ints (dig p (q - 1) n)).length := by simp
theorem lq_sz (q : Nat) (a : PS (Zm m)) (hq : 1 ≤ q) : (0 + (1 + (q - 1))) * 1 ≤ (ints (L q a)).length := by simp; omega
theorem le_of_eq_len (q : Nat) (a : PS (Zm m)) {l : List D} (h : l.length = (ints (L q a)).length) (hq : 1 ≤ q := by omega) : (0 + (1 + (q - 1))) * 1 ≤ l.length := by rw [h]; exact lq_sz q a hq
theorem fit_zero (F G : PS (PS (Zm m))) (q : Nat) : fitR F G q 0 0 := fun a b _ _ h => by omega
theorem fit_step {F G : PS (PS (Zm m))} {q i j : Nat} (hi : i < q) (hj : j < q) : fitR F G q i (j + 1) ↔ fitR F G q i j ∧ ((F.c i).c j).val = ((G.c i).c j).val := by
  constructor
  · exact fun h => ⟨fun a b ha hb e => h a b ha hb (by omega), h i j hi hj (by omega)⟩
  · rintro ⟨h1, h2⟩ a b ha hb e
    by_cases e2 : a = i ∧ b = j
    · obtain ⟨rfl, rfl⟩ := e2; exact h2
    · exact h1 a b ha hb (by omega)
theorem fit_row {F G : PS (PS (Zm m))} {q i : Nat} : fitR F G q i q ↔ fitR F G q (i + 1) 0 :=
  ⟨fun h a b ha hb e => h a b ha hb (by omega), fun h a b ha hb e => h a b ha hb (by omega)⟩
theorem fit_mono {F G : PS (PS (Zm m))} {q i j i' j' : Nat} (e : i < i' ∨ (i = i' ∧ j ≤ j')) (h : fitR F G q i' j') : fitR F G q i j := fun a b ha hb e2 => h a b ha hb (by omega)
theorem sub_L (q : Nat) (a : PS (Zm m)) (hq : 1 ≤ q) : sub (ints (L q a)) 1 0 (1 + (q - 1)) = ints (L q a) := by
  unfold sub; rw [show 0 * 1 = 0 from rfl, List.drop_zero, List.take_of_length_le (by simp; omega)]
theorem due_val (a : PS (Zm m)) (i j : Nat) : (((dueT false a).c i).c j).val = if j = 0 then (a.c i).val else if i = 0 then (a.c j).val else 0 := by
  show (if j = 0 then a.c i else if i = 0 then a.c j else 0 : Zm m).val = _
  split
  · rfl
  · split <;> rfl
theorem c_l17SearchG (p q N : Nat) (hp : 2 ≤ p ∧ p ≤ 7) (hm : Md (p : Int)) (hq : 2 ≤ q ∧ 2 * (q - 1) + 1 ≤ N ∧ N ≤ 11) (hpq : p ^ q ≤ 1000000) (o o1 : Bool) (f : PS (PS (Zm (p : Int)))) {Q : Int} (hQ : Q = q) :
    PureCall Tryz.prog 33 [PlD p o o1 N f, dint Q, dbool true] (.list true 1 (rows true (ext p (goodG true q f) q []))) := by
  subst hQ
  have hP : 0 < p ^ (q - 1) := Nat.pow_pos (by omega)
  have hPb : p ^ (q - 1) ≤ 1000000 := Nat.le_trans (Nat.pow_le_pow_right (by omega) (by omega)) hpq
  have kpw := c_l17Powers hm o o1 N q ⟨by omega, by omega, by omega⟩ f (rfl : (q : Int) = q)
  rw [fndG_end (by omega) (by omega)]
  refine pure_of_vcR Tryz.tabOk mixOrd Tryz.func33 rfl rfl ?_
  conv => whnf
  repeat' first | ((first | refine And.intro (Or.inl rfl) ?_ | (apply Exists.intro; refine And.intro (kpw) ?_) | (refine And.intro (fun h => ?_) (fun h => ?_) <;> (try simp only [cnt1, ints_length] at h) <;> first | (exfalso; omega) | skip) | refine And.intro (show slotsOk _ = true by decide +kernel) ?_ | refine And.intro vOb ?_ | (apply Exists.intro; refine And.intro vObt ?_) | (apply Exists.intro; refine And.intro vObx ?_) | refine And.intro vArT ?_ | refine Or.inl ?_) <;> conv => whnf) | fail
  refine loop_atR Tryz.tabOk mixOrd (α := Nat) (fun n => [(8, .ref 2 [] 1 0 (fndG true p q f n).length), (20, .undef)]) (fun n => [(2, some ⟨false, 1, rows true (fndG true p q f n)⟩), (3, some ⟨false, 1, ints (dig p (q - 1) n)⟩)]) (fun n => n < p ^ (q - 1)) (fun n => p ^ (q - 1) - n) (0) ?_ ?_ ?_
  · exact hP
  · conv => whnf
    first | refine WeakS.autoR ?_ | refine Weak.autoR ?_
    conv => whnf
    repeat' ((first | exact trivial | refine And.intro rfl ?_ | refine And.intro (eqV_int vAr) ?_ | refine And.intro vOb ?_ | refine And.intro vRepl ?_ | refine And.intro vReplL ?_ | refine And.intro ?_ ?_) <;> try (conv => whnf))
    all_goals rw [dig_zero]
  intro n hn
  have hfl := fndG_len true p q f n
  have hdr := dig_range (p := p) (by omega) (q - 1) n hn
  conv => whnf
  have hlu : (hdG true : Int) :: dig p (q - 1) n = L q (rd (p : Int) ((hdG true : Int) :: dig p (q - 1) n)) := by
    have h1 : ((hdG true : Int) :: dig p (q - 1) n).length = q := by simp; omega
    have h2 : Nums (p : Int) ((hdG true : Int) :: dig p (q - 1) n) := fun x hx => by
      rcases List.mem_cons.1 hx with rfl | hx
      · simp [hdG]; omega
      · exact hdr x hx
    have h3 := L_rd h2
    rw [h1] at h3
    exact h3.symm
  have hS := fndG_succ true p q f n
  have hT : tbG true q f ((hdG true : Int) :: dig p (q - 1) n) = true ↔ fitR (comp2N (rd (p : Int) ((hdG true : Int) :: dig p (q - 1) n)) f 0 q) (dueT true (rd (p : Int) ((hdG true : Int) :: dig p (q - 1) n))) q q 0 := by
    unfold tbG
    rw [decide_eq_true_iff]; exact fit_all
  generalize ha : rd (p : Int) ((hdG true : Int) :: dig p (q - 1) n) = a at *
  have eu : (Root.mk false 1 [D.lit (Value.int IntKind.i64 (hdG true))]).cs ++ ints (List.take (q - 1) (List.drop 0 (dig p (q - 1) n))) = ints (L q a) := by
    rw [← hlu, List.drop_zero, List.take_of_length_le (by simp)]; rfl
  repeat' first | ((exact absurd (by assumption : true = false) (by decide))) | ((first | refine And.intro (Or.inl rfl) ?_ | (refine And.intro (fun h => ?_) (fun h => ?_) <;> (try simp only [cnt1, ints_length] at h) <;> first | (exfalso; omega) | skip) | refine And.intro (show slotsOk _ = true by decide +kernel) ?_ | refine And.intro vOb ?_ | (apply Exists.intro; refine And.intro vObt ?_) | (apply Exists.intro; refine And.intro vObx ?_) | refine And.intro vArT ?_ | refine And.intro (dg_sz p q n) ?_ | refine Or.inl ?_) <;> conv => whnf) | fail
  refine And.intro (le_of_eq_len q a (congrArg List.length eu)) ?_
  rw [show (Root.mk false 1 [D.lit (Value.int IntKind.i64 1)]).cs ++ ints (List.take (q - 1) (List.drop 0 (dig p (q - 1) n))) = ints (L q a) from eu]
  conv => whnf
  have hel := c_l17Element hm q (by omega) false false f a
  rw [← sub_tbq (f := f) (k := q) (a := cnt 1 (tbq q f q)) (tbq_length q f q)] at hel
  repeat' first | ((exact absurd (by assumption : true = false) (by decide))) | ((first | refine And.intro (Or.inl rfl) ?_ | (apply Exists.intro; refine And.intro (hel) ?_) | (apply Exists.intro; refine And.intro (sub_L q a (by omega)) ?_) | (refine And.intro (fun h => ?_) (fun h => ?_) <;> (try simp only [cnt1, ints_length] at h) <;> first | (exfalso; omega) | skip) | refine And.intro (show slotsOk _ = true by decide +kernel) ?_ | refine And.intro vOb ?_ | (apply Exists.intro; refine And.intro vObt ?_) | (apply Exists.intro; refine And.intro vObx ?_) | refine And.intro vArT ?_ | refine And.intro (vQsz vDA) ?_ | refine And.intro (lq_sz q a (by omega)) ?_ | refine Or.inl ?_) <;> conv => whnf) | fail
  generalize hF : comp2N a f 0 q = F at *
  refine loop_atR Tryz.tabOk mixOrd (α := Nat × Bool) (fun x => [(14, dint x.1), (13, dbool x.2), (26, .undef)]) (fun x => []) (fun x => x.1 ≤ q ∧ (x.2 = true ↔ fitR F (dueT true a) q x.1 0)) (fun x => q - x.1) ((0, true)) ?_ ?_ ?_
  · exact ⟨by omega, by simp [fit_zero]⟩
  · conv => whnf
    first | refine WeakS.autoR ?_ | refine Weak.autoR ?_
    conv => whnf
    repeat' ((first | exact trivial | refine And.intro rfl ?_ | refine And.intro (eqV_int vAr) ?_ | refine And.intro vOb ?_ | refine And.intro vRepl ?_ | refine And.intro vReplL ?_ | refine And.intro ?_ ?_) <;> try (conv => whnf))
  intro x hx
  obtain ⟨i, good⟩ := x
  obtain ⟨hi, hg⟩ := hx
  simp only at hi hg
  conv => whnf
  by_cases hgo : i < q ∧ good = true
  · obtain ⟨hiq, rfl⟩ := hgo
    have hgi := hg.1 rfl
    repeat' first | ((exact absurd (by assumption : true = false) (by decide))) | ((first | refine And.intro (Or.inl rfl) ?_ | (refine And.intro (fun h => ?_) (fun h => ?_) <;> (try simp only [cnt1, ints_length] at h) <;> first | (exfalso; omega) | skip) | refine And.intro (show slotsOk _ = true by decide +kernel) ?_ | refine And.intro vOb ?_ | (apply Exists.intro; refine And.intro vObt ?_) | (apply Exists.intro; refine And.intro vObx ?_) | refine And.intro vArT ?_ | refine Or.inl ?_) <;> conv => whnf) | fail
    refine loop_atR Tryz.tabOk mixOrd (α := Nat × Bool) (fun x => [(15, dint x.1), (13, dbool x.2)]) (fun x => []) (fun x => x.1 ≤ q ∧ (x.2 = true ↔ fitR F (dueT true a) q i x.1)) (fun x => q - x.1) ((0, true)) ?_ ?_ ?_
    · exact ⟨by omega, by simp [hgi]⟩
    · conv => whnf
      first | refine WeakS.autoR ?_ | refine Weak.autoR ?_
      conv => whnf
      repeat' ((first | exact trivial | refine And.intro rfl ?_ | refine And.intro (eqV_int vAr) ?_ | refine And.intro vOb ?_ | refine And.intro vRepl ?_ | refine And.intro vReplL ?_ | refine And.intro ?_ ?_) <;> try (conv => whnf))
    intro x hx
    obtain ⟨j, good⟩ := x
    obtain ⟨hj, hg⟩ := hx
    simp only at hj hg
    conv => whnf
    by_cases hgo : j < q ∧ good = true
    · obtain ⟨hjq, rfl⟩ := hgo
      have hgj := hg.1 rfl
      have hst := fit_step (F := F) (G := dueT true a) hiq hjq
      have hdd : (((dueT true a).c i).c j).val = ((a.c i).val * (a.c j).val).tmod p := (tm_mul hm _ _).symm
      have x1 := hm.mul (a.c i) (a.c j)
      repeat' first | ((exact absurd (by assumption : true = false) (by decide))) | ((exact absurd (by assumption : false = true) (by decide))) | ((first | refine And.intro (Or.inl rfl) ?_ | (apply Exists.intro; refine And.intro (vSqL (i := i) vIx vDA) ?_) | (apply Exists.intro; refine And.intro (vSqLL (i := i) (j := j) vIx vIx vDA vDA) ?_) | (refine And.intro (fun h => ?_) (fun h => ?_) <;> (try simp only [cnt1, ints_length] at h) <;> first | (exfalso; omega) | skip) | refine And.intro (show slotsOk _ = true by decide +kernel) ?_ | refine And.intro vOb ?_ | (apply Exists.intro; refine And.intro vObt ?_) | (apply Exists.intro; refine And.intro vObx ?_) | refine And.intro vArT ?_ | refine And.intro (vDA) ?_ | refine Or.inl ?_) <;> conv => whnf) | fail
      all_goals first
        | (have he : ((F.c i).c j).val = (((dueT true a).c i).c j).val := by (rw [hdd]; assumption)
           refine Exists.intro (j + 1, true) (And.intro ⟨by simp only; omega, by rw [hst]; exact ⟨fun _ => ⟨hgj, he⟩, fun _ => rfl⟩⟩ (And.intro (by simp only; omega) ?_))
           (first | refine WeakS.autoR ?_ | refine Weak.autoR ?_); (conv => whnf); (repeat' ((first | exact trivial | refine And.intro rfl ?_ | refine And.intro (eqV_int vAr) ?_ | refine And.intro vOb ?_ | refine And.intro vRepl ?_ | refine And.intro vReplL ?_ | refine And.intro ?_ ?_) <;> try (conv => whnf)))
           done)
        | (have he : ¬ ((F.c i).c j).val = (((dueT true a).c i).c j).val := by (rw [hdd]; assumption)
           refine Exists.intro (j + 1, false) (And.intro ⟨by simp only; omega, by rw [hst]; exact ⟨fun h => absurd h Bool.false_ne_true, fun h => absurd h.2 he⟩⟩ (And.intro (by simp only; omega) ?_))
           (first | refine WeakS.autoR ?_ | refine Weak.autoR ?_); (conv => whnf); (repeat' ((first | exact trivial | refine And.intro rfl ?_ | refine And.intro (eqV_int vAr) ?_ | refine And.intro vOb ?_ | refine And.intro vRepl ?_ | refine And.intro vReplL ?_ | refine And.intro ?_ ?_) <;> try (conv => whnf)))
           done)
    · have hgn : good = true ↔ fitR F (dueT true a) q (i + 1) 0 := by
        by_cases hjq : j < q
        · have h1 : good = false := by
            cases good
            · rfl
            · exact absurd ⟨hjq, rfl⟩ hgo
          subst h1
          refine ⟨fun h => absurd h (by decide), fun h => hg.2 (fit_mono (.inl (by omega)) h)⟩
        · have h1 : j = q := by omega
          rw [hg, h1]; exact fit_row
      repeat' first | ((exact absurd ⟨by omega, by assumption⟩ hgo)) | ((first | refine And.intro (Or.inl rfl) ?_ | (refine And.intro (fun h => ?_) (fun h => ?_) <;> (try simp only [cnt1, ints_length] at h) <;> first | (exfalso; omega) | skip) | refine And.intro (show slotsOk _ = true by decide +kernel) ?_ | refine And.intro vOb ?_ | (apply Exists.intro; refine And.intro vObt ?_) | (apply Exists.intro; refine And.intro vObx ?_) | refine And.intro vArT ?_ | refine Or.inl ?_) <;> conv => whnf) | fail
      all_goals (refine Exists.intro (i + 1, good) (And.intro ⟨by omega, hgn⟩ (And.intro (by simp only; omega) ?_)))
      · first | refine WeakS.autoR ?_ | refine Weak.autoR ?_
        conv => whnf
        repeat' ((first | exact trivial | refine And.intro rfl ?_ | refine And.intro (eqV_int vAr) ?_ | refine And.intro vOb ?_ | refine And.intro vRepl ?_ | refine And.intro vReplL ?_ | refine And.intro ?_ ?_) <;> try (conv => whnf))
      · first | refine WeakS.autoR ?_ | refine Weak.autoR ?_
        conv => whnf
        repeat' ((first | exact trivial | refine And.intro rfl ?_ | refine And.intro (eqV_int vAr) ?_ | refine And.intro vOb ?_ | refine And.intro vRepl ?_ | refine And.intro vReplL ?_ | refine And.intro ?_ ?_) <;> try (conv => whnf))
  · have hgn : good = true ↔ fitR F (dueT true a) q q 0 := by
      by_cases hjq : i < q
      · have h1 : good = false := by
          cases good
          · rfl
          · exact absurd ⟨hjq, rfl⟩ hgo
        subst h1
        refine ⟨fun h => absurd h (by decide), fun h => hg.2 (fit_mono (.inl (by omega)) h)⟩
      · have h1 : i = q := by omega
        rw [hg, h1]
    rw [← hgn] at hT
    have hge : i < q → good = false := fun h => by
      cases good
      · rfl
      · exact absurd ⟨h, rfl⟩ hgo
    by_cases hlast : n + 1 < p ^ (q - 1)
    · have kS := c_l17NextS (p : Int) (by omega) (q - 1) (by omega) (dig p (q - 1) n) (dig p (q - 1) (n + 1)) (by simp) hdr (by rw [nx_dig (by omega) _ _ hn, if_pos hlast])
      cases good
      · have hS2 : fndG true p q f (n + 1) = fndG true p q f n := by rw [hS, if_neg (by rw [hT]; decide), List.append_nil]
        repeat' first | ((exact absurd (by assumption : true = false) (by decide))) | ((exact absurd (by assumption : false = true) (by decide))) | ((exact absurd (hge (by omega)) (by decide))) | (refine borD_of [3] (kS) (by decide) ?_ (by simp) ?_; (focus ((conv => whnf); (repeat' ((first | exact trivial | refine And.intro rfl ?_ | refine And.intro (eqV_int vAr) ?_ | refine And.intro vOb ?_) <;> (conv => whnf))); done)); conv => whnf) | ((first | refine And.intro (Or.inl rfl) ?_ | (refine And.intro (fun h => ?_) (fun h => ?_) <;> (try simp only [cnt1, ints_length] at h) <;> first | (exfalso; omega) | skip) | refine And.intro (show slotsOk _ = true by decide +kernel) ?_ | refine And.intro vOb ?_ | (apply Exists.intro; refine And.intro vObt ?_) | (apply Exists.intro; refine And.intro vObx ?_) | refine And.intro vArT ?_ | refine And.intro (dg_sz p q n) ?_ | refine Or.inl ?_) <;> conv => whnf) | fail
        all_goals refine Exists.intro (n + 1) (And.intro hlast (And.intro (by omega) ?_))
        · first | refine WeakS.autoR ?_ | refine Weak.autoR ?_
          conv => whnf
          repeat' ((first | exact trivial | refine And.intro rfl ?_ | refine And.intro (eqV_int vAr) ?_ | refine And.intro vOb ?_ | refine And.intro vRepl ?_ | refine And.intro vReplL ?_ | refine And.intro ?_ ?_) <;> try (conv => whnf))
          all_goals rw [hS2]
        · first | refine WeakS.autoR ?_ | refine Weak.autoR ?_
          conv => whnf
          repeat' ((first | exact trivial | refine And.intro rfl ?_ | refine And.intro (eqV_int vAr) ?_ | refine And.intro vOb ?_ | refine And.intro vRepl ?_ | refine And.intro vReplL ?_ | refine And.intro ?_ ?_) <;> try (conv => whnf))
          all_goals rw [hS2]
      · have hS2 : fndG true p q f (n + 1) = fndG true p q f n ++ [L q a] := by rw [hS, if_pos (by rw [hT]), hlu]
        repeat' first | ((exact absurd (by assumption : true = false) (by decide))) | ((exact absurd (by assumption : false = true) (by decide))) | ((exact absurd (hge (by omega)) (by decide))) | (refine borD_of [3] (kS) (by decide) ?_ (by simp) ?_; (focus ((conv => whnf); (repeat' ((first | exact trivial | refine And.intro rfl ?_ | refine And.intro (eqV_int vAr) ?_ | refine And.intro vOb ?_) <;> (conv => whnf))); done)); conv => whnf) | ((first | refine And.intro (Or.inl rfl) ?_ | (refine And.intro (fun h => ?_) (fun h => ?_) <;> (try simp only [cnt1, ints_length] at h) <;> first | (exfalso; omega) | skip) | refine And.intro (show slotsOk _ = true by decide +kernel) ?_ | refine And.intro vOb ?_ | (apply Exists.intro; refine And.intro vObt ?_) | (apply Exists.intro; refine And.intro vObx ?_) | refine And.intro vArT ?_ | refine And.intro (dg_sz p q n) ?_ | refine And.intro (one_lst _ _ _) ?_ | refine And.intro (rows_plain _) ?_ | refine Or.inl ?_) <;> conv => whnf) | fail
        refine Exists.intro (n + 1) (And.intro hlast (And.intro (by omega) ?_))
        first | refine WeakS.autoR ?_ | refine Weak.autoR ?_
        conv => whnf
        repeat' ((first | exact trivial | refine And.intro rfl ?_ | refine And.intro (eqV_int vAr) ?_ | refine And.intro vOb ?_ | refine And.intro vRepl ?_ | refine And.intro vReplL ?_ | refine And.intro ?_ ?_) <;> try (conv => whnf))
        all_goals first | (rw [hS2]; done) | (rw [hS2]; simp)
    · have hlast2 : n + 1 = p ^ (q - 1) := by omega
      have kN := c_l17NextN (p : Int) (by omega) (q - 1) (by omega) (dig p (q - 1) n) (by simp) hdr (by rw [nx_dig (by omega) _ _ hn, if_neg hlast])
      rw [← hlast2]
      cases good
      · have hS2 : fndG true p q f (n + 1) = fndG true p q f n := by rw [hS, if_neg (by rw [hT]; decide), List.append_nil]
        repeat' first | ((exact absurd (by assumption : true = false) (by decide))) | ((exact absurd (by assumption : false = true) (by decide))) | ((exact absurd (hge (by omega)) (by decide))) | (refine borD_of [3] (kN) (by decide) ?_ (by simp) ?_; (focus ((conv => whnf); (repeat' ((first | exact trivial | refine And.intro rfl ?_ | refine And.intro (eqV_int vAr) ?_ | refine And.intro vOb ?_) <;> (conv => whnf))); done)); conv => whnf) | ((first | refine And.intro (Or.inl rfl) ?_ | (refine And.intro (fun h => ?_) (fun h => ?_) <;> (try simp only [cnt1, ints_length] at h) <;> first | (exfalso; omega) | skip) | refine And.intro (show slotsOk _ = true by decide +kernel) ?_ | refine And.intro vOb ?_ | (apply Exists.intro; refine And.intro vObt ?_) | (apply Exists.intro; refine And.intro vObx ?_) | refine And.intro vArT ?_ | refine And.intro (dg_sz p q n) ?_ | refine Or.inl ?_) <;> conv => whnf) | fail
        all_goals rw [hS2]
      · have hS2 : fndG true p q f (n + 1) = fndG true p q f n ++ [L q a] := by rw [hS, if_pos (by rw [hT]), hlu]
        repeat' first | ((exact absurd (by assumption : true = false) (by decide))) | ((exact absurd (by assumption : false = true) (by decide))) | ((exact absurd (hge (by omega)) (by decide))) | (refine borD_of [3] (kN) (by decide) ?_ (by simp) ?_; (focus ((conv => whnf); (repeat' ((first | exact trivial | refine And.intro rfl ?_ | refine And.intro (eqV_int vAr) ?_ | refine And.intro vOb ?_) <;> (conv => whnf))); done)); conv => whnf) | ((first | refine And.intro (Or.inl rfl) ?_ | (refine And.intro (fun h => ?_) (fun h => ?_) <;> (try simp only [cnt1, ints_length] at h) <;> first | (exfalso; omega) | skip) | refine And.intro (show slotsOk _ = true by decide +kernel) ?_ | refine And.intro vOb ?_ | (apply Exists.intro; refine And.intro vObt ?_) | (apply Exists.intro; refine And.intro vObx ?_) | refine And.intro vArT ?_ | refine And.intro (dg_sz p q n) ?_ | refine And.intro (one_lst _ _ _) ?_ | refine And.intro (rows_plain _) ?_ | refine Or.inl ?_) <;> conv => whnf) | fail
        all_goals rw [hS2]
theorem c_l17SearchP (p q N : Nat) (hp : 2 ≤ p ∧ p ≤ 7) (hm : Md (p : Int)) (hq : 2 ≤ q ∧ 2 * (q - 1) + 1 ≤ N ∧ N ≤ 11) (hpq : p ^ q ≤ 1000000) (o o1 : Bool) (f : PS (PS (Zm (p : Int)))) {Q : Int} (hQ : Q = q) :
    PureCall Tryz.prog 33 [PlD p o o1 N f, dint Q, dbool false] (.list true 1 (rows true (ext p (goodG false q f) q []))) := by
  subst hQ
  have hP : 0 < p ^ (q - 1) := Nat.pow_pos (by omega)
  have hPb : p ^ (q - 1) ≤ 1000000 := Nat.le_trans (Nat.pow_le_pow_right (by omega) (by omega)) hpq
  have kpw := c_l17Powers hm o o1 N q ⟨by omega, by omega, by omega⟩ f (rfl : (q : Int) = q)
  rw [fndG_end (by omega) (by omega)]
  refine pure_of_vcR Tryz.tabOk mixOrd Tryz.func33 rfl rfl ?_
  conv => whnf
  repeat' first | ((first | refine And.intro (Or.inl rfl) ?_ | (apply Exists.intro; refine And.intro (kpw) ?_) | (refine And.intro (fun h => ?_) (fun h => ?_) <;> (try simp only [cnt1, ints_length] at h) <;> first | (exfalso; omega) | skip) | refine And.intro (show slotsOk _ = true by decide +kernel) ?_ | refine And.intro vOb ?_ | (apply Exists.intro; refine And.intro vObt ?_) | (apply Exists.intro; refine And.intro vObx ?_) | refine And.intro vArT ?_ | refine Or.inl ?_) <;> conv => whnf) | fail
  refine loop_atR Tryz.tabOk mixOrd (α := Nat) (fun n => [(8, .ref 2 [] 1 0 (fndG false p q f n).length), (20, .undef)]) (fun n => [(2, some ⟨false, 1, rows true (fndG false p q f n)⟩), (3, some ⟨false, 1, ints (dig p (q - 1) n)⟩)]) (fun n => n < p ^ (q - 1)) (fun n => p ^ (q - 1) - n) (0) ?_ ?_ ?_
  · exact hP
  · conv => whnf
    first | refine WeakS.autoR ?_ | refine Weak.autoR ?_
    conv => whnf
    repeat' ((first | exact trivial | refine And.intro rfl ?_ | refine And.intro (eqV_int vAr) ?_ | refine And.intro vOb ?_ | refine And.intro vRepl ?_ | refine And.intro vReplL ?_ | refine And.intro ?_ ?_) <;> try (conv => whnf))
    all_goals rw [dig_zero]
  intro n hn
  have hfl := fndG_len false p q f n
  have hdr := dig_range (p := p) (by omega) (q - 1) n hn
  conv => whnf
  have hlu : (hdG false : Int) :: dig p (q - 1) n = L q (rd (p : Int) ((hdG false : Int) :: dig p (q - 1) n)) := by
    have h1 : ((hdG false : Int) :: dig p (q - 1) n).length = q := by simp; omega
    have h2 : Nums (p : Int) ((hdG false : Int) :: dig p (q - 1) n) := fun x hx => by
      rcases List.mem_cons.1 hx with rfl | hx
      · simp [hdG]; omega
      · exact hdr x hx
    have h3 := L_rd h2
    rw [h1] at h3
    exact h3.symm
  have hS := fndG_succ false p q f n
  have hT : tbG false q f ((hdG false : Int) :: dig p (q - 1) n) = true ↔ fitR (comp2N (rd (p : Int) ((hdG false : Int) :: dig p (q - 1) n)) f 0 q) (dueT false (rd (p : Int) ((hdG false : Int) :: dig p (q - 1) n))) q q 0 := by
    unfold tbG
    rw [decide_eq_true_iff]; exact fit_all
  generalize ha : rd (p : Int) ((hdG false : Int) :: dig p (q - 1) n) = a at *
  have eu : (Root.mk false 1 [D.lit (Value.int IntKind.i64 (hdG false))]).cs ++ ints (List.take (q - 1) (List.drop 0 (dig p (q - 1) n))) = ints (L q a) := by
    rw [← hlu, List.drop_zero, List.take_of_length_le (by simp)]; rfl
  repeat' first | ((exact absurd (by assumption : false = true) (by decide))) | ((first | refine And.intro (Or.inl rfl) ?_ | (refine And.intro (fun h => ?_) (fun h => ?_) <;> (try simp only [cnt1, ints_length] at h) <;> first | (exfalso; omega) | skip) | refine And.intro (show slotsOk _ = true by decide +kernel) ?_ | refine And.intro vOb ?_ | (apply Exists.intro; refine And.intro vObt ?_) | (apply Exists.intro; refine And.intro vObx ?_) | refine And.intro vArT ?_ | refine And.intro (dg_sz p q n) ?_ | refine Or.inl ?_) <;> conv => whnf) | fail
  refine And.intro (le_of_eq_len q a (congrArg List.length eu)) ?_
  rw [show (Root.mk false 1 [D.lit (Value.int IntKind.i64 0)]).cs ++ ints (List.take (q - 1) (List.drop 0 (dig p (q - 1) n))) = ints (L q a) from eu]
  conv => whnf
  have hel := c_l17Element hm q (by omega) false false f a
  rw [← sub_tbq (f := f) (k := q) (a := cnt 1 (tbq q f q)) (tbq_length q f q)] at hel
  repeat' first | ((exact absurd (by assumption : false = true) (by decide))) | ((first | refine And.intro (Or.inl rfl) ?_ | (apply Exists.intro; refine And.intro (hel) ?_) | (apply Exists.intro; refine And.intro (sub_L q a (by omega)) ?_) | (refine And.intro (fun h => ?_) (fun h => ?_) <;> (try simp only [cnt1, ints_length] at h) <;> first | (exfalso; omega) | skip) | refine And.intro (show slotsOk _ = true by decide +kernel) ?_ | refine And.intro vOb ?_ | (apply Exists.intro; refine And.intro vObt ?_) | (apply Exists.intro; refine And.intro vObx ?_) | refine And.intro vArT ?_ | refine And.intro (vQsz vDA) ?_ | refine And.intro (lq_sz q a (by omega)) ?_ | refine Or.inl ?_) <;> conv => whnf) | fail
  generalize hF : comp2N a f 0 q = F at *
  refine loop_atR Tryz.tabOk mixOrd (α := Nat × Bool) (fun x => [(14, dint x.1), (13, dbool x.2), (26, .undef)]) (fun x => []) (fun x => x.1 ≤ q ∧ (x.2 = true ↔ fitR F (dueT false a) q x.1 0)) (fun x => q - x.1) ((0, true)) ?_ ?_ ?_
  · exact ⟨by omega, by simp [fit_zero]⟩
  · conv => whnf
    first | refine WeakS.autoR ?_ | refine Weak.autoR ?_
    conv => whnf
    repeat' ((first | exact trivial | refine And.intro rfl ?_ | refine And.intro (eqV_int vAr) ?_ | refine And.intro vOb ?_ | refine And.intro vRepl ?_ | refine And.intro vReplL ?_ | refine And.intro ?_ ?_) <;> try (conv => whnf))
  intro x hx
  obtain ⟨i, good⟩ := x
  obtain ⟨hi, hg⟩ := hx
  simp only at hi hg
  conv => whnf
  by_cases hgo : i < q ∧ good = true
  · obtain ⟨hiq, rfl⟩ := hgo
    have hgi := hg.1 rfl
    repeat' first | ((exact absurd (by assumption : true = false) (by decide))) | ((first | refine And.intro (Or.inl rfl) ?_ | (refine And.intro (fun h => ?_) (fun h => ?_) <;> (try simp only [cnt1, ints_length] at h) <;> first | (exfalso; omega) | skip) | refine And.intro (show slotsOk _ = true by decide +kernel) ?_ | refine And.intro vOb ?_ | (apply Exists.intro; refine And.intro vObt ?_) | (apply Exists.intro; refine And.intro vObx ?_) | refine And.intro vArT ?_ | refine Or.inl ?_) <;> conv => whnf) | fail
    refine loop_atR Tryz.tabOk mixOrd (α := Nat × Bool) (fun x => [(15, dint x.1), (13, dbool x.2)]) (fun x => []) (fun x => x.1 ≤ q ∧ (x.2 = true ↔ fitR F (dueT false a) q i x.1)) (fun x => q - x.1) ((0, true)) ?_ ?_ ?_
    · exact ⟨by omega, by simp [hgi]⟩
    · conv => whnf
      first | refine WeakS.autoR ?_ | refine Weak.autoR ?_
      conv => whnf
      repeat' ((first | exact trivial | refine And.intro rfl ?_ | refine And.intro (eqV_int vAr) ?_ | refine And.intro vOb ?_ | refine And.intro vRepl ?_ | refine And.intro vReplL ?_ | refine And.intro ?_ ?_) <;> try (conv => whnf))
    intro x hx
    obtain ⟨j, good⟩ := x
    obtain ⟨hj, hg⟩ := hx
    simp only at hj hg
    conv => whnf
    by_cases hgo : j < q ∧ good = true
    · obtain ⟨hjq, rfl⟩ := hgo
      have hgj := hg.1 rfl
      have hst := fit_step (F := F) (G := dueT false a) hiq hjq
      have hdd : (((dueT false a).c i).c j).val = (if j = 0 then (a.c i).val else if i = 0 then (a.c j).val else 0) := due_val a i j
      have x1 := hm.mul (a.c i) (a.c j)
      repeat' first | ((exact absurd (by assumption : true = false) (by decide))) | ((exact absurd (by assumption : false = true) (by decide))) | ((first | refine And.intro (Or.inl rfl) ?_ | (apply Exists.intro; refine And.intro (vSqL (i := i) vIx vDA) ?_) | (apply Exists.intro; refine And.intro (vSqLL (i := i) (j := j) vIx vIx vDA vDA) ?_) | (refine And.intro (fun h => ?_) (fun h => ?_) <;> (try simp only [cnt1, ints_length] at h) <;> first | (exfalso; omega) | skip) | refine And.intro (show slotsOk _ = true by decide +kernel) ?_ | refine And.intro vOb ?_ | (apply Exists.intro; refine And.intro vObt ?_) | (apply Exists.intro; refine And.intro vObx ?_) | refine And.intro vArT ?_ | refine And.intro (vDA) ?_ | refine Or.inl ?_) <;> conv => whnf) | fail
      all_goals first
        | (have he : ((F.c i).c j).val = (((dueT false a).c i).c j).val := by (rw [hdd]; simp_all)
           refine Exists.intro (j + 1, true) (And.intro ⟨by simp only; omega, by rw [hst]; exact ⟨fun _ => ⟨hgj, he⟩, fun _ => rfl⟩⟩ (And.intro (by simp only; omega) ?_))
           (first | refine WeakS.autoR ?_ | refine Weak.autoR ?_); (conv => whnf); (repeat' ((first | exact trivial | refine And.intro rfl ?_ | refine And.intro (eqV_int vAr) ?_ | refine And.intro vOb ?_ | refine And.intro vRepl ?_ | refine And.intro vReplL ?_ | refine And.intro ?_ ?_) <;> try (conv => whnf)))
           done)
        | (have he : ¬ ((F.c i).c j).val = (((dueT false a).c i).c j).val := by (rw [hdd]; simp_all)
           refine Exists.intro (j + 1, false) (And.intro ⟨by simp only; omega, by rw [hst]; exact ⟨fun h => absurd h Bool.false_ne_true, fun h => absurd h.2 he⟩⟩ (And.intro (by simp only; omega) ?_))
           (first | refine WeakS.autoR ?_ | refine Weak.autoR ?_); (conv => whnf); (repeat' ((first | exact trivial | refine And.intro rfl ?_ | refine And.intro (eqV_int vAr) ?_ | refine And.intro vOb ?_ | refine And.intro vRepl ?_ | refine And.intro vReplL ?_ | refine And.intro ?_ ?_) <;> try (conv => whnf)))
           done)
    · have hgn : good = true ↔ fitR F (dueT false a) q (i + 1) 0 := by
        by_cases hjq : j < q
        · have h1 : good = false := by
            cases good
            · rfl
            · exact absurd ⟨hjq, rfl⟩ hgo
          subst h1
          refine ⟨fun h => absurd h (by decide), fun h => hg.2 (fit_mono (.inl (by omega)) h)⟩
        · have h1 : j = q := by omega
          rw [hg, h1]; exact fit_row
      repeat' first | ((exact absurd ⟨by omega, by assumption⟩ hgo)) | ((first | refine And.intro (Or.inl rfl) ?_ | (refine And.intro (fun h => ?_) (fun h => ?_) <;> (try simp only [cnt1, ints_length] at h) <;> first | (exfalso; omega) | skip) | refine And.intro (show slotsOk _ = true by decide +kernel) ?_ | refine And.intro vOb ?_ | (apply Exists.intro; refine And.intro vObt ?_) | (apply Exists.intro; refine And.intro vObx ?_) | refine And.intro vArT ?_ | refine Or.inl ?_) <;> conv => whnf) | fail
      all_goals (refine Exists.intro (i + 1, good) (And.intro ⟨by omega, hgn⟩ (And.intro (by simp only; omega) ?_)))
      · first | refine WeakS.autoR ?_ | refine Weak.autoR ?_
        conv => whnf
        repeat' ((first | exact trivial | refine And.intro rfl ?_ | refine And.intro (eqV_int vAr) ?_ | refine And.intro vOb ?_ | refine And.intro vRepl ?_ | refine And.intro vReplL ?_ | refine And.intro ?_ ?_) <;> try (conv => whnf))
      · first | refine WeakS.autoR ?_ | refine Weak.autoR ?_
        conv => whnf
        repeat' ((first | exact trivial | refine And.intro rfl ?_ | refine And.intro (eqV_int vAr) ?_ | refine And.intro vOb ?_ | refine And.intro vRepl ?_ | refine And.intro vReplL ?_ | refine And.intro ?_ ?_) <;> try (conv => whnf))
  · have hgn : good = true ↔ fitR F (dueT false a) q q 0 := by
      by_cases hjq : i < q
      · have h1 : good = false := by
          cases good
          · rfl
          · exact absurd ⟨hjq, rfl⟩ hgo
        subst h1
        refine ⟨fun h => absurd h (by decide), fun h => hg.2 (fit_mono (.inl (by omega)) h)⟩
      · have h1 : i = q := by omega
        rw [hg, h1]
    rw [← hgn] at hT
    have hge : i < q → good = false := fun h => by
      cases good
      · rfl
      · exact absurd ⟨h, rfl⟩ hgo
    by_cases hlast : n + 1 < p ^ (q - 1)
    · have kS := c_l17NextS (p : Int) (by omega) (q - 1) (by omega) (dig p (q - 1) n) (dig p (q - 1) (n + 1)) (by simp) hdr (by rw [nx_dig (by omega) _ _ hn, if_pos hlast])
      cases good
      · have hS2 : fndG false p q f (n + 1) = fndG false p q f n := by rw [hS, if_neg (by rw [hT]; decide), List.append_nil]
        repeat' first | ((exact absurd (by assumption : true = false) (by decide))) | ((exact absurd (by assumption : false = true) (by decide))) | ((exact absurd (hge (by omega)) (by decide))) | (refine borD_of [3] (kS) (by decide) ?_ (by simp) ?_; (focus ((conv => whnf); (repeat' ((first | exact trivial | refine And.intro rfl ?_ | refine And.intro (eqV_int vAr) ?_ | refine And.intro vOb ?_) <;> (conv => whnf))); done)); conv => whnf) | ((first | refine And.intro (Or.inl rfl) ?_ | (refine And.intro (fun h => ?_) (fun h => ?_) <;> (try simp only [cnt1, ints_length] at h) <;> first | (exfalso; omega) | skip) | refine And.intro (show slotsOk _ = true by decide +kernel) ?_ | refine And.intro vOb ?_ | (apply Exists.intro; refine And.intro vObt ?_) | (apply Exists.intro; refine And.intro vObx ?_) | refine And.intro vArT ?_ | refine And.intro (dg_sz p q n) ?_ | refine Or.inl ?_) <;> conv => whnf) | fail
        all_goals refine Exists.intro (n + 1) (And.intro hlast (And.intro (by omega) ?_))
        · first | refine WeakS.autoR ?_ | refine Weak.autoR ?_
          conv => whnf
          repeat' ((first | exact trivial | refine And.intro rfl ?_ | refine And.intro (eqV_int vAr) ?_ | refine And.intro vOb ?_ | refine And.intro vRepl ?_ | refine And.intro vReplL ?_ | refine And.intro ?_ ?_) <;> try (conv => whnf))
          all_goals rw [hS2]
        · first | refine WeakS.autoR ?_ | refine Weak.autoR ?_
          conv => whnf
          repeat' ((first | exact trivial | refine And.intro rfl ?_ | refine And.intro (eqV_int vAr) ?_ | refine And.intro vOb ?_ | refine And.intro vRepl ?_ | refine And.intro vReplL ?_ | refine And.intro ?_ ?_) <;> try (conv => whnf))
          all_goals rw [hS2]
      · have hS2 : fndG false p q f (n + 1) = fndG false p q f n ++ [L q a] := by rw [hS, if_pos (by rw [hT]), hlu]
        repeat' first | ((exact absurd (by assumption : true = false) (by decide))) | ((exact absurd (by assumption : false = true) (by decide))) | ((exact absurd (hge (by omega)) (by decide))) | (refine borD_of [3] (kS) (by decide) ?_ (by simp) ?_; (focus ((conv => whnf); (repeat' ((first | exact trivial | refine And.intro rfl ?_ | refine And.intro (eqV_int vAr) ?_ | refine And.intro vOb ?_) <;> (conv => whnf))); done)); conv => whnf) | ((first | refine And.intro (Or.inl rfl) ?_ | (refine And.intro (fun h => ?_) (fun h => ?_) <;> (try simp only [cnt1, ints_length] at h) <;> first | (exfalso; omega) | skip) | refine And.intro (show slotsOk _ = true by decide +kernel) ?_ | refine And.intro vOb ?_ | (apply Exists.intro; refine And.intro vObt ?_) | (apply Exists.intro; refine And.intro vObx ?_) | refine And.intro vArT ?_ | refine And.intro (dg_sz p q n) ?_ | refine And.intro (one_lst _ _ _) ?_ | refine And.intro (rows_plain _) ?_ | refine Or.inl ?_) <;> conv => whnf) | fail
        refine Exists.intro (n + 1) (And.intro hlast (And.intro (by omega) ?_))
        first | refine WeakS.autoR ?_ | refine Weak.autoR ?_
        conv => whnf
        repeat' ((first | exact trivial | refine And.intro rfl ?_ | refine And.intro (eqV_int vAr) ?_ | refine And.intro vOb ?_ | refine And.intro vRepl ?_ | refine And.intro vReplL ?_ | refine And.intro ?_ ?_) <;> try (conv => whnf))
        all_goals first | (rw [hS2]; done) | (rw [hS2]; simp)
    · have hlast2 : n + 1 = p ^ (q - 1) := by omega
      have kN := c_l17NextN (p : Int) (by omega) (q - 1) (by omega) (dig p (q - 1) n) (by simp) hdr (by rw [nx_dig (by omega) _ _ hn, if_neg hlast])
      rw [← hlast2]
      cases good
      · have hS2 : fndG false p q f (n + 1) = fndG false p q f n := by rw [hS, if_neg (by rw [hT]; decide), List.append_nil]
        repeat' first | ((exact absurd (by assumption : true = false) (by decide))) | ((exact absurd (by assumption : false = true) (by decide))) | ((exact absurd (hge (by omega)) (by decide))) | (refine borD_of [3] (kN) (by decide) ?_ (by simp) ?_; (focus ((conv => whnf); (repeat' ((first | exact trivial | refine And.intro rfl ?_ | refine And.intro (eqV_int vAr) ?_ | refine And.intro vOb ?_) <;> (conv => whnf))); done)); conv => whnf) | ((first | refine And.intro (Or.inl rfl) ?_ | (refine And.intro (fun h => ?_) (fun h => ?_) <;> (try simp only [cnt1, ints_length] at h) <;> first | (exfalso; omega) | skip) | refine And.intro (show slotsOk _ = true by decide +kernel) ?_ | refine And.intro vOb ?_ | (apply Exists.intro; refine And.intro vObt ?_) | (apply Exists.intro; refine And.intro vObx ?_) | refine And.intro vArT ?_ | refine And.intro (dg_sz p q n) ?_ | refine Or.inl ?_) <;> conv => whnf) | fail
        all_goals rw [hS2]
      · have hS2 : fndG false p q f (n + 1) = fndG false p q f n ++ [L q a] := by rw [hS, if_pos (by rw [hT]), hlu]
        repeat' first | ((exact absurd (by assumption : true = false) (by decide))) | ((exact absurd (by assumption : false = true) (by decide))) | ((exact absurd (hge (by omega)) (by decide))) | (refine borD_of [3] (kN) (by decide) ?_ (by simp) ?_; (focus ((conv => whnf); (repeat' ((first | exact trivial | refine And.intro rfl ?_ | refine And.intro (eqV_int vAr) ?_ | refine And.intro vOb ?_) <;> (conv => whnf))); done)); conv => whnf) | ((first | refine And.intro (Or.inl rfl) ?_ | (refine And.intro (fun h => ?_) (fun h => ?_) <;> (try simp only [cnt1, ints_length] at h) <;> first | (exfalso; omega) | skip) | refine And.intro (show slotsOk _ = true by decide +kernel) ?_ | refine And.intro vOb ?_ | (apply Exists.intro; refine And.intro vObt ?_) | (apply Exists.intro; refine And.intro vObx ?_) | refine And.intro vArT ?_ | refine And.intro (dg_sz p q n) ?_ | refine And.intro (one_lst _ _ _) ?_ | refine And.intro (rows_plain _) ?_ | refine Or.inl ?_) <;> conv => whnf) | fail
        all_goals rw [hS2]
end Go.Proofs

