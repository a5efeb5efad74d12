/- Elements of which a power is 0 in the dual algebra: the reference. -/
-- tables
-- rec
import Derived.Test.YtmnphhjljlbfmaaGreatK116
import Derived.Test.YtmnphhjljlbfmaaGreatK115
import Derived.Test.YtmnphhjljlbfmaaGreatK48
namespace Go.Proofs
open Go Go.Vm Go.Fg Go.Fg.PS
set_option maxRecDepth 100000
set_option maxHeartbeats 4000000
set_option linter.unusedSimpArgs false
set_option linter.unusedVariables false
variable {m : Int}
noncomputable def goodD {m : Int} (q : Nat) (f : PS (PS (Zm m))) (u : List Int) : Bool := (L q (dpw f (rd m u) q (q - 1))).all (fun x => decide (x = 0))
theorem duS_zero {f : PS (PS (Zm m))} {a b : PS (Zm m)} (ha : ∀ i, a.c i = 0) (q n : Nat) : (duS f a b q).c n = 0 := by
  show duP f a b q n q 0 = 0
  unfold duP
  rw [sm_zero (fun i _ => sm_zero (fun j _ => by rw [ha, Go.Fg.zero_mul, Go.Fg.zero_mul])), sm_zero', Go.Fg.add_zero]
theorem dpw_zero {f : PS (PS (Zm m))} {a : PS (Zm m)} (ha : ∀ i, a.c i = 0) (q : Nat) : ∀ e n, (dpw f a q e).c n = 0
  | 0, n => ha n
  | e + 1, n => duS_zero (fun i => dpw_zero ha q e i) q n
theorem good_zero (p q : Nat) (f : PS (PS (Zm (p : Int)))) : goodD q f (dig p q 0) = true := by
  unfold goodD
  rw [List.all_eq_true]
  intro x hx
  rw [decide_eq_true_iff]
  obtain ⟨i, hi, rfl⟩ := List.mem_map.1 hx
  rw [dpw_zero (fun i => ?_)]
  · exact Zm.val_zero
  · rw [rd_c, dig_zero]
    have : (List.replicate q (0 : Int)).getD i 0 = 0 := by
      rw [List.getD_eq_getElem?_getD, List.getElem?_replicate]; split <;> rfl
    rw [this]; rfl
theorem all_same {q : Nat} {l : List Int} (h : l.length = q) : l.all (fun x => decide (x = 0)) = decide (l = List.replicate q 0) := by
  rw [Bool.eq_iff_iff, decide_eq_true_iff, List.all_eq_true, List.eq_replicate_iff]
  constructor
  · exact fun h2 => ⟨h, fun b hb => of_decide_eq_true (h2 b hb)⟩
  · exact fun h2 x hx => decide_eq_true (h2.2 x hx)
theorem c_l01SameI (o o' : Bool) (l l' : List Int) (hl : l.length ≤ 1048576) : PureCall Tryz.prog 24 [.list o 1 (ints l), .list o' 1 (ints l')] (dbool (decide (l = l'))) := by
  refine pure_of_vcR Tryz.tabOk mixOrd Tryz.func24 rfl rfl ?_
  conv => whnf
  repeat' first | ((first | refine And.intro (Or.inl rfl) ?_ | (refine And.intro (fun h => ?_) (fun h => ?_) <;> (try simp only [cnt1, ints_length] at h)) | refine And.intro (show slotsOk _ = true by decide +kernel) ?_ | refine And.intro vOb ?_ | (apply Exists.intro; refine And.intro vObt ?_) | (apply Exists.intro; refine And.intro vObx ?_) | refine And.intro vArT ?_ | refine Or.inl ?_) <;> conv => whnf) | fail
  · refine dbool_congr ?_
    rw [eq_comm, decide_eq_false_iff_not]
    intro e; subst e; simp_all
  · have hlen : l.length = l'.length := by omega
    refine loop_atR Tryz.tabOk mixOrd (α := Nat) (fun i => [(5, dint i)]) (fun i => []) (fun i => i ≤ l.length ∧ ∀ j, j < i → l.getD j 0 = l'.getD j 0) (fun i => l.length - i) (0) ?_ ?_ ?_
    · exact ⟨by omega, by omega⟩
    · conv => whnf
      first | refine WeakS.autoR ?_ | refine Weak.autoR ?_
      conv => whnf
      repeat' ((first | exact trivial | refine And.intro rfl ?_ | refine And.intro (eqV_int vAr) ?_ | refine And.intro vOb ?_ | refine And.intro vRepl ?_ | refine And.intro vReplL ?_ | refine And.intro ?_ ?_) <;> try (conv => whnf))
    intro i hi
    conv => whnf
    repeat' first | ((first | refine And.intro (Or.inl rfl) ?_ | (refine And.intro (fun h => ?_) (fun h => ?_) <;> (try simp only [cnt1, ints_length] at h)) | refine And.intro (show slotsOk _ = true by decide +kernel) ?_ | refine And.intro vOb ?_ | (apply Exists.intro; refine And.intro vObt ?_) | (apply Exists.intro; refine And.intro vObx ?_) | refine And.intro vArT ?_ | refine Or.inl ?_) <;> conv => whnf) | fail
    · refine dbool_congr ?_
      rw [eq_comm, decide_eq_false_iff_not]
      intro e; subst e
      simp_all
    · refine Exists.intro (i + 1) (And.intro ⟨by omega, lt_cases hi.2 (by omega)⟩ (And.intro (by omega) ?_))
      first | refine WeakS.autoR ?_ | refine Weak.autoR ?_
      conv => whnf
      repeat' ((first | exact trivial | refine And.intro rfl ?_ | refine And.intro (eqV_int vAr) ?_ | refine And.intro vOb ?_ | refine And.intro vRepl ?_ | refine And.intro vReplL ?_ | refine And.intro ?_ ?_) <;> try (conv => whnf))
    · refine dbool_congr ?_
      rw [eq_comm, decide_eq_true_iff]
      refine List.ext_getElem hlen (fun j h1 h2 => ?_)
      have := hi.2 j (by omega)
      simpa [List.getD_eq_getElem?_getD, h1, h2] using this
theorem c_specIsDualReducedP (p q N : Nat) (hp : 2 ≤ p ∧ p ≤ 7) (hm : Md (p : Int)) (hq : 2 ≤ q ∧ 2 * (q - 1) + 1 ≤ N ∧ N ≤ 11) (o o1 : Bool) (f : PS (PS (Zm (p : Int))))
    (key : PureCall Tryz.prog 20 [PlD p o o1 N f, dbool true] (.tup [dint q, dint 0])) :
    PureCall Tryz.prog 7 [PlD p o o1 N f] (.tup [dbool (decide ((ext p (goodD q f) q []).length = 1)), dint 0]) := by
  have hP : 0 < p ^ q := Nat.pow_pos (by omega)
  have kpw := c_l17Powers hm o o1 N q ⟨by omega, by omega, by omega⟩ f (rfl : (q : Int) = q)
  have hone := ext_one (p := p) (n := q) (by omega) (goodD q f) (good_zero p q f)
  refine pure_of_vcR Tryz.tabOk mixOrd Tryz.func7 rfl rfl ?_
  conv => whnf
  repeat' first | ((first | refine And.intro (Or.inl rfl) ?_ | (apply Exists.intro; refine And.intro (key) ?_) | (apply Exists.intro; refine And.intro (kpw) ?_) | (refine And.intro (fun h => ?_) (fun h => ?_) <;> (try simp only [cnt1, ints_length] at h) <;> first | (exfalso; omega) | skip) | refine And.intro (show slotsOk _ = true by decide +kernel) ?_ | refine And.intro vOb ?_ | (apply Exists.intro; refine And.intro vObt ?_) | (apply Exists.intro; refine And.intro vObx ?_) | refine And.intro vArT ?_ | refine Or.inl ?_) <;> conv => whnf) | fail
  refine loop_atR Tryz.tabOk mixOrd (α := Nat) (fun n => []) (fun n => [(4, some ⟨false, 1, ints (dig p q n)⟩)]) (fun n => n < p ^ q ∧ ∀ k, k < n → goodD q f (dig p q (k + 1)) = false) (fun n => p ^ q - n) (0) ?_ ?_ ?_
  · exact ⟨hP, by omega⟩
  · conv => whnf
    first | refine WeakS.autoR ?_ | refine Weak.autoR ?_
    conv => whnf
    repeat' ((first | exact trivial | refine And.intro rfl ?_ | refine And.intro (eqV_int vAr) ?_ | refine And.intro vOb ?_ | refine And.intro vRepl ?_ | refine And.intro vReplL ?_ | refine And.intro ?_ ?_) <;> try (conv => whnf))
    all_goals rw [dig_zero]
  intro n hn
  obtain ⟨hn, hno⟩ := hn
  have hdr := dig_range (p := p) (by omega) q n hn
  conv => whnf
  by_cases hlast : n + 1 < p ^ q
  · have kS := c_l17NextS (p : Int) (by omega) q (by omega) (dig p q n) (dig p q (n + 1)) (by simp) hdr (by rw [nx_dig (by omega) _ _ hn, if_pos hlast])
    have hlu : dig p q (n + 1) = L q (rd (p : Int) (dig p q (n + 1))) := by
      have h3 := L_rd (show Nums (p : Int) (dig p q (n + 1)) from dig_range (p := p) (by omega) q (n + 1) hlast)
      rw [dig_length] at h3
      exact h3.symm
    have hgd : goodD q f (dig p q (n + 1)) = decide (L q (dpw f (rd (p : Int) (dig p q (n + 1))) q (q - 1)) = List.replicate q 0) := all_same (by simp)
    generalize rd (p : Int) (dig p q (n + 1)) = a at *
    simp only [hlu] at kS
    have hel : ∀ b : PS (Zm (p : Int)), PureCall Tryz.prog 23 [dint p, .list false 1 (sub (tbq q f q) 1 0 (cnt 1 (tbq q f q))), LD false q b, LD false q a] (LD true q (duS f b a q)) := fun b => by
      rw [sub_tbq (a := cnt 1 (tbq q f q)) (tbq_cnt q f q)]; exact c_l17Dual hm q (by omega) false false false f b a
    have hsa := c_l01SameI false false (L q (dpw f a q (q - 1))) (List.replicate q 0) (by simp; omega)
    repeat' first | (refine borD_of [4] (kS) (by decide) ?_ (by simp) ?_; (focus ((conv => whnf); (repeat' ((first | exact trivial | refine And.intro rfl ?_ | refine And.intro (eqV_int vAr) ?_ | refine And.intro vOb ?_) <;> (conv => whnf))); done)); conv => whnf) | ((first | refine And.intro (Or.inl rfl) ?_ | (refine And.intro (fun h => ?_) (fun h => ?_) <;> (try simp only [cnt1, ints_length] at h) <;> first | (exfalso; omega) | skip) | refine And.intro (show slotsOk _ = true by decide +kernel) ?_ | refine And.intro vOb ?_ | (apply Exists.intro; refine And.intro vObt ?_) | (apply Exists.intro; refine And.intro vObx ?_) | refine And.intro vArT ?_ | refine Or.inl ?_) <;> conv => whnf) | fail
    refine loop_peelV Tryz.tabOk mixOrd ?_
    conv => whnf
    repeat' first | ((first | refine And.intro (Or.inl rfl) ?_ | (apply Exists.intro; refine And.intro (hel a) ?_) | (refine And.intro (fun h => ?_) (fun h => ?_) <;> (try simp only [cnt1, ints_length] at h) <;> first | (exfalso; omega) | skip) | refine And.intro (show slotsOk _ = true by decide +kernel) ?_ | refine And.intro vOb ?_ | (apply Exists.intro; refine And.intro vObt ?_) | (apply Exists.intro; refine And.intro vObx ?_) | refine And.intro vArT ?_ | refine Or.inl ?_) <;> conv => whnf) | fail
    refine loop_atR Tryz.tabOk mixOrd (α := Nat) (fun k => [(9, dint ((k : Int) + 2)), (8, .ref 5 [] 1 0 q), (38, .undef)]) (fun k => [(5, some ⟨false, 1, ints (L q (dpw f a q (k + 1)))⟩)]) (fun k => k + 2 ≤ q) (fun k => q - k) (0) ?_ ?_ ?_
    · omega
    · conv => whnf
      first | refine WeakS.autoR ?_ | refine Weak.autoR ?_
      conv => whnf
      repeat' ((first | exact trivial | refine And.intro rfl ?_ | refine And.intro (eqV_int vAr) ?_ | refine And.intro vOb ?_ | refine And.intro vRepl ?_ | refine And.intro vReplL ?_ | refine And.intro ?_ ?_) <;> try (conv => whnf))
    intro k hk
    conv => whnf
    repeat' first | ((first | refine And.intro (Or.inl rfl) ?_ | (apply Exists.intro; refine And.intro (hel (dpw f a q (k + 1))) ?_) | (refine And.intro (fun h => ?_) (fun h => ?_) <;> (try simp only [cnt1, ints_length] at h) <;> first | (exfalso; omega) | skip) | refine And.intro (show slotsOk _ = true by decide +kernel) ?_ | refine And.intro vOb ?_ | (apply Exists.intro; refine And.intro vObt ?_) | (apply Exists.intro; refine And.intro vObx ?_) | refine And.intro vArT ?_ | refine And.intro (vDA) ?_ | refine Or.inl ?_) <;> conv => whnf) | fail
    · refine Exists.intro (k + 1) (And.intro (by omega) (And.intro (by omega) ?_))
      first | refine WeakS.autoR ?_ | refine Weak.autoR ?_
      conv => whnf
      repeat' ((first | exact trivial | refine And.intro rfl ?_ | refine And.intro (eqV_int vAr) ?_ | refine And.intro vOb ?_ | refine And.intro vRepl ?_ | refine And.intro vReplL ?_ | refine And.intro ?_ ?_) <;> try (conv => whnf))
    · have hkq : k + 1 = q - 1 := by omega
      rw [hkq]
      repeat' first | ((first | refine And.intro (Or.inl rfl) ?_ | (apply Exists.intro; refine And.intro (hsa) ?_) | (refine And.intro (fun h => ?_) (fun h => ?_) <;> (try simp only [cnt1, ints_length] at h) <;> first | (exfalso; omega) | skip) | refine And.intro (show slotsOk _ = true by decide +kernel) ?_ | refine And.intro vOb ?_ | (apply Exists.intro; refine And.intro vObt ?_) | (apply Exists.intro; refine And.intro vObx ?_) | refine And.intro vArT ?_ | refine And.intro (vDA) ?_ | refine Or.inl ?_) <;> conv => whnf) | fail
      · have hs : L q (dpw f a q (q - 1)) = List.replicate q 0 := of_decide_eq_true (by assumption)
        have hg : goodD q f (dig p q (n + 1)) = true := by rw [hgd, decide_eq_true hs]
        have hno2 : decide ((ext p (goodD q f) q []).length = 1) = false := by
          rw [Bool.eq_false_iff]
          intro c
          exact absurd (hone.1 c n hlast) (by rw [hg]; decide)
        rw [hno2]
      · have hs : ¬ L q (dpw f a q (q - 1)) = List.replicate q 0 := of_decide_eq_false (by assumption)
        refine Exists.intro (n + 1) (And.intro ⟨hlast, fun k hk2 => ?_⟩ (And.intro (by omega) ?_))
        · rcases Nat.lt_or_ge k n with h | h
          · exact hno k h
          · have : k = n := by omega
            subst this
            rw [hgd, decide_eq_false hs]
        · first | refine WeakS.autoR ?_ | refine Weak.autoR ?_
          conv => whnf
          repeat' ((first | exact trivial | refine And.intro rfl ?_ | refine And.intro (eqV_int vAr) ?_ | refine And.intro vOb ?_ | refine And.intro vRepl ?_ | refine And.intro vReplL ?_ | refine And.intro ?_ ?_) <;> try (conv => whnf))
          all_goals rw [hlu]
  · have kN := c_l17NextN (p : Int) (by omega) q (by omega) (dig p q n) (by simp) hdr (by rw [nx_dig (by omega) _ _ hn, if_neg hlast])
    have hyes : decide ((ext p (goodD q f) q []).length = 1) = true := hone.2 (fun k hk => hno k (by omega))
    rw [hyes]
    repeat' first | (refine borD_of [4] (kN) (by decide) ?_ (by simp) ?_; (focus ((conv => whnf); (repeat' ((first | exact trivial | refine And.intro rfl ?_ | refine And.intro (eqV_int vAr) ?_ | refine And.intro vOb ?_) <;> (conv => whnf))); done)); conv => whnf) | ((first | refine And.intro (Or.inl rfl) ?_ | (refine And.intro (fun h => ?_) (fun h => ?_) <;> (try simp only [cnt1, ints_length] at h) <;> first | (exfalso; omega) | skip) | refine And.intro (show slotsOk _ = true by decide +kernel) ?_ | refine And.intro vOb ?_ | (apply Exists.intro; refine And.intro vObt ?_) | (apply Exists.intro; refine And.intro vObx ?_) | refine And.intro vArT ?_ | refine Or.inl ?_) <;> conv => whnf) | fail
end Go.Proofs

