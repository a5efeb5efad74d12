/- The reference's first extension. -/
-- tables
-- rec
import Derived.Test.YtbaojihanfkofaaGreatK83
import Derived.Test.YtbaojihanfkofaaGreatK84
import Derived.Test.YtbaojihanfkofaaGreatK79
namespace Go.Proofs
open Go Go.Vm Go.Fg Go.Fg.PS
set_option maxRecDepth 100000
set_option maxHeartbeats 4000000
set_option linter.unusedSimpArgs false
set_option linter.unusedVariables false
variable {m : Int}
theorem PivOk.empty (m : Int) (u : Nat) : PivOk m u (AllS m u []) 0 [] (List.replicate u []) := by
  have ht : ∀ x, AllS m u [] x := fun x r hr => by simp at hr
  have hz : ∀ k, (List.replicate u ([] : List Int)).getD k [] = [] := fun k => by
    rw [List.getD_eq_getElem?_getD, List.getElem?_replicate]; split <;> rfl
  refine ⟨fun r hr => by simp at hr, by simp, fun k hk => by omega, fun k _ _ h => absurd (hz k) h, fun x => ⟨fun h => ⟨x, fun i hi => by omega, h⟩, fun _ => ht x⟩, fun k _ _ h => absurd (hz k) h, fun k _ _ x _ _ => ⟨x, fun _ _ => rfl, ht x⟩⟩
theorem Pick.congr {u j : Nat} {P : List (List Int)} {v v' : Nat → Int} (h : Pick m u P v j) (hp : P.getD j [] ≠ [] → RowB m u (j + 1) (P.getD j [])) (e : ∀ i, i < j + 1 → v' i = v i) : Pick m u P v' j := by
  obtain ⟨h1, h2, h3, h4⟩ := h
  refine ⟨by rw [e j (by omega)]; exact h1, by rw [e j (by omega)]; exact h2, fun hn => by rw [e j (by omega)]; exact h3 hn, fun hn => ?_⟩
  have eu : ∀ t i, i < j + 1 → updI v' j t i = updI v j t i := fun t i hi => by
    unfold updI
    split
    · rfl
    · exact e i hi
  refine ⟨fun ⟨t, t1, t2, ht⟩ => (RowS.ext (hp hn) e).2 ((h4 hn).1 ⟨t, t1, t2, (RowS.ext (hp hn) (eu t)).1 ht⟩), fun t t1 t2 ht => (h4 hn).2 t t1 (by rw [← e j (by omega)]; exact t2) ((RowS.ext (hp hn) (eu t)).1 ht)⟩
theorem updI_upd (v : Nat → Int) (j : Nat) (s t : Int) : updI (updI v j s) j t = updI v j t := by
  funext i
  unfold updI
  split <;> rfl
theorem pick_row {u j : Nat} {P : List (List Int)} {v : Nat → Int} {want t : Int} (hm : 0 < m) (hj : j < u) (hne : P.getD j [] ≠ []) (hp : RowB m u (j + 1) (P.getD j [])) (hw : 0 ≤ want ∧ want < m)
    (h : m ∣ want - ((P.getD j []).getD u 0 - sumI j fun k => (P.getD j []).getD k 0 * v k)) (ht : 0 ≤ t ∧ t < m) (hlow : ∀ s, 0 ≤ s → s < t → ((P.getD j []).getD j 0 * s) % m ≠ want) (hend : ((P.getD j []).getD j 0 * t) % m = want ∨ t = m - 1) : Pick m u P (updI v j t) j := by
  have key : ∀ s, RowS m u (P.getD j []) (updI v j s) ↔ ((P.getD j []).getD j 0 * s) % m = want := fun s => RowS.want hm hj hp hw h
  have e : updI v j t j = t := if_pos rfl
  refine ⟨by rw [e]; exact ht.1, by rw [e]; exact ht.2, fun h => absurd h hne, fun _ => ⟨fun ⟨s, s1, s2, hs⟩ => ?_, fun s s1 s2 hs => ?_⟩⟩
  · rw [updI_upd, key] at hs
    rw [key]
    rcases hend with h | h
    · exact h
    · by_cases e2 : s < t
      · exact absurd hs (hlow s s1 e2)
      · rw [show t = s by omega]; exact hs
  · rw [updI_upd, key] at hs
    rw [e] at s2
    exact hlow s s1 s2 hs
theorem pick_none {u j : Nat} {P : List (List Int)} {v : Nat → Int} (hm : 0 < m) (hne : P.getD j [] = []) : Pick m u P (updI v j 0) j := by
  have e : updI v j 0 j = 0 := if_pos rfl
  exact ⟨by rw [e]; omega, by rw [e]; omega, fun _ => e, fun h => absurd hne h⟩
def extJ (f : PS (PS (Zm m))) (n J : Nat) (x : Nat → Int) : PS (PS (Zm m)) := extP f n fun i => if i ≤ J then vOf m n x i else 0
theorem extJ_zero (f : PS (PS (Zm m))) (n : Nat) (x : Nat → Int) : Tb (n + 1) (lowP f n) = Tb (n + 1) (extJ f n 0 x) := Tb_congr (fun i j h => by
  unfold extJ
  rw [lowP_cc, extP_cc]
  split
  · rfl
  · split
    · split
      · unfold vOf; rw [if_neg (by omega)]
      · rfl
    · rfl)
theorem extJ_step (f : PS (PS (Zm m))) {n j : Nat} (x : Nat → Int) (t : Int) (hj : j + 1 < n) : Ag2 (n + 1) (upd2 (extJ f n j x) (j + 1) (n - j - 1) (Zm.mk m t)) (extJ f n (j + 1) (updI x j t)) := fun p q h => by
  unfold extJ
  rw [upd2_cc, extP_cc, extP_cc]
  by_cases h1 : p + q < n
  · rw [if_neg (by omega), if_pos h1, if_pos h1]
  · by_cases h2 : p = j + 1 ∧ q = n - j - 1
    · have hpq : p + q = n := by omega
      rw [if_pos h2, if_neg h1, if_pos hpq, if_pos (by omega)]
      unfold vOf
      rw [if_pos (by omega), h2.1, Nat.add_sub_cancel, show updI x j t j = t from if_pos rfl]
    · have hpq : p + q = n := by omega
      rw [if_neg h2, if_neg h1, if_neg h1, if_pos hpq, if_pos hpq]
      by_cases h3 : p ≤ j
      · rw [if_pos h3, if_pos (by omega)]
        unfold vOf
        split
        · rw [show updI x j t (p - 1) = x (p - 1) from if_neg (by omega)]
        · rfl
      · rw [if_neg h3, if_neg (by omega)]
theorem extJ_last (f : PS (PS (Zm m))) {n : Nat} (hn : 1 ≤ n) {x : Nat → Int} {v : Nat → Zm m} (h : ∀ i, i ≤ n → vOf m n x i = v i) : Tb (n + 1) (extJ f n (n - 1) x) = Tb (n + 1) (extP f n v) := Tb_congr (fun p q hpq => by
  unfold extJ
  rw [extP_cc, extP_cc]
  split
  · rfl
  · split
    · split
      · exact h p (by omega)
      · rw [← h p (by omega)]; unfold vOf; rw [if_neg (by omega)]
    · rfl)
theorem vLoadM {w q : Nat} {r : Nat → Int} (i : Nat) (e : q = i) (h : i < w) : LoadRow (ints (lM w r)) [] q (dint (r i)) := by
  subst e; exact ⟨_, rfl, ints_at (lM_get r h)⟩
theorem vLenM (w : Nat) (r : Nat → Int) : w * 1 = (ints (lM w r)).length := by simp
theorem lM_upd {w : Nat} {r : Nat → Int} {x : Int} : lM w r ++ [x] = lM (w + 1) (updI r w x) := by
  rw [lM_congr (s := updI r w x) (fun k hk => (if_neg (by omega)).symm)]
  exact lM_push (show x = updI r w x w from (if_pos rfl).symm)
theorem vLoadF {t : List (List Int)} {q : Nat} (i : Nat) (e : q = i) (h : i < t.length) : LoadRow (rows false t) [] q (.list false 1 (ints (t.getD i []))) := by
  subst e; exact ⟨_, rfl, rows_get h⟩
theorem greedy_first (hm : Md m) {n : Nat} (hn : 2 ≤ n ∧ n ≤ 10) {f : PS (PS (Zm m))} {v : Nat → Zm m} (hv : First (lowP f n) n v) {M R P : List (List Int)} (hMb : ∀ r ∈ M, RowB m (n - 1) (n - 1) r) (hMs : ∀ x, AllS m (n - 1) M x ↔ EqI (lowP f n) n x)
    (hP : PivOk m (n - 1) (AllS m (n - 1) M) 0 R P) {x : Nat → Int} (hpk : ∀ j, j < n - 1 → Pick m (n - 1) P x j) : Tb (n + 1) (extJ f n (n - 1) x) = Tb (n + 1) (extP f n v) := by
  have hEx : ∃ y, AllS m (n - 1) M y := by
    have h1 := hv.eq
    refine ⟨fun k => (v (k + 1)).val, (hMs _).2 ((eqI_iff _ n _).2 (h1.congr (fun i hi => ?_)))⟩
    have hvn : v n = 0 := by have := h1.1 0 (by omega); rw [Nat.sub_zero] at this; rw [this, hv.z]
    unfold vOf
    split
    · show v i = Zm.mk m (v (i - 1 + 1)).val
      rw [Zm.mk_val, show i - 1 + 1 = i by omega]
    · rcases (show i = 0 ∨ i = n by omega) with h | h
      · rw [h, hv.z]
      · rw [h, hvn]
  obtain ⟨g1, g2⟩ := hP.greedy hm.pos hEx (fun x y h hx => (AllS.ext hMb (fun i hi => (h i hi).symm)).2 hx) hpk
  have hF := first_of hm.pos hn.1 (fun k hk => ⟨(hpk k hk).1, (hpk k hk).2.1⟩) ((hMs x).1 g1) (fun w hw hwr => g2 w ((hMs w).2 hw) hwr)
  exact extJ_last f (by omega) (fun i hi => hF.uniq hv i hi)
theorem c_l07First (hm : Md m) (o p : Bool) (n : Nat) (hn : 2 ≤ n ∧ n ≤ 10) (f : PS (PS (Zm m))) (h00 : (f.c 0).c 0 = 0) (v : Nat → Zm m) (hv : First (lowP f n) n v) : PureCall Tryz.prog 33 [dint m, TbD o p n f] (TbD true true (n + 1) (extP f n v)) := by
  have hm1 := hm.1
  have hm2 := hm.2
  refine pure_of_vcR Tryz.tabOk mixOrd Tryz.func33 rfl rfl ?_
  conv => whnf
  repeat' first | (refine bor_of [] (c_l07Equations hm o p n hn f h00) (by decide) ?_ (fun d rt' hd => ?_); (focus ((conv => whnf); (repeat' ((first | exact trivial | refine And.intro rfl ?_ | refine And.intro (eqV_int vAr) ?_ | refine And.intro vOb ?_) <;> (conv => whnf))); done))) | ((first | refine And.intro (Or.inl rfl) ?_ | (apply Exists.intro; refine And.intro (c_l07Longer _ _ n vAr f) ?_) | (refine And.intro (fun h => ?_) (fun h => ?_) <;> (try simp only [cnt1, ints_length] at h)) | refine And.intro (show slotsOk _ = true by decide +kernel) ?_ | refine And.intro vOb ?_ | (apply Exists.intro; refine And.intro vObt ?_) | (apply Exists.intro; refine And.intro vObx ?_) | refine And.intro vArT ?_ | refine Or.inl ?_) <;> conv => whnf) | fail
  obtain ⟨M, hMb, hMl, hMs, rfl, rfl⟩ := hd
  refine ⟨rfl, by simp, ?_⟩
  conv => whnf
  repeat' first | (refine bor_of [3] (c_l07Pivots hm (n - 1) (by omega) M ⟨by simp at *; omega, by omega⟩ hMb) (by decide) ?_ (fun d rt' hd => ?_); (focus ((conv => whnf); (repeat' ((first | exact trivial | refine And.intro rfl ?_ | refine And.intro (eqV_int vAr) ?_ | refine And.intro vOb ?_) <;> (conv => whnf))); done))) | ((first | refine And.intro (Or.inl rfl) ?_ | (refine And.intro (fun h => ?_) (fun h => ?_) <;> (try simp only [cnt1, ints_length] at h)) | refine And.intro (show slotsOk _ = true by decide +kernel) ?_ | refine And.intro vOb ?_ | (apply Exists.intro; refine And.intro vObt ?_) | (apply Exists.intro; refine And.intro vObx ?_) | refine And.intro vArT ?_ | refine Or.inl ?_) <;> conv => whnf) | fail
  · obtain ⟨R, P, hP, rfl, rfl⟩ := hd; refine ⟨rfl, by simp, ?_⟩; (conv => whnf); (try exact False.elim (by assumption))
    repeat' first | ((first | refine And.intro (Or.inl rfl) ?_ | (refine And.intro (fun h => ?_) (fun h => ?_) <;> (try simp only [cnt1, ints_length] at h)) | refine And.intro (show slotsOk _ = true by decide +kernel) ?_ | refine And.intro vOb ?_ | (apply Exists.intro; refine And.intro vObt ?_) | (apply Exists.intro; refine And.intro vObx ?_) | refine And.intro vArT ?_ | refine Or.inl ?_) <;> conv => whnf) | fail
    refine loop_atR Tryz.tabOk mixOrd (α := (Nat → Int) × Nat) (fun x => [(10, dint x.2), (8, .ref 2 [] 1 0 x.2), (7, .ref 4 [] 1 0 (n - 1)), (9, .undef), (11, .undef), (12, .undef), (13, .undef), (14, .undef), (15, .undef), (24, .undef), (27, .undef), (28, .undef), (32, .undef)]) (fun x => [(0, some ⟨false, 1, rows true (Tb (n + 1) (extJ f n x.2 x.1))⟩), (2, some ⟨false, 1, ints (lM x.2 x.1)⟩), (4, some ⟨false, 1, rows false P⟩)]) (fun x => (∀ j, j < x.2 → Pick m (n - 1) P x.1 j) ∧ x.2 ≤ n - 1) (fun x => n - 1 - x.2) ((fun _ => 0, 0)) ?_ ?_ ?_
    · exact ⟨fun j hj => by simp only at hj; omega, by simp only; omega⟩
    · conv => whnf
      skip
      first | refine WeakS.autoR ?_ | refine Weak.autoR ?_
      conv => whnf
      repeat' ((first | exact trivial | refine And.intro rfl ?_ | refine And.intro (eqV_int vAr) ?_ | refine And.intro vOb ?_ | refine And.intro vRepl ?_ | refine And.intro vReplL ?_ | refine And.intro ?_ ?_) <;> try (conv => whnf))
      exact rows_congr (extJ_zero f n _)
    intro ⟨x, j⟩ ⟨hpk, hj⟩
    simp only at hpk hj
    have hPl := hP.pl
    have hset : ∀ t : Int, j + 1 < n → 0 ≤ t ∧ t < m → setT (Tb (n + 1) (extJ f n j x)) (j + 1) (n - j - 1) t = Tb (n + 1) (extJ f n (j + 1) (updI x j t)) := fun t h1 h2 => setT_eq (Zm.mk m t) (Zm.val_of_range h2).symm (by omega) (extJ_step f x t h1)
    have hpk2 : ∀ t j', j' < j → Pick m (n - 1) P (updI x j t) j' := fun t j' h => Pick.congr (hpk j' h) (hP.pb j' (by omega) (by omega)) (fun i hi => if_neg (by omega))
    have hpk3 : ∀ t, Pick m (n - 1) P (updI x j t) j → ∀ j', j' < j + 1 → Pick m (n - 1) P (updI x j t) j' := fun t h j' hj' => by
      by_cases e : j' = j
      · rw [e]; exact h
      · exact hpk2 t j' (by omega)
    conv => whnf
    by_cases hjn : j < n - 1
    · by_cases hne : P.getD j [] = []
      · have hl0 : (P.getD j []).length = 0 := by rw [hne]; rfl
        repeat' first | ((first | refine And.intro (Or.inl rfl) ?_ | (apply Exists.intro; refine And.intro (vLoadF j vIx vAr) ?_) | (apply Exists.intro; refine And.intro (vStoreT (i := j + 1) (j := n - j - 1) _ vIx (by first | omega | (simp only [place1, cnt1, rows_length, Tb_length]; omega)) (by omega)) ?_) | (refine And.intro (fun h => ?_) (fun h => ?_) <;> (try simp only [cnt1, ints_length, rows_length, Tb_length] at h) <;> first | (exfalso; omega) | skip) | refine And.intro (show slotsOk _ = true by decide +kernel) ?_ | refine And.intro vOb ?_ | (apply Exists.intro; refine And.intro vObt ?_) | (apply Exists.intro; refine And.intro vObx ?_) | refine And.intro vArT ?_ | refine And.intro (vLenM _ _) ?_ | refine Or.inl ?_) <;> conv => whnf) | fail
        refine Exists.intro (updI x j 0, j + 1) (And.intro ⟨hpk3 0 (pick_none hm.pos hne), by simp only; omega⟩ (And.intro (by simp only; omega) ?_))
        first | refine WeakS.autoR ?_ | refine Weak.autoR ?_
        conv => whnf
        repeat' ((first | exact trivial | refine And.intro rfl ?_ | refine And.intro (eqV_int vAr) ?_ | refine And.intro vOb ?_ | refine And.intro vRepl ?_ | refine And.intro vReplL ?_ | refine And.intro ?_ ?_) <;> try (conv => whnf))
        · exact rows_congr (hset 0 (by omega) (by omega))
        · exact ints_congr lM_upd
      · have hrb := hP.pb j (by omega) hjn hne
        have hlen := hrb.len
        have hx : ∀ k, k < j → 0 ≤ x k ∧ x k < m := fun k hk => ⟨(hpk k hk).1, (hpk k hk).2.1⟩
        repeat' first | ((first | refine And.intro (Or.inl rfl) ?_ | (apply Exists.intro; refine And.intro (vLoadF j vIx vAr) ?_) | (refine And.intro (fun h => ?_) (fun h => ?_) <;> (try simp only [cnt1, ints_length, rows_length, Tb_length] at h) <;> first | (exfalso; omega) | skip) | refine And.intro (show slotsOk _ = true by decide +kernel) ?_ | refine And.intro vOb ?_ | (apply Exists.intro; refine And.intro vObt ?_) | (apply Exists.intro; refine And.intro vObx ?_) | refine And.intro vArT ?_ | refine Or.inl ?_) <;> conv => whnf) | fail
        refine loop_atR Tryz.tabOk mixOrd (α := Int × Nat) (fun y => [(14, dint y.2), (13, dint y.1)]) (fun y => []) (fun y => y.2 ≤ j ∧ (0 ≤ y.1 ∧ y.1 < m) ∧ m ∣ y.1 - ((P.getD j []).getD (n - 1) 0 - sumI y.2 (fun k => (P.getD j []).getD k 0 * x k))) (fun y => j - y.2) (((P.getD j []).getD (n - 1) 0, 0)) ?_ ?_ ?_
        · exact ⟨by simp only; omega, hrb.rng _, by simp only [sumI, Int.sub_zero, Int.sub_self]; exact Int.dvd_zero _⟩
        · conv => whnf
          first | refine WeakS.autoR ?_ | refine Weak.autoR ?_
          conv => whnf
          repeat' ((first | exact trivial | refine And.intro rfl ?_ | refine And.intro (eqV_int vAr) ?_ | refine And.intro vOb ?_ | refine And.intro vRepl ?_ | refine And.intro vReplL ?_ | refine And.intro ?_ ?_) <;> try (conv => whnf))
          rw [show (((n + 1 : Nat) : Int) - 1 - 1).toNat = n - 1 by omega]
        intro ⟨want, k⟩ ⟨hk, hw, hd⟩
        simp only at hk hw hd
        conv => whnf
        have r1 := hrb.rng k
        have r2 := hrb.rng j
        by_cases hkj : k < j
        · have r3 := hx k hkj
          have r4 : 0 ≤ (P.getD j []).getD k 0 * x k := Int.mul_nonneg r1.1 r3.1
          have r5 : (P.getD j []).getD k 0 * x k ≤ 10000 * 10000 := Int.mul_le_mul (by omega) (by omega) r3.1 (by omega)
          have r6 := Int.tmod_nonneg m r4
          have r7 := Int.tmod_lt_of_pos ((P.getD j []).getD k 0 * x k) (show 0 < m by omega)
          repeat' first | ((first | refine And.intro (Or.inl rfl) ?_ | (apply Exists.intro; refine And.intro (vLoadM k vIx vAr) ?_) | (apply Exists.intro; refine And.intro (c_l01Mod _ _ hm.pos (by omega)) ?_) | (refine And.intro (fun h => ?_) (fun h => ?_) <;> (try simp only [cnt1, ints_length, rows_length, Tb_length] at h) <;> first | (exfalso; omega) | skip) | refine And.intro (show slotsOk _ = true by decide +kernel) ?_ | refine And.intro vOb ?_ | (apply Exists.intro; refine And.intro vObt ?_) | (apply Exists.intro; refine And.intro vObx ?_) | refine And.intro vArT ?_ | refine Or.inl ?_) <;> conv => whnf) | fail
          refine Exists.intro ((want - ((P.getD j []).getD k 0 * x k).tmod m) % m, k + 1) (And.intro ⟨by simp only; omega, ⟨Int.emod_nonneg _ (by omega), Int.emod_lt_of_pos _ (by omega)⟩, ?_⟩ (And.intro (by simp only; omega) ?_))
          · simp only [sumI]
            rw [emod_sub_tmod hm.pos]
            have h1 := dvd_emod_sub m (want - (P.getD j []).getD k 0 * x k)
            have h2 := Int.dvd_sub hd h1
            rwa [show want - ((P.getD j []).getD (n - 1) 0 - sumI k fun k => (P.getD j []).getD k 0 * x k) - (want - (P.getD j []).getD k 0 * x k - (want - (P.getD j []).getD k 0 * x k) % m)
              = (want - (P.getD j []).getD k 0 * x k) % m - ((P.getD j []).getD (n - 1) 0 - (sumI k (fun k => (P.getD j []).getD k 0 * x k) + (P.getD j []).getD k 0 * x k)) by omega] at h2
          first | refine WeakS.autoR ?_ | refine Weak.autoR ?_
          conv => whnf
          repeat' ((first | exact trivial | refine And.intro rfl ?_ | refine And.intro (eqV_int vAr) ?_ | refine And.intro vOb ?_ | refine And.intro vRepl ?_ | refine And.intro vReplL ?_ | refine And.intro ?_ ?_) <;> try (conv => whnf))
        · have hkj2 : k = j := by omega
          subst hkj2
          repeat' first | ((first | refine And.intro (Or.inl rfl) ?_ | (refine And.intro (fun h => ?_) (fun h => ?_) <;> (try simp only [cnt1, ints_length, rows_length, Tb_length] at h) <;> first | (exfalso; omega) | skip) | refine And.intro (show slotsOk _ = true by decide +kernel) ?_ | refine And.intro vOb ?_ | (apply Exists.intro; refine And.intro vObt ?_) | (apply Exists.intro; refine And.intro vObx ?_) | refine And.intro vArT ?_ | refine Or.inl ?_) <;> conv => whnf) | fail
          refine loop_atR Tryz.tabOk mixOrd (α := Nat) (fun t => [(11, dint t)]) (fun t => []) (fun t => (t : Int) < m ∧ ∀ s : Int, 0 ≤ s → s < t → ((P.getD k []).getD k 0 * s) % m ≠ want) (fun t => m.toNat - t) (0) ?_ ?_ ?_
          · exact ⟨by omega, fun s h1 h2 => by omega⟩
          · conv => whnf
            first | refine WeakS.autoR ?_ | refine Weak.autoR ?_
            conv => whnf
            repeat' ((first | exact trivial | refine And.intro rfl ?_ | refine And.intro (eqV_int vAr) ?_ | refine And.intro vOb ?_ | refine And.intro vRepl ?_ | refine And.intro vReplL ?_ | refine And.intro ?_ ?_) <;> try (conv => whnf))
          intro t ⟨ht, hlow⟩
          conv => whnf
          have r4 : 0 ≤ (P.getD k []).getD k 0 * (t : Int) := Int.mul_nonneg r2.1 (by omega)
          have r5 : (P.getD k []).getD k 0 * (t : Int) ≤ 10000 * 10000 := Int.mul_le_mul (by omega) (by omega) (by omega) (by omega)
          have r6 := Int.tmod_eq_emod_of_nonneg (b := m) r4
          have hpick : ((P.getD k []).getD k 0 * (t : Int)) % m = want ∨ (t : Int) = m - 1 → Pick m (n - 1) P (updI x k (t : Int)) k := fun h => pick_row hm.pos hjn hne hrb hw hd (by omega) hlow h
          repeat' first | ((first | refine And.intro (Or.inl rfl) ?_ | (apply Exists.intro; refine And.intro (vStoreT (i := k + 1) (j := n - k - 1) _ vIx (by first | omega | (simp only [place1, cnt1, rows_length, Tb_length]; omega)) (by omega)) ?_) | (refine And.intro (fun h => ?_) (fun h => ?_) <;> (try simp only [cnt1, ints_length, rows_length, Tb_length] at h) <;> first | (exfalso; omega) | skip) | refine And.intro (show slotsOk _ = true by decide +kernel) ?_ | refine And.intro vOb ?_ | (apply Exists.intro; refine And.intro vObt ?_) | (apply Exists.intro; refine And.intro vObx ?_) | refine And.intro vArT ?_ | refine And.intro (vLenM _ _) ?_ | refine Or.inl ?_) <;> conv => whnf) | fail
          · have hne2 : (P.getD k []).getD k 0 * (t : Int) % m ≠ want := by rw [← r6]; assumption
            refine Exists.intro (t + 1) (And.intro ⟨by omega, fun s h1 h2 => ?_⟩ (And.intro (by omega) ?_))
            · by_cases e : s < t
              · exact hlow s h1 e
              · rw [show s = t by omega]; exact hne2
            first | refine WeakS.autoR ?_ | refine Weak.autoR ?_
            conv => whnf
            repeat' ((first | exact trivial | refine And.intro rfl ?_ | refine And.intro (eqV_int vAr) ?_ | refine And.intro vOb ?_ | refine And.intro vRepl ?_ | refine And.intro vReplL ?_ | refine And.intro ?_ ?_) <;> try (conv => whnf))
          · have he : (P.getD k []).getD k 0 * (t : Int) % m = want := by rw [← r6]; exact Classical.not_not.1 (by assumption)
            refine Exists.intro (updI x k (t : Int), k + 1) (And.intro ⟨hpk3 _ (hpick (.inl he)), by simp only; omega⟩ (And.intro (by simp only; omega) ?_))
            first | refine WeakS.autoR ?_ | refine Weak.autoR ?_
            conv => whnf
            repeat' ((first | exact trivial | refine And.intro rfl ?_ | refine And.intro (eqV_int vAr) ?_ | refine And.intro vOb ?_ | refine And.intro vRepl ?_ | refine And.intro vReplL ?_ | refine And.intro ?_ ?_) <;> try (conv => whnf))
            · exact rows_congr (hset t (by omega) (by omega))
            · exact ints_congr lM_upd
          · refine Exists.intro (updI x k (t : Int), k + 1) (And.intro ⟨hpk3 _ (hpick (.inr (by omega))), by simp only; omega⟩ (And.intro (by simp only; omega) ?_))
            first | refine WeakS.autoR ?_ | refine Weak.autoR ?_
            conv => whnf
            repeat' ((first | exact trivial | refine And.intro rfl ?_ | refine And.intro (eqV_int vAr) ?_ | refine And.intro vOb ?_ | refine And.intro vRepl ?_ | refine And.intro vReplL ?_ | refine And.intro ?_ ?_) <;> try (conv => whnf))
            · exact rows_congr (hset t (by omega) (by omega))
            · exact ints_congr lM_upd
    · have hjn2 : j = n - 1 := by omega
      repeat' first | ((first | refine And.intro (Or.inl rfl) ?_ | (refine And.intro (fun h => ?_) (fun h => ?_) <;> (try simp only [cnt1, ints_length, rows_length, Tb_length] at h) <;> first | (exfalso; omega) | skip) | refine And.intro (show slotsOk _ = true by decide +kernel) ?_ | refine And.intro vOb ?_ | (apply Exists.intro; refine And.intro vObt ?_) | (apply Exists.intro; refine And.intro vObx ?_) | refine And.intro vArT ?_ | refine Or.inl ?_) <;> conv => whnf) | fail
      rw [hjn2] at hpk ⊢
      exact tbD_congr (greedy_first hm hn hv hMb hMs hP hpk)
  · have hM0 : M = [] := List.eq_nil_of_length_eq_zero (by omega); subst hM0; obtain ⟨P, hPe⟩ : ∃ P : List (List Int), P = List.replicate (n - 1) [] := ⟨_, rfl⟩; have hP : PivOk m (n - 1) (AllS m (n - 1) []) 0 [] P := hPe ▸ PivOk.empty m (n - 1)
    repeat' first | ((first | refine And.intro (Or.inl rfl) ?_ | (refine And.intro (fun h => ?_) (fun h => ?_) <;> (try simp only [cnt1, ints_length] at h)) | refine And.intro (show slotsOk _ = true by decide +kernel) ?_ | refine And.intro vOb ?_ | (apply Exists.intro; refine And.intro vObt ?_) | (apply Exists.intro; refine And.intro vObx ?_) | refine And.intro vArT ?_ | refine Or.inl ?_) <;> conv => whnf) | fail
    refine loop_atR Tryz.tabOk mixOrd (α := (Nat → Int) × Nat) (fun x => [(10, dint x.2), (8, .ref 2 [] 1 0 x.2), (7, .ref 1 [] 1 0 (n - 1)), (9, .undef), (11, .undef), (12, .undef), (13, .undef), (14, .undef), (15, .undef), (24, .undef), (27, .undef), (28, .undef), (32, .undef)]) (fun x => [(0, some ⟨false, 1, rows true (Tb (n + 1) (extJ f n x.2 x.1))⟩), (2, some ⟨false, 1, ints (lM x.2 x.1)⟩), (1, some ⟨false, 1, rows false P⟩)]) (fun x => (∀ j, j < x.2 → Pick m (n - 1) P x.1 j) ∧ x.2 ≤ n - 1) (fun x => n - 1 - x.2) ((fun _ => 0, 0)) ?_ ?_ ?_
    · exact ⟨fun j hj => by simp only at hj; omega, by simp only; omega⟩
    · conv => whnf
      (refine WeakS.of (Weak.nils (r := 1) (k := n - 1) rfl (by rw [show (((n + 1 : Nat) : Int) - 1 - 1).toNat = n - 1 by omega]; rfl)) ?_; rw [← hPe])
      first | refine WeakS.autoR ?_ | refine Weak.autoR ?_
      conv => whnf
      repeat' ((first | exact trivial | refine And.intro rfl ?_ | refine And.intro (eqV_int vAr) ?_ | refine And.intro vOb ?_ | refine And.intro vRepl ?_ | refine And.intro vReplL ?_ | refine And.intro ?_ ?_) <;> try (conv => whnf))
      exact rows_congr (extJ_zero f n _)
    intro ⟨x, j⟩ ⟨hpk, hj⟩
    simp only at hpk hj
    have hPl := hP.pl
    have hset : ∀ t : Int, j + 1 < n → 0 ≤ t ∧ t < m → setT (Tb (n + 1) (extJ f n j x)) (j + 1) (n - j - 1) t = Tb (n + 1) (extJ f n (j + 1) (updI x j t)) := fun t h1 h2 => setT_eq (Zm.mk m t) (Zm.val_of_range h2).symm (by omega) (extJ_step f x t h1)
    have hpk2 : ∀ t j', j' < j → Pick m (n - 1) P (updI x j t) j' := fun t j' h => Pick.congr (hpk j' h) (hP.pb j' (by omega) (by omega)) (fun i hi => if_neg (by omega))
    have hpk3 : ∀ t, Pick m (n - 1) P (updI x j t) j → ∀ j', j' < j + 1 → Pick m (n - 1) P (updI x j t) j' := fun t h j' hj' => by
      by_cases e : j' = j
      · rw [e]; exact h
      · exact hpk2 t j' (by omega)
    conv => whnf
    by_cases hjn : j < n - 1
    · by_cases hne : P.getD j [] = []
      · have hl0 : (P.getD j []).length = 0 := by rw [hne]; rfl
        repeat' first | ((first | refine And.intro (Or.inl rfl) ?_ | (apply Exists.intro; refine And.intro (vLoadF j vIx vAr) ?_) | (apply Exists.intro; refine And.intro (vStoreT (i := j + 1) (j := n - j - 1) _ vIx (by first | omega | (simp only [place1, cnt1, rows_length, Tb_length]; omega)) (by omega)) ?_) | (refine And.intro (fun h => ?_) (fun h => ?_) <;> (try simp only [cnt1, ints_length, rows_length, Tb_length] at h) <;> first | (exfalso; omega) | skip) | refine And.intro (show slotsOk _ = true by decide +kernel) ?_ | refine And.intro vOb ?_ | (apply Exists.intro; refine And.intro vObt ?_) | (apply Exists.intro; refine And.intro vObx ?_) | refine And.intro vArT ?_ | refine And.intro (vLenM _ _) ?_ | refine Or.inl ?_) <;> conv => whnf) | fail
        refine Exists.intro (updI x j 0, j + 1) (And.intro ⟨hpk3 0 (pick_none hm.pos hne), by simp only; omega⟩ (And.intro (by simp only; omega) ?_))
        first | refine WeakS.autoR ?_ | refine Weak.autoR ?_
        conv => whnf
        repeat' ((first | exact trivial | refine And.intro rfl ?_ | refine And.intro (eqV_int vAr) ?_ | refine And.intro vOb ?_ | refine And.intro vRepl ?_ | refine And.intro vReplL ?_ | refine And.intro ?_ ?_) <;> try (conv => whnf))
        · exact rows_congr (hset 0 (by omega) (by omega))
        · exact ints_congr lM_upd
      · have hrb := hP.pb j (by omega) hjn hne
        have hlen := hrb.len
        have hx : ∀ k, k < j → 0 ≤ x k ∧ x k < m := fun k hk => ⟨(hpk k hk).1, (hpk k hk).2.1⟩
        repeat' first | ((first | refine And.intro (Or.inl rfl) ?_ | (apply Exists.intro; refine And.intro (vLoadF j vIx vAr) ?_) | (refine And.intro (fun h => ?_) (fun h => ?_) <;> (try simp only [cnt1, ints_length, rows_length, Tb_length] at h) <;> first | (exfalso; omega) | skip) | refine And.intro (show slotsOk _ = true by decide +kernel) ?_ | refine And.intro vOb ?_ | (apply Exists.intro; refine And.intro vObt ?_) | (apply Exists.intro; refine And.intro vObx ?_) | refine And.intro vArT ?_ | refine Or.inl ?_) <;> conv => whnf) | fail
        refine loop_atR Tryz.tabOk mixOrd (α := Int × Nat) (fun y => [(14, dint y.2), (13, dint y.1)]) (fun y => []) (fun y => y.2 ≤ j ∧ (0 ≤ y.1 ∧ y.1 < m) ∧ m ∣ y.1 - ((P.getD j []).getD (n - 1) 0 - sumI y.2 (fun k => (P.getD j []).getD k 0 * x k))) (fun y => j - y.2) (((P.getD j []).getD (n - 1) 0, 0)) ?_ ?_ ?_
        · exact ⟨by simp only; omega, hrb.rng _, by simp only [sumI, Int.sub_zero, Int.sub_self]; exact Int.dvd_zero _⟩
        · conv => whnf
          first | refine WeakS.autoR ?_ | refine Weak.autoR ?_
          conv => whnf
          repeat' ((first | exact trivial | refine And.intro rfl ?_ | refine And.intro (eqV_int vAr) ?_ | refine And.intro vOb ?_ | refine And.intro vRepl ?_ | refine And.intro vReplL ?_ | refine And.intro ?_ ?_) <;> try (conv => whnf))
          rw [show (((n + 1 : Nat) : Int) - 1 - 1).toNat = n - 1 by omega]
        intro ⟨want, k⟩ ⟨hk, hw, hd⟩
        simp only at hk hw hd
        conv => whnf
        have r1 := hrb.rng k
        have r2 := hrb.rng j
        by_cases hkj : k < j
        · have r3 := hx k hkj
          have r4 : 0 ≤ (P.getD j []).getD k 0 * x k := Int.mul_nonneg r1.1 r3.1
          have r5 : (P.getD j []).getD k 0 * x k ≤ 10000 * 10000 := Int.mul_le_mul (by omega) (by omega) r3.1 (by omega)
          have r6 := Int.tmod_nonneg m r4
          have r7 := Int.tmod_lt_of_pos ((P.getD j []).getD k 0 * x k) (show 0 < m by omega)
          repeat' first | ((first | refine And.intro (Or.inl rfl) ?_ | (apply Exists.intro; refine And.intro (vLoadM k vIx vAr) ?_) | (apply Exists.intro; refine And.intro (c_l01Mod _ _ hm.pos (by omega)) ?_) | (refine And.intro (fun h => ?_) (fun h => ?_) <;> (try simp only [cnt1, ints_length, rows_length, Tb_length] at h) <;> first | (exfalso; omega) | skip) | refine And.intro (show slotsOk _ = true by decide +kernel) ?_ | refine And.intro vOb ?_ | (apply Exists.intro; refine And.intro vObt ?_) | (apply Exists.intro; refine And.intro vObx ?_) | refine And.intro vArT ?_ | refine Or.inl ?_) <;> conv => whnf) | fail
          refine Exists.intro ((want - ((P.getD j []).getD k 0 * x k).tmod m) % m, k + 1) (And.intro ⟨by simp only; omega, ⟨Int.emod_nonneg _ (by omega), Int.emod_lt_of_pos _ (by omega)⟩, ?_⟩ (And.intro (by simp only; omega) ?_))
          · simp only [sumI]
            rw [emod_sub_tmod hm.pos]
            have h1 := dvd_emod_sub m (want - (P.getD j []).getD k 0 * x k)
            have h2 := Int.dvd_sub hd h1
            rwa [show want - ((P.getD j []).getD (n - 1) 0 - sumI k fun k => (P.getD j []).getD k 0 * x k) - (want - (P.getD j []).getD k 0 * x k - (want - (P.getD j []).getD k 0 * x k) % m)
              = (want - (P.getD j []).getD k 0 * x k) % m - ((P.getD j []).getD (n - 1) 0 - (sumI k (fun k => (P.getD j []).getD k 0 * x k) + (P.getD j []).getD k 0 * x k)) by omega] at h2
          first | refine WeakS.autoR ?_ | refine Weak.autoR ?_
          conv => whnf
          repeat' ((first | exact trivial | refine And.intro rfl ?_ | refine And.intro (eqV_int vAr) ?_ | refine And.intro vOb ?_ | refine And.intro vRepl ?_ | refine And.intro vReplL ?_ | refine And.intro ?_ ?_) <;> try (conv => whnf))
        · have hkj2 : k = j := by omega
          subst hkj2
          repeat' first | ((first | refine And.intro (Or.inl rfl) ?_ | (refine And.intro (fun h => ?_) (fun h => ?_) <;> (try simp only [cnt1, ints_length, rows_length, Tb_length] at h) <;> first | (exfalso; omega) | skip) | refine And.intro (show slotsOk _ = true by decide +kernel) ?_ | refine And.intro vOb ?_ | (apply Exists.intro; refine And.intro vObt ?_) | (apply Exists.intro; refine And.intro vObx ?_) | refine And.intro vArT ?_ | refine Or.inl ?_) <;> conv => whnf) | fail
          refine loop_atR Tryz.tabOk mixOrd (α := Nat) (fun t => [(11, dint t)]) (fun t => []) (fun t => (t : Int) < m ∧ ∀ s : Int, 0 ≤ s → s < t → ((P.getD k []).getD k 0 * s) % m ≠ want) (fun t => m.toNat - t) (0) ?_ ?_ ?_
          · exact ⟨by omega, fun s h1 h2 => by omega⟩
          · conv => whnf
            first | refine WeakS.autoR ?_ | refine Weak.autoR ?_
            conv => whnf
            repeat' ((first | exact trivial | refine And.intro rfl ?_ | refine And.intro (eqV_int vAr) ?_ | refine And.intro vOb ?_ | refine And.intro vRepl ?_ | refine And.intro vReplL ?_ | refine And.intro ?_ ?_) <;> try (conv => whnf))
          intro t ⟨ht, hlow⟩
          conv => whnf
          have r4 : 0 ≤ (P.getD k []).getD k 0 * (t : Int) := Int.mul_nonneg r2.1 (by omega)
          have r5 : (P.getD k []).getD k 0 * (t : Int) ≤ 10000 * 10000 := Int.mul_le_mul (by omega) (by omega) (by omega) (by omega)
          have r6 := Int.tmod_eq_emod_of_nonneg (b := m) r4
          have hpick : ((P.getD k []).getD k 0 * (t : Int)) % m = want ∨ (t : Int) = m - 1 → Pick m (n - 1) P (updI x k (t : Int)) k := fun h => pick_row hm.pos hjn hne hrb hw hd (by omega) hlow h
          repeat' first | ((first | refine And.intro (Or.inl rfl) ?_ | (apply Exists.intro; refine And.intro (vStoreT (i := k + 1) (j := n - k - 1) _ vIx (by first | omega | (simp only [place1, cnt1, rows_length, Tb_length]; omega)) (by omega)) ?_) | (refine And.intro (fun h => ?_) (fun h => ?_) <;> (try simp only [cnt1, ints_length, rows_length, Tb_length] at h) <;> first | (exfalso; omega) | skip) | refine And.intro (show slotsOk _ = true by decide +kernel) ?_ | refine And.intro vOb ?_ | (apply Exists.intro; refine And.intro vObt ?_) | (apply Exists.intro; refine And.intro vObx ?_) | refine And.intro vArT ?_ | refine And.intro (vLenM _ _) ?_ | refine Or.inl ?_) <;> conv => whnf) | fail
          · have hne2 : (P.getD k []).getD k 0 * (t : Int) % m ≠ want := by rw [← r6]; assumption
            refine Exists.intro (t + 1) (And.intro ⟨by omega, fun s h1 h2 => ?_⟩ (And.intro (by omega) ?_))
            · by_cases e : s < t
              · exact hlow s h1 e
              · rw [show s = t by omega]; exact hne2
            first | refine WeakS.autoR ?_ | refine Weak.autoR ?_
            conv => whnf
            repeat' ((first | exact trivial | refine And.intro rfl ?_ | refine And.intro (eqV_int vAr) ?_ | refine And.intro vOb ?_ | refine And.intro vRepl ?_ | refine And.intro vReplL ?_ | refine And.intro ?_ ?_) <;> try (conv => whnf))
          · have he : (P.getD k []).getD k 0 * (t : Int) % m = want := by rw [← r6]; exact Classical.not_not.1 (by assumption)
            refine Exists.intro (updI x k (t : Int), k + 1) (And.intro ⟨hpk3 _ (hpick (.inl he)), by simp only; omega⟩ (And.intro (by simp only; omega) ?_))
            first | refine WeakS.autoR ?_ | refine Weak.autoR ?_
            conv => whnf
            repeat' ((first | exact trivial | refine And.intro rfl ?_ | refine And.intro (eqV_int vAr) ?_ | refine And.intro vOb ?_ | refine And.intro vRepl ?_ | refine And.intro vReplL ?_ | refine And.intro ?_ ?_) <;> try (conv => whnf))
            · exact rows_congr (hset t (by omega) (by omega))
            · exact ints_congr lM_upd
          · refine Exists.intro (updI x k (t : Int), k + 1) (And.intro ⟨hpk3 _ (hpick (.inr (by omega))), by simp only; omega⟩ (And.intro (by simp only; omega) ?_))
            first | refine WeakS.autoR ?_ | refine Weak.autoR ?_
            conv => whnf
            repeat' ((first | exact trivial | refine And.intro rfl ?_ | refine And.intro (eqV_int vAr) ?_ | refine And.intro vOb ?_ | refine And.intro vRepl ?_ | refine And.intro vReplL ?_ | refine And.intro ?_ ?_) <;> try (conv => whnf))
            · exact rows_congr (hset t (by omega) (by omega))
            · exact ints_congr lM_upd
    · have hjn2 : j = n - 1 := by omega
      repeat' first | ((first | refine And.intro (Or.inl rfl) ?_ | (refine And.intro (fun h => ?_) (fun h => ?_) <;> (try simp only [cnt1, ints_length, rows_length, Tb_length] at h) <;> first | (exfalso; omega) | skip) | refine And.intro (show slotsOk _ = true by decide +kernel) ?_ | refine And.intro vOb ?_ | (apply Exists.intro; refine And.intro vObt ?_) | (apply Exists.intro; refine And.intro vObx ?_) | refine And.intro vArT ?_ | refine Or.inl ?_) <;> conv => whnf) | fail
      rw [hjn2] at hpk ⊢
      exact tbD_congr (greedy_first hm hn hv hMb hMs hP hpk)
end Go.Proofs

