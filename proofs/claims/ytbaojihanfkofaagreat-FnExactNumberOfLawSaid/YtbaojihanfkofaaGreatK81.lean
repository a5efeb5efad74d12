/- Linear equations modulo a power of a prime: impl.local. -/
-- tables
-- rec
import Derived.Test.YtbaojihanfkofaaGreatK105
namespace Go.Proofs
open Go Go.Vm Go.Fg Go.Fg.PS
set_option maxRecDepth 100000
set_option maxHeartbeats 40000000
set_option linter.unusedSimpArgs false
set_option linter.unusedVariables false
variable {m : Int}
theorem c_local (p e : Nat) (hp : 2 ≤ p) (hpr : ∀ d, d ∣ p → d = 1 ∨ d = p) (he : 1 ≤ e) {q : Int} (hq : q = (p ^ e : Nat)) (hmd : Md q) (N u : Nat) (hN : N ≤ 1000) (hu : 1 ≤ u ∧ u ≤ 100) (M0 : Nat → Nat → Int) (hM0 : ∀ i j, i < N → j ≤ u → 0 ≤ M0 i j ∧ M0 i j < q)
    (y : Nat → Int) (hy : SolE q N u M0 (fun j => j) y) :
    CallsTo Tryz.prog 74 1 [.ref 1 [] 1 0 N, dint u, dint p, dint q] [none, some ⟨false, 1, rows true (tM N (u + 1) M0)⟩] (fun d rt => ∃ X : Nat → Int, (∀ i, i < u → 0 ≤ X i ∧ X i < q) ∧ SolE q N u M0 (fun j => j) X ∧ d = .ref 1 [] 1 0 u ∧ rt = [none, some ⟨false, 1, ints (lM u X)⟩]) := by
  have hm1 := hmd.1
  have hm2 := hmd.2
  have hpq : (p : Int) ≤ q := by
    rw [hq]
    have : p ^ 1 ≤ p ^ e := Nat.pow_le_pow_right (by omega) he
    rw [Nat.pow_one] at this
    omega
  refine callsTo_of Tryz.tabOk mixOrd 1 _ Tryz.func74 rfl rfl ?_
  conv => whnf
  repeat' first | ((first | refine And.intro (Or.inl rfl) ?_ | (refine And.intro (fun h => ?_) (fun h => ?_) <;> (try simp only [cnt1, ints_length] at h)) | refine And.intro (show slotsOk _ = true by decide +kernel) ?_ | refine And.intro vOb ?_ | (apply Exists.intro; refine And.intro vObt ?_) | (apply Exists.intro; refine And.intro vObx ?_) | refine And.intro vArT ?_ | refine Or.inl ?_) <;> conv => whnf) | fail
  refine loop_atR Tryz.tabOk mixOrd (α := Nat) (fun i => [(34, dint i), (9, .ref 2 [] 1 0 i), (32, .undef)]) (fun i => [(2, some ⟨false, 1, ints (lM i fun j => (j : Int))⟩)]) (fun i => i ≤ u) (fun i => u - i) (0) ?_ ?_ ?_
  · omega
  · conv => whnf
    first | refine WeakS.autoR ?_ | refine Weak.autoR ?_
    conv => whnf
    repeat' ((first | exact trivial | refine And.intro rfl ?_ | refine And.intro (eqV_int vAr) ?_ | refine And.intro vOb ?_ | refine And.intro vRepl ?_ | refine And.intro vReplL ?_ | refine And.intro ?_ ?_) <;> try (conv => whnf))
  intro i hi
  conv => whnf
  repeat' first | ((first | refine And.intro (Or.inl rfl) ?_ | (refine And.intro (fun h => ?_) (fun h => ?_) <;> (try simp only [cnt1, ints_length] at h)) | refine And.intro (show slotsOk _ = true by decide +kernel) ?_ | refine And.intro vOb ?_ | (apply Exists.intro; refine And.intro vObt ?_) | (apply Exists.intro; refine And.intro vObx ?_) | refine And.intro vArT ?_ | refine And.intro (one_lst _ _ _) ?_ | refine And.intro (vMl) ?_ | refine Or.inl ?_) <;> conv => whnf) | fail
  · refine Exists.intro (i + 1) (And.intro vAr (And.intro vAr ?_))
    first | refine WeakS.autoR ?_ | refine Weak.autoR ?_
    conv => whnf
    repeat' ((first | exact trivial | refine And.intro rfl ?_ | refine And.intro (eqV_int vAr) ?_ | refine And.intro vOb ?_ | refine And.intro vRepl ?_ | refine And.intro vReplL ?_ | refine And.intro ?_ ?_) <;> try (conv => whnf))
    all_goals exact congrArg ints (lM_push rfl)
  rw [show i = u by omega]
  refine loop_atR Tryz.tabOk mixOrd (α := (Nat → Nat → Int) × (Nat → Nat) × Nat) (fun x => [(11, dint x.2.2), (9, .ref 2 [] 1 0 u), (8, .undef), (32, .undef), (33, .undef), (34, .undef), (35, .undef)]) (fun x => [(1, some ⟨false, 1, rows true (tM N (u + 1) x.1)⟩), (2, some ⟨false, 1, ints (lM u fun j => (x.2.1 j : Int))⟩)]) (fun x => Elim q N u x.2.2 x.1 x.2.1 ∧ (∀ i j, i < N → j ≤ u → 0 ≤ x.1 i j ∧ x.1 i j < q) ∧ (∀ z, SolE q N u x.1 x.2.1 z → SolE q N u M0 (fun j => j) z) ∧ ∃ z, SolE q N u x.1 x.2.1 z) (fun x => u - x.2.2) ((M0, fun j => j, 0)) ?_ ?_ ?_
  · exact ⟨Elim.zero q N u M0, hM0, fun _ h => h, y, hy⟩
  · conv => whnf
    first | refine WeakS.autoR ?_ | refine Weak.autoR ?_
    conv => whnf
    repeat' ((first | exact trivial | refine And.intro rfl ?_ | refine And.intro (eqV_int vAr) ?_ | refine And.intro vOb ?_ | refine And.intro vRepl ?_ | refine And.intro vReplL ?_ | refine And.intro ?_ ?_) <;> try (conv => whnf))
  intro ⟨M, o, s⟩ ⟨hE, hM, hS, z, hz⟩
  simp only at hE hM hS hz
  have hsN := hE.sN
  have hsu := hE.su
  conv => whnf
  repeat' first | ((first | refine And.intro (Or.inl rfl) ?_ | (refine And.intro (fun h => ?_) (fun h => ?_) <;> (try simp only [cnt1, ints_length] at h)) | refine And.intro (show slotsOk _ = true by decide +kernel) ?_ | refine And.intro vOb ?_ | (apply Exists.intro; refine And.intro vObt ?_) | (apply Exists.intro; refine And.intro vObx ?_) | refine And.intro vArT ?_ | refine Or.inl ?_) <;> conv => whnf) | fail
  · have hsu2 : s < u := vAr
    refine loop_cut (fun b : Option (Nat × Nat) => few Tryz.f74.ntmps [(0, .ref 1 [] 1 0 N), (1, dint u), (2, dint p), (3, dint q), (9, .ref 2 [] 1 0 u), (11, dint s), (12, dint (bI b)), (13, dint (bJ b)), (14, dint (bV p M b))] [none, some ⟨false, 1, rows true (tM N (u + 1) M)⟩, some ⟨false, 1, ints (lM u fun j => (o j : Int))⟩]) (fun b => Best p M s u N s b) 4 (local_scan p hp hmd hpq N u hN hu M o s hsN hsu hsu2 hM) ?_ ?_
    · conv => whnf
      first | refine WeakS.autoR ?_ | refine Weak.autoR ?_
      conv => whnf
      repeat' ((first | exact trivial | refine And.intro rfl ?_ | refine And.intro (eqV_int vAr) ?_ | refine And.intro vOb ?_ | refine And.intro vRepl ?_ | refine And.intro vReplL ?_ | refine And.intro ?_ ?_) <;> try (conv => whnf))
    intro b hb
    conv => whnf
    repeat' first | ((first | refine And.intro (Or.inl rfl) ?_ | (refine And.intro (fun h => ?_) (fun h => ?_) <;> (try simp only [cnt1, ints_length] at h)) | refine And.intro (show slotsOk _ = true by decide +kernel) ?_ | refine And.intro vOb ?_ | (apply Exists.intro; refine And.intro vObt ?_) | (apply Exists.intro; refine And.intro vObx ?_) | refine And.intro vArT ?_ | refine Or.inl ?_) <;> conv => whnf) | fail
    · have hz0 : ∀ r j, s ≤ r → r < N → s ≤ j → j < u → M r j = 0 := fun r j h1 h2 h3 h4 => by
        cases b with
        | none => exact hb r j ⟨h1, h3, h4, .inl h2⟩
        | some x => exact absurd (show bI (some x) < 0 by assumption) (show ¬ ((x.1 : Nat) : Int) < 0 by omega)
      refine loop_cut (fun X : Nat → Int => few Tryz.f74.ntmps [(28, .ref 3 [] 1 0 u)] [none, none, none, some ⟨false, 1, ints (lM u X)⟩]) (fun X => (∀ i, i < u → 0 ≤ X i ∧ X i < q) ∧ SolE q N u M0 (fun j => j) X) 16 (local_back hmd N u hu M0 M o s hE hM hS z hz hz0) ?_ ?_
      · conv => whnf
        first | refine WeakS.autoR ?_ | refine Weak.autoR ?_
        conv => whnf
        repeat' ((first | exact trivial | refine And.intro rfl ?_ | refine And.intro (eqV_int vAr) ?_ | refine And.intro vOb ?_ | refine And.intro vRepl ?_ | refine And.intro vReplL ?_ | refine And.intro ?_ ?_) <;> try (conv => whnf))
        all_goals exact congrArg ints (lM_zeros u)
      intro X ⟨hX, hfin⟩
      conv => whnf
      repeat' first | ((first | refine And.intro (Or.inl rfl) ?_ | (refine And.intro (fun h => ?_) (fun h => ?_) <;> (try simp only [cnt1, ints_length] at h)) | refine And.intro (show slotsOk _ = true by decide +kernel) ?_ | refine And.intro vOb ?_ | (apply Exists.intro; refine And.intro vObt ?_) | (apply Exists.intro; refine And.intro vObx ?_) | refine And.intro vArT ?_ | refine Or.inl ?_) <;> conv => whnf) | fail
      have hwk := fun st => Weak.autoR (kp := 1) (st := st) (st2 := ⟨[.ref 1 [] 1 0 u], [none, some ⟨false, 1, ints (lM u X)⟩]⟩)
      refine ⟨.ref 1 [] 1 0 u, [none, some ⟨false, 1, ints (lM u X)⟩], ⟨X, hX, hfin, rfl, rfl⟩, hwk _ ?_⟩
      conv => whnf
      repeat' ((first | exact trivial | refine And.intro rfl ?_ | refine And.intro (eqV_int vAr) ?_ | refine And.intro vOb ?_ | refine And.intro ?_ ?_) <;> try (conv => whnf))
    · cases b with
      | none => exact absurd (show bI none < 0 by decide) (by assumption)
      | some x =>
        obtain ⟨a, c⟩ := x
        obtain ⟨i, hiN⟩ : ∃ i, i = N := ⟨_, rfl⟩
        subst hiN
        have hne : M a c ≠ 0 := hb.2.1
        have hsc := hb.1
        have hsa : s ≤ a ∧ a < i := ⟨hsc.1, by have h1 : a < i ∨ a = i ∧ c < s := hsc.2.2.2; have h2 : s ≤ c := hsc.2.1; omega⟩
        have hscc : s ≤ c ∧ c < u := ⟨hsc.2.1, hsc.2.2.1⟩
        have eI : bI (some (a, c)) = (a : Int) := rfl
        have eJ : bJ (some (a, c)) = (c : Int) := rfl
        refine ⟨1, (tM i (u + 1) M).map ints, by rw [lst_rows]; rfl, by omega, fun h0 => ?_, rfl, rfl, ?_⟩
        · have := congrArg List.length h0
          have h3 : (List.map ints (tM i (u + 1) M)).length = i := by rw [List.length_map, tM_length]
          rw [this] at h3
          simp at h3
          omega
        have hLr : ((tM i (u + 1) M).map ints).length = i := by rw [List.length_map, tM_length]
        refine drawP_to ?_
        generalize hrows : (tM i (u + 1) M).map ints = rws at *
        conv => whnf
        repeat' first | ((first | refine And.intro (Or.inl rfl) ?_ | (refine optK_of (rfs_at3 (i := a) vIx (by rw [hLr]; omega)) ?_) | (refine optK_of (rfs_at3 (i := s) vIx (by rw [hLr]; omega)) ?_) | (refine chk_of (rfs_ble (by rw [hLr]; exact vMl)) ?_) | (refine chk_of (rfs_ble2 (by rw [hLr]; exact vMl)) ?_) | (refine And.intro (fun h => ?_) (fun h => ?_) <;> (try simp only [cnt1, ints_length] at h)) | refine And.intro (show slotsOk _ = true by decide +kernel) ?_ | refine And.intro vOb ?_ | (apply Exists.intro; refine And.intro vObt ?_) | (apply Exists.intro; refine And.intro vObx ?_) | refine And.intro vArT ?_ | refine And.intro (vMl) ?_ | refine Or.inl ?_) <;> conv => whnf) | fail
        refine ⟨s, a, by rw [hLr]; omega, by rw [hLr]; omega, ?_, ?_⟩
        · refine Eq.trans (b := [none, some ⟨true, 1, ((rfsD 3 rws).set (0 + s) (.ref (a + 3) [] 1 0 (rws.getD a []).length)).set (0 + a) (.ref (s + 3) [] 1 0 (rws.getD s []).length)⟩, some ⟨false, 1, ints (lM u fun j => (o j : Int))⟩] ++ rowsRt rws) rfl ?_
          rw [Nat.zero_add, Nat.zero_add, Nat.add_comm a 3, Nat.add_comm s 3]
          rfl
        conv => whnf
        repeat' first | ((first | refine And.intro (Or.inl rfl) ?_ | (refine And.intro (fun h => ?_) (fun h => ?_) <;> (try simp only [cnt1, ints_length] at h)) | refine And.intro (show slotsOk _ = true by decide +kernel) ?_ | refine And.intro vOb ?_ | (apply Exists.intro; refine And.intro vObt ?_) | (apply Exists.intro; refine And.intro vObx ?_) | refine And.intro vArT ?_ | refine Or.inl ?_) <;> conv => whnf) | fail
        have hsw := sw_rows (M := M) hrows (a := s) (b := a) (by omega) (by omega)
        have hbest : ∀ r j, s ≤ r → r < i → s ≤ j → j < u → M r j ≠ 0 → valN p (M a c).toNat ≤ valN p (M r j).toNat := fun r j h1 h2 h3 h4 h5 => hb.2.2 r j ⟨h1, h3, h4, .inl h2⟩ h5
        obtain ⟨v, hh, hv, hve, hquo, hss, hr2, hdv, E3, hr3, hS3⟩ := pivot_step hp hpr hq hm1 hE hM hsa hscc hne hbest
        have hpv : ((p ^ v : Nat) : Int) ≠ 0 := by have := Nat.pow_pos (n := v) (show 0 < p by omega); omega
        have ksc := c_scale hmd p e v hp hq hve (V := bV p M (some (a, c))) (by rw [hv]; rfl)
        refine loop_atR Tryz.tabOk mixOrd (α := Nat) (fun k => [(101, dint k), (19, .undef)]) (fun k => [(1, some ⟨false, 1, rows true (tM i (u + 1) (colSw i u s a c M k))⟩)]) (fun k => k ≤ i) (fun k => i - k) (0) ?_ ?_ ?_
        · omega
        · conv => whnf
          first | refine WeakS.autoR ?_ | refine Weak.autoR ?_
          conv => whnf
          repeat' ((first | exact trivial | refine And.intro rfl ?_ | refine And.intro (eqV_int vAr) ?_ | refine And.intro vOb ?_ | refine And.intro vRepl ?_ | refine And.intro vReplL ?_ | refine And.intro ?_ ?_) <;> try (conv => whnf))
          all_goals exact hsw.trans (congrArg (rows true) (tM_congr (fun r j h1 _ => (if_neg (by omega)).symm)))
        intro k hk
        conv => whnf
        by_cases hki : k < i
        · repeat' first | ((first | refine And.intro (Or.inl rfl) ?_ | (apply Exists.intro; refine And.intro (vMatR (i := k) vIx hki) ?_) | (apply Exists.intro; refine And.intro (vMat (i := k) (j := c) vIx vIx hki (by omega)) ?_) | (apply Exists.intro; refine And.intro (vMat (i := k) (j := s) vIx vIx hki (by omega)) ?_) | (apply Exists.intro; refine And.intro (vStM (i := k) (j := s) _ vIx vIx hki (by omega)) ?_) | (apply Exists.intro; refine And.intro (vStM (i := k) (j := c) _ vIx vIx hki (by omega)) ?_) | (refine And.intro (fun h => ?_) (fun h => ?_) <;> (try simp only [cnt1, ints_length, rows_length, Tb_length, lM_length, tM_length] at h) <;> first | (exfalso; omega) | skip) | refine And.intro (show slotsOk _ = true by decide +kernel) ?_ | refine And.intro vOb ?_ | (apply Exists.intro; refine And.intro vObt ?_) | (apply Exists.intro; refine And.intro vObx ?_) | refine And.intro vArT ?_ | refine And.intro (vMl) ?_ | refine Or.inl ?_) <;> conv => whnf) | fail
          refine Exists.intro (k + 1) (And.intro (by omega) (And.intro (by omega) ?_))
          first | refine WeakS.autoR ?_ | refine Weak.autoR ?_
          conv => whnf
          repeat' ((first | exact trivial | refine And.intro rfl ?_ | refine And.intro (eqV_int vAr) ?_ | refine And.intro vOb ?_ | refine And.intro vRepl ?_ | refine And.intro vReplL ?_ | refine And.intro ?_ ?_) <;> try (conv => whnf))
          exact congrArg (rows true) (tM_congr (fun r j _ _ => colSw_step i u s a c M k hki hsu2 hscc.2 r j))
        · have hki2 : k = i := by omega
          subst hki2
          rw [colSw_all]
          generalize hM2 : swapM u s a c M = M2 at *
          have hr2s := hr2 s s (by omega) (by omega)
          have hMac := hM a c hsa.2 (by omega)
          have hqR : inR .i64 ((M2 s s).tdiv ((p ^ v : Nat) : Int)) := by
            rw [hss, Int.tdiv_eq_ediv_of_nonneg hMac.1]
            have h1 := Int.ediv_le_self ((p ^ v : Nat) : Int) hMac.1
            have h2 := Int.ediv_nonneg hMac.1 (Int.natCast_nonneg (p ^ v))
            exact inR64 (by omega) (by omega)
          repeat' first | ((first | refine And.intro (Or.inl rfl) ?_ | (apply Exists.intro; refine And.intro (vLdL (i := c) vIx hscc.2) ?_) | (apply Exists.intro; refine And.intro (vLdL (i := s) vIx hsu2) ?_) | (apply Exists.intro; refine And.intro (vStL (i := s) _ vIx hsu2) ?_) | (apply Exists.intro; refine And.intro (vStL (i := c) _ vIx hscc.2) ?_) | (apply Exists.intro; refine And.intro (vMatR (i := s) vIx (by omega)) ?_) | (apply Exists.intro; refine And.intro (vMat (i := s) (j := s) vIx vIx (by omega) (by omega)) ?_) | (apply Exists.intro; refine And.intro (ksc) ?_) | (apply Exists.intro; refine And.intro (c_inverse hmd _) ?_) | (refine And.intro (fun h => ?_) (fun h => ?_) <;> (try simp only [cnt1, ints_length, rows_length, Tb_length, lM_length, tM_length] at h) <;> first | (exfalso; omega) | skip) | refine And.intro (show slotsOk _ = true by decide +kernel) ?_ | refine And.intro vOb ?_ | (apply Exists.intro; refine And.intro vObt ?_) | (apply Exists.intro; refine And.intro vObx ?_) | refine And.intro vArT ?_ | refine And.intro (hpv) ?_ | refine And.intro (hqR) ?_ | refine And.intro (vMl) ?_ | refine Or.inl ?_) <;> conv => whnf) | fail
          have hUe : (M2 s s).tdiv ((p ^ v : Nat) : Int) = hh := by rw [hss]; exact hquo
          have hUr := Zm.val_range hmd.pos (invN q hh)
          refine loop_atR Tryz.tabOk mixOrd (α := Nat) (fun t => [(152, dint t), (23, .undef)]) (fun t => [(1, some ⟨false, 1, rows true (tM k (u + 1) (headM q (invN q hh).val s M2 t))⟩)]) (fun t => t ≤ u + 1) (fun t => u + 1 - t) (0) ?_ ?_ ?_
          · omega
          · conv => whnf
            first | refine WeakS.autoR ?_ | refine Weak.autoR ?_
            conv => whnf
            repeat' ((first | exact trivial | refine And.intro rfl ?_ | refine And.intro (eqV_int vAr) ?_ | refine And.intro vOb ?_ | refine And.intro vRepl ?_ | refine And.intro vReplL ?_ | refine And.intro ?_ ?_) <;> try (conv => whnf))
            all_goals exact congrArg (rows true) (tM_congr (fun r j _ _ => (if_neg (by omega)).symm))
          intro t ht
          conv => whnf
          rw [hUe]
          by_cases htu : t < u + 1
          · have hx : headM q (invN q hh).val s M2 t s t = M2 s t := if_neg (by omega)
            have hxr := hr2 s t (by omega) (by omega)
            have y1 : 0 ≤ headM q (invN q hh).val s M2 t s t * (invN q hh).val := by rw [hx]; exact Int.mul_nonneg hxr.1 hUr.1
            have y2 : headM q (invN q hh).val s M2 t s t * (invN q hh).val ≤ 10000 * 10000 := by rw [hx]; exact Int.mul_le_mul (by omega) (by omega) hUr.1 (by omega)
            repeat' first | ((first | refine And.intro (Or.inl rfl) ?_ | (apply Exists.intro; refine And.intro (vMat (i := s) (j := t) vIx vIx (by omega) htu) ?_) | (apply Exists.intro; refine And.intro (vStM (i := s) (j := t) _ vIx vIx (by omega) htu) ?_) | (refine And.intro (fun h => ?_) (fun h => ?_) <;> (try simp only [cnt1, ints_length, rows_length, Tb_length, lM_length, tM_length] at h) <;> first | (exfalso; omega) | skip) | refine And.intro (show slotsOk _ = true by decide +kernel) ?_ | refine And.intro vOb ?_ | (apply Exists.intro; refine And.intro vObt ?_) | (apply Exists.intro; refine And.intro vObx ?_) | refine And.intro vArT ?_ | refine And.intro (vMl) ?_ | refine Or.inl ?_) <;> conv => whnf) | fail
            refine Exists.intro (t + 1) (And.intro (by omega) (And.intro (by omega) ?_))
            first | refine WeakS.autoR ?_ | refine Weak.autoR ?_
            conv => whnf
            repeat' ((first | exact trivial | refine And.intro rfl ?_ | refine And.intro (eqV_int vAr) ?_ | refine And.intro vOb ?_ | refine And.intro vRepl ?_ | refine And.intro vReplL ?_ | refine And.intro ?_ ?_) <;> try (conv => whnf))
            exact congrArg (rows true) (tM_congr (fun r j _ _ => headM_step hxr.1 hUr.1 r j))
          · have htu2 : t = u + 1 := by omega
            subst htu2
            repeat' first | ((first | refine And.intro (Or.inl rfl) ?_ | (refine And.intro (fun h => ?_) (fun h => ?_) <;> (try simp only [cnt1, ints_length, rows_length, Tb_length, lM_length, tM_length] at h) <;> first | (exfalso; omega) | skip) | refine And.intro (show slotsOk _ = true by decide +kernel) ?_ | refine And.intro vOb ?_ | (apply Exists.intro; refine And.intro vObt ?_) | (apply Exists.intro; refine And.intro vObx ?_) | refine And.intro vArT ?_ | refine And.intro (vMl) ?_ | refine Or.inl ?_) <;> conv => whnf) | fail
            rw [show headM q (invN q hh).val s M2 (u + 1) = headF q (invN q hh).val s u M2 from rfl]
            have hs1 : s + 1 ≤ k := by omega
            refine loop_cut (fun _ : Unit => few Tryz.f74.ntmps [(0, .ref 1 [] 1 0 k), (1, dint u), (2, dint p), (3, dint q), (9, .ref 2 [] 1 0 u), (11, dint s)] [none, some ⟨false, 1, rows true (tM k (u + 1) (stepM q ((p ^ v : Nat) : Int) (invN q hh).val s M2))⟩, some ⟨false, 1, ints (lM u fun j => (o (swp s c j) : Int))⟩]) (fun _ => True) 12 (local_rows hmd k u hN hu M2 (fun j => o (swp s c j)) s p v hh hs1 hsu2 hpv hr2) ?_ ?_
            · conv => whnf
              first | refine WeakS.autoR ?_ | refine Weak.autoR ?_
              conv => whnf
              repeat' ((first | exact trivial | refine And.intro rfl ?_ | refine And.intro (eqV_int vAr) ?_ | refine And.intro vOb ?_ | refine And.intro vRepl ?_ | refine And.intro vReplL ?_ | refine And.intro ?_ ?_) <;> try (conv => whnf))
              all_goals first | exact congrArg ints (lM_congr (fun j _ => ord_step o s c j)) | (simp [place1, cnt1]; done) | (simp [place1, cnt1]; omega) | omega
            intro _ _
            conv => whnf
            repeat' first | ((first | refine And.intro (Or.inl rfl) ?_ | (refine And.intro (fun h => ?_) (fun h => ?_) <;> (try simp only [cnt1, ints_length] at h)) | refine And.intro (show slotsOk _ = true by decide +kernel) ?_ | refine And.intro vOb ?_ | (apply Exists.intro; refine And.intro vObt ?_) | (apply Exists.intro; refine And.intro vObx ?_) | refine And.intro vArT ?_ | refine Or.inl ?_) <;> conv => whnf) | fail
            refine Exists.intro (stepM q ((p ^ v : Nat) : Int) (invN q hh).val s M2, fun j => o (swp s c j), s + 1) (And.intro ⟨E3, hr3, fun z hz => hS z ((hS3 z).1 hz), z, (hS3 z).2 hz⟩ (And.intro (by simp only; omega) ?_))
            first | refine WeakS.autoR ?_ | refine Weak.autoR ?_
            conv => whnf
            repeat' ((first | exact trivial | refine And.intro rfl ?_ | refine And.intro (eqV_int vAr) ?_ | refine And.intro vOb ?_ | refine And.intro vRepl ?_ | refine And.intro vReplL ?_ | refine And.intro ?_ ?_) <;> try (conv => whnf))
  · have hsu3 : s = u := by omega
    have hz0 : ∀ r j, s ≤ r → r < N → s ≤ j → j < u → M r j = 0 := fun r j h1 h2 h3 h4 => by omega
    refine loop_cut (fun X : Nat → Int => few Tryz.f74.ntmps [(28, .ref 3 [] 1 0 u)] [none, none, none, some ⟨false, 1, ints (lM u X)⟩]) (fun X => (∀ i, i < u → 0 ≤ X i ∧ X i < q) ∧ SolE q N u M0 (fun j => j) X) 16 (local_back hmd N u hu M0 M o s hE hM hS z hz hz0) ?_ ?_
    · conv => whnf
      first | refine WeakS.autoR ?_ | refine Weak.autoR ?_
      conv => whnf
      repeat' ((first | exact trivial | refine And.intro rfl ?_ | refine And.intro (eqV_int vAr) ?_ | refine And.intro vOb ?_ | refine And.intro vRepl ?_ | refine And.intro vReplL ?_ | refine And.intro ?_ ?_) <;> try (conv => whnf))
      all_goals exact congrArg ints (lM_zeros u)
    intro X ⟨hX, hfin⟩
    conv => whnf
    repeat' first | ((first | refine And.intro (Or.inl rfl) ?_ | (refine And.intro (fun h => ?_) (fun h => ?_) <;> (try simp only [cnt1, ints_length] at h)) | refine And.intro (show slotsOk _ = true by decide +kernel) ?_ | refine And.intro vOb ?_ | (apply Exists.intro; refine And.intro vObt ?_) | (apply Exists.intro; refine And.intro vObx ?_) | refine And.intro vArT ?_ | refine Or.inl ?_) <;> conv => whnf) | fail
    have hwk := fun st => Weak.autoR (kp := 1) (st := st) (st2 := ⟨[.ref 1 [] 1 0 u], [none, some ⟨false, 1, ints (lM u X)⟩]⟩)
    refine ⟨.ref 1 [] 1 0 u, [none, some ⟨false, 1, ints (lM u X)⟩], ⟨X, hX, hfin, rfl, rfl⟩, hwk _ ?_⟩
    conv => whnf
    repeat' ((first | exact trivial | refine And.intro rfl ?_ | refine And.intro (eqV_int vAr) ?_ | refine And.intro vOb ?_ | refine And.intro ?_ ?_) <;> try (conv => whnf))
end Go.Proofs

