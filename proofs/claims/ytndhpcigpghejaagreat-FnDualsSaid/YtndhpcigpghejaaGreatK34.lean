import Derived.Test.YtndhpcigpghejaaGreatK33
namespace Go.Proofs
open Go Go.Vm Go.Fg Go.Fg.PS
set_option maxRecDepth 100000
set_option maxHeartbeats 4000000
set_option linter.unusedSimpArgs false
set_option linter.unusedVariables false
variable {m : Int}
def rkOf (n : Nat) (r : PS (Zm m)) : Nat := match (L n r).findIdx? (fun x => decide (x ≠ 0)) with
 | some i => i
 | none => 0
theorem rk_some {n q : Nat} {r : PS (Zm m)} (h : (L n r).findIdx? (fun x => decide (x ≠ 0)) = some q) : q < n ∧ (∀ i, i < q → r.c i = 0) ∧ r.c q ≠ 0 := by
 obtain ⟨hi, hp, hlt⟩ := List.findIdx?_eq_some_iff_getElem.1 h
 have hq : q < n := by simpa using hi
 refine ⟨hq, fun i h' => ?_, fun e => ?_⟩
 · have := hlt i h'
   rw [L_getElem] at this
   exact Zm.val_eq_zero.1 (by simpa using this)
 · rw [L_getElem] at hp
   exact of_decide_eq_true hp (Zm.val_eq_zero.2 e)
theorem rk_none {n : Nat} {r : PS (Zm m)} (h : (L n r).findIdx? (fun x => decide (x ≠ 0)) = none) : ∀ i, i < n → r.c i = 0 := fun i hi => by
 have := List.findIdx?_eq_none_iff.1 h ((L n r)[i]'(by simpa using hi)) (List.getElem_mem _)
 rw [L_getElem] at this
 exact Zm.val_eq_zero.1 (by simpa using this)
theorem rkOf_eq {n q : Nat} {r : PS (Zm m)} (hq : q < n) (h : ∀ i, i < q → r.c i = 0) (h2 : r.c q ≠ 0) : rkOf n r = q := by
 unfold rkOf
 cases e : (L n r).findIdx? (fun x => decide (x ≠ 0)) with
 | none => exact absurd (rk_none e q hq) h2
 | some i =>
   obtain ⟨h3, h4, h5⟩ := rk_some e
   simp only
   rcases Nat.lt_trichotomy i q with h' | h' | h'
   · exact absurd (h i h') h5
   · exact h'
   · exact absurd (h4 q h') h2
theorem rkOf_zero {n : Nat} {r : PS (Zm m)} (h : ∀ i, i < n → r.c i = 0) : rkOf n r = 0 := by
 unfold rkOf
 cases e : (L n r).findIdx? (fun x => decide (x ≠ 0)) with
 | none => rfl
 | some i =>
   obtain ⟨h3, h4, h5⟩ := rk_some e
   exact absurd (h i h3) h5
theorem rkOf_lt {n : Nat} {r : PS (Zm m)} (hn : 1 ≤ n) : rkOf n r < n := by
 unfold rkOf
 cases e : (L n r).findIdx? (fun x => decide (x ≠ 0)) with
 | none => exact hn
 | some i => exact (rk_some e).1
noncomputable def mulM (f : PS (PS (Zm m))) (n : Nat) : PS (Zm m) := Classical.choose (mul_ex f n m.toNat 0 PS.X)
theorem mulM_ok (f : PS (PS (Zm m))) (n : Nat) : Mul f n m.toNat 0 PS.X (mulM f n) := Classical.choose_spec (mul_ex f n m.toNat 0 PS.X)
noncomputable def rkM (f : PS (PS (Zm m))) (n : Nat) : Nat := rkOf n (mulM f n)
theorem mulM_0 {f : PS (PS (Zm m))} {n : Nat} (hn : 1 ≤ n) (hf : LawP f n) : (mulM f n).c 0 = 0 :=
 (mulM_ok f n).c0 (by rw [hf.1 0 (by omega)]; rfl) rfl rfl
theorem serB_LL (hm : Md m) {n : Nat} (hn : 2 ≤ n ∧ n ≤ 11) (a : PS (Zm m)) : serB m (L n a) = true := by
 simp only [serB, Bool.and_eq_true]
 refine ⟨⟨?_, ?_⟩, ?_⟩
 · simpa [inB, Md] using hm
 · simp [inB]; omega
 · refine numsB_of (fun j hj => ?_)
   rw [L_getD _ (by simpa using hj)]
   have := Zm.val_range hm.pos (a.c j)
   simp [inB]; omega
theorem c_Order1 (x : Int) : PureCall Tryz.prog 425 [dint x] (dbool (decide (x ≠ 0))) := by
 refine pure_of_vcR Tryz.tabOk mixOrd Tryz.func425 rfl rfl ?_
 conv => whnf
 repeat' first | ((first | refine z0 ?_ | (refine And.intro (fun h => ?_) (fun h => ?_) <;> (try simp only [cnt1, ints_length] at h)) | refine zS ?_ | refine zV ?_ | (apply zI; refine zP vObt ?_) | (apply zI; refine zP vObx ?_) | refine zA ?_ | refine Alt.fst ?_ | refine Or.inl ?_) <;> conv => whnf) | fail
 all_goals (refine dbool_congr ?_; first | rfl | (simp_all []; done) | (simp_all []; omega) | (simp_all []; intros; omega))
theorem c_OrderOfSeries (hm : Md m) (o : Bool) (n : Nat) (hn : 2 ≤ n ∧ n ≤ 11) (a : PS (Zm m)) : PureCall Tryz.prog 326 [SerD m o n a] (.tup [dint (rkOf n a), dint (match (L n a).findIdx? (fun x => decide (x ≠ 0)) with | some i => 0 | none => 5)]) := by
 have hs := c_IsSeries o m (L n a) (by simp; omega)
 rw [serB_LL hm hn a] at hs
 unfold rkOf
 refine pure_of_vcR Tryz.tabOk mixOrd Tryz.func326 rfl rfl ?_
 conv => whnf
 repeat' first | ((first | refine z0 ?_ | (apply zI; refine zP (hs) ?_) | (apply zI; refine zP (c_IndexFuncB 425 (fun x => decide (x ≠ 0)) (fun x => c_Order1 x) _ _ (by simp; omega)) ?_) | (refine And.intro (fun h => ?_) (fun h => ?_) <;> (try simp only [cnt1, ints_length] at h)) | refine Or.inl ?_) <;> conv => whnf) | fail
 · cases e : (L n a).findIdx? (fun x => decide (x ≠ 0)) with
   | none => rfl
   | some i => simp only [e] at h; exfalso; omega
 · cases e : (L n a).findIdx? (fun x => decide (x ≠ 0)) with
   | none => simp only [e] at h; exfalso; omega
   | some i => rfl
 · cases h
theorem c_byPrime (hm : Md m) (o p : Bool) (n : Nat) (hn : 2 ≤ n ∧ n ≤ 11) (f : PS (PS (Zm m))) : PureCall Tryz.prog 318 [PlD m o p n f] (.tup [SerD m true n (mulM f n), dint (rkM f n)]) := by
 have hm1 := hm.1
 have hm2 := hm.2
 have hr := mulM_ok f n
 have hlt : rkM f n < n := rkOf_lt (by omega)
 refine pure_of_vcR Tryz.tabOk mixOrd Tryz.func318 rfl rfl ?_
 conv => whnf
 repeat' first | ((first | refine z0 ?_ | (apply zI; refine zP (c_degreeP _ _ n vAr _) ?_) | (apply zI; refine zP (c_variable n vAr vAr hm) ?_) | (apply zI; refine zP (c_multiple hm _ _ _ n (by omega) f _ m.toNat (by omega) _ hr (by omega)) ?_) | (apply zI; refine zP (c_OrderOfSeries hm _ n hn _) ?_) | (refine And.intro (fun h => ?_) (fun h => ?_) <;> (try simp only [cnt1, ints_length] at h)) | refine zS ?_ | refine zV ?_ | (apply zI; refine zP vObx ?_) | refine Alt.fst ?_ | refine Or.inl ?_) <;> conv => whnf) | fail
 · have hz : rkM f n = 0 := by
     unfold rkM rkOf
     cases e : (L n (mulM f n)).findIdx? (fun x => decide (x ≠ 0)) with
     | none => rfl
     | some i => simp only [e] at h; exact absurd rfl h
   rw [hz]; rfl
 · rfl
theorem c_l17Rank (hm : Md m) (o p : Bool) (n : Nat) (hn : 2 ≤ n ∧ n ≤ 11) (f : PS (PS (Zm m))) (hf : LawP f n) : PureCall Tryz.prog 411 [PlD m o p n f] (dint (rkM f n)) := by
 have hm1 := hm.1
 have hm2 := hm.2
 have hr := mulM_ok f n
 have h0 := mulM_0 (by omega) hf
 have hof : PureCall Tryz.prog 251 [PlD m o p n f, dint m] (LD true n (mulM f n)) := by
   refine pure_of_vcR Tryz.tabOk mixOrd Tryz.func251 rfl rfl ?_
   conv => whnf
   repeat' first | ((first | refine z0 ?_ | (refine And.intro (fun h => ?_) (fun h => ?_) <;> (try simp only [cnt1, ints_length] at h)) | refine zS ?_ | refine zV ?_ | (apply zI; refine zP vObt ?_) | (apply zI; refine zP vObx ?_) | refine zA ?_ | refine Alt.fst ?_ | refine Or.inl ?_) <;> conv => whnf) | fail
   rw [show (List.replicate n 0).set 1 1 = L n (PS.X : PS (Zm m)) by rw [← L_zero (m := m)]; exact (L_set_eq (1 : Zm m) (Zm.val_one (by omega)).symm (Ag.of_eq (by ext k; rw [upd_c, X_c]; split <;> rfl)))]
   repeat' first | ((first | refine z0 ?_ | (apply zI; refine zP (c_l04Multiple hm _ _ _ n (by omega) f _ m.toNat (by omega) _ hr (by omega)) ?_) | refine zV ?_) <;> conv => whnf) | fail
 refine pure_of_vcR Tryz.tabOk mixOrd Tryz.func411 rfl rfl ?_
 conv => whnf
 repeat' first | ((first | (apply zI; refine zP (hof) ?_) | refine Or.inl ?_) <;> conv => whnf) | fail
 refine loop_atR Tryz.tabOk mixOrd (α := Nat) (fun q => [(4, dint ((q : Int) + 1))]) (fun q => []) (fun q => q + 1 ≤ n ∧ ∀ i, i ≤ q → (mulM f n).c i = 0) (fun q => n - q) (0) ?_ ?_ ?_
 · exact ⟨by omega, fun i hi => by rw [show i = 0 by omega]; exact h0⟩
 · conv => whnf
   first | refine WeakS.autoR ?_ | refine Weak.autoR ?_
   conv => whnf
   repeat' ((first | refine z1 ?_ | exact trivial) <;> try (conv => whnf))
 intro q ⟨hq, hz⟩
 conv => whnf
 repeat' first | ((first | refine z0 ?_ | (refine And.intro (fun h => ?_) (fun h => ?_) <;> (try simp only [cnt1, ints_length] at h)) | refine zS ?_ | refine zV ?_ | (apply zI; refine zP vObt ?_) | (apply zI; refine zP vObx ?_) | refine zA ?_ | refine Alt.fst ?_ | refine Or.inl ?_) <;> conv => whnf) | fail
 · have hq' : q + 1 < n := by simp only [L_length] at *; omega
   have hne : (mulM f n).c (q + 1) ≠ 0 := fun e => h (Zm.val_eq_zero.2 e)
   rw [show rkM f n = q + 1 from rkOf_eq hq' (fun i hi => hz i (by omega)) hne]
   rfl
 · have hq' : q + 1 < n := by simp only [L_length] at *; omega
   have he := Zm.val_eq_zero.1 (Classical.not_not.1 h)
   refine Exists.intro (q + 1) (And.intro ⟨by omega, fun i hi => ?_⟩ (And.intro (by omega) ?_))
   · rcases Nat.lt_or_ge i (q + 1) with h' | h'
     · exact hz i (by omega)
     · rw [show i = q + 1 by omega]; exact he
   first | refine WeakS.autoR ?_ | refine Weak.autoR ?_
   conv => whnf
   repeat' ((first | refine z1 ?_ | exact trivial) <;> try (conv => whnf))
 · have hq' : q + 1 = n := by simp only [L_length] at *; omega
   rw [show rkM f n = 0 from rkOf_zero (fun i hi => hz i (by omega))]
   rfl
noncomputable def htC (m : Int) (t : List (List Int)) : Int := if lawB m t then (if primB m then 0 else 5) else 1
theorem htC_0 {m : Int} {t : List (List Int)} (h : htC m t = 0) : lawB m t = true ∧ primB m = true := by
 unfold htC at h
 split at h
 · split at h
   · exact ⟨by assumption, by assumption⟩
   · omega
 · omega
theorem lawB_pl {m : Int} {t : List (List Int)} (h : lawB m t = true) : plB m t = true ∧ LawP (rd2 m t) t.length := by
 simp only [lawB, trL, Bool.and_eq_true, decide_eq_true_eq] at h
 exact h
noncomputable def rkT (m : Int) (t : List (List Int)) : Nat := rkM (rd2 m t) t.length
noncomputable def rkC (m : Int) (t : List (List Int)) : Int := if htC m t = 0 then (if rkT m t = 0 then 4 else 0) else htC m t
noncomputable def kC (m : Int) (t : List (List Int)) : Int := if rkC m t = 0 then (if 2 * ((rkT m t : Int) - 1) > (t.length : Int) - 1 then 3 else 0) else rkC m t
theorem c_heighted (o p : Bool) (m : Int) (t : List (List Int)) (hl : t.length ≤ 1048576) (hr : lensOk t) : PureCall Tryz.prog 313 [.agg [dint m, .list o 1 (rows p t)]] (dint (htC m t)) := by
 refine pure_of_vcR Tryz.tabOk mixOrd Tryz.func313 rfl rfl ?_
 conv => whnf
 repeat' first | ((first | refine z0 ?_ | (apply zI; refine zP (c_IsLaw _ _ _ _ hl hr) ?_) | (apply zI; refine zP (c_isTypicalPrime _) ?_) | (refine And.intro (fun h => ?_) (fun h => ?_) <;> (try simp only [cnt1, ints_length] at h)) | refine Or.inl ?_) <;> conv => whnf) | fail
 all_goals (refine congrArg dint ?_; simp_all [htC])
theorem c_ranked (o p : Bool) (m : Int) (t : List (List Int)) (hl : t.length ≤ 1048576) (hr : lensOk t) : PureCall Tryz.prog 308 [.agg [dint m, .list o 1 (rows p t)]] (.tup [dint (if rkC m t = 0 then rkT m t else 0 : Nat), dint (rkC m t)]) := by
 by_cases hc : htC m t = 0
 · obtain ⟨hb, _⟩ := htC_0 hc
   obtain ⟨hp, hlw⟩ := lawB_pl hb
   obtain ⟨hm, h2, h3, _⟩ := plB_md hp
   have key := c_byPrime hm o p t.length ⟨h2, h3⟩ (rd2 m t)
   simp only [PlD, plB_T hp] at key
   have hh := c_heighted o p m t hl hr
   rw [hc] at hh
   refine pure_of_vcR Tryz.tabOk mixOrd Tryz.func308 rfl rfl ?_
   conv => whnf
   repeat' first | ((first | refine z0 ?_ | (apply zI; refine zP (hh) ?_) | (apply zI; refine zP (key) ?_) | (refine And.intro (fun h => ?_) (fun h => ?_) <;> (try simp only [cnt1, ints_length] at h)) | refine Or.inl ?_) <;> conv => whnf) | fail
   · exact absurd rfl h
   · have hz : rkT m t = 0 := by show rkM (rd2 m t) t.length = 0; omega
     have h4 : rkC m t = 4 := by simp [rkC, hc, hz]
     rw [h4, if_neg (by omega)]; rfl
   · have hz : rkT m t ≠ 0 := by show rkM (rd2 m t) t.length ≠ 0; omega
     have h4 : rkC m t = 0 := by simp [rkC, hc, hz]
     rw [h4, if_pos rfl]; rfl
 · refine pure_of_vcR Tryz.tabOk mixOrd Tryz.func308 rfl rfl ?_
   conv => whnf
   repeat' first | ((first | refine z0 ?_ | (apply zI; refine zP (c_heighted _ _ _ _ hl hr) ?_) | (refine And.intro (fun h => ?_) (fun h => ?_) <;> (try simp only [cnt1, ints_length] at h)) | refine Or.inl ?_) <;> conv => whnf) | fail
   · have h4 : rkC m t = htC m t := by simp [rkC, hc]
     rw [h4, if_neg hc]; rfl
   · exact absurd (Classical.not_not.1 h) hc
theorem c_l17Code (o p : Bool) (m : Int) (t : List (List Int)) (hl : t.length ≤ 1048576) (hr : lensOk t) : PureCall Tryz.prog 299 [.agg [dint m, .list o 1 (rows p t)], dbool true] (.tup [dint (if kC m t = 0 then rkT m t else 0 : Nat), dint (kC m t)]) := by
 by_cases hc : htC m t = 0
 · obtain ⟨hb, hpr⟩ := htC_0 hc
   obtain ⟨hp, hlw⟩ := lawB_pl hb
   obtain ⟨hm, h2, h3, _⟩ := plB_md hp
   have key := c_l17Rank hm o p t.length ⟨h2, h3⟩ (rd2 m t) hlw
   simp only [PlD, plB_T hp] at key
   have hh := c_l04Is o p m t hl hr
   rw [hb] at hh
   have hpp : PureCall Tryz.prog 321 [dint m] (dbool true) := by
     rw [← hpr]
     refine pure_of_vcR Tryz.tabOk mixOrd Tryz.func321 rfl rfl ?_
     conv => whnf
     repeat' first | ((first | refine z0 ?_ | (refine And.intro (fun h => ?_) (fun h => ?_) <;> (try simp only [cnt1, ints_length] at h)) | refine zS ?_ | refine zV ?_ | (apply zI; refine zP vObt ?_) | (apply zI; refine zP vObx ?_) | refine zA ?_ | refine Alt.fst ?_ | refine Or.inl ?_) <;> conv => whnf) | fail
     all_goals (refine dbool_congr ?_; first | rfl | (simp_all [primB]; done) | (simp_all [primB]; omega) | (simp_all [primB]; intros; omega))
   have hdeg : PureCall Tryz.prog 364 [.agg [dint m, .list o 1 (rows p t)]] (dint (t.length - 1)) := by
     refine pure_of_vcR Tryz.tabOk mixOrd Tryz.func364 rfl rfl ?_
     conv => whnf
     repeat' first | ((first | refine z0 ?_ | (refine And.intro (fun h => ?_) (fun h => ?_) <;> (try simp only [cnt1, ints_length] at h)) | refine zS ?_ | refine zV ?_ | (apply zI; refine zP vObt ?_) | (apply zI; refine zP vObx ?_) | refine zA ?_ | refine Alt.fst ?_ | refine Or.inl ?_) <;> conv => whnf) | fail
     simp [cnt1]
   refine pure_of_vcR Tryz.tabOk mixOrd Tryz.func299 rfl rfl ?_
   conv => whnf
   have hlt : rkM (rd2 m t) t.length < t.length := rkOf_lt (by omega)
   repeat' first | ((first | refine z0 ?_ | (apply zI; refine zP (hh) ?_) | (apply zI; refine zP (hpp) ?_) | (apply zI; refine zP (key) ?_) | (apply zI; refine zP (hdeg) ?_) | (refine And.intro (fun h => ?_) (fun h => ?_) <;> (try simp only [cnt1, ints_length] at h)) | refine zV ?_ | refine Or.inl ?_) <;> conv => whnf) | fail
   · have hz : rkT m t = 0 := by show rkM (rd2 m t) t.length = 0; omega
     have h4 : kC m t = 4 := by simp [kC, rkC, hc, hz]
     rw [h4, if_neg (by omega)]; rfl
   · have hz : rkT m t ≠ 0 := by show rkM (rd2 m t) t.length ≠ 0; omega
     have h3 : 2 * ((rkT m t : Int) - 1) > (t.length : Int) - 1 := h
     have h4 : kC m t = 3 := by
       have : rkC m t = 0 := by simp [rkC, hc, hz]
       unfold kC; rw [if_pos this, if_pos h3]
     rw [h4, if_neg (by omega)]; rfl
   · have hz : rkT m t ≠ 0 := by show rkM (rd2 m t) t.length ≠ 0; omega
     have h3 : ¬ 2 * ((rkT m t : Int) - 1) > (t.length : Int) - 1 := h
     have h4 : kC m t = 0 := by
       have : rkC m t = 0 := by simp [rkC, hc, hz]
       unfold kC; rw [if_pos this, if_neg h3]
     rw [h4, if_pos rfl]; rfl
   all_goals cases h
 · have hpp : PureCall Tryz.prog 321 [dint m] (dbool (primB m)) := by
     refine pure_of_vcR Tryz.tabOk mixOrd Tryz.func321 rfl rfl ?_
     conv => whnf
     repeat' first | ((first | refine z0 ?_ | (refine And.intro (fun h => ?_) (fun h => ?_) <;> (try simp only [cnt1, ints_length] at h)) | refine zS ?_ | refine zV ?_ | (apply zI; refine zP vObt ?_) | (apply zI; refine zP vObx ?_) | refine zA ?_ | refine Alt.fst ?_ | refine Or.inl ?_) <;> conv => whnf) | fail
     all_goals (refine dbool_congr ?_; first | rfl | (simp_all [primB]; done) | (simp_all [primB]; omega) | (simp_all [primB]; intros; omega))
   refine pure_of_vcR Tryz.tabOk mixOrd Tryz.func299 rfl rfl ?_
   conv => whnf
   have h5 : kC m t = htC m t := by
     have h6 : rkC m t = htC m t := by simp [rkC, hc]
     unfold kC; rw [h6, if_neg hc]
   repeat' first | ((first | refine z0 ?_ | (apply zI; refine zP (c_l04Is _ _ _ _ hl hr) ?_) | (apply zI; refine zP (hpp) ?_) | (refine And.intro (fun h => ?_) (fun h => ?_) <;> (try simp only [cnt1, ints_length] at h)) | refine Or.inl ?_) <;> conv => whnf) | fail
   · exact absurd (by simp_all [htC]) hc
   · rw [h5, if_neg hc, show htC m t = 5 by simp_all [htC]]; rfl
   · rw [h5, if_neg hc, show htC m t = 1 by simp_all [htC]]; rfl
end Go.Proofs
