/- Parts of the proof. -/
import Derived.Test.YtghcpginhamelaaGreatK33
import Derived.Test.YtghcpginhamelaaGreatAlg9
namespace Go.Proofs
open Go Go.Vm Go.Fg Go.Fg.PS
set_option maxRecDepth 100000
set_option maxHeartbeats 4000000
set_option linter.unusedSimpArgs false
set_option linter.unusedVariables false
variable {m : Int}
def gY (n : Nat) (r : PS (Zm m)) : Nat := match (L n r).findIdx? (fun x => decide (x ≠ 0)) with
 | some i => i
 | none => 0
theorem tD {n q : Nat} {r : PS (Zm m)} (h : (L n r).findIdx? (fun x => decide (x ≠ 0)) = some q) : q < n ∧ (∀ i, i < q → r.c i = 0) ∧ r.c q ≠ 0 := by
 obtain ⟨hi, hp, hlt⟩ := List.findIdx?_eq_some_iff_getElem.1 h
 have hq : q < n := by simpa using hi
 refine ⟨hq, fun i h' => ?_, fun e => ?_⟩
 · have := hlt i h'
   rw [lU] at this
   exact Zm.val_eq_zero.1 (by simpa using this)
 · rw [lU] at hp
   exact of_decide_eq_true hp (Zm.val_eq_zero.2 e)
theorem Arp {n : Nat} {r : PS (Zm m)} (h : (L n r).findIdx? (fun x => decide (x ≠ 0)) = none) : ∀ i, i < n → r.c i = 0 := fun i hi => by
 have := List.findIdx?_eq_none_iff.1 h ((L n r)[i]'(by simpa using hi)) (List.getElem_mem _)
 rw [lU] at this
 exact Zm.val_eq_zero.1 (by simpa using this)
theorem Aru {n q : Nat} {r : PS (Zm m)} (hq : q < n) (h : ∀ i, i < q → r.c i = 0) (h2 : r.c q ≠ 0) : gY n r = q := by
 unfold gY
 cases e : (L n r).findIdx? (fun x => decide (x ≠ 0)) with
 | none => exact absurd (Arp e q hq) h2
 | some i =>
   obtain ⟨h3, h4, h5⟩ := tD e
   simp only
   rcases Nat.lt_trichotomy i q with h' | h' | h'
   · exact absurd (h i h') h5
   · exact h'
   · exact absurd (h4 q h') h2
theorem Amr {n : Nat} {r : PS (Zm m)} (h : ∀ i, i < n → r.c i = 0) : gY n r = 0 := by
 unfold gY
 cases e : (L n r).findIdx? (fun x => decide (x ≠ 0)) with
 | none => rfl
 | some i =>
   obtain ⟨h3, h4, h5⟩ := tD e
   exact absurd (h i h3) h5
theorem nL {n : Nat} {r : PS (Zm m)} (hn : 1 ≤ n) : gY n r < n := by
 unfold gY
 cases e : (L n r).findIdx? (fun x => decide (x ≠ 0)) with
 | none => exact hn
 | some i => exact (tD e).1
noncomputable def iF (f : PS (PS (Zm m))) (n : Nat) : PS (Zm m) := Classical.choose (Afg f n m.toNat 0 PS.X)
theorem uZ (f : PS (PS (Zm m))) (n : Nat) : Mul f n m.toNat 0 PS.X (iF f n) := Classical.choose_spec (Afg f n m.toNat 0 PS.X)
noncomputable def fW (f : PS (PS (Zm m))) (n : Nat) : Nat := gY n (iF f n)
theorem Y5 {f : PS (PS (Zm m))} {n : Nat} (hn : 1 ≤ n) (hf : mL f n) : (iF f n).c 0 = 0 :=
 (uZ f n).c0 (by rw [hf.1 0 (by omega)]; rfl) rfl rfl
theorem Aj0 (hm : Md m) {n : Nat} (hn : 2 ≤ n ∧ n ≤ 11) (a : PS (Zm m)) : C3 m (L n a) = true := by
 simp only [C3, Bool.and_eq_true]
 refine ⟨⟨?_, ?_⟩, ?_⟩
 · simpa [cD, Md] using hm
 · simp [cD]; omega
 · refine T9 (fun j hj => ?_)
   rw [nE _ (by simpa using hj)]
   have := Zm.val_range hm.pos (a.c j)
   simp [cD]; omega
theorem Alh (x : Int) : aL Tryz.prog 340 [aA x] (bD (decide (x ≠ 0))) := by
 refine aX Tryz.tabOk aE Tryz.func340 rfl rfl ?_
 conv => whnf
 repeat' first | ((first | refine z0 ?_ | (refine zP (fun h => ?_) (fun h => ?_) <;> (try simp only [aB, aD] at h)) | refine zS ?_ | refine zV ?_ | (apply zI; refine zP aK ?_) | (apply zI; refine zP aH ?_) | refine zA ?_ | refine Alt.fst ?_ | refine Or.inl ?_) <;> conv => whnf) | fail
 all_goals (refine bO ?_; first | rfl | (simp_all []; done) | (simp_all []; omega) | (simp_all []; intros; omega))
theorem Arz (hm : Md m) (o : Bool) (n : Nat) (hn : 2 ≤ n ∧ n ≤ 11) (a : PS (Zm m)) : aL Tryz.prog 332 [eI m o n a] (.tup [aA (gY n a), aA (match (L n a).findIdx? (fun x => decide (x ≠ 0)) with | some i => 0 | none => 5)]) := by
 have hs := Aql o m (L n a) (by simp; omega)
 rw [Aj0 hm hn a] at hs
 unfold gY
 refine aX Tryz.tabOk aE Tryz.func332 rfl rfl ?_
 conv => whnf
 repeat' first | ((first | refine z0 ?_ | (apply zI; refine zP (hs) ?_) | (apply zI; refine zP (Ao0 340 (fun x => decide (x ≠ 0)) (fun x => Alh x) _ _ (by simp; omega)) ?_) | (refine zP (fun h => ?_) (fun h => ?_) <;> (try simp only [aB, aD] at h)) | refine Or.inl ?_) <;> conv => whnf) | fail
 · cases e : (L n a).findIdx? (fun x => decide (x ≠ 0)) with
   | none => rfl
   | some i => simp only [e] at h; exfalso; omega
 · cases e : (L n a).findIdx? (fun x => decide (x ≠ 0)) with
   | none => simp only [e] at h; exfalso; omega
   | some i => rfl
 · cases h
theorem Ajr (hm : Md m) (o p : Bool) (n : Nat) (hn : 2 ≤ n ∧ n ≤ 11) (f : PS (PS (Zm m))) : aL Tryz.prog 294 [cI m o p n f] (.tup [eI m true n (iF f n), aA (fW f n)]) := by
 have hm1 := hm.1
 have hm2 := hm.2
 have hr := uZ f n
 have hlt : fW f n < n := nL (by omega)
 refine aX Tryz.tabOk aE Tryz.func294 rfl rfl ?_
 conv => whnf
 repeat' first | ((first | refine z0 ?_ | (apply zI; refine zP (iM _ _ n aF _) ?_) | (apply zI; refine zP (Y7 n aF aF hm) ?_) | (apply zI; refine zP (Ald hm _ _ _ n (by omega) f _ m.toNat (by omega) _ hr (by omega)) ?_) | (apply zI; refine zP (Arz hm _ n hn _) ?_) | (refine zP (fun h => ?_) (fun h => ?_) <;> (try simp only [aB, aD] at h)) | refine zS ?_ | refine zV ?_ | (apply zI; refine zP aH ?_) | refine Alt.fst ?_ | refine Or.inl ?_) <;> conv => whnf) | fail
 · have hz : fW f n = 0 := by
     unfold fW gY
     cases e : (L n (iF f n)).findIdx? (fun x => decide (x ≠ 0)) with
     | none => rfl
     | some i => simp only [e] at h; exact absurd rfl h
   rw [hz]; rfl
 · rfl
theorem Ac3 (hm : Md m) (o p : Bool) (n : Nat) (hn : 2 ≤ n ∧ n ≤ 11) (f : PS (PS (Zm m))) (hf : mL f n) : aL Tryz.prog 287 [cI m o p n f] (aA (fW f n)) := by
 have hm1 := hm.1
 have hm2 := hm.2
 have hr := uZ f n
 have h0 := Y5 (by omega) hf
 have hof : aL Tryz.prog 149 [cI m o p n f, aA m] (LD true n (iF f n)) := by
   refine aX Tryz.tabOk aE Tryz.func149 rfl rfl ?_
   conv => whnf
   repeat' first | ((first | refine z0 ?_ | (refine zP (fun h => ?_) (fun h => ?_) <;> (try simp only [aB, aD] at h)) | refine zS ?_ | refine zV ?_ | (apply zI; refine zP aK ?_) | (apply zI; refine zP aH ?_) | refine zA ?_ | refine Alt.fst ?_ | refine Or.inl ?_) <;> conv => whnf) | fail
   rw [show (List.replicate n 0).set 1 1 = L n (PS.X : PS (Zm m)) by rw [← fT (m := m)]; exact (eW (1 : Zm m) (Zm.val_one (by omega)).symm (Ag.of_eq (by ext k; rw [cL, qN]; split <;> rfl)))]
   repeat' first | ((first | refine z0 ?_ | (apply zI; refine zP (An0 hm _ _ _ n (by omega) f _ m.toNat (by omega) _ hr (by omega)) ?_) | refine zV ?_) <;> conv => whnf) | fail
 refine aX Tryz.tabOk aE Tryz.func287 rfl rfl ?_
 conv => whnf
 repeat' first | ((first | (apply zI; refine zP (hof) ?_) | refine Or.inl ?_) <;> conv => whnf) | fail
 refine aR Tryz.tabOk aE (α := Nat) (fun q => [(4, aA ((q : Int) + 1))]) (fun q => []) (fun q => q + 1 ≤ n ∧ ∀ i, i ≤ q → (iF f n).c i = 0) (fun q => n - q) (0) ?_ ?_ ?_
 · exact ⟨by omega, fun i hi => by rw [show i = 0 by omega]; exact h0⟩
 · conv => whnf
   first | refine aG.autoR ?_ | refine aC.autoR ?_
   conv => whnf
   repeat' ((first | refine z1 ?_ | refine zP ?_ ?_ | exact trivial) <;> try (conv => whnf))
 intro q ⟨hq, hz⟩
 conv => whnf
 repeat' first | ((first | refine z0 ?_ | (refine zP (fun h => ?_) (fun h => ?_) <;> (try simp only [aB, aD] at h)) | refine zS ?_ | refine zV ?_ | (apply zI; refine zP aK ?_) | (apply zI; refine zP aH ?_) | refine zA ?_ | refine Alt.fst ?_ | refine Or.inl ?_) <;> conv => whnf) | fail
 · have hq' : q + 1 < n := by simp only [aV] at *; omega
   have hne : (iF f n).c (q + 1) ≠ 0 := fun e => h (Zm.val_eq_zero.2 e)
   rw [show fW f n = q + 1 from Aru hq' (fun i hi => hz i (by omega)) hne]
   rfl
 · have hq' : q + 1 < n := by simp only [aV] at *; omega
   have he := Zm.val_eq_zero.1 (Classical.not_not.1 h)
   refine Exists.intro (q + 1) (zP ⟨by omega, fun i hi => ?_⟩ (zP (by omega) ?_))
   · rcases Nat.lt_or_ge i (q + 1) with h' | h'
     · exact hz i (by omega)
     · rw [show i = q + 1 by omega]; exact he
   first | refine aG.autoR ?_ | refine aC.autoR ?_
   conv => whnf
   repeat' ((first | refine z1 ?_ | refine zP ?_ ?_ | exact trivial) <;> try (conv => whnf))
 · have hq' : q + 1 = n := by simp only [aV] at *; omega
   rw [show fW f n = 0 from Amr (fun i hi => hz i (by omega))]
   rfl
noncomputable def cT (m : Int) (t : List (List Int)) : Int := if gF m t then (if dU m then 0 else 5) else 1
theorem fN {m : Int} {t : List (List Int)} (h : cT m t = 0) : gF m t = true ∧ dU m = true := by
 unfold cT at h
 split at h
 · split at h
   · exact ⟨by assumption, by assumption⟩
   · omega
 · omega
theorem hO {m : Int} {t : List (List Int)} (h : gF m t = true) : eV m t = true ∧ mL (aZ m t) t.length := by
 simp only [gF, mQ, Bool.and_eq_true, decide_eq_true_eq] at h
 exact h
noncomputable def aI (m : Int) (t : List (List Int)) : Nat := fW (aZ m t) t.length
noncomputable def bW (m : Int) (t : List (List Int)) : Int := if cT m t = 0 then (if aI m t = 0 then 4 else 0) else cT m t
noncomputable def kC (m : Int) (t : List (List Int)) : Int := if bW m t = 0 then (if 2 * ((aI m t : Int) - 1) > (t.length : Int) - 1 then 3 else 0) else bW m t
theorem Afu (o p : Bool) (m : Int) (t : List (List Int)) (hl : t.length ≤ 1048576) (hr : dP t) : aL Tryz.prog 293 [.agg [aA m, .list o 1 (rows p t)]] (aA (cT m t)) := by
 refine aX Tryz.tabOk aE Tryz.func293 rfl rfl ?_
 conv => whnf
 repeat' first | ((first | refine z0 ?_ | (apply zI; refine zP (Aid _ _ _ _ hl hr) ?_) | (apply zI; refine zP (Ahy _) ?_) | (refine zP (fun h => ?_) (fun h => ?_) <;> (try simp only [aB, aD] at h)) | refine Or.inl ?_) <;> conv => whnf) | fail
 all_goals (refine congrArg aA ?_; simp_all [cT])
theorem jP (o p : Bool) (m : Int) (t : List (List Int)) (hl : t.length ≤ 1048576) (hr : dP t) : aL Tryz.prog 206 [.agg [aA m, .list o 1 (rows p t)]] (.tup [aA (if bW m t = 0 then aI m t else 0 : Nat), aA (bW m t)]) := by
 by_cases hc : cT m t = 0
 · obtain ⟨hb, _⟩ := fN hc
   obtain ⟨hp, hlw⟩ := hO hb
   obtain ⟨hm, h2, h3, _⟩ := fI hp
   have key := Ajr hm o p t.length ⟨h2, h3⟩ (aZ m t)
   simp only [cI, dY hp] at key
   have hh := Afu o p m t hl hr
   rw [hc] at hh
   refine aX Tryz.tabOk aE Tryz.func206 rfl rfl ?_
   conv => whnf
   repeat' first | ((first | refine z0 ?_ | (apply zI; refine zP (hh) ?_) | (apply zI; refine zP (key) ?_) | (refine zP (fun h => ?_) (fun h => ?_) <;> (try simp only [aB, aD] at h)) | refine Or.inl ?_) <;> conv => whnf) | fail
   · exact absurd rfl h
   · have hz : aI m t = 0 := by show fW (aZ m t) t.length = 0; omega
     have h4 : bW m t = 4 := by simp [bW, hc, hz]
     rw [h4, if_neg (by omega)]; rfl
   · have hz : aI m t ≠ 0 := by show fW (aZ m t) t.length ≠ 0; omega
     have h4 : bW m t = 0 := by simp [bW, hc, hz]
     rw [h4, if_pos rfl]; rfl
 · refine aX Tryz.tabOk aE Tryz.func206 rfl rfl ?_
   conv => whnf
   repeat' first | ((first | refine z0 ?_ | (apply zI; refine zP (Afu _ _ _ _ hl hr) ?_) | (refine zP (fun h => ?_) (fun h => ?_) <;> (try simp only [aB, aD] at h)) | refine Or.inl ?_) <;> conv => whnf) | fail
   · have h4 : bW m t = cT m t := by simp [bW, hc]
     rw [h4, if_neg hc]; rfl
   · exact absurd (Classical.not_not.1 h) hc
theorem vH (o p : Bool) (m : Int) (t : List (List Int)) (hl : t.length ≤ 1048576) (hr : dP t) : aL Tryz.prog 194 [.agg [aA m, .list o 1 (rows p t)], bD true] (.tup [aA (if kC m t = 0 then aI m t else 0 : Nat), aA (kC m t)]) := by
 by_cases hc : cT m t = 0
 · obtain ⟨hb, hpr⟩ := fN hc
   obtain ⟨hp, hlw⟩ := hO hb
   obtain ⟨hm, h2, h3, _⟩ := fI hp
   have key := Ac3 hm o p t.length ⟨h2, h3⟩ (aZ m t) hlw
   simp only [cI, dY hp] at key
   have hh := yN o p m t hl hr
   rw [hb] at hh
   have hpp : aL Tryz.prog 286 [aA m] (bD true) := by
     rw [← hpr]
     refine aX Tryz.tabOk aE Tryz.func286 rfl rfl ?_
     conv => whnf
     repeat' first | ((first | refine z0 ?_ | (refine zP (fun h => ?_) (fun h => ?_) <;> (try simp only [aB, aD] at h)) | refine zS ?_ | refine zV ?_ | (apply zI; refine zP aK ?_) | (apply zI; refine zP aH ?_) | refine zA ?_ | refine Alt.fst ?_ | refine Or.inl ?_) <;> conv => whnf) | fail
     all_goals (refine bO ?_; first | rfl | (simp_all [dU]; done) | (simp_all [dU]; omega) | (simp_all [dU]; intros; omega))
   have hdeg : aL Tryz.prog 271 [.agg [aA m, .list o 1 (rows p t)]] (aA (t.length - 1)) := by
     refine aX Tryz.tabOk aE Tryz.func271 rfl rfl ?_
     conv => whnf
     repeat' first | ((first | refine z0 ?_ | (refine zP (fun h => ?_) (fun h => ?_) <;> (try simp only [aB, aD] at h)) | refine zS ?_ | refine zV ?_ | (apply zI; refine zP aK ?_) | (apply zI; refine zP aH ?_) | refine zA ?_ | refine Alt.fst ?_ | refine Or.inl ?_) <;> conv => whnf) | fail
     simp [aB]
   refine aX Tryz.tabOk aE Tryz.func194 rfl rfl ?_
   conv => whnf
   have hlt : fW (aZ m t) t.length < t.length := nL (by omega)
   repeat' first | ((first | refine z0 ?_ | (apply zI; refine zP (hh) ?_) | (apply zI; refine zP (hpp) ?_) | (apply zI; refine zP (key) ?_) | (apply zI; refine zP (hdeg) ?_) | (refine zP (fun h => ?_) (fun h => ?_) <;> (try simp only [aB, aD] at h)) | refine zV ?_ | refine Or.inl ?_) <;> conv => whnf) | fail
   · have hz : aI m t = 0 := by show fW (aZ m t) t.length = 0; omega
     have h4 : kC m t = 4 := by simp [kC, bW, hc, hz]
     rw [h4, if_neg (by omega)]; rfl
   · have hz : aI m t ≠ 0 := by show fW (aZ m t) t.length ≠ 0; omega
     have h3 : 2 * ((aI m t : Int) - 1) > (t.length : Int) - 1 := h
     have h4 : kC m t = 3 := by
       have : bW m t = 0 := by simp [bW, hc, hz]
       unfold kC; rw [if_pos this, if_pos h3]
     rw [h4, if_neg (by omega)]; rfl
   · have hz : aI m t ≠ 0 := by show fW (aZ m t) t.length ≠ 0; omega
     have h3 : ¬ 2 * ((aI m t : Int) - 1) > (t.length : Int) - 1 := h
     have h4 : kC m t = 0 := by
       have : bW m t = 0 := by simp [bW, hc, hz]
       unfold kC; rw [if_pos this, if_neg h3]
     rw [h4, if_pos rfl]; rfl
   all_goals cases h
 · have hpp : aL Tryz.prog 286 [aA m] (bD (dU m)) := by
     refine aX Tryz.tabOk aE Tryz.func286 rfl rfl ?_
     conv => whnf
     repeat' first | ((first | refine z0 ?_ | (refine zP (fun h => ?_) (fun h => ?_) <;> (try simp only [aB, aD] at h)) | refine zS ?_ | refine zV ?_ | (apply zI; refine zP aK ?_) | (apply zI; refine zP aH ?_) | refine zA ?_ | refine Alt.fst ?_ | refine Or.inl ?_) <;> conv => whnf) | fail
     all_goals (refine bO ?_; first | rfl | (simp_all [dU]; done) | (simp_all [dU]; omega) | (simp_all [dU]; intros; omega))
   refine aX Tryz.tabOk aE Tryz.func194 rfl rfl ?_
   conv => whnf
   have h5 : kC m t = cT m t := by
     have h6 : bW m t = cT m t := by simp [bW, hc]
     unfold kC; rw [h6, if_neg hc]
   repeat' first | ((first | refine z0 ?_ | (apply zI; refine zP (yN _ _ _ _ hl hr) ?_) | (apply zI; refine zP (hpp) ?_) | (refine zP (fun h => ?_) (fun h => ?_) <;> (try simp only [aB, aD] at h)) | refine Or.inl ?_) <;> conv => whnf) | fail
   · exact absurd (by simp_all [cT]) hc
   · rw [h5, if_neg hc, show cT m t = 5 by simp_all [cT]]; rfl
   · rw [h5, if_neg hc, show cT m t = 1 by simp_all [cT]]; rfl
abbrev gE (o p : Bool) (q : Nat) (f : PS (PS (Zm m))) : D := .list o 1 (rows p (bA q f))
theorem Ajj {q i : Nat} {f : PS (PS (Zm m))} (h : i < q) : ((bA q f).getD i []).length = q := by rw [iU f h]; simp
theorem jI {q q' k i j : Nat} {f : PS (PS (Zm m))} (x : Int) (e : q' = i) (e2 : k = j) (h : i < q) (h2 : j < q) : jG (rows true (bA q f)) ([] ++ [q']) k (aA x) (rows true (cR (bA q f) i j x)) := by
 subst e; subst e2
 exact N7 x (by simpa using h) (by rw [Ajj h]; exact h2)
theorem eU {q q' i : Nat} {o : Bool} {f : PS (PS (Zm m))} (e : q' = i) (h : i < q) : eK (rows o (bA q f)) [] q' (.list o 1 (ints (L q (f.c i)))) := by
 subst e
 exact ⟨_, rfl, by rw [mJ (by simpa using h), iU f h]⟩
theorem nT {q q' i : Nat} {o : Bool} {f : PS (PS (Zm m))} (e : q' = i) (h : i < q) : (rows o (bA q f))[q']? = some (.list o 1 (ints (L q (f.c i)))) := by
 subst e
 rw [mJ (by simpa using h), iU f h]
theorem rT {q q' i : Nat} {f : PS (PS (Zm m))} (e : q' = i) (h : i < q) : bE (rows true (bA q f)) ([] ++ [q']) = some (ints (L q (f.c i))) := by
 subst e
 rw [List.nil_append, rL (by simpa using h), iU f h]
theorem pT {q q' k i j : Nat} {f : PS (PS (Zm m))} (e : q' = i) (e2 : k = j) (h : i < q) (h2 : j < q) : eK (rows true (bA q f)) ([] ++ [q']) k (aA ((f.c i).c j).val) := by
 subst e2
 exact ⟨_, rT e h, by simp [ints, L, h2]⟩
theorem jS {q i j : Nat} {f g : PS (PS (Zm m))} {x : Int} (v : Zm m) (hx : x = v.val) (h : i < q) (ha : bF q (bT f i j v) g) : cR (bA q f) i j x = bA q g := by
 subst hx
 unfold cR
 rw [iU f h, vF, S2 f _ h]
 exact eS ha
theorem Aef {q i : Nat} {o : Bool} {f : PS (PS (Zm m))} (h : i < q) : 0 ≤ (i : Int) ∧ (i : Int) < (cnt 1 (rows o (bA q f)) : Nat) := by rw [aB, aP, uM]; omega
theorem vO {n k l : Nat} {a : PS (Zm m)} (e : k = l) (h : l < n) : (ints (L n a))[k]? = some (aA (a.c l).val) := by
 subst e; simp [ints, L, h]
theorem aJ {p : Prop} (h : p := by first | omega | (simp only [aB, aP, uM, Afz, sV, aD, aV, Nat.mul_one, Nat.zero_add, eY] at *; first | done | omega)) : p := h
theorem nA (q : Nat) (hq : q ≤ 100) {Q : Int} (hQ : Q = q) : aL Tryz.prog 281 [aA Q] (gE true true q (0 : PS (PS (Zm m)))) := by
 subst hQ
 refine aX Tryz.tabOk aE Tryz.func281 rfl rfl ?_
 conv => whnf
 repeat' first | ((first | refine z0 ?_ | (refine zP (fun h => ?_) (fun h => ?_) <;> (try simp only [aB, aD] at h)) | refine zS ?_ | refine zV ?_ | (apply zI; refine zP aK ?_) | (apply zI; refine zP aH ?_) | refine zA ?_ | refine Alt.fst ?_ | refine Or.inl ?_) <;> conv => whnf) | fail
 refine aR Tryz.tabOk aE (α := Nat) (fun i => [(6, aA i), (3, .ref 0 [] 1 0 i), (4, .undef)]) (fun i => [(0, some ⟨false, 1, rows true (jR q i (0 : PS (PS (Zm m))))⟩)]) (fun i => i ≤ q) (fun i => q - i) (0) ?_ ?_ ?_
 · omega
 · conv => whnf
   first | refine aG.autoR ?_ | refine aC.autoR ?_
   conv => whnf
   repeat' ((first | refine z1 ?_ | refine zP ?_ ?_ | exact trivial) <;> try (conv => whnf))
 intro i hi
 conv => whnf
 repeat' first | ((first | refine z0 ?_ | (refine zP (fun h => ?_) (fun h => ?_) <;> (try simp only [aB, aD] at h)) | refine zV ?_ | (apply zI; refine zP aH ?_) | refine zP (aJ) ?_) <;> conv => whnf) | fail
 · refine Exists.intro (i + 1) (zP aF (zP aF ?_))
   first | refine aG.autoR ?_ | refine aC.autoR ?_
   conv => whnf
   repeat' ((first | refine z1 ?_ | refine zP ?_ ?_ | exact trivial) <;> try (conv => whnf))
   exact bV (vK (by rw [wJ]; rfl))
 · rw [show i = q by omega, wG]
theorem tA (hm : Md m) (q : Nat) (hq : 1 ≤ q ∧ q ≤ 100) (o p o' p' : Bool) (d2 d3 d4 : D) (f g : PS (PS (Zm m))) : aL Tryz.prog 282 [.cptr [aA m, aA q, d2, d3, d4] 0, gE o p q f, gE o' p' q g] (gE true true q (f * g)) := by
 have hm1 := hm.1
 have hm2 := hm.2
 refine aX Tryz.tabOk aE Tryz.func282 rfl rfl ?_
 conv => whnf
 repeat' first | ((first | (apply zI; refine zP (nA (m := m) q aF aF) ?_) | (apply zI; refine zP aH ?_) | refine Or.inl ?_) <;> conv => whnf) | fail
 refine aR Tryz.tabOk aE (α := Nat) (fun i => [(21, aA i), (9, .undef), (18, .undef)]) (fun i => [(0, some ⟨false, 1, rows true (bA q (pP f g i 0))⟩)]) (fun i => i ≤ q) (fun i => q - i) (0) ?_ ?_ ?_
 · omega
 · conv => whnf
   first | refine aG.autoR ?_ | refine aC.autoR ?_
   conv => whnf
   repeat' ((first | refine z1 ?_ | refine zP ?_ ?_ | exact trivial) <;> try (conv => whnf))
   all_goals rw [yO]
 intro i hi
 conv => whnf
 repeat' first | ((first | refine z0 ?_ | (apply zI; refine zP (nT (i := i) aN (by simp only [aP, uM] at *; omega)) ?_) | (refine zP (fun h => ?_) (fun h => ?_) <;> (try simp only [aB, aD] at h)) | refine zV ?_ | refine zP (aJ) ?_) <;> conv => whnf) | fail
 · refine aR Tryz.tabOk aE (α := Nat) (fun j => [(28, aA j)]) (fun j => [(0, some ⟨false, 1, rows true (bA q (pP f g i j))⟩)]) (fun j => j ≤ q) (fun j => q - j) (0) ?_ ?_ ?_
   · omega
   · conv => whnf
     first | refine aG.autoR ?_ | refine aC.autoR ?_
     conv => whnf
     repeat' ((first | refine z1 ?_ | refine zP ?_ ?_ | exact trivial) <;> try (conv => whnf))
   intro j hj
   conv => whnf
   repeat' first | ((first | refine z0 ?_ | (refine zP (fun h => ?_) (fun h => ?_) <;> (try simp only [aB, aD] at h)) | refine zS ?_ | refine zV ?_ | (apply zI; refine zP aK ?_) | (apply zI; refine zP aH ?_) | refine zA ?_ | refine Alt.fst ?_ | refine Or.inl ?_) <;> conv => whnf) | fail
   · have hi' : i < q := by simp only [aP, uM] at *; omega
     have hj' : j < q := by simp only [aV] at *; omega
     refine aR Tryz.tabOk aE (α := Nat) (fun k => [(12, aA k)]) (fun k => [(0, some ⟨false, 1, rows true (bA q (pQ f g i j k 0))⟩)]) (fun k => i + k ≤ q) (fun k => q - k) (0) ?_ ?_ ?_
     · omega
     · conv => whnf
       first | refine aG.autoR ?_ | refine aC.autoR ?_
       conv => whnf
       repeat' ((first | refine z1 ?_ | refine zP ?_ ?_ | exact trivial) <;> try (conv => whnf))
       all_goals rw [zY]
     intro k hk
     conv => whnf
     repeat' first | ((first | (refine zP (fun h => ?_) (fun h => ?_) <;> (try simp only [aB, aD] at h)) | refine zV ?_) <;> conv => whnf) | fail
     · refine aR Tryz.tabOk aE (α := Nat) (fun l => [(13, aA l)]) (fun l => [(0, some ⟨false, 1, rows true (bA q (pQ f g i j k l))⟩)]) (fun l => j + l ≤ q) (fun l => q - l) (0) ?_ ?_ ?_
       · omega
       · conv => whnf
         first | refine aG.autoR ?_ | refine aC.autoR ?_
         conv => whnf
         repeat' ((first | refine z1 ?_ | refine zP ?_ ?_ | exact trivial) <;> try (conv => whnf))
       intro l hll
       conv => whnf
       have hx1 := Zm.val_range hm.pos (((pQ f g i j k l).c (i + k)).c (j + l))
       have hx2 := hm.mul ((f.c i).c j) ((g.c k).c l)
       repeat' first | ((first | (apply zI; refine zP (eU (i := i + k) aN aJ) ?_) | (apply zI; refine zP (nT (i := k) aN aJ) ?_) | (apply zI; refine zP (pT (i := i + k) (j := j + l) aN aN aJ aJ) ?_) | (apply zI; refine zP (jI (i := i + k) (j := j + l) _ aN aN aJ aJ) ?_) | (apply zI; refine zP (vO (l := l) aN aJ) ?_) | (refine zP (fun h => ?_) (fun h => ?_) <;> (try simp only [aB, aD] at h)) | refine zS ?_ | refine zV ?_ | (apply zI; refine zP aH ?_) | refine zP (aJ) ?_) <;> conv => whnf) | fail
       · refine Exists.intro (l + 1) (zP aJ (zP aJ ?_))
         first | refine aG.autoR ?_ | refine aC.autoR ?_
         conv => whnf
         repeat' ((first | refine z1 ?_ | refine zP ?_ ?_ | exact trivial) <;> try (conv => whnf))
         exact bV (jS _ (kO hm _ _ _) aJ (bF.of_eq (B2 f g i j k l).symm))
       · have hl' : q ≤ j + l := aJ
         refine Exists.intro (k + 1) (zP aJ (zP aJ ?_))
         first | refine aG.autoR ?_ | refine aC.autoR ?_
         conv => whnf
         repeat' ((first | refine z1 ?_ | refine zP ?_ ?_ | exact trivial) <;> try (conv => whnf))
         exact bV (eS (Abs f g hl'))
     · have hk' : q ≤ i + k := aJ
       refine Exists.intro (j + 1) (zP aJ (zP aJ ?_))
       first | refine aG.autoR ?_ | refine aC.autoR ?_
       conv => whnf
       repeat' ((first | refine z1 ?_ | refine zP ?_ ?_ | exact trivial) <;> try (conv => whnf))
       exact bV (eS (Adn f g hk'))
   · have hj' : q ≤ j := aJ
     refine Exists.intro (i + 1) (zP aJ (zP aJ ?_))
     first | refine aG.autoR ?_ | refine aC.autoR ?_
     conv => whnf
     repeat' ((first | refine z1 ?_ | refine zP ?_ ?_ | exact trivial) <;> try (conv => whnf))
     exact bV (eS (Ag7 f g hj'))
 · have hi' : q ≤ i := aJ
   exact congrArg (fun x => D.list true 1 (rows true x)) (eS (W9 f g hi'))
end Go.Proofs
namespace Go.Proofs
open Go Go.Vm Go.Fg Go.Fg.PS
set_option maxRecDepth 100000
set_option maxHeartbeats 4000000
set_option linter.unusedSimpArgs false
set_option linter.unusedVariables false
def lP (q : Nat) (m : Int) (l : List Int) : Bool := decide (l.length = q) && fQ m l
noncomputable def jB (m : Int) (t : List (List Int)) (u v : List Int) : Int := if kC m t = 0 then (if lP (aI m t) m u && lP (aI m t) m v then 0 else 2) else kC m t
noncomputable def pV (m : Int) (t : List (List Int)) (u v : List Int) : D := if jB m t u v = 0 then .tup [LD true (aI m t) (rd m u * rd m v), aA 0] else .tup [.lit (.slice none 0 0), aA (jB m t u v)]
theorem fJ {m : Int} {t : List (List Int)} (h : kC m t = 0) : bW m t = 0 ∧ cT m t = 0 ∧ aI m t ≠ 0 ∧ 2 * ((aI m t : Int) - 1) ≤ (t.length : Int) - 1 := by
 unfold kC at h
 split at h
 · rename_i h1
   split at h
   · omega
   · rename_i h2
     refine ⟨h1, ?_, ?_, by omega⟩
     · unfold bW at h1
       split at h1
       · assumption
       · exact h1
     · intro e
       unfold bW at h1
       simp only [e, if_true] at h1
       split at h1
       · omega
       · rename_i h3; exact h3 h1
 · rename_i h1; exact absurd h h1
theorem tE {m : Int} {q i a : Nat} {F : PS (PS (Zm m))} {g : PS (Zm m)} (hi : i < q) (ha : q ≤ a) : updB (rows true (bA q F)) [i] (fun l => l.take 0 ++ ((ints (L a g)).take (min a q) ++ l.drop (min a q))) = rows true (bA q (F.upd i g)) := by
 rw [Aeg _ (by simpa using hi) _ (L q g), S2 F g hi]
 rw [iU F hi, Nat.min_eq_right ha, List.take_zero, List.nil_append, Ap3, Asm, Al4, Adb g ha]
 rw [show (L q (F.c i)).drop q = [] from List.drop_eq_nil_of_le (by simp), List.append_nil]
def cE {m : Int} (q : Nat) (f : PS (PS (Zm m))) (k : Nat) : List D := (List.range k).map fun c => .list true 1 (rows true (bA q (pw f c)))
@[simp] theorem uE {m : Int} (q : Nat) (f : PS (PS (Zm m))) (k : Nat) : (cE q f k).length = k := by simp [cE]
theorem rA {m : Int} {q k : Nat} {f : PS (PS (Zm m))} {t : List D} (h : t = rows true (bA q (pw f k))) : cE q f k ++ [.list true 1 t] = cE q f (k + 1) := by
 subst h; simp [cE, List.range_succ]
theorem J6 {m : Int} {q k i : Nat} {f : PS (PS (Zm m))} (h : i < k) : (cE q f k)[i]? = some (.list true 1 (rows true (bA q (pw f i)))) := by simp [cE, h]
theorem qO {m : Int} {q k a : Nat} {f : PS (PS (Zm m))} (e : a = k) : a = (cE q f k).length := by rw [uE]; exact e
theorem pY {m : Int} {q k a : Nat} {f : PS (PS (Zm m))} (i : Nat) (e : a = i) (h : i < k) : eK (cE q f k) [] a (.list true 1 (rows true (bA q (pw f i)))) := by
 subst e; exact ⟨_, rfl, J6 h⟩
theorem pN {m : Int} {q k a : Nat} {f : PS (PS (Zm m))} (i : Nat) (e : a = i) (h : i < k) : bE (cE q f k) ([] ++ [a]) = some (rows true (bA q (pw f i))) := by
 subst e
 show (match (cE q f k)[a]? with | some (.list true _ cs') => bE cs' [] | _ => none) = _
 rw [J6 h]; rfl
theorem tC {m : Int} {q k a : Nat} {f : PS (PS (Zm m))} (e : a = k) : (0 + a) * 1 ≤ (cE q f k).length := by rw [uE]; omega
theorem nK {m : Int} {q k a : Nat} {f : PS (PS (Zm m))} (e : a = k) : sub (cE q f k) 1 0 a = cE q f k := by
 subst e
 simp only [sub, Nat.zero_mul, List.drop_zero, Nat.mul_one]
 rw [List.take_of_length_le (by simp)]
theorem rX (cs : List D) : ∀ d ∈ [D.list true 1 cs], d.one = true := fun d hd => by
 simp only [List.mem_cons, List.not_mem_nil, or_false] at hd
 subst hd; rfl
theorem Apt (a m : Int) (d : D) (h1 : eO .i64 (m - 1)) : aL Tryz.prog 280 [aA a, .cptr [aA m, d] 0] (bD (cD a 0 (m - 1))) := by
 refine aX Tryz.tabOk aE Tryz.func280 rfl rfl ?_
 conv => whnf
 repeat' first | ((first | refine z0 ?_ | (apply zI; refine zP (G9 _ _ h1) ?_) | (refine zP (fun h => ?_) (fun h => ?_) <;> (try simp only [aB, aD] at h)) | (apply zI; refine zP aH ?_) | refine Or.inl ?_) <;> conv => whnf) | fail
 all_goals (refine bO ?_; first | rfl | (simp_all []; done) | (simp_all []; omega) | (simp_all []; intros; omega))
theorem Al9 (o p o1 o2 : Bool) (m : Int) (t : List (List Int)) (u v : List Int) (hl : t.length ≤ 1048576) (hr : dP t) (hu : u.length ≤ 1048576) (hv : v.length ≤ 1048576) :
   aL Tryz.prog 88 [.agg [aA m, .list o 1 (rows p t)], .list o1 1 (ints u), .list o2 1 (ints v)] (pV m t u v) := by
 by_cases hk : bW m t = 0
 · have hht : cT m t = 0 := by
     unfold bW at hk
     split at hk
     · assumption
     · exact hk
   obtain ⟨hb, hpr⟩ := fN hht
   obtain ⟨hp, hlw⟩ := hO hb
   obtain ⟨hm, h2, h3, _⟩ := fI hp
   have hm1 := hm.1
   have hm2 := hm.2
   have key := jP o p m t hl hr
   rw [hk, if_pos rfl] at key
   have hdeg : aL Tryz.prog 124 [.agg [aA m, .list o 1 (rows p t)]] (aA (t.length - 1)) := by
     have := iM (m := m) o p t.length (by omega) (aZ m t)
     simpa only [cI, dY hp] using this
   have hlt : aI m t < t.length := nL (by omega)
   have hall : ∀ (o' : Bool) (l : List Int), l.length ≤ 1048576 → aL Tryz.prog 198 [.list o' 1 (ints l), .fn (.func 280) [] [.cptr [aA m, .list o 1 (rows p t)] 0]] (bD (fQ m l)) := fun o' l hl => by
     have := L3 280 [aA m, .list o 1 (rows p t)] (fun a => cD a 0 (m - 1)) (fun a => Apt a m _ (yG (by simpa [cD, Md] using hm))) o' l hl
     exact this
   refine aX Tryz.tabOk aE Tryz.func88 rfl rfl ?_
   conv => whnf
   repeat' first | ((first | refine z0 ?_ | refine Or.inr (gN Tryz.tabOk aE _ Tryz.func191 rfl rfl ?_) | (apply zI; refine zP (key) ?_) | (apply zI; refine zP (hdeg) ?_) | (refine zP (fun h => ?_) (fun h => ?_) <;> (try simp only [aB, aD] at h) <;> first | (exfalso; omega) | skip) | refine zV ?_ | refine Or.inl ?_) <;> conv => whnf) | fail
   · have h3 : 2 * ((aI m t : Int) - 1) > (t.length : Int) - 1 := by assumption
     have h4 : kC m t = 3 := by unfold kC; rw [if_pos hk, if_pos h3]
     have h5 : jB m t u v = 3 := by unfold jB; rw [h4, if_neg (by omega)]
     rw [pV, h5, if_neg (by omega)]
   · have h3 : ¬ 2 * ((aI m t : Int) - 1) > (t.length : Int) - 1 := by assumption
     have h4 : kC m t = 0 := by unfold kC; rw [if_pos hk, if_neg h3]
     have hno : (lP (aI m t) m u && lP (aI m t) m v) = false → D.tup [.lit (.slice none 0 0), aA 2] = pV m t u v := fun e => by
       have h5 : jB m t u v = 2 := by unfold jB; rw [if_pos h4, e]; rfl
       rw [pV, h5, if_neg (by omega)]
     refine iQ Tryz.tabOk aE ?_
     conv => whnf
     repeat' first | ((first | refine z0 ?_ | (apply zI; refine zP (⟨_, rfl, rfl⟩) ?_) | (apply zI; refine zP (hall _ _ hu) ?_) | (refine zP (fun h => ?_) (fun h => ?_) <;> (try simp only [aB, aD] at h) <;> first | (exfalso; omega) | skip) | refine zV ?_ | refine Or.inl ?_) <;> conv => whnf) | fail
     · have hne : (u.length : Int) ≠ (aI m t : Int) := by assumption
       exact hno (by simp [lP]; intro e; exfalso; omega)
     · have hul : u.length = aI m t := by
         have : ¬ (u.length : Int) ≠ (aI m t : Int) := by assumption
         omega
       have hun : fQ m u = true := by assumption
       refine iQ Tryz.tabOk aE ?_
       conv => whnf
       repeat' first | ((first | refine z0 ?_ | (apply zI; refine zP (⟨_, rfl, rfl⟩) ?_) | (apply zI; refine zP (hall _ _ hv) ?_) | (refine zP (fun h => ?_) (fun h => ?_) <;> (try simp only [aB, aD] at h) <;> first | (exfalso; omega) | skip) | refine zV ?_ | refine Or.inl ?_) <;> conv => whnf) | fail
       · have hne : (v.length : Int) ≠ (aI m t : Int) := by assumption
         exact hno (by simp [lP]; intro _ _ e; exfalso; omega)
       · have hvl : v.length = aI m t := by
           have : ¬ (v.length : Int) ≠ (aI m t : Int) := by assumption
           omega
         have hvn : fQ m v = true := by assumption
         have hq1 := (fJ h4).2.2.1
         have hq2 := (fJ h4).2.2.2
         have hyes : D.tup [LD true (aI m t) (rd m u * rd m v), aA 0] = pV m t u v := by
           have h5 : jB m t u v = 0 := by unfold jB; rw [if_pos h4]; simp [lP, hul, hvl, hun, hvn]
           rw [pV, if_pos h5]
         have hlu : ints u = ints (L (aI m t) (rd m u)) := by rw [← hul, jT (wZ.1 hun)]
         have hlv : ints v = ints (L (aI m t) (rd m v)) := by rw [← hvl, jT (wZ.1 hvn)]
         have hT := dY hp
         generalize hf : aZ m t = f at *
         generalize hN : t.length = N at *
         generalize hqq : aI m t = q at *
         rw [← hT]
         refine iQ Tryz.tabOk aE ?_
         conv => whnf
         repeat' first | ((first | (apply zI; refine zP (nA (m := m) q aF aF) ?_) | (apply zI; refine zP (eU (i := 0) aN aJ) ?_) | (apply zI; refine zP (jI (i := 0) (j := 0) _ aN aN aJ aJ) ?_) | (refine zP (fun h => ?_) (fun h => ?_) <;> (try simp only [aB, aD] at h) <;> first | (exfalso; omega) | skip) | refine zV ?_ | refine zP (aJ) ?_ | refine Or.inl ?_) <;> conv => whnf) | fail
         rw [show cR (bA q (0 : PS (PS (Zm m)))) 0 0 1 = bA q (1 : PS (PS (Zm m))) from jS (1 : Zm m) (Zm.val_one (by omega)).symm (by omega) (fun a b _ _ => by
           rw [fP, PS.one_c]
           by_cases ha : a = 0
           · rw [if_pos ha, PS.one_c]
             by_cases hb : b = 0
             · rw [if_pos ⟨ha, hb⟩, if_pos hb]
             · rw [if_neg (by omega), if_neg hb]; rfl
           · rw [if_neg (by omega), if_neg ha]; rfl)]
         refine aR Tryz.tabOk aE (α := Nat) (fun i => [(63, aA i)]) (fun i => [(9, some ⟨false, 1, rows true (bA q (mix i f 0))⟩)]) (fun i => i ≤ q) (fun i => q - i) (0) ?_ ?_ ?_
         · omega
         · conv => whnf
           first | refine aG.autoR ?_ | refine aC.autoR ?_
           conv => whnf
           repeat' ((first | refine z1 ?_ | refine zP ?_ ?_ | exact trivial) <;> try (conv => whnf))
           all_goals rw [kI]
         intro i hi
         conv => whnf
         repeat' first | ((first | (apply zI; refine zP (eU (i := i) aN aJ) ?_) | (apply zI; refine zP (rT (i := i) aN aJ) ?_) | (refine zP (fun h => ?_) (fun h => ?_) <;> (try simp only [aB, aD] at h) <;> first | (exfalso; omega) | skip) | refine zS ?_ | refine zV ?_ | (apply zI; refine zP aH ?_) | refine zP (aJ) ?_ | refine Or.inl ?_) <;> conv => whnf) | fail
         · have hi' : i < q := aJ
           refine Exists.intro (i + 1) (zP aJ (zP aJ ?_))
           first | refine aG.autoR ?_ | refine aC.autoR ?_
           conv => whnf
           repeat' ((first | refine z1 ?_ | refine zP ?_ ?_ | exact trivial) <;> try (conv => whnf))
           simp only [aB, aD, aV, eY, Int.toNat_natCast, Nat.zero_add, List.nil_append]
           rw [← uG]
           exact tE hi' (by omega)
         · have hiq : i = q := aJ
           rw [show bA q (mix i f 0) = bA q f from eS (fun a b ha hb => by rw [eG, if_pos (by omega)])]
           refine aR Tryz.tabOk aE (α := Nat) (fun k => [(84, aA k), (12, .undef), (56, .undef), (57, .undef), (58, .undef), (59, .undef), (60, .undef), (78, .undef), (79, .undef)]) (fun k => [(11, some ⟨false, 1, cE q f (k + 1)⟩), (8, some ⟨true, 1, [aA m, aA q, .ref 11 [] 1 0 (k + 1), aA m, .list o 1 (rows p (Tb N f))]⟩)]) (fun k => k + 1 ≤ q) (fun k => q - k) (0) ?_ ?_ ?_
           · omega
           · conv => whnf
             first | refine aG.autoR ?_ | refine aC.autoR ?_
             conv => whnf
             repeat' ((first | refine z1 ?_ | refine zP ?_ ?_ | exact trivial) <;> try (conv => whnf))
           intro k hkq
           conv => whnf
           repeat' first | ((first | refine z0 ?_ | (apply zI; refine zP (pY k aN aJ) ?_) | (apply zI; refine zP (pN k aN aJ) ?_) | (apply zI; refine zP (nK aJ) ?_) | (apply zI; refine zP (kW aJ) ?_) | (apply zI; refine zP (tA hm q aF _ _ _ _ _ _ _ (pw f k) f) ?_) | (refine zP (fun h => ?_) (fun h => ?_) <;> (try simp only [aB, aD] at h) <;> first | (exfalso; omega) | skip) | refine zS ?_ | refine zV ?_ | (apply zI; refine zP aH ?_) | refine zP (tC aJ) ?_ | refine zP (qO aJ) ?_ | refine zP (rX _) ?_ | refine zP (aJ) ?_ | refine Alt.fst ?_ | refine Or.inl ?_) <;> conv => whnf) | fail
           · refine Exists.intro (k + 1) (zP aJ (zP aJ ?_))
             first | refine aG.autoR ?_ | refine aC.autoR ?_
             conv => whnf
             repeat' ((first | refine z1 ?_ | refine zP ?_ ?_ | exact trivial) <;> try (conv => whnf))
             exact rA rfl
           · rw [hlu, hlv, show List.replicate q 0 = L q (0 : PS (Zm m)) from (fT q).symm]
             generalize rd m u = a at *
             generalize rd m v = b at *
             refine aR Tryz.tabOk aE (α := Nat) (fun i => [(33, aA i)]) (fun i => [(12, some ⟨false, 1, ints (L q (tP a b i))⟩)]) (fun i => i ≤ q) (fun i => q - i) (0) ?_ ?_ ?_
             · omega
             · conv => whnf
               first | refine aG.autoR ?_ | refine aC.autoR ?_
               conv => whnf
               repeat' ((first | refine z1 ?_ | refine zP ?_ ?_ | exact trivial) <;> try (conv => whnf))
               all_goals rw [M2]
             intro i hi
             conv => whnf
             repeat' first | ((first | refine z0 ?_ | (refine zP (fun h => ?_) (fun h => ?_) <;> (try simp only [aB, aD] at h) <;> first | (exfalso; omega) | skip) | refine zS ?_ | refine zV ?_ | (apply zI; refine zP aK ?_) | (apply zI; refine zP aH ?_)) <;> conv => whnf) | fail
             · have hi' : i < q := aJ
               refine aR Tryz.tabOk aE (α := Nat) (fun j => [(45, aA j)]) (fun j => [(12, some ⟨false, 1, ints (L q (tQ a b i j))⟩)]) (fun j => j ≤ q - i) (fun j => q - j) (0) ?_ ?_ ?_
               · omega
               · conv => whnf
                 first | refine aG.autoR ?_ | refine aC.autoR ?_
                 conv => whnf
                 repeat' ((first | refine z1 ?_ | refine zP ?_ ?_ | exact trivial) <;> try (conv => whnf))
                 all_goals rw [N9]
               intro j hj
               conv => whnf
               have x1 := hm.mul (a.c i) (b.c j)
               have x2 := Zm.val_range hm.pos ((tQ a b i j).c (i + j))
               repeat' first | ((first | refine z0 ?_ | (refine zP (fun h => ?_) (fun h => ?_) <;> (try simp only [aB, aD] at h) <;> first | (exfalso; omega) | skip) | refine zS ?_ | refine zV ?_ | (apply zI; refine zP aK ?_) | (apply zI; refine zP aH ?_)) <;> conv => whnf) | fail
               · refine Exists.intro (j + 1) (zP aJ (zP aJ ?_))
                 first | refine aG.autoR ?_ | refine aC.autoR ?_
                 conv => whnf
                 repeat' ((first | refine z1 ?_ | refine zP ?_ ?_ | exact trivial) <;> try (conv => whnf))
                 exact cQ (eW _ (kO hm _ _ _) (Ag.of_eq (O6 a b i j).symm))
               · have hj' : q ≤ i + j := aJ
                 refine Exists.intro (i + 1) (zP aJ (zP aJ ?_))
                 first | refine aG.autoR ?_ | refine aC.autoR ?_
                 conv => whnf
                 repeat' ((first | refine z1 ?_ | refine zP ?_ ?_ | exact trivial) <;> try (conv => whnf))
                 exact cQ (dW (A1 a b hj'))
             · have hi' : q ≤ i := aJ
               rw [hT, ← hyes]
               exact congrArg (fun x => D.tup [D.list true 1 (ints x), aA 0]) (dW (E1 a b hi'))
       · have hvn : fQ m v = false := by assumption
         exact hno (by simp [lP, hvn])
     · have hun : fQ m u = false := by assumption
       exact hno (by simp [lP, hun])
 · refine aX Tryz.tabOk aE Tryz.func88 rfl rfl ?_
   conv => whnf
   have key := jP o p m t hl hr
   rw [if_neg hk] at key
   repeat' first | ((first | refine z0 ?_ | refine Or.inr (gN Tryz.tabOk aE _ Tryz.func191 rfl rfl ?_) | (apply zI; refine zP (key) ?_) | (refine zP (fun h => ?_) (fun h => ?_) <;> (try simp only [aB, aD] at h) <;> first | (exfalso; omega) | skip) | refine Or.inl ?_) <;> conv => whnf) | fail
   have h4 : kC m t = bW m t := by unfold kC; rw [if_neg hk]
   have h5 : jB m t u v = bW m t := by unfold jB; rw [h4, if_neg hk]
   rw [pV, h5, if_neg hk]
end Go.Proofs
namespace Go.Proofs
open Go Go.Vm Go.Fg Go.Fg.PS
set_option maxRecDepth 100000
set_option maxHeartbeats 4000000
set_option linter.unusedSimpArgs false
set_option linter.unusedVariables false
variable {m : Int}
def kG (f : PS (PS (Zm m))) (a b : PS (Zm m)) (q n i j : Nat) : Zm m :=
 sm i (fun i => sm q fun j => a.c i * b.c j * ((pw f n).c i).c j) + sm j fun j => a.c i * b.c j * ((pw f n).c i).c j
def kZ (f : PS (PS (Zm m))) (a b : PS (Zm m)) (q : Nat) : PS (Zm m) := ⟨fun n => kG f a b q n q 0⟩
theorem Aig (f : PS (PS (Zm m))) (a b : PS (Zm m)) (q n : Nat) : kG f a b q n 0 0 = 0 := by unfold kG; exact CR.zero_add _
theorem Agy (f : PS (PS (Zm m))) (a b : PS (Zm m)) (q n i j : Nat) : kG f a b q n i (j + 1) = kG f a b q n i j + a.c i * b.c j * ((pw f n).c i).c j := by
 unfold kG; rw [cB, CR.add_assoc]
theorem Agm (f : PS (PS (Zm m))) (a b : PS (Zm m)) (q n i : Nat) : kG f a b q n i q = kG f a b q n (i + 1) 0 := by
 unfold kG; rw [cB]; exact (Go.Fg.add_zero _).symm
def gJ (f : PS (PS (Zm m))) (a b : PS (Zm m)) (q n i j : Nat) : PS (Zm m) := (mix n (kZ f a b q) 0).upd n (kG f a b q n i j)
theorem Aev (f : PS (PS (Zm m))) (a b : PS (Zm m)) (q n : Nat) : gJ f a b q n 0 0 = mix n (kZ f a b q) 0 := by
 ext k
 unfold gJ
 rw [cL]
 split
 · rename_i h; rw [h, Aig, eG, if_neg (by omega)]; rfl
 · rfl
theorem Agd (f : PS (PS (Zm m))) (a b : PS (Zm m)) (q n : Nat) : gJ f a b q n q 0 = mix (n + 1) (kZ f a b q) 0 := (sS n (kZ f a b q) 0).symm
theorem Aft (f : PS (PS (Zm m))) (a b : PS (Zm m)) (q n i j : Nat) : (gJ f a b q n i j).upd n ((gJ f a b q n i j).c n + a.c i * b.c j * ((pw f n).c i).c j) = gJ f a b q n i (j + 1) := by
 ext k
 unfold gJ
 rw [cL, cL, cL, cL, if_pos rfl]
 split
 · exact (Agy _ _ _ _ _ _ _).symm
 · rfl
theorem Aea (f : PS (PS (Zm m))) (a b : PS (Zm m)) (q n i : Nat) : gJ f a b q n i q = gJ f a b q n (i + 1) 0 := by
 unfold gJ; rw [Agm]
theorem Ad6 (q : Nat) (f : PS (PS (Zm m))) (k : Nat) : cnt 1 (cE q f k) = k := by rw [aB, uE]
theorem xH {q k a : Nat} {f : PS (PS (Zm m))} (i : Nat) (e : a = i) (h : i < k) : (cE q f k)[a]? = some (.list true 1 (rows true (bA q (pw f i)))) := by
 subst e; exact J6 h
theorem D6 {q k i : Nat} {f : PS (PS (Zm m))} (h : i < k) : 0 ≤ (i : Int) ∧ (i : Int) < (cnt 1 (cE q f k) : Nat) := by rw [Ad6]; omega
theorem aW {p : Prop} (h : p := by first | omega | (simp only [aB, aP, uM, Afz, sV, aD, aV, uE, aT, Nat.mul_one, Nat.zero_add, eY] at *; first | done | omega)) : p := h
theorem Aiw {R : Type} [CR R] (f g : PS (PS R)) (i j k l : Nat) (h : (f.c i).c j = 0) : pQ f g i j k l = pP f g i (j + 1) := tF (fun a b => by
 rw [iO]
 split
 · rfl
 · rw [P1 f g i j h])
theorem Ahs (hm : Md m) (q : Nat) (hq : 1 ≤ q ∧ q ≤ 100) (oo o1 o2 : Bool) (d3 d4 : D) (f : PS (PS (Zm m))) (a b : PS (Zm m)) : aL Tryz.prog 291 [.cptr [aA m, aA q, .list oo 1 (cE q f q), d3, d4] 0, LD o1 q a, LD o2 q b] (LD true q (kZ f a b q)) := by
 have hm1 := hm.1
 have hm2 := hm.2
 refine aX Tryz.tabOk aE Tryz.func291 rfl rfl ?_
 conv => whnf
 repeat' first | ((first | refine z0 ?_ | (refine zP (fun h => ?_) (fun h => ?_) <;> (try simp only [aB, aD] at h)) | refine zS ?_ | refine zV ?_ | (apply zI; refine zP aK ?_) | (apply zI; refine zP aH ?_) | refine zA ?_ | refine Alt.fst ?_ | refine Or.inl ?_) <;> conv => whnf) | fail
 refine aR Tryz.tabOk aE (α := Nat) (fun n => [(24, aA n), (9, .undef), (18, .undef)]) (fun n => [(0, some ⟨false, 1, ints (L q (mix n (kZ f a b q) 0))⟩)]) (fun n => n ≤ q) (fun n => q - n) (0) ?_ ?_ ?_
 · omega
 · conv => whnf
   first | refine aG.autoR ?_ | refine aC.autoR ?_
   conv => whnf
   repeat' ((first | refine z1 ?_ | refine zP ?_ ?_ | exact trivial) <;> try (conv => whnf))
   all_goals rw [kI, fT]
 intro n hn
 conv => whnf
 repeat' first | ((first | refine z0 ?_ | (apply zI; refine zP (xH n aN aW) ?_) | (refine zP (fun h => ?_) (fun h => ?_) <;> (try simp only [aB, aD] at h)) | refine zV ?_) <;> conv => whnf) | fail
 · have hn' : n < q := aW
   refine aR Tryz.tabOk aE (α := Nat) (fun i => [(31, aA i), (11, .undef)]) (fun i => [(0, some ⟨false, 1, ints (L q (gJ f a b q n i 0))⟩)]) (fun i => i ≤ q) (fun i => q - i) (0) ?_ ?_ ?_
   · omega
   · conv => whnf
     first | refine aG.autoR ?_ | refine aC.autoR ?_
     conv => whnf
     repeat' ((first | refine z1 ?_ | refine zP ?_ ?_ | exact trivial) <;> try (conv => whnf))
     all_goals rw [Aev]
   intro i hi
   conv => whnf
   repeat' first | ((first | (apply zI; refine zP (nT (i := i) aN aW) ?_) | (refine zP (fun h => ?_) (fun h => ?_) <;> (try simp only [aB, aD] at h)) | refine zV ?_) <;> conv => whnf) | fail
   · have hi' : i < q := aW
     refine aR Tryz.tabOk aE (α := Nat) (fun j => [(38, aA j)]) (fun j => [(0, some ⟨false, 1, ints (L q (gJ f a b q n i j))⟩)]) (fun j => j ≤ q) (fun j => q - j) (0) ?_ ?_ ?_
     · omega
     · conv => whnf
       first | refine aG.autoR ?_ | refine aC.autoR ?_
       conv => whnf
       repeat' ((first | refine z1 ?_ | refine zP ?_ ?_ | exact trivial) <;> try (conv => whnf))
     intro j hj
     conv => whnf
     have x1 := hm.mul (a.c i) (b.c j)
     have x2 := Zm.val_range hm.pos ((gJ f a b q n i j).c n)
     have x3 := fF hm (a.c i) (b.c j)
     have x4 := hm.mul (a.c i * b.c j) (((pw f n).c i).c j)
     rw [← x3] at x4
     repeat' first | ((first | refine z0 ?_ | (refine zP (fun h => ?_) (fun h => ?_) <;> (try simp only [aB, aD] at h)) | refine zS ?_ | refine zV ?_ | (apply zI; refine zP aH ?_) | refine Or.inl ?_) <;> conv => whnf) | fail
     · refine Exists.intro (j + 1) (zP aW (zP aW ?_))
       first | refine aG.autoR ?_ | refine aC.autoR ?_
       conv => whnf
       repeat' ((first | refine z1 ?_ | refine zP ?_ ?_ | exact trivial) <;> try (conv => whnf))
       rw [x3]
       exact cQ (eW _ (kO hm _ _ _) (Ag.of_eq (Aft f a b q n i j)))
     · have hj' : j = q := aW
       subst hj'
       refine Exists.intro (i + 1) (zP aW (zP aW ?_))
       first | refine aG.autoR ?_ | refine aC.autoR ?_
       conv => whnf
       repeat' ((first | refine z1 ?_ | refine zP ?_ ?_ | exact trivial) <;> try (conv => whnf))
       rw [Aea]
   · have hi' : i = q := aW
     subst hi'
     refine Exists.intro (n + 1) (zP aW (zP aW ?_))
     first | refine aG.autoR ?_ | refine aC.autoR ?_
     conv => whnf
     repeat' ((first | refine z1 ?_ | refine zP ?_ ?_ | exact trivial) <;> try (conv => whnf))
     rw [Agd]
 · have hn' : q ≤ n := aW
   exact congrArg (fun x => D.list true 1 (ints x)) (dW (fun k hk => by rw [eG, if_pos (by omega)]))
theorem Aou (hm : Md m) (q : Nat) (hq : 1 ≤ q ∧ q ≤ 100) (oo o1 o2 : Bool) (f : PS (PS (Zm m))) (a b : PS (Zm m)) : aL Tryz.prog 204 [aA m, .list oo 1 (cE q f q), LD o1 q a, LD o2 q b] (LD true q (kZ f a b q)) := by
 have hm1 := hm.1
 have hm2 := hm.2
 refine aX Tryz.tabOk aE Tryz.func204 rfl rfl ?_
 conv => whnf
 repeat' first | ((first | refine z0 ?_ | (refine zP (fun h => ?_) (fun h => ?_) <;> (try simp only [aB, aD] at h)) | refine zS ?_ | refine zV ?_ | (apply zI; refine zP aK ?_) | (apply zI; refine zP aH ?_) | refine zA ?_ | refine Alt.fst ?_ | refine Or.inl ?_) <;> conv => whnf) | fail
 refine aR Tryz.tabOk aE (α := Nat) (fun n => [(10, aA n)]) (fun n => [(0, some ⟨false, 1, ints (L q (mix n (kZ f a b q) 0))⟩)]) (fun n => n ≤ q) (fun n => q - n) (0) ?_ ?_ ?_
 · omega
 · conv => whnf
   first | refine aG.autoR ?_ | refine aC.autoR ?_
   conv => whnf
   repeat' ((first | refine z1 ?_ | refine zP ?_ ?_ | exact trivial) <;> try (conv => whnf))
   all_goals rw [kI, fT]
 intro n hn
 conv => whnf
 repeat' first | ((first | refine z0 ?_ | (refine zP (fun h => ?_) (fun h => ?_) <;> (try simp only [aB, aD] at h)) | refine zS ?_ | refine zV ?_ | (apply zI; refine zP aK ?_) | (apply zI; refine zP aH ?_) | refine zA ?_ | refine Alt.fst ?_ | refine Or.inl ?_) <;> conv => whnf) | fail
 · have hn' : n < q := aW
   refine aR Tryz.tabOk aE (α := Nat) (fun i => [(11, aA i)]) (fun i => [(0, some ⟨false, 1, ints (L q (gJ f a b q n i 0))⟩)]) (fun i => i ≤ q) (fun i => q - i) (0) ?_ ?_ ?_
   · omega
   · conv => whnf
     first | refine aG.autoR ?_ | refine aC.autoR ?_
     conv => whnf
     repeat' ((first | refine z1 ?_ | refine zP ?_ ?_ | exact trivial) <;> try (conv => whnf))
     all_goals rw [Aev]
   intro i hi
   conv => whnf
   repeat' first | ((first | refine z0 ?_ | (refine zP (fun h => ?_) (fun h => ?_) <;> (try simp only [aB, aD] at h)) | refine zS ?_ | refine zV ?_ | (apply zI; refine zP aK ?_) | (apply zI; refine zP aH ?_) | refine zA ?_ | refine Alt.fst ?_ | refine Or.inl ?_) <;> conv => whnf) | fail
   · have hi' : i < q := aW
     refine aR Tryz.tabOk aE (α := Nat) (fun j => [(12, aA j)]) (fun j => [(0, some ⟨false, 1, ints (L q (gJ f a b q n i j))⟩)]) (fun j => j ≤ q) (fun j => q - j) (0) ?_ ?_ ?_
     · omega
     · conv => whnf
       first | refine aG.autoR ?_ | refine aC.autoR ?_
       conv => whnf
       repeat' ((first | refine z1 ?_ | refine zP ?_ ?_ | exact trivial) <;> try (conv => whnf))
     intro j hj
     conv => whnf
     have x1 := hm.mul (a.c i) (b.c j)
     have x2 := Zm.val_range hm.pos ((gJ f a b q n i j).c n)
     have x3 := fF hm (a.c i) (b.c j)
     have x4 := hm.mul (a.c i * b.c j) (((pw f n).c i).c j)
     rw [← x3] at x4
     repeat' first | ((first | (apply zI; refine zP (xH n aN aW) ?_) | (apply zI; refine zP (nT (i := i) aN aW) ?_) | (refine zP (fun h => ?_) (fun h => ?_) <;> (try simp only [aB, aD] at h)) | refine zS ?_ | refine zV ?_ | (apply zI; refine zP aH ?_) | refine zP (D6 aW) ?_ | refine zP (Aef aW) ?_) <;> conv => whnf) | fail
     · refine Exists.intro (j + 1) (zP aW (zP aW ?_))
       first | refine aG.autoR ?_ | refine aC.autoR ?_
       conv => whnf
       repeat' ((first | refine z1 ?_ | refine zP ?_ ?_ | exact trivial) <;> try (conv => whnf))
       rw [x3]
       exact cQ (eW _ (kO hm _ _ _) (Ag.of_eq (Aft f a b q n i j)))
     · have hj' : j = q := aW
       subst hj'
       refine Exists.intro (i + 1) (zP aW (zP aW ?_))
       first | refine aG.autoR ?_ | refine aC.autoR ?_
       conv => whnf
       repeat' ((first | refine z1 ?_ | refine zP ?_ ?_ | exact trivial) <;> try (conv => whnf))
       rw [Aea]
   · have hi' : i = q := aW
     subst hi'
     refine Exists.intro (n + 1) (zP aW (zP aW ?_))
     first | refine aG.autoR ?_ | refine aC.autoR ?_
     conv => whnf
     repeat' ((first | refine z1 ?_ | refine zP ?_ ?_ | exact trivial) <;> try (conv => whnf))
     rw [Agd]
 · have hn' : q ≤ n := aW
   exact congrArg (fun x => D.list true 1 (ints x)) (dW (fun k hk => by rw [eG, if_pos (by omega)]))
theorem Adh (o p : Bool) (N q : Nat) (hq : 1 ≤ q ∧ 2 * (q - 1) + 1 ≤ N ∧ N ≤ 100) (f : PS (PS (Zm m))) {Q : Int} (hQ : Q = q) : aL Tryz.prog 209 [cI m o p N f, aA Q] (gE true true q f) := by
 subst hQ
 refine aX Tryz.tabOk aE Tryz.func209 rfl rfl ?_
 conv => whnf
 repeat' first | ((first | refine z0 ?_ | (refine zP (fun h => ?_) (fun h => ?_) <;> (try simp only [aB, aD] at h)) | refine zS ?_ | refine zV ?_ | (apply zI; refine zP aK ?_) | (apply zI; refine zP aH ?_) | refine zA ?_ | refine Alt.fst ?_ | refine Or.inl ?_) <;> conv => whnf) | fail
 refine aR Tryz.tabOk aE (α := Nat) (fun i => [(6, aA i), (5, .ref 1 [] 1 0 i), (7, .undef)]) (fun i => [(1, some ⟨false, 1, rows true (jR q i f)⟩)]) (fun i => i ≤ q) (fun i => q - i) (0) ?_ ?_ ?_
 · omega
 · conv => whnf
   first | refine aG.autoR ?_ | refine aC.autoR ?_
   conv => whnf
   repeat' ((first | refine z1 ?_ | refine zP ?_ ?_ | exact trivial) <;> try (conv => whnf))
 intro i hi
 conv => whnf
 repeat' first | ((first | refine z0 ?_ | (apply zI; refine zP (Aj1 _ (L q (f.c i)) (by rw [aV]; omega)) ?_) | (refine zP (fun h => ?_) (fun h => ?_) <;> (try simp only [aB, aD] at h)) | refine zV ?_ | (apply zI; refine zP aH ?_) | refine zP (aW) ?_ | refine Or.inl ?_) <;> conv => whnf) | fail
 · refine Exists.intro (i + 1) (zP aW (zP aW ?_))
   first | refine aG.autoR ?_ | refine aC.autoR ?_
   conv => whnf
   repeat' ((first | refine z1 ?_ | refine zP ?_ ?_ | exact trivial) <;> try (conv => whnf))
   exact bV (vK rfl)
 · rw [show i = q by omega, wG]
theorem Al2 (hm : Md m) (q : Nat) (hq : 1 ≤ q ∧ q ≤ 100) (o p o' p' : Bool) (f g : PS (PS (Zm m))) : aL Tryz.prog 292 [aA m, gE o p q f, gE o' p' q g] (gE true true q (f * g)) := by
 have hm1 := hm.1
 have hm2 := hm.2
 refine aX Tryz.tabOk aE Tryz.func292 rfl rfl ?_
 conv => whnf
 repeat' first | ((first | refine z0 ?_ | (refine zP (fun h => ?_) (fun h => ?_) <;> (try simp only [aB, aD] at h)) | refine zS ?_ | refine zV ?_ | (apply zI; refine zP aK ?_) | (apply zI; refine zP aH ?_) | refine zA ?_ | refine Alt.fst ?_ | refine Or.inl ?_) <;> conv => whnf) | fail
 refine aR Tryz.tabOk aE (α := Nat) (fun i => [(9, aA i), (8, .ref 0 [] 1 0 i), (17, .undef)]) (fun i => [(0, some ⟨false, 1, rows true (jR q i (0 : PS (PS (Zm m))))⟩)]) (fun i => i ≤ q) (fun i => q - i) (0) ?_ ?_ ?_
 · omega
 · conv => whnf
   first | refine aG.autoR ?_ | refine aC.autoR ?_
   conv => whnf
   repeat' ((first | refine z1 ?_ | refine zP ?_ ?_ | exact trivial) <;> try (conv => whnf))
 intro i hi
 conv => whnf
 repeat' first | ((first | (refine zP (fun h => ?_) (fun h => ?_) <;> (try simp only [aB, aD] at h)) | refine zV ?_ | (apply zI; refine zP aH ?_) | refine zP (aJ) ?_ | refine zP (⟨aJ, aJ, Ace (h3 := aJ)⟩) ?_) <;> conv => whnf) | fail
 · refine Exists.intro (i + 1) (zP aJ (zP aJ ?_))
   first | refine aG.autoR ?_ | refine aC.autoR ?_
   conv => whnf
   repeat' ((first | refine z1 ?_ | refine zP ?_ ?_ | exact trivial) <;> try (conv => whnf))
   exact bV (vK (by simp only [aB, aP, uM, Int.toNat_natCast]; rw [wJ]; rfl))
 · have hiq : i = q := aJ
   rw [show jR q i (0 : PS (PS (Zm m))) = bA q 0 by rw [hiq, wG]]
   refine aR Tryz.tabOk aE (α := Nat) (fun x => [(10, aA x), (13, .undef)]) (fun x => [(0, some ⟨false, 1, rows true (bA q (pP f g x 0))⟩)]) (fun x => x ≤ q) (fun x => q - x) (0) ?_ ?_ ?_
   · omega
   · conv => whnf
     first | refine aG.autoR ?_ | refine aC.autoR ?_
     conv => whnf
     repeat' ((first | refine z1 ?_ | refine zP ?_ ?_ | exact trivial) <;> try (conv => whnf))
     all_goals rw [yO]
   intro x hx
   conv => whnf
   repeat' first | ((first | refine z0 ?_ | (refine zP (fun h => ?_) (fun h => ?_) <;> (try simp only [aB, aD] at h)) | refine zV ?_ | refine zP (aJ) ?_) <;> conv => whnf) | fail
   · have hx' : x < q := aJ
     refine aR Tryz.tabOk aE (α := Nat) (fun y => [(11, aA y), (13, .undef)]) (fun y => [(0, some ⟨false, 1, rows true (bA q (pP f g x y))⟩)]) (fun y => y ≤ q) (fun y => q - y) (0) ?_ ?_ ?_
     · omega
     · conv => whnf
       first | refine aG.autoR ?_ | refine aC.autoR ?_
       conv => whnf
       repeat' ((first | refine z1 ?_ | refine zP ?_ ?_ | exact trivial) <;> try (conv => whnf))
     intro y hy
     conv => whnf
     repeat' first | ((first | (refine zP (fun h => ?_) (fun h => ?_) <;> (try simp only [aB, aD] at h)) | refine zV ?_) <;> conv => whnf) | fail
     · have hy' : y < q := aJ
       refine aR Tryz.tabOk aE (α := Nat) (fun k => [(12, aA k), (13, .undef)]) (fun k => [(0, some ⟨false, 1, rows true (bA q (pQ f g x y k 0))⟩)]) (fun k => x + k ≤ q) (fun k => q - k) (0) ?_ ?_ ?_
       · omega
       · conv => whnf
         first | refine aG.autoR ?_ | refine aC.autoR ?_
         conv => whnf
         repeat' ((first | refine z1 ?_ | refine zP ?_ ?_ | exact trivial) <;> try (conv => whnf))
         all_goals rw [zY]
       intro k hk
       conv => whnf
       repeat' first | ((first | (apply zI; refine zP (nT (i := x) aN aJ) ?_) | (apply zI; refine zP (vO (l := y) aN aJ) ?_) | (apply zI; refine zP (eU (i := x + k) aN aJ) ?_) | (refine zP (fun h => ?_) (fun h => ?_) <;> (try simp only [aB, aD] at h)) | refine zV ?_) <;> conv => whnf) | fail
       · have hk' : x + k < q := aJ
         refine aR Tryz.tabOk aE (α := Nat) (fun l => [(14, aA l)]) (fun l => [(0, some ⟨false, 1, rows true (bA q (pQ f g x y k l))⟩)]) (fun l => y + l ≤ q) (fun l => q - l) (0) ?_ ?_ ?_
         · omega
         · conv => whnf
           first | refine aG.autoR ?_ | refine aC.autoR ?_
           conv => whnf
           repeat' ((first | refine z1 ?_ | refine zP ?_ ?_ | exact trivial) <;> try (conv => whnf))
         intro l hll
         conv => whnf
         have hx1 := Zm.val_range hm.pos (((pQ f g x y k l).c (x + k)).c (y + l))
         have hx2 := hm.mul ((f.c x).c y) ((g.c k).c l)
         repeat' first | ((first | (apply zI; refine zP (nT (i := x) aN aJ) ?_) | (apply zI; refine zP (nT (i := k) aN aJ) ?_) | (apply zI; refine zP (vO (l := y) aN aJ) ?_) | (apply zI; refine zP (vO (l := l) aN aJ) ?_) | (apply zI; refine zP (pT (i := x + k) (j := y + l) aN aN aJ aJ) ?_) | (apply zI; refine zP (jI (i := x + k) (j := y + l) _ aN aN aJ aJ) ?_) | (refine zP (fun h => ?_) (fun h => ?_) <;> (try simp only [aB, aD] at h)) | refine zS ?_ | refine zV ?_ | refine zP (aJ) ?_) <;> conv => whnf) | fail
         · refine Exists.intro (l + 1) (zP aJ (zP aJ ?_))
           first | refine aG.autoR ?_ | refine aC.autoR ?_
           conv => whnf
           repeat' ((first | refine z1 ?_ | refine zP ?_ ?_ | exact trivial) <;> try (conv => whnf))
           exact bV (jS _ (kO hm _ _ _) aJ (bF.of_eq (B2 f g x y k l).symm))
         · have hl' : q ≤ y + l := aJ
           refine Exists.intro (k + 1) (zP aJ (zP aJ ?_))
           first | refine aG.autoR ?_ | refine aC.autoR ?_
           conv => whnf
           repeat' ((first | refine z1 ?_ | refine zP ?_ ?_ | exact trivial) <;> try (conv => whnf))
           exact bV (eS (Abs f g hl'))
       · have h0 := Zm.val_eq_zero.1 (Classical.not_not.1 h)
         refine Exists.intro (y + 1) (zP aJ (zP aJ ?_))
         first | refine aG.autoR ?_ | refine aC.autoR ?_
         conv => whnf
         repeat' ((first | refine z1 ?_ | refine zP ?_ ?_ | exact trivial) <;> try (conv => whnf))
         rw [Aiw f g x y k 0 h0]
       · have hk' : q ≤ x + k := aJ
         refine Exists.intro (y + 1) (zP aJ (zP aJ ?_))
         first | refine aG.autoR ?_ | refine aC.autoR ?_
         conv => whnf
         repeat' ((first | refine z1 ?_ | refine zP ?_ ?_ | exact trivial) <;> try (conv => whnf))
         exact bV (eS (Adn f g hk'))
     · have hy' : q ≤ y := aJ
       refine Exists.intro (x + 1) (zP aJ (zP aJ ?_))
       first | refine aG.autoR ?_ | refine aC.autoR ?_
       conv => whnf
       repeat' ((first | refine z1 ?_ | refine zP ?_ ?_ | exact trivial) <;> try (conv => whnf))
       exact bV (eS (Ag7 f g hy'))
   · have hx' : q ≤ x := aJ
     exact congrArg (fun x => D.list true 1 (rows true x)) (eS (W9 f g hx'))
end Go.Proofs
