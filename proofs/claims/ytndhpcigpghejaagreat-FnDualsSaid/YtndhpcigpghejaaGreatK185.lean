import Derived.Test.YtndhpcigpghejaaGreatK45
import Derived.Test.YtndhpcigpghejaaGreatK42
import Derived.Test.YtndhpcigpghejaaGreatK181
import Derived.Test.YtndhpcigpghejaaGreatK132
import Derived.Test.YtndhpcigpghejaaGreatAlg27
namespace Go.Proofs
open Go Go.Vm Go.Fg Go.Fg.PS
set_option maxRecDepth 100000
set_option maxHeartbeats 4000000
set_option linter.unusedSimpArgs false
set_option linter.unusedVariables false
noncomputable def elCK (m : Int) (t : List (List Int)) (u : List Int) (e : Int) : Int := if elC1 m t u = 0 then (if inB e 1 100 then 0 else 2) else elC1 m t u
noncomputable def dpRes (m : Int) (t : List (List Int)) (u : List Int) (e : Int) : D := if elCK m t u e = 0 then .tup [LD true (rkT m t) (dpw (rd2 m t) (rd m u) (rkT m t) (e - 1).toNat), dint 0] else .tup [.lit (.slice none 0 0), dint (elCK m t u e)]
theorem c_implDualPower (o p o1 : Bool) (m : Int) (t : List (List Int)) (u : List Int) (e : Int) (he : -9223372036854775808 ≤ e ∧ e ≤ 9223372036854775807) (hl : t.length ≤ 1048576) (hr : lensOk t) (hu : u.length ≤ 1048576) :
   PureCall Tryz.prog 87 [.agg [dint m, .list o 1 (rows p t)], .list o1 1 (ints u), dint e] (dpRes m t u e) := by
 by_cases hk : rkC m t = 0
 · have hht : htC m t = 0 := by
     unfold rkC at hk
     split at hk
     · assumption
     · exact hk
   obtain ⟨hb, hpr⟩ := htC_0 hht
   obtain ⟨hp, hlw⟩ := lawB_pl hb
   obtain ⟨hm, h2, h3, _⟩ := plB_md hp
   have hm1 := hm.1
   have hm2 := hm.2
   have key := c_ranked o p m t hl hr
   rw [hk, if_pos rfl] at key
   have hdeg : PureCall Tryz.prog 191 [.agg [dint m, .list o 1 (rows p t)]] (dint (t.length - 1)) := by
     have := c_degreeP (m := m) o p t.length (by omega) (rd2 m t)
     simpa only [PlD, plB_T hp] using this
   have hlt : rkT m t < t.length := rkOf_lt (by omega)
   have hall : ∀ (o' : Bool) (l : List Int), l.length ≤ 1048576 → PureCall Tryz.prog 303 [.list o' 1 (ints l), .fn (.func 393) [] [.cptr [dint m, .list o 1 (rows p t)] 0]] (dbool (numsB m l)) := fun o' l hl => by
     have := c_allA 393 [dint m, .list o 1 (rows p t)] (fun a => inB a 0 (m - 1)) (fun a => c_kernelOf1 a m _ (h1of (by simpa [inB, Md] using hm))) o' l hl
     exact this
   refine pure_of_vcR Tryz.tabOk mixOrd Tryz.func87 rfl rfl ?_
   conv => whnf
   repeat' first | ((first | refine z0 ?_ | refine Or.inr (inl_ofR Tryz.tabOk mixOrd _ Tryz.func270 rfl rfl ?_) | (apply zI; refine zP (key) ?_) | (apply zI; refine zP (hdeg) ?_) | (refine And.intro (fun h => ?_) (fun h => ?_) <;> (try simp only [cnt1, ints_length] at h) <;> first | (exfalso; omega) | skip) | refine zV ?_ | refine Or.inl ?_) <;> conv => whnf) | fail
   · have h3 : 2 * ((rkT m t : Int) - 1) > (t.length : Int) - 1 := by assumption
     have h4 : kC m t = 3 := by unfold kC; rw [if_pos hk, if_pos h3]
     have h5 : elCK m t u e = 3 := by unfold elCK elC1; rw [h4, if_neg (by omega), if_neg (by omega)]
     rw [dpRes, h5, if_neg (by omega)]
   · have h3 : ¬ 2 * ((rkT m t : Int) - 1) > (t.length : Int) - 1 := by assumption
     have h4 : kC m t = 0 := by unfold kC; rw [if_pos hk, if_neg h3]
     have hno : elB (rkT m t) m u = false → D.tup [.lit (.slice none 0 0), dint 2] = dpRes m t u e := fun hx => by
       have h5 : elCK m t u e = 2 := by unfold elCK elC1; rw [if_pos h4, hx]; rfl
       rw [dpRes, h5, if_neg (by omega)]
     refine loop_peelV Tryz.tabOk mixOrd ?_
     conv => whnf
     repeat' first | ((first | refine z0 ?_ | (apply zI; refine zP (⟨_, rfl, rfl⟩) ?_) | (apply zI; refine zP (hall _ _ hu) ?_) | (refine And.intro (fun h => ?_) (fun h => ?_) <;> (try simp only [cnt1, ints_length] at h) <;> first | (exfalso; omega) | skip) | refine zV ?_ | refine Or.inl ?_) <;> conv => whnf) | fail
     · have hne : (u.length : Int) ≠ (rkT m t : Int) := by assumption
       exact hno (by simp [elB]; intro _; exfalso; omega)
     · have hul : u.length = rkT m t := by
         have : ¬ (u.length : Int) ≠ (rkT m t : Int) := by assumption
         omega
       have hun : numsB m u = true := by assumption
       have hq1 := (kC_0 h4).2.2.1
       have hq2 := (kC_0 h4).2.2.2
       have h50 : elC1 m t u = 0 := by unfold elC1; rw [if_pos h4]; simp [elB, hul, hun]
       have hyes : inB e 1 100 = true → D.tup [LD true (rkT m t) (dpw (rd2 m t) (rd m u) (rkT m t) (e - 1).toNat), dint 0] = dpRes m t u e := fun hx => by
         rw [dpRes, if_pos (by unfold elCK; rw [if_pos h50, hx]; rfl)]
       have hbad : inB e 1 100 = false → D.tup [.lit (.slice none 0 0), dint 2] = dpRes m t u e := fun hx => by
         have h5 : elCK m t u e = 2 := by unfold elCK; rw [if_pos h50, hx]; rfl
         rw [dpRes, h5, if_neg (by omega)]
       have hlu : ints u = ints (L (rkT m t) (rd m u)) := by rw [← hul, L_rd (numsB_iff.1 hun)]
       have hT := plB_T hp
       generalize hf : rd2 m t = f at *
       generalize hN : t.length = N at *
       generalize hqq : rkT m t = q at *
       rw [← hT]
       refine loop_peelV Tryz.tabOk mixOrd ?_
       conv => whnf
       repeat' first | ((first | (apply zI; refine zP (c_square (m := m) q vAr vAr) ?_) | (apply zI; refine zP (vSqL (i := 0) vIx vSqA) ?_) | (apply zI; refine zP (vSqStore (i := 0) (j := 0) _ vIx vIx vSqA vSqA) ?_) | (refine And.intro (fun h => ?_) (fun h => ?_) <;> (try simp only [cnt1, ints_length] at h) <;> first | (exfalso; omega) | skip) | refine zV ?_ | refine And.intro (vSqA) ?_ | refine Or.inl ?_) <;> conv => whnf) | fail
       rw [show setT (sqT q (0 : PS (PS (Zm m)))) 0 0 1 = sqT q (1 : PS (PS (Zm m))) from sq_setT_eq (1 : Zm m) (Zm.val_one (by omega)).symm (by omega) (fun a b _ _ => by
         rw [upd2_cc, PS.one_c]
         by_cases ha : a = 0
         · rw [if_pos ha, PS.one_c]
           by_cases hb : b = 0
           · rw [if_pos ⟨ha, hb⟩, if_pos hb]
           · rw [if_neg (by omega), if_neg hb]; rfl
         · rw [if_neg (by omega), if_neg ha]; rfl)]
       refine loop_atR Tryz.tabOk mixOrd (α := Nat) (fun i => [(63, dint i)]) (fun i => [(8, some ⟨false, 1, rows true (sqT q (mix i f 0))⟩)]) (fun i => i ≤ q) (fun i => q - i) (0) ?_ ?_ ?_
       · omega
       · conv => whnf
         first | refine WeakS.autoR ?_ | refine Weak.autoR ?_
         conv => whnf
         repeat' ((first | refine z1 ?_ | refine And.intro ?_ ?_ | exact trivial) <;> try (conv => whnf))
         all_goals rw [mix_zero]
       intro i hi
       conv => whnf
       repeat' first | ((first | (apply zI; refine zP (vSqL (i := i) vIx vSqA) ?_) | (apply zI; refine zP (vSqG (i := i) vIx vSqA) ?_) | (refine And.intro (fun h => ?_) (fun h => ?_) <;> (try simp only [cnt1, ints_length] at h) <;> first | (exfalso; omega) | skip) | refine zS ?_ | refine zV ?_ | (apply zI; refine zP vObx ?_) | refine And.intro (vSqA) ?_ | refine Or.inl ?_) <;> conv => whnf) | fail
       · have hi' : i < q := vSqA
         refine Exists.intro (i + 1) (And.intro vSqA (And.intro vSqA ?_))
         first | refine WeakS.autoR ?_ | refine Weak.autoR ?_
         conv => whnf
         repeat' ((first | refine z1 ?_ | refine And.intro ?_ ?_ | exact trivial) <;> try (conv => whnf))
         simp only [cnt1, ints_length, L_length, place1, Int.toNat_natCast, Nat.zero_add, List.nil_append]
         rw [← mix_rows]
         exact updB_rowS hi' (by omega)
       · have hiq : i = q := vSqA
         rw [show sqT q (mix i f 0) = sqT q f from sqT_congr (fun a b ha hb => by rw [mix_c, if_pos (by omega)])]
         refine loop_atR Tryz.tabOk mixOrd (α := Nat) (fun k => [(84, dint k), (12, .undef), (56, .undef), (57, .undef), (58, .undef), (59, .undef), (60, .undef), (78, .undef), (79, .undef)]) (fun k => [(10, some ⟨false, 1, tbq q f (k + 1)⟩), (7, some ⟨true, 1, [dint m, dint q, .ref 10 [] 1 0 (k + 1), dint m, .list o 1 (rows p (Tb N f))]⟩)]) (fun k => k + 1 ≤ q) (fun k => q - k) (0) ?_ ?_ ?_
         · omega
         · conv => whnf
           first | refine WeakS.autoR ?_ | refine Weak.autoR ?_
           conv => whnf
           repeat' ((first | refine z1 ?_ | refine And.intro ?_ ?_ | exact trivial) <;> try (conv => whnf))
         intro k hkq
         conv => whnf
         repeat' first | ((first | refine z0 ?_ | (apply zI; refine zP (vQL k vIx vSqA) ?_) | (apply zI; refine zP (vQG k vIx vSqA) ?_) | (apply zI; refine zP (sub_tbq vSqA) ?_) | (apply zI; refine zP (sub_rows vSqA) ?_) | (apply zI; refine zP (c_tableTimes hm q vAr _ _ _ _ _ _ _ (pw f k) f) ?_) | (refine And.intro (fun h => ?_) (fun h => ?_) <;> (try simp only [cnt1, ints_length] at h) <;> first | (exfalso; omega) | skip) | refine zS ?_ | refine zV ?_ | (apply zI; refine zP vObx ?_) | refine And.intro (vQsz vSqA) ?_ | refine And.intro (vQlen vSqA) ?_ | refine And.intro (one_l _) ?_ | refine And.intro (vSqA) ?_ | refine Alt.fst ?_ | refine Or.inl ?_) <;> conv => whnf) | fail
         · refine Exists.intro (k + 1) (And.intro vSqA (And.intro vSqA ?_))
           first | refine WeakS.autoR ?_ | refine Weak.autoR ?_
           conv => whnf
           repeat' ((first | refine z1 ?_ | refine And.intro ?_ ?_ | exact trivial) <;> try (conv => whnf))
           exact tbq_push rfl
         · have hkq' : k + 1 = q := vSqA
           subst hkq'
           rw [hlu]
           generalize rd m u = a at *
           repeat' first | ((first | refine z0 ?_ | (apply zI; refine zP (c_impl_in _ _ _) ?_) | (refine And.intro (fun h => ?_) (fun h => ?_) <;> (try simp only [cnt1, ints_length] at h)) | refine zV ?_ | (apply zI; refine zP vObx ?_) | refine Or.inl ?_) <;> conv => whnf) | fail
           all_goals first
             | (rw [hT]; exact hbad (by assumption))
             | skip
           have hx : inB e 1 100 = true := by first | assumption | (simp_all; done)
           have hx2 : 1 ≤ e ∧ e ≤ 100 := by simpa [inB] using hx
           repeat' first | ((first | refine z0 ?_ | (apply zI; refine zP (sub_tbq vSqA) ?_) | (apply zI; refine zP (c_dualPower hm (k + 1) vAr _ _ _ _ f a (e - 1).toNat (by omega) (by omega)) ?_) | refine zV ?_ | refine And.intro (vQsz vSqA) ?_) <;> conv => whnf) | fail
           rw [hT, ← hyes hx]
     · have hun : numsB m u = false := by assumption
       exact hno (by simp [elB, hun])
 · refine pure_of_vcR Tryz.tabOk mixOrd Tryz.func87 rfl rfl ?_
   conv => whnf
   have key := c_ranked o p m t hl hr
   rw [if_neg hk] at key
   repeat' first | ((first | refine z0 ?_ | refine Or.inr (inl_ofR Tryz.tabOk mixOrd _ Tryz.func270 rfl rfl ?_) | (apply zI; refine zP (key) ?_) | (refine And.intro (fun h => ?_) (fun h => ?_) <;> (try simp only [cnt1, ints_length] at h) <;> first | (exfalso; omega) | skip) | refine Or.inl ?_) <;> conv => whnf) | fail
   have h4 : kC m t = rkC m t := by unfold kC; rw [if_neg hk]
   have h5 : elCK m t u e = rkC m t := by unfold elCK elC1; rw [h4, if_neg hk, if_neg hk]
   rw [dpRes, h5, if_neg hk]
end Go.Proofs
namespace Go.Proofs
open Go Go.Vm Go.Fg Go.Fg.PS
set_option maxRecDepth 100000
set_option maxHeartbeats 4000000
set_option linter.unusedSimpArgs false
set_option linter.unusedVariables false
variable {m : Int}
theorem prim_dom (hp : primB m = true) {a b : Zm m} (ha : a ≠ 0) (h : a * b = 0) : b = 0 := by
 have hm : m = 2 ∨ m = 3 ∨ m = 5 ∨ m = 7 := by
   unfold primB at hp
   simp only [Bool.or_eq_true, decide_eq_true_eq] at hp
   exact hp
 have hm0 : 0 < m := by omega
 have h1 := Zm.val_range hm0 a
 have h2 := Zm.val_range hm0 b
 have h3 : a.val ≠ 0 := fun e => ha (Zm.val_eq_zero.1 e)
 have h4 : (a.val * b.val) % m = 0 := by
   have e : Zm.mk m (a.val * b.val) = 0 := by rw [Zm.mk_mul, Zm.mk_val, Zm.mk_val, h]
   have := Zm.val_eq_zero.2 e
   rwa [Zm.val_mk] at this
 refine Zm.val_eq_zero.1 ?_
 generalize a.val = x at h1 h3 h4
 generalize b.val = y at h2 h4
 rcases hm with rfl | rfl | rfl | rfl
 · have : x = 1 := by omega
   subst this; omega
 · have : x = 1 ∨ x = 2 := by omega
   rcases this with rfl | rfl <;> omega
 · have : x = 1 ∨ x = 2 ∨ x = 3 ∨ x = 4 := by omega
   rcases this with rfl | rfl | rfl | rfl <;> omega
 · have : x = 1 ∨ x = 2 ∨ x = 3 ∨ x = 4 ∨ x = 5 ∨ x = 6 := by omega
   rcases this with rfl | rfl | rfl | rfl | rfl | rfl <;> omega
theorem rkT_ok {t : List (List Int)} (hA : lawB m t = true) (hq : rkT m t ≠ 0) : rkT m t < t.length ∧ (∀ i, i < rkT m t → (mulM (rd2 m t) t.length).c i = 0) ∧ (mulM (rd2 m t) t.length).c (rkT m t) ≠ 0 := by
 have h : rkT m t = rkOf t.length (mulM (rd2 m t) t.length) := rfl
 cases e : (L t.length (mulM (rd2 m t) t.length)).findIdx? (fun x => decide (x ≠ 0)) with
 | none => rw [h] at hq; unfold rkOf at hq; simp only [e] at hq; exact absurd rfl hq
 | some i =>
   have h2 : rkT m t = i := by rw [h]; unfold rkOf; simp only [e]
   rw [h2]
   exact rk_some e
theorem rank_nc {t : List (List Int)} (h : htC m t = 0) (hq : rkT m t ≠ 0) : ∀ i, 0 < i → i < rkT m t → nc (Zm m) (bin (rkT m t) i) = 0 := by
 obtain ⟨hA, hpr⟩ := htC_0 h
 obtain ⟨⟨hmd, hn⟩, eT, hL⟩ := lawB_Tb hA
 obtain ⟨k1, k2, k3⟩ := rkT_ok hA hq
 have L := lwN_of hn.1 hL
 obtain ⟨h1, h2⟩ := mul_nm L (mulM_ok (rd2 m t) t.length) rfl rfl
 have h3 : cv t.length (mulM (rd2 m t) t.length) = L.G.nm m.toNat (cv t.length X) := by
   rw [h1]; exact L.G.zad _
 intro i hi hi2
 exact prim_dom hpr k3 (rank_bin L h2 h3 ⟨by omega, k1⟩ k2 ⟨hi, hi2⟩)
theorem kern_ok {t : List (List Int)} (h : kC m t = 0) : Md m ∧ (2 ≤ rkT m t ∧ 2 * rkT m t ≤ t.length + 1 ∧ t.length ≤ 11) ∧ LwN (rd2 m t) t.length ∧ (∀ i, 0 < i → i < rkT m t → nc (Zm m) (bin (rkT m t) i) = 0) := by
 obtain ⟨hk, hht, hq1, hq2⟩ := kC_0 h
 obtain ⟨hA, hpr⟩ := htC_0 hht
 obtain ⟨⟨hmd, hn⟩, eT, hL⟩ := lawB_Tb hA
 have h2 := rkT_ge2 hk hht
 exact ⟨hmd, ⟨h2, by omega, hn.2⟩, lwN_of hn.1 hL, rank_nc hht hq1⟩
theorem duS_duQ (f : PS (PS (Zm m))) (a b : PS (Zm m)) (q : Nat) : duS f a b q = duQ f q a b := PS.ext (fun n => by
 show duP f a b q n q 0 = _
 unfold duP
 rw [duQ_c]; exact Go.Fg.add_zero _)
theorem elC2_0 {t : List (List Int)} {u v : List Int} (h : elC2 m t u v = 0) : kC m t = 0 ∧ (u.length = rkT m t ∧ Nums m u) ∧ v.length = rkT m t ∧ Nums m v := by
 unfold elC2 at h
 split at h
 · rename_i h1
   split at h
   · rename_i h2
     simp only [elB, Bool.and_eq_true, decide_eq_true_eq, numsB_iff] at h2
     exact ⟨h1, h2⟩
   · omega
 · omega
theorem elC2_of {t : List (List Int)} {u v : List Int} (h : kC m t = 0) (hu : u.length = rkT m t) (hu2 : Nums m u) (hv : v.length = rkT m t) (hv2 : Nums m v) : elC2 m t u v = 0 := by
 unfold elC2
 rw [if_pos h, if_pos]
 simp only [elB, Bool.and_eq_true, decide_eq_true_eq, numsB_iff]
 exact ⟨⟨hu, hu2⟩, hv, hv2⟩
theorem nums_L' (hm : Md m) (n : Nat) (a : PS (Zm m)) : Nums m (L n a) := fun x hx => by
 obtain ⟨i, hi, rfl⟩ := List.getElem_of_mem hx
 have h2 : i < n := by simpa using hi
 have : (L n a)[i] = (a.c i).val := by simp [L]
 rw [this]; exact Zm.val_range hm.pos _
section
variable {t : List (List Int)} {u v : List Int}
theorem md_ok (h : kC m t = 0) (hu : u.length = rkT m t) (hu2 : Nums m u) (hv : v.length = rkT m t) (hv2 : Nums m v) : mdRes m t u v = .tup [LD true (rkT m t) (duQ (rd2 m t) (rkT m t) (rd m u) (rd m v)), dint 0] := by
 unfold mdRes
 rw [if_pos (elC2_of h hu hu2 hv hv2), duS_duQ]
theorem md_comm (h : kC m t = 0) : duQ (rd2 m t) (rkT m t) (rd m v) (rd m u) = duQ (rd2 m t) (rkT m t) (rd m u) (rd m v) := by
 obtain ⟨hm, hq, L, hb⟩ := kern_ok h
 exact duQ_comm (fun i j hi hj => L.sym i j (by omega)) _ _
theorem md_assoc (h : kC m t = 0) : duQ (rd2 m t) (rkT m t) (rd m (L (rkT m t) (duQ (rd2 m t) (rkT m t) (rd m u) (rd m v)))) (rd m v) = duQ (rd2 m t) (rkT m t) (rd m u) (rd m (L (rkT m t) (duQ (rd2 m t) (rkT m t) (rd m v) (rd m v)))) := by
 obtain ⟨hm, hq, hL, hb⟩ := kern_ok h
 rw [duQ_congr (a := rd m (L _ _)) (rd_L (rkT m t) _) Ag.rfl, dual_assoc hm.1 hL hq hb]
 exact duQ_congr Ag.rfl (rd_L (rkT m t) _).symm
end
end Go.Proofs
