import Derived.Test.YtndhpcigpghejaaGreatK42
import Derived.Test.YtndhpcigpghejaaGreatK34
import Derived.Test.YtndhpcigpghejaaGreatK40
namespace Go.Proofs
open Go Go.Vm Go.Fg Go.Fg.PS
set_option maxRecDepth 100000
set_option maxHeartbeats 4000000
set_option linter.unusedSimpArgs false
set_option linter.unusedVariables false
noncomputable def elC1 (m : Int) (t : List (List Int)) (u : List Int) : Int := if kC m t = 0 then (if elB (rkT m t) m u then 0 else 2) else kC m t
noncomputable def ceRes (m : Int) (t : List (List Int)) (u : List Int) : D := if elC1 m t u = 0 then .tup [SqD true true (rkT m t) (comp2N (rd m u) (rd2 m t) 0 (rkT m t)), dint 0] else .tup [.lit (.slice none 0 0), dint (elC1 m t u)]
theorem c_implCoproductOfElement (o p o1 : Bool) (m : Int) (t : List (List Int)) (u : List Int) (hl : t.length ≤ 1048576) (hr : lensOk t) (hu : u.length ≤ 1048576) :
   PureCall Tryz.prog 89 [.agg [dint m, .list o 1 (rows p t)], .list o1 1 (ints u)] (ceRes m t u) := by
 by_cases hk : rkC m t = 0
 · have hht : htC m t = 0 := by
     unfold rkC at hk
     split at hk
     · assumption
     · exact hk
   obtain ⟨hb, hpr⟩ := htC_0 hht
   obtain ⟨hp, hlw⟩ := lawB_pl hb
   obtain ⟨hm, h2, h3, _⟩ := plB_md hp
   have hm1 := hm.1
   have hm2 := hm.2
   have key := c_ranked o p m t hl hr
   rw [hk, if_pos rfl] at key
   have hdeg : PureCall Tryz.prog 191 [.agg [dint m, .list o 1 (rows p t)]] (dint (t.length - 1)) := by
     have := c_degreeP (m := m) o p t.length (by omega) (rd2 m t)
     simpa only [PlD, plB_T hp] using this
   have hlt : rkT m t < t.length := rkOf_lt (by omega)
   have hall : ∀ (o' : Bool) (l : List Int), l.length ≤ 1048576 → PureCall Tryz.prog 303 [.list o' 1 (ints l), .fn (.func 393) [] [.cptr [dint m, .list o 1 (rows p t)] 0]] (dbool (numsB m l)) := fun o' l hl => by
     have := c_allA 393 [dint m, .list o 1 (rows p t)] (fun a => inB a 0 (m - 1)) (fun a => c_kernelOf1 a m _ (h1of (by simpa [inB, Md] using hm))) o' l hl
     exact this
   refine pure_of_vcR Tryz.tabOk mixOrd Tryz.func89 rfl rfl ?_
   conv => whnf
   repeat' first | ((first | refine z0 ?_ | refine Or.inr (inl_ofR Tryz.tabOk mixOrd _ Tryz.func270 rfl rfl ?_) | (apply zI; refine zP (key) ?_) | (apply zI; refine zP (hdeg) ?_) | (refine And.intro (fun h => ?_) (fun h => ?_) <;> (try simp only [cnt1, ints_length] at h) <;> first | (exfalso; omega) | skip) | refine zV ?_ | refine Or.inl ?_) <;> conv => whnf) | fail
   · have h3 : 2 * ((rkT m t : Int) - 1) > (t.length : Int) - 1 := by assumption
     have h4 : kC m t = 3 := by unfold kC; rw [if_pos hk, if_pos h3]
     have h5 : elC1 m t u = 3 := by unfold elC1; rw [h4, if_neg (by omega)]
     rw [ceRes, h5, if_neg (by omega)]
   · have h3 : ¬ 2 * ((rkT m t : Int) - 1) > (t.length : Int) - 1 := by assumption
     have h4 : kC m t = 0 := by unfold kC; rw [if_pos hk, if_neg h3]
     have hno : elB (rkT m t) m u = false → D.tup [.lit (.slice none 0 0), dint 2] = ceRes m t u := fun e => by
       have h5 : elC1 m t u = 2 := by unfold elC1; rw [if_pos h4, e]; rfl
       rw [ceRes, h5, if_neg (by omega)]
     refine loop_peelV Tryz.tabOk mixOrd ?_
     conv => whnf
     repeat' first | ((first | refine z0 ?_ | (apply zI; refine zP (⟨_, rfl, rfl⟩) ?_) | (apply zI; refine zP (hall _ _ hu) ?_) | (refine And.intro (fun h => ?_) (fun h => ?_) <;> (try simp only [cnt1, ints_length] at h) <;> first | (exfalso; omega) | skip) | refine zV ?_ | refine Or.inl ?_) <;> conv => whnf) | fail
     · have hne : (u.length : Int) ≠ (rkT m t : Int) := by assumption
       exact hno (by simp [elB]; intro e; exfalso; omega)
     · have hul : u.length = rkT m t := by
         have : ¬ (u.length : Int) ≠ (rkT m t : Int) := by assumption
         omega
       have hun : numsB m u = true := by assumption
       have hq1 := (kC_0 h4).2.2.1
       have hq2 := (kC_0 h4).2.2.2
       have hyes : D.tup [SqD true true (rkT m t) (comp2N (rd m u) (rd2 m t) 0 (rkT m t)), dint 0] = ceRes m t u := by
         have h5 : elC1 m t u = 0 := by unfold elC1; rw [if_pos h4]; simp [elB, hul, hun]
         rw [ceRes, if_pos h5]
       have hlu : ints u = ints (L (rkT m t) (rd m u)) := by rw [← hul, L_rd (numsB_iff.1 hun)]
       have hT := plB_T hp
       generalize hf : rd2 m t = f at *
       generalize hN : t.length = N at *
       generalize hqq : rkT m t = q at *
       rw [← hT]
       refine loop_peelV Tryz.tabOk mixOrd ?_
       conv => whnf
       repeat' first | ((first | (apply zI; refine zP (c_square (m := m) q vAr vAr) ?_) | (apply zI; refine zP (vSqL (i := 0) vIx vSqA) ?_) | (apply zI; refine zP (vSqStore (i := 0) (j := 0) _ vIx vIx vSqA vSqA) ?_) | (refine And.intro (fun h => ?_) (fun h => ?_) <;> (try simp only [cnt1, ints_length] at h) <;> first | (exfalso; omega) | skip) | refine zV ?_ | refine And.intro (vSqA) ?_ | refine Or.inl ?_) <;> conv => whnf) | fail
       rw [show setT (sqT q (0 : PS (PS (Zm m)))) 0 0 1 = sqT q (1 : PS (PS (Zm m))) from sq_setT_eq (1 : Zm m) (Zm.val_one (by omega)).symm (by omega) (fun a b _ _ => by
         rw [upd2_cc, PS.one_c]
         by_cases ha : a = 0
         · rw [if_pos ha, PS.one_c]
           by_cases hb : b = 0
           · rw [if_pos ⟨ha, hb⟩, if_pos hb]
           · rw [if_neg (by omega), if_neg hb]; rfl
         · rw [if_neg (by omega), if_neg ha]; rfl)]
       refine loop_atR Tryz.tabOk mixOrd (α := Nat) (fun i => [(63, dint i)]) (fun i => [(8, some ⟨false, 1, rows true (sqT q (mix i f 0))⟩)]) (fun i => i ≤ q) (fun i => q - i) (0) ?_ ?_ ?_
       · omega
       · conv => whnf
         first | refine WeakS.autoR ?_ | refine Weak.autoR ?_
         conv => whnf
         repeat' ((first | refine z1 ?_ | refine zV ?_ | refine And.intro ?_ ?_ | exact trivial) <;> try (conv => whnf))
         all_goals rw [mix_zero]
       intro i hi
       conv => whnf
       repeat' first | ((first | (apply zI; refine zP (vSqL (i := i) vIx vSqA) ?_) | (apply zI; refine zP (vSqG (i := i) vIx vSqA) ?_) | (refine And.intro (fun h => ?_) (fun h => ?_) <;> (try simp only [cnt1, ints_length] at h) <;> first | (exfalso; omega) | skip) | refine zS ?_ | refine zV ?_ | (apply zI; refine zP vObx ?_) | refine And.intro (vSqA) ?_ | refine Or.inl ?_) <;> conv => whnf) | fail
       · have hi' : i < q := vSqA
         refine Exists.intro (i + 1) (And.intro vSqA (And.intro vSqA ?_))
         first | refine WeakS.autoR ?_ | refine Weak.autoR ?_
         conv => whnf
         repeat' ((first | refine z1 ?_ | refine zV ?_ | refine And.intro ?_ ?_ | exact trivial) <;> try (conv => whnf))
         simp only [cnt1, ints_length, L_length, place1, Int.toNat_natCast, Nat.zero_add, List.nil_append]
         rw [← mix_rows]
         exact updB_rowS hi' (by omega)
       · have hiq : i = q := vSqA
         rw [show sqT q (mix i f 0) = sqT q f from sqT_congr (fun a b ha hb => by rw [mix_c, if_pos (by omega)])]
         refine loop_atR Tryz.tabOk mixOrd (α := Nat) (fun k => [(84, dint k), (12, .undef), (56, .undef), (57, .undef), (58, .undef), (59, .undef), (60, .undef), (78, .undef), (79, .undef)]) (fun k => [(10, some ⟨false, 1, tbq q f (k + 1)⟩), (7, some ⟨true, 1, [dint m, dint q, .ref 10 [] 1 0 (k + 1), dint m, .list o 1 (rows p (Tb N f))]⟩)]) (fun k => k + 1 ≤ q) (fun k => q - k) (0) ?_ ?_ ?_
         · omega
         · conv => whnf
           first | refine WeakS.autoR ?_ | refine Weak.autoR ?_
           conv => whnf
           repeat' ((first | refine z1 ?_ | refine zV ?_ | refine And.intro ?_ ?_ | exact trivial) <;> try (conv => whnf))
         intro k hkq
         conv => whnf
         repeat' first | ((first | refine z0 ?_ | (apply zI; refine zP (vQL k vIx vSqA) ?_) | (apply zI; refine zP (vQG k vIx vSqA) ?_) | (apply zI; refine zP (sub_tbq vSqA) ?_) | (apply zI; refine zP (sub_rows vSqA) ?_) | (apply zI; refine zP (c_tableTimes hm q vAr _ _ _ _ _ _ _ (pw f k) f) ?_) | (refine And.intro (fun h => ?_) (fun h => ?_) <;> (try simp only [cnt1, ints_length] at h) <;> first | (exfalso; omega) | skip) | refine zS ?_ | refine zV ?_ | (apply zI; refine zP vObx ?_) | refine And.intro (vQsz vSqA) ?_ | refine And.intro (vQlen vSqA) ?_ | refine And.intro (one_l _) ?_ | refine And.intro (vSqA) ?_ | refine Alt.fst ?_ | refine Or.inl ?_) <;> conv => whnf) | fail
         · refine Exists.intro (k + 1) (And.intro vSqA (And.intro vSqA ?_))
           first | refine WeakS.autoR ?_ | refine Weak.autoR ?_
           conv => whnf
           repeat' ((first | refine z1 ?_ | refine zV ?_ | refine And.intro ?_ ?_ | exact trivial) <;> try (conv => whnf))
           exact tbq_push rfl
         · have hkq' : k + 1 = q := vSqA
           subst hkq'
           rw [hlu]
           generalize rd m u = a at *
           repeat' first | ((first | refine z0 ?_ | (apply zI; refine zP (c_coproduct hm (k + 1) vAr _ _ _ _ f a) ?_) | refine zV ?_) <;> conv => whnf) | fail
           rw [hT, ← hyes]
     · have hun : numsB m u = false := by assumption
       exact hno (by simp [elB, hun])
 · refine pure_of_vcR Tryz.tabOk mixOrd Tryz.func89 rfl rfl ?_
   conv => whnf
   have key := c_ranked o p m t hl hr
   rw [if_neg hk] at key
   repeat' first | ((first | refine z0 ?_ | refine Or.inr (inl_ofR Tryz.tabOk mixOrd _ Tryz.func270 rfl rfl ?_) | (apply zI; refine zP (key) ?_) | (refine And.intro (fun h => ?_) (fun h => ?_) <;> (try simp only [cnt1, ints_length] at h) <;> first | (exfalso; omega) | skip) | refine Or.inl ?_) <;> conv => whnf) | fail
   have h4 : kC m t = rkC m t := by unfold kC; rw [if_neg hk]
   have h5 : elC1 m t u = rkC m t := by unfold elC1; rw [h4, if_neg hk]
   rw [ceRes, h5, if_neg hk]
end Go.Proofs
namespace Go.Proofs
open Go Go.Vm Go.Fg Go.Fg.PS
set_option maxRecDepth 100000
set_option maxHeartbeats 4000000
set_option linter.unusedSimpArgs false
set_option linter.unusedVariables false
variable {m : Int}
theorem mul_c1 (x y : PS (Zm m)) : (x * y).c 1 = x.c 0 * y.c 1 + x.c 1 * y.c 0 := by
 rw [mul_c, sm_succ, sm_succ, sm_zero', CR.zero_add]
theorem pw_e0 (x : PS (Zm m)) (hx : x.c 0 = 0) (k : Nat) : (pw x k).c 0 = if k = 0 then 1 else 0 := by
 cases k with
 | zero => rfl
 | succ k => rw [pw_succ, mul_c0, hx, Go.Fg.mul_zero, if_neg (by omega)]
theorem pw_e1 (x : PS (Zm m)) (hx : x.c 0 = 0) (k : Nat) : (pw x k).c 1 = if k = 1 then x.c 1 else 0 := by
 match k with
 | 0 => rfl
 | 1 => rw [pw_one, if_pos rfl]
 | k + 2 => rw [pw_succ, mul_c1, hx, Go.Fg.mul_zero, pw_e0 x hx, if_neg (by omega), Go.Fg.zero_mul, CR.zero_add, if_neg (by omega)]
theorem putS_1 {f : PS (PS (Zm m))} {a b : PS (Zm m)} {n : Nat} (hn : 2 ≤ n) (h1 : (f.c 1).c 0 = 1) (h2 : (f.c 0).c 1 = 1) (ha : a.c 0 = 0) (hb : b.c 0 = 0) : (putS f a b n).c 1 = a.c 1 + b.c 1 := by
 obtain ⟨k, rfl⟩ : ∃ k, n = k + 2 := ⟨n - 2, by omega⟩
 unfold putS putP
 rw [add_c, sm_c, sm_c, sm_zero']
 have ht : ∀ i j, (PS.C ((f.c i).c j) * (pw a i * pw b j)).c 1 = (f.c i).c j * ((if i = 0 then 1 else 0) * (if j = 1 then b.c 1 else 0) + (if i = 1 then a.c 1 else 0) * (if j = 0 then 1 else 0)) := fun i j => by
   rw [C_mul, mul_c1, pw_e0 a ha, pw_e0 b hb, pw_e1 a ha, pw_e1 b hb]
 have hi : ∀ i, (sm (k + 2 - i) fun j => PS.C ((f.c i).c j) * (pw a i * pw b j)).c 1 = if i = 0 then b.c 1 else if i = 1 then a.c 1 else 0 := fun i => by
   rw [sm_c]
   by_cases h0 : i = 0
   · subst h0
     rw [if_pos rfl, sm_one 1 (by omega) (fun j hj hne => by rw [ht, if_pos rfl, if_neg hne, if_neg (by omega), Go.Fg.mul_zero, Go.Fg.zero_mul, CR.zero_add, Go.Fg.mul_zero])]
     rw [ht, if_pos rfl, if_pos rfl, if_neg (by omega), Go.Fg.zero_mul, Go.Fg.add_zero, h2, CR.one_mul, CR.one_mul]
   · rw [if_neg h0]
     by_cases h1' : i = 1
     · subst h1'
       rw [if_pos rfl, sm_one 0 (by omega) (fun j hj hne => by rw [ht, if_neg (by omega), if_neg hne, Go.Fg.zero_mul, Go.Fg.mul_zero, CR.zero_add, Go.Fg.mul_zero])]
       rw [ht, if_neg (by omega), if_pos rfl, if_pos rfl, Go.Fg.zero_mul, CR.zero_add, Go.Fg.mul_one, h1, CR.one_mul]
     · rw [if_neg h1']
       exact sm_zero fun j _ => by rw [ht, if_neg h0, if_neg h1', Go.Fg.zero_mul, Go.Fg.zero_mul, CR.zero_add, Go.Fg.mul_zero]
 rw [sm_congr (fun i _ => hi i), sm_succ_left, sm_succ_left, if_pos rfl, if_neg (by omega), if_pos rfl]
 rw [sm_zero (fun i _ => by rw [if_neg (by omega), if_neg (by omega)])]
 rw [Go.Fg.add_zero, Go.Fg.add_zero, CR.add_comm]
theorem Mul.c1 {f : PS (PS (Zm m))} {n k : Nat} {out a r : PS (Zm m)} (hn : 2 ≤ n) (h1 : (f.c 1).c 0 = 1) (h2 : (f.c 0).c 1 = 1) (hf : (f.c 0).c 0 = 0) (h : Mul f n k out a r) (ho : out.c 0 = 0) (ha : a.c 0 = 0) : r.c 1 = out.c 1 + Zm.mk m k * a.c 1 := by
 induction h with
 | zero out a => rw [show Zm.mk m ((0 : Nat) : Int) = 0 from rfl, Go.Fg.zero_mul, Go.Fg.add_zero]
 | odd k out a r hk h ih =>
   rw [ih (putS_0 hf ho ha) (putS_0 hf ha ha), putS_1 hn h1 h2 ho ha, putS_1 hn h1 h2 ha ha]
   rw [show (k : Int) = ((k / 2 : Nat) : Int) + ((k / 2 : Nat) : Int) + 1 by omega, Zm.mk_add, Zm.mk_add, Zm.mk_one, Go.Fg.add_mul, Go.Fg.add_mul, CR.one_mul, CR.mul_add]
   ac_rfl
 | even k out a r hk hk2 h ih =>
   rw [ih ho (putS_0 hf ha ha), putS_1 hn h1 h2 ha ha]
   rw [show (k : Int) = ((k / 2 : Nat) : Int) + ((k / 2 : Nat) : Int) by omega, Zm.mk_add, Go.Fg.add_mul, CR.mul_add]
theorem mulM_1 (hm : Md m) {f : PS (PS (Zm m))} {n : Nat} (hn : 2 ≤ n) (hf : LawP f n) : (mulM f n).c 1 = 0 := by
 have hm1 := hm.1
 have h00 : (f.c 0).c 0 = 0 := by rw [hf.1 0 (by omega)]; rfl
 have h10 : (f.c 1).c 0 = 1 := by rw [hf.1 1 (by omega)]; rfl
 have h01 : (f.c 0).c 1 = 1 := by rw [hf.2.1 0 1 (by omega)]; exact h10
 rw [(mulM_ok f n).c1 hn h10 h01 h00 rfl rfl, Int.toNat_of_nonneg (by omega)]
 have : Zm.mk m m = 0 := Zm.val_eq_zero.1 (by rw [Zm.val_mk, Int.emod_self])
 rw [this, Go.Fg.zero_mul, Go.Fg.add_zero]; rfl
theorem rkT_ge2 {m : Int} {t : List (List Int)} (hk : rkC m t = 0) (ht : htC m t = 0) : 2 ≤ rkT m t := by
 obtain ⟨hp, hlw⟩ := lawB_pl (htC_0 ht).1
 obtain ⟨hm, h2, h3, _⟩ := plB_md hp
 have hne : rkT m t ≠ 0 := fun e => by
   unfold rkC at hk
   rw [if_pos ht, if_pos e] at hk
   omega
 have h0 := mulM_0 (by omega) hlw
 have h1 := mulM_1 hm h2 hlw
 unfold rkT rkM rkOf at hne ⊢
 cases e : (L t.length (mulM (rd2 m t) t.length)).findIdx? (fun x => decide (x ≠ 0)) with
 | none => rw [e] at hne; exact absurd rfl hne
 | some i =>
   obtain ⟨_, _, h5⟩ := rk_some e
   simp only
   rcases (show i = 0 ∨ i = 1 ∨ 2 ≤ i by omega) with rfl | rfl | h
   · exact absurd h0 h5
   · exact absurd h1 h5
   · exact h
def dpw (f : PS (PS (Zm m))) (a : PS (Zm m)) (q : Nat) : Nat → PS (Zm m)
 | 0 => a
 | i + 1 => duS f (dpw f a q i) a q
theorem c_copyOf (o : Bool) (l : List Int) (hl : l.length ≤ 1048576) : PureCall Tryz.prog 210 [.list o 1 (ints l)] (.list true 1 (ints l)) := by
 refine pure_of_vcR Tryz.tabOk mixOrd Tryz.func210 rfl rfl ?_
 conv => whnf
 repeat' first | ((first | refine z0 ?_ | (refine And.intro (fun h => ?_) (fun h => ?_) <;> (try simp only [cnt1, ints_length] at h)) | refine zS ?_ | refine zV ?_ | (apply zI; refine zP vObt ?_) | (apply zI; refine zP vObx ?_) | refine zA ?_ | refine Alt.fst ?_ | refine Or.inl ?_) <;> conv => whnf) | fail
 rfl
theorem c_dualPower (hm : Md m) (q : Nat) (hq : 1 ≤ q ∧ q ≤ 100) (oo o1 : Bool) (d3 d4 : D) (f : PS (PS (Zm m))) (a : PS (Zm m)) (e : Nat) (he : e ≤ 1000) {E : Int} (hE : E = (e : Int) + 1) : PureCall Tryz.prog 275 [.cptr [dint m, dint q, .list oo 1 (tbq q f q), d3, d4] 0, LD o1 q a, dint E] (LD true q (dpw f a q e)) := by
 subst hE
 have hm1 := hm.1
 have hm2 := hm.2
 refine pure_of_vcR Tryz.tabOk mixOrd Tryz.func275 rfl rfl ?_
 conv => whnf
 repeat' first | ((first | (apply zI; refine zP (c_copyOf _ (L q a) (by rw [L_length]; omega)) ?_) | refine zV ?_ | refine Or.inl ?_) <;> conv => whnf) | fail
 refine loop_atR Tryz.tabOk mixOrd (α := Nat) (fun i => [(12, dint i), (9, .undef), (7, .ref 0 [] 1 0 q)]) (fun i => [(0, some ⟨false, 1, ints (L q (dpw f a q i))⟩)]) (fun i => i ≤ e) (fun i => e - i) (0) ?_ ?_ ?_
 · omega
 · conv => whnf
   first | refine WeakS.autoR ?_ | refine Weak.autoR ?_
   conv => whnf
   repeat' ((first | refine z1 ?_ | refine zV ?_ | refine And.intro ?_ ?_ | exact trivial) <;> try (conv => whnf))
   all_goals first
     | rfl
     | exact vDA
 intro i hi
 conv => whnf
 repeat' first | ((first | refine z0 ?_ | (apply zI; refine zP (c_dual hm q hq _ _ _ _ _ f (dpw f a q i) a) ?_) | (refine And.intro (fun h => ?_) (fun h => ?_) <;> (try simp only [cnt1, ints_length] at h)) | refine zV ?_ | (apply zI; refine zP vObx ?_) | refine Or.inl ?_) <;> conv => whnf) | fail
 · refine Exists.intro (i + 1) (And.intro vDA (And.intro vDA ?_))
   first | refine WeakS.autoR ?_ | refine Weak.autoR ?_
   conv => whnf
   repeat' ((first | refine z1 ?_ | refine zV ?_ | refine And.intro ?_ ?_ | exact trivial) <;> try (conv => whnf))
   all_goals first
     | rfl
     | exact vDA
 · rw [show i = e from vDA]
end Go.Proofs
