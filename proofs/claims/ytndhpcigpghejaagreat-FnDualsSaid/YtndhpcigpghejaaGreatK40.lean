import Derived.Test.YtndhpcigpghejaaGreatK38
namespace Go.Proofs
open Go Go.Vm Go.Fg Go.Fg.PS
set_option maxRecDepth 100000
set_option maxHeartbeats 4000000
set_option linter.unusedSimpArgs false
set_option linter.unusedVariables false
variable {m : Int}
theorem tbq_plain (q : Nat) (f : PS (PS (Zm m))) (k : Nat) : ∀ x ∈ tbq q f k, PlainD x := fun x hx => by
 simp only [tbq, List.mem_map] at hx
 obtain ⟨c, _, rfl⟩ := hx
 exact .list _ _ (rows_plain _)
theorem sq_one (q : Nat) (hq : 1 ≤ q) (hm : Md m) : setT (sqT q (0 : PS (PS (Zm m)))) 0 0 1 = sqT q (1 : PS (PS (Zm m))) :=
 sq_setT_eq (1 : Zm m) (Zm.val_one (by have := hm.1; omega)).symm (by omega) (fun a b _ _ => by
   rw [upd2_cc, PS.one_c]
   by_cases ha : a = 0
   · rw [if_pos ha, PS.one_c]
     by_cases hb : b = 0
     · rw [if_pos ⟨ha, hb⟩, if_pos hb]
     · rw [if_neg (by omega), if_neg hb]; rfl
   · rw [if_neg (by omega), if_neg ha]; rfl)
theorem c_l17Powers (hm : Md m) (o p : Bool) (N q : Nat) (hq : 1 ≤ q ∧ 2 * (q - 1) + 1 ≤ N ∧ N ≤ 100) (f : PS (PS (Zm m))) {Q : Int} (hQ : Q = q) : PureCall Tryz.prog 274 [PlD m o p N f, dint Q] (.list true 1 (tbq q f q)) := by
 subst hQ
 have hm1 := hm.1
 have hm2 := hm.2
 refine pure_of_vcR Tryz.tabOk mixOrd Tryz.func274 rfl rfl ?_
 conv => whnf
 repeat' first | ((first | refine z0 ?_ | (refine And.intro (fun h => ?_) (fun h => ?_) <;> (try simp only [cnt1, ints_length] at h)) | refine zS ?_ | refine zV ?_ | (apply zI; refine zP vObt ?_) | (apply zI; refine zP vObx ?_) | refine zA ?_ | refine Alt.fst ?_ | refine Or.inl ?_) <;> conv => whnf) | fail
 refine loop_atR Tryz.tabOk mixOrd (α := Nat) (fun i => [(6, dint i), (5, .ref 1 [] 1 0 i), (11, .undef), (12, .undef), (13, .undef)]) (fun i => [(1, some ⟨false, 1, rows true (sqP q i (0 : PS (PS (Zm m))))⟩)]) (fun i => i ≤ q) (fun i => q - i) (0) ?_ ?_ ?_
 · omega
 · conv => whnf
   first | refine WeakS.autoR ?_ | refine Weak.autoR ?_
   conv => whnf
   repeat' ((first | refine z1 ?_ | refine And.intro ?_ ?_ | exact trivial) <;> try (conv => whnf))
 intro i hi
 conv => whnf
 repeat' first | ((first | (refine And.intro (fun h => ?_) (fun h => ?_) <;> (try simp only [cnt1, ints_length] at h)) | refine zV ?_ | (apply zI; refine zP vObx ?_) | refine And.intro (vDA) ?_) <;> conv => whnf) | fail
 · refine Exists.intro (i + 1) (And.intro vSqA (And.intro vSqA ?_))
   first | refine WeakS.autoR ?_ | refine Weak.autoR ?_
   conv => whnf
   repeat' ((first | refine z1 ?_ | refine And.intro ?_ ?_ | exact trivial) <;> try (conv => whnf))
   exact rows_congr (sqP_push (by rw [repl_zero]; rfl))
 · have hiq : i = q := vSqA
   rw [show sqP q i (0 : PS (PS (Zm m))) = sqT q 0 by rw [hiq, sqP_full]]
   repeat' first | ((first | (apply zI; refine zP (vSqL (i := 0) vIx vSqA) ?_) | (apply zI; refine zP (vSqStore (i := 0) (j := 0) _ vIx vIx vSqA vSqA) ?_) | (apply zI; refine zP (c_l17Square _ _ N q hq f vAr) ?_) | refine zV ?_ | refine And.intro (vSqA) ?_ | refine Or.inl ?_) <;> conv => whnf) | fail
   rw [sq_one q hq.1 hm]
   refine loop_atR Tryz.tabOk mixOrd (α := Nat) (fun k => [(10, dint ((k : Int) + 1)), (8, .ref 2 [] 1 0 (k + 1)), (5, .undef), (7, .undef), (22, .undef), (23, .undef), (24, .undef), (25, .undef), (26, .undef), (27, .undef), (28, .undef)]) (fun k => [(2, some ⟨false, 1, tbq q f (k + 1)⟩)]) (fun k => k + 1 ≤ q) (fun k => q - k) (0) ?_ ?_ ?_
   · omega
   · conv => whnf
     first | refine WeakS.autoR ?_ | refine Weak.autoR ?_
     conv => whnf
     repeat' ((first | refine z1 ?_ | refine And.intro ?_ ?_ | exact trivial) <;> try (conv => whnf))
   intro k hk
   conv => whnf
   repeat' first | ((first | refine z0 ?_ | (apply zI; refine zP (vQL k (by simp only [place1]; omega) vSqA) ?_) | (apply zI; refine zP (vQG k (by simp only [place1]; omega) vSqA) ?_) | (apply zI; refine zP (sub_rows vSqA) ?_) | (apply zI; refine zP (c_l17Times hm q vAr _ _ _ _ (pw f k) f) ?_) | (refine And.intro (fun h => ?_) (fun h => ?_) <;> (try simp only [cnt1, ints_length] at h)) | refine zS ?_ | refine zV ?_ | (apply zI; refine zP vObx ?_) | refine And.intro (vQlen vSqA) ?_ | refine And.intro (one_l _) ?_ | refine And.intro (tbq_plain _ _ _) ?_ | refine Alt.fst ?_ | refine Or.inl ?_) <;> conv => whnf) | fail
   · refine Exists.intro (k + 1) (And.intro vSqA (And.intro vSqA ?_))
     first | refine WeakS.autoR ?_ | refine Weak.autoR ?_
     conv => whnf
     repeat' ((first | refine z1 ?_ | refine And.intro ?_ ?_ | exact trivial) <;> try (conv => whnf))
     exact tbq_push rfl
   · rw [show k + 1 = q by omega]
end Go.Proofs
namespace Go.Proofs
open Go Go.Vm Go.Fg Go.Fg.PS
set_option maxRecDepth 100000
set_option maxHeartbeats 4000000
set_option linter.unusedSimpArgs false
set_option linter.unusedVariables false
noncomputable def mdRes (m : Int) (t : List (List Int)) (u v : List Int) : D := if elC2 m t u v = 0 then .tup [LD true (rkT m t) (duS (rd2 m t) (rd m u) (rd m v) (rkT m t)), dint 0] else .tup [.lit (.slice none 0 0), dint (elC2 m t u v)]
theorem c_implMultiplyDual (o p o1 o2 : Bool) (m : Int) (t : List (List Int)) (u v : List Int) (hl : t.length ≤ 1048576) (hr : lensOk t) (hu : u.length ≤ 1048576) (hv : v.length ≤ 1048576) :
   PureCall Tryz.prog 85 [.agg [dint m, .list o 1 (rows p t)], .list o1 1 (ints u), .list o2 1 (ints v)] (mdRes m t u v) := by
 by_cases hk : rkC m t = 0
 · have hht : htC m t = 0 := by
     unfold rkC at hk
     split at hk
     · assumption
     · exact hk
   obtain ⟨hb, hpr⟩ := htC_0 hht
   obtain ⟨hp, hlw⟩ := lawB_pl hb
   obtain ⟨hm, h2, h3, _⟩ := plB_md hp
   have hm1 := hm.1
   have hm2 := hm.2
   have key := c_ranked o p m t hl hr
   rw [hk, if_pos rfl] at key
   have hdeg : PureCall Tryz.prog 191 [.agg [dint m, .list o 1 (rows p t)]] (dint (t.length - 1)) := by
     have := c_degreeP (m := m) o p t.length (by omega) (rd2 m t)
     simpa only [PlD, plB_T hp] using this
   have hlt : rkT m t < t.length := rkOf_lt (by omega)
   have hall : ∀ (o' : Bool) (l : List Int), l.length ≤ 1048576 → PureCall Tryz.prog 303 [.list o' 1 (ints l), .fn (.func 393) [] [.cptr [dint m, .list o 1 (rows p t)] 0]] (dbool (numsB m l)) := fun o' l hl => by
     have := c_allA 393 [dint m, .list o 1 (rows p t)] (fun a => inB a 0 (m - 1)) (fun a => c_kernelOf1 a m _ (h1of (by simpa [inB, Md] using hm))) o' l hl
     exact this
   refine pure_of_vcR Tryz.tabOk mixOrd Tryz.func85 rfl rfl ?_
   conv => whnf
   repeat' first | ((first | refine z0 ?_ | refine Or.inr (inl_ofR Tryz.tabOk mixOrd _ Tryz.func270 rfl rfl ?_) | (apply zI; refine zP (key) ?_) | (apply zI; refine zP (hdeg) ?_) | (refine And.intro (fun h => ?_) (fun h => ?_) <;> (try simp only [cnt1, ints_length] at h) <;> first | (exfalso; omega) | skip) | refine zV ?_ | refine Or.inl ?_) <;> conv => whnf) | fail
   · have h3 : 2 * ((rkT m t : Int) - 1) > (t.length : Int) - 1 := by assumption
     have h4 : kC m t = 3 := by unfold kC; rw [if_pos hk, if_pos h3]
     have h5 : elC2 m t u v = 3 := by unfold elC2; rw [h4, if_neg (by omega)]
     rw [mdRes, h5, if_neg (by omega)]
   · have h3 : ¬ 2 * ((rkT m t : Int) - 1) > (t.length : Int) - 1 := by assumption
     have h4 : kC m t = 0 := by unfold kC; rw [if_pos hk, if_neg h3]
     have hno : (elB (rkT m t) m u && elB (rkT m t) m v) = false → D.tup [.lit (.slice none 0 0), dint 2] = mdRes m t u v := fun e => by
       have h5 : elC2 m t u v = 2 := by unfold elC2; rw [if_pos h4, e]; rfl
       rw [mdRes, h5, if_neg (by omega)]
     refine loop_peelV Tryz.tabOk mixOrd ?_
     conv => whnf
     repeat' first | ((first | refine z0 ?_ | (apply zI; refine zP (⟨_, rfl, rfl⟩) ?_) | (apply zI; refine zP (hall _ _ hu) ?_) | (refine And.intro (fun h => ?_) (fun h => ?_) <;> (try simp only [cnt1, ints_length] at h) <;> first | (exfalso; omega) | skip) | refine zV ?_ | refine Or.inl ?_) <;> conv => whnf) | fail
     · have hne : (u.length : Int) ≠ (rkT m t : Int) := by assumption
       exact hno (by simp [elB]; intro e; exfalso; omega)
     · have hul : u.length = rkT m t := by
         have : ¬ (u.length : Int) ≠ (rkT m t : Int) := by assumption
         omega
       have hun : numsB m u = true := by assumption
       refine loop_peelV Tryz.tabOk mixOrd ?_
       conv => whnf
       repeat' first | ((first | refine z0 ?_ | (apply zI; refine zP (⟨_, rfl, rfl⟩) ?_) | (apply zI; refine zP (hall _ _ hv) ?_) | (refine And.intro (fun h => ?_) (fun h => ?_) <;> (try simp only [cnt1, ints_length] at h) <;> first | (exfalso; omega) | skip) | refine zV ?_ | refine Or.inl ?_) <;> conv => whnf) | fail
       · have hne : (v.length : Int) ≠ (rkT m t : Int) := by assumption
         exact hno (by simp [elB]; intro _ _ e; exfalso; omega)
       · have hvl : v.length = rkT m t := by
           have : ¬ (v.length : Int) ≠ (rkT m t : Int) := by assumption
           omega
         have hvn : numsB m v = true := by assumption
         have hq1 := (kC_0 h4).2.2.1
         have hq2 := (kC_0 h4).2.2.2
         have hyes : D.tup [LD true (rkT m t) (duS (rd2 m t) (rd m u) (rd m v) (rkT m t)), dint 0] = mdRes m t u v := by
           have h5 : elC2 m t u v = 0 := by unfold elC2; rw [if_pos h4]; simp [elB, hul, hvl, hun, hvn]
           rw [mdRes, if_pos h5]
         have hlu : ints u = ints (L (rkT m t) (rd m u)) := by rw [← hul, L_rd (numsB_iff.1 hun)]
         have hlv : ints v = ints (L (rkT m t) (rd m v)) := by rw [← hvl, L_rd (numsB_iff.1 hvn)]
         have hT := plB_T hp
         generalize hf : rd2 m t = f at *
         generalize hN : t.length = N at *
         generalize hqq : rkT m t = q at *
         rw [← hT]
         refine loop_peelV Tryz.tabOk mixOrd ?_
         conv => whnf
         repeat' first | ((first | (apply zI; refine zP (c_square (m := m) q vAr vAr) ?_) | (apply zI; refine zP (vSqL (i := 0) vIx vSqA) ?_) | (apply zI; refine zP (vSqStore (i := 0) (j := 0) _ vIx vIx vSqA vSqA) ?_) | (refine And.intro (fun h => ?_) (fun h => ?_) <;> (try simp only [cnt1, ints_length] at h) <;> first | (exfalso; omega) | skip) | refine zV ?_ | refine And.intro (vSqA) ?_ | refine Or.inl ?_) <;> conv => whnf) | fail
         rw [show setT (sqT q (0 : PS (PS (Zm m)))) 0 0 1 = sqT q (1 : PS (PS (Zm m))) from sq_setT_eq (1 : Zm m) (Zm.val_one (by omega)).symm (by omega) (fun a b _ _ => by
           rw [upd2_cc, PS.one_c]
           by_cases ha : a = 0
           · rw [if_pos ha, PS.one_c]
             by_cases hb : b = 0
             · rw [if_pos ⟨ha, hb⟩, if_pos hb]
             · rw [if_neg (by omega), if_neg hb]; rfl
           · rw [if_neg (by omega), if_neg ha]; rfl)]
         refine loop_atR Tryz.tabOk mixOrd (α := Nat) (fun i => [(63, dint i)]) (fun i => [(9, some ⟨false, 1, rows true (sqT q (mix i f 0))⟩)]) (fun i => i ≤ q) (fun i => q - i) (0) ?_ ?_ ?_
         · omega
         · conv => whnf
           first | refine WeakS.autoR ?_ | refine Weak.autoR ?_
           conv => whnf
           repeat' ((first | refine z1 ?_ | refine And.intro ?_ ?_ | exact trivial) <;> try (conv => whnf))
           all_goals rw [mix_zero]
         intro i hi
         conv => whnf
         repeat' first | ((first | (apply zI; refine zP (vSqL (i := i) vIx vSqA) ?_) | (apply zI; refine zP (vSqG (i := i) vIx vSqA) ?_) | (refine And.intro (fun h => ?_) (fun h => ?_) <;> (try simp only [cnt1, ints_length] at h) <;> first | (exfalso; omega) | skip) | refine zS ?_ | refine zV ?_ | (apply zI; refine zP vObx ?_) | refine And.intro (vSqA) ?_ | refine Or.inl ?_) <;> conv => whnf) | fail
         · have hi' : i < q := vSqA
           refine Exists.intro (i + 1) (And.intro vSqA (And.intro vSqA ?_))
           first | refine WeakS.autoR ?_ | refine Weak.autoR ?_
           conv => whnf
           repeat' ((first | refine z1 ?_ | refine And.intro ?_ ?_ | exact trivial) <;> try (conv => whnf))
           simp only [cnt1, ints_length, L_length, place1, Int.toNat_natCast, Nat.zero_add, List.nil_append]
           rw [← mix_rows]
           exact updB_rowS hi' (by omega)
         · have hiq : i = q := vSqA
           rw [show sqT q (mix i f 0) = sqT q f from sqT_congr (fun a b ha hb => by rw [mix_c, if_pos (by omega)])]
           refine loop_atR Tryz.tabOk mixOrd (α := Nat) (fun k => [(84, dint k), (12, .undef), (56, .undef), (57, .undef), (58, .undef), (59, .undef), (60, .undef), (78, .undef), (79, .undef)]) (fun k => [(11, some ⟨false, 1, tbq q f (k + 1)⟩), (8, some ⟨true, 1, [dint m, dint q, .ref 11 [] 1 0 (k + 1), dint m, .list o 1 (rows p (Tb N f))]⟩)]) (fun k => k + 1 ≤ q) (fun k => q - k) (0) ?_ ?_ ?_
           · omega
           · conv => whnf
             first | refine WeakS.autoR ?_ | refine Weak.autoR ?_
             conv => whnf
             repeat' ((first | refine z1 ?_ | refine And.intro ?_ ?_ | exact trivial) <;> try (conv => whnf))
           intro k hkq
           conv => whnf
           repeat' first | ((first | refine z0 ?_ | (apply zI; refine zP (vQL k vIx vSqA) ?_) | (apply zI; refine zP (vQG k vIx vSqA) ?_) | (apply zI; refine zP (sub_tbq vSqA) ?_) | (apply zI; refine zP (sub_rows vSqA) ?_) | (apply zI; refine zP (c_tableTimes hm q vAr _ _ _ _ _ _ _ (pw f k) f) ?_) | (refine And.intro (fun h => ?_) (fun h => ?_) <;> (try simp only [cnt1, ints_length] at h) <;> first | (exfalso; omega) | skip) | refine zS ?_ | refine zV ?_ | (apply zI; refine zP vObx ?_) | refine And.intro (vQsz vSqA) ?_ | refine And.intro (vQlen vSqA) ?_ | refine And.intro (one_l _) ?_ | refine And.intro (vSqA) ?_ | refine Alt.fst ?_ | refine Or.inl ?_) <;> conv => whnf) | fail
           · refine Exists.intro (k + 1) (And.intro vSqA (And.intro vSqA ?_))
             first | refine WeakS.autoR ?_ | refine Weak.autoR ?_
             conv => whnf
             repeat' ((first | refine z1 ?_ | refine And.intro ?_ ?_ | exact trivial) <;> try (conv => whnf))
             exact tbq_push rfl
           · have hkq' : k + 1 = q := vSqA
             subst hkq'
             rw [hlu, hlv]
             generalize rd m u = a at *
             generalize rd m v = b at *
             repeat' first | ((first | refine z0 ?_ | (apply zI; refine zP (c_dual hm (k + 1) vAr _ _ _ _ _ f a b) ?_) | refine zV ?_) <;> conv => whnf) | fail
             rw [hT, ← hyes]
       · have hvn : numsB m v = false := by assumption
         exact hno (by simp [elB, hvn])
     · have hun : numsB m u = false := by assumption
       exact hno (by simp [elB, hun])
 · refine pure_of_vcR Tryz.tabOk mixOrd Tryz.func85 rfl rfl ?_
   conv => whnf
   have key := c_ranked o p m t hl hr
   rw [if_neg hk] at key
   repeat' first | ((first | refine z0 ?_ | refine Or.inr (inl_ofR Tryz.tabOk mixOrd _ Tryz.func270 rfl rfl ?_) | (apply zI; refine zP (key) ?_) | (refine And.intro (fun h => ?_) (fun h => ?_) <;> (try simp only [cnt1, ints_length] at h) <;> first | (exfalso; omega) | skip) | refine Or.inl ?_) <;> conv => whnf) | fail
   have h4 : kC m t = rkC m t := by unfold kC; rw [if_neg hk]
   have h5 : elC2 m t u v = rkC m t := by unfold elC2; rw [h4, if_neg hk]
   rw [mdRes, h5, if_neg hk]
end Go.Proofs
