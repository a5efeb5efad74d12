import Derived.Test.YtndhpcigpghejaaGreatK35
namespace Go.Proofs
open Go Go.Vm Go.Fg Go.Fg.PS
set_option maxRecDepth 100000
set_option maxHeartbeats 4000000
set_option linter.unusedSimpArgs false
set_option linter.unusedVariables false
def elB (q : Nat) (m : Int) (l : List Int) : Bool := decide (l.length = q) && numsB m l
noncomputable def elC2 (m : Int) (t : List (List Int)) (u v : List Int) : Int := if kC m t = 0 then (if elB (rkT m t) m u && elB (rkT m t) m v then 0 else 2) else kC m t
noncomputable def meRes (m : Int) (t : List (List Int)) (u v : List Int) : D := if elC2 m t u v = 0 then .tup [LD true (rkT m t) (rd m u * rd m v), dint 0] else .tup [.lit (.slice none 0 0), dint (elC2 m t u v)]
theorem kC_0 {m : Int} {t : List (List Int)} (h : kC m t = 0) : rkC m t = 0 ∧ htC m t = 0 ∧ rkT m t ≠ 0 ∧ 2 * ((rkT m t : Int) - 1) ≤ (t.length : Int) - 1 := by
 unfold kC at h
 split at h
 · rename_i h1
   split at h
   · omega
   · rename_i h2
     refine ⟨h1, ?_, ?_, by omega⟩
     · unfold rkC at h1
       split at h1
       · assumption
       · exact h1
     · intro e
       unfold rkC at h1
       simp only [e, if_true] at h1
       split at h1
       · omega
       · rename_i h3; exact h3 h1
 · rename_i h1; exact absurd h h1
theorem updB_rowS {m : Int} {q i a : Nat} {F : PS (PS (Zm m))} {g : PS (Zm m)} (hi : i < q) (ha : q ≤ a) : updB (rows true (sqT q F)) [i] (fun l => l.take 0 ++ ((ints (L a g)).take (min a q) ++ l.drop (min a q))) = rows true (sqT q (F.upd i g)) := by
 rw [updB_rows _ (by simpa using hi) _ (L q g), sqT_set F g hi]
 rw [sqT_getD F hi, Nat.min_eq_right ha, List.take_zero, List.nil_append, ints_take, ints_drop, ints_append, L_take g ha]
 rw [show (L q (F.c i)).drop q = [] from List.drop_eq_nil_of_le (by simp), List.append_nil]
def tbq {m : Int} (q : Nat) (f : PS (PS (Zm m))) (k : Nat) : List D := (List.range k).map fun c => .list true 1 (rows true (sqT q (pw f c)))
@[simp] theorem tbq_length {m : Int} (q : Nat) (f : PS (PS (Zm m))) (k : Nat) : (tbq q f k).length = k := by simp [tbq]
theorem tbq_push {m : Int} {q k : Nat} {f : PS (PS (Zm m))} {t : List D} (h : t = rows true (sqT q (pw f k))) : tbq q f k ++ [.list true 1 t] = tbq q f (k + 1) := by
 subst h; simp [tbq, List.range_succ]
theorem tbq_at {m : Int} {q k i : Nat} {f : PS (PS (Zm m))} (h : i < k) : (tbq q f k)[i]? = some (.list true 1 (rows true (sqT q (pw f i)))) := by simp [tbq, h]
theorem vQlen {m : Int} {q k a : Nat} {f : PS (PS (Zm m))} (e : a = k) : a = (tbq q f k).length := by rw [tbq_length]; exact e
theorem vQL {m : Int} {q k a : Nat} {f : PS (PS (Zm m))} (i : Nat) (e : a = i) (h : i < k) : LoadRow (tbq q f k) [] a (.list true 1 (rows true (sqT q (pw f i)))) := by
 subst e; exact ⟨_, rfl, tbq_at h⟩
theorem vQG {m : Int} {q k a : Nat} {f : PS (PS (Zm m))} (i : Nat) (e : a = i) (h : i < k) : getB (tbq q f k) ([] ++ [a]) = some (rows true (sqT q (pw f i))) := by
 subst e
 show (match (tbq q f k)[a]? with | some (.list true _ cs') => getB cs' [] | _ => none) = _
 rw [tbq_at h]; rfl
theorem vQsz {m : Int} {q k a : Nat} {f : PS (PS (Zm m))} (e : a = k) : (0 + a) * 1 ≤ (tbq q f k).length := by rw [tbq_length]; omega
theorem sub_tbq {m : Int} {q k a : Nat} {f : PS (PS (Zm m))} (e : a = k) : sub (tbq q f k) 1 0 a = tbq q f k := by
 subst e
 simp only [sub, Nat.zero_mul, List.drop_zero, Nat.mul_one]
 rw [List.take_of_length_le (by simp)]
theorem one_l (cs : List D) : ∀ d ∈ [D.list true 1 cs], d.one = true := fun d hd => by
 simp only [List.mem_cons, List.not_mem_nil, or_false] at hd
 subst hd; rfl
theorem c_kernelOf1 (a m : Int) (d : D) (h1 : inR .i64 (m - 1)) : PureCall Tryz.prog 393 [dint a, .cptr [dint m, d] 0] (dbool (inB a 0 (m - 1))) := by
 refine pure_of_vcR Tryz.tabOk mixOrd Tryz.func393 rfl rfl ?_
 conv => whnf
 repeat' first | ((first | refine z0 ?_ | (apply zI; refine zP (c_isNumber _ _ h1) ?_) | (refine And.intro (fun h => ?_) (fun h => ?_) <;> (try simp only [cnt1, ints_length] at h)) | (apply zI; refine zP vObx ?_) | refine Or.inl ?_) <;> conv => whnf) | fail
 all_goals (refine dbool_congr ?_; first | rfl | (simp_all []; done) | (simp_all []; omega) | (simp_all []; intros; omega))
theorem c_implMultiplyElements (o p o1 o2 : Bool) (m : Int) (t : List (List Int)) (u v : List Int) (hl : t.length ≤ 1048576) (hr : lensOk t) (hu : u.length ≤ 1048576) (hv : v.length ≤ 1048576) :
   PureCall Tryz.prog 95 [.agg [dint m, .list o 1 (rows p t)], .list o1 1 (ints u), .list o2 1 (ints v)] (meRes m t u v) := by
 by_cases hk : rkC m t = 0
 · have hht : htC m t = 0 := by
     unfold rkC at hk
     split at hk
     · assumption
     · exact hk
   obtain ⟨hb, hpr⟩ := htC_0 hht
   obtain ⟨hp, hlw⟩ := lawB_pl hb
   obtain ⟨hm, h2, h3, _⟩ := plB_md hp
   have hm1 := hm.1
   have hm2 := hm.2
   have key := c_ranked o p m t hl hr
   rw [hk, if_pos rfl] at key
   have hdeg : PureCall Tryz.prog 191 [.agg [dint m, .list o 1 (rows p t)]] (dint (t.length - 1)) := by
     have := c_degreeP (m := m) o p t.length (by omega) (rd2 m t)
     simpa only [PlD, plB_T hp] using this
   have hlt : rkT m t < t.length := rkOf_lt (by omega)
   have hall : ∀ (o' : Bool) (l : List Int), l.length ≤ 1048576 → PureCall Tryz.prog 303 [.list o' 1 (ints l), .fn (.func 393) [] [.cptr [dint m, .list o 1 (rows p t)] 0]] (dbool (numsB m l)) := fun o' l hl => by
     have := c_allA 393 [dint m, .list o 1 (rows p t)] (fun a => inB a 0 (m - 1)) (fun a => c_kernelOf1 a m _ (h1of (by simpa [inB, Md] using hm))) o' l hl
     exact this
   refine pure_of_vcR Tryz.tabOk mixOrd Tryz.func95 rfl rfl ?_
   conv => whnf
   repeat' first | ((first | refine z0 ?_ | refine Or.inr (inl_ofR Tryz.tabOk mixOrd _ Tryz.func270 rfl rfl ?_) | (apply zI; refine zP (key) ?_) | (apply zI; refine zP (hdeg) ?_) | (refine And.intro (fun h => ?_) (fun h => ?_) <;> (try simp only [cnt1, ints_length] at h) <;> first | (exfalso; omega) | skip) | refine zV ?_ | refine Or.inl ?_) <;> conv => whnf) | fail
   · have h3 : 2 * ((rkT m t : Int) - 1) > (t.length : Int) - 1 := by assumption
     have h4 : kC m t = 3 := by unfold kC; rw [if_pos hk, if_pos h3]
     have h5 : elC2 m t u v = 3 := by unfold elC2; rw [h4, if_neg (by omega)]
     rw [meRes, h5, if_neg (by omega)]
   · have h3 : ¬ 2 * ((rkT m t : Int) - 1) > (t.length : Int) - 1 := by assumption
     have h4 : kC m t = 0 := by unfold kC; rw [if_pos hk, if_neg h3]
     have hno : (elB (rkT m t) m u && elB (rkT m t) m v) = false → D.tup [.lit (.slice none 0 0), dint 2] = meRes m t u v := fun e => by
       have h5 : elC2 m t u v = 2 := by unfold elC2; rw [if_pos h4, e]; rfl
       rw [meRes, h5, if_neg (by omega)]
     refine loop_peelV Tryz.tabOk mixOrd ?_
     conv => whnf
     repeat' first | ((first | refine z0 ?_ | (apply zI; refine zP (⟨_, rfl, rfl⟩) ?_) | (apply zI; refine zP (hall _ _ hu) ?_) | (refine And.intro (fun h => ?_) (fun h => ?_) <;> (try simp only [cnt1, ints_length] at h) <;> first | (exfalso; omega) | skip) | refine zV ?_ | refine Or.inl ?_) <;> conv => whnf) | fail
     · have hne : (u.length : Int) ≠ (rkT m t : Int) := by assumption
       exact hno (by simp [elB]; intro e; exfalso; omega)
     · have hul : u.length = rkT m t := by
         have : ¬ (u.length : Int) ≠ (rkT m t : Int) := by assumption
         omega
       have hun : numsB m u = true := by assumption
       refine loop_peelV Tryz.tabOk mixOrd ?_
       conv => whnf
       repeat' first | ((first | refine z0 ?_ | (apply zI; refine zP (⟨_, rfl, rfl⟩) ?_) | (apply zI; refine zP (hall _ _ hv) ?_) | (refine And.intro (fun h => ?_) (fun h => ?_) <;> (try simp only [cnt1, ints_length] at h) <;> first | (exfalso; omega) | skip) | refine zV ?_ | refine Or.inl ?_) <;> conv => whnf) | fail
       · have hne : (v.length : Int) ≠ (rkT m t : Int) := by assumption
         exact hno (by simp [elB]; intro _ _ e; exfalso; omega)
       · have hvl : v.length = rkT m t := by
           have : ¬ (v.length : Int) ≠ (rkT m t : Int) := by assumption
           omega
         have hvn : numsB m v = true := by assumption
         have hq1 := (kC_0 h4).2.2.1
         have hq2 := (kC_0 h4).2.2.2
         have hyes : D.tup [LD true (rkT m t) (rd m u * rd m v), dint 0] = meRes m t u v := by
           have h5 : elC2 m t u v = 0 := by unfold elC2; rw [if_pos h4]; simp [elB, hul, hvl, hun, hvn]
           rw [meRes, if_pos h5]
         have hlu : ints u = ints (L (rkT m t) (rd m u)) := by rw [← hul, L_rd (numsB_iff.1 hun)]
         have hlv : ints v = ints (L (rkT m t) (rd m v)) := by rw [← hvl, L_rd (numsB_iff.1 hvn)]
         have hT := plB_T hp
         generalize hf : rd2 m t = f at *
         generalize hN : t.length = N at *
         generalize hqq : rkT m t = q at *
         rw [← hT]
         refine loop_peelV Tryz.tabOk mixOrd ?_
         conv => whnf
         repeat' first | ((first | (apply zI; refine zP (c_square (m := m) q vAr vAr) ?_) | (apply zI; refine zP (vSqL (i := 0) vIx vSqA) ?_) | (apply zI; refine zP (vSqStore (i := 0) (j := 0) _ vIx vIx vSqA vSqA) ?_) | (refine And.intro (fun h => ?_) (fun h => ?_) <;> (try simp only [cnt1, ints_length] at h) <;> first | (exfalso; omega) | skip) | refine zV ?_ | refine And.intro (vSqA) ?_ | refine Or.inl ?_) <;> conv => whnf) | fail
         rw [show setT (sqT q (0 : PS (PS (Zm m)))) 0 0 1 = sqT q (1 : PS (PS (Zm m))) from sq_setT_eq (1 : Zm m) (Zm.val_one (by omega)).symm (by omega) (fun a b _ _ => by
           rw [upd2_cc, PS.one_c]
           by_cases ha : a = 0
           · rw [if_pos ha, PS.one_c]
             by_cases hb : b = 0
             · rw [if_pos ⟨ha, hb⟩, if_pos hb]
             · rw [if_neg (by omega), if_neg hb]; rfl
           · rw [if_neg (by omega), if_neg ha]; rfl)]
         refine loop_atR Tryz.tabOk mixOrd (α := Nat) (fun i => [(63, dint i)]) (fun i => [(9, some ⟨false, 1, rows true (sqT q (mix i f 0))⟩)]) (fun i => i ≤ q) (fun i => q - i) (0) ?_ ?_ ?_
         · omega
         · conv => whnf
           first | refine WeakS.autoR ?_ | refine Weak.autoR ?_
           conv => whnf
           repeat' ((first | refine z1 ?_ | refine And.intro ?_ ?_ | exact trivial) <;> try (conv => whnf))
           all_goals rw [mix_zero]
         intro i hi
         conv => whnf
         repeat' first | ((first | (apply zI; refine zP (vSqL (i := i) vIx vSqA) ?_) | (apply zI; refine zP (vSqG (i := i) vIx vSqA) ?_) | (refine And.intro (fun h => ?_) (fun h => ?_) <;> (try simp only [cnt1, ints_length] at h) <;> first | (exfalso; omega) | skip) | refine zS ?_ | refine zV ?_ | (apply zI; refine zP vObx ?_) | refine And.intro (vSqA) ?_ | refine Or.inl ?_) <;> conv => whnf) | fail
         · have hi' : i < q := vSqA
           refine Exists.intro (i + 1) (And.intro vSqA (And.intro vSqA ?_))
           first | refine WeakS.autoR ?_ | refine Weak.autoR ?_
           conv => whnf
           repeat' ((first | refine z1 ?_ | refine And.intro ?_ ?_ | exact trivial) <;> try (conv => whnf))
           simp only [cnt1, ints_length, L_length, place1, Int.toNat_natCast, Nat.zero_add, List.nil_append]
           rw [← mix_rows]
           exact updB_rowS hi' (by omega)
         · have hiq : i = q := vSqA
           rw [show sqT q (mix i f 0) = sqT q f from sqT_congr (fun a b ha hb => by rw [mix_c, if_pos (by omega)])]
           refine loop_atR Tryz.tabOk mixOrd (α := Nat) (fun k => [(84, dint k), (12, .undef), (56, .undef), (57, .undef), (58, .undef), (59, .undef), (60, .undef), (78, .undef), (79, .undef)]) (fun k => [(11, some ⟨false, 1, tbq q f (k + 1)⟩), (8, some ⟨true, 1, [dint m, dint q, .ref 11 [] 1 0 (k + 1), dint m, .list o 1 (rows p (Tb N f))]⟩)]) (fun k => k + 1 ≤ q) (fun k => q - k) (0) ?_ ?_ ?_
           · omega
           · conv => whnf
             first | refine WeakS.autoR ?_ | refine Weak.autoR ?_
             conv => whnf
             repeat' ((first | refine z1 ?_ | refine And.intro ?_ ?_ | exact trivial) <;> try (conv => whnf))
           intro k hkq
           conv => whnf
           repeat' first | ((first | refine z0 ?_ | (apply zI; refine zP (vQL k vIx vSqA) ?_) | (apply zI; refine zP (vQG k vIx vSqA) ?_) | (apply zI; refine zP (sub_tbq vSqA) ?_) | (apply zI; refine zP (sub_rows vSqA) ?_) | (apply zI; refine zP (c_tableTimes hm q vAr _ _ _ _ _ _ _ (pw f k) f) ?_) | (refine And.intro (fun h => ?_) (fun h => ?_) <;> (try simp only [cnt1, ints_length] at h) <;> first | (exfalso; omega) | skip) | refine zS ?_ | refine zV ?_ | (apply zI; refine zP vObx ?_) | refine And.intro (vQsz vSqA) ?_ | refine And.intro (vQlen vSqA) ?_ | refine And.intro (one_l _) ?_ | refine And.intro (vSqA) ?_ | refine Alt.fst ?_ | refine Or.inl ?_) <;> conv => whnf) | fail
           · refine Exists.intro (k + 1) (And.intro vSqA (And.intro vSqA ?_))
             first | refine WeakS.autoR ?_ | refine Weak.autoR ?_
             conv => whnf
             repeat' ((first | refine z1 ?_ | refine And.intro ?_ ?_ | exact trivial) <;> try (conv => whnf))
             exact tbq_push rfl
           · rw [hlu, hlv, show List.replicate q 0 = L q (0 : PS (Zm m)) from (L_zero q).symm]
             generalize rd m u = a at *
             generalize rd m v = b at *
             refine loop_atR Tryz.tabOk mixOrd (α := Nat) (fun i => [(33, dint i)]) (fun i => [(12, some ⟨false, 1, ints (L q (tP a b i))⟩)]) (fun i => i ≤ q) (fun i => q - i) (0) ?_ ?_ ?_
             · omega
             · conv => whnf
               first | refine WeakS.autoR ?_ | refine Weak.autoR ?_
               conv => whnf
               repeat' ((first | refine z1 ?_ | refine And.intro ?_ ?_ | exact trivial) <;> try (conv => whnf))
               all_goals rw [tP_zero]
             intro i hi
             conv => whnf
             repeat' first | ((first | refine z0 ?_ | (refine And.intro (fun h => ?_) (fun h => ?_) <;> (try simp only [cnt1, ints_length] at h) <;> first | (exfalso; omega) | skip) | refine zS ?_ | refine zV ?_ | (apply zI; refine zP vObt ?_) | (apply zI; refine zP vObx ?_)) <;> conv => whnf) | fail
             · have hi' : i < q := vSqA
               refine loop_atR Tryz.tabOk mixOrd (α := Nat) (fun j => [(45, dint j)]) (fun j => [(12, some ⟨false, 1, ints (L q (tQ a b i j))⟩)]) (fun j => j ≤ q - i) (fun j => q - j) (0) ?_ ?_ ?_
               · omega
               · conv => whnf
                 first | refine WeakS.autoR ?_ | refine Weak.autoR ?_
                 conv => whnf
                 repeat' ((first | refine z1 ?_ | refine And.intro ?_ ?_ | exact trivial) <;> try (conv => whnf))
                 all_goals rw [tQ_zero]
               intro j hj
               conv => whnf
               have x1 := hm.mul (a.c i) (b.c j)
               have x2 := Zm.val_range hm.pos ((tQ a b i j).c (i + j))
               repeat' first | ((first | refine z0 ?_ | (refine And.intro (fun h => ?_) (fun h => ?_) <;> (try simp only [cnt1, ints_length] at h) <;> first | (exfalso; omega) | skip) | refine zS ?_ | refine zV ?_ | (apply zI; refine zP vObt ?_) | (apply zI; refine zP vObx ?_)) <;> conv => whnf) | fail
               · refine Exists.intro (j + 1) (And.intro vSqA (And.intro vSqA ?_))
                 first | refine WeakS.autoR ?_ | refine Weak.autoR ?_
                 conv => whnf
                 repeat' ((first | refine z1 ?_ | refine And.intro ?_ ?_ | exact trivial) <;> try (conv => whnf))
                 exact ints_congr' (L_set_eq _ (tm_mulA hm _ _ _) (Ag.of_eq (tQ_step a b i j).symm))
               · have hj' : q ≤ i + j := vSqA
                 refine Exists.intro (i + 1) (And.intro vSqA (And.intro vSqA ?_))
                 first | refine WeakS.autoR ?_ | refine Weak.autoR ?_
                 conv => whnf
                 repeat' ((first | refine z1 ?_ | refine And.intro ?_ ?_ | exact trivial) <;> try (conv => whnf))
                 exact ints_congr' (L_congr (tQ_full a b hj'))
             · have hi' : q ≤ i := vSqA
               rw [hT, ← hyes]
               exact congrArg (fun x => D.tup [D.list true 1 (ints x), dint 0]) (L_congr (tP_full a b hi'))
       · have hvn : numsB m v = false := by assumption
         exact hno (by simp [elB, hvn])
     · have hun : numsB m u = false := by assumption
       exact hno (by simp [elB, hun])
 · refine pure_of_vcR Tryz.tabOk mixOrd Tryz.func95 rfl rfl ?_
   conv => whnf
   have key := c_ranked o p m t hl hr
   rw [if_neg hk] at key
   repeat' first | ((first | refine z0 ?_ | refine Or.inr (inl_ofR Tryz.tabOk mixOrd _ Tryz.func270 rfl rfl ?_) | (apply zI; refine zP (key) ?_) | (refine And.intro (fun h => ?_) (fun h => ?_) <;> (try simp only [cnt1, ints_length] at h) <;> first | (exfalso; omega) | skip) | refine Or.inl ?_) <;> conv => whnf) | fail
   have h4 : kC m t = rkC m t := by unfold kC; rw [if_neg hk]
   have h5 : elC2 m t u v = rkC m t := by unfold elC2; rw [h4, if_neg hk]
   rw [meRes, h5, if_neg hk]
end Go.Proofs
