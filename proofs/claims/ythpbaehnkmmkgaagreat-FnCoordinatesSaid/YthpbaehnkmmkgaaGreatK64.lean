import Derived.Test.YthpbaehnkmmkgaaGreatK59
import Derived.Test.YthpbaehnkmmkgaaGreatK62
import Derived.Test.YthpbaehnkmmkgaaGreatK79
import Derived.Test.YthpbaehnkmmkgaaGreatK61
namespace Go.Proofs
open Go Go.Vm Go.Fg Go.Fg.PS
set_option maxRecDepth 100000
set_option maxHeartbeats 4000000
set_option linter.unusedSimpArgs false
set_option linter.unusedVariables false
noncomputable def opC (m : Int) (t : List (List Int)) (ma : Int) (l : List Int) (n : Int) : Int := if cuC m t ma l = 0 then (if inB n 2 5 = true then (if n > (t.length : Int) - 1 then 5 else 0) else 2) else cuC m t ma l
noncomputable def frS (m : Int) (t : List (List Int)) (l : List Int) (n : Nat) : PS (Zm m) := ⟨fun i => ((Go.Fg.frT (kN n) (rd m (rlN n)) t.length (rd2 m t) (rd m l) n).c (i * n)).c 0⟩
def nmS {m : Int} (a : PS (Zm m)) (n : Nat) : PS (Zm m) := ⟨fun j => if j % n = 0 then a.c (j / n) else 0⟩
def nmP {m : Int} (a : PS (Zm m)) (n i : Nat) : PS (Zm m) := ⟨fun j => if j % n = 0 ∧ j / n < i then a.c (j / n) else 0⟩
theorem nmP_zero {m : Int} (a : PS (Zm m)) (n : Nat) : nmP a n 0 = 0 := by
 ext j; show (if j % n = 0 ∧ j / n < 0 then a.c (j / n) else 0) = 0; rw [if_neg (fun x => Nat.not_lt_zero _ x.2)]
theorem nmP_step {m : Int} (a : PS (Zm m)) {n : Nat} (hn : 1 ≤ n) (i : Nat) : (nmP a n i).upd (i * n) (a.c i) = nmP a n (i + 1) := by
 ext j
 rw [upd_c]
 show (if j = i * n then a.c i else if j % n = 0 ∧ j / n < i then a.c (j / n) else 0) = if j % n = 0 ∧ j / n < i + 1 then a.c (j / n) else 0
 by_cases h : j = i * n
 · subst h
   have h1 : i * n % n = 0 := Nat.mul_mod_left i n
   have h2 : i * n / n = i := Nat.mul_div_cancel i (by omega)
   rw [if_pos rfl, h2, if_pos ⟨h1, by omega⟩]
 · rw [if_neg h]
   by_cases h1 : j % n = 0
   · have h3 : j = j / n * n := by have := Nat.div_add_mod j n; rw [h1, Nat.mul_comm] at this; omega
     have h4 : j / n ≠ i := fun e => h (by rw [← e]; exact h3)
     by_cases h5 : j / n < i
     · rw [if_pos ⟨h1, h5⟩, if_pos ⟨h1, by omega⟩]
     · rw [if_neg (fun x => h5 x.2), if_neg (by omega)]
   · rw [if_neg (fun x => h1 x.1), if_neg (fun x => h1 x.1)]
theorem nmP_full {m : Int} (a : PS (Zm m)) {n K : Nat} (hn : 1 ≤ n) : L (K * n + 1) (nmP a n (K + 1)) = L (K * n + 1) (nmS a n) := L_congr (fun j hj => by
 show (if j % n = 0 ∧ j / n < K + 1 then a.c (j / n) else 0) = if j % n = 0 then a.c (j / n) else 0
 by_cases h1 : j % n = 0
 · have : j / n < K + 1 := (Nat.div_lt_iff_lt_mul (by omega)).2 (by rw [Nat.add_mul]; omega)
   rw [if_pos ⟨h1, this⟩, if_pos h1]
 · rw [if_neg (fun x => h1 x.1), if_neg h1])
theorem cuC_four {m : Int} {t : List (List Int)} {ma : Int} {l : List Int} (h : cuC m t ma l = 0) : lawB m t = true ∧ serB ma l = true ∧ m = ma ∧ t.length = l.length := by
 unfold cuC at h
 split at h
 · split at h
   · split at h
     · rename_i h1 h2 h3
       simp only [fitB, Bool.and_eq_true, decide_eq_true_eq] at h3
       exact ⟨h1, h2, h3.1, h3.2.1⟩
     · omega
   · omega
 · omega
theorem opC_0 {m : Int} {t : List (List Int)} {ma : Int} {l : List Int} {n : Int} (h : opC m t ma l n = 0) : cuC m t ma l = 0 ∧ 2 ≤ n ∧ n ≤ 5 := by
 unfold opC at h
 split at h
 · split at h
   · rename_i h1 h2
     have : 2 ≤ n ∧ n ≤ 5 := by simpa [inB] using h2
     exact ⟨h1, this⟩
   · omega
 · rename_i h1; exact absurd h h1
theorem c_operated (o p o1 : Bool) (m : Int) (t : List (List Int)) (ma : Int) (l : List Int) (n : Int) (hl : t.length ≤ 1048576) (hr : lensOk t) (h1 : l.length ≤ 1048576) :
   PureCall Tryz.prog 336 [.agg [dint m, .list o 1 (rows p t)], .agg [dint ma, .list o1 1 (ints l)], dint n] (dint (opC m t ma l n)) := by
 have hd : PureCall Tryz.prog 215 [.agg [dint m, .list o 1 (rows p t)]] (dint (t.length - 1)) := by
   refine pure_of_vcR Tryz.tabOk mixOrd Tryz.func215 rfl rfl ?_
   conv => whnf
   repeat' first | ((first | refine z0 ?_ | (refine And.intro (fun h => ?_) (fun h => ?_) <;> (try simp only [cnt1, ints_length] at h)) | refine zS ?_ | refine zV ?_ | (apply zI; refine zP vObt ?_) | (apply zI; refine zP vObx ?_) | refine zA ?_ | refine And.intro (inR64 vAr vAr) ?_ | refine Alt.fst ?_ | refine Or.inl ?_) <;> conv => whnf) | fail
   rw [cnt1, rows_length]
 refine pure_of_vcR Tryz.tabOk mixOrd Tryz.func336 rfl rfl ?_
 conv => whnf
 repeat' first | ((first | refine z0 ?_ | (apply zI; refine zP (c_curved1 _ _ _ _ _ _ _ _ hl hr h1) ?_) | (apply zI; refine zP (c_impl_in _ _ _) ?_) | (apply zI; refine zP (hd) ?_) | (apply zI; refine zP ((show sub [dint ma, D.list false 1 (ints l)] 2 0 1 = [dint ma, D.list false 1 (ints l)] from rfl)) ?_) | (refine And.intro (fun h => ?_) (fun h => ?_) <;> (try simp only [cnt1, ints_length] at h)) | refine zS ?_ | refine zV ?_ | (apply zI; refine zP vObt ?_) | (apply zI; refine zP vObx ?_) | refine zA ?_ | refine And.intro ((show 1 * 2 ≤ 2 by omega)) ?_ | refine Alt.fst ?_ | refine Or.inl ?_) <;> conv => whnf) | fail
 all_goals (refine congrArg dint ?_; simp [opC]; simp_all)
theorem c_frob (o p o1 : Bool) (m : Int) (t : List (List Int)) (ma : Int) (l : List Int) (hc : cuC m t ma l = 0) (n : Nat) (hn : 2 ≤ n ∧ n ≤ 5) {Q : Int} (hQ : Q = n) :
   PureCall Tryz.prog 337 [.agg [dint m, .list o 1 (rows p t)], .agg [dint ma, .list o1 1 (ints l)], dint Q] (SerD m true ((t.length - 1) / n + 1) (frS m t l n)) := by
 subst hQ
 obtain ⟨hlw, hs, hm, hlen⟩ := cuC_four hc
 subst hm
 have hp : plB m t = true := by simp only [lawB, Bool.and_eq_true] at hlw; exact hlw.1
 obtain ⟨hmd, h2, h3, _⟩ := plB_md hp
 have key := c_frobenius hmd o1 o p n hn t.length (by omega) (rd2 m t) (rd m l)
 rw [plB_T hp] at key
 have e1 : SerD m o1 t.length (rd m l) = .agg [dint m, .list o1 1 (ints l)] := by
   unfold SerD
   rw [hlen, ← serB_L' hs]
 rw [e1] at key
 exact key
theorem c_implFrobeniusUnder (o p o1 : Bool) (m : Int) (t : List (List Int)) (ma : Int) (l : List Int) (n : Int) (hl : t.length ≤ 1048576) (hr : lensOk t) (h1 : l.length ≤ 1048576) :
   PureCall Tryz.prog 140 [.agg [dint m, .list o 1 (rows p t)], .agg [dint ma, .list o1 1 (ints l)], dint n] (serRes m ((t.length - 1) / n.toNat + 1) (frS m t l n.toNat) (opC m t ma l n)) := by
 by_cases hc : opC m t ma l n = 0
 · obtain ⟨hcu, hn⟩ := opC_0 hc
   have hop := c_operated o p o1 m t ma l n hl hr h1
   rw [hc] at hop
   rw [serRes, if_pos hc]
   refine pure_of_vcR Tryz.tabOk mixOrd Tryz.func140 rfl rfl ?_
   conv => whnf
   repeat' first | ((first | refine z0 ?_ | (apply zI; refine zP (hop) ?_) | (apply zI; refine zP (c_frob _ _ _ _ _ _ _ hcu n.toNat (by omega) (by omega)) ?_) | (refine And.intro (fun h => ?_) (fun h => ?_) <;> (try simp only [cnt1, ints_length] at h) <;> first | (exfalso; omega) | skip) | refine zS ?_ | refine zV ?_ | (apply zI; refine zP vObt ?_) | (apply zI; refine zP vObx ?_) | refine zA ?_ | refine Alt.fst ?_ | refine Or.inl ?_) <;> conv => whnf) | fail
   all_goals first | rfl | (exfalso; simp_all; done)
 · rw [serRes, if_neg hc]
   refine pure_of_vcR Tryz.tabOk mixOrd Tryz.func140 rfl rfl ?_
   conv => whnf
   repeat' first | ((first | refine z0 ?_ | (apply zI; refine zP (c_operated _ _ _ _ _ _ _ _ hl hr h1) ?_) | (refine And.intro (fun h => ?_) (fun h => ?_) <;> (try simp only [cnt1, ints_length] at h)) | refine zS ?_ | refine zV ?_ | (apply zI; refine zP vObt ?_) | (apply zI; refine zP vObx ?_) | refine zA ?_ | refine Alt.fst ?_ | refine Or.inl ?_) <;> conv => whnf) | fail
   all_goals first | rfl | (exfalso; simp_all; done)
theorem c_l12Code (o p o1 : Bool) (m : Int) (t : List (List Int)) (ma : Int) (l : List Int) (n : Int) (hl : t.length ≤ 1048576) (hr : lensOk t) (h1 : l.length ≤ 1048576) :
   PureCall Tryz.prog 338 [.agg [dint m, .list o 1 (rows p t)], .agg [dint ma, .list o1 1 (ints l)], dint n] (dint (opC m t ma l n)) := by
 have hd : PureCall Tryz.prog 298 [.agg [dint m, .list o 1 (rows p t)]] (dint (t.length - 1)) := by
   refine pure_of_vcR Tryz.tabOk mixOrd Tryz.func298 rfl rfl ?_
   conv => whnf
   repeat' first | ((first | refine z0 ?_ | (refine And.intro (fun h => ?_) (fun h => ?_) <;> (try simp only [cnt1, ints_length] at h)) | refine zS ?_ | refine zV ?_ | (apply zI; refine zP vObt ?_) | (apply zI; refine zP vObx ?_) | refine zA ?_ | refine And.intro (inR64 vAr vAr) ?_ | refine Alt.fst ?_ | refine Or.inl ?_) <;> conv => whnf) | fail
   rw [cnt1, rows_length]
 refine pure_of_vcR Tryz.tabOk mixOrd Tryz.func338 rfl rfl ?_
 conv => whnf
 repeat' first | ((first | refine z0 ?_ | (apply zI; refine zP (c_l04Code1 _ _ _ _ _ _ _ _ hl hr h1) ?_) | (apply zI; refine zP (c_l01In _ _ _) ?_) | (apply zI; refine zP (hd) ?_) | (apply zI; refine zP ((show sub [dint ma, D.list false 1 (ints l)] 2 0 1 = [dint ma, D.list false 1 (ints l)] from rfl)) ?_) | (refine And.intro (fun h => ?_) (fun h => ?_) <;> (try simp only [cnt1, ints_length] at h)) | refine zS ?_ | refine zV ?_ | (apply zI; refine zP vObt ?_) | (apply zI; refine zP vObx ?_) | refine zA ?_ | refine And.intro ((show 1 * 2 ≤ 2 by omega)) ?_ | refine Alt.fst ?_ | refine Or.inl ?_) <;> conv => whnf) | fail
 all_goals (refine congrArg dint ?_; simp [opC]; simp_all)
theorem c_lfrob (o p o1 : Bool) (m : Int) (t : List (List Int)) (ma : Int) (l : List Int) (hc : cuC m t ma l = 0) (n : Nat) (hn : 2 ≤ n ∧ n ≤ 5) {Q : Int} (hQ : Q = n) :
   PureCall Tryz.prog 339 [dint m, .list o 1 (rows p t), .list o1 1 (ints l), dint Q] (LD true ((t.length - 1) / n + 1) (frS m t l n)) := by
 obtain ⟨hlw, hs, hm, hlen⟩ := cuC_four hc
 subst hm
 have hp : plB m t = true := by simp only [lawB, Bool.and_eq_true] at hlw; exact hlw.1
 obtain ⟨hmd, h2, h3, _⟩ := plB_md hp
 have key := c_l12Frobenius hmd o1 o p n hn t.length (by omega) (rd2 m t) (rd m l) hQ
 rw [plB_T hp] at key
 have e1 : LD o1 t.length (rd m l) = .list o1 1 (ints l) := by
   unfold LD
   rw [hlen, ← serB_L' hs]
 rw [e1] at key
 exact key
end Go.Proofs
