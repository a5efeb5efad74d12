import Derived.Test.YtndhpcigpghejaaGreatK171
import Derived.Test.YtndhpcigpghejaaGreatK140
import Derived.Test.YtndhpcigpghejaaGreatAlg31
import Derived.Test.YtndhpcigpghejaaGreatK45
namespace Go.Proofs
open Go Go.Vm Go.Fg Go.Fg.PS
set_option maxRecDepth 100000
set_option linter.unusedSimpArgs false
set_option linter.unusedVariables false
set_option linter.unusedSectionVars false
variable {m : Int}
section
variable {f : PS (PS (Zm m))} {N : Nat} (hm : Md m) (hLw : LwN f N) (hu : unitsB m (N - 1) = true)
include hm hLw hu
theorem lgF_log : Ag2 N (comp2N (lgF f) f 0 N) (axX (lgF f) + axY (lgF f)) := by
 have hN := hLw.pos
 have h1 : (f.c 1).c 0 = 1 := hLw.z1
 have hq : inv (invN m ((f.c 1).c 0).val) (f.c 1) * f.c 1 = 1 := by
   rw [CR.mul_comm]; exact mul_inv (by rw [h1, invN_v1 hm.1, CR.one_mul])
 exact hLw.log (q := inv (invN m ((f.c 1).c 0).val) (f.c 1)) (Ag.of_eq hq) (dS_int hm.1 _ hu) (intS_zero _) (fun i h1 h2 => ⟨invN m (i : Int), nc_invN hm.1 hu (by omega)⟩)
theorem lgF_c : (lgF f).c 0 = 0 ∧ (lgF f).c 1 = 1 := lgF_1 hm hLw.z1
theorem lgF_exp : comp (lgF f) (rev 1 (lgF f)) = X ∧ comp (rev 1 (lgF f)) (lgF f) = X := by
 obtain ⟨h0, h1⟩ := lgF_c hm hLw hu
 exact ⟨comp_rev h0 (by rw [h1, CR.one_mul]), rev_comp h0 (by rw [h1, CR.one_mul])⟩
theorem lgF_law : Ag2 N (lawG N (lgF f)) f := by
 obtain ⟨h0, h1⟩ := lgF_c hm hLw hu
 unfold lawG
 rw [h1, invN_v1 hm.1]
 exact log_law hLw.z0 h0 hLw.pos (Ag.of_eq (lgF_exp hm hLw hu).2) (lgF_log hm hLw hu)
theorem lgF_turned : Ag2 N (comp2N (lgF f) (sb2 (rev 1 (lgF f)) (rev 1 (lgF f)) f) 0 N) (axX X + axY X) :=
 log_turned (rev_c0 1 _) (lgF_log hm hLw hu) (Ag.of_eq (lgF_exp hm hLw hu).1)
theorem lgF_mul {k : Int} {r : PS (Zm m)} (h : MulZ f N k X r) : L N (compN (rev 1 (lgF f)) (C (Zm.mk m k) * lgF f) 0 N) = L N r := by
 obtain ⟨h0, h1⟩ := lgF_c hm hLw hu
 obtain ⟨hz, hr0⟩ := mulZ_zm hLw h X_0
 have hX0 : (cv N (X : PS (Zm m))).1.c 0 = 0 := (cv N (X : PS (Zm m))).2.1
 have hlz := log_zm hLw h0 (lgF_log hm hLw hu) (cv N X) k
 rw [← hz] at hlz
 have e1 : Ag N (comp (lgF f) r) (C (Zm.mk m k) * lgF f) := by
   refine (comp_congr Ag.rfl (cv_ag hr0)).symm.trans (hlz.trans (Ag.rfl.mul ?_))
   refine (comp_congr Ag.rfl (cv_ag X_0)).trans (Ag.of_eq (comp_Xr _))
 have hk0 : (C (Zm.mk m k) * lgF f).c 0 = 0 := by rw [C_mul, h0, Go.Fg.mul_zero]
 refine L_congr ?_
 refine (compN_ag hk0 N).trans ((comp_congr Ag.rfl e1.symm).trans ?_)
 rw [← comp_comp _ h0 hr0, (lgF_exp hm hLw hu).2]
 exact X_comp N hr0
end
set_option maxHeartbeats 4000000
def btP (f : PS (PS (Zm m))) (a b : PS (Zm m)) (n i j : Nat) : PS (PS (Zm m)) :=
 sm i (fun i => sm (n - i) fun j => PS.C (PS.C ((f.c i).c j)) * (axX (pw a i) * axY (pw b j))) + sm j fun j => PS.C (PS.C ((f.c i).c j)) * (axX (pw a i) * axY (pw b j))
def btS (f : PS (PS (Zm m))) (a b : PS (Zm m)) (n : Nat) : PS (PS (Zm m)) := btP f a b n n 0
theorem btP_zero (f : PS (PS (Zm m))) (a b : PS (Zm m)) (n : Nat) : btP f a b n 0 0 = 0 := by
 unfold btP; exact CR.zero_add _
theorem btP_step (f : PS (PS (Zm m))) (a b : PS (Zm m)) (n i j : Nat) : btP f a b n i (j + 1) = btP f a b n i j + PS.C (PS.C ((f.c i).c j)) * (axX (pw a i) * axY (pw b j)) := by
 unfold btP; rw [sm_succ, CR.add_assoc]
theorem btP_skip (f : PS (PS (Zm m))) (a b : PS (Zm m)) (n i j : Nat) (h : (f.c i).c j = 0) : btP f a b n i (j + 1) = btP f a b n i j := by
 rw [btP_step, h, PS.C_zero, PS.C_zero, Go.Fg.zero_mul, Go.Fg.add_zero]
theorem btP_row (f : PS (PS (Zm m))) (a b : PS (Zm m)) {n i j : Nat} (h : j = n - i) : btP f a b n i j = btP f a b n (i + 1) 0 := by
 subst h
 unfold btP
 rw [sm_succ]
 exact (Go.Fg.add_zero _).symm
theorem btS_sb2 {a b : PS (Zm m)} (ha : a.c 0 = 0) (hb : b.c 0 = 0) (f : PS (PS (Zm m))) (n : Nat) : Ag2 n (btS f a b n) (sb2 a b f) := fun p q hpq => by
 rw [sb2_c]
 unfold btS btP
 rw [show sm 0 (fun j => PS.C (PS.C ((f.c n).c j)) * (axX (pw a n) * axY (pw b j))) = (0 : PS (PS (Zm m))) from rfl, Go.Fg.add_zero, PS.sm_c, PS.sm_c]
 rw [sm_ext (n := p + 1) (k := n) (by omega) (fun i h1 h2 => by
   rw [PS.sm_c, PS.sm_c]
   exact sm_zero (fun j _ => by rw [C_mul, C_mul, xy_c, pw_low ha i p (by omega), Go.Fg.zero_mul, Go.Fg.mul_zero]))]
 refine sm_congr (fun i hi => ?_)
 rw [PS.sm_c, PS.sm_c, sm_ext (n := q + 1) (k := n - i) (by omega) (fun j h1 h2 => by rw [C_mul, C_mul, xy_c, pw_low hb j q (by omega), Go.Fg.mul_zero, Go.Fg.mul_zero])]
 exact sm_congr (fun j _ => by rw [C_mul, C_mul, xy_c])
theorem axX_CC (z : Zm m) : axX (PS.C z) = PS.C (PS.C z) := ext2 (fun p q => by
 rw [axX_c]
 cases q with
 | zero => cases p <;> rfl
 | succ q => cases p <;> rfl)
def aoP (g : PS (PS (Zm m))) (a b : PS (Zm m)) (k l : Nat) : PS (PS (Zm m)) := ⟨fun p => ⟨fun q => if p < k ∨ (p = k ∧ q < l) then (g.c p).c q + a.c p * b.c q else (g.c p).c q⟩⟩
theorem aoP_cc (g : PS (PS (Zm m))) (a b : PS (Zm m)) (k l p q : Nat) : ((aoP g a b k l).c p).c q = if p < k ∨ (p = k ∧ q < l) then (g.c p).c q + a.c p * b.c q else (g.c p).c q := rfl
theorem aoP_zero (g : PS (PS (Zm m))) (a b : PS (Zm m)) : aoP g a b 0 0 = g := ext2 (fun p q => by rw [aoP_cc, if_neg (by omega)])
theorem aoP_here (g : PS (PS (Zm m))) (a b : PS (Zm m)) (k l : Nat) : ((aoP g a b k l).c k).c l = (g.c k).c l := by rw [aoP_cc, if_neg (by omega)]
theorem aoP_step (g : PS (PS (Zm m))) (a b : PS (Zm m)) (k l : Nat) : upd2 (aoP g a b k l) k l (((aoP g a b k l).c k).c l + a.c k * b.c l) = aoP g a b k (l + 1) := ext2 (fun p q => by
 rw [upd2_cc, aoP_here, aoP_cc, aoP_cc]
 by_cases h : p = k ∧ q = l
 · rw [if_pos h, if_pos (.inr ⟨h.1, by omega⟩), h.1, h.2]
 · rw [if_neg h]
   by_cases h2 : p < k ∨ (p = k ∧ q < l)
   · rw [if_pos h2, if_pos (by omega)]
   · rw [if_neg h2, if_neg (by omega)])
theorem aoP_row (g : PS (PS (Zm m))) (a b : PS (Zm m)) {n k l : Nat} (hl : l = n - k) : Ag2 n (aoP g a b k l) (aoP g a b (k + 1) 0) := fun p q hpq => by
 rw [aoP_cc, aoP_cc]
 by_cases h : p < k + 1
 · rw [if_pos (by omega), if_pos (.inl h)]
 · rw [if_neg (by omega), if_neg (by omega)]
theorem aoP_full (g : PS (PS (Zm m))) (a b : PS (Zm m)) (n : Nat) : Ag2 n (aoP g a b n 0) (g + axX a * axY b) := fun p q hpq => by
 rw [aoP_cc, if_pos (.inl (by omega)), PS.add_c, PS.add_c, xy_c]
theorem c_addOuter (hm : Md m) (n : Nat) (hn : 1 ≤ n ∧ n ≤ 100) (g : PS (PS (Zm m))) (a b : PS (Zm m)) (S : List D) (q : Nat) (hG : getB S [q] = some (ints (L n b))) :
   CallsTo Tryz.prog 450 4 [.agg [dint m, .ref 1 [] 1 0 n], .agg [dint m, .ref 2 [] 1 0 (cnt 1 (ints (L n a)))], .agg [dint m, .ref 3 [q] 1 0 (cnt 1 (ints (L n b)))]] [none, some ⟨false, 1, rows true (Tb n g)⟩, some ⟨false, 1, ints (L n a)⟩, some ⟨false, 2, S⟩]
     (fun d rt => d = .tup [] ∧ rt = [none, some ⟨false, 1, rows true (Tb n (g + axX a * axY b))⟩, some ⟨false, 1, ints (L n a)⟩, some ⟨false, 2, S⟩]) := by
 have hLR : ∀ l, l < n → LoadRow S [q] (place 1 0 (Int.toNat (l : Int))) (dint (b.c l).val) := fun l hl => ⟨_, hG, by
   rw [show place 1 0 (Int.toNat (l : Int)) = l by simp [place]]
   have := ints_get (l := L n b) (k := l) (by simp; omega)
   rw [L_getD b hl] at this
   exact this⟩
 have hm1 := hm.1
 have hm2 := hm.2
 refine callsTo_of Tryz.tabOk mixOrd 4 _ Tryz.func450 rfl rfl ?_
 conv => whnf
 repeat' first | ((first | refine z0 ?_ | (refine And.intro (fun h => ?_) (fun h => ?_) <;> (try simp only [cnt1, ints_length] at h)) | refine zS ?_ | refine zV ?_ | (apply zI; refine zP vObt ?_) | (apply zI; refine zP vObx ?_) | refine zA ?_ | refine Alt.fst ?_ | refine Or.inl ?_) <;> conv => whnf) | fail
 refine loop_atR Tryz.tabOk mixOrd (α := Nat) (fun k => [(12, dint k)]) (fun k => [(1, some ⟨false, 1, rows true (Tb n (aoP g a b k 0))⟩)]) (fun k => k ≤ n) (fun k => n - k) (0) ?_ ?_ ?_
 · omega
 · conv => whnf
   first | refine WeakS.autoR ?_ | refine Weak.autoR ?_
   conv => whnf
   repeat' ((first | refine z1 ?_ | refine z2 ?_ | refine zV ?_ | refine And.intro vRepl ?_ | refine And.intro vReplL ?_ | refine And.intro ?_ ?_ | exact trivial) <;> try (conv => whnf))
   all_goals first | rfl | (rw [aoP_zero]; done) | skip
 intro k hk
 conv => whnf
 by_cases hkn : k < n
 · repeat' first | ((first | refine z0 ?_ | (refine And.intro (fun h => ?_) (fun h => ?_) <;> (try simp only [cnt1, ints_length, rows_length, Tb_length] at h) <;> first | (exfalso; omega) | skip) | refine zS ?_ | refine zV ?_ | (apply zI; refine zP vObt ?_) | (apply zI; refine zP vObx ?_) | refine zA ?_ | refine Alt.fst ?_ | refine Or.inl ?_) <;> conv => whnf) | fail
   refine loop_atR Tryz.tabOk mixOrd (α := Nat) (fun l => [(19, dint l)]) (fun l => [(1, some ⟨false, 1, rows true (Tb n (aoP g a b k l))⟩)]) (fun l => l ≤ n - k) (fun l => n - l) (0) ?_ ?_ ?_
   · omega
   · conv => whnf
     first | refine WeakS.autoR ?_ | refine Weak.autoR ?_
     conv => whnf
     repeat' ((first | refine z1 ?_ | refine z2 ?_ | refine zV ?_ | refine And.intro vRepl ?_ | refine And.intro vReplL ?_ | refine And.intro ?_ ?_ | exact trivial) <;> try (conv => whnf))
   intro l hl
   conv => whnf
   have hx1 := Zm.val_range hm.pos (((aoP g a b k l).c k).c l)
   have hx2 := Zm.val_range hm.pos (a.c k * b.c l)
   repeat' first | ((first | refine z0 ?_ | (apply zI; refine zP (hLR l vAr) ?_) | (apply zI; refine zP (c_mul hm _ _) ?_) | (refine And.intro (fun h => ?_) (fun h => ?_) <;> (try simp only [cnt1, ints_length] at h)) | refine zS ?_ | refine zV ?_ | (apply zI; refine zP vObt ?_) | (apply zI; refine zP vObx ?_) | refine zA ?_ | refine Alt.fst ?_ | refine Or.inl ?_) <;> conv => whnf) | fail
   · refine Exists.intro (l + 1) (And.intro vAr (And.intro vAr ?_))
     first | refine WeakS.autoR ?_ | refine Weak.autoR ?_
     conv => whnf
     repeat' ((first | refine z1 ?_ | refine z2 ?_ | refine zV ?_ | refine And.intro vRepl ?_ | refine And.intro vReplL ?_ | refine And.intro ?_ ?_ | exact trivial) <;> try (conv => whnf))
     exact rows_congr (setT_eq _ (tm_add hm _ _) vAr (Ag2.of_eq (aoP_step g a b k l)))
   · refine Exists.intro (k + 1) (And.intro vAr (And.intro vAr ?_))
     first | refine WeakS.autoR ?_ | refine Weak.autoR ?_
     conv => whnf
     repeat' ((first | refine z1 ?_ | refine z2 ?_ | refine zV ?_ | refine And.intro vRepl ?_ | refine And.intro vReplL ?_ | refine And.intro ?_ ?_ | exact trivial) <;> try (conv => whnf))
     exact rows_congr (Tb_congr (aoP_row g a b vAr))
 · obtain rfl : k = n := by omega
   rw [show Tb k (aoP g a b k 0) = Tb k (g + axX a * axY b) from Tb_congr (aoP_full g a b k)]
   repeat' first | ((first | refine z0 ?_ | (refine And.intro (fun h => ?_) (fun h => ?_) <;> (try simp only [cnt1, ints_length, rows_length, Tb_length] at h) <;> first | (exfalso; omega) | skip) | refine zS ?_ | refine zV ?_ | (apply zI; refine zP vObt ?_) | (apply zI; refine zP vObx ?_) | refine zA ?_ | refine Alt.fst ?_ | refine Or.inl ?_) <;> conv => whnf) | fail
   refine ⟨.tup [], [none, some ⟨false, 1, rows true (Tb k (g + axX a * axY b))⟩, some ⟨false, 1, ints (L k a)⟩, some ⟨false, 2, S⟩], ⟨rfl, rfl⟩, Weak.of (kp := 4) [none, some 1, some 2, some 3] ?_⟩
   conv => whnf
   repeat' ((first | refine z1 ?_ | refine z2 ?_ | refine zV ?_ | refine And.intro ?_ ?_ | exact trivial) <;> try (conv => whnf))
theorem c_bothP (hm : Md m) (o p o' o2 : Bool) (n : Nat) (hn : 1 ≤ n ∧ n ≤ 100) (f : PS (PS (Zm m))) (a b : PS (Zm m)) : PureCall Tryz.prog 382 [PlD m o p n f, SerD m o' n a, SerD m o2 n b] (PlD m true true n (btS f a b n)) := by
 have hm1 := hm.1
 have hm2 := hm.2
 refine pure_of_vcR Tryz.tabOk mixOrd Tryz.func382 rfl rfl ?_
 conv => whnf
 repeat' first | ((first | refine z0 ?_ | (apply zI; refine zP (c_number hm _ _ n vAr _ _) ?_) | (apply zI; refine zP (c_powersS hm _ n vAr _) ?_) | (refine And.intro (fun h => ?_) (fun h => ?_) <;> (try simp only [cnt1, ints_length] at h)) | refine zS ?_ | refine zV ?_ | (apply zI; refine zP vObt ?_) | (apply zI; refine zP vObx ?_) | refine zA ?_ | refine Alt.fst ?_ | refine Or.inl ?_) <;> conv => whnf) | fail
 refine loop_atR Tryz.tabOk mixOrd (α := Nat) (fun i => [(23, dint i), (15, .undef)]) (fun i => [(5, some ⟨false, 1, rows true (Tb n (btP f a b n i 0))⟩), (8, some ⟨true, 1, [dint m, .ref 5 [] 1 0 n]⟩)]) (fun i => i ≤ n) (fun i => n - i) (0) ?_ ?_ ?_
 · omega
 · conv => whnf
   first | refine WeakS.autoR ?_ | refine Weak.autoR ?_
   conv => whnf
   repeat' ((first | refine z1 ?_ | refine z2 ?_ | refine zV ?_ | refine And.intro vRepl ?_ | refine And.intro vReplL ?_ | refine And.intro ?_ ?_ | exact trivial) <;> try (conv => whnf))
   all_goals first | rfl | (simp [cnt1]; done) | (rw [btP_zero, show Zm.mk m 0 = 0 from rfl, PS.C_zero, PS.C_zero]; done) | skip
 intro i hi
 conv => whnf
 by_cases hin : i < n
 · repeat' first | ((first | refine z0 ?_ | (refine And.intro (fun h => ?_) (fun h => ?_) <;> (try simp only [cnt1, ints_length, rows_length, Tb_length] at h) <;> first | (exfalso; omega) | skip) | refine zS ?_ | refine zV ?_ | (apply zI; refine zP vObt ?_) | (apply zI; refine zP vObx ?_) | refine zA ?_ | refine Alt.fst ?_ | refine Or.inl ?_) <;> conv => whnf) | fail
   refine loop_atR Tryz.tabOk mixOrd (α := Nat) (fun j => [(30, dint j)]) (fun j => [(5, some ⟨false, 1, rows true (Tb n (btP f a b n i j))⟩), (8, some ⟨true, 1, [dint m, .ref 5 [] 1 0 n]⟩)]) (fun j => j ≤ n - i) (fun j => n - j) (0) ?_ ?_ ?_
   · omega
   · conv => whnf
     first | refine WeakS.autoR ?_ | refine Weak.autoR ?_
     conv => whnf
     repeat' ((first | refine z1 ?_ | refine z2 ?_ | refine zV ?_ | refine And.intro vRepl ?_ | refine And.intro vReplL ?_ | refine And.intro ?_ ?_ | exact trivial) <;> try (conv => whnf))
     all_goals first | rfl | (simp [cnt1]; done) | skip
   intro j hj
   conv => whnf
   have hst : btP f a b n i j + axX (PS.C (Zm.mk m ((f.c i).c j).val) * pw a i) * axY (pw b j) = btP f a b n i (j + 1) := by
     rw [btP_step, Zm.mk_val, axX_mul, CR.mul_assoc, show axX (PS.C ((f.c i).c j)) = PS.C (PS.C ((f.c i).c j)) from axX_CC _]
   have hsk := btP_skip f a b n i j
   repeat' first | (refine borA [5, 10, 7] (c_addOuter hm n hn (btP f a b n i j) (PS.C (Zm.mk m ((f.c i).c j).val) * pw a i) (pw b j) (srs n b n) (place 2 0 (Int.toNat (j : Int)) + 1) (vSrG j (by first | (simp [place]; done) | (simp [place]; omega)) vAr)) (fun d rt' hd => ?_)) | ((first | refine z0 ?_ | (apply zI; refine zP (vSrL i (by first | (simp [place]; done) | (simp [place]; omega)) vAr) ?_) | (apply zI; refine zP (vSrG i (by first | (simp [place]; done) | (simp [place]; omega)) vAr) ?_) | (apply zI; refine zP (vSrL j (by first | (simp [place]; done) | (simp [place]; omega)) vAr) ?_) | (apply zI; refine zP (vSrG j (by first | (simp [place]; done) | (simp [place]; omega)) vAr) ?_) | (apply zI; refine zP (c_scaled hm _ n vAr _ _) ?_) | (refine And.intro (fun h => ?_) (fun h => ?_) <;> (try simp only [cnt1, ints_length] at h)) | refine zS ?_ | refine zV ?_ | (apply zI; refine zP vObt ?_) | (apply zI; refine zP vObx ?_) | refine zA ?_ | refine And.intro (vSrIx vAr) ?_ | refine Alt.fst ?_ | refine Or.inl ?_) <;> conv => whnf) | fail
   · obtain ⟨rfl, rfl⟩ := hd
     rw [hst]
     refine ⟨rfl, by simp, ?_⟩
     conv => whnf
     repeat' first | ((first | refine z0 ?_ | (refine And.intro (fun h => ?_) (fun h => ?_) <;> (try simp only [cnt1, ints_length] at h)) | refine zS ?_ | refine zV ?_ | (apply zI; refine zP vObt ?_) | (apply zI; refine zP vObx ?_) | refine zA ?_ | refine Alt.fst ?_ | refine Or.inl ?_) <;> conv => whnf) | fail
     refine Exists.intro (j + 1) (And.intro vAr (And.intro vAr ?_))
     first | refine WeakS.autoR ?_ | refine Weak.autoR ?_
     conv => whnf
     repeat' ((first | refine z1 ?_ | refine z2 ?_ | refine zV ?_ | refine And.intro vRepl ?_ | refine And.intro vReplL ?_ | refine And.intro ?_ ?_ | exact trivial) <;> try (conv => whnf))
   · refine Exists.intro (j + 1) (And.intro vAr (And.intro vAr ?_))
     first | refine WeakS.autoR ?_ | refine Weak.autoR ?_
     conv => whnf
     repeat' ((first | refine z1 ?_ | refine z2 ?_ | refine zV ?_ | refine And.intro vRepl ?_ | refine And.intro vReplL ?_ | refine And.intro ?_ ?_ | exact trivial) <;> try (conv => whnf))
     rw [hsk (Zm.val_eq_zero.1 (by omega))]
   · refine Exists.intro (i + 1) (And.intro vAr (And.intro vAr ?_))
     first | refine WeakS.autoR ?_ | refine Weak.autoR ?_
     conv => whnf
     repeat' ((first | refine z1 ?_ | refine z2 ?_ | refine zV ?_ | refine And.intro vRepl ?_ | refine And.intro vReplL ?_ | refine And.intro ?_ ?_ | exact trivial) <;> try (conv => whnf))
     rw [btP_row f a b (by have h9 := h; simp only [L_length] at h9; omega)]
 · obtain rfl : i = n := by omega
   repeat' first | ((first | refine z0 ?_ | (refine And.intro (fun h => ?_) (fun h => ?_) <;> (try simp only [cnt1, ints_length, rows_length, Tb_length] at h) <;> first | (exfalso; omega) | skip) | refine zS ?_ | refine zV ?_ | (apply zI; refine zP vObt ?_) | (apply zI; refine zP vObx ?_) | refine zA ?_ | refine Alt.fst ?_ | refine Or.inl ?_) <;> conv => whnf) | fail
   rfl
end Go.Proofs
