import Derived.Test.YtndhpcigpghejaaGreatK1
import Derived.Test.YtndhpcigpghejaaGreatAlg7
import Derived.Test.YtndhpcigpghejaaGreatK3
import Derived.Test.YtndhpcigpghejaaGreatK10
import Derived.Test.YtndhpcigpghejaaGreatVm32
namespace Go.Proofs
open Go Go.Vm Go.Fg Go.Fg.PS
set_option maxRecDepth 100000
set_option maxHeartbeats 4000000
set_option linter.unusedSimpArgs false
set_option linter.unusedVariables false
theorem tdiv_nat (a b : Nat) : ((a : Int)).tdiv (b : Int) = ((a / b : Nat) : Int) := by
 rw [Int.tdiv_eq_ediv_of_nonneg (by omega)]; rfl
theorem eu_qs (e : Eu) : ((e.r / e.s : Nat) : Int) * (e.s : Int) = ((e.r / e.s * e.s : Nat) : Int) := by rw [Int.natCast_mul]
theorem eu_qs_le (e : Eu) : e.r / e.s * e.s ≤ e.r := Nat.div_mul_le_self _ _
theorem eu_qY (e : Eu) : ((e.r / e.s : Nat) : Int) * e.Y = sg (!e.b) (e.r / e.s * e.y) := by
 unfold Eu.Y
 cases e.b
 · simp only [sg, Bool.not_false, if_true, Int.natCast_mul]
 · simp only [sg, Bool.not_true, Bool.false_eq_true, if_false, Int.natCast_mul, Int.mul_neg]
theorem eu_facts {m : Int} (hm : Md m) {e : Eu} (he : e.Ok m.toNat) (hs : e.s ≠ 0) :
   inR .i64 ((e.r / e.s : Nat) : Int) ∧ inR .i64 (((e.r / e.s : Nat) : Int) * e.s) ∧ inR .i64 ((e.r : Int) - ((e.r / e.s : Nat) : Int) * e.s) ∧ inR .i64 (((e.r / e.s : Nat) : Int) * e.Y) ∧ inR .i64 (e.X - ((e.r / e.s : Nat) : Int) * e.Y) := by
 have h1 := hm.1
 have h2 := hm.2
 have h3 := he.2.2.1
 have h4 := Eu.qy_le he hs
 have h5 := Eu.x_le he hs
 have h6 := eu_qs_le e
 have h7 : e.r / e.s ≤ e.r := Nat.div_le_self _ _
 have h8 := sg_le (!e.b) (e.r / e.s * e.y)
 have h9 := sg_le e.b e.x
 rw [eu_qs, eu_qY]
 unfold Eu.X
 generalize sg (!e.b) (e.r / e.s * e.y) = A at *
 generalize sg e.b e.x = B at *
 generalize e.r / e.s * e.y = C at *
 generalize e.r / e.s * e.s = E at *
 generalize e.r / e.s = q at *
 exact ⟨inR64 (by omega) (by omega), inR64 (by omega) (by omega), inR64 (by omega) (by omega), inR64 (by omega) (by omega), inR64 (by omega) (by omega)⟩
theorem eu_end {m a : Int} {e : Eu} (hr : e.run = (eu0 m a).run) (hs : e.s = 0) : e.X % m = (invN m a).val := by
 rw [Eu.run_zero hs] at hr
 unfold invN
 rw [Zm.val_mk, hr]
theorem c_inverse {m : Int} (hm : Md m) (a : Int) : PureCall Tryz.prog 343 [dint m, dint a] (dint (invN m a).val) := by
 have hm1 := hm.1
 have hm2 := hm.2
 have ha := Int.emod_nonneg a (show m ≠ 0 by omega)
 have ha2 := Int.emod_lt_of_pos a (show 0 < m by omega)
 refine pure_of_vc Tryz.tabOk mixOrd Tryz.func343 rfl rfl ?_
 conv => whnf
 repeat' first | ((first | refine z0 ?_ | (apply zI; refine zP (c_mod _ _ hm.pos (by omega)) ?_) | (refine And.intro (fun h => ?_) (fun h => ?_) <;> (try simp only [cnt1, ints_length] at h)) | refine zV ?_ | refine Or.inl ?_) <;> conv => whnf) | fail
 refine loop_at Tryz.tabOk mixOrd (α := Eu) (fun e => [(5, dint e.X), (6, dint e.Y), (7, dint e.r), (8, dint e.s)]) (fun e => []) (fun e => e.Ok m.toNat ∧ e.run = (eu0 m a).run) (fun e => e.s) (eu0 m a) ?_ ?_ ?_
 · exact ⟨eu0_ok hm.1, rfl⟩
 · conv => whnf
   first | refine WeakS.auto ?_ | refine Weak.auto ?_
   conv => whnf
   repeat' ((first | refine z1 ?_ | refine z2 ?_ | refine zV ?_ | refine And.intro ?_ ?_ | exact trivial) <;> try (conv => whnf))
   · show m = ((m.toNat : Nat) : Int); omega
   · show a % m = (((a % m).toNat : Nat) : Int); omega
 intro e ⟨he, hr⟩
 conv => whnf
 repeat' first | ((first | refine z0 ?_ | (apply zI; refine zP (c_mod _ _ hm.pos (by omega)) ?_) | (refine And.intro (fun h => ?_) (fun h => ?_) <;> (try simp only [cnt1, ints_length] at h)) | refine zV ?_ | refine Or.inl ?_) <;> conv => whnf) | fail
 · have hs : e.s ≠ 0 := by omega
   obtain ⟨f1, f2, f3, f4, f5⟩ := eu_facts hm he hs
   rw [tdiv_nat]
   repeat' first | ((first | refine z0 ?_ | (apply zI; refine zP (c_mod _ _ hm.pos (by omega)) ?_) | (refine And.intro (fun h => ?_) (fun h => ?_) <;> (try simp only [cnt1, ints_length] at h)) | refine zV ?_ | refine Or.inl ?_) <;> conv => whnf) | fail
   refine Exists.intro e.next (And.intro ⟨Eu.next_ok he hs, (Eu.run_next hs).trans hr⟩ (And.intro (Eu.next_lt e hs) ?_))
   first | refine WeakS.auto ?_ | refine Weak.auto ?_
   conv => whnf
   repeat' ((first | refine z1 ?_ | refine z2 ?_ | refine zV ?_ | refine And.intro ?_ ?_ | exact trivial) <;> try (conv => whnf))
   all_goals first | exact (Eu.next_Y e).symm | exact (Eu.next_s e).symm
 · exact congrArg dint (eu_end hr (by omega))
theorem c_l01Inv {m : Int} (hm : Md m) (a : Int) : PureCall Tryz.prog 373 [dint m, dint a] (dint (invN m a).val) := by
 have hm1 := hm.1
 have hm2 := hm.2
 have ha := Int.emod_nonneg a (show m ≠ 0 by omega)
 have ha2 := Int.emod_lt_of_pos a (show 0 < m by omega)
 refine pure_of_vc Tryz.tabOk mixOrd Tryz.func373 rfl rfl ?_
 conv => whnf
 repeat' first | ((first | refine z0 ?_ | (apply zI; refine zP (c_l01Mod _ _ hm.pos (by omega)) ?_) | (refine And.intro (fun h => ?_) (fun h => ?_) <;> (try simp only [cnt1, ints_length] at h)) | refine zV ?_ | refine Or.inl ?_) <;> conv => whnf) | fail
 refine loop_at Tryz.tabOk mixOrd (α := Eu) (fun e => [(7, dint e.X), (8, dint e.Y), (5, dint e.r), (6, dint e.s)]) (fun e => []) (fun e => e.Ok m.toNat ∧ e.run = (eu0 m a).run) (fun e => e.s) (eu0 m a) ?_ ?_ ?_
 · exact ⟨eu0_ok hm.1, rfl⟩
 · conv => whnf
   first | refine WeakS.auto ?_ | refine Weak.auto ?_
   conv => whnf
   repeat' ((first | refine z1 ?_ | refine z2 ?_ | refine zV ?_ | refine And.intro ?_ ?_ | exact trivial) <;> try (conv => whnf))
   · show m = ((m.toNat : Nat) : Int); omega
   · show a % m = (((a % m).toNat : Nat) : Int); omega
 intro e ⟨he, hr⟩
 conv => whnf
 repeat' first | ((first | refine z0 ?_ | (apply zI; refine zP (c_l01Mod _ _ hm.pos (by omega)) ?_) | (refine And.intro (fun h => ?_) (fun h => ?_) <;> (try simp only [cnt1, ints_length] at h)) | refine zV ?_ | refine Or.inl ?_) <;> conv => whnf) | fail
 · have hs : e.s ≠ 0 := by omega
   obtain ⟨f1, f2, f3, f4, f5⟩ := eu_facts hm he hs
   rw [tdiv_nat]
   repeat' first | ((first | refine z0 ?_ | (apply zI; refine zP (c_l01Mod _ _ hm.pos (by omega)) ?_) | (refine And.intro (fun h => ?_) (fun h => ?_) <;> (try simp only [cnt1, ints_length] at h)) | refine zV ?_ | refine Or.inl ?_) <;> conv => whnf) | fail
   refine Exists.intro e.next (And.intro ⟨Eu.next_ok he hs, (Eu.run_next hs).trans hr⟩ (And.intro (Eu.next_lt e hs) ?_))
   first | refine WeakS.auto ?_ | refine Weak.auto ?_
   conv => whnf
   repeat' ((first | refine z1 ?_ | refine z2 ?_ | refine zV ?_ | refine And.intro ?_ ?_ | exact trivial) <;> try (conv => whnf))
   all_goals first | exact (Eu.next_Y e).symm | exact (Eu.next_s e).symm
 · exact congrArg dint (eu_end hr (by omega))
end Go.Proofs
namespace Go.Proofs
open Go Go.Vm Go.Fg Go.Fg.PS
set_option maxRecDepth 100000
set_option maxHeartbeats 4000000
set_option linter.unusedSimpArgs false
set_option linter.unusedVariables false
variable {m : Int}
theorem c_l01Pow (hm : Md m) (a : Int) (k : Nat) (hk : k ≤ 4611686018427387904) {K : Int} (hK : K = k) : PureCall Tryz.prog 461 [dint m, dint a, dint K] (dint (pw (Zm.mk m a) k).val) := by
 subst hK
 have hm1 := hm.1
 have hm2 := hm.2
 refine pure_of_vc Tryz.tabOk mixOrd Tryz.func461 rfl rfl ?_
 conv => whnf
 repeat' first | ((first | refine z0 ?_ | (apply zI; refine zP (c_l01Mod _ _ hm.pos (by omega)) ?_) | (refine And.intro (fun h => ?_) (fun h => ?_) <;> (try simp only [cnt1, ints_length] at h)) | refine zV ?_ | refine Or.inl ?_) <;> conv => whnf) | fail
 refine loop_at Tryz.tabOk mixOrd (α := Zm m × Zm m × Nat) (fun x => [(7, dint x.1.val), (1, dint x.2.1.val), (2, dint x.2.2)]) (fun x => []) (fun x => x.1 * pw x.2.1 x.2.2 = pw (Zm.mk m a) k ∧ x.2.2 ≤ 4611686018427387904) (fun x => x.2.2) (1, Zm.mk m a, k) ?_ ?_ ?_
 · exact ⟨CR.one_mul _, hk⟩
 · conv => whnf
   first | refine WeakS.auto ?_ | refine Weak.auto ?_
   conv => whnf
   repeat' ((first | refine z1 ?_ | refine z2 ?_ | refine zV ?_ | refine And.intro ?_ ?_ | exact trivial) <;> try (conv => whnf))
   all_goals exact Zm.tmod_val (by omega) rfl
 intro ⟨x, y, q⟩ ⟨hx, hq⟩
 simp only at hx hq
 conv => whnf
 repeat' first | ((first | refine z0 ?_ | (refine And.intro (fun h => ?_) (fun h => ?_) <;> (try simp only [cnt1, ints_length] at h)) | refine zS ?_ | refine zV ?_ | (apply zI; refine zP vObx ?_) | refine Or.inl ?_) <;> conv => whnf) | fail
 · refine Exists.intro (x * y, y * y, q / 2) (And.intro ⟨by simp only; rw [pw_odd x y (by rw [tmod2] at *; omega)]; exact hx, by simp only; omega⟩ (And.intro (by simp only; omega) ?_))
   first | refine WeakS.auto ?_ | refine Weak.auto ?_
   conv => whnf
   repeat' ((first | refine z1 ?_ | refine z2 ?_ | refine zV ?_ | refine And.intro ?_ ?_ | exact trivial) <;> try (conv => whnf))
   all_goals first | exact tm_mul hm _ _ | exact tdiv2 _
 · refine Exists.intro (x, y * y, q / 2) (And.intro ⟨by simp only; rw [pw_even x y (by rw [tmod2] at *; omega)]; exact hx, by simp only; omega⟩ (And.intro (by simp only; omega) ?_))
   first | refine WeakS.auto ?_ | refine Weak.auto ?_
   conv => whnf
   repeat' ((first | refine z1 ?_ | refine z2 ?_ | refine zV ?_ | refine And.intro ?_ ?_ | exact trivial) <;> try (conv => whnf))
   all_goals first | exact tm_mul hm _ _ | exact tdiv2 _
 · refine congrArg dint ?_
   rw [show q = 0 by omega, pw_zero, Go.Fg.mul_one] at hx
   rw [hx]
theorem c_variable (n : Nat) {d : Int} (hd : d + 1 = n) (hn : 2 ≤ n ∧ n ≤ 100) (hm : Md m) : PureCall Tryz.prog 190 [dint m, dint d] (SerD m true n (PS.X : PS (Zm m))) := by
 have hm1 := hm.1
 refine pure_of_vc Tryz.tabOk mixOrd Tryz.func190 rfl rfl ?_
 conv => whnf
 repeat' first | ((first | refine z0 ?_ | (apply zI; refine zP (c_zero n hd vAr) ?_) | refine zV ?_ | (apply zI; refine zP vObx ?_) | refine Or.inl ?_) <;> conv => whnf) | fail
 refine serD_congr (L_set_eq (1 : Zm m) (Zm.val_one (by omega)).symm (fun i hi => ?_))
 rw [upd_c, X_c]; split <;> rfl
theorem c_l03Times (hm : Md m) (o p o' p' : Bool) (n : Nat) (hn : 1 ≤ n ∧ n ≤ 100) (f g : PS (PS (Zm m))) : PureCall Tryz.prog 346 [dint m, TbD o p n f, TbD o' p' n g] (TbD true true n (f * g)) := by
 have hm1 := hm.1
 have hm2 := hm.2
 refine pure_of_vcR Tryz.tabOk mixOrd Tryz.func346 rfl rfl ?_
 conv => whnf
 repeat' first | ((first | (apply zI; refine zP (c_l03Zero (m := m) n vAr vAr) ?_) | (refine And.intro (fun h => ?_) (fun h => ?_) <;> (try simp only [cnt1, ints_length] at h)) | refine zV ?_ | (apply zI; refine zP vObt ?_) | (apply zI; refine zP vObx ?_) | refine Or.inl ?_) <;> conv => whnf) | fail
 refine loop_atR Tryz.tabOk mixOrd (α := Nat) (fun i => [(9, dint i), (12, .undef), (13, .undef)]) (fun i => [(0, some ⟨false, 1, rows true (Tb n (pP f g i 0))⟩)]) (fun i => i ≤ n) (fun i => n - i) (0) ?_ ?_ ?_
 · omega
 · conv => whnf
   first | refine WeakS.autoR ?_ | refine Weak.autoR ?_
   conv => whnf
   repeat' ((first | refine z1 ?_ | refine z2 ?_ | refine zV ?_ | refine And.intro ?_ ?_ | exact trivial) <;> try (conv => whnf))
   all_goals rw [pP_zero]
 intro i hi
 conv => whnf
 repeat' first | ((first | refine z0 ?_ | (refine And.intro (fun h => ?_) (fun h => ?_) <;> (try simp only [cnt1, ints_length] at h)) | refine zS ?_ | refine zV ?_ | (apply zI; refine zP vObt ?_) | (apply zI; refine zP vObx ?_) | refine zA ?_ | refine Alt.fst ?_ | refine Or.inl ?_) <;> conv => whnf) | fail
 · refine loop_atR Tryz.tabOk mixOrd (α := Nat) (fun j => [(10, dint j), (12, .undef), (13, .undef)]) (fun j => [(0, some ⟨false, 1, rows true (Tb n (pP f g i j))⟩)]) (fun j => j ≤ n - i) (fun j => n - j) (0) ?_ ?_ ?_
   · omega
   · conv => whnf
     first | refine WeakS.autoR ?_ | refine Weak.autoR ?_
     conv => whnf
     repeat' ((first | refine z1 ?_ | refine z2 ?_ | refine zV ?_ | refine And.intro ?_ ?_ | exact trivial) <;> try (conv => whnf))
   intro j hj
   conv => whnf
   repeat' first | ((first | refine z0 ?_ | (refine And.intro (fun h => ?_) (fun h => ?_) <;> (try simp only [cnt1, ints_length] at h)) | refine zS ?_ | refine zV ?_ | (apply zI; refine zP vObt ?_) | (apply zI; refine zP vObx ?_) | refine zA ?_ | refine Alt.fst ?_ | refine Or.inl ?_) <;> conv => whnf) | fail
   · refine Exists.intro (j + 1) (And.intro vAr (And.intro vAr ?_))
     first | refine WeakS.autoR ?_ | refine Weak.autoR ?_
     conv => whnf
     repeat' ((first | refine z1 ?_ | refine z2 ?_ | refine zV ?_ | refine And.intro ?_ ?_ | exact trivial) <;> try (conv => whnf))
     rw [pP_skip f g i j (Zm.val_eq_zero.1 (by assumption))]
   · refine loop_atR Tryz.tabOk mixOrd (α := Nat) (fun k => [(11, dint k), (12, .undef), (13, .undef)]) (fun k => [(0, some ⟨false, 1, rows true (Tb n (pQ f g i j k 0))⟩)]) (fun k => i + j + k ≤ n) (fun k => n - k) (0) ?_ ?_ ?_
     · exact vAr
     · conv => whnf
       first | refine WeakS.autoR ?_ | refine Weak.autoR ?_
       conv => whnf
       repeat' ((first | refine z1 ?_ | refine z2 ?_ | refine zV ?_ | refine And.intro ?_ ?_ | exact trivial) <;> try (conv => whnf))
       all_goals rw [pQ_zero]
     intro k hk
     conv => whnf
     repeat' first | ((first | refine z0 ?_ | (refine And.intro (fun h => ?_) (fun h => ?_) <;> (try simp only [cnt1, ints_length] at h)) | refine zS ?_ | refine zV ?_ | (apply zI; refine zP vObt ?_) | (apply zI; refine zP vObx ?_) | refine zA ?_ | refine Alt.fst ?_ | refine Or.inl ?_) <;> conv => whnf) | fail
     · refine loop_atR Tryz.tabOk mixOrd (α := Nat) (fun l => [(14, dint l)]) (fun l => [(0, some ⟨false, 1, rows true (Tb n (pQ f g i j k l))⟩)]) (fun l => i + j + k + l ≤ n) (fun l => n - l) (0) ?_ ?_ ?_
       · exact vAr
       · conv => whnf
         first | refine WeakS.autoR ?_ | refine Weak.autoR ?_
         conv => whnf
         repeat' ((first | refine z1 ?_ | refine z2 ?_ | refine zV ?_ | refine And.intro ?_ ?_ | exact trivial) <;> try (conv => whnf))
       intro l hll
       conv => whnf
       have hx1 := Zm.val_range hm.pos (((pQ f g i j k l).c (i + k)).c (j + l))
       have hx2 := hm.mul ((f.c i).c j) ((g.c k).c l)
       repeat' first | ((first | refine z0 ?_ | (refine And.intro (fun h => ?_) (fun h => ?_) <;> (try simp only [cnt1, ints_length] at h)) | refine zS ?_ | refine zV ?_ | (apply zI; refine zP vObt ?_) | (apply zI; refine zP vObx ?_) | refine zA ?_ | refine Alt.fst ?_ | refine Or.inl ?_) <;> conv => whnf) | fail
       · refine Exists.intro (l + 1) (And.intro vAr (And.intro vAr ?_))
         first | refine WeakS.autoR ?_ | refine Weak.autoR ?_
         conv => whnf
         repeat' ((first | refine z1 ?_ | refine z2 ?_ | refine zV ?_ | refine And.intro ?_ ?_ | exact trivial) <;> try (conv => whnf))
         exact rows_congr (setT_eq _ (tm_mulA hm _ _ _) vAr (Ag2.of_eq (pQ_step f g i j k l).symm))
       · refine Exists.intro (k + 1) (And.intro vAr (And.intro vAr ?_))
         first | refine WeakS.autoR ?_ | refine Weak.autoR ?_
         conv => whnf
         repeat' ((first | refine z1 ?_ | refine z2 ?_ | refine zV ?_ | refine And.intro ?_ ?_ | exact trivial) <;> try (conv => whnf))
         exact rows_congr (Tb_congr (pQ_row f g vAr))
     · refine Exists.intro (j + 1) (And.intro vAr (And.intro vAr ?_))
       first | refine WeakS.autoR ?_ | refine Weak.autoR ?_
       conv => whnf
       repeat' ((first | refine z1 ?_ | refine z2 ?_ | refine zV ?_ | refine And.intro ?_ ?_ | exact trivial) <;> try (conv => whnf))
       exact rows_congr (Tb_congr (pQ_end f g vAr))
   · refine Exists.intro (i + 1) (And.intro vAr (And.intro vAr ?_))
     first | refine WeakS.autoR ?_ | refine Weak.autoR ?_
     conv => whnf
     repeat' ((first | refine z1 ?_ | refine z2 ?_ | refine zV ?_ | refine And.intro ?_ ?_ | exact trivial) <;> try (conv => whnf))
     exact rows_congr (Tb_congr (pP_row f g vAr))
 · exact tbD_congr (Tb_congr (pP_full f g vAr))
theorem comp2N_top (a : PS (Zm m)) (f : PS (PS (Zm m))) (k t : Nat) : upd2 (comp2N a f (k + 1) t * f) 0 0 ((((comp2N a f (k + 1) t * f).c 0).c 0) + a.c k) = comp2N a f k (t + 1) := by
 rw [← comp2N_step]
 refine ext2 (fun i j => ?_)
 rw [upd2_cc, add_c, add_c, C_c]
 by_cases h : i = 0
 · rw [if_pos h, C_c]
   by_cases h2 : j = 0
   · rw [if_pos ⟨h, h2⟩, if_pos h2, h, h2]
   · rw [if_neg (fun x => h2 x.2), if_neg h2]; exact (Go.Fg.add_zero _).symm
 · rw [if_neg (fun x => h x.1), if_neg h]; exact (Go.Fg.add_zero _).symm
theorem c_l03After (hm : Md m) (o o' p : Bool) (n : Nat) (hn : 1 ≤ n ∧ n ≤ 100) (k : Nat) (hk : k ≤ 100) (a : PS (Zm m)) (f : PS (PS (Zm m))) : PureCall Tryz.prog 238 [dint m, LD o k a, TbD o' p n f] (TbD true true n (comp2N a f 0 k)) := by
 have hm1 := hm.1
 have hm2 := hm.2
 refine pure_of_vcR Tryz.tabOk mixOrd Tryz.func238 rfl rfl ?_
 conv => whnf
 repeat' first | ((first | (apply zI; refine zP (c_l03Zero (m := m) n vAr vAr) ?_) | (refine And.intro (fun h => ?_) (fun h => ?_) <;> (try simp only [cnt1, ints_length] at h)) | refine zV ?_ | (apply zI; refine zP vObt ?_) | (apply zI; refine zP vObx ?_) | refine Or.inl ?_) <;> conv => whnf) | fail
 refine loop_atR Tryz.tabOk mixOrd (α := Nat) (fun t => [(8, dint ((k : Int) - 1 - t)), (7, .ref 0 [] 1 0 n), (9, .undef), (13, .undef)]) (fun t => [(0, some ⟨false, 1, rows true (Tb n (comp2N a f (k - t) t))⟩)]) (fun t => t ≤ k) (fun t => k - t) (0) ?_ ?_ ?_
 · omega
 · conv => whnf
   first | refine WeakS.autoR ?_ | refine Weak.autoR ?_
   conv => whnf
   repeat' ((first | refine z1 ?_ | refine z2 ?_ | refine zV ?_ | refine And.intro ?_ ?_ | exact trivial) <;> try (conv => whnf))
 intro t ht
 conv => whnf
 have hx1 := Zm.val_range hm.pos (((comp2N a f (k - t) t * f).c 0).c 0)
 have hx2 := Zm.val_range hm.pos (a.c ((k : Int) - 1 - t).toNat)
 repeat' first | ((first | refine z0 ?_ | (apply zI; refine zP (c_l03Times hm _ _ _ _ n vAr _ _) ?_) | (refine And.intro (fun h => ?_) (fun h => ?_) <;> (try simp only [cnt1, ints_length] at h)) | refine zS ?_ | refine zV ?_ | (apply zI; refine zP vObt ?_) | (apply zI; refine zP vObx ?_) | refine Or.inl ?_) <;> conv => whnf) | fail
 · refine Exists.intro (t + 1) (And.intro vAr (And.intro vAr ?_))
   first | refine WeakS.autoR ?_ | refine Weak.autoR ?_
   conv => whnf
   repeat' ((first | refine z1 ?_ | refine z2 ?_ | refine zV ?_ | refine And.intro ?_ ?_ | exact trivial) <;> try (conv => whnf))
   have e : ((k : Int) - 1 - t).toNat = k - (t + 1) := by omega
   have e2 : k - t = k - (t + 1) + 1 := by omega
   rw [e, e2]
   exact rows_congr (setT_eq _ (tm_add hm _ _) (by omega) (Ag2.of_eq (comp2N_top a f (k - (t + 1)) t)))
 · exact tbD_congr (by rw [show k = t by omega, Nat.sub_self])
end Go.Proofs
