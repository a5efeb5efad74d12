import Derived.Test.YtndhpcigpghejaaGreatK1
namespace Go.Proofs
open Go Go.Vm Go.Fg Go.Fg.PS
set_option maxRecDepth 100000
set_option maxHeartbeats 4000000
set_option linter.unusedSimpArgs false
set_option linter.unusedVariables false
variable {m : Int}
abbrev SerD (m : Int) (o : Bool) (n : Nat) (a : PS (Zm m)) : D := .agg [dint m, .list o 1 (ints (L n a))]
theorem serD_congr {l : List Int} {o : Bool} {n : Nat} {a : PS (Zm m)} (h : l = L n a) : D.agg [dint m, .list o 1 (ints l)] = SerD m o n a := by rw [h]
theorem sd (h : Md m) {e : Int} {z : Zm m} (h0 : 0 ≤ e) (h : Zm.mk m e = z) : D.lit (.int .i64 (e.tmod m)) = dint z.val := by rw [Zm.tmod_val h0 h]
theorem c_mul (hm : Md m) (x y : Zm m) : PureCall Tryz.prog 338 [dint m, dint x.val, dint y.val] (dint (x * y).val) := by
 have h1 := hm.1
 have h2 := hm.2
 have h3 := hm.mul x y
 refine pure_of_vc Tryz.tabOk mixOrd Tryz.func338 rfl rfl ?_
 conv => whnf
 repeat' first | ((first | refine z0 ?_ | (refine And.intro (fun h => ?_) (fun h => ?_) <;> (try simp only [cnt1, ints_length] at h)) | refine zS ?_ | refine zV ?_ | (apply zI; refine zP vObx ?_) | refine Or.inl ?_) <;> conv => whnf) | fail
 · exact sd hm (by omega) (by rw [Zm.mk_mul, Zm.mk_val, Zm.mk_val])
 · omega
theorem c_degreeS (o : Bool) (n : Nat) (hn : n ≤ 100) (a : PS (Zm m)) : PureCall Tryz.prog 287 [SerD m o n a] (dint (n - 1)) := by
 have := c_degree o m (L n a) (by simp; omega)
 simpa using this
theorem c_zero {d : Int} (n : Nat) (hd : d + 1 = n) (hn : n ≤ 100) : PureCall Tryz.prog 172 [dint m, dint d] (SerD m true n 0) := by
 refine pure_of_vc Tryz.tabOk mixOrd Tryz.func172 rfl rfl ?_
 conv => whnf
 repeat' first | ((first | refine z0 ?_ | (refine And.intro (fun h => ?_) (fun h => ?_) <;> (try simp only [cnt1, ints_length] at h)) | refine zS ?_ | refine zV ?_ | (apply zI; refine zP vObx ?_) | refine Or.inl ?_) <;> conv => whnf) | fail
 exact serD_congr (by rw [L_zero, show (d + 1).toNat = n by omega])
theorem c_constant (hm : Md m) (o : Bool) (n : Nat) (hn : 1 ≤ n ∧ n ≤ 100) (a : PS (Zm m)) (c : Int) : PureCall Tryz.prog 173 [SerD m o n a, dint c] (SerD m true n (PS.C (Zm.mk m c))) := by
 have h1 := hm.1
 have h2 := hm.2
 refine pure_of_vc Tryz.tabOk mixOrd Tryz.func173 rfl rfl ?_
 conv => whnf
 repeat' first | ((first | refine z0 ?_ | (apply zI; refine zP (c_degreeS _ _ vAr _) ?_) | (apply zI; refine zP (c_zero n vAr vAr) ?_) | (apply zI; refine zP (c_mod _ _ hm.pos (by omega)) ?_) | refine zS ?_ | refine zV ?_ | (apply zI; refine zP vObx ?_) | refine Alt.fst ?_ | refine Or.inl ?_) <;> conv => whnf) | fail
 refine serD_congr ?_
 rw [show c % m = (Zm.mk m c).val from rfl, L_set]
 exact L_congr (fun i hi => by rw [upd_c, C_c]; split <;> rfl)
theorem c_times (hm : Md m) (o o' : Bool) (n : Nat) (hn : 1 ≤ n ∧ n ≤ 100) (a b : PS (Zm m)) : PureCall Tryz.prog 213 [SerD m o n a, SerD m o' n b] (SerD m true n (a * b)) := by
 have h1 := hm.1
 have h2 := hm.2
 refine pure_of_vc Tryz.tabOk mixOrd Tryz.func213 rfl rfl ?_
 conv => whnf
 repeat' first | ((first | (apply zI; refine zP (c_degreeS _ _ vAr _) ?_) | (apply zI; refine zP (c_zero n vAr vAr) ?_) | refine zS ?_ | refine Alt.fst ?_ | refine Or.inl ?_) <;> conv => whnf) | fail
 refine loop_at Tryz.tabOk mixOrd (α := Nat) (fun i => [(18, dint i)]) (fun i => [(5, some ⟨false, 1, ints (L n (tP a b i))⟩)]) (fun i => i ≤ n) (fun i => n - i) (0) ?_ ?_ ?_
 · omega
 · conv => whnf
   first | refine WeakS.auto ?_ | refine Weak.auto ?_
   conv => whnf
   repeat' ((first | refine z1 ?_ | refine z2 ?_ | refine zV ?_ | refine And.intro ?_ ?_ | exact trivial) <;> try (conv => whnf))
   all_goals rw [tP_zero]
 intro i hi
 conv => whnf
 repeat' first | ((first | refine z0 ?_ | (refine And.intro (fun h => ?_) (fun h => ?_) <;> (try simp only [cnt1, ints_length] at h)) | refine zS ?_ | refine zV ?_ | (apply zI; refine zP vObx ?_) | refine Or.inl ?_) <;> conv => whnf) | fail
 · refine loop_at Tryz.tabOk mixOrd (α := Nat) (fun j => [(31, dint (n - i : Nat)), (32, dint j)]) (fun j => [(5, some ⟨false, 1, ints (L n (tQ a b i j))⟩)]) (fun j => j ≤ n - i) (fun j => n - j) (0) ?_ ?_ ?_
   · omega
   · conv => whnf
     first | refine WeakS.auto ?_ | refine Weak.auto ?_
     conv => whnf
     repeat' ((first | refine z1 ?_ | refine z2 ?_ | refine zV ?_ | refine And.intro ?_ ?_ | exact trivial) <;> try (conv => whnf))
     all_goals rw [tQ_zero]
   intro j hj
   conv => whnf
   have hmul := Zm.val_range hm.pos (a.c i * b.c j)
   have hq := Zm.val_range hm.pos ((tQ a b i j).c (i + j))
   repeat' first | ((first | (apply zI; refine zP (c_mul hm _ _) ?_) | (refine And.intro (fun h => ?_) (fun h => ?_) <;> (try simp only [cnt1, ints_length] at h)) | refine zS ?_ | refine zV ?_ | (apply zI; refine zP vObx ?_) | refine Alt.fst ?_ | refine Or.inl ?_) <;> conv => whnf) | fail
   · refine Exists.intro (j + 1) (And.intro (by omega) (And.intro (by omega) ?_))
     first | refine WeakS.auto ?_ | refine Weak.auto ?_
     conv => whnf
     repeat' ((first | refine z1 ?_ | refine z2 ?_ | refine zV ?_ | refine And.intro ?_ ?_ | exact trivial) <;> try (conv => whnf))
     rw [tQ_step, ← L_set, Zm.tmod_val (z := (tQ a b i j).c (i + j) + a.c i * b.c j) (by omega) (by simp only [Zm.mk_add, Zm.mk_val])]
   · refine Exists.intro (i + 1) (And.intro (by simp at *; omega) (And.intro (by simp at *; omega) ?_))
     first | refine WeakS.auto ?_ | refine Weak.auto ?_
     conv => whnf
     repeat' ((first | refine z1 ?_ | refine z2 ?_ | refine zV ?_ | refine And.intro ?_ ?_ | exact trivial) <;> try (conv => whnf))
     rw [L_congr (tQ_full a b (by omega))]
 · exact serD_congr (L_congr (tP_full a b (by simp at h; omega)))
theorem ints_congr {l l' : List Int} (h : l = l') : ints l = ints l' := by rw [h]
theorem c_plus (hm : Md m) (o o' : Bool) (n : Nat) (hn : 1 ≤ n ∧ n ≤ 100) (a b : PS (Zm m)) : PureCall Tryz.prog 353 [SerD m o n a, SerD m o' n b] (SerD m true n (a + b)) := by
 have h1 := hm.1
 have h2 := hm.2
 refine pure_of_vc Tryz.tabOk mixOrd Tryz.func353 rfl rfl ?_
 conv => whnf
 repeat' first | ((first | (apply zI; refine zP (c_degreeS _ _ vAr _) ?_) | (apply zI; refine zP (c_zero n vAr vAr) ?_) | refine zS ?_ | refine Alt.fst ?_ | refine Or.inl ?_) <;> conv => whnf) | fail
 refine loop_at Tryz.tabOk mixOrd (α := Nat) (fun i => [(14, dint n), (15, dint i)]) (fun i => [(5, some ⟨false, 1, ints (L n (mix i (a + b) 0))⟩)]) (fun i => i ≤ n) (fun i => n - i) (0) ?_ ?_ ?_
 · omega
 · conv => whnf
   first | refine WeakS.auto ?_ | refine Weak.auto ?_
   conv => whnf
   repeat' ((first | refine z1 ?_ | refine z2 ?_ | refine zV ?_ | refine And.intro ?_ ?_ | exact trivial) <;> try (conv => whnf))
   all_goals rw [mix_zero]
 intro i hi
 conv => whnf
 have ha := Zm.val_range hm.pos (a.c i)
 have hb := Zm.val_range hm.pos (b.c i)
 repeat' first | ((first | refine z0 ?_ | (refine And.intro (fun h => ?_) (fun h => ?_) <;> (try simp only [cnt1, ints_length] at h)) | refine zS ?_ | refine zV ?_ | (apply zI; refine zP vObx ?_) | refine Or.inl ?_) <;> conv => whnf) | fail
 · refine Exists.intro (i + 1) (And.intro (by omega) (And.intro (by omega) ?_))
   first | refine WeakS.auto ?_ | refine Weak.auto ?_
   conv => whnf
   repeat' ((first | refine z1 ?_ | refine z2 ?_ | refine zV ?_ | refine And.intro ?_ ?_ | exact trivial) <;> try (conv => whnf))
   exact ints_congr (L_set_eq ((a + b).c i) (Zm.tmod_val (by omega) (by simp only [Zm.mk_add, Zm.mk_val]; rfl)) (Ag.of_eq (mix_succ _ _ _).symm))
 · exact serD_congr (L_congr (fun k hk => by rw [mix_c, if_pos (by omega)]))
theorem c_scaled (hm : Md m) (o : Bool) (n : Nat) (hn : 1 ≤ n ∧ n ≤ 100) (a : PS (Zm m)) (c : Int) : PureCall Tryz.prog 242 [SerD m o n a, dint c] (SerD m true n (PS.C (Zm.mk m c) * a)) := by
 have h1 := hm.1
 have h2 := hm.2
 refine pure_of_vc Tryz.tabOk mixOrd Tryz.func242 rfl rfl ?_
 conv => whnf
 repeat' first | ((first | (apply zI; refine zP (c_degreeS _ _ vAr _) ?_) | (apply zI; refine zP (c_zero n vAr vAr) ?_) | refine zS ?_ | refine Alt.fst ?_ | refine Or.inl ?_) <;> conv => whnf) | fail
 refine loop_at Tryz.tabOk mixOrd (α := Nat) (fun i => [(15, dint n), (16, dint i)]) (fun i => [(4, some ⟨false, 1, ints (L n (mix i (PS.C (Zm.mk m c) * a) 0))⟩)]) (fun i => i ≤ n) (fun i => n - i) (0) ?_ ?_ ?_
 · omega
 · conv => whnf
   first | refine WeakS.auto ?_ | refine Weak.auto ?_
   conv => whnf
   repeat' ((first | refine z1 ?_ | refine z2 ?_ | refine zV ?_ | refine And.intro ?_ ?_ | exact trivial) <;> try (conv => whnf))
   all_goals rw [mix_zero]
 intro i hi
 conv => whnf
 repeat' first | ((first | refine z0 ?_ | (apply zI; refine zP (c_mod _ _ hm.pos (by omega)) ?_) | (apply zI; refine zP (c_mul hm (Zm.mk m c) _) ?_) | (refine And.intro (fun h => ?_) (fun h => ?_) <;> (try simp only [cnt1, ints_length] at h)) | refine zS ?_ | refine zV ?_ | (apply zI; refine zP vObx ?_) | refine Alt.fst ?_ | refine Or.inl ?_) <;> conv => whnf) | fail
 · refine Exists.intro (i + 1) (And.intro (by omega) (And.intro (by omega) ?_))
   first | refine WeakS.auto ?_ | refine Weak.auto ?_
   conv => whnf
   repeat' ((first | refine z1 ?_ | refine z2 ?_ | refine zV ?_ | refine And.intro ?_ ?_ | exact trivial) <;> try (conv => whnf))
   exact ints_congr (L_set_eq ((PS.C (Zm.mk m c) * a).c i) (by rw [C_mul]) (Ag.of_eq (mix_succ _ _ _).symm))
 · exact serD_congr (L_congr (fun k hk => by rw [mix_c, if_pos (by omega)]))
abbrev LD (o : Bool) (n : Nat) (a : PS (Zm m)) : D := .list o 1 (ints (L n a))
theorem lD_congr {l : List Int} {o : Bool} {n : Nat} {a : PS (Zm m)} (h : l = L n a) : D.list o 1 (ints l) = LD o n a := by rw [h]
theorem ints_congr' {l l' : List Int} (h : l = l') : ints l = ints l' := by rw [h]
theorem c_l02Times (hm : Md m) (o o' : Bool) (n na nb : Nat) {d : Int} (hd : d + 1 = n) (hn : n ≤ 100) (h1 : n ≤ na) (h2 : n ≤ nb) (h3 : na ≤ 1048576) (h4 : nb ≤ 1048576) (a b : PS (Zm m)) :
   PureCall Tryz.prog 279 [dint m, LD o na a, LD o' nb b, dint d] (LD true n (a * b)) := by
 have hm1 := hm.1
 have hm2 := hm.2
 refine pure_of_vc Tryz.tabOk mixOrd Tryz.func279 rfl rfl ?_
 conv => whnf
 repeat' first | ((first | refine z0 ?_ | (refine And.intro (fun h => ?_) (fun h => ?_) <;> (try simp only [cnt1, ints_length] at h)) | refine zS ?_ | refine zV ?_ | (apply zI; refine zP vObx ?_) | refine Or.inl ?_) <;> conv => whnf) | fail
 refine loop_at Tryz.tabOk mixOrd (α := Nat) (fun i => [(10, dint i)]) (fun i => [(0, some ⟨false, 1, ints (L n (tP a b i))⟩)]) (fun i => i ≤ n) (fun i => n - i) (0) ?_ ?_ ?_
 · omega
 · conv => whnf
   first | refine WeakS.auto ?_ | refine Weak.auto ?_
   conv => whnf
   repeat' ((first | refine z1 ?_ | refine z2 ?_ | refine zV ?_ | refine And.intro ?_ ?_ | exact trivial) <;> try (conv => whnf))
   all_goals rw [tP_zero]
   all_goals (rw [L_zero, show (d + 1).toNat = n by omega])
 intro i hi
 conv => whnf
 repeat' first | ((first | refine z0 ?_ | (refine And.intro (fun h => ?_) (fun h => ?_) <;> (try simp only [cnt1, ints_length] at h)) | refine zS ?_ | refine zV ?_ | (apply zI; refine zP vObx ?_) | refine Or.inl ?_) <;> conv => whnf) | fail
 · refine loop_at Tryz.tabOk mixOrd (α := Nat) (fun j => [(11, dint j)]) (fun j => [(0, some ⟨false, 1, ints (L n (tQ a b i j))⟩)]) (fun j => j ≤ n - i) (fun j => n - j) (0) ?_ ?_ ?_
   · omega
   · conv => whnf
     first | refine WeakS.auto ?_ | refine Weak.auto ?_
     conv => whnf
     repeat' ((first | refine z1 ?_ | refine z2 ?_ | refine zV ?_ | refine And.intro ?_ ?_ | exact trivial) <;> try (conv => whnf))
     all_goals rw [tQ_zero]
   intro j hj
   conv => whnf
   have hmul := Zm.val_range hm.pos (a.c i * b.c j)
   have hmul2 := hm.mul (a.c i) (b.c j)
   have hq := Zm.val_range hm.pos ((tQ a b i j).c (i + j))
   repeat' first | ((first | refine z0 ?_ | (refine And.intro (fun h => ?_) (fun h => ?_) <;> (try simp only [cnt1, ints_length] at h)) | refine zS ?_ | refine zV ?_ | (apply zI; refine zP vObx ?_) | refine Or.inl ?_) <;> conv => whnf) | fail
   · refine Exists.intro (j + 1) (And.intro (by omega) (And.intro (by omega) ?_))
     first | refine WeakS.auto ?_ | refine Weak.auto ?_
     conv => whnf
     repeat' ((first | refine z1 ?_ | refine z2 ?_ | refine zV ?_ | refine And.intro ?_ ?_ | exact trivial) <;> try (conv => whnf))
     exact ints_congr' (L_set_eq _ (tm_mulA hm _ _ _) (Ag.of_eq (tQ_step a b i j).symm))
   all_goals
     refine Exists.intro (i + 1) (And.intro (by simp at *; omega) (And.intro (by simp at *; omega) ?_))
     first | refine WeakS.auto ?_ | refine Weak.auto ?_
     conv => whnf
     repeat' ((first | refine z1 ?_ | refine z2 ?_ | refine zV ?_ | refine And.intro ?_ ?_ | exact trivial) <;> try (conv => whnf))
   · exact ints_congr' (L_congr (Ag.of_eq (tQ_row a b i j (Zm.val_eq_zero.1 (Classical.not_not.1 (by assumption))))))
   · exact ints_congr' (L_congr (tQ_full a b (by omega)))
   · exact ints_congr' (L_congr (tQ_full a b (by simp at *; omega)))
 all_goals exact lD_congr (L_congr (tP_full a b (by simp at *; omega)))
theorem c_l02Inverse (hm : Md m) (o : Bool) (n na : Nat) {d : Int} (hd : d + 1 = n) (hn : 1 ≤ n ∧ n ≤ 100) (h1 : n ≤ na) (h3 : na ≤ 1048576) (a : PS (Zm m)) (u : Zm m) (hu : PureCall Tryz.prog 373 [dint m, dint (a.c 0).val] (dint u.val)) :
   PureCall Tryz.prog 352 [dint m, LD o na a, dint d] (LD true n (inv u a)) := by
 have hm1 := hm.1
 have hm2 := hm.2
 refine pure_of_vc Tryz.tabOk mixOrd Tryz.func352 rfl rfl ?_
 conv => whnf
 repeat' first | ((first | (apply zI; refine zP (hu) ?_) | refine zV ?_ | (apply zI; refine zP vObx ?_) | refine Or.inl ?_) <;> conv => whnf) | fail
 refine loop_at Tryz.tabOk mixOrd (α := Nat) (fun t => [(9, dint ((t : Int) + 1)), (8, .ref 1 [] 1 0 (t + 1)), (18, .undef)]) (fun t => [(1, some ⟨false, 1, ints (L (t + 1) (inv u a))⟩)]) (fun t => t + 1 ≤ n) (fun t => n - t) (0) ?_ ?_ ?_
 · omega
 · conv => whnf
   first | refine WeakS.auto ?_ | refine Weak.auto ?_
   conv => whnf
   repeat' ((first | refine z1 ?_ | refine z2 ?_ | refine zV ?_ | refine And.intro ?_ ?_ | exact trivial) <;> try (conv => whnf))
 intro t ht
 conv => whnf
 repeat' first | ((first | refine z0 ?_ | (refine And.intro (fun h => ?_) (fun h => ?_) <;> (try simp only [cnt1, ints_length] at h)) | refine zS ?_ | refine zV ?_ | (apply zI; refine zP vObx ?_) | refine Or.inl ?_) <;> conv => whnf) | fail
 · refine loop_at Tryz.tabOk mixOrd (α := Nat) (fun q => [(10, dint (sm q (fun j => a.c (j + 1) * (inv u a).c (t - j))).val), (11, dint ((q : Int) + 1))]) (fun q => []) (fun q => q ≤ t + 1) (fun q => t + 1 - q) (0) ?_ ?_ ?_
   · omega
   · conv => whnf
     first | refine WeakS.auto ?_ | refine Weak.auto ?_
     conv => whnf
     repeat' ((first | refine z1 ?_ | refine z2 ?_ | refine zV ?_ | refine And.intro ?_ ?_ | exact trivial) <;> try (conv => whnf))
   intro q hq
   conv => whnf
   repeat' first | ((first | refine z0 ?_ | (refine And.intro (fun h => ?_) (fun h => ?_) <;> (try simp only [cnt1, ints_length] at h)) | refine zS ?_ | refine zV ?_ | (apply zI; refine zP vObx ?_) | refine Or.inl ?_) <;> conv => whnf) | fail
   · refine Exists.intro (q + 1) (And.intro (by omega) (And.intro (by omega) ?_))
     first | refine WeakS.auto ?_ | refine Weak.auto ?_
     conv => whnf
     repeat' ((first | refine z1 ?_ | refine z2 ?_ | refine zV ?_ | refine And.intro ?_ ?_ | exact trivial) <;> try (conv => whnf))
     rw [tm_mulA hm, sm_succ]
   · exact absurd (by assumption) (show ¬ ¬ (q : Int) + 1 < ((L na a).length : Nat) by simp; omega)
   · have hqt : q = t + 1 := by omega
     refine Exists.intro (t + 1) (And.intro (by omega) (And.intro (by omega) ?_))
     first | refine WeakS.auto ?_ | refine Weak.auto ?_
     conv => whnf
     repeat' ((first | refine z1 ?_ | refine z2 ?_ | refine zV ?_ | refine And.intro ?_ ?_ | exact trivial) <;> try (conv => whnf))
     refine ints_congr' (L_push ?_)
     rw [hqt, tm_negmul hm, ← mul_invP_c, ← inv_c_succ]
 · rw [show t + 1 = n by omega]
theorem c_l02Compose (hm : Md m) (o o' : Bool) (n na nb : Nat) {d : Int} (hd : d + 1 = n) (hn : 1 ≤ n ∧ n ≤ 100) (h1 : n ≤ na) (h2 : n ≤ nb) (h3 : na ≤ 1048576) (h4 : nb ≤ 1048576) (a f : PS (Zm m)) :
   PureCall Tryz.prog 246 [dint m, LD o na a, LD o' nb f, dint d] (LD true n (compN a f 0 n)) := by
 have hm1 := hm.1
 have hm2 := hm.2
 refine pure_of_vc Tryz.tabOk mixOrd Tryz.func246 rfl rfl ?_
 conv => whnf
 repeat' first | ((first | refine z0 ?_ | (refine And.intro (fun h => ?_) (fun h => ?_) <;> (try simp only [cnt1, ints_length] at h)) | refine zS ?_ | refine zV ?_ | (apply zI; refine zP vObx ?_) | refine Or.inl ?_) <;> conv => whnf) | fail
 refine loop_at Tryz.tabOk mixOrd (α := Nat) (fun t => [(10, dint ((n : Int) - 1 - t)), (9, .ref 0 [] 1 0 n), (13, .undef)]) (fun t => [(0, some ⟨false, 1, ints (L n (compN a f (n - t) t))⟩)]) (fun t => t ≤ n) (fun t => n - t) (0) ?_ ?_ ?_
 · omega
 · conv => whnf
   first | refine WeakS.auto ?_ | refine Weak.auto ?_
   conv => whnf
   repeat' ((first | refine z1 ?_ | refine z2 ?_ | refine zV ?_ | refine And.intro ?_ ?_ | exact trivial) <;> try (conv => whnf))
   rw [show (d + 1).toNat = n by omega, ← L_zero (m := m)]
   rfl
 intro t ht
 conv => whnf
 repeat' first | ((first | refine z0 ?_ | (apply zI; refine zP (c_l02Times hm _ _ n n nb hd (by omega) (by omega) (by omega) (by omega) (by omega) _ _) ?_) | (refine And.intro (fun h => ?_) (fun h => ?_) <;> (try simp only [cnt1, ints_length] at h)) | refine zS ?_ | refine zV ?_ | (apply zI; refine zP vObx ?_) | refine Or.inl ?_) <;> conv => whnf) | fail
 · refine Exists.intro (t + 1) (And.intro (by omega) (And.intro (by omega) ?_))
   first | refine WeakS.auto ?_ | refine Weak.auto ?_
   conv => whnf
   repeat' ((first | refine z1 ?_ | refine z2 ?_ | refine zV ?_ | refine And.intro ?_ ?_ | exact trivial) <;> try (conv => whnf))
   have e : (n : Int) - 1 - t = ((n - 1 - t : Nat) : Int) := by omega
   refine ints_congr' ?_
   rw [e, Int.toNat_natCast, tm_add hm]
   refine L_set_eq _ rfl (Ag.of_eq ?_)
   rw [show n - (t + 1) = n - 1 - t by omega, ← compN_step, show n - 1 - t + 1 = n - t by omega]
   ext k
   rw [upd_c, add_c, C_c]
   split
   · rename_i hk; subst hk; rfl
   · exact (Go.Fg.add_zero _).symm
 · rw [show n = t by omega]; simp
theorem c_l02Reverse (hm : Md m) (o : Bool) (n na : Nat) {d : Int} (hd : d + 1 = n) (hn : 2 ≤ n ∧ n ≤ 100) (h1 : n ≤ na) (h3 : na ≤ 1048576) (a : PS (Zm m)) (u : Zm m) (hu : PureCall Tryz.prog 373 [dint m, dint (a.c 1).val] (dint u.val)) :
   PureCall Tryz.prog 231 [dint m, LD o na a, dint d] (LD true n (rev u a)) := by
 have hm1 := hm.1
 have hm2 := hm.2
 refine pure_of_vc Tryz.tabOk mixOrd Tryz.func231 rfl rfl ?_
 conv => whnf
 repeat' first | ((first | (apply zI; refine zP (hu) ?_) | refine zV ?_ | (apply zI; refine zP vObx ?_) | refine Or.inl ?_) <;> conv => whnf) | fail
 refine loop_at Tryz.tabOk mixOrd (α := Nat) (fun t => [(9, dint ((t : Int) + 2)), (7, .ref 0 [] 1 0 n), (13, .undef), (19, .undef), (21, .undef)]) (fun t => [(0, some ⟨false, 1, ints (L n (revP u a (t + 1)))⟩)]) (fun t => t + 2 ≤ n) (fun t => n - t) (0) ?_ ?_ ?_
 · omega
 · conv => whnf
   first | refine WeakS.auto ?_ | refine Weak.auto ?_
   conv => whnf
   repeat' ((first | refine z1 ?_ | refine z2 ?_ | refine zV ?_ | refine And.intro ?_ ?_ | exact trivial) <;> try (conv => whnf))
   rw [show (d + 1).toNat = n by omega, ← L_zero (m := m)]
   exact ints_congr' (L_set_eq u rfl (fun i hi => rfl))
 intro t ht
 conv => whnf
 repeat' first | ((first | refine z0 ?_ | (apply zI; refine zP (c_l02Compose hm _ _ (t + 3) na n (by omega) (by omega) (by omega) (by omega) (by omega) (by omega) _ _) ?_) | (refine And.intro (fun h => ?_) (fun h => ?_) <;> (try simp only [cnt1, ints_length] at h)) | refine zV ?_ | (apply zI; refine zP vObx ?_) | refine Or.inl ?_) <;> conv => whnf) | fail
 · refine Exists.intro (t + 1) (And.intro (by omega) (And.intro (by omega) ?_))
   first | refine WeakS.auto ?_ | refine Weak.auto ?_
   conv => whnf
   repeat' ((first | refine z1 ?_ | refine z2 ?_ | refine zV ?_ | refine And.intro ?_ ?_ | exact trivial) <;> try (conv => whnf))
   refine ints_congr' (L_set_eq _ (tm_negmul hm _ _) (Ag.of_eq ?_))
   rw [revP_two u a (t + 1) (by omega), compN_c (revP_c0 u a _) (show t + 1 + 1 < t + 3 by omega)]
   rfl
 · exact lD_congr (L_congr ((revP_ag u a (t + 1)).le (by omega)))
end Go.Proofs
