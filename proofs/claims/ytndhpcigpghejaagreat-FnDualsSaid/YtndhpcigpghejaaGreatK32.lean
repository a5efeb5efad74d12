import Derived.Test.YtndhpcigpghejaaGreatK10
import Derived.Test.YtndhpcigpghejaaGreatVm32
namespace Go.Proofs
open Go Go.Vm Go.Fg Go.Fg.PS
set_option maxRecDepth 100000
set_option maxHeartbeats 4000000
set_option linter.unusedSimpArgs false
set_option linter.unusedVariables false
variable {m : Int}
def srs (n : Nat) (a : PS (Zm m)) : Nat → List D
 | 0 => []
 | k + 1 => srs n a k ++ [dint m, .list true 1 (ints (L n (pw a k)))]
@[simp] theorem srs_length (n : Nat) (a : PS (Zm m)) (k : Nat) : (srs n a k).length = 2 * k := by
 induction k with
 | zero => rfl
 | succ k ih => simp only [srs, List.length_append, ih, List.length_cons, List.length_nil]; omega
theorem srs_at (n : Nat) (a : PS (Zm m)) {k i : Nat} (h : i < k) : (srs n a k)[2 * i]? = some (dint m) ∧ (srs n a k)[2 * i + 1]? = some (.list true 1 (ints (L n (pw a i)))) := by
 induction k with
 | zero => omega
 | succ k ih =>
   rcases Nat.lt_or_ge i k with h' | h'
   · simp only [srs]
     rw [List.getElem?_append_left (by simp; omega), List.getElem?_append_left (by simp; omega)]
     exact ih h'
   · have : i = k := by omega
     subst this
     simp only [srs]
     rw [List.getElem?_append_right (by simp), List.getElem?_append_right (by simp), srs_length, show 2 * i - 2 * i = 0 by omega, show 2 * i + 1 - 2 * i = 1 by omega]
     exact ⟨rfl, rfl⟩
theorem srs_cnt (n : Nat) (a : PS (Zm m)) (k : Nat) : cnt 2 (srs n a k) = k := by simp [cnt]
theorem vSrL {n k q : Nat} {a : PS (Zm m)} (i : Nat) (e : q = 2 * i) (h : i < k) : LoadRows (srs n a k) [] q 2 [dint m, .list true 1 (ints (L n (pw a i)))] := by
 subst e
 refine ⟨_, rfl, ?_, rfl⟩
 have h1 := srs_at n a h
 have l1 : 2 * i < (srs n a k).length := by simp; omega
 have l2 : 2 * i + 1 < (srs n a k).length := by simp; omega
 rw [List.getElem?_eq_getElem l1, List.getElem?_eq_getElem l2] at h1
 rw [List.drop_eq_getElem_cons l1, List.drop_eq_getElem_cons l2, Option.some.inj h1.1, Option.some.inj h1.2]
 rfl
theorem vSrG {n k q : Nat} {a : PS (Zm m)} (i : Nat) (e : q = 2 * i + 1) (h : i < k) : getB (srs n a k) ([] ++ [q]) = some (ints (L n (pw a i))) := by
 subst e
 show (match (srs n a k)[2 * i + 1]? with | some (.list true _ cs') => getB cs' [] | _ => none) = _
 rw [(srs_at n a h).2]
 rfl
theorem vSrlen {n k q : Nat} {a : PS (Zm m)} (h : q = 2 * k) : q = (srs n a k).length := by rw [srs_length]; exact h
theorem vSrIx {n k i : Nat} {a : PS (Zm m)} (h : i < k) : 0 ≤ (i : Int) ∧ (i : Int) < (cnt 2 (srs n a k) : Nat) := by rw [srs_cnt]; omega
theorem srs_one (x : Value) (cs : List D) (h : D.one (.lit x) = true := by rfl) : ∀ d ∈ [D.lit x, D.list true 1 cs], d.one = true := fun d hd => by
 simp only [List.mem_cons, List.not_mem_nil, or_false] at hd
 rcases hd with rfl | rfl
 · exact h
 · rfl
theorem srs_plain (n : Nat) (a : PS (Zm m)) (k : Nat) : ∀ x ∈ srs n a k, PlainD x := by
 induction k with
 | zero => intro x hx; simp [srs] at hx
 | succ k ih =>
   intro x hx
   simp only [srs, List.mem_append, List.mem_cons, List.not_mem_nil, or_false] at hx
   rcases hx with hx | rfl | rfl
   · exact ih x hx
   · exact .lit _
   · exact .list _ _ (ints_plain _)
theorem vRm32 {n : Nat} (h : n ≤ 1000000) : roomOk n 32 := ⟨by omega, by omega⟩
def putP (f : PS (PS (Zm m))) (a b : PS (Zm m)) (n i j : Nat) : PS (Zm m) :=
 sm i (fun i => sm (n - i) fun j => PS.C ((f.c i).c j) * (pw a i * pw b j)) + sm j fun j => PS.C ((f.c i).c j) * (pw a i * pw b j)
def putS (f : PS (PS (Zm m))) (a b : PS (Zm m)) (n : Nat) : PS (Zm m) := putP f a b n n 0
theorem putP_zero (f : PS (PS (Zm m))) (a b : PS (Zm m)) (n : Nat) : putP f a b n 0 0 = 0 := by
 unfold putP; exact CR.zero_add _
theorem putP_step (f : PS (PS (Zm m))) (a b : PS (Zm m)) (n i j : Nat) : putP f a b n i (j + 1) = putP f a b n i j + PS.C ((f.c i).c j) * (pw a i * pw b j) := by
 unfold putP; rw [sm_succ, CR.add_assoc]
theorem putP_skip (f : PS (PS (Zm m))) (a b : PS (Zm m)) (n i j : Nat) (h : (f.c i).c j = 0) : putP f a b n i (j + 1) = putP f a b n i j := by
 rw [putP_step, h, PS.C_zero, Go.Fg.zero_mul, Go.Fg.add_zero]
theorem putP_row (f : PS (PS (Zm m))) (a b : PS (Zm m)) {n i j : Nat} (h : j = n - i) : putP f a b n i j = putP f a b n (i + 1) 0 := by
 subst h
 unfold putP
 rw [sm_succ]
 exact (Go.Fg.add_zero _).symm
theorem putS_0 {f : PS (PS (Zm m))} {a b : PS (Zm m)} {n : Nat} (hf : (f.c 0).c 0 = 0) (ha : a.c 0 = 0) (hb : b.c 0 = 0) : (putS f a b n).c 0 = 0 := by
 unfold putS putP
 rw [PS.add_c, PS.sm_c]
 have hp : ∀ (x : PS (Zm m)) (k : Nat), x.c 0 = 0 → (pw x (k + 1)).c 0 = 0 := fun x k hx => by rw [pw_succ, PS.mul_c0, hx, Go.Fg.mul_zero]
 have e1 : sm n (fun i => (sm (n - i) fun j => PS.C ((f.c i).c j) * (pw a i * pw b j)).c 0) = 0 := sm_zero fun i _ => by
   rw [PS.sm_c]
   refine sm_zero fun j _ => ?_
   rw [PS.C_mul, PS.mul_c0]
   cases i with
   | succ i => rw [hp a i ha, Go.Fg.zero_mul, Go.Fg.mul_zero]
   | zero => cases j with
     | succ j => rw [hp b j hb, Go.Fg.mul_zero, Go.Fg.mul_zero]
     | zero => rw [hf, Go.Fg.zero_mul]
 rw [e1]
 exact CR.zero_add _
theorem c_powersS (hm : Md m) (o : Bool) (n : Nat) (hn : 1 ≤ n ∧ n ≤ 100) (a : PS (Zm m)) : PureCall Tryz.prog 356 [SerD m o n a] (.list true 2 (srs n a n)) := by
 have hm1 := hm.1
 have hm2 := hm.2
 refine pure_of_vcR Tryz.tabOk mixOrd Tryz.func356 rfl rfl ?_
 conv => whnf
 repeat' first | ((first | (apply zI; refine zP (c_degreeS _ _ vAr _) ?_) | (apply zI; refine zP (c_constant hm _ n vAr _ _) ?_) | refine zV ?_ | refine Or.inl ?_) <;> conv => whnf) | fail
 refine loop_atR Tryz.tabOk mixOrd (α := Nat) (fun i => [(9, dint i), (3, .ref 3 [] 2 0 (i + 1)), (5, .undef), (6, .undef)]) (fun i => [(3, some ⟨false, 2, srs n a (i + 1)⟩)]) (fun i => i + 1 ≤ n) (fun i => n - i) (0) ?_ ?_ ?_
 · omega
 · conv => whnf
   first | refine WeakS.autoR ?_ | refine Weak.autoR ?_
   conv => whnf
   repeat' ((first | refine z1 ?_ | refine zV ?_ | refine And.intro ?_ ?_ | exact trivial) <;> try (conv => whnf))
 intro i hi
 conv => whnf
 repeat' first | ((first | refine z0 ?_ | (apply zI; refine zP (vSrL i (by first | (simp [place]; done) | (simp [place]; omega)) vAr) ?_) | (apply zI; refine zP (vSrG i (by first | (simp [place]; done) | (simp [place]; omega)) vAr) ?_) | (apply zI; refine zP (c_times hm _ _ n vAr (pw a i) a) ?_) | (refine And.intro (fun h => ?_) (fun h => ?_) <;> (try simp only [cnt1, ints_length] at h)) | refine zS ?_ | refine zV ?_ | (apply zI; refine zP vObx ?_) | refine And.intro (vRm32 vAr) ?_ | refine And.intro (vSrlen (by omega)) ?_ | refine And.intro (srs_one _ _) ?_ | refine And.intro (srs_plain _ _ _) ?_ | refine Alt.fst ?_ | refine Or.inl ?_) <;> conv => whnf) | fail
 · refine Exists.intro (i + 1) (And.intro vAr (And.intro vAr ?_))
   first | refine WeakS.autoR ?_ | refine Weak.autoR ?_
   conv => whnf
   repeat' ((first | refine z1 ?_ | refine zV ?_ | refine And.intro ?_ ?_ | exact trivial) <;> try (conv => whnf))
 · rw [show i + 1 = n by omega]
theorem c_curves (hm : Md m) (o p o' o2 : Bool) (n : Nat) (hn : 1 ≤ n ∧ n ≤ 100) (f : PS (PS (Zm m))) (a b : PS (Zm m)) : PureCall Tryz.prog 197 [PlD m o p n f, SerD m o' n a, SerD m o2 n b] (SerD m true n (putS f a b n)) := by
 have hm1 := hm.1
 have hm2 := hm.2
 refine pure_of_vcR Tryz.tabOk mixOrd Tryz.func197 rfl rfl ?_
 conv => whnf
 repeat' first | ((first | (apply zI; refine zP (c_constant hm _ n vAr _ _) ?_) | (apply zI; refine zP (c_powersS hm _ n vAr _) ?_) | refine zS ?_ | refine Alt.fst ?_ | refine Or.inl ?_) <;> conv => whnf) | fail
 refine loop_atR Tryz.tabOk mixOrd (α := Nat) (fun i => [(23, dint i), (11, .undef), (15, .undef)]) (fun i => [(5, some ⟨false, 1, ints (L n (putP f a b n i 0))⟩), (8, some ⟨true, 1, [dint m, .ref 5 [] 1 0 n]⟩)]) (fun i => i ≤ n) (fun i => n - i) (0) ?_ ?_ ?_
 · omega
 · conv => whnf
   first | refine WeakS.autoR ?_ | refine Weak.autoR ?_
   conv => whnf
   repeat' ((first | refine z1 ?_ | refine zV ?_ | refine And.intro ?_ ?_ | exact trivial) <;> try (conv => whnf))
   all_goals (rw [putP_zero]; exact ints_congr' (L_congr (Ag.of_eq PS.C_zero)))
 intro i hi
 conv => whnf
 repeat' first | ((first | refine z0 ?_ | (refine And.intro (fun h => ?_) (fun h => ?_) <;> (try simp only [cnt1, ints_length] at h)) | refine zS ?_ | refine zV ?_ | (apply zI; refine zP vObt ?_) | (apply zI; refine zP vObx ?_) | refine zA ?_ | refine Alt.fst ?_ | refine Or.inl ?_) <;> conv => whnf) | fail
 · refine loop_atR Tryz.tabOk mixOrd (α := Nat) (fun j => [(30, dint j)]) (fun j => [(5, some ⟨false, 1, ints (L n (putP f a b n i j))⟩), (8, some ⟨true, 1, [dint m, .ref 5 [] 1 0 n]⟩)]) (fun j => j ≤ n - i) (fun j => n - j) (0) ?_ ?_ ?_
   · omega
   · conv => whnf
     first | refine WeakS.autoR ?_ | refine Weak.autoR ?_
     conv => whnf
     repeat' ((first | refine z1 ?_ | refine zV ?_ | refine And.intro ?_ ?_ | exact trivial) <;> try (conv => whnf))
   intro j hj
   conv => whnf
   repeat' first | ((first | (apply zI; refine zP (vSrL i (by first | (simp [place]; done) | (simp [place]; omega)) vAr) ?_) | (apply zI; refine zP (vSrG i (by first | (simp [place]; done) | (simp [place]; omega)) vAr) ?_) | (apply zI; refine zP (vSrL j (by first | (simp [place]; done) | (simp [place]; omega)) vAr) ?_) | (apply zI; refine zP (vSrG j (by first | (simp [place]; done) | (simp [place]; omega)) vAr) ?_) | (apply zI; refine zP (c_times hm _ _ n vAr (pw a i) (pw b j)) ?_) | (apply zI; refine zP (c_scaled hm _ n vAr _ _) ?_) | (apply zI; refine zP (c_plus hm _ _ n vAr _ _) ?_) | (refine And.intro (fun h => ?_) (fun h => ?_) <;> (try simp only [cnt1, ints_length] at h)) | refine zS ?_ | refine zV ?_ | (apply zI; refine zP vObx ?_) | refine And.intro (vSrIx vAr) ?_ | refine Alt.fst ?_ | refine Or.inl ?_) <;> conv => whnf) | fail
   · refine Exists.intro (j + 1) (And.intro vAr (And.intro vAr ?_))
     first | refine WeakS.autoR ?_ | refine Weak.autoR ?_
     conv => whnf
     repeat' ((first | refine z1 ?_ | refine zV ?_ | refine And.intro ?_ ?_ | exact trivial) <;> try (conv => whnf))
     refine ints_congr' (L_congr (Ag.of_eq ?_))
     rw [putP_step, Zm.mk_val]
   · have he := Zm.val_eq_zero.1 (Classical.not_not.1 h)
     refine Exists.intro (j + 1) (And.intro vAr (And.intro vAr ?_))
     first | refine WeakS.autoR ?_ | refine Weak.autoR ?_
     conv => whnf
     repeat' ((first | refine z1 ?_ | refine zV ?_ | refine And.intro ?_ ?_ | exact trivial) <;> try (conv => whnf))
     exact ints_congr' (L_congr (Ag.of_eq (putP_skip f a b n i j he).symm))
   · have hji : j = n - i := by simp only [L_length] at *; omega
     refine Exists.intro (i + 1) (And.intro vAr (And.intro vAr ?_))
     first | refine WeakS.autoR ?_ | refine Weak.autoR ?_
     conv => whnf
     repeat' ((first | refine z1 ?_ | refine zV ?_ | refine And.intro ?_ ?_ | exact trivial) <;> try (conv => whnf))
     exact ints_congr' (L_congr (Ag.of_eq (putP_row f a b hji)))
 · exact congrArg (fun x => D.agg [dint m, .list true 1 (ints (L n x))]) (by rw [show i = n by simp only [rows_length, Tb_length] at *; omega]; rfl)
theorem c_l02Add (hm : Md m) (o o' : Bool) (n : Nat) (hn : n ≤ 100) (a b : PS (Zm m)) : PureCall Tryz.prog 431 [dint m, LD o n a, LD o' n b] (LD true n (a + b)) := by
 have hm1 := hm.1
 have hm2 := hm.2
 refine pure_of_vcR Tryz.tabOk mixOrd Tryz.func431 rfl rfl ?_
 conv => whnf
 repeat' first | ((first | refine z0 ?_ | (refine And.intro (fun h => ?_) (fun h => ?_) <;> (try simp only [cnt1, ints_length] at h)) | refine zS ?_ | refine zV ?_ | (apply zI; refine zP vObt ?_) | (apply zI; refine zP vObx ?_) | refine zA ?_ | refine Alt.fst ?_ | refine Or.inl ?_) <;> conv => whnf) | fail
 refine loop_atR Tryz.tabOk mixOrd (α := Nat) (fun i => [(8, dint i), (7, .ref 0 [] 1 0 i), (9, .undef)]) (fun i => [(0, some ⟨false, 1, ints (L i (a + b))⟩)]) (fun i => i ≤ n) (fun i => n - i) (0) ?_ ?_ ?_
 · omega
 · conv => whnf
   first | refine WeakS.autoR ?_ | refine Weak.autoR ?_
   conv => whnf
   repeat' ((first | refine z1 ?_ | refine zV ?_ | refine And.intro ?_ ?_ | exact trivial) <;> try (conv => whnf))
 intro i hi
 conv => whnf
 have h1 := Zm.val_range hm.pos (a.c i)
 have h2 := Zm.val_range hm.pos (b.c i)
 repeat' first | ((first | refine z0 ?_ | (refine And.intro (fun h => ?_) (fun h => ?_) <;> (try simp only [cnt1, ints_length] at h)) | refine zS ?_ | refine zV ?_ | (apply zI; refine zP vObt ?_) | (apply zI; refine zP vObx ?_) | refine zA ?_ | refine Alt.fst ?_ | refine Or.inl ?_) <;> conv => whnf) | fail
 · refine Exists.intro (i + 1) (And.intro vAr (And.intro vAr ?_))
   first | refine WeakS.autoR ?_ | refine Weak.autoR ?_
   conv => whnf
   repeat' ((first | refine z1 ?_ | refine zV ?_ | refine And.intro ?_ ?_ | exact trivial) <;> try (conv => whnf))
   exact ints_congr' (L_push (tm_add hm _ _))
 · rw [show i = n by simp only [L_length] at *; omega]
theorem c_l01Own (o : Bool) (l : List Int) (hl : l.length ≤ 1048576) : PureCall Tryz.prog 200 [.list o 1 (ints l)] (.list true 1 (ints l)) := by
 refine pure_of_vcR Tryz.tabOk mixOrd Tryz.func200 rfl rfl ?_
 conv => whnf
 repeat' first | ((first | refine z0 ?_ | (refine And.intro (fun h => ?_) (fun h => ?_) <;> (try simp only [cnt1, ints_length] at h)) | refine zS ?_ | refine zV ?_ | (apply zI; refine zP vObt ?_) | (apply zI; refine zP vObx ?_) | refine zA ?_ | refine Alt.fst ?_ | refine Or.inl ?_) <;> conv => whnf) | fail
 rfl
theorem c_l02Scale (hm : Md m) (o : Bool) (n : Nat) (hn : n ≤ 100) (z : Zm m) (a : PS (Zm m)) : PureCall Tryz.prog 245 [dint m, dint z.val, LD o n a] (LD true n (PS.C z * a)) := by
 have hm1 := hm.1
 have hm2 := hm.2
 refine pure_of_vcR Tryz.tabOk mixOrd Tryz.func245 rfl rfl ?_
 conv => whnf
 repeat' first | ((first | refine z0 ?_ | (refine And.intro (fun h => ?_) (fun h => ?_) <;> (try simp only [cnt1, ints_length] at h)) | refine zS ?_ | refine zV ?_ | (apply zI; refine zP vObt ?_) | (apply zI; refine zP vObx ?_) | refine zA ?_ | refine Alt.fst ?_ | refine Or.inl ?_) <;> conv => whnf) | fail
 refine loop_atR Tryz.tabOk mixOrd (α := Nat) (fun i => [(8, dint i), (7, .ref 0 [] 1 0 i), (9, .undef)]) (fun i => [(0, some ⟨false, 1, ints (L i (PS.C z * a))⟩)]) (fun i => i ≤ n) (fun i => n - i) (0) ?_ ?_ ?_
 · omega
 · conv => whnf
   first | refine WeakS.autoR ?_ | refine Weak.autoR ?_
   conv => whnf
   repeat' ((first | refine z1 ?_ | refine zV ?_ | refine And.intro ?_ ?_ | exact trivial) <;> try (conv => whnf))
 intro i hi
 conv => whnf
 have h1 := hm.mul z (a.c i)
 repeat' first | ((first | refine z0 ?_ | (refine And.intro (fun h => ?_) (fun h => ?_) <;> (try simp only [cnt1, ints_length] at h)) | refine zS ?_ | refine zV ?_ | (apply zI; refine zP vObt ?_) | (apply zI; refine zP vObx ?_) | refine zA ?_ | refine Alt.fst ?_ | refine Or.inl ?_) <;> conv => whnf) | fail
 · refine Exists.intro (i + 1) (And.intro vAr (And.intro vAr ?_))
   first | refine WeakS.autoR ?_ | refine Weak.autoR ?_
   conv => whnf
   repeat' ((first | refine z1 ?_ | refine zV ?_ | refine And.intro ?_ ?_ | exact trivial) <;> try (conv => whnf))
   exact ints_congr' (L_push (by rw [tm_mul hm, PS.C_mul]))
 · rw [show i = n by simp only [L_length] at *; omega]
def pwr (n : Nat) (a : PS (Zm m)) (k : Nat) : List (List Int) := (List.range k).map fun i => L n (pw a i)
@[simp] theorem pwr_length (n : Nat) (a : PS (Zm m)) (k : Nat) : (pwr n a k).length = k := by simp [pwr]
theorem pwr_getD {n k i : Nat} {a : PS (Zm m)} (h : i < k) : (pwr n a k).getD i [] = L n (pw a i) := by simp [pwr, h]
theorem pwr_push {n k : Nat} {a : PS (Zm m)} {l : List Int} (h : l = L n (pw a k)) : pwr n a k ++ [l] = pwr n a (k + 1) := by subst h; simp [pwr, List.range_succ]
theorem vPwlen {n q k : Nat} {a : PS (Zm m)} (h : q = k) : q = (rows true (pwr n a k)).length := by rw [rows_length, pwr_length]; exact h
theorem vPwIx {n k i : Nat} {a : PS (Zm m)} (h : i < k) : 0 ≤ (i : Int) ∧ (i : Int) < (cnt 1 (rows true (pwr n a k)) : Nat) := by rw [cnt1, rows_length, pwr_length]; omega
theorem one_ints (cs : List D) : ∀ d ∈ [D.list true 1 cs], d.one = true := fun d hd => by
 simp only [List.mem_cons, List.not_mem_nil, or_false] at hd
 subst hd; rfl
theorem vPwL {n k q : Nat} {a : PS (Zm m)} (i : Nat) (e : q = i) (h : i < k) : LoadRow (rows true (pwr n a k)) [] q (.list true 1 (ints (L n (pw a i)))) := by
 subst e
 refine ⟨_, rfl, ?_⟩
 rw [rows_get (by simpa using h), pwr_getD h]
theorem vPwG {n k q : Nat} {a : PS (Zm m)} (i : Nat) (e : q = i) (h : i < k) : getB (rows true (pwr n a k)) ([] ++ [q]) = some (ints (L n (pw a i))) := by
 subst e
 rw [List.nil_append, getB_rows (by simpa using h), pwr_getD h]
theorem c_l03Powers (hm : Md m) (o : Bool) (n : Nat) (hn : 1 ≤ n ∧ n ≤ 100) (a : PS (Zm m)) : PureCall Tryz.prog 432 [dint m, LD o n a] (.list true 1 (rows true (pwr n a n))) := by
 have hm1 := hm.1
 have hm2 := hm.2
 refine pure_of_vcR Tryz.tabOk mixOrd Tryz.func432 rfl rfl ?_
 conv => whnf
 repeat' first | ((first | refine z0 ?_ | (refine And.intro (fun h => ?_) (fun h => ?_) <;> (try simp only [cnt1, ints_length] at h)) | refine zS ?_ | refine zV ?_ | (apply zI; refine zP vObt ?_) | (apply zI; refine zP vObx ?_) | refine zA ?_ | refine Alt.fst ?_ | refine Or.inl ?_) <;> conv => whnf) | fail
 refine loop_atR Tryz.tabOk mixOrd (α := Nat) (fun i => [(8, dint i), (7, .ref 1 [] 1 0 (i + 1)), (6, .undef), (14, .undef), (15, .undef), (16, .undef), (17, .undef), (18, .undef)]) (fun i => [(1, some ⟨false, 1, rows true (pwr n a (i + 1))⟩)]) (fun i => i + 1 ≤ n) (fun i => n - i) (0) ?_ ?_ ?_
 · omega
 · conv => whnf
   first | refine WeakS.autoR ?_ | refine Weak.autoR ?_
   conv => whnf
   repeat' ((first | refine z1 ?_ | refine zV ?_ | refine And.intro ?_ ?_ | exact trivial) <;> try (conv => whnf))
   all_goals
     rw [← L_zero (m := m)]
     refine congrArg (fun x => [D.list true 1 x]) (ints_congr' (L_set_eq (1 : Zm m) (Zm.val_one (by omega)).symm (fun k hk => ?_)))
     rw [upd_c]; rfl
 intro i hi
 conv => whnf
 repeat' first | ((first | refine z0 ?_ | (apply zI; refine zP (vPwL i vIx vAr) ?_) | (apply zI; refine zP (vPwG i vIx vAr) ?_) | (apply zI; refine zP (c_l02Times hm _ _ n n n vAr (by omega) (by omega) (by omega) (by omega) (by omega) (pw a i) a) ?_) | (refine And.intro (fun h => ?_) (fun h => ?_) <;> (try simp only [cnt1, ints_length] at h)) | refine zV ?_ | (apply zI; refine zP vObx ?_) | refine And.intro (vPwlen (by omega)) ?_ | refine Or.inl ?_) <;> conv => whnf) | fail
 · refine Exists.intro (i + 1) (And.intro vAr (And.intro vAr ?_))
   first | refine WeakS.autoR ?_ | refine Weak.autoR ?_
   conv => whnf
   repeat' ((first | refine z1 ?_ | refine zV ?_ | refine And.intro ?_ ?_ | exact trivial) <;> try (conv => whnf))
   exact rows_congr (pwr_push rfl)
 · rw [show i + 1 = n by simp only [L_length] at *; omega]
theorem c_l03Put (hm : Md m) (o p o' o2 : Bool) (n : Nat) (hn : 1 ≤ n ∧ n ≤ 100) (f : PS (PS (Zm m))) (a b : PS (Zm m)) : PureCall Tryz.prog 358 [dint m, TbD o p n f, LD o' n a, LD o2 n b] (LD true n (putS f a b n)) := by
 have hm1 := hm.1
 have hm2 := hm.2
 refine pure_of_vcR Tryz.tabOk mixOrd Tryz.func358 rfl rfl ?_
 conv => whnf
 repeat' first | ((first | (apply zI; refine zP (c_l03Powers hm _ n vAr _) ?_) | refine zS ?_ | refine zV ?_ | (apply zI; refine zP vObx ?_) | refine Alt.fst ?_ | refine Or.inl ?_) <;> conv => whnf) | fail
 refine loop_atR Tryz.tabOk mixOrd (α := Nat) (fun i => [(13, dint i), (12, .ref 2 [] 1 0 n), (26, .undef)]) (fun i => [(2, some ⟨false, 1, ints (L n (putP f a b n i 0))⟩)]) (fun i => i ≤ n) (fun i => n - i) (0) ?_ ?_ ?_
 · omega
 · conv => whnf
   first | refine WeakS.autoR ?_ | refine Weak.autoR ?_
   conv => whnf
   repeat' ((first | refine z1 ?_ | refine zV ?_ | refine And.intro ?_ ?_ | exact trivial) <;> try (conv => whnf))
   all_goals (rw [putP_zero, L_zero, show ((n : Int) - 1 + 1).toNat = n by omega])
 intro i hi
 conv => whnf
 repeat' first | ((first | refine z0 ?_ | (refine And.intro (fun h => ?_) (fun h => ?_) <;> (try simp only [cnt1, ints_length] at h)) | refine zS ?_ | refine zV ?_ | (apply zI; refine zP vObt ?_) | (apply zI; refine zP vObx ?_) | refine zA ?_ | refine Alt.fst ?_ | refine Or.inl ?_) <;> conv => whnf) | fail
 · refine loop_atR Tryz.tabOk mixOrd (α := Nat) (fun j => [(14, dint j), (12, .ref 2 [] 1 0 n), (26, .undef)]) (fun j => [(2, some ⟨false, 1, ints (L n (putP f a b n i j))⟩)]) (fun j => j ≤ n - i) (fun j => n - j) (0) ?_ ?_ ?_
   · omega
   · conv => whnf
     first | refine WeakS.autoR ?_ | refine Weak.autoR ?_
     conv => whnf
     repeat' ((first | refine z1 ?_ | refine zV ?_ | refine And.intro ?_ ?_ | exact trivial) <;> try (conv => whnf))
   intro j hj
   conv => whnf
   repeat' first | ((first | (apply zI; refine zP (vPwL i vIx vAr) ?_) | (apply zI; refine zP (vPwG i vIx vAr) ?_) | (apply zI; refine zP (vPwL j vIx vAr) ?_) | (apply zI; refine zP (vPwG j vIx vAr) ?_) | (apply zI; refine zP (c_l02Times hm _ _ n n n vAr (by omega) (by omega) (by omega) (by omega) (by omega) (pw a i) (pw b j)) ?_) | (apply zI; refine zP (c_l02Scale hm _ n vAr ((f.c i).c j) _) ?_) | (apply zI; refine zP (c_l02Add hm _ _ n vAr _ _) ?_) | (refine And.intro (fun h => ?_) (fun h => ?_) <;> (try simp only [cnt1, ints_length] at h)) | refine zS ?_ | refine zV ?_ | (apply zI; refine zP vObx ?_) | refine And.intro (vPwIx vAr) ?_ | refine Alt.fst ?_ | refine Or.inl ?_) <;> conv => whnf) | fail
   · refine Exists.intro (j + 1) (And.intro vAr (And.intro vAr ?_))
     first | refine WeakS.autoR ?_ | refine Weak.autoR ?_
     conv => whnf
     repeat' ((first | refine z1 ?_ | refine zV ?_ | refine And.intro ?_ ?_ | exact trivial) <;> try (conv => whnf))
     exact ints_congr' (L_congr (Ag.of_eq (putP_step f a b n i j).symm))
   · have he := Zm.val_eq_zero.1 (Classical.not_not.1 h)
     refine Exists.intro (j + 1) (And.intro vAr (And.intro vAr ?_))
     first | refine WeakS.autoR ?_ | refine Weak.autoR ?_
     conv => whnf
     repeat' ((first | refine z1 ?_ | refine zV ?_ | refine And.intro ?_ ?_ | exact trivial) <;> try (conv => whnf))
     exact ints_congr' (L_congr (Ag.of_eq (putP_skip f a b n i j he).symm))
   · have hji : j = n - i := by simp only [L_length] at *; omega
     refine Exists.intro (i + 1) (And.intro vAr (And.intro vAr ?_))
     first | refine WeakS.autoR ?_ | refine Weak.autoR ?_
     conv => whnf
     repeat' ((first | refine z1 ?_ | refine zV ?_ | refine And.intro ?_ ?_ | exact trivial) <;> try (conv => whnf))
     exact ints_congr' (L_congr (Ag.of_eq (putP_row f a b hji)))
 · exact congrArg (fun x => D.list true 1 (ints (L n x))) (by rw [show i = n by simp only [rows_length, Tb_length] at *; omega]; rfl)
end Go.Proofs
