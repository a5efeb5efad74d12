import Derived.Test.YtndhpcigpghejaaGreatK22
import Derived.Test.YtndhpcigpghejaaGreatKP
import Derived.Test.YtndhpcigpghejaaGreatAlg11
import Derived.Test.YtndhpcigpghejaaGreatVm32
import Derived.Test.YtndhpcigpghejaaGreatK32
namespace Go.Proofs
open Go Go.Vm Go.Fg Go.Fg.PS
set_option maxRecDepth 100000
set_option maxHeartbeats 4000000
set_option linter.unusedSimpArgs false
set_option linter.unusedVariables false
variable {m : Int}
def pls (n : Nat) (f : PS (PS (Zm m))) : Nat → List D
 | 0 => []
 | k + 1 => pls n f k ++ [dint m, .list true 1 (rows true (Tb n (pw f k)))]
@[simp] theorem pls_length (n : Nat) (f : PS (PS (Zm m))) (k : Nat) : (pls n f k).length = 2 * k := by
 induction k with
 | zero => rfl
 | succ k ih => simp only [pls, List.length_append, ih, List.length_cons, List.length_nil]; omega
theorem pls_at (n : Nat) (f : PS (PS (Zm m))) {k i : Nat} (h : i < k) : (pls n f k)[2 * i]? = some (dint m) ∧ (pls n f k)[2 * i + 1]? = some (.list true 1 (rows true (Tb n (pw f i)))) := by
 induction k with
 | zero => omega
 | succ k ih =>
   rcases Nat.lt_or_ge i k with h' | h'
   · simp only [pls]
     rw [List.getElem?_append_left (by simp; omega), List.getElem?_append_left (by simp; omega)]
     exact ih h'
   · have : i = k := by omega
     subst this
     simp only [pls]
     rw [List.getElem?_append_right (by simp), List.getElem?_append_right (by simp), pls_length, show 2 * i - 2 * i = 0 by omega, show 2 * i + 1 - 2 * i = 1 by omega]
     exact ⟨rfl, rfl⟩
theorem pls_cnt (n : Nat) (f : PS (PS (Zm m))) (k : Nat) : cnt 2 (pls n f k) = k := by
 simp [cnt]
theorem vPl {n k q : Nat} {f : PS (PS (Zm m))} (i : Nat) (e : q = 2 * i + 1) (h : i < k) : (pls n f k)[q]? = some (.list true 1 (rows true (Tb n (pw f i)))) := by
 subst e; exact (pls_at n f h).2
theorem vPlSz (n : Nat) (f : PS (PS (Zm m))) (k : Nat) : (0 + cnt 2 (pls n f k)) * 2 ≤ (pls n f k).length := by rw [pls_cnt, pls_length]; omega
theorem sub_pls (n : Nat) (f : PS (PS (Zm m))) (k : Nat) : sub (pls n f k) 2 0 (cnt 2 (pls n f k)) = pls n f k := by
 rw [pls_cnt]
 simp only [sub, Nat.zero_mul, List.drop_zero]
 rw [List.take_of_length_le (by simp; omega)]
def smI (g : Nat → Int) : Nat → Int
 | 0 => 0
 | k + 1 => smI g k + g k
theorem smI_bound {g : Nat → Int} {B : Int} (h : ∀ i, 0 ≤ g i ∧ g i ≤ B) (k : Nat) : 0 ≤ smI g k ∧ smI g k ≤ k * B := by
 induction k with
 | zero => simp [smI]
 | succ k ih =>
   have := h k
   simp only [smI, Int.natCast_add, Int.natCast_one, Int.add_mul, Int.one_mul]
   omega
theorem mk_smI (g : Nat → Zm m) (k : Nat) : Zm.mk m (smI (fun i => (g i).val) k) = sm k g := by
 induction k with
 | zero => rfl
 | succ k ih => simp only [smI, Zm.mk_add, ih, Zm.mk_val, sm_succ]
def lft (f : PS (PS (Zm m))) (n a b c : Nat) : Zm m := sm (n - c) fun i => (f.c i).c c * ((pw f i).c a).c b
def rgt (f : PS (PS (Zm m))) (n a b c : Nat) : Zm m := sm (n - a) fun j => (f.c a).c j * ((pw f j).c b).c c
theorem vPls {n k q : Nat} {f : PS (PS (Zm m))} (i : Nat) (e : q = 2 * i) (h : i < k) : LoadRows (pls n f k) [] q 2 [dint m, .list true 1 (rows true (Tb n (pw f i)))] := by
 subst e
 refine ⟨_, rfl, ?_, rfl⟩
 have h1 := pls_at n f h
 have l1 : 2 * i < (pls n f k).length := by simp; omega
 have l2 : 2 * i + 1 < (pls n f k).length := by simp; omega
 rw [List.getElem?_eq_getElem l1, List.getElem?_eq_getElem l2] at h1
 rw [List.drop_eq_getElem_cons l1, List.drop_eq_getElem_cons l2, Option.some.inj h1.1, Option.some.inj h1.2]
 rfl
theorem vPlsG {n k q : Nat} {f : PS (PS (Zm m))} (i : Nat) (e : q = 2 * i + 1) (h : i < k) : getB (pls n f k) ([] ++ [q]) = some (rows true (Tb n (pw f i))) := by
 subst e
 show (match (pls n f k)[2 * i + 1]? with | some (.list true _ cs') => getB cs' [] | _ => none) = _
 rw [(pls_at n f h).2]
 rfl
theorem vPlen {n k q : Nat} {f : PS (PS (Zm m))} (h : q = 2 * k) : q = (pls n f k).length := by rw [pls_length]; exact h
theorem pls_one (x : Value) (cs : List D) (h : D.one (.lit x) = true := by rfl) : ∀ d ∈ [D.lit x, D.list true 1 cs], d.one = true := fun d hd => by
 simp only [List.mem_cons, List.not_mem_nil, or_false] at hd
 rcases hd with rfl | rfl
 · exact h
 · rfl
theorem pls_plain (n : Nat) (f : PS (PS (Zm m))) (k : Nat) : ∀ x ∈ pls n f k, PlainD x := by
 induction k with
 | zero => intro x hx; simp [pls] at hx
 | succ k ih =>
   intro x hx
   simp only [pls, List.mem_append, List.mem_cons, List.not_mem_nil, or_false] at hx
   rcases hx with hx | rfl | rfl
   · exact ih x hx
   · exact .lit _
   · exact .list _ _ (rows_plain _)
theorem vRoom32 {n : Nat} (h : n ≤ 1000000) : roomOk n 32 := ⟨by omega, by omega⟩
theorem c_powersP (hm : Md m) (o p : Bool) (n : Nat) (hn : 1 ≤ n ∧ n ≤ 100) (f : PS (PS (Zm m))) : PureCall Tryz.prog 429 [PlD m o p n f] (.list true 2 (pls n f n)) := by
 have hm1 := hm.1
 have hm2 := hm.2
 refine pure_of_vcR Tryz.tabOk mixOrd Tryz.func429 rfl rfl ?_
 conv => whnf
 repeat' first | ((first | (apply zI; refine zP (c_degreeP _ _ _ vAr _) ?_) | (apply zI; refine zP (c_number hm _ _ n vAr _ _) ?_) | refine zV ?_ | refine Or.inl ?_) <;> conv => whnf) | fail
 refine loop_atR Tryz.tabOk mixOrd (α := Nat) (fun i => [(9, dint i), (3, .ref 3 [] 2 0 (i + 1)), (5, .undef), (6, .undef)]) (fun i => [(3, some ⟨false, 2, pls n f (i + 1)⟩)]) (fun i => i + 1 ≤ n) (fun i => n - i) (0) ?_ ?_ ?_
 · omega
 · conv => whnf
   first | refine WeakS.autoR ?_ | refine Weak.autoR ?_
   conv => whnf
   repeat' ((first | refine z1 ?_ | refine And.intro ?_ ?_ | exact trivial) <;> try (conv => whnf))
 intro i hi
 conv => whnf
 repeat' first | ((first | refine z0 ?_ | (apply zI; refine zP (vPls i (by simp [place]; try omega) vAr) ?_) | (apply zI; refine zP (vPlsG i (by simp [place]; try omega) vAr) ?_) | (apply zI; refine zP (c_timesP hm _ _ _ _ n vAr (pw f i) f) ?_) | (refine And.intro (fun h => ?_) (fun h => ?_) <;> (try simp only [cnt1, ints_length] at h)) | refine zS ?_ | refine zV ?_ | (apply zI; refine zP vObt ?_) | (apply zI; refine zP vObx ?_) | refine And.intro (vRoom32 vAr) ?_ | refine And.intro (vPlen (by omega)) ?_ | refine And.intro (pls_one _ _) ?_ | refine And.intro (pls_plain _ _ _) ?_ | refine Alt.fst ?_ | refine Or.inl ?_) <;> conv => whnf) | fail
 · refine Exists.intro (i + 1) (And.intro vAr (And.intro vAr ?_))
   first | refine WeakS.autoR ?_ | refine Weak.autoR ?_
   conv => whnf
   repeat' ((first | refine z1 ?_ | refine And.intro ?_ ?_ | exact trivial) <;> try (conv => whnf))
 · rw [show i + 1 = n by omega]
theorem c_defects (hm : Md m) (o p o2 : Bool) (n : Nat) (hn : 1 ≤ n ∧ n ≤ 100) (f : PS (PS (Zm m))) (a b c : Nat) (h : a + b + c < n) : PureCall Tryz.prog 430 [dint a, dint b, dint c, .cptr [dint (n - 1)] 0, .cptr [dint m, .list o 1 (rows p (Tb n f))] 0, .cptr [.list o2 2 (pls n f n)] 0] (dint (lft f n a b c - rgt f n a b c).val) := by
 have hm1 := hm.1
 have hm2 := hm.2
 have hB1 : ∀ i, 0 ≤ ((f.c i).c c * ((pw f i).c a).c b).val ∧ ((f.c i).c c * ((pw f i).c a).c b).val ≤ 10000 := fun i => by
   have := Zm.val_range hm.pos ((f.c i).c c * ((pw f i).c a).c b); omega
 have hB2 : ∀ j, 0 ≤ ((f.c a).c j * ((pw f j).c b).c c).val ∧ ((f.c a).c j * ((pw f j).c b).c c).val ≤ 10000 := fun j => by
   have := Zm.val_range hm.pos ((f.c a).c j * ((pw f j).c b).c c); omega
 refine pure_of_vcR Tryz.tabOk mixOrd Tryz.func430 rfl rfl ?_
 conv => whnf
 repeat' first | ((first | refine z0 ?_ | (refine And.intro (fun h => ?_) (fun h => ?_) <;> (try simp only [cnt1, ints_length] at h)) | refine zS ?_ | refine zV ?_ | (apply zI; refine zP vObt ?_) | (apply zI; refine zP vObx ?_) | refine zA ?_ | refine Alt.fst ?_ | refine Or.inl ?_) <;> conv => whnf) | fail
 refine loop_atR Tryz.tabOk mixOrd (α := Nat) (fun i => [(12, dint i), (10, dint (smI (fun i => ((f.c i).c c * ((pw f i).c a).c b).val) i))]) (fun i => []) (fun i => i + c ≤ n) (fun i => n - i) (0) ?_ ?_ ?_
 · omega
 · conv => whnf
   first | refine WeakS.autoR ?_ | refine Weak.autoR ?_
   conv => whnf
   repeat' ((first | refine z1 ?_ | refine And.intro ?_ ?_ | exact trivial) <;> try (conv => whnf))
 intro i hi
 conv => whnf
 have hs := smI_bound hB1 i
 have hs1 := hm.mul ((f.c i).c c) (((pw f i).c a).c b)
 have hs2 := tm_mul hm ((f.c i).c c) (((pw f i).c a).c b)
 have hs3 := hB1 i
 repeat' first | ((first | (apply zI; refine zP (vPl i (by simp [place]; omega) vAr) ?_) | (refine And.intro (fun h => ?_) (fun h => ?_) <;> (try simp only [cnt1, ints_length] at h)) | refine zS ?_ | refine zV ?_ | (apply zI; refine zP vObx ?_) | (refine And.intro (⟨vAr, by rw [pls_cnt]; omega⟩) ?_)) <;> conv => whnf) | fail
 · refine Exists.intro (i + 1) (And.intro vAr (And.intro vAr ?_))
   first | refine WeakS.autoR ?_ | refine Weak.autoR ?_
   conv => whnf
   repeat' ((first | refine z1 ?_ | refine And.intro ?_ ?_ | exact trivial) <;> try (conv => whnf))
   simp only [smI, hs2]
 · have hic : i + c = n := vAr
   refine loop_atR Tryz.tabOk mixOrd (α := Nat) (fun j => [(13, dint j), (11, dint (smI (fun j => ((f.c a).c j * ((pw f j).c b).c c).val) j))]) (fun j => []) (fun j => j + a ≤ n) (fun j => n - j) (0) ?_ ?_ ?_
   · omega
   · conv => whnf
     first | refine WeakS.autoR ?_ | refine Weak.autoR ?_
     conv => whnf
     repeat' ((first | refine z1 ?_ | refine And.intro ?_ ?_ | exact trivial) <;> try (conv => whnf))
   intro j hj
   conv => whnf
   have ht := smI_bound hB2 j
   have ht1 := hm.mul ((f.c a).c j) (((pw f j).c b).c c)
   have ht2 := tm_mul hm ((f.c a).c j) (((pw f j).c b).c c)
   have ht3 := hB2 j
   have hs' := smI_bound hB1 i
   repeat' first | ((first | refine z0 ?_ | (apply zI; refine zP (vPl j (by simp [place]; omega) vAr) ?_) | (apply zI; refine zP (c_mod _ _ hm.pos (by omega)) ?_) | (refine And.intro (fun h => ?_) (fun h => ?_) <;> (try simp only [cnt1, ints_length] at h)) | refine zS ?_ | refine zV ?_ | (apply zI; refine zP vObx ?_) | (refine And.intro (⟨vAr, by rw [pls_cnt]; omega⟩) ?_) | refine Or.inl ?_) <;> conv => whnf) | fail
   · refine Exists.intro (j + 1) (And.intro vAr (And.intro vAr ?_))
     first | refine WeakS.autoR ?_ | refine Weak.autoR ?_
     conv => whnf
     repeat' ((first | refine z1 ?_ | refine And.intro ?_ ?_ | exact trivial) <;> try (conv => whnf))
     simp only [smI, ht2]
   · have hja : j + a = n := vAr
     refine congrArg dint (Zm.emod_val ?_)
     rw [Zm.mk_sub, mk_smI, mk_smI, show i = n - c by omega, show j = n - a by omega]
     rfl
theorem one_lst (o : Bool) (sz : Nat) (cs : List D) : ∀ d ∈ [D.list o sz cs], d.one = true := fun d hd => by
 rw [List.mem_singleton.1 hd]; rfl
theorem Tb_take_push (f : PS (PS (Zm m))) {n i : Nat} {l : List Int} (h : i < n) (e : l = L (n - i) (f.c i)) : (Tb n f).take i ++ [l] = (Tb n f).take (i + 1) := by
 subst e
 rw [List.take_add_one, ← Tb_getD f h, List.getD_eq_getElem?_getD, List.getElem?_eq_getElem (by simpa using h)]; rfl
theorem c_l01OwnB (o : Bool) (l : List Int) (hl : l.length ≤ 1048576) : PureCall Tryz.prog 200 [.list o 1 (ints l)] (.list true 1 (ints l)) := by
 refine pure_of_vcR Tryz.tabOk mixOrd Tryz.func200 rfl rfl ?_
 conv => whnf
 repeat' first | ((first | refine z0 ?_ | (refine And.intro (fun h => ?_) (fun h => ?_) <;> (try simp only [cnt1, ints_length] at h)) | refine zS ?_ | refine zV ?_ | (apply zI; refine zP vObt ?_) | (apply zI; refine zP vObx ?_) | refine zA ?_ | refine Alt.fst ?_ | refine Or.inl ?_) <;> conv => whnf) | fail
 rfl
theorem c_l03Add (hm : Md m) (o p o' p' : Bool) (n : Nat) (hn : 1 ≤ n ∧ n ≤ 100) (f g : PS (PS (Zm m))) : PureCall Tryz.prog 349 [dint m, TbD o p n f, TbD o' p' n g] (TbD true true n (f + g)) := by
 have hT : ∀ i, i < n → (Tb n (f + g)).take i ++ [L (n - i) (f.c i + g.c i)] = (Tb n (f + g)).take (i + 1) := fun i hi => Tb_take_push _ hi rfl
 refine pure_of_vcR Tryz.tabOk mixOrd Tryz.func349 rfl rfl ?_
 conv => whnf
 repeat' first | ((first | refine z0 ?_ | (refine And.intro (fun h => ?_) (fun h => ?_) <;> (try simp only [cnt1, ints_length] at h)) | refine zS ?_ | refine zV ?_ | (apply zI; refine zP vObt ?_) | (apply zI; refine zP vObx ?_) | refine zA ?_ | refine Alt.fst ?_ | refine Or.inl ?_) <;> conv => whnf) | fail
 refine loop_atR Tryz.tabOk mixOrd (α := Nat) (fun i => [(8, dint i), (7, .ref 0 [] 1 0 i), (9, .undef), (16, .undef)]) (fun i => [(0, some ⟨false, 1, rows true ((Tb n (f + g)).take i)⟩)]) (fun i => i ≤ n) (fun i => n - i) (0) ?_ ?_ ?_
 · omega
 · conv => whnf
   first | refine WeakS.autoR ?_ | refine Weak.autoR ?_
   conv => whnf
   repeat' ((first | refine z1 ?_ | refine And.intro ?_ ?_ | exact trivial) <;> try (conv => whnf))
 intro i hi
 conv => whnf
 repeat' first | ((first | refine z0 ?_ | (apply zI; refine zP (c_l02Add hm _ _ (n - i) (by omega) (f.c i) (g.c i)) ?_) | (refine And.intro (fun h => ?_) (fun h => ?_) <;> (try simp only [cnt1, ints_length] at h)) | refine zS ?_ | refine zV ?_ | (apply zI; refine zP vObx ?_) | (refine And.intro ((by simp; omega)) ?_) | refine Alt.fst ?_ | refine Or.inl ?_) <;> conv => whnf) | fail
 · refine Exists.intro (i + 1) (And.intro vAr (And.intro vAr ?_))
   first | refine WeakS.autoR ?_ | refine Weak.autoR ?_
   conv => whnf
   repeat' ((first | refine z1 ?_ | refine And.intro ?_ ?_ | exact trivial) <;> try (conv => whnf))
   exact rows_congr (hT i vAr)
 · have e : i = n := vAr
   subst e
   exact congrArg (D.list true 1) (rows_congr (List.take_of_length_le (by simp)))
theorem c_l03Scale (hm : Md m) (o p : Bool) (n : Nat) (hn : 1 ≤ n ∧ n ≤ 100) (z : Zm m) {Z : Int} (hZ : Z = z.val) (f : PS (PS (Zm m))) : PureCall Tryz.prog 350 [dint m, dint Z, TbD o p n f] (TbD true true n (PS.C (PS.C z) * f)) := by
 subst hZ
 have hT : ∀ i, i < n → (Tb n (PS.C (PS.C z) * f)).take i ++ [L (n - i) (PS.C z * f.c i)] = (Tb n (PS.C (PS.C z) * f)).take (i + 1) := fun i hi => Tb_take_push _ hi (by rw [C_mul])
 refine pure_of_vcR Tryz.tabOk mixOrd Tryz.func350 rfl rfl ?_
 conv => whnf
 repeat' first | ((first | refine z0 ?_ | (refine And.intro (fun h => ?_) (fun h => ?_) <;> (try simp only [cnt1, ints_length] at h)) | refine zS ?_ | refine zV ?_ | (apply zI; refine zP vObt ?_) | (apply zI; refine zP vObx ?_) | refine zA ?_ | refine Alt.fst ?_ | refine Or.inl ?_) <;> conv => whnf) | fail
 refine loop_atR Tryz.tabOk mixOrd (α := Nat) (fun i => [(8, dint i), (7, .ref 0 [] 1 0 i), (9, .undef), (16, .undef)]) (fun i => [(0, some ⟨false, 1, rows true ((Tb n (PS.C (PS.C z) * f)).take i)⟩)]) (fun i => i ≤ n) (fun i => n - i) (0) ?_ ?_ ?_
 · omega
 · conv => whnf
   first | refine WeakS.autoR ?_ | refine Weak.autoR ?_
   conv => whnf
   repeat' ((first | refine z1 ?_ | refine And.intro ?_ ?_ | exact trivial) <;> try (conv => whnf))
 intro i hi
 conv => whnf
 repeat' first | ((first | refine z0 ?_ | (apply zI; refine zP (c_l02Scale hm _ (n - i) (by omega) z (f.c i)) ?_) | (refine And.intro (fun h => ?_) (fun h => ?_) <;> (try simp only [cnt1, ints_length] at h)) | refine zV ?_ | (apply zI; refine zP vObx ?_) | (refine And.intro ((by simp; omega)) ?_) | refine Or.inl ?_) <;> conv => whnf) | fail
 · refine Exists.intro (i + 1) (And.intro vAr (And.intro vAr ?_))
   first | refine WeakS.autoR ?_ | refine Weak.autoR ?_
   conv => whnf
   repeat' ((first | refine z1 ?_ | refine And.intro ?_ ?_ | exact trivial) <;> try (conv => whnf))
   exact rows_congr (hT i vAr)
 · have e : i = n := vAr
   subst e
   exact congrArg (D.list true 1) (rows_congr (List.take_of_length_le (by simp)))
theorem c_l03Cut (o p : Bool) (n k : Nat) {d : Int} (hd : d + 1 = k) (hk : k ≤ n) (hn : n ≤ 100) (f : PS (PS (Zm m))) : PureCall Tryz.prog 359 [TbD o p n f, dint d] (TbD true true k f) := by
 have hT : ∀ i, i < k → (Tb k f).take i ++ [L (k - i) (f.c i)] = (Tb k f).take (i + 1) := fun i hi => Tb_take_push _ hi rfl
 have hd2 : d = (k : Int) - 1 := by omega
 subst hd2
 refine pure_of_vcR Tryz.tabOk mixOrd Tryz.func359 rfl rfl ?_
 conv => whnf
 repeat' first | ((first | refine z0 ?_ | (refine And.intro (fun h => ?_) (fun h => ?_) <;> (try simp only [cnt1, ints_length] at h)) | refine zS ?_ | refine zV ?_ | (apply zI; refine zP vObt ?_) | (apply zI; refine zP vObx ?_) | refine zA ?_ | refine Alt.fst ?_ | refine Or.inl ?_) <;> conv => whnf) | fail
 refine loop_atR Tryz.tabOk mixOrd (α := Nat) (fun i => [(6, dint i), (5, .ref 0 [] 1 0 i), (7, .undef), (13, .undef)]) (fun i => [(0, some ⟨false, 1, rows true ((Tb k f).take i)⟩)]) (fun i => i ≤ k) (fun i => k - i) (0) ?_ ?_ ?_
 · omega
 · conv => whnf
   first | refine WeakS.autoR ?_ | refine Weak.autoR ?_
   conv => whnf
   repeat' ((first | refine z1 ?_ | refine And.intro ?_ ?_ | exact trivial) <;> try (conv => whnf))
 intro i hi
 conv => whnf
 repeat' first | ((first | refine z0 ?_ | (apply zI; refine zP (c_l01OwnB _ _ (by rw [L_length]; omega)) ?_) | (refine And.intro (fun h => ?_) (fun h => ?_) <;> (try simp only [cnt1, ints_length] at h) <;> first | (exfalso; omega) | skip) | refine zV ?_ | (apply zI; refine zP vObx ?_) | (refine And.intro ((by simp; omega)) ?_) | refine Or.inl ?_) <;> conv => whnf) | fail
 · have hik : i < k := by omega
   refine Exists.intro (i + 1) (And.intro (by omega) (And.intro (by omega) ?_))
   first | refine WeakS.autoR ?_ | refine Weak.autoR ?_
   conv => whnf
   repeat' ((first | refine z1 ?_ | refine And.intro ?_ ?_ | exact trivial) <;> try (conv => whnf))
   rw [show ((k : Int) - 1 - i + 1).toNat = k - i by omega]
   exact rows_congr (hT i hik)
 · have e : i = k := by omega
   subst e
   exact congrArg (D.list true 1) (rows_congr (List.take_of_length_le (by simp)))
end Go.Proofs
