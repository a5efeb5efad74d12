import Derived.Test.YtndhpcigpghejaaGreatK36
namespace Go.Proofs
open Go Go.Vm Go.Fg Go.Fg.PS
set_option maxRecDepth 100000
set_option maxHeartbeats 4000000
set_option linter.unusedSimpArgs false
set_option linter.unusedVariables false
variable {m : Int}
def duP (f : PS (PS (Zm m))) (a b : PS (Zm m)) (q n i j : Nat) : Zm m :=
 sm i (fun i => sm q fun j => a.c i * b.c j * ((pw f n).c i).c j) + sm j fun j => a.c i * b.c j * ((pw f n).c i).c j
def duS (f : PS (PS (Zm m))) (a b : PS (Zm m)) (q : Nat) : PS (Zm m) := ⟨fun n => duP f a b q n q 0⟩
theorem duP_zero (f : PS (PS (Zm m))) (a b : PS (Zm m)) (q n : Nat) : duP f a b q n 0 0 = 0 := by unfold duP; exact CR.zero_add _
theorem duP_step (f : PS (PS (Zm m))) (a b : PS (Zm m)) (q n i j : Nat) : duP f a b q n i (j + 1) = duP f a b q n i j + a.c i * b.c j * ((pw f n).c i).c j := by
 unfold duP; rw [sm_succ, CR.add_assoc]
theorem duP_row (f : PS (PS (Zm m))) (a b : PS (Zm m)) (q n i : Nat) : duP f a b q n i q = duP f a b q n (i + 1) 0 := by
 unfold duP; rw [sm_succ]; exact (Go.Fg.add_zero _).symm
def duN (f : PS (PS (Zm m))) (a b : PS (Zm m)) (q n i j : Nat) : PS (Zm m) := (mix n (duS f a b q) 0).upd n (duP f a b q n i j)
theorem duN_zero (f : PS (PS (Zm m))) (a b : PS (Zm m)) (q n : Nat) : duN f a b q n 0 0 = mix n (duS f a b q) 0 := by
 ext k
 unfold duN
 rw [upd_c]
 split
 · rename_i h; rw [h, duP_zero, mix_c, if_neg (by omega)]; rfl
 · rfl
theorem duN_end (f : PS (PS (Zm m))) (a b : PS (Zm m)) (q n : Nat) : duN f a b q n q 0 = mix (n + 1) (duS f a b q) 0 := (mix_succ n (duS f a b q) 0).symm
theorem duN_step (f : PS (PS (Zm m))) (a b : PS (Zm m)) (q n i j : Nat) : (duN f a b q n i j).upd n ((duN f a b q n i j).c n + a.c i * b.c j * ((pw f n).c i).c j) = duN f a b q n i (j + 1) := by
 ext k
 unfold duN
 rw [upd_c, upd_c, upd_c, upd_c, if_pos rfl]
 split
 · exact (duP_step _ _ _ _ _ _ _).symm
 · rfl
theorem duN_row (f : PS (PS (Zm m))) (a b : PS (Zm m)) (q n i : Nat) : duN f a b q n i q = duN f a b q n (i + 1) 0 := by
 unfold duN; rw [duP_row]
theorem tbq_cnt (q : Nat) (f : PS (PS (Zm m))) (k : Nat) : cnt 1 (tbq q f k) = k := by rw [cnt1, tbq_length]
theorem vQC {q k a : Nat} {f : PS (PS (Zm m))} (i : Nat) (e : a = i) (h : i < k) : (tbq q f k)[a]? = some (.list true 1 (rows true (sqT q (pw f i)))) := by
 subst e; exact tbq_at h
theorem vQIx {q k i : Nat} {f : PS (PS (Zm m))} (h : i < k) : 0 ≤ (i : Int) ∧ (i : Int) < (cnt 1 (tbq q f k) : Nat) := by rw [tbq_cnt]; omega
theorem vDA {p : Prop} (h : p := by first | omega | (simp only [cnt1, rows_length, sqT_length, sqP_length, setT_length, ints_length, L_length, tbq_length, Tb_length, Nat.mul_one, Nat.zero_add, place1] at *; first | done | omega)) : p := h
theorem pQ_skip {R : Type} [CR R] (f g : PS (PS R)) (i j k l : Nat) (h : (f.c i).c j = 0) : pQ f g i j k l = pP f g i (j + 1) := ext2 (fun a b => by
 rw [pQ_cc]
 split
 · rfl
 · rw [pP_skip f g i j h])
theorem c_dual (hm : Md m) (q : Nat) (hq : 1 ≤ q ∧ q ≤ 100) (oo o1 o2 : Bool) (d3 d4 : D) (f : PS (PS (Zm m))) (a b : PS (Zm m)) : PureCall Tryz.prog 271 [.cptr [dint m, dint q, .list oo 1 (tbq q f q), d3, d4] 0, LD o1 q a, LD o2 q b] (LD true q (duS f a b q)) := by
 have hm1 := hm.1
 have hm2 := hm.2
 refine pure_of_vcR Tryz.tabOk mixOrd Tryz.func271 rfl rfl ?_
 conv => whnf
 repeat' first | ((first | refine z0 ?_ | (refine And.intro (fun h => ?_) (fun h => ?_) <;> (try simp only [cnt1, ints_length] at h)) | refine zS ?_ | refine zV ?_ | (apply zI; refine zP vObt ?_) | (apply zI; refine zP vObx ?_) | refine zA ?_ | refine Alt.fst ?_ | refine Or.inl ?_) <;> conv => whnf) | fail
 refine loop_atR Tryz.tabOk mixOrd (α := Nat) (fun n => [(24, dint n), (9, .undef), (18, .undef)]) (fun n => [(0, some ⟨false, 1, ints (L q (mix n (duS f a b q) 0))⟩)]) (fun n => n ≤ q) (fun n => q - n) (0) ?_ ?_ ?_
 · omega
 · conv => whnf
   first | refine WeakS.autoR ?_ | refine Weak.autoR ?_
   conv => whnf
   repeat' ((first | refine z1 ?_ | refine And.intro ?_ ?_ | exact trivial) <;> try (conv => whnf))
   all_goals rw [mix_zero, L_zero]
 intro n hn
 conv => whnf
 repeat' first | ((first | refine z0 ?_ | (apply zI; refine zP (vQC n vIx vDA) ?_) | (refine And.intro (fun h => ?_) (fun h => ?_) <;> (try simp only [cnt1, ints_length] at h)) | refine zV ?_) <;> conv => whnf) | fail
 · have hn' : n < q := vDA
   refine loop_atR Tryz.tabOk mixOrd (α := Nat) (fun i => [(31, dint i), (11, .undef)]) (fun i => [(0, some ⟨false, 1, ints (L q (duN f a b q n i 0))⟩)]) (fun i => i ≤ q) (fun i => q - i) (0) ?_ ?_ ?_
   · omega
   · conv => whnf
     first | refine WeakS.autoR ?_ | refine Weak.autoR ?_
     conv => whnf
     repeat' ((first | refine z1 ?_ | refine And.intro ?_ ?_ | exact trivial) <;> try (conv => whnf))
     all_goals rw [duN_zero]
   intro i hi
   conv => whnf
   repeat' first | ((first | (apply zI; refine zP (vSqC (i := i) vIx vDA) ?_) | (refine And.intro (fun h => ?_) (fun h => ?_) <;> (try simp only [cnt1, ints_length] at h)) | refine zV ?_) <;> conv => whnf) | fail
   · have hi' : i < q := vDA
     refine loop_atR Tryz.tabOk mixOrd (α := Nat) (fun j => [(38, dint j)]) (fun j => [(0, some ⟨false, 1, ints (L q (duN f a b q n i j))⟩)]) (fun j => j ≤ q) (fun j => q - j) (0) ?_ ?_ ?_
     · omega
     · conv => whnf
       first | refine WeakS.autoR ?_ | refine Weak.autoR ?_
       conv => whnf
       repeat' ((first | refine z1 ?_ | refine And.intro ?_ ?_ | exact trivial) <;> try (conv => whnf))
     intro j hj
     conv => whnf
     have x1 := hm.mul (a.c i) (b.c j)
     have x2 := Zm.val_range hm.pos ((duN f a b q n i j).c n)
     have x3 := tm_mul hm (a.c i) (b.c j)
     have x4 := hm.mul (a.c i * b.c j) (((pw f n).c i).c j)
     rw [← x3] at x4
     repeat' first | ((first | (refine And.intro (fun h => ?_) (fun h => ?_) <;> (try simp only [cnt1, ints_length] at h)) | refine zS ?_ | refine zV ?_ | (apply zI; refine zP vObx ?_)) <;> conv => whnf) | fail
     · refine Exists.intro (j + 1) (And.intro vDA (And.intro vDA ?_))
       first | refine WeakS.autoR ?_ | refine Weak.autoR ?_
       conv => whnf
       repeat' ((first | refine z1 ?_ | refine And.intro ?_ ?_ | exact trivial) <;> try (conv => whnf))
       rw [x3]
       exact ints_congr' (L_set_eq _ (tm_mulA hm _ _ _) (Ag.of_eq (duN_step f a b q n i j)))
     · have hj' : j = q := vDA
       subst hj'
       refine Exists.intro (i + 1) (And.intro vDA (And.intro vDA ?_))
       first | refine WeakS.autoR ?_ | refine Weak.autoR ?_
       conv => whnf
       repeat' ((first | refine z1 ?_ | refine And.intro ?_ ?_ | exact trivial) <;> try (conv => whnf))
       rw [duN_row]
   · have hi' : i = q := vDA
     subst hi'
     refine Exists.intro (n + 1) (And.intro vDA (And.intro vDA ?_))
     first | refine WeakS.autoR ?_ | refine Weak.autoR ?_
     conv => whnf
     repeat' ((first | refine z1 ?_ | refine And.intro ?_ ?_ | exact trivial) <;> try (conv => whnf))
     rw [duN_end]
 · have hn' : q ≤ n := vDA
   exact congrArg (fun x => D.list true 1 (ints x)) (L_congr (fun k hk => by rw [mix_c, if_pos (by omega)]))
theorem c_l17Dual (hm : Md m) (q : Nat) (hq : 1 ≤ q ∧ q ≤ 100) (oo o1 o2 : Bool) (f : PS (PS (Zm m))) (a b : PS (Zm m)) : PureCall Tryz.prog 273 [dint m, .list oo 1 (tbq q f q), LD o1 q a, LD o2 q b] (LD true q (duS f a b q)) := by
 have hm1 := hm.1
 have hm2 := hm.2
 refine pure_of_vcR Tryz.tabOk mixOrd Tryz.func273 rfl rfl ?_
 conv => whnf
 repeat' first | ((first | refine z0 ?_ | (refine And.intro (fun h => ?_) (fun h => ?_) <;> (try simp only [cnt1, ints_length] at h)) | refine zS ?_ | refine zV ?_ | (apply zI; refine zP vObt ?_) | (apply zI; refine zP vObx ?_) | refine zA ?_ | refine Alt.fst ?_ | refine Or.inl ?_) <;> conv => whnf) | fail
 refine loop_atR Tryz.tabOk mixOrd (α := Nat) (fun n => [(10, dint n)]) (fun n => [(0, some ⟨false, 1, ints (L q (mix n (duS f a b q) 0))⟩)]) (fun n => n ≤ q) (fun n => q - n) (0) ?_ ?_ ?_
 · omega
 · conv => whnf
   first | refine WeakS.autoR ?_ | refine Weak.autoR ?_
   conv => whnf
   repeat' ((first | refine z1 ?_ | refine And.intro ?_ ?_ | exact trivial) <;> try (conv => whnf))
   all_goals rw [mix_zero, L_zero]
 intro n hn
 conv => whnf
 repeat' first | ((first | refine z0 ?_ | (refine And.intro (fun h => ?_) (fun h => ?_) <;> (try simp only [cnt1, ints_length] at h)) | refine zS ?_ | refine zV ?_ | (apply zI; refine zP vObt ?_) | (apply zI; refine zP vObx ?_) | refine zA ?_ | refine Alt.fst ?_ | refine Or.inl ?_) <;> conv => whnf) | fail
 · have hn' : n < q := vDA
   refine loop_atR Tryz.tabOk mixOrd (α := Nat) (fun i => [(11, dint i)]) (fun i => [(0, some ⟨false, 1, ints (L q (duN f a b q n i 0))⟩)]) (fun i => i ≤ q) (fun i => q - i) (0) ?_ ?_ ?_
   · omega
   · conv => whnf
     first | refine WeakS.autoR ?_ | refine Weak.autoR ?_
     conv => whnf
     repeat' ((first | refine z1 ?_ | refine And.intro ?_ ?_ | exact trivial) <;> try (conv => whnf))
     all_goals rw [duN_zero]
   intro i hi
   conv => whnf
   repeat' first | ((first | refine z0 ?_ | (refine And.intro (fun h => ?_) (fun h => ?_) <;> (try simp only [cnt1, ints_length] at h)) | refine zS ?_ | refine zV ?_ | (apply zI; refine zP vObt ?_) | (apply zI; refine zP vObx ?_) | refine zA ?_ | refine Alt.fst ?_ | refine Or.inl ?_) <;> conv => whnf) | fail
   · have hi' : i < q := vDA
     refine loop_atR Tryz.tabOk mixOrd (α := Nat) (fun j => [(12, dint j)]) (fun j => [(0, some ⟨false, 1, ints (L q (duN f a b q n i j))⟩)]) (fun j => j ≤ q) (fun j => q - j) (0) ?_ ?_ ?_
     · omega
     · conv => whnf
       first | refine WeakS.autoR ?_ | refine Weak.autoR ?_
       conv => whnf
       repeat' ((first | refine z1 ?_ | refine And.intro ?_ ?_ | exact trivial) <;> try (conv => whnf))
     intro j hj
     conv => whnf
     have x1 := hm.mul (a.c i) (b.c j)
     have x2 := Zm.val_range hm.pos ((duN f a b q n i j).c n)
     have x3 := tm_mul hm (a.c i) (b.c j)
     have x4 := hm.mul (a.c i * b.c j) (((pw f n).c i).c j)
     rw [← x3] at x4
     repeat' first | ((first | (apply zI; refine zP (vQC n vIx vDA) ?_) | (apply zI; refine zP (vSqC (i := i) vIx vDA) ?_) | (refine And.intro (fun h => ?_) (fun h => ?_) <;> (try simp only [cnt1, ints_length] at h)) | refine zS ?_ | refine zV ?_ | (apply zI; refine zP vObx ?_) | refine And.intro (vQIx vDA) ?_ | refine And.intro (sqIx vDA) ?_) <;> conv => whnf) | fail
     · refine Exists.intro (j + 1) (And.intro vDA (And.intro vDA ?_))
       first | refine WeakS.autoR ?_ | refine Weak.autoR ?_
       conv => whnf
       repeat' ((first | refine z1 ?_ | refine And.intro ?_ ?_ | exact trivial) <;> try (conv => whnf))
       rw [x3]
       exact ints_congr' (L_set_eq _ (tm_mulA hm _ _ _) (Ag.of_eq (duN_step f a b q n i j)))
     · have hj' : j = q := vDA
       subst hj'
       refine Exists.intro (i + 1) (And.intro vDA (And.intro vDA ?_))
       first | refine WeakS.autoR ?_ | refine Weak.autoR ?_
       conv => whnf
       repeat' ((first | refine z1 ?_ | refine And.intro ?_ ?_ | exact trivial) <;> try (conv => whnf))
       rw [duN_row]
   · have hi' : i = q := vDA
     subst hi'
     refine Exists.intro (n + 1) (And.intro vDA (And.intro vDA ?_))
     first | refine WeakS.autoR ?_ | refine Weak.autoR ?_
     conv => whnf
     repeat' ((first | refine z1 ?_ | refine And.intro ?_ ?_ | exact trivial) <;> try (conv => whnf))
     rw [duN_end]
 · have hn' : q ≤ n := vDA
   exact congrArg (fun x => D.list true 1 (ints x)) (L_congr (fun k hk => by rw [mix_c, if_pos (by omega)]))
theorem c_l17Square (o p : Bool) (N q : Nat) (hq : 1 ≤ q ∧ 2 * (q - 1) + 1 ≤ N ∧ N ≤ 100) (f : PS (PS (Zm m))) {Q : Int} (hQ : Q = q) : PureCall Tryz.prog 311 [PlD m o p N f, dint Q] (SqD true true q f) := by
 subst hQ
 refine pure_of_vcR Tryz.tabOk mixOrd Tryz.func311 rfl rfl ?_
 conv => whnf
 repeat' first | ((first | refine z0 ?_ | (refine And.intro (fun h => ?_) (fun h => ?_) <;> (try simp only [cnt1, ints_length] at h)) | refine zS ?_ | refine zV ?_ | (apply zI; refine zP vObt ?_) | (apply zI; refine zP vObx ?_) | refine zA ?_ | refine Alt.fst ?_ | refine Or.inl ?_) <;> conv => whnf) | fail
 refine loop_atR Tryz.tabOk mixOrd (α := Nat) (fun i => [(6, dint i), (5, .ref 1 [] 1 0 i), (7, .undef)]) (fun i => [(1, some ⟨false, 1, rows true (sqP q i f)⟩)]) (fun i => i ≤ q) (fun i => q - i) (0) ?_ ?_ ?_
 · omega
 · conv => whnf
   first | refine WeakS.autoR ?_ | refine Weak.autoR ?_
   conv => whnf
   repeat' ((first | refine z1 ?_ | refine And.intro ?_ ?_ | exact trivial) <;> try (conv => whnf))
 intro i hi
 conv => whnf
 repeat' first | ((first | refine z0 ?_ | (apply zI; refine zP (c_l01Own _ (L q (f.c i)) (by rw [L_length]; omega)) ?_) | (refine And.intro (fun h => ?_) (fun h => ?_) <;> (try simp only [cnt1, ints_length] at h)) | refine zV ?_ | (apply zI; refine zP vObx ?_) | refine And.intro (vDA) ?_ | refine Or.inl ?_) <;> conv => whnf) | fail
 · refine Exists.intro (i + 1) (And.intro vDA (And.intro vDA ?_))
   first | refine WeakS.autoR ?_ | refine Weak.autoR ?_
   conv => whnf
   repeat' ((first | refine z1 ?_ | refine And.intro ?_ ?_ | exact trivial) <;> try (conv => whnf))
   exact rows_congr (sqP_push rfl)
 · rw [show i = q by omega, sqP_full]
theorem c_l17Times (hm : Md m) (q : Nat) (hq : 1 ≤ q ∧ q ≤ 100) (o p o' p' : Bool) (f g : PS (PS (Zm m))) : PureCall Tryz.prog 396 [dint m, SqD o p q f, SqD o' p' q g] (SqD true true q (f * g)) := by
 have hm1 := hm.1
 have hm2 := hm.2
 refine pure_of_vcR Tryz.tabOk mixOrd Tryz.func396 rfl rfl ?_
 conv => whnf
 repeat' first | ((first | refine z0 ?_ | (refine And.intro (fun h => ?_) (fun h => ?_) <;> (try simp only [cnt1, ints_length] at h)) | refine zS ?_ | refine zV ?_ | (apply zI; refine zP vObt ?_) | (apply zI; refine zP vObx ?_) | refine zA ?_ | refine Alt.fst ?_ | refine Or.inl ?_) <;> conv => whnf) | fail
 refine loop_atR Tryz.tabOk mixOrd (α := Nat) (fun i => [(9, dint i), (8, .ref 0 [] 1 0 i), (17, .undef)]) (fun i => [(0, some ⟨false, 1, rows true (sqP q i (0 : PS (PS (Zm m))))⟩)]) (fun i => i ≤ q) (fun i => q - i) (0) ?_ ?_ ?_
 · omega
 · conv => whnf
   first | refine WeakS.autoR ?_ | refine Weak.autoR ?_
   conv => whnf
   repeat' ((first | refine z1 ?_ | refine And.intro ?_ ?_ | exact trivial) <;> try (conv => whnf))
 intro i hi
 conv => whnf
 repeat' first | ((first | (refine And.intro (fun h => ?_) (fun h => ?_) <;> (try simp only [cnt1, ints_length] at h)) | refine zV ?_ | (apply zI; refine zP vObx ?_) | refine And.intro (vSqA) ?_ | refine And.intro (⟨vSqA, vSqA, vRoom (h3 := vSqA)⟩) ?_) <;> conv => whnf) | fail
 · refine Exists.intro (i + 1) (And.intro vSqA (And.intro vSqA ?_))
   first | refine WeakS.autoR ?_ | refine Weak.autoR ?_
   conv => whnf
   repeat' ((first | refine z1 ?_ | refine And.intro ?_ ?_ | exact trivial) <;> try (conv => whnf))
   exact rows_congr (sqP_push (by simp only [cnt1, rows_length, sqT_length, Int.toNat_natCast]; rw [repl_zero]; rfl))
 · have hiq : i = q := vSqA
   rw [show sqP q i (0 : PS (PS (Zm m))) = sqT q 0 by rw [hiq, sqP_full]]
   refine loop_atR Tryz.tabOk mixOrd (α := Nat) (fun x => [(10, dint x), (13, .undef)]) (fun x => [(0, some ⟨false, 1, rows true (sqT q (pP f g x 0))⟩)]) (fun x => x ≤ q) (fun x => q - x) (0) ?_ ?_ ?_
   · omega
   · conv => whnf
     first | refine WeakS.autoR ?_ | refine Weak.autoR ?_
     conv => whnf
     repeat' ((first | refine z1 ?_ | refine And.intro ?_ ?_ | exact trivial) <;> try (conv => whnf))
     all_goals rw [pP_zero]
   intro x hx
   conv => whnf
   repeat' first | ((first | refine z0 ?_ | (refine And.intro (fun h => ?_) (fun h => ?_) <;> (try simp only [cnt1, ints_length] at h)) | refine zV ?_ | refine And.intro (vSqA) ?_) <;> conv => whnf) | fail
   · have hx' : x < q := vSqA
     refine loop_atR Tryz.tabOk mixOrd (α := Nat) (fun y => [(11, dint y), (13, .undef)]) (fun y => [(0, some ⟨false, 1, rows true (sqT q (pP f g x y))⟩)]) (fun y => y ≤ q) (fun y => q - y) (0) ?_ ?_ ?_
     · omega
     · conv => whnf
       first | refine WeakS.autoR ?_ | refine Weak.autoR ?_
       conv => whnf
       repeat' ((first | refine z1 ?_ | refine And.intro ?_ ?_ | exact trivial) <;> try (conv => whnf))
     intro y hy
     conv => whnf
     repeat' first | ((first | (refine And.intro (fun h => ?_) (fun h => ?_) <;> (try simp only [cnt1, ints_length] at h)) | refine zV ?_) <;> conv => whnf) | fail
     · have hy' : y < q := vSqA
       refine loop_atR Tryz.tabOk mixOrd (α := Nat) (fun k => [(12, dint k), (13, .undef)]) (fun k => [(0, some ⟨false, 1, rows true (sqT q (pQ f g x y k 0))⟩)]) (fun k => x + k ≤ q) (fun k => q - k) (0) ?_ ?_ ?_
       · omega
       · conv => whnf
         first | refine WeakS.autoR ?_ | refine Weak.autoR ?_
         conv => whnf
         repeat' ((first | refine z1 ?_ | refine And.intro ?_ ?_ | exact trivial) <;> try (conv => whnf))
         all_goals rw [pQ_zero]
       intro k hk
       conv => whnf
       repeat' first | ((first | (apply zI; refine zP (vSqC (i := x) vIx vSqA) ?_) | (apply zI; refine zP (vIntsC (l := y) vIx vSqA) ?_) | (apply zI; refine zP (vSqL (i := x + k) vIx vSqA) ?_) | (refine And.intro (fun h => ?_) (fun h => ?_) <;> (try simp only [cnt1, ints_length] at h)) | refine zV ?_) <;> conv => whnf) | fail
       · have hk' : x + k < q := vSqA
         refine loop_atR Tryz.tabOk mixOrd (α := Nat) (fun l => [(14, dint l)]) (fun l => [(0, some ⟨false, 1, rows true (sqT q (pQ f g x y k l))⟩)]) (fun l => y + l ≤ q) (fun l => q - l) (0) ?_ ?_ ?_
         · omega
         · conv => whnf
           first | refine WeakS.autoR ?_ | refine Weak.autoR ?_
           conv => whnf
           repeat' ((first | refine z1 ?_ | refine And.intro ?_ ?_ | exact trivial) <;> try (conv => whnf))
         intro l hll
         conv => whnf
         have hx1 := Zm.val_range hm.pos (((pQ f g x y k l).c (x + k)).c (y + l))
         have hx2 := hm.mul ((f.c x).c y) ((g.c k).c l)
         repeat' first | ((first | (apply zI; refine zP (vSqC (i := x) vIx vSqA) ?_) | (apply zI; refine zP (vSqC (i := k) vIx vSqA) ?_) | (apply zI; refine zP (vIntsC (l := y) vIx vSqA) ?_) | (apply zI; refine zP (vIntsC (l := l) vIx vSqA) ?_) | (apply zI; refine zP (vSqLL (i := x + k) (j := y + l) vIx vIx vSqA vSqA) ?_) | (apply zI; refine zP (vSqStore (i := x + k) (j := y + l) _ vIx vIx vSqA vSqA) ?_) | (refine And.intro (fun h => ?_) (fun h => ?_) <;> (try simp only [cnt1, ints_length] at h)) | refine zS ?_ | refine zV ?_ | refine And.intro (vSqA) ?_) <;> conv => whnf) | fail
         · refine Exists.intro (l + 1) (And.intro vSqA (And.intro vSqA ?_))
           first | refine WeakS.autoR ?_ | refine Weak.autoR ?_
           conv => whnf
           repeat' ((first | refine z1 ?_ | refine And.intro ?_ ?_ | exact trivial) <;> try (conv => whnf))
           exact rows_congr (sq_setT_eq _ (tm_mulA hm _ _ _) vSqA (AgS.of_eq (pQ_step f g x y k l).symm))
         · have hl' : q ≤ y + l := vSqA
           refine Exists.intro (k + 1) (And.intro vSqA (And.intro vSqA ?_))
           first | refine WeakS.autoR ?_ | refine Weak.autoR ?_
           conv => whnf
           repeat' ((first | refine z1 ?_ | refine And.intro ?_ ?_ | exact trivial) <;> try (conv => whnf))
           exact rows_congr (sqT_congr (sq_qrow f g hl'))
       · have h0 := Zm.val_eq_zero.1 (Classical.not_not.1 h)
         refine Exists.intro (y + 1) (And.intro vSqA (And.intro vSqA ?_))
         first | refine WeakS.autoR ?_ | refine Weak.autoR ?_
         conv => whnf
         repeat' ((first | refine z1 ?_ | refine And.intro ?_ ?_ | exact trivial) <;> try (conv => whnf))
         rw [pQ_skip f g x y k 0 h0]
       · have hk' : q ≤ x + k := vSqA
         refine Exists.intro (y + 1) (And.intro vSqA (And.intro vSqA ?_))
         first | refine WeakS.autoR ?_ | refine Weak.autoR ?_
         conv => whnf
         repeat' ((first | refine z1 ?_ | refine And.intro ?_ ?_ | exact trivial) <;> try (conv => whnf))
         exact rows_congr (sqT_congr (sq_qend f g hk'))
     · have hy' : q ≤ y := vSqA
       refine Exists.intro (x + 1) (And.intro vSqA (And.intro vSqA ?_))
       first | refine WeakS.autoR ?_ | refine Weak.autoR ?_
       conv => whnf
       repeat' ((first | refine z1 ?_ | refine And.intro ?_ ?_ | exact trivial) <;> try (conv => whnf))
       exact rows_congr (sqT_congr (sq_row f g hy'))
   · have hx' : q ≤ x := vSqA
     exact congrArg (fun x => D.list true 1 (rows true x)) (sqT_congr (sq_full f g hx'))
end Go.Proofs
