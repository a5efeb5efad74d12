import Derived.Test.YtndhpcigpghejaaGreatK34
import Derived.Test.YtndhpcigpghejaaGreatAlg9
namespace Go.Proofs
open Go Go.Vm Go.Fg Go.Fg.PS
set_option maxRecDepth 100000
set_option maxHeartbeats 4000000
set_option linter.unusedSimpArgs false
set_option linter.unusedVariables false
variable {m : Int}
abbrev SqD (o p : Bool) (q : Nat) (f : PS (PS (Zm m))) : D := .list o 1 (rows p (sqT q f))
theorem sq_rowLen {q i : Nat} {f : PS (PS (Zm m))} (h : i < q) : ((sqT q f).getD i []).length = q := by rw [sqT_getD f h]; simp
theorem vSqStore {q q' k i j : Nat} {f : PS (PS (Zm m))} (x : Int) (e : q' = i) (e2 : k = j) (h : i < q) (h2 : j < q) : StoreRow (rows true (sqT q f)) ([] ++ [q']) k (dint x) (rows true (setT (sqT q f) i j x)) := by
 subst e; subst e2
 exact store_rows x (by simpa using h) (by rw [sq_rowLen h]; exact h2)
theorem vSqL {q q' i : Nat} {o : Bool} {f : PS (PS (Zm m))} (e : q' = i) (h : i < q) : LoadRow (rows o (sqT q f)) [] q' (.list o 1 (ints (L q (f.c i)))) := by
 subst e
 exact ⟨_, rfl, by rw [rows_get (by simpa using h), sqT_getD f h]⟩
theorem vSqC {q q' i : Nat} {o : Bool} {f : PS (PS (Zm m))} (e : q' = i) (h : i < q) : (rows o (sqT q f))[q']? = some (.list o 1 (ints (L q (f.c i)))) := by
 subst e
 rw [rows_get (by simpa using h), sqT_getD f h]
theorem vSqG {q q' i : Nat} {f : PS (PS (Zm m))} (e : q' = i) (h : i < q) : getB (rows true (sqT q f)) ([] ++ [q']) = some (ints (L q (f.c i))) := by
 subst e
 rw [List.nil_append, getB_rows (by simpa using h), sqT_getD f h]
theorem vSqLL {q q' k i j : Nat} {f : PS (PS (Zm m))} (e : q' = i) (e2 : k = j) (h : i < q) (h2 : j < q) : LoadRow (rows true (sqT q f)) ([] ++ [q']) k (dint ((f.c i).c j).val) := by
 subst e2
 exact ⟨_, vSqG e h, by simp [ints, L, h2]⟩
theorem sq_setT_eq {q i j : Nat} {f g : PS (PS (Zm m))} {x : Int} (v : Zm m) (hx : x = v.val) (h : i < q) (ha : AgS q (upd2 f i j v) g) : setT (sqT q f) i j x = sqT q g := by
 subst hx
 unfold setT
 rw [sqT_getD f h, L_set, sqT_set f _ h]
 exact sqT_congr ha
theorem sqIx {q i : Nat} {o : Bool} {f : PS (PS (Zm m))} (h : i < q) : 0 ≤ (i : Int) ∧ (i : Int) < (cnt 1 (rows o (sqT q f)) : Nat) := by rw [cnt1, rows_length, sqT_length]; omega
theorem vIntsC {n k l : Nat} {a : PS (Zm m)} (e : k = l) (h : l < n) : (ints (L n a))[k]? = some (dint (a.c l).val) := by
 subst e; simp [ints, L, h]
theorem vSqA {p : Prop} (h : p := by first | omega | (simp only [cnt1, rows_length, sqT_length, sqP_length, setT_length, ints_length, L_length, Nat.mul_one, Nat.zero_add, place1] at *; first | done | omega)) : p := h
theorem c_square (q : Nat) (hq : q ≤ 100) {Q : Int} (hQ : Q = q) : PureCall Tryz.prog 394 [dint Q] (SqD true true q (0 : PS (PS (Zm m)))) := by
 subst hQ
 refine pure_of_vcR Tryz.tabOk mixOrd Tryz.func394 rfl rfl ?_
 conv => whnf
 repeat' first | ((first | refine z0 ?_ | (refine And.intro (fun h => ?_) (fun h => ?_) <;> (try simp only [cnt1, ints_length] at h)) | refine zS ?_ | refine zV ?_ | (apply zI; refine zP vObt ?_) | (apply zI; refine zP vObx ?_) | refine zA ?_ | refine Alt.fst ?_ | refine Or.inl ?_) <;> conv => whnf) | fail
 refine loop_atR Tryz.tabOk mixOrd (α := Nat) (fun i => [(6, dint i), (3, .ref 0 [] 1 0 i), (4, .undef)]) (fun i => [(0, some ⟨false, 1, rows true (sqP q i (0 : PS (PS (Zm m))))⟩)]) (fun i => i ≤ q) (fun i => q - i) (0) ?_ ?_ ?_
 · omega
 · conv => whnf
   first | refine WeakS.autoR ?_ | refine Weak.autoR ?_
   conv => whnf
   repeat' ((first | refine z1 ?_ | refine And.intro ?_ ?_ | exact trivial) <;> try (conv => whnf))
 intro i hi
 conv => whnf
 repeat' first | ((first | refine z0 ?_ | (refine And.intro (fun h => ?_) (fun h => ?_) <;> (try simp only [cnt1, ints_length] at h)) | refine zV ?_ | (apply zI; refine zP vObx ?_) | refine And.intro (vSqA) ?_) <;> conv => whnf) | fail
 · refine Exists.intro (i + 1) (And.intro vAr (And.intro vAr ?_))
   first | refine WeakS.autoR ?_ | refine Weak.autoR ?_
   conv => whnf
   repeat' ((first | refine z1 ?_ | refine And.intro ?_ ?_ | exact trivial) <;> try (conv => whnf))
   exact rows_congr (sqP_push (by rw [repl_zero]; rfl))
 · rw [show i = q by omega, sqP_full]
theorem c_tableTimes (hm : Md m) (q : Nat) (hq : 1 ≤ q ∧ q ≤ 100) (o p o' p' : Bool) (d2 d3 d4 : D) (f g : PS (PS (Zm m))) : PureCall Tryz.prog 395 [.cptr [dint m, dint q, d2, d3, d4] 0, SqD o p q f, SqD o' p' q g] (SqD true true q (f * g)) := by
 have hm1 := hm.1
 have hm2 := hm.2
 refine pure_of_vcR Tryz.tabOk mixOrd Tryz.func395 rfl rfl ?_
 conv => whnf
 repeat' first | ((first | (apply zI; refine zP (c_square (m := m) q vAr vAr) ?_) | (apply zI; refine zP vObx ?_) | refine Or.inl ?_) <;> conv => whnf) | fail
 refine loop_atR Tryz.tabOk mixOrd (α := Nat) (fun i => [(21, dint i), (9, .undef), (18, .undef)]) (fun i => [(0, some ⟨false, 1, rows true (sqT q (pP f g i 0))⟩)]) (fun i => i ≤ q) (fun i => q - i) (0) ?_ ?_ ?_
 · omega
 · conv => whnf
   first | refine WeakS.autoR ?_ | refine Weak.autoR ?_
   conv => whnf
   repeat' ((first | refine z1 ?_ | refine And.intro ?_ ?_ | exact trivial) <;> try (conv => whnf))
   all_goals rw [pP_zero]
 intro i hi
 conv => whnf
 repeat' first | ((first | refine z0 ?_ | (apply zI; refine zP (vSqC (i := i) vIx (by simp only [rows_length, sqT_length] at *; omega)) ?_) | (refine And.intro (fun h => ?_) (fun h => ?_) <;> (try simp only [cnt1, ints_length] at h)) | refine zV ?_ | refine And.intro (vSqA) ?_) <;> conv => whnf) | fail
 · refine loop_atR Tryz.tabOk mixOrd (α := Nat) (fun j => [(28, dint j)]) (fun j => [(0, some ⟨false, 1, rows true (sqT q (pP f g i j))⟩)]) (fun j => j ≤ q) (fun j => q - j) (0) ?_ ?_ ?_
   · omega
   · conv => whnf
     first | refine WeakS.autoR ?_ | refine Weak.autoR ?_
     conv => whnf
     repeat' ((first | refine z1 ?_ | refine And.intro ?_ ?_ | exact trivial) <;> try (conv => whnf))
   intro j hj
   conv => whnf
   repeat' first | ((first | refine z0 ?_ | (refine And.intro (fun h => ?_) (fun h => ?_) <;> (try simp only [cnt1, ints_length] at h)) | refine zS ?_ | refine zV ?_ | (apply zI; refine zP vObt ?_) | (apply zI; refine zP vObx ?_) | refine zA ?_ | refine Alt.fst ?_ | refine Or.inl ?_) <;> conv => whnf) | fail
   · have hi' : i < q := by simp only [rows_length, sqT_length] at *; omega
     have hj' : j < q := by simp only [L_length] at *; omega
     refine loop_atR Tryz.tabOk mixOrd (α := Nat) (fun k => [(12, dint k)]) (fun k => [(0, some ⟨false, 1, rows true (sqT q (pQ f g i j k 0))⟩)]) (fun k => i + k ≤ q) (fun k => q - k) (0) ?_ ?_ ?_
     · omega
     · conv => whnf
       first | refine WeakS.autoR ?_ | refine Weak.autoR ?_
       conv => whnf
       repeat' ((first | refine z1 ?_ | refine And.intro ?_ ?_ | exact trivial) <;> try (conv => whnf))
       all_goals rw [pQ_zero]
     intro k hk
     conv => whnf
     repeat' first | ((first | (refine And.intro (fun h => ?_) (fun h => ?_) <;> (try simp only [cnt1, ints_length] at h)) | refine zV ?_) <;> conv => whnf) | fail
     · refine loop_atR Tryz.tabOk mixOrd (α := Nat) (fun l => [(13, dint l)]) (fun l => [(0, some ⟨false, 1, rows true (sqT q (pQ f g i j k l))⟩)]) (fun l => j + l ≤ q) (fun l => q - l) (0) ?_ ?_ ?_
       · omega
       · conv => whnf
         first | refine WeakS.autoR ?_ | refine Weak.autoR ?_
         conv => whnf
         repeat' ((first | refine z1 ?_ | refine And.intro ?_ ?_ | exact trivial) <;> try (conv => whnf))
       intro l hll
       conv => whnf
       have hx1 := Zm.val_range hm.pos (((pQ f g i j k l).c (i + k)).c (j + l))
       have hx2 := hm.mul ((f.c i).c j) ((g.c k).c l)
       repeat' first | ((first | (apply zI; refine zP (vSqL (i := i + k) vIx vSqA) ?_) | (apply zI; refine zP (vSqC (i := k) vIx vSqA) ?_) | (apply zI; refine zP (vSqLL (i := i + k) (j := j + l) vIx vIx vSqA vSqA) ?_) | (apply zI; refine zP (vSqStore (i := i + k) (j := j + l) _ vIx vIx vSqA vSqA) ?_) | (apply zI; refine zP (vIntsC (l := l) vIx vSqA) ?_) | (refine And.intro (fun h => ?_) (fun h => ?_) <;> (try simp only [cnt1, ints_length] at h)) | refine zS ?_ | refine zV ?_ | (apply zI; refine zP vObx ?_) | refine And.intro (vSqA) ?_) <;> conv => whnf) | fail
       · refine Exists.intro (l + 1) (And.intro vSqA (And.intro vSqA ?_))
         first | refine WeakS.autoR ?_ | refine Weak.autoR ?_
         conv => whnf
         repeat' ((first | refine z1 ?_ | refine And.intro ?_ ?_ | exact trivial) <;> try (conv => whnf))
         exact rows_congr (sq_setT_eq _ (tm_mulA hm _ _ _) vSqA (AgS.of_eq (pQ_step f g i j k l).symm))
       · have hl' : q ≤ j + l := vSqA
         refine Exists.intro (k + 1) (And.intro vSqA (And.intro vSqA ?_))
         first | refine WeakS.autoR ?_ | refine Weak.autoR ?_
         conv => whnf
         repeat' ((first | refine z1 ?_ | refine And.intro ?_ ?_ | exact trivial) <;> try (conv => whnf))
         exact rows_congr (sqT_congr (sq_qrow f g hl'))
     · have hk' : q ≤ i + k := vSqA
       refine Exists.intro (j + 1) (And.intro vSqA (And.intro vSqA ?_))
       first | refine WeakS.autoR ?_ | refine Weak.autoR ?_
       conv => whnf
       repeat' ((first | refine z1 ?_ | refine And.intro ?_ ?_ | exact trivial) <;> try (conv => whnf))
       exact rows_congr (sqT_congr (sq_qend f g hk'))
   · have hj' : q ≤ j := vSqA
     refine Exists.intro (i + 1) (And.intro vSqA (And.intro vSqA ?_))
     first | refine WeakS.autoR ?_ | refine Weak.autoR ?_
     conv => whnf
     repeat' ((first | refine z1 ?_ | refine And.intro ?_ ?_ | exact trivial) <;> try (conv => whnf))
     exact rows_congr (sqT_congr (sq_row f g hj'))
 · have hi' : q ≤ i := vSqA
   exact congrArg (fun x => D.list true 1 (rows true x)) (sqT_congr (sq_full f g hi'))
end Go.Proofs
