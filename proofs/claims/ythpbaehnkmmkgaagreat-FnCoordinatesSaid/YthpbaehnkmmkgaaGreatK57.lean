import Derived.Test.YthpbaehnkmmkgaaGreatK55
namespace Go.Proofs
open Go Go.Vm Go.Fg Go.Fg.PS
set_option maxRecDepth 100000
set_option maxHeartbeats 4000000
set_option linter.unusedSimpArgs false
set_option linter.unusedVariables false
variable {m : Int}
abbrev RtD (o p : Bool) (w N : Nat) (f : PS (PS (Zm m))) : D := .list o 1 (rows p (sqP w N f))
def tbg (g : Nat → List (List Int)) (n : Nat) : List D := (List.range n).map fun c => .list true 1 (rows true (g c))
@[simp] theorem tbg_length (g : Nat → List (List Int)) (k : Nat) : (tbg g k).length = k := by simp [tbg]
theorem vRA {p : Prop} (h : p := by first | omega | (simp only [cnt1, rows_length, sqP_length, setT_length, ints_length, L_length, tbg_length, Tb_length, Nat.mul_one, Nat.zero_add, place1] at *; first | done | omega)) : p := h
theorem tbg_push {g : Nat → List (List Int)} {k : Nat} {t : List D} (h : t = rows true (g k)) : tbg g k ++ [.list true 1 t] = tbg g (k + 1) := by
 subst h; simp [tbg, List.range_succ]
theorem tbg_at {g : Nat → List (List Int)} {k i : Nat} (h : i < k) : (tbg g k)[i]? = some (.list true 1 (rows true (g i))) := by simp [tbg, h]
theorem vTgLen {g : Nat → List (List Int)} {k a : Nat} (e : a = k) : a = (tbg g k).length := by rw [tbg_length]; exact e
theorem vTgL {g : Nat → List (List Int)} {k a : Nat} (i : Nat) (e : a = i) (h : i < k) : LoadRow (tbg g k) [] a (.list true 1 (rows true (g i))) := by
 subst e; exact ⟨_, rfl, tbg_at h⟩
theorem vTgG {g : Nat → List (List Int)} {k a : Nat} (i : Nat) (e : a = i) (h : i < k) : getB (tbg g k) ([] ++ [a]) = some (rows true (g i)) := by
 subst e
 show (match (tbg g k)[a]? with | some (.list true _ cs') => getB cs' [] | _ => none) = _
 rw [tbg_at h]; rfl
theorem vTgIx {g : Nat → List (List Int)} {k i : Nat} (h : i < k) : 0 ≤ (i : Int) ∧ (i : Int) < (cnt 1 (tbg g k) : Nat) := by rw [cnt1, tbg_length]; omega
theorem tbg_plain (g : Nat → List (List Int)) (k : Nat) : ∀ x ∈ tbg g k, PlainD x := fun x hx => by
 simp only [tbg, List.mem_map] at hx
 obtain ⟨c, _, rfl⟩ := hx
 exact .list _ _ (rows_plain _)
theorem one_lg (cs : List D) : ∀ d ∈ [D.list true 1 cs], d.one = true := fun d hd => by
 simp only [List.mem_cons, List.not_mem_nil, or_false] at hd
 subst hd; rfl
theorem rt_getD {w N i : Nat} (f : PS (PS (Zm m))) (h : i < N) : (sqP w N f).getD i [] = L w (f.c i) := by simp [sqP, h]
theorem rt_congr {w N : Nat} {f g : PS (PS (Zm m))} (h : ∀ i, i < N → Ag w (f.c i) (g.c i)) : sqP w N f = sqP w N g :=
 List.map_congr_left (fun i hi => L_congr (h i (by simpa using hi)))
theorem rt_set {w N i : Nat} (f : PS (PS (Zm m))) (r : PS (Zm m)) (h : i < N) : (sqP w N f).set i (L w r) = sqP w N (f.upd i r) := by
 refine List.ext_getElem (by simp) (fun k h1 h2 => ?_)
 rw [List.getElem_set]
 simp only [sqP, List.getElem_map, List.getElem_range]
 by_cases e : i = k
 · subst e; rw [if_pos rfl, upd_c, if_pos rfl]
 · rw [if_neg e, upd_c, if_neg (fun x => e x.symm)]
theorem upd_upd (f : PS (PS (Zm m))) (r : Nat) (a b : PS (Zm m)) : (f.upd r a).upd r b = f.upd r b := by
 refine PS.ext (fun n => ?_)
 rw [upd_c, upd_c, upd_c]
 split <;> rfl
theorem upd_self (f : PS (PS (Zm m))) (r : Nat) : f.upd r (f.c r) = f := by
 refine PS.ext (fun n => ?_)
 rw [upd_c]
 split
 · rename_i h; rw [h]
 · rfl
def rwU (F : PS (PS (Zm m))) (r l : Nat) (v : PS (Zm m)) : PS (PS (Zm m)) := F.upd r (mix l v (F.c r))
theorem rwU_zero (F : PS (PS (Zm m))) (r : Nat) (v : PS (Zm m)) : rwU F r 0 v = F := by unfold rwU; rw [mix_zero, upd_self]
theorem rwU_row (F : PS (PS (Zm m))) (r l : Nat) (v : PS (Zm m)) : (rwU F r l v).c r = mix l v (F.c r) := by unfold rwU; rw [upd_c, if_pos rfl]
theorem rwU_full {w N : Nat} (F : PS (PS (Zm m))) (r : Nat) {l : Nat} (v : PS (Zm m)) (h : w ≤ l) : sqP w N (rwU F r l v) = sqP w N (F.upd r v) := rt_congr (fun i _ j hj => by
 unfold rwU
 rw [upd_c, upd_c]
 split
 · rw [mix_c, if_pos (by omega)]
 · rfl)
theorem rwU_set {w N : Nat} (F : PS (PS (Zm m))) {r l : Nat} (v : PS (Zm m)) {x : Int} (h : r < N) (hl : l < w) (hx : x = (v.c l).val) : setT (sqP w N (rwU F r l v)) r l x = sqP w N (rwU F r (l + 1) v) := by
 unfold setT
 rw [rt_getD _ h, rwU_row, L_set_eq (v.c l) hx (Ag.of_eq (mix_succ l v (F.c r)).symm), rt_set _ _ h]
 unfold rwU
 rw [upd_upd]
theorem vRtStore {w N q' k i j : Nat} {f : PS (PS (Zm m))} (x : Int) (e : q' = i) (e2 : k = j) (h : i < N) (h2 : j < w) : StoreRow (rows true (sqP w N f)) ([] ++ [q']) k (dint x) (rows true (setT (sqP w N f) i j x)) := by
 subst e; subst e2
 exact store_rows x (by simpa using h) (by rw [rt_getD f h, L_length]; exact h2)
theorem vRtL {w N q' i : Nat} {o : Bool} {f : PS (PS (Zm m))} (e : q' = i) (h : i < N) : LoadRow (rows o (sqP w N f)) [] q' (.list o 1 (ints (L w (f.c i)))) := by
 subst e
 exact ⟨_, rfl, by rw [rows_get (by simpa using h), rt_getD f h]⟩
theorem vRtC {w N q' i : Nat} {o : Bool} {f : PS (PS (Zm m))} (e : q' = i) (h : i < N) : (rows o (sqP w N f))[q']? = some (.list o 1 (ints (L w (f.c i)))) := by
 subst e
 rw [rows_get (by simpa using h), rt_getD f h]
theorem vRtG {w N q' i : Nat} {f : PS (PS (Zm m))} (e : q' = i) (h : i < N) : getB (rows true (sqP w N f)) ([] ++ [q']) = some (ints (L w (f.c i))) := by
 subst e
 rw [List.nil_append, getB_rows (by simpa using h), rt_getD f h]
theorem vRtLL {w N q' k i j : Nat} {f : PS (PS (Zm m))} (e : q' = i) (e2 : k = j) (h : i < N) (h2 : j < w) : LoadRow (rows true (sqP w N f)) ([] ++ [q']) k (dint ((f.c i).c j).val) := by
 subst e2
 exact ⟨_, vRtG e h, by simp [ints, L, h2]⟩
theorem vIntC {n k l : Nat} {a : PS (Zm m)} (e : k = l) (h : l < n) : (ints (L n a))[k]? = some (dint (a.c l).val) := by
 subst e; simp [ints, L, h]
theorem rtIx {w N i : Nat} {o : Bool} {f : PS (PS (Zm m))} (h : i < N) : 0 ≤ (i : Int) ∧ (i : Int) < (cnt 1 (rows o (sqP w N f)) : Nat) := by rw [cnt1, rows_length, sqP_length]; omega
theorem one_in (cs : List D) : ∀ d ∈ [D.list true 1 cs], d.one = true := one_lg cs
theorem sub_rt {w N a k : Nat} {o : Bool} {f : PS (PS (Zm m))} (e : a = k) (h : k ≤ N) : sub (rows o (sqP w N f)) 1 0 a = rows o (sqP w k f) := by
 subst e
 simp only [sub, Nat.zero_mul, List.drop_zero, Nat.mul_one, rows, sqP, ← List.map_take]
 rw [List.take_range, Nat.min_eq_left h]
theorem c_whProduct (hm : Md m) (o o1 o2 p1 p2 : Bool) (rl : List Int) {k : Nat} (hk : RuOk rl k) (N : Nat) (hN : 1 ≤ N ∧ N ≤ 100) (f g : PS (PS (Zm m))) : PureCall Tryz.prog 458 [RuD m o rl, RtD o1 p1 k N f, RtD o2 p2 k N g] (RtD true true k N (prM k (rd m rl) N f g)) := by
 have hk0 := hk
 obtain ⟨hl, hk1, hk4, hr⟩ := hk
 have hm1 := hm.1
 have hm2 := hm.2
 refine pure_of_vcR Tryz.tabOk mixOrd Tryz.func458 rfl rfl ?_
 conv => whnf
 repeat' first | ((first | refine z0 ?_ | (refine And.intro (fun h => ?_) (fun h => ?_) <;> (try simp only [cnt1, ints_length] at h)) | refine zS ?_ | refine zV ?_ | (apply zI; refine zP vObt ?_) | (apply zI; refine zP vObx ?_) | refine zA ?_ | refine Alt.fst ?_ | refine Or.inl ?_) <;> conv => whnf) | fail
 refine loop_atR Tryz.tabOk mixOrd (α := Nat) (fun i => [(15, dint i), (7, .ref 1 [] 1 0 i), (12, .undef)]) (fun i => [(1, some ⟨false, 1, rows true (sqP k i (0 : PS (PS (Zm m))))⟩)]) (fun i => i ≤ N) (fun i => N - i) (0) ?_ ?_ ?_
 · omega
 · conv => whnf
   first | refine WeakS.autoR ?_ | refine Weak.autoR ?_
   conv => whnf
   repeat' ((first | refine z1 ?_ | refine z2 ?_ | refine zV ?_ | refine And.intro vRepl ?_ | refine And.intro vReplL ?_ | refine And.intro ?_ ?_ | exact trivial) <;> try (conv => whnf))
 intro i hi
 conv => whnf
 repeat' first | ((first | refine z0 ?_ | (apply zI; refine zP (c_whNumber hm _ rl hk0 0 (by rw [Zm.val_zero])) ?_) | (refine And.intro (fun h => ?_) (fun h => ?_) <;> (try simp only [cnt1, ints_length] at h)) | refine zS ?_ | refine zV ?_ | (apply zI; refine zP vObt ?_) | (apply zI; refine zP vObx ?_) | refine zA ?_ | refine And.intro (vRA) ?_ | refine And.intro (one_in _) ?_ | refine And.intro (rows_plain _) ?_ | refine Alt.fst ?_ | refine Or.inl ?_) <;> conv => whnf) | fail
 · refine Exists.intro (i + 1) (And.intro vRA (And.intro vRA ?_))
   first | refine WeakS.autoR ?_ | refine Weak.autoR ?_
   conv => whnf
   repeat' ((first | refine z1 ?_ | refine z2 ?_ | refine zV ?_ | refine And.intro vRepl ?_ | refine And.intro vReplL ?_ | refine And.intro ?_ ?_ | exact trivial) <;> try (conv => whnf))
   exact rows_congr (sqP_push (by rw [PS.C_zero]; rfl))
 · have hiN : i = N := vRA
   rw [hiN]
   refine loop_atR Tryz.tabOk mixOrd (α := Nat) (fun i => [(25, dint i), (8, .undef), (9, .undef)]) (fun i => [(1, some ⟨false, 1, rows true (sqP k N (prP k (rd m rl) f g i 0))⟩)]) (fun i => i ≤ N) (fun i => N - i) (0) ?_ ?_ ?_
   · omega
   · conv => whnf
     first | refine WeakS.autoR ?_ | refine Weak.autoR ?_
     conv => whnf
     repeat' ((first | refine z1 ?_ | refine z2 ?_ | refine zV ?_ | refine And.intro vRepl ?_ | refine And.intro vReplL ?_ | refine And.intro ?_ ?_ | exact trivial) <;> try (conv => whnf))
     all_goals rw [prP_zero]
   intro i hi
   conv => whnf
   repeat' first | ((first | refine z0 ?_ | (apply zI; refine zP (vRtC (i := i) vIx vRA) ?_) | (apply zI; refine zP (sub_rt vRA vRA) ?_) | (refine And.intro (fun h => ?_) (fun h => ?_) <;> (try simp only [cnt1, ints_length] at h)) | refine zS ?_ | refine zV ?_ | (apply zI; refine zP vObt ?_) | (apply zI; refine zP vObx ?_) | refine zA ?_ | refine And.intro (rtIx vRA) ?_ | refine And.intro (inR64 vRA vRA) ?_ | refine And.intro (vRA) ?_ | refine Alt.fst ?_ | refine Or.inl ?_) <;> conv => whnf) | fail
   · have hi' : i < N := vRA
     rw [show sub (rows p2 (sqP k N g)) 1 0 (((cnt 1 (rows p2 (sqP k N g)) : Nat) : Int) - (i : Int)).toNat = rows p2 (sqP k (N - i) g) from sub_rt (by rw [cnt1, rows_length, sqP_length]; omega) (by omega)]
     refine loop_atR Tryz.tabOk mixOrd (α := Nat) (fun j => [(37, dint j), (10, .undef), (11, .undef)]) (fun j => [(1, some ⟨false, 1, rows true (sqP k N (prP k (rd m rl) f g i j))⟩)]) (fun j => j ≤ N - i) (fun j => N - j) (0) ?_ ?_ ?_
     · omega
     · conv => whnf
       first | refine WeakS.autoR ?_ | refine Weak.autoR ?_
       conv => whnf
       repeat' ((first | refine z1 ?_ | refine z2 ?_ | refine zV ?_ | refine And.intro vRepl ?_ | refine And.intro vReplL ?_ | refine And.intro ?_ ?_ | exact trivial) <;> try (conv => whnf))
     intro j hj
     conv => whnf
     repeat' first | ((first | refine z0 ?_ | (apply zI; refine zP (vRtC (i := j) vIx vRA) ?_) | (apply zI; refine zP (vRtL (i := i + j) vIx vRA) ?_) | (apply zI; refine zP (vRtG (i := i + j) vIx vRA) ?_) | (apply zI; refine zP (c_whTimes hm _ _ _ rl hk0 (f.c i) (g.c j)) ?_) | refine Or.inr (inl_ofR Tryz.tabOk mixOrd _ Tryz.func456 rfl rfl ?_) | (refine And.intro (fun h => ?_) (fun h => ?_) <;> (try simp only [cnt1, ints_length] at h)) | refine zS ?_ | refine zV ?_ | (apply zI; refine zP vObt ?_) | (apply zI; refine zP vObx ?_) | refine zA ?_ | refine And.intro (rtIx vRA) ?_ | refine And.intro (vRA) ?_ | refine Alt.fst ?_ | refine Or.inl ?_) <;> conv => whnf) | fail
     · have hj' : j < N - i := vRA
       refine loop_atR Tryz.tabOk mixOrd (α := Nat) (fun l => [(12, dint l)]) (fun l => [(1, some ⟨false, 1, rows true (sqP k N (rwU (prP k (rd m rl) f g i j) (i + j) l ((prP k (rd m rl) f g i j).c (i + j) + rtM k (rd m rl) (f.c i) (g.c j))))⟩)]) (fun l => l ≤ k) (fun l => k - l) (0) ?_ ?_ ?_
       · omega
       · conv => whnf
         first | refine WeakS.autoR ?_ | refine Weak.autoR ?_
         conv => whnf
         repeat' ((first | refine z1 ?_ | refine z2 ?_ | refine zV ?_ | refine And.intro vRepl ?_ | refine And.intro vReplL ?_ | refine And.intro ?_ ?_ | exact trivial) <;> try (conv => whnf))
         all_goals rw [rwU_zero]
       intro l hll
       conv => whnf
       have x1 := Zm.val_range hm.pos (((rwU (prP k (rd m rl) f g i j) (i + j) l ((prP k (rd m rl) f g i j).c (i + j) + rtM k (rd m rl) (f.c i) (g.c j))).c (i + j)).c l)
       have x2 := Zm.val_range hm.pos ((rtM k (rd m rl) (f.c i) (g.c j)).c l)
       repeat' first | ((first | refine z0 ?_ | (apply zI; refine zP (vRtLL (i := i + j) (j := l) vIx vIx vRA vRA) ?_) | (apply zI; refine zP (vIntC (l := l) vIx vRA) ?_) | (apply zI; refine zP (vRtStore (i := i + j) (j := l) _ vIx vIx vRA vRA) ?_) | (apply zI; refine zP (c_mod _ _ hm.pos (by omega)) ?_) | (refine And.intro (fun h => ?_) (fun h => ?_) <;> (try simp only [cnt1, ints_length] at h)) | refine zS ?_ | refine zV ?_ | (apply zI; refine zP vObt ?_) | (apply zI; refine zP vObx ?_) | refine zA ?_ | refine And.intro (inR64 vRA vRA) ?_ | refine And.intro (vRA) ?_ | refine Alt.fst ?_ | refine Or.inl ?_) <;> conv => whnf) | fail
       · have hl' : l < k := vRA
         refine Exists.intro (l + 1) (And.intro vRA (And.intro vRA ?_))
         first | refine WeakS.autoR ?_ | refine Weak.autoR ?_
         conv => whnf
         repeat' ((first | refine z1 ?_ | refine z2 ?_ | refine zV ?_ | refine And.intro vRepl ?_ | refine And.intro vReplL ?_ | refine And.intro ?_ ?_ | exact trivial) <;> try (conv => whnf))
         refine rows_congr (rwU_set _ _ vRA hl' ?_)
         rw [rwU_row, mix_at, add_c, ← em_add, Int.one_mul]
       · refine Exists.intro (j + 1) (And.intro vRA (And.intro vRA ?_))
         first | refine WeakS.autoR ?_ | refine Weak.autoR ?_
         conv => whnf
         repeat' ((first | refine z1 ?_ | refine z2 ?_ | refine zV ?_ | refine And.intro vRepl ?_ | refine And.intro vReplL ?_ | refine And.intro ?_ ?_ | exact trivial) <;> try (conv => whnf))
         refine rows_congr ?_
         rw [rwU_full _ _ _ vRA, ← prP_step]
     · have hj' : j = N - i := vRA
       refine Exists.intro (i + 1) (And.intro vRA (And.intro vRA ?_))
       first | refine WeakS.autoR ?_ | refine Weak.autoR ?_
       conv => whnf
       repeat' ((first | refine z1 ?_ | refine z2 ?_ | refine zV ?_ | refine And.intro vRepl ?_ | refine And.intro vReplL ?_ | refine And.intro ?_ ?_ | exact trivial) <;> try (conv => whnf))
       refine rows_congr (rt_congr (fun n hn => Ag.of_eq (prP_row _ _ _ _ (by omega) n hn)))
   · rw [show i = N from vRA]
     rfl
theorem one_min (hm : Md m) (i : Nat) : (1 : Int) - min (i : Int) 1 = (if i = 0 then (1 : Zm m) else 0).val := by
 have := hm.1
 by_cases h : i = 0
 · subst h; rw [if_pos rfl, Zm.val_one (by omega)]; rfl
 · rw [if_neg h, Zm.val_zero]; omega
def pwG (k : Nat) (ρ : PS (Zm m)) (N : Nat) (a : PS (PS (Zm m))) (i : Nat) : List (List Int) := sqP k N (pwR k ρ N a i)
theorem c_whPowers (hm : Md m) (o o1 o2 p1 p2 : Bool) (rl : List Int) {k : Nat} (hk : RuOk rl k) (N : Nat) (hN : 1 ≤ N ∧ N ≤ 100) (f : PS (PS (Zm m))) (a : PS (PS (Zm m))) :
   PureCall Tryz.prog 457 [RtD o1 p1 k N a, .cptr [dint m, .list o 1 (ints rl)] 0, .cptr [dint m, .list o2 1 (rows p2 (Tb N f))] 0] (.list true 1 (tbg (pwG k (rd m rl) N a) N)) := by
 have hk0 := hk
 obtain ⟨hl, hk1, hk4, hr⟩ := hk
 have hm1 := hm.1
 have hm2 := hm.2
 refine pure_of_vcR Tryz.tabOk mixOrd Tryz.func457 rfl rfl ?_
 conv => whnf
 repeat' first | ((first | refine z0 ?_ | (refine And.intro (fun h => ?_) (fun h => ?_) <;> (try simp only [cnt1, ints_length] at h)) | refine zS ?_ | refine zV ?_ | (apply zI; refine zP vObt ?_) | (apply zI; refine zP vObx ?_) | refine zA ?_ | refine Alt.fst ?_ | refine Or.inl ?_) <;> conv => whnf) | fail
 refine loop_atR Tryz.tabOk mixOrd (α := Nat) (fun i => [(11, dint i), (6, .undef), (5, .ref 0 [] 1 0 i), (8, .undef)]) (fun i => [(0, some ⟨false, 1, rows true (sqP k i (1 : PS (PS (Zm m))))⟩)]) (fun i => i ≤ N) (fun i => N - i) (0) ?_ ?_ ?_
 · omega
 · conv => whnf
   first | refine WeakS.autoR ?_ | refine Weak.autoR ?_
   conv => whnf
   repeat' ((first | refine z1 ?_ | refine z2 ?_ | refine zV ?_ | refine And.intro vRepl ?_ | refine And.intro vReplL ?_ | refine And.intro ?_ ?_ | exact trivial) <;> try (conv => whnf))
 intro i hi
 conv => whnf
 repeat' first | ((first | refine z0 ?_ | (apply zI; refine zP (c_whNumber hm _ rl hk0 (if i = 0 then 1 else 0) (one_min hm i)) ?_) | (apply zI; refine zP (c_degreeP _ _ N (by omega) f) ?_) | (apply zI; refine zP (sub_rt vRA (Nat.le_refl _)) ?_) | (apply zI; refine zP (one_lg _) ?_) | (refine And.intro (fun h => ?_) (fun h => ?_) <;> (try simp only [cnt1, ints_length] at h)) | refine zS ?_ | refine zV ?_ | (apply zI; refine zP vObt ?_) | (apply zI; refine zP vObx ?_) | refine zA ?_ | refine And.intro (inR64 vRA vRA) ?_ | refine And.intro (vRA) ?_ | refine And.intro (one_in _) ?_ | refine And.intro (rows_plain _) ?_ | refine Alt.fst ?_ | refine Or.inl ?_) <;> conv => whnf) | fail
 · have hi' : i < N := vRA
   refine Exists.intro (i + 1) (And.intro vRA (And.intro vRA ?_))
   first | refine WeakS.autoR ?_ | refine Weak.autoR ?_
   conv => whnf
   repeat' ((first | refine z1 ?_ | refine z2 ?_ | refine zV ?_ | refine And.intro vRepl ?_ | refine And.intro vReplL ?_ | refine And.intro ?_ ?_ | exact trivial) <;> try (conv => whnf))
   exact rows_congr (sqP_push (by
     rw [PS.one_c]
     split
     · rfl
     · rw [PS.C_zero]))
 · have hiN : i = N := vRA
   subst hiN
   refine loop_atR Tryz.tabOk mixOrd (α := Nat) (fun j => [(27, dint j), (7, .ref 1 [] 1 0 (j + 1)), (5, .undef), (23, .undef), (24, .undef)]) (fun j => [(1, some ⟨false, 1, tbg (pwG k (rd m rl) i a) (j + 1)⟩)]) (fun j => j + 1 ≤ i) (fun j => i - j) (0) ?_ ?_ ?_
   · omega
   · conv => whnf
     first | refine WeakS.autoR ?_ | refine Weak.autoR ?_
     conv => whnf
     repeat' ((first | refine z1 ?_ | refine z2 ?_ | refine zV ?_ | refine And.intro vRepl ?_ | refine And.intro vReplL ?_ | refine And.intro ?_ ?_ | exact trivial) <;> try (conv => whnf))
   intro j hj
   conv => whnf
   repeat' first | ((first | refine z0 ?_ | (apply zI; refine zP (vTgL j vIx vRA) ?_) | (apply zI; refine zP (vTgG j vIx vRA) ?_) | (apply zI; refine zP (sub_rt vRA (Nat.le_refl _)) ?_) | (apply zI; refine zP (c_whProduct hm _ _ _ _ _ rl hk0 i hN (pwR k (rd m rl) i a j) a) ?_) | (refine And.intro (fun h => ?_) (fun h => ?_) <;> (try simp only [cnt1, ints_length] at h)) | refine zS ?_ | refine zV ?_ | (apply zI; refine zP vObt ?_) | (apply zI; refine zP vObx ?_) | refine zA ?_ | refine And.intro (inR64 vRA vRA) ?_ | refine And.intro (vTgLen vRA) ?_ | refine And.intro (one_lg _) ?_ | refine And.intro (tbg_plain _ _) ?_ | refine And.intro (vRA) ?_ | refine Alt.fst ?_ | refine Or.inl ?_) <;> conv => whnf) | fail
   · refine Exists.intro (j + 1) (And.intro vRA (And.intro vRA ?_))
     first | refine WeakS.autoR ?_ | refine Weak.autoR ?_
     conv => whnf
     repeat' ((first | refine z1 ?_ | refine z2 ?_ | refine zV ?_ | refine And.intro vRepl ?_ | refine And.intro vReplL ?_ | refine And.intro ?_ ?_ | exact trivial) <;> try (conv => whnf))
     exact tbg_push rfl
   · rw [show j + 1 = i from vRA]
end Go.Proofs
