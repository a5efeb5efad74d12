import Derived.Test.YtndhpcigpghejaaGreatK184
namespace Go.Proofs
open Go Go.Vm Go.Fg Go.Fg.PS
set_option maxRecDepth 100000
set_option maxHeartbeats 4000000
set_option linter.unusedSimpArgs false
set_option linter.unusedVariables false
variable {m : Int}
def lwS (q : Int) (R G : PS (PS (Zm m))) (n : Nat) : Nat → PS (PS (Zm m))
 | 0 => G
 | i + 1 => upd2 (lwS q R G n i) (i + 1) (n - (i + 1)) (Zm.mk m (0 - ((R.c (i + 1)).c (n - (i + 1))).val.tdiv q))
def lwT (p most : Nat) (q : Int) (P : Zm m) (A : PS (Zm m)) : Nat → PS (PS (Zm m))
 | 0 => upd2 (upd2 0 0 1 1) 1 0 1
 | s + 1 => lwS q (rsS p most P A (lwT p most q P A s) (most + 1)) (lwT p most q P A s) (s + 2) (s + 1)
theorem qP_ok {p : Nat} (hp : p = 2 ∨ p = 3 ∨ p = 5 ∨ p = 7) {d : Int} (hd : 1 ≤ d ∧ d ≤ 10) : qP p (kM p d) = ((p ^ kM p d : Nat) : Int) ∧ p ^ kM p d ≤ 10 ∧ kM p d ≤ 3 ∧ 1 ≤ p ^ kM p d := by
 unfold kM qP
 rcases hp with rfl | rfl | rfl | rfl <;> (repeat' split) <;> simp at * <;> omega
theorem three_L {w : Int} {l : List Int} (hl : l.length ≤ 3) (h : Nums w l) (hw : 0 < w) : l ++ List.replicate (3 - l.length) 0 = L 3 (rd w l) := by
 refine List.ext_getElem (by simp; omega) (fun i h1 h2 => ?_)
 rw [L_getElem, rd_c]
 by_cases hi : i < l.length
 · rw [List.getElem_append_left hi, show l.getD i 0 = l[i] by simp [hi], Zm.val_of_range (h _ (List.getElem_mem hi))]
 · rw [List.getElem_append_right (by omega), List.getElem_replicate, show l.getD i 0 = 0 by simp [List.getElem?_eq_none (show l.length ≤ i by omega)]]
   exact (Zm.val_of_range ⟨by omega, hw⟩).symm
def rsM {w : Int} (m : Int) (a : PS (Zm w)) : PS (Zm m) := ⟨fun i => Zm.mk m (a.c i).val⟩
def rsMM {w : Int} (m : Int) (f : PS (PS (Zm w))) : PS (PS (Zm m)) := ⟨fun i => rsM m (f.c i)⟩
def mixR {w : Int} (m : Int) (G : PS (PS (Zm w))) (N i : Nat) : List (List Int) := (List.range N).map fun k => if k < i then L (N - k) (rsM m (G.c k)) else L (N - k) (G.c k)
theorem mixR_len {w : Int} (m : Int) (G : PS (PS (Zm w))) (N i : Nat) : (mixR m G N i).length = N := by simp [mixR]
theorem mixR_zero {w : Int} (m : Int) (G : PS (PS (Zm w))) (N : Nat) : mixR m G N 0 = Tb N G := List.map_congr_left (fun k _ => if_neg (by omega))
theorem mixR_full {w : Int} (m : Int) (G : PS (PS (Zm w))) (N : Nat) : mixR m G N N = Tb N (rsMM m G) := List.map_congr_left (fun k hk => by rw [if_pos (by simpa using hk)]; rfl)
theorem mixR_getD {w : Int} (m : Int) (G : PS (PS (Zm w))) {N i : Nat} (h : i < N) : (mixR m G N i).getD i [] = L (N - i) (G.c i) := by simp [mixR, h]
theorem mixR_set {w : Int} (m : Int) (G : PS (PS (Zm w))) {N i : Nat} (h : i < N) : (mixR m G N i).set i (L (N - i) (rsM m (G.c i))) = mixR m G N (i + 1) := by
 refine List.ext_getElem (by simp [mixR]) (fun k h1 h2 => ?_)
 rw [List.getElem_set]
 simp only [mixR, List.getElem_map, List.getElem_range]
 by_cases e : i = k
 · subst e; rw [if_pos rfl, if_pos (by omega)]
 · rw [if_neg e]
   by_cases e2 : k < i
   · rw [if_pos e2, if_pos (by omega)]
   · rw [if_neg e2, if_neg (by omega)]
theorem vMixR {w : Int} {m : Int} {G : PS (PS (Zm w))} {N i q : Nat} (e : q = i) (h : i < N) : LoadRow (rows true (mixR m G N i)) [] q (.list true 1 (ints (L (N - i) (G.c i)))) := by
 subst e
 rw [← mixR_getD m G h]
 exact load_row (by rw [mixR_len]; exact h)
theorem vMixG {w : Int} {m : Int} {G : PS (PS (Zm w))} {N i q : Nat} (e : q = i) (h : i < N) : getB (rows true (mixR m G N i)) [q] = some (ints (L (N - i) (G.c i))) := by
 subst e
 rw [← mixR_getD m G h]
 exact getB_rows (by rw [mixR_len]; exact h)
theorem c_l02Rest {w : Int} (hm : Md m) (hw : Md w) (o : Bool) (n : Nat) (hn : n ≤ 100) (a : PS (Zm w)) : PureCall Tryz.prog 422 [dint m, LD o n a] (LD true n (rsM m a)) := by
 have hm1 := hm.1
 have hm2 := hm.2
 refine pure_of_vcR Tryz.tabOk mixOrd Tryz.func422 rfl rfl ?_
 conv => whnf
 repeat' first | ((first | refine z0 ?_ | (refine And.intro (fun h => ?_) (fun h => ?_) <;> (try simp only [cnt1, ints_length] at h)) | refine zS ?_ | refine zV ?_ | (apply zI; refine zP vObt ?_) | (apply zI; refine zP vObx ?_) | refine zA ?_ | refine Alt.fst ?_ | refine Or.inl ?_) <;> conv => whnf) | fail
 refine loop_atR Tryz.tabOk mixOrd (α := Nat) (fun i => [(6, dint i), (5, .ref 0 [] 1 0 i), (7, .undef)]) (fun i => [(0, some ⟨false, 1, ints (L i (rsM m a))⟩)]) (fun i => i ≤ n) (fun i => n - i) (0) ?_ ?_ ?_
 · omega
 · conv => whnf
   first | refine WeakS.autoR ?_ | refine Weak.autoR ?_
   conv => whnf
   repeat' ((first | refine z1 ?_ | refine And.intro ?_ ?_ | exact trivial) <;> try (conv => whnf))
 intro i hi
 conv => whnf
 by_cases hin : i < n
 · have hx := Zm.val_range hw.pos (a.c i)
   repeat' first | ((first | refine z0 ?_ | (refine And.intro (fun h => ?_) (fun h => ?_) <;> (try simp only [cnt1, ints_length, rows_length, Tb_length, L_length, byts_length] at h) <;> first | (exfalso; first | omega | exact h trivial | (cases h; done)) | skip) | refine zV ?_ | (apply zI; refine zP vObt ?_) | (apply zI; refine zP vObx ?_)) <;> conv => whnf) | fail
   refine Exists.intro (i + 1) ⟨?_, ?_, ?_⟩
   · omega
   · omega
   first | refine WeakS.autoR ?_ | refine Weak.autoR ?_
   conv => whnf
   repeat' ((first | refine z1 ?_ | refine And.intro ?_ ?_ | exact trivial) <;> try (conv => whnf))
   all_goals first
     | exact ints_congr' (L_push (by rw [Int.tmod_eq_emod_of_nonneg hx.1]; rfl))
 · repeat' first | ((first | refine z0 ?_ | (refine And.intro (fun h => ?_) (fun h => ?_) <;> (try simp only [cnt1, ints_length, rows_length, Tb_length, L_length, byts_length] at h) <;> first | (exfalso; first | omega | exact h trivial | (cases h; done)) | skip) | refine zV ?_ | (apply zI; refine zP vObt ?_) | (apply zI; refine zP vObx ?_)) <;> conv => whnf) | fail
   rw [show i = n by omega]
theorem c_l09Law (hm : Md m) (p : Nat) (hp : p = 2 ∨ p = 3 ∨ p = 5 ∨ p = 7) (n : Nat) (hn : 2 ≤ n ∧ n ≤ 11) {d : Int} (hd : d + 1 = n) (hw : Md (m * qP p (kM p d) * p)) (o : Bool) (l : List Int) (hl : l.length ≤ 3) (hnum : Nums m l) :
   ∃ F : PS (PS (Zm m)), PureCall Tryz.prog 322 [dint p, dint m, dint d, .list o 1 (ints l)] (TbD true true n F) := by
 have hm1 := hm.1
 have hm2 := hm.2
 have hmost := c_l09Most p d (by omega) (by omega)
 obtain ⟨q1, q2, q3, q4⟩ := qP_ok hp (d := d) (by omega)
 generalize kM p d = most at *
 generalize hq : qP p most = q at *
 have b1 : 0 ≤ m * q ∧ m * q ≤ m * q * p := ⟨Int.mul_nonneg (by omega) (by omega), by
   have := Int.mul_le_mul_of_nonneg_left (show (1 : Int) ≤ p by omega) (show 0 ≤ m * q from Int.mul_nonneg (by omega) (by omega))
   rwa [Int.mul_one] at this⟩
 have b2 : m ≤ m * q := by
   have := Int.mul_le_mul_of_nonneg_left (show (1 : Int) ≤ q by omega) (show 0 ≤ m by omega)
   rwa [Int.mul_one] at this
 generalize hwd : m * q * p = w at *
 have hw1 := hw.1
 have hw2 := hw.2
 have hnw : Nums w l := fun x hx => ⟨(hnum x hx).1, by have := (hnum x hx).2; omega⟩
 have h3 := c_l09Three o l hl
 rw [three_L hl hnw (by omega)] at h3
 have e1 : (1 : Int) = (1 : Zm w).val := (Zm.val_one (by omega)).symm
 refine ⟨rsMM m (lwT p most q (Zm.mk w p) (nuA (Zm.mk w p) p (rd w l) 3) (n - 2)), ?_⟩
 · refine pure_of_vcR Tryz.tabOk mixOrd Tryz.func322 rfl rfl ?_
   conv => whnf
   repeat' first | ((first | (apply zI; refine zP (hmost) ?_) | (apply zI; refine zP (h3) ?_) | (apply zI; refine zP (c_l09Numerators hw p (by omega) _ _) ?_) | (apply zI; refine zP (c_l03Zero (m := w) n vAr vAr) ?_) | refine zS ?_ | refine zV ?_ | (apply zI; refine zP vObt ?_) | (apply zI; refine zP vObx ?_) | refine Or.inl ?_) <;> conv => whnf) | fail
   rw [hwd]
   repeat' first | ((first | (apply zI; refine zP (hmost) ?_) | (apply zI; refine zP (h3) ?_) | (apply zI; refine zP (c_l09Numerators hw p (by omega) _ _) ?_) | (apply zI; refine zP (c_l03Zero (m := w) n vAr vAr) ?_) | refine zS ?_ | refine zV ?_ | (apply zI; refine zP vObt ?_) | (apply zI; refine zP vObx ?_) | refine Or.inl ?_) <;> conv => whnf) | fail
   rw [show setT (Tb n (0 : PS (PS (Zm w)))) 0 1 1 = Tb n (upd2 0 0 1 1) from setT_eq (1 : Zm w) e1 (by omega) (Ag2.of_eq rfl)]
   repeat' first | ((first | refine z0 ?_ | (refine And.intro (fun h => ?_) (fun h => ?_) <;> (try simp only [cnt1, ints_length, rows_length, Tb_length, L_length, byts_length] at h) <;> first | (exfalso; first | omega | exact h trivial | (cases h; done)) | skip) | refine zV ?_ | (apply zI; refine zP vObt ?_) | (apply zI; refine zP vObx ?_)) <;> conv => whnf) | fail
   rw [show setT (Tb n (upd2 (0 : PS (PS (Zm w))) 0 1 1)) 1 0 1 = Tb n (upd2 (upd2 0 0 1 1) 1 0 1) from setT_eq (1 : Zm w) e1 (by omega) (Ag2.of_eq rfl)]
   repeat' first | ((first | refine z0 ?_ | (refine And.intro (fun h => ?_) (fun h => ?_) <;> (try simp only [cnt1, ints_length, rows_length, Tb_length, L_length, byts_length] at h) <;> first | (exfalso; first | omega | exact h trivial | (cases h; done)) | skip) | refine zV ?_ | (apply zI; refine zP vObt ?_) | (apply zI; refine zP vObx ?_)) <;> conv => whnf) | fail
   generalize hA : nuA (Zm.mk w p) p (rd w l) 3 = A at *
   refine loop_atR Tryz.tabOk mixOrd (α := Nat) (fun s => [(16, dint ((s : Int) + 2)), (17, .undef), (19, .undef)]) (fun s => [(4, some ⟨false, 1, rows true (Tb n (lwT p most q (Zm.mk w p) A s))⟩)]) (fun s => s + 2 ≤ n) (fun s => n - s) (0) ?_ ?_ ?_
   · omega
   · conv => whnf
     first | refine WeakS.autoR ?_ | refine Weak.autoR ?_
     conv => whnf
     repeat' ((first | refine z1 ?_ | refine And.intro ?_ ?_ | exact trivial) <;> try (conv => whnf))
   intro s hs
   conv => whnf
   by_cases hsn : s + 2 < n
   · generalize hG : lwT p most q (Zm.mk w p) A s = G at *
     generalize hR : rsS p most (Zm.mk w p) A G (most + 1) = R at *
     have hre := c_l09Rest hw p (by omega) most (by omega) q2 (s + 3) (by omega) true true true A G
     have hre2 := c_l09Rest hw p (by omega) most (by omega) q2 (s + 3) (by omega) false false true A G
     rw [hR] at hre hre2
     repeat' first | ((first | (apply zI; refine zP (c_l03Cut _ _ n (s + 3) (by omega) (by omega) (by omega) G) ?_) | (apply zI; refine zP (hre2) ?_) | (refine And.intro (fun h => ?_) (fun h => ?_) <;> (try simp only [cnt1, ints_length, rows_length, Tb_length, L_length, byts_length] at h) <;> first | (exfalso; first | omega | exact h trivial | (cases h; done)) | skip) | refine zV ?_ | (apply zI; refine zP vObt ?_) | (apply zI; refine zP vObx ?_) | refine Or.inl ?_) <;> conv => whnf) | fail
     refine loop_atR Tryz.tabOk mixOrd (α := Nat) (fun i => [(18, dint ((i : Int) + 1)), (19, .undef)]) (fun i => [(4, some ⟨false, 1, rows true (Tb n (lwS q R G (s + 2) i))⟩)]) (fun i => i ≤ s + 1) (fun i => s + 1 - i) (0) ?_ ?_ ?_
     · omega
     · conv => whnf
       first | refine WeakS.autoR ?_ | refine Weak.autoR ?_
       conv => whnf
       repeat' ((first | refine z1 ?_ | refine And.intro ?_ ?_ | exact trivial) <;> try (conv => whnf))
     intro i hi
     conv => whnf
     by_cases hin : i < s + 1
     · have hx := Zm.val_range hw.pos ((R.c (i + 1)).c ((s : Int) + 2 - (i + 1)).toNat)
       have hx2 : 0 ≤ (((R.c (i + 1)).c ((s : Int) + 2 - (i + 1)).toNat).val).tdiv q ∧ (((R.c (i + 1)).c ((s : Int) + 2 - (i + 1)).toNat).val).tdiv q ≤ w := by
         rw [Int.tdiv_eq_ediv_of_nonneg hx.1]
         exact ⟨Int.ediv_nonneg hx.1 (by omega), Int.le_trans (Int.ediv_le_self _ hx.1) (by omega)⟩
       repeat' first | ((first | (apply zI; refine zP (c_l01Mod _ _ hw.pos (by omega)) ?_) | (refine And.intro (fun h => ?_) (fun h => ?_) <;> (try simp only [cnt1, ints_length, rows_length, Tb_length, L_length, byts_length] at h) <;> first | (exfalso; first | omega | exact h trivial | (cases h; done)) | skip) | refine zV ?_ | (apply zI; refine zP vObt ?_) | (apply zI; refine zP vObx ?_) | refine Or.inl ?_) <;> conv => whnf) | fail
       have ec : ((s : Int) + 2 - ((i : Int) + 1)).toNat = s + 2 - (i + 1) := by omega
       refine Exists.intro (i + 1) ⟨?_, ?_, ?_⟩
       · omega
       · omega
       first | refine WeakS.autoR ?_ | refine Weak.autoR ?_
       conv => whnf
       repeat' ((first | refine z1 ?_ | refine And.intro ?_ ?_ | exact trivial) <;> try (conv => whnf))
       all_goals first
         | exact rows_congr (setT_eq (Zm.mk w (0 - ((R.c (i + 1)).c ((s : Int) + 2 - (i + 1)).toNat).val.tdiv q)) (Zm.val_mk _).symm (by omega) (Ag2.of_eq (by rw [ec]; rfl)))
     · repeat' first | ((first | refine z0 ?_ | (refine And.intro (fun h => ?_) (fun h => ?_) <;> (try simp only [cnt1, ints_length, rows_length, Tb_length, L_length, byts_length] at h) <;> first | (exfalso; first | omega | exact h trivial | (cases h; done)) | skip) | refine zV ?_ | (apply zI; refine zP vObt ?_) | (apply zI; refine zP vObx ?_)) <;> conv => whnf) | fail
       obtain rfl : i = s + 1 := by omega
       refine Exists.intro (s + 1) ⟨?_, ?_, ?_⟩
       · omega
       · omega
       first | refine WeakS.autoR ?_ | refine Weak.autoR ?_
       conv => whnf
       repeat' ((first | refine z1 ?_ | refine And.intro ?_ ?_ | exact trivial) <;> try (conv => whnf))
       all_goals first
         | exact rows_congr (congrArg (Tb n) (by rw [lwT, hG, hR]))
   · repeat' first | ((first | refine z0 ?_ | (refine And.intro (fun h => ?_) (fun h => ?_) <;> (try simp only [cnt1, ints_length, rows_length, Tb_length, L_length, byts_length] at h) <;> first | (exfalso; first | omega | exact h trivial | (cases h; done)) | skip) | refine zV ?_ | (apply zI; refine zP vObt ?_) | (apply zI; refine zP vObx ?_)) <;> conv => whnf) | fail
     obtain rfl : n = s + 2 := by omega
     generalize hG : lwT p most q (Zm.mk w p) A s = G at *
     refine loop_atR Tryz.tabOk mixOrd (α := Nat) (fun i => [(20, dint i), (14, .undef), (15, .undef), (40, .undef), (41, .undef), (43, .undef), (44, .undef), (45, .undef), (46, .undef), (47, .undef), (48, .undef)]) (fun i => [(4, some ⟨false, 1, rows true (mixR m G (s + 2) i)⟩)]) (fun i => i ≤ s + 2) (fun i => s + 2 - i) (0) ?_ ?_ ?_
     · omega
     · conv => whnf
       first | refine WeakS.autoR ?_ | refine Weak.autoR ?_
       conv => whnf
       repeat' ((first | refine z1 ?_ | refine And.intro ?_ ?_ | exact trivial) <;> try (conv => whnf))
       all_goals first | exact rows_congr (mixR_zero m G (s + 2)).symm
     intro i hi
     conv => whnf
     by_cases hin : i < s + 2
     · repeat' first | ((first | (apply zI; refine zP (vMixR (i := i) vIx hin) ?_) | (apply zI; refine zP (c_l02Rest hm hw _ (s + 2 - i) (by omega) (G.c i)) ?_) | (apply zI; refine zP (vMixG (i := i) vIx hin) ?_) | refine move_of ?_ | (apply zI; refine zP (rows_set _ _ _ _) ?_) | (refine And.intro (fun h => ?_) (fun h => ?_) <;> (try simp only [cnt1, ints_length, rows_length, Tb_length, L_length, byts_length] at h) <;> first | (exfalso; first | omega | exact h trivial | (cases h; done)) | skip) | refine zV ?_ | (apply zI; refine zP vObx ?_) | (refine And.intro ((by rw [rows_length, mixR_len]; first | (simp [cnt1]; done) | (simp only [place1, Int.toNat_natCast]; omega) | omega)) ?_) | refine Or.inl ?_) <;> conv => whnf) | fail
       refine Exists.intro (i + 1) ⟨?_, ?_, ?_⟩
       · omega
       · omega
       first | refine WeakS.autoR ?_ | refine Weak.autoR ?_
       conv => whnf
       repeat' ((first | refine z1 ?_ | refine And.intro ?_ ?_ | exact trivial) <;> try (conv => whnf))
       all_goals first
         | exact rows_congr ((congrArg (fun k => (mixR m G (s + 2) i).set k _) vIx).trans (mixR_set m G hin))
     · repeat' first | ((first | refine z0 ?_ | (refine And.intro (fun h => ?_) (fun h => ?_) <;> (try simp only [cnt1, ints_length, rows_length, Tb_length, L_length, byts_length] at h) <;> first | (exfalso; first | omega | exact h trivial | (cases h; done)) | skip) | refine zV ?_ | (refine And.intro ((by rw [rows_length, mixR_len]; simp [cnt1])) ?_)) <;> conv => whnf) | fail
       obtain rfl : i = s + 2 := by omega
       exact congrArg (D.list true 1) (rows_congr (by rw [mixR_full, Nat.add_sub_cancel, hG]))
end Go.Proofs
