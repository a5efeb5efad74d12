/- Parts of the proof. -/
import Derived.Test.YtghcpginhamelaaGreatK38
import Derived.Test.YtghcpginhamelaaGreatK33
import Derived.Test.YtghcpginhamelaaGreatK16
namespace Go.Proofs
open Go Go.Vm Go.Fg Go.Fg.PS
set_option maxRecDepth 100000
set_option maxHeartbeats 4000000
set_option linter.unusedSimpArgs false
set_option linter.unusedVariables false
variable {m : Int}
theorem Agh (q : Nat) (f : PS (PS (Zm m))) (k : Nat) : ∀ x ∈ cE q f k, PlainD x := fun x hx => by
 simp only [cE, List.mem_map] at hx
 obtain ⟨c, _, rfl⟩ := hx
 exact .list _ _ (zM _)
theorem Alu (q : Nat) (hq : 1 ≤ q) (hm : Md m) : cR (bA q (0 : PS (PS (Zm m)))) 0 0 1 = bA q (1 : PS (PS (Zm m))) :=
 jS (1 : Zm m) (Zm.val_one (by have := hm.1; omega)).symm (by omega) (fun a b _ _ => by
   rw [fP, PS.one_c]
   by_cases ha : a = 0
   · rw [if_pos ha, PS.one_c]
     by_cases hb : b = 0
     · rw [if_pos ⟨ha, hb⟩, if_pos hb]
     · rw [if_neg (by omega), if_neg hb]; rfl
   · rw [if_neg (by omega), if_neg ha]; rfl)
theorem H4 (hm : Md m) (o p : Bool) (N q : Nat) (hq : 1 ≤ q ∧ 2 * (q - 1) + 1 ≤ N ∧ N ≤ 100) (f : PS (PS (Zm m))) {Q : Int} (hQ : Q = q) : aL Tryz.prog 202 [cI m o p N f, aA Q] (.list true 1 (cE q f q)) := by
 subst hQ
 have hm1 := hm.1
 have hm2 := hm.2
 refine aX Tryz.tabOk aE Tryz.func202 rfl rfl ?_
 conv => whnf
 repeat' first | ((first | refine z0 ?_ | (refine zP (fun h => ?_) (fun h => ?_) <;> (try simp only [aB, aD] at h)) | refine zS ?_ | refine zV ?_ | (apply zI; refine zP aK ?_) | (apply zI; refine zP aH ?_) | refine zA ?_ | refine Alt.fst ?_ | refine Or.inl ?_) <;> conv => whnf) | fail
 refine aR Tryz.tabOk aE (α := Nat) (fun i => [(6, aA i), (5, .ref 1 [] 1 0 i), (11, .undef), (12, .undef), (13, .undef)]) (fun i => [(1, some ⟨false, 1, rows true (jR q i (0 : PS (PS (Zm m))))⟩)]) (fun i => i ≤ q) (fun i => q - i) (0) ?_ ?_ ?_
 · omega
 · conv => whnf
   first | refine aG.autoR ?_ | refine aC.autoR ?_
   conv => whnf
   repeat' ((first | refine z1 ?_ | refine zV ?_ | refine zP ?_ ?_ | exact trivial) <;> try (conv => whnf))
 intro i hi
 conv => whnf
 repeat' first | ((first | (refine zP (fun h => ?_) (fun h => ?_) <;> (try simp only [aB, aD] at h)) | refine zV ?_ | (apply zI; refine zP aH ?_) | refine zP (aW) ?_) <;> conv => whnf) | fail
 · refine Exists.intro (i + 1) (zP aJ (zP aJ ?_))
   first | refine aG.autoR ?_ | refine aC.autoR ?_
   conv => whnf
   repeat' ((first | refine z1 ?_ | refine zV ?_ | refine zP ?_ ?_ | exact trivial) <;> try (conv => whnf))
   exact bV (vK (by rw [wJ]; rfl))
 · have hiq : i = q := aJ
   rw [show jR q i (0 : PS (PS (Zm m))) = bA q 0 by rw [hiq, wG]]
   repeat' first | ((first | (apply zI; refine zP (eU (i := 0) aN aJ) ?_) | (apply zI; refine zP (jI (i := 0) (j := 0) _ aN aN aJ aJ) ?_) | (apply zI; refine zP (Adh _ _ N q hq f aF) ?_) | refine zV ?_ | refine zP (aJ) ?_ | refine Or.inl ?_) <;> conv => whnf) | fail
   rw [Alu q hq.1 hm]
   refine aR Tryz.tabOk aE (α := Nat) (fun k => [(10, aA ((k : Int) + 1)), (8, .ref 2 [] 1 0 (k + 1)), (5, .undef), (7, .undef), (22, .undef), (23, .undef), (24, .undef), (25, .undef), (26, .undef), (27, .undef), (28, .undef)]) (fun k => [(2, some ⟨false, 1, cE q f (k + 1)⟩)]) (fun k => k + 1 ≤ q) (fun k => q - k) (0) ?_ ?_ ?_
   · omega
   · conv => whnf
     first | refine aG.autoR ?_ | refine aC.autoR ?_
     conv => whnf
     repeat' ((first | refine z1 ?_ | refine zV ?_ | refine zP ?_ ?_ | exact trivial) <;> try (conv => whnf))
   intro k hk
   conv => whnf
   repeat' first | ((first | refine z0 ?_ | (apply zI; refine zP (pY k (by simp only [eY]; omega) aJ) ?_) | (apply zI; refine zP (pN k (by simp only [eY]; omega) aJ) ?_) | (apply zI; refine zP (kW aJ) ?_) | (apply zI; refine zP (Al2 hm q aF _ _ _ _ (pw f k) f) ?_) | (refine zP (fun h => ?_) (fun h => ?_) <;> (try simp only [aB, aD] at h)) | refine zS ?_ | refine zV ?_ | (apply zI; refine zP aH ?_) | refine zP (qO aJ) ?_ | refine zP (rX _) ?_ | refine zP (Agh _ _ _) ?_ | refine Alt.fst ?_ | refine Or.inl ?_) <;> conv => whnf) | fail
   · refine Exists.intro (k + 1) (zP aJ (zP aJ ?_))
     first | refine aG.autoR ?_ | refine aC.autoR ?_
     conv => whnf
     repeat' ((first | refine z1 ?_ | refine zV ?_ | refine zP ?_ ?_ | exact trivial) <;> try (conv => whnf))
     exact rA rfl
   · rw [show k + 1 = q by omega]
theorem Y4 (f g : PS (PS (Zm m))) {q i j : Nat} (h : q ≤ j) : bF q (iP f g i j) (iP f g (i + 1) 0) := fun a b ha hb => by
 rw [qG, qG]
 by_cases h1 : a < i + 1
 · rw [if_pos (by omega), if_pos (by omega)]
 · rw [if_neg (by omega), if_neg (by omega)]
theorem Afi (f g : PS (PS (Zm m))) {q i : Nat} (h : q ≤ i) : bF q (iP f g i 0) f := fun a b ha hb => by
 rw [qG, if_pos (by omega)]
theorem U3 (a : PS (Zm m)) (f : PS (PS (Zm m))) (n i j : Nat) : ((bC a f 0 (n + 1)).c i).c j = ((bC a f 0 n).c i).c j + a.c n * ((pw f n).c i).c j := by
 rw [wX, wX, cB]
def elN (a : PS (Zm m)) (f : PS (PS (Zm m))) (q i j k : Nat) : PS (Zm m) := (mix j ((bC a f 0 q).c i) 0).upd j (((bC a f 0 k).c i).c j)
theorem Api (a : PS (Zm m)) (f : PS (PS (Zm m))) (q i j : Nat) : elN a f q i j 0 = mix j ((bC a f 0 q).c i) 0 := by
 ext k
 unfold elN
 rw [cL]
 split
 · rename_i h; rw [h, wX, jJ, eG, if_neg (by omega)]; rfl
 · rfl
theorem As6 (a : PS (Zm m)) (f : PS (PS (Zm m))) (q i j : Nat) : elN a f q i j q = mix (j + 1) ((bC a f 0 q).c i) 0 := (sS j _ 0).symm
theorem Alr (a : PS (Zm m)) (f : PS (PS (Zm m))) (q i j k : Nat) : (elN a f q i j k).upd j ((elN a f q i j k).c j + a.c k * ((pw f k).c i).c j) = elN a f q i j (k + 1) := by
 ext l
 unfold elN
 rw [cL, cL, cL, cL, if_pos rfl]
 split
 · exact (U3 _ _ _ _ _).symm
 · rfl
theorem V7 (hm : Md m) (q : Nat) (hq : 1 ≤ q ∧ q ≤ 100) (oo o1 : Bool) (d3 d4 : D) (f : PS (PS (Zm m))) (a : PS (Zm m)) : aL Tryz.prog 285 [.cptr [aA m, aA q, .list oo 1 (cE q f q), d3, d4] 0, LD o1 q a] (gE true true q (bC a f 0 q)) := by
 have hm1 := hm.1
 have hm2 := hm.2
 refine aX Tryz.tabOk aE Tryz.func285 rfl rfl ?_
 conv => whnf
 repeat' first | ((first | (apply zI; refine zP (nA (m := m) q aF aF) ?_) | (apply zI; refine zP aH ?_) | refine Or.inl ?_) <;> conv => whnf) | fail
 refine aR Tryz.tabOk aE (α := Nat) (fun n => [(19, aA n), (9, .undef), (16, .undef)]) (fun n => [(0, some ⟨false, 1, rows true (bA q (bC a f 0 n))⟩)]) (fun n => n ≤ q) (fun n => q - n) (0) ?_ ?_ ?_
 · omega
 · conv => whnf
   first | refine aG.autoR ?_ | refine aC.autoR ?_
   conv => whnf
   repeat' ((first | refine z1 ?_ | refine zV ?_ | refine zP ?_ ?_ | exact trivial) <;> try (conv => whnf))
   all_goals rfl
 intro n hn
 conv => whnf
 repeat' first | ((first | refine z0 ?_ | (apply zI; refine zP (xH n aN aW) ?_) | (refine zP (fun h => ?_) (fun h => ?_) <;> (try simp only [aB, aD] at h)) | refine zV ?_ | (apply zI; refine zP aH ?_) | refine zP (D6 aW) ?_ | refine zP (aW) ?_) <;> conv => whnf) | fail
 · have hn' : n < q := aW
   refine aR Tryz.tabOk aE (α := Nat) (fun i => [(32, aA i), (9, .undef)]) (fun i => [(0, some ⟨false, 1, rows true (bA q (iP (bC a f 0 (n + 1)) (bC a f 0 n) i 0))⟩)]) (fun i => i ≤ q) (fun i => q - i) (0) ?_ ?_ ?_
   · omega
   · conv => whnf
     first | refine aG.autoR ?_ | refine aC.autoR ?_
     conv => whnf
     repeat' ((first | refine z1 ?_ | refine zV ?_ | refine zP ?_ ?_ | exact trivial) <;> try (conv => whnf))
     all_goals rw [Abp]
   intro i hi
   conv => whnf
   repeat' first | ((first | (apply zI; refine zP (nT (i := i) aN aW) ?_) | (refine zP (fun h => ?_) (fun h => ?_) <;> (try simp only [aB, aD] at h)) | refine zV ?_) <;> conv => whnf) | fail
   · have hi' : i < q := aW
     refine aR Tryz.tabOk aE (α := Nat) (fun j => [(39, aA j)]) (fun j => [(0, some ⟨false, 1, rows true (bA q (iP (bC a f 0 (n + 1)) (bC a f 0 n) i j))⟩)]) (fun j => j ≤ q) (fun j => q - j) (0) ?_ ?_ ?_
     · omega
     · conv => whnf
       first | refine aG.autoR ?_ | refine aC.autoR ?_
       conv => whnf
       repeat' ((first | refine z1 ?_ | refine zV ?_ | refine zP ?_ ?_ | exact trivial) <;> try (conv => whnf))
     intro j hj
     conv => whnf
     have x1 := hm.mul (a.c n) (((pw f n).c i).c j)
     have x2 := Zm.val_range hm.pos (((iP (bC a f 0 (n + 1)) (bC a f 0 n) i j).c i).c j)
     repeat' first | ((first | (apply zI; refine zP (eU (i := i) aN aW) ?_) | (apply zI; refine zP (pT (i := i) (j := j) aN aN aW aW) ?_) | (apply zI; refine zP (jI (i := i) (j := j) _ aN aN aW aW) ?_) | (refine zP (fun h => ?_) (fun h => ?_) <;> (try simp only [aB, aD] at h)) | refine zS ?_ | refine zV ?_ | (apply zI; refine zP aH ?_) | refine zP (aW) ?_) <;> conv => whnf) | fail
     · refine Exists.intro (j + 1) (zP aW (zP aW ?_))
       first | refine aG.autoR ?_ | refine aC.autoR ?_
       conv => whnf
       repeat' ((first | refine z1 ?_ | refine zV ?_ | refine zP ?_ ?_ | exact trivial) <;> try (conv => whnf))
       refine bV (jS _ (kO hm _ _ _) aW (bF.of_eq ?_))
       rw [Ad8, U3, Aqb]
     · have hj' : q ≤ j := aW
       refine Exists.intro (i + 1) (zP aW (zP aW ?_))
       first | refine aG.autoR ?_ | refine aC.autoR ?_
       conv => whnf
       repeat' ((first | refine z1 ?_ | refine zV ?_ | refine zP ?_ ?_ | exact trivial) <;> try (conv => whnf))
       exact bV (eS (Y4 _ _ hj'))
   · have hi' : q ≤ i := aW
     refine Exists.intro (n + 1) (zP aW (zP aW ?_))
     first | refine aG.autoR ?_ | refine aC.autoR ?_
     conv => whnf
     repeat' ((first | refine z1 ?_ | refine zV ?_ | refine zP ?_ ?_ | exact trivial) <;> try (conv => whnf))
     exact bV (eS (Afi _ _ hi'))
 · rw [show n = q from aW]
theorem Ae5 (hm : Md m) (q : Nat) (hq : 1 ≤ q ∧ q ≤ 100) (oo o1 : Bool) (f : PS (PS (Zm m))) (a : PS (Zm m)) : aL Tryz.prog 288 [aA m, .list oo 1 (cE q f q), LD o1 q a] (gE true true q (bC a f 0 q)) := by
 have hm1 := hm.1
 have hm2 := hm.2
 refine aX Tryz.tabOk aE Tryz.func288 rfl rfl ?_
 conv => whnf
 repeat' first | ((first | refine z0 ?_ | (refine zP (fun h => ?_) (fun h => ?_) <;> (try simp only [aB, aD] at h)) | refine zS ?_ | refine zV ?_ | (apply zI; refine zP aK ?_) | (apply zI; refine zP aH ?_) | refine zA ?_ | refine Alt.fst ?_ | refine Or.inl ?_) <;> conv => whnf) | fail
 refine aR Tryz.tabOk aE (α := Nat) (fun i => [(8, aA i), (7, .ref 0 [] 1 0 i), (9, .undef), (12, .undef)]) (fun i => [(0, some ⟨false, 1, rows true (jR q i (bC a f 0 q))⟩)]) (fun i => i ≤ q) (fun i => q - i) (0) ?_ ?_ ?_
 · omega
 · conv => whnf
   first | refine aG.autoR ?_ | refine aC.autoR ?_
   conv => whnf
   repeat' ((first | refine z1 ?_ | refine zV ?_ | refine zP ?_ ?_ | exact trivial) <;> try (conv => whnf))
 intro i hi
 conv => whnf
 repeat' first | ((first | refine z0 ?_ | (refine zP (fun h => ?_) (fun h => ?_) <;> (try simp only [aB, aD] at h)) | refine zV ?_ | (apply zI; refine zP aH ?_) | refine zP (aW) ?_) <;> conv => whnf) | fail
 · have hi' : i < q := aW
   refine aR Tryz.tabOk aE (α := Nat) (fun j => [(10, aA j)]) (fun j => [(1, some ⟨false, 1, ints (L q (mix j ((bC a f 0 q).c i) 0))⟩)]) (fun j => j ≤ q) (fun j => q - j) (0) ?_ ?_ ?_
   · omega
   · conv => whnf
     first | refine aG.autoR ?_ | refine aC.autoR ?_
     conv => whnf
     repeat' ((first | refine z1 ?_ | refine zV ?_ | refine zP ?_ ?_ | exact trivial) <;> try (conv => whnf))
     all_goals rw [kI, fT]
   intro j hj
   conv => whnf
   repeat' first | ((first | (refine zP (fun h => ?_) (fun h => ?_) <;> (try simp only [aB, aD] at h)) | refine zV ?_ | (apply zI; refine zP aH ?_) | refine zP (aW) ?_) <;> conv => whnf) | fail
   · have hj' : j < q := aW
     refine aR Tryz.tabOk aE (α := Nat) (fun k => [(11, aA k)]) (fun k => [(1, some ⟨false, 1, ints (L q (elN a f q i j k))⟩)]) (fun k => k ≤ q) (fun k => q - k) (0) ?_ ?_ ?_
     · omega
     · conv => whnf
       first | refine aG.autoR ?_ | refine aC.autoR ?_
       conv => whnf
       repeat' ((first | refine z1 ?_ | refine zV ?_ | refine zP ?_ ?_ | exact trivial) <;> try (conv => whnf))
       all_goals rw [Api]
     intro k hk
     conv => whnf
     have x1 := hm.mul (a.c k) (((pw f k).c i).c j)
     have x2 := Zm.val_range hm.pos ((elN a f q i j k).c j)
     repeat' first | ((first | (apply zI; refine zP (xH k aN aW) ?_) | (apply zI; refine zP (nT (i := i) aN aW) ?_) | (apply zI; refine zP (vO (l := j) aN aW) ?_) | (refine zP (fun h => ?_) (fun h => ?_) <;> (try simp only [aB, aD] at h)) | refine zS ?_ | refine zV ?_ | (apply zI; refine zP aH ?_) | refine zP (D6 aW) ?_ | refine zP (Aef aW) ?_) <;> conv => whnf) | fail
     · refine Exists.intro (k + 1) (zP aW (zP aW ?_))
       first | refine aG.autoR ?_ | refine aC.autoR ?_
       conv => whnf
       repeat' ((first | refine z1 ?_ | refine zV ?_ | refine zP ?_ ?_ | exact trivial) <;> try (conv => whnf))
       exact cQ (eW _ (kO hm _ _ _) (Ag.of_eq (Alr a f q i j k)))
     · have hk' : k = q := aW
       refine Exists.intro (j + 1) (zP aW (zP aW ?_))
       first | refine aG.autoR ?_ | refine aC.autoR ?_
       conv => whnf
       repeat' ((first | refine z1 ?_ | refine zV ?_ | refine zP ?_ ?_ | exact trivial) <;> try (conv => whnf))
       rw [hk', As6]
   · have hj' : q ≤ j := aW
     refine Exists.intro (i + 1) (zP aW (zP aW ?_))
     first | refine aG.autoR ?_ | refine aC.autoR ?_
     conv => whnf
     repeat' ((first | refine z1 ?_ | refine zV ?_ | refine zP ?_ ?_ | exact trivial) <;> try (conv => whnf))
     exact bV (vK (dW (fun k hk => by rw [eG, if_pos (by omega)])))
 · rw [show i = q from aW, wG]
def gU (f : PS (PS (Zm m))) (a : PS (Zm m)) (q : Nat) : Nat → PS (Zm m)
 | 0 => a
 | i + 1 => kZ f (gU f a q i) a q
theorem Ae4 (o : Bool) (l : List Int) (hl : l.length ≤ 1048576) : aL Tryz.prog 143 [.list o 1 (ints l)] (.list true 1 (ints l)) := by
 refine aX Tryz.tabOk aE Tryz.func143 rfl rfl ?_
 conv => whnf
 repeat' first | ((first | refine z0 ?_ | (refine zP (fun h => ?_) (fun h => ?_) <;> (try simp only [aB, aD] at h)) | refine zS ?_ | refine zV ?_ | (apply zI; refine zP aK ?_) | (apply zI; refine zP aH ?_) | refine zA ?_ | refine Alt.fst ?_ | refine Or.inl ?_) <;> conv => whnf) | fail
 rfl
theorem Ary (hm : Md m) (q : Nat) (hq : 1 ≤ q ∧ q ≤ 100) (oo o1 : Bool) (d3 d4 : D) (f : PS (PS (Zm m))) (a : PS (Zm m)) (e : Nat) (he : e ≤ 1000) {E : Int} (hE : E = (e : Int) + 1) : aL Tryz.prog 201 [.cptr [aA m, aA q, .list oo 1 (cE q f q), d3, d4] 0, LD o1 q a, aA E] (LD true q (gU f a q e)) := by
 subst hE
 have hm1 := hm.1
 have hm2 := hm.2
 refine aX Tryz.tabOk aE Tryz.func201 rfl rfl ?_
 conv => whnf
 repeat' first | ((first | (apply zI; refine zP (Ae4 _ (L q a) (by rw [aV]; omega)) ?_) | refine zV ?_ | refine Or.inl ?_) <;> conv => whnf) | fail
 refine aR Tryz.tabOk aE (α := Nat) (fun i => [(12, aA i), (9, .undef), (7, .ref 0 [] 1 0 q)]) (fun i => [(0, some ⟨false, 1, ints (L q (gU f a q i))⟩)]) (fun i => i ≤ e) (fun i => e - i) (0) ?_ ?_ ?_
 · omega
 · conv => whnf
   first | refine aG.autoR ?_ | refine aC.autoR ?_
   conv => whnf
   repeat' ((first | refine z1 ?_ | refine zV ?_ | refine zP ?_ ?_ | exact trivial) <;> try (conv => whnf))
   all_goals first
     | rfl
     | exact aW
 intro i hi
 conv => whnf
 repeat' first | ((first | refine z0 ?_ | (apply zI; refine zP (Ahs hm q hq _ _ _ _ _ f (gU f a q i) a) ?_) | (refine zP (fun h => ?_) (fun h => ?_) <;> (try simp only [aB, aD] at h)) | refine zV ?_ | (apply zI; refine zP aH ?_) | refine Or.inl ?_) <;> conv => whnf) | fail
 · refine Exists.intro (i + 1) (zP aW (zP aW ?_))
   first | refine aG.autoR ?_ | refine aC.autoR ?_
   conv => whnf
   repeat' ((first | refine z1 ?_ | refine zV ?_ | refine zP ?_ ?_ | exact trivial) <;> try (conv => whnf))
   all_goals first
     | rfl
     | exact aW
 · rw [show i = e from aW]
def dM (gl : Bool) (a : PS (Zm m)) : PS (PS (Zm m)) := pl fun i j => if gl then a.c i * a.c j else if j = 0 then a.c i else if i = 0 then a.c j else 0
def eD (a : PS (Zm m)) : Nat → PS (PS (Zm m))
 | 0 => 0
 | k + 1 => bT (bT (eD a k) k 0 (((eD a k).c k).c 0 + a.c k)) 0 k (((bT (eD a k) k 0 (((eD a k).c k).c 0 + a.c k)).c 0).c k + a.c k)
theorem Aca (a : PS (Zm m)) (h0 : a.c 0 = 0) : ∀ k i j, ((eD a k).c i).c j = if j = 0 ∧ i < k then a.c i else if i = 0 ∧ j < k then a.c j else 0
 | 0, i, j => by rw [if_neg (by omega), if_neg (by omega)]; rfl
 | k + 1, i, j => by
   have ih := Aca a h0 k
   have e1 : ((eD a k).c k).c 0 = 0 := by
     rw [ih, if_neg (by omega)]
     split
     · rename_i h; rw [h.1] at h; omega
     · rfl
   simp only [eD]
   rw [e1, CR.zero_add]
   have e2 : ((bT (eD a k) k 0 (a.c k)).c 0).c k = 0 := by
     rw [fP]
     split
     · rename_i h; rw [← h.1]; exact h0
     · rw [ih]
       split
       · rename_i h; omega
       · rw [if_neg (by omega)]
   rw [e2, CR.zero_add, fP, fP, ih]
   by_cases hk : k = 0
   · subst hk
     by_cases hi : i = 0 ∧ j = 0
     · obtain ⟨rfl, rfl⟩ := hi
       rw [if_pos ⟨rfl, rfl⟩, if_pos ⟨rfl, by omega⟩]
     · rw [if_neg (by omega), if_neg (by omega), if_neg (by omega), if_neg (by omega), if_neg (by omega), if_neg (by omega)]
   · by_cases h1 : i = 0 ∧ j = k
     · obtain ⟨rfl, rfl⟩ := h1
       rw [if_pos ⟨rfl, rfl⟩, if_neg (by omega), if_pos ⟨rfl, by omega⟩]
     · rw [if_neg h1]
       by_cases h2 : i = k ∧ j = 0
       · obtain ⟨rfl, rfl⟩ := h2
         rw [if_pos ⟨rfl, rfl⟩, if_pos ⟨rfl, by omega⟩]
       · rw [if_neg h2]
         by_cases h3 : j = 0 ∧ i < k
         · rw [if_pos h3, if_pos ⟨h3.1, by omega⟩]
         · rw [if_neg h3, if_neg (show ¬ (j = 0 ∧ i < k + 1) by omega)]
           by_cases h4 : i = 0 ∧ j < k
           · rw [if_pos h4, if_pos ⟨h4.1, by omega⟩]
           · rw [if_neg h4, if_neg (by omega)]
def cY (gl : Bool) : Nat := if gl then 1 else 0
noncomputable def jY {m : Int} (gl : Bool) (q : Nat) (f : PS (PS (Zm m))) (u : List Int) : Bool := decide (bA q (bC (rd m u) f 0 q) = bA q (dM gl (rd m u)))
noncomputable def bU {m : Int} (gl : Bool) (q : Nat) (f : PS (PS (Zm m))) (u : List Int) : Bool := decide (u.getD 0 0 = (cY gl : Int)) && jY gl q f u
theorem Aku (a : PS (Zm m)) (h0 : a.c 0 = 0) (q : Nat) : bF q (eD a q) (dM false a) := fun i j hi hj => by
 rw [Aca a h0]
 show _ = (if j = 0 then a.c i else if i = 0 then a.c j else 0)
 by_cases h : j = 0
 · rw [if_pos ⟨h, hi⟩, if_pos h]
 · rw [if_neg (fun c => h c.1), if_neg h]
   by_cases h2 : i = 0
   · rw [if_pos ⟨h2, hj⟩, if_pos h2]
   · rw [if_neg (fun c => h2 c.1), if_neg h2]
theorem Agq (o o' : Bool) (l l' : List Int) (hl : l.length ≤ 1048576) : aL Tryz.prog 329 [.list o 1 (ints l), .list o' 1 (ints l')] (bD (decide (l = l'))) := by
 refine aX Tryz.tabOk aE Tryz.func329 rfl rfl ?_
 conv => whnf
 repeat' first | ((first | refine z0 ?_ | (apply zI; refine zP (Ajh _ _ _ _ hl) ?_) | (refine zP (fun h => ?_) (fun h => ?_) <;> (try simp only [aB, aD] at h)) | refine Or.inl ?_) <;> conv => whnf) | fail
 all_goals (refine bO ?_; first | rfl | (simp_all []; done) | (simp_all []; omega) | (simp_all []; intros; omega))
theorem Ams (o o' p p' : Bool) (t t' : List (List Int)) (hl : t.length ≤ 1048576) (hr : dP t) : aL Tryz.prog 309 [.list o 1 (rows p t), .list o' 1 (rows p' t'), .fn (.func 329) [] []] (bD (decide (t = t'))) := by
 refine aX Tryz.tabOk aE Tryz.func309 rfl rfl ?_
 conv => whnf
 repeat' first | ((first | refine z0 ?_ | (refine zP (fun h => ?_) (fun h => ?_) <;> (try simp only [aB, aD] at h)) | refine zS ?_ | refine zV ?_ | (apply zI; refine zP aK ?_) | (apply zI; refine zP aH ?_) | refine zA ?_ | refine Alt.fst ?_ | refine Or.inl ?_) <;> conv => whnf) | fail
 · refine bO ?_
   rw [eq_comm, decide_eq_false_iff_not]
   intro e; subst e; simp_all
 · have hlen : t.length = t'.length := by simp only [aP] at *; omega
   refine aR Tryz.tabOk aE (α := Nat) (fun i => [(17, aA i)]) (fun i => []) (fun i => i ≤ t.length ∧ ∀ j, j < i → t.getD j [] = t'.getD j []) (fun i => t.length - i) (0) ?_ ?_ ?_
   · exact ⟨by omega, by omega⟩
   · conv => whnf
     first | refine aG.autoR ?_ | refine aC.autoR ?_
     conv => whnf
     repeat' ((first | refine z1 ?_ | refine z2 ?_ | refine zV ?_ | refine zP bQ ?_ | refine zP bR ?_ | refine zP ?_ ?_ | exact trivial) <;> try (conv => whnf))
   intro i hi
   conv => whnf
   repeat' first | ((first | refine z0 ?_ | (apply zI; refine zP (Agq _ _ _ _ (hr i aF)) ?_) | (refine zP (fun h => ?_) (fun h => ?_) <;> (try simp only [aB, aD] at h)) | refine zV ?_ | (apply zI; refine zP aH ?_) | refine Or.inl ?_) <;> conv => whnf) | fail
   · refine Exists.intro (i + 1) (zP ⟨aF, kP hi.2 (of_decide_eq_true (by assumption))⟩ (zP aF ?_))
     first | refine aG.autoR ?_ | refine aC.autoR ?_
     conv => whnf
     repeat' ((first | refine z1 ?_ | refine z2 ?_ | refine zV ?_ | refine zP bQ ?_ | refine zP bR ?_ | refine zP ?_ ?_ | exact trivial) <;> try (conv => whnf))
   · refine bO ?_
     rw [eq_comm, decide_eq_false_iff_not]
     intro e; subst e
     have := of_decide_eq_false (by assumption)
     exact this rfl
   · refine bO ?_
     rw [eq_comm, decide_eq_true_iff]
     exact Asc hlen (fun j hj => hi.2 j aF)
theorem Abt (o o' p p' : Bool) (t t' : List (List Int)) (hl : t.length ≤ 1048576) (hr : dP t) : aL Tryz.prog 284 [.list o 1 (rows p t), .list o' 1 (rows p' t')] (bD (decide (t = t'))) := by
 refine aX Tryz.tabOk aE Tryz.func284 rfl rfl ?_
 conv => whnf
 repeat' first | ((first | refine z0 ?_ | (apply zI; refine zP (Ams _ _ _ _ _ _ hl hr) ?_) | (refine zP (fun h => ?_) (fun h => ?_) <;> (try simp only [aB, aD] at h)) | refine Or.inl ?_) <;> conv => whnf) | fail
 all_goals (refine bO ?_; first | rfl | (simp_all []; done) | (simp_all []; omega) | (simp_all []; intros; omega))
theorem S1 {q : Nat} (hq : q ≤ 100) (F : PS (PS (Zm m))) : dP (bA q F) := fun i hi => by
 rw [iU F (by simpa using hi)]; simp; omega
theorem Ahx (hm : Md m) (q : Nat) (hq : 1 ≤ q ∧ q ≤ 100) (oo o1 : Bool) (d3 d4 : D) (f : PS (PS (Zm m))) (a : PS (Zm m)) : aL Tryz.prog 193 [.cptr [aA m, aA q, .list oo 1 (cE q f q), d3, d4] 0, LD o1 q a] (bD (decide ((a.c 0).val = 1) && decide (bA q (bC a f 0 q) = bA q (dM true a)))) := by
 have hm1 := hm.1
 have hm2 := hm.2
 refine aX Tryz.tabOk aE Tryz.func193 rfl rfl ?_
 conv => whnf
 repeat' first | ((first | (apply zI; refine zP (nA (m := m) q aF aF) ?_) | (apply zI; refine zP aH ?_) | refine Or.inl ?_) <;> conv => whnf) | fail
 refine aR Tryz.tabOk aE (α := Nat) (fun i => [(17, aA i), (6, .undef), (7, .undef)]) (fun i => [(0, some ⟨false, 1, rows true (bA q (iP (dM true a) 0 i 0))⟩)]) (fun i => i ≤ q) (fun i => q - i) (0) ?_ ?_ ?_
 · omega
 · conv => whnf
   first | refine aG.autoR ?_ | refine aC.autoR ?_
   conv => whnf
   repeat' ((first | refine z1 ?_ | refine z2 ?_ | refine zV ?_ | refine zP bQ ?_ | refine zP bR ?_ | refine zP ?_ ?_ | exact trivial) <;> try (conv => whnf))
   all_goals rw [Abp]
 intro i hi
 conv => whnf
 repeat' first | ((first | refine z0 ?_ | (refine zP (fun h => ?_) (fun h => ?_) <;> (try simp only [aB, aD] at h)) | refine zS ?_ | refine zV ?_ | (apply zI; refine zP aH ?_) | refine Or.inl ?_) <;> conv => whnf) | fail
 · have hi' : i < q := aW
   refine aR Tryz.tabOk aE (α := Nat) (fun j => [(24, aA j), (8, .undef), (9, .undef)]) (fun j => [(0, some ⟨false, 1, rows true (bA q (iP (dM true a) 0 i j))⟩)]) (fun j => j ≤ q) (fun j => q - j) (0) ?_ ?_ ?_
   · omega
   · conv => whnf
     first | refine aG.autoR ?_ | refine aC.autoR ?_
     conv => whnf
     repeat' ((first | refine z1 ?_ | refine z2 ?_ | refine zV ?_ | refine zP bQ ?_ | refine zP bR ?_ | refine zP ?_ ?_ | exact trivial) <;> try (conv => whnf))
   intro j hj
   conv => whnf
   have x1 := hm.mul (a.c i) (a.c j)
   repeat' first | ((first | (apply zI; refine zP (eU (i := i) aN aW) ?_) | (apply zI; refine zP (pT (i := i) (j := j) aN aN aW aW) ?_) | (apply zI; refine zP (jI (i := i) (j := j) _ aN aN aW aW) ?_) | (refine zP (fun h => ?_) (fun h => ?_) <;> (try simp only [aB, aD] at h)) | refine zS ?_ | refine zV ?_ | (apply zI; refine zP aH ?_) | refine zP (aW) ?_) <;> conv => whnf) | fail
   · refine Exists.intro (j + 1) (zP aW (zP aW ?_))
     first | refine aG.autoR ?_ | refine aC.autoR ?_
     conv => whnf
     repeat' ((first | refine z1 ?_ | refine z2 ?_ | refine zV ?_ | refine zP bQ ?_ | refine zP bR ?_ | refine zP ?_ ?_ | exact trivial) <;> try (conv => whnf))
     refine bV (jS _ (fF hm _ _) aW (bF.of_eq ?_))
     rw [Ad8]
     rfl
   · have hj' : q ≤ j := aW
     refine Exists.intro (i + 1) (zP aW (zP aW ?_))
     first | refine aG.autoR ?_ | refine aC.autoR ?_
     conv => whnf
     repeat' ((first | refine z1 ?_ | refine z2 ?_ | refine zV ?_ | refine zP bQ ?_ | refine zP bR ?_ | refine zP ?_ ?_ | exact trivial) <;> try (conv => whnf))
     exact bV (eS (Y4 _ _ hj'))
 · have hiq : i = q := aW
   rw [show bA q (iP (dM true a) 0 i 0) = bA q (dM true a) from eS (Afi _ _ (by omega))]
   repeat' first | ((first | refine z0 ?_ | (apply zI; refine zP (kW aJ) ?_) | (apply zI; refine zP (V7 hm q hq _ _ _ _ f a) ?_) | (apply zI; refine zP (Abt _ _ _ _ (bA q (bC a f 0 q)) (bA q (dM true a)) (by simp; omega) (S1 (by omega) _)) ?_) | (refine zP (fun h => ?_) (fun h => ?_) <;> (try simp only [aB, aD] at h)) | refine zV ?_ | (apply zI; refine zP aH ?_) | refine zP (aW) ?_ | refine Or.inl ?_) <;> conv => whnf) | fail
   all_goals (refine bO ?_; first | rfl | (simp_all []; done) | (simp_all []; omega) | (simp_all []; intros; omega))
 · all_goals (refine bO ?_; first | rfl | (simp_all []; done) | (simp_all []; omega) | (simp_all []; intros; omega))
theorem Aor (hm : Md m) (q : Nat) (hq : 1 ≤ q ∧ q ≤ 100) (oo o1 : Bool) (d3 d4 : D) (f : PS (PS (Zm m))) (a : PS (Zm m)) : aL Tryz.prog 196 [.cptr [aA m, aA q, .list oo 1 (cE q f q), d3, d4] 0, LD o1 q a] (bD (decide ((a.c 0).val = 0) && decide (bA q (bC a f 0 q) = bA q (eD a q)))) := by
 have hm1 := hm.1
 have hm2 := hm.2
 refine aX Tryz.tabOk aE Tryz.func196 rfl rfl ?_
 conv => whnf
 repeat' first | ((first | (apply zI; refine zP (nA (m := m) q aF aF) ?_) | (apply zI; refine zP aH ?_) | refine Or.inl ?_) <;> conv => whnf) | fail
 refine aR Tryz.tabOk aE (α := Nat) (fun i => [(15, aA i), (6, .undef), (7, .undef)]) (fun i => [(0, some ⟨false, 1, rows true (bA q (eD a i))⟩)]) (fun i => i ≤ q) (fun i => q - i) (0) ?_ ?_ ?_
 · omega
 · conv => whnf
   first | refine aG.autoR ?_ | refine aC.autoR ?_
   conv => whnf
   repeat' ((first | refine z1 ?_ | refine z2 ?_ | refine zV ?_ | refine zP bQ ?_ | refine zP bR ?_ | refine zP ?_ ?_ | exact trivial) <;> try (conv => whnf))
   all_goals rfl
 intro i hi
 conv => whnf
 have x1 := Zm.val_range hm.pos (a.c i)
 have x2 := Zm.val_range hm.pos (((eD a i).c i).c 0)
 have x3 := Zm.val_range hm.pos (((bT (eD a i) i 0 (((eD a i).c i).c 0 + a.c i)).c 0).c i)
 have e1 : cR (bA q (eD a i)) i 0 (((((eD a i).c i).c 0).val + (a.c i).val).tmod m) = bA q (bT (eD a i) i 0 (((eD a i).c i).c 0 + a.c i)) ∨ ¬ i < q := by
   by_cases h : i < q
   · exact .inl (jS _ (rM hm _ _) h (bF.of_eq rfl))
   · exact .inr h
 have e2 : cR (bA q (bT (eD a i) i 0 (((eD a i).c i).c 0 + a.c i))) 0 i (((((bT (eD a i) i 0 (((eD a i).c i).c 0 + a.c i)).c 0).c i).val + (a.c i).val).tmod m) = bA q (eD a (i + 1)) :=
   jS _ (rM hm _ _) (by omega) (bF.of_eq rfl)
 repeat' first | ((first | refine z0 ?_ | (apply zI; refine zP (eU (i := i) aN aW) ?_) | (apply zI; refine zP (pT (i := i) (j := 0) aN aN aW aW) ?_) | (apply zI; refine zP (jI (i := i) (j := 0) _ aN aN aW aW) ?_) | (apply zI; refine zP (kW aJ) ?_) | (apply zI; refine zP (V7 hm q hq _ _ _ _ f a) ?_) | (refine zP (fun h => ?_) (fun h => ?_) <;> (try simp only [aB, aD] at h)) | refine zS ?_ | refine zV ?_ | (apply zI; refine zP aH ?_) | refine zP (aW) ?_ | refine Or.inl ?_) <;> conv => whnf) | fail
 · rw [e1.resolve_right (by have : i < q := aW; omega)]
   repeat' first | ((first | (apply zI; refine zP (eU (i := 0) aN aW) ?_) | (apply zI; refine zP (pT (i := 0) (j := i) aN aN aW aW) ?_) | (apply zI; refine zP (jI (i := 0) (j := i) _ aN aN aW aW) ?_) | refine zV ?_ | (apply zI; refine zP aH ?_) | refine zP (aW) ?_) <;> conv => whnf) | fail
   refine Exists.intro (i + 1) (zP aW (zP aW ?_))
   first | refine aG.autoR ?_ | refine aC.autoR ?_
   conv => whnf
   repeat' ((first | refine z1 ?_ | refine z2 ?_ | refine zV ?_ | refine zP bQ ?_ | refine zP bR ?_ | refine zP ?_ ?_ | exact trivial) <;> try (conv => whnf))
   exact congrArg (rows true) e2
 · have hiq : i = q := aW
   subst hiq
   repeat' first | ((first | refine z0 ?_ | (apply zI; refine zP (Abt _ _ _ _ (bA i (bC a f 0 i)) (bA i (eD a i)) (by simp; omega) (S1 (by omega) _)) ?_) | (refine zP (fun h => ?_) (fun h => ?_) <;> (try simp only [aB, aD] at h))) <;> conv => whnf) | fail
   all_goals (refine bO ?_; first | rfl | (simp_all []; done) | (simp_all []; omega) | (simp_all []; intros; omega))
 · all_goals (refine bO ?_; first | rfl | (simp_all []; done) | (simp_all []; omega) | (simp_all []; intros; omega))
end Go.Proofs
namespace Go.Proofs
open Go Go.Vm Go.Fg Go.Fg.PS
set_option maxRecDepth 100000
set_option maxHeartbeats 4000000
set_option linter.unusedSimpArgs false
set_option linter.unusedVariables false
theorem Aar (p q : Nat) (hp : 2 ≤ p ∧ p ≤ 100) (hq : 1 ≤ q ∧ q ≤ 100) (hpq : p ^ q ≤ 1000000) (d2 d3 d4 : D) (g : Nat)  (good : List Int → Bool)
   (hf : ∀ u : List Int, u.length = q → (∀ x ∈ u, 0 ≤ x ∧ x < (p : Int)) → aL Tryz.prog g [eN p q d2 d3 d4, .list false 1 (ints u)] (bD (good u))) :
   aL Tryz.prog 192 [eN p q d2 d3 d4, .fn (.func g) [eN p q d2 d3 d4] []] (.list true 1 (rows true (ext p good q []))) := by
 have key := Y8 p q hp hq d2 d3 d4 g good hf q [] [] (by simp) (by simp) (by simpa using hpq)
 refine aX Tryz.tabOk aE Tryz.func192 rfl rfl ?_
 conv => whnf
 repeat' first | ((refine xQ 0 5 (xs' := ints []) rfl rfl rfl rfl ?_; refine jA [0, 1, 3, 4, 2] key (by decide) ?_ (by simp) ?_; (focus ((conv => whnf); (repeat' ((first | exact trivial | refine zP rfl ?_ | refine zP (lV aF) ?_ | refine zP bP ?_) <;> (conv => whnf))); done)); conv => whnf)) | ((first | refine z0 ?_ | refine zV ?_ | refine Or.inl ?_) <;> conv => whnf) | fail
 rfl
theorem Am1 (p q : Nat) (hp : 2 ≤ p ∧ p ≤ 100) (hq : 1 ≤ q ∧ q ≤ 100) (hpq : p ^ q ≤ 1000000) (d2 d3 d4 : D) (g : Nat) (e1 e2 : D) (good : List Int → Bool)
   (hf : ∀ u : List Int, u.length = q → (∀ x ∈ u, 0 ≤ x ∧ x < (p : Int)) → aL Tryz.prog g [.list false 1 (ints u), .cptr [e1] 0, .cptr [e2] 0] (bD (good u))) :
   aL Tryz.prog 192 [eN p q d2 d3 d4, .fn (.func g) [] [.cptr [e1] 0, .cptr [e2] 0]] (.list true 1 (rows true (ext p good q []))) := by
 have key := Afe p q hp hq d2 d3 d4 g e1 e2 good hf q [] [] (by simp) (by simp) (by simpa using hpq)
 refine aX Tryz.tabOk aE Tryz.func192 rfl rfl ?_
 conv => whnf
 repeat' first | ((refine xQ 0 5 (xs' := ints []) rfl rfl rfl rfl ?_; refine jA [0, 1, 3, 4, 2] key (by decide) ?_ (by simp) ?_; (focus ((conv => whnf); (repeat' ((first | exact trivial | refine zP rfl ?_ | refine zP (lV aF) ?_ | refine zP bP ?_) <;> (conv => whnf))); done)); conv => whnf)) | ((first | refine z0 ?_ | refine zV ?_ | refine Or.inl ?_) <;> conv => whnf) | fail
 rfl
end Go.Proofs
namespace Go.Proofs
open Go Go.Vm Go.Fg Go.Fg.PS
set_option maxRecDepth 100000
set_option maxHeartbeats 4000000
set_option linter.unusedSimpArgs false
set_option linter.unusedVariables false
variable {m : Int}
theorem Abd (x y : PS (Zm m)) : (x * y).c 1 = x.c 0 * y.c 1 + x.c 1 * y.c 0 := by
 rw [cN, cB, cB, jJ, CR.zero_add]
theorem E5 (x : PS (Zm m)) (hx : x.c 0 = 0) (k : Nat) : (pw x k).c 0 = if k = 0 then 1 else 0 := by
 cases k with
 | zero => rfl
 | succ k => rw [cV, mul_c0, hx, Go.Fg.mul_zero, if_neg (by omega)]
theorem Abc (x : PS (Zm m)) (hx : x.c 0 = 0) (k : Nat) : (pw x k).c 1 = if k = 1 then x.c 1 else 0 := by
 match k with
 | 0 => rfl
 | 1 => rw [pw_one, if_pos rfl]
 | k + 2 => rw [cV, Abd, hx, Go.Fg.mul_zero, E5 x hx, if_neg (by omega), Go.Fg.zero_mul, CR.zero_add, if_neg (by omega)]
theorem I2 {f : PS (PS (Zm m))} {a b : PS (Zm m)} {n : Nat} (hn : 2 ≤ n) (h1 : (f.c 1).c 0 = 1) (h2 : (f.c 0).c 1 = 1) (ha : a.c 0 = 0) (hb : b.c 0 = 0) : (cO f a b n).c 1 = a.c 1 + b.c 1 := by
 obtain ⟨k, rfl⟩ : ∃ k, n = k + 2 := ⟨n - 2, by omega⟩
 unfold cO fU
 rw [add_c, sm_c, sm_c, jJ]
 have ht : ∀ i j, (PS.C ((f.c i).c j) * (pw a i * pw b j)).c 1 = (f.c i).c j * ((if i = 0 then 1 else 0) * (if j = 1 then b.c 1 else 0) + (if i = 1 then a.c 1 else 0) * (if j = 0 then 1 else 0)) := fun i j => by
   rw [C_mul, Abd, E5 a ha, E5 b hb, Abc a ha, Abc b hb]
 have hi : ∀ i, (sm (k + 2 - i) fun j => PS.C ((f.c i).c j) * (pw a i * pw b j)).c 1 = if i = 0 then b.c 1 else if i = 1 then a.c 1 else 0 := fun i => by
   rw [sm_c]
   by_cases h0 : i = 0
   · subst h0
     rw [if_pos rfl, eQ 1 (by omega) (fun j hj hne => by rw [ht, if_pos rfl, if_neg hne, if_neg (by omega), Go.Fg.mul_zero, Go.Fg.zero_mul, CR.zero_add, Go.Fg.mul_zero])]
     rw [ht, if_pos rfl, if_pos rfl, if_neg (by omega), Go.Fg.zero_mul, Go.Fg.add_zero, h2, CR.one_mul, CR.one_mul]
   · rw [if_neg h0]
     by_cases h1' : i = 1
     · subst h1'
       rw [if_pos rfl, eQ 0 (by omega) (fun j hj hne => by rw [ht, if_neg (by omega), if_neg hne, Go.Fg.zero_mul, Go.Fg.mul_zero, CR.zero_add, Go.Fg.mul_zero])]
       rw [ht, if_neg (by omega), if_pos rfl, if_pos rfl, Go.Fg.zero_mul, CR.zero_add, Go.Fg.mul_one, h1, CR.one_mul]
     · rw [if_neg h1']
       exact dH fun j _ => by rw [ht, if_neg h0, if_neg h1', Go.Fg.zero_mul, Go.Fg.zero_mul, CR.zero_add, Go.Fg.mul_zero]
 rw [bS (fun i _ => hi i), oW, oW, if_pos rfl, if_neg (by omega), if_pos rfl]
 rw [dH (fun i _ => by rw [if_neg (by omega), if_neg (by omega)])]
 rw [Go.Fg.add_zero, Go.Fg.add_zero, CR.add_comm]
theorem Mul.c1 {f : PS (PS (Zm m))} {n k : Nat} {out a r : PS (Zm m)} (hn : 2 ≤ n) (h1 : (f.c 1).c 0 = 1) (h2 : (f.c 0).c 1 = 1) (hf : (f.c 0).c 0 = 0) (h : Mul f n k out a r) (ho : out.c 0 = 0) (ha : a.c 0 = 0) : r.c 1 = out.c 1 + Zm.mk m k * a.c 1 := by
 induction h with
 | zero out a => rw [show Zm.mk m ((0 : Nat) : Int) = 0 from rfl, Go.Fg.zero_mul, Go.Fg.add_zero]
 | odd k out a r hk h ih =>
   rw [ih (nF hf ho ha) (nF hf ha ha), I2 hn h1 h2 ho ha, I2 hn h1 h2 ha ha]
   rw [show (k : Int) = ((k / 2 : Nat) : Int) + ((k / 2 : Nat) : Int) + 1 by omega, Zm.mk_add, Zm.mk_add, Zm.mk_one, Go.Fg.add_mul, Go.Fg.add_mul, CR.one_mul, CR.mul_add]
   ac_rfl
 | even k out a r hk hk2 h ih =>
   rw [ih ho (nF hf ha ha), I2 hn h1 h2 ha ha]
   rw [show (k : Int) = ((k / 2 : Nat) : Int) + ((k / 2 : Nat) : Int) by omega, Zm.mk_add, Go.Fg.add_mul, CR.mul_add]
theorem Aqk (hm : Md m) {f : PS (PS (Zm m))} {n : Nat} (hn : 2 ≤ n) (hf : mL f n) : (iF f n).c 1 = 0 := by
 have hm1 := hm.1
 have h00 : (f.c 0).c 0 = 0 := by rw [hf.1 0 (by omega)]; rfl
 have h10 : (f.c 1).c 0 = 1 := by rw [hf.1 1 (by omega)]; rfl
 have h01 : (f.c 0).c 1 = 1 := by rw [hf.2.1 0 1 (by omega)]; exact h10
 rw [(uZ f n).c1 hn h10 h01 h00 rfl rfl, Int.toNat_of_nonneg (by omega)]
 have : Zm.mk m m = 0 := Zm.val_eq_zero.1 (by rw [Zm.val_mk, Int.emod_self])
 rw [this, Go.Fg.zero_mul, Go.Fg.add_zero]; rfl
theorem mB {m : Int} {t : List (List Int)} (hk : bW m t = 0) (ht : cT m t = 0) : 2 ≤ aI m t := by
 obtain ⟨hp, hlw⟩ := hO (fN ht).1
 obtain ⟨hm, h2, h3, _⟩ := fI hp
 have hne : aI m t ≠ 0 := fun e => by
   unfold bW at hk
   rw [if_pos ht, if_pos e] at hk
   omega
 have h0 := Y5 (by omega) hlw
 have h1 := Aqk hm h2 hlw
 unfold aI fW gY at hne ⊢
 cases e : (L t.length (iF (aZ m t) t.length)).findIdx? (fun x => decide (x ≠ 0)) with
 | none => rw [e] at hne; exact absurd rfl hne
 | some i =>
   obtain ⟨_, _, h5⟩ := tD e
   simp only
   rcases (show i = 0 ∨ i = 1 ∨ 2 ≤ i by omega) with rfl | rfl | h
   · exact absurd h0 h5
   · exact absurd h1 h5
   · exact h
end Go.Proofs
namespace Go.Proofs
open Go Go.Vm Go.Fg Go.Fg.PS
set_option maxRecDepth 100000
set_option maxHeartbeats 4000000
set_option linter.unusedSimpArgs false
set_option linter.unusedVariables false
noncomputable def fK (gl : Bool) (m : Int) (t : List (List Int)) : D := if kC m t = 0 then .tup [.list true 1 (rows true (ext m.toNat (bU gl (aI m t) (aZ m t)) (aI m t) [])), aA 0] else .tup [.lit (.slice none 0 0), aA (kC m t)]
theorem tT {m : Int} (h : dU m = true) : ∃ p : Nat, m = p ∧ (p = 2 ∨ p = 3 ∨ p = 5 ∨ p = 7) := by
 simp only [dU, Bool.or_eq_true, decide_eq_true_eq] at h
 rcases h with rfl | rfl | rfl | rfl
 · exact ⟨2, rfl, by omega⟩
 · exact ⟨3, rfl, by omega⟩
 · exact ⟨5, rfl, by omega⟩
 · exact ⟨7, rfl, by omega⟩
theorem qA {p q : Nat} (hp : p = 2 ∨ p = 3 ∨ p = 5 ∨ p = 7) (hq : q ≤ 6) : p ^ q ≤ 117649 := by
 have h1 : p ^ q ≤ 7 ^ q := Nat.pow_le_pow_left (by omega) q
 have h2 : 7 ^ q ≤ 7 ^ 6 := Nat.pow_le_pow_right (by omega) hq
 omega
theorem X8 {m : Int} {u : List Int} (h : ∀ x ∈ u, 0 ≤ x ∧ x < m) : Nums m u := h
theorem Aji {p q : Nat} (hm : Md (p : Int)) (hq : 1 ≤ q ∧ q ≤ 100) (oo : Bool) (d3 d4 : D) (f : PS (PS (Zm (p : Int)))) (u : List Int) (hu : u.length = q) (hb : ∀ x ∈ u, 0 ≤ x ∧ x < (p : Int)) :
   aL Tryz.prog 193 [eN p q (.list oo 1 (cE q f q)) d3 d4, .list false 1 (ints u)] (bD (bU true q f u)) := by
 have hlu : u = L q (rd (p : Int) u) := by rw [← hu, jT (X8 hb)]
 have e0 : u.getD 0 0 = ((rd (p : Int) u).c 0).val := by
   have := congrArg (fun l : List Int => l.getD 0 0) hlu
   simp only [nE (rd (p : Int) u) (show 0 < q by omega)] at this
   exact this
 have := Ahx hm q hq oo false d3 d4 f (rd (p : Int) u)
 rw [LD, ← hlu] at this
 unfold bU jY cY
 rw [e0]
 exact this
theorem Ahi {p q : Nat} (hm : Md (p : Int)) (hq : 1 ≤ q ∧ q ≤ 100) (oo : Bool) (d3 d4 : D) (f : PS (PS (Zm (p : Int)))) (u : List Int) (hu : u.length = q) (hb : ∀ x ∈ u, 0 ≤ x ∧ x < (p : Int)) :
   aL Tryz.prog 196 [eN p q (.list oo 1 (cE q f q)) d3 d4, .list false 1 (ints u)] (bD (bU false q f u)) := by
 have hlu : u = L q (rd (p : Int) u) := by rw [← hu, jT (X8 hb)]
 have e0 : u.getD 0 0 = ((rd (p : Int) u).c 0).val := by
   have := congrArg (fun l : List Int => l.getD 0 0) hlu
   simp only [nE (rd (p : Int) u) (show 0 < q by omega)] at this
   exact this
 have := Aor hm q hq oo false d3 d4 f (rd (p : Int) u)
 rw [LD, ← hlu] at this
 unfold bU jY cY
 rw [e0]
 refine Eq.mp (congrArg _ (congrArg bD ?_)) this
 by_cases h : ((rd (p : Int) u).c 0).val = 0
 · rw [eS (Aku (rd (p : Int) u) (Zm.val_inj h) q)]; rfl
 · rw [decide_eq_false h]
   rw [show decide (((rd (p : Int) u).c 0).val = ((if false = true then 1 else 0 : Nat) : Int)) = false from decide_eq_false h]
   rfl
theorem Asj (o p : Bool) (m : Int) (t : List (List Int)) (hl : t.length ≤ 1048576) (hr : dP t) :
   aL Tryz.prog 72 [.agg [aA m, .list o 1 (rows p t)]] (fK true m t) := by
 by_cases hk : bW m t = 0
 · have hht : cT m t = 0 := by
     unfold bW at hk
     split at hk
     · assumption
     · exact hk
   obtain ⟨hb, hpr⟩ := fN hht
   obtain ⟨hp, hlw⟩ := hO hb
   obtain ⟨hm, h2, h3, _⟩ := fI hp
   have hm1 := hm.1
   have hm2 := hm.2
   have key := jP o p m t hl hr
   rw [hk, if_pos rfl] at key
   have hdeg : aL Tryz.prog 124 [.agg [aA m, .list o 1 (rows p t)]] (aA (t.length - 1)) := by
     have := iM (m := m) o p t.length (by omega) (aZ m t)
     simpa only [cI, dY hp] using this
   have hlt : aI m t < t.length := nL (by omega)
   refine aX Tryz.tabOk aE Tryz.func72 rfl rfl ?_
   conv => whnf
   repeat' first | ((first | refine z0 ?_ | refine Or.inr (gN Tryz.tabOk aE _ Tryz.func191 rfl rfl ?_) | (apply zI; refine zP (key) ?_) | (apply zI; refine zP (hdeg) ?_) | (refine zP (fun h => ?_) (fun h => ?_) <;> (try simp only [aB, aD] at h) <;> first | (exfalso; omega) | skip) | refine zV ?_ | refine Or.inl ?_) <;> conv => whnf) | fail
   · have h3 : 2 * ((aI m t : Int) - 1) > (t.length : Int) - 1 := by assumption
     have h4 : kC m t = 3 := by unfold kC; rw [if_pos hk, if_pos h3]
     rw [fK, h4, if_neg (by omega)]
   · have h3 : ¬ 2 * ((aI m t : Int) - 1) > (t.length : Int) - 1 := by assumption
     have h4 : kC m t = 0 := by unfold kC; rw [if_pos hk, if_neg h3]
     have hq1 := (fJ h4).2.2.1
     have hq2 := (fJ h4).2.2.2
     obtain ⟨pp, rfl, hpp⟩ := tT hpr
     have hyes : D.tup [.list true 1 (rows true (ext pp (bU true (aI pp t) (aZ pp t)) (aI pp t) [])), aA 0] = fK true pp t := by rw [fK, if_pos h4]; rfl
     have hpw : pp ^ aI pp t ≤ 1000000 := Nat.le_trans (qA hpp (by omega)) (by omega)
     have hge : 2 ≤ aI pp t := mB hk hht
     have hT := dY hp
     generalize hf : aZ (pp : Int) t = f at *
     generalize hN : t.length = N at *
     generalize hqq : aI (pp : Int) t = q at *
     rw [← hT]
     have hel := fun (d3 d4 : D) => Aar pp q (by omega) (by omega) hpw (.list false 1 (cE q f q)) d3 d4 193 (bU true q f) (fun u hu hb => Aji hm (by omega) false d3 d4 f u hu hb)
     refine iQ Tryz.tabOk aE ?_
     conv => whnf
     repeat' first | ((first | (apply zI; refine zP (nA (m := (pp : Int)) q aF aF) ?_) | (apply zI; refine zP (eU (i := 0) aN aJ) ?_) | (apply zI; refine zP (jI (i := 0) (j := 0) _ aN aN aJ aJ) ?_) | (refine zP (fun h => ?_) (fun h => ?_) <;> (try simp only [aB, aD] at h) <;> first | (exfalso; omega) | skip) | refine zV ?_ | refine zP (aJ) ?_ | refine Or.inl ?_) <;> conv => whnf) | fail
     rw [show cR (bA q (0 : PS (PS (Zm (pp : Int))))) 0 0 1 = bA q (1 : PS (PS (Zm (pp : Int)))) from jS (1 : Zm (pp : Int)) (Zm.val_one (by omega)).symm (by omega) (fun a b _ _ => by
       rw [fP, PS.one_c]
       by_cases ha : a = 0
       · rw [if_pos ha, PS.one_c]
         by_cases hb : b = 0
         · rw [if_pos ⟨ha, hb⟩, if_pos hb]
         · rw [if_neg (by omega), if_neg hb]; rfl
       · rw [if_neg (by omega), if_neg ha]; rfl)]
     refine aR Tryz.tabOk aE (α := Nat) (fun i => [(63, aA i)]) (fun i => [(6, some ⟨false, 1, rows true (bA q (mix i f 0))⟩)]) (fun i => i ≤ q) (fun i => q - i) (0) ?_ ?_ ?_
     · omega
     · conv => whnf
       first | refine aG.autoR ?_ | refine aC.autoR ?_
       conv => whnf
       repeat' ((first | refine z1 ?_ | refine zP ?_ ?_ | exact trivial) <;> try (conv => whnf))
       all_goals rw [kI]
     intro i hi
     conv => whnf
     repeat' first | ((first | (apply zI; refine zP (eU (i := i) aN aJ) ?_) | (apply zI; refine zP (rT (i := i) aN aJ) ?_) | (refine zP (fun h => ?_) (fun h => ?_) <;> (try simp only [aB, aD] at h) <;> first | (exfalso; omega) | skip) | refine zS ?_ | refine zV ?_ | (apply zI; refine zP aH ?_) | refine zP (aJ) ?_ | refine Or.inl ?_) <;> conv => whnf) | fail
     · have hi' : i < q := aJ
       refine Exists.intro (i + 1) (zP aJ (zP aJ ?_))
       first | refine aG.autoR ?_ | refine aC.autoR ?_
       conv => whnf
       repeat' ((first | refine z1 ?_ | refine zP ?_ ?_ | exact trivial) <;> try (conv => whnf))
       simp only [aB, aD, aV, eY, Int.toNat_natCast, Nat.zero_add, List.nil_append]
       rw [← uG]
       exact tE hi' (by omega)
     · have hiq : i = q := aJ
       rw [show bA q (mix i f 0) = bA q f from eS (fun a b ha hb => by rw [eG, if_pos (by omega)])]
       refine aR Tryz.tabOk aE (α := Nat) (fun k => [(84, aA k), (12, .undef), (56, .undef), (57, .undef), (58, .undef), (59, .undef), (60, .undef), (78, .undef), (79, .undef)]) (fun k => [(8, some ⟨false, 1, cE q f (k + 1)⟩), (5, some ⟨true, 1, [aA pp, aA q, .ref 8 [] 1 0 (k + 1), aA pp, .list o 1 (rows p (Tb N f))]⟩)]) (fun k => k + 1 ≤ q) (fun k => q - k) (0) ?_ ?_ ?_
       · omega
       · conv => whnf
         first | refine aG.autoR ?_ | refine aC.autoR ?_
         conv => whnf
         repeat' ((first | refine z1 ?_ | refine zP ?_ ?_ | exact trivial) <;> try (conv => whnf))
       intro k hkq
       conv => whnf
       repeat' first | ((first | refine z0 ?_ | (apply zI; refine zP (pY k aN aJ) ?_) | (apply zI; refine zP (pN k aN aJ) ?_) | (apply zI; refine zP (nK aJ) ?_) | (apply zI; refine zP (kW aJ) ?_) | (apply zI; refine zP (tA hm q aF _ _ _ _ _ _ _ (pw f k) f) ?_) | (refine zP (fun h => ?_) (fun h => ?_) <;> (try simp only [aB, aD] at h) <;> first | (exfalso; omega) | skip) | refine zS ?_ | refine zV ?_ | (apply zI; refine zP aH ?_) | refine zP (tC aJ) ?_ | refine zP (qO aJ) ?_ | refine zP (rX _) ?_ | refine zP (aJ) ?_ | refine Alt.fst ?_ | refine Or.inl ?_) <;> conv => whnf) | fail
       · refine Exists.intro (k + 1) (zP aJ (zP aJ ?_))
         first | refine aG.autoR ?_ | refine aC.autoR ?_
         conv => whnf
         repeat' ((first | refine z1 ?_ | refine zP ?_ ?_ | exact trivial) <;> try (conv => whnf))
         exact rA rfl
       · have hkq' : k + 1 = q := aJ
         subst hkq'
         repeat' first | ((first | refine z0 ?_ | (apply zI; refine zP (hel _ _) ?_) | (refine zP (fun h => ?_) (fun h => ?_) <;> (try simp only [aB, aD] at h) <;> first | (exfalso; omega) | skip) | refine zV ?_) <;> conv => whnf) | fail
         rw [hT, ← hyes]
 · refine aX Tryz.tabOk aE Tryz.func72 rfl rfl ?_
   conv => whnf
   have key := jP o p m t hl hr
   rw [if_neg hk] at key
   repeat' first | ((first | refine z0 ?_ | refine Or.inr (gN Tryz.tabOk aE _ Tryz.func191 rfl rfl ?_) | (apply zI; refine zP (key) ?_) | (refine zP (fun h => ?_) (fun h => ?_) <;> (try simp only [aB, aD] at h) <;> first | (exfalso; omega) | skip) | refine Or.inl ?_) <;> conv => whnf) | fail
   have h4 : kC m t = bW m t := by unfold kC; rw [if_neg hk]
   rw [fK, h4, if_neg hk]
theorem Alo (o p : Bool) (m : Int) (t : List (List Int)) (hl : t.length ≤ 1048576) (hr : dP t) :
   aL Tryz.prog 74 [.agg [aA m, .list o 1 (rows p t)]] (fK false m t) := by
 by_cases hk : bW m t = 0
 · have hht : cT m t = 0 := by
     unfold bW at hk
     split at hk
     · assumption
     · exact hk
   obtain ⟨hb, hpr⟩ := fN hht
   obtain ⟨hp, hlw⟩ := hO hb
   obtain ⟨hm, h2, h3, _⟩ := fI hp
   have hm1 := hm.1
   have hm2 := hm.2
   have key := jP o p m t hl hr
   rw [hk, if_pos rfl] at key
   have hdeg : aL Tryz.prog 124 [.agg [aA m, .list o 1 (rows p t)]] (aA (t.length - 1)) := by
     have := iM (m := m) o p t.length (by omega) (aZ m t)
     simpa only [cI, dY hp] using this
   have hlt : aI m t < t.length := nL (by omega)
   refine aX Tryz.tabOk aE Tryz.func74 rfl rfl ?_
   conv => whnf
   repeat' first | ((first | refine z0 ?_ | refine Or.inr (gN Tryz.tabOk aE _ Tryz.func191 rfl rfl ?_) | (apply zI; refine zP (key) ?_) | (apply zI; refine zP (hdeg) ?_) | (refine zP (fun h => ?_) (fun h => ?_) <;> (try simp only [aB, aD] at h) <;> first | (exfalso; omega) | skip) | refine zV ?_ | refine Or.inl ?_) <;> conv => whnf) | fail
   · have h3 : 2 * ((aI m t : Int) - 1) > (t.length : Int) - 1 := by assumption
     have h4 : kC m t = 3 := by unfold kC; rw [if_pos hk, if_pos h3]
     rw [fK, h4, if_neg (by omega)]
   · have h3 : ¬ 2 * ((aI m t : Int) - 1) > (t.length : Int) - 1 := by assumption
     have h4 : kC m t = 0 := by unfold kC; rw [if_pos hk, if_neg h3]
     have hq1 := (fJ h4).2.2.1
     have hq2 := (fJ h4).2.2.2
     obtain ⟨pp, rfl, hpp⟩ := tT hpr
     have hyes : D.tup [.list true 1 (rows true (ext pp (bU false (aI pp t) (aZ pp t)) (aI pp t) [])), aA 0] = fK false pp t := by rw [fK, if_pos h4]; rfl
     have hpw : pp ^ aI pp t ≤ 1000000 := Nat.le_trans (qA hpp (by omega)) (by omega)
     have hge : 2 ≤ aI pp t := mB hk hht
     have hT := dY hp
     generalize hf : aZ (pp : Int) t = f at *
     generalize hN : t.length = N at *
     generalize hqq : aI (pp : Int) t = q at *
     rw [← hT]
     have hel := fun (d3 d4 : D) => Aar pp q (by omega) (by omega) hpw (.list false 1 (cE q f q)) d3 d4 196 (bU false q f) (fun u hu hb => Ahi hm (by omega) false d3 d4 f u hu hb)
     refine iQ Tryz.tabOk aE ?_
     conv => whnf
     repeat' first | ((first | (apply zI; refine zP (nA (m := (pp : Int)) q aF aF) ?_) | (apply zI; refine zP (eU (i := 0) aN aJ) ?_) | (apply zI; refine zP (jI (i := 0) (j := 0) _ aN aN aJ aJ) ?_) | (refine zP (fun h => ?_) (fun h => ?_) <;> (try simp only [aB, aD] at h) <;> first | (exfalso; omega) | skip) | refine zV ?_ | refine zP (aJ) ?_ | refine Or.inl ?_) <;> conv => whnf) | fail
     rw [show cR (bA q (0 : PS (PS (Zm (pp : Int))))) 0 0 1 = bA q (1 : PS (PS (Zm (pp : Int)))) from jS (1 : Zm (pp : Int)) (Zm.val_one (by omega)).symm (by omega) (fun a b _ _ => by
       rw [fP, PS.one_c]
       by_cases ha : a = 0
       · rw [if_pos ha, PS.one_c]
         by_cases hb : b = 0
         · rw [if_pos ⟨ha, hb⟩, if_pos hb]
         · rw [if_neg (by omega), if_neg hb]; rfl
       · rw [if_neg (by omega), if_neg ha]; rfl)]
     refine aR Tryz.tabOk aE (α := Nat) (fun i => [(63, aA i)]) (fun i => [(6, some ⟨false, 1, rows true (bA q (mix i f 0))⟩)]) (fun i => i ≤ q) (fun i => q - i) (0) ?_ ?_ ?_
     · omega
     · conv => whnf
       first | refine aG.autoR ?_ | refine aC.autoR ?_
       conv => whnf
       repeat' ((first | refine z1 ?_ | refine zP ?_ ?_ | exact trivial) <;> try (conv => whnf))
       all_goals rw [kI]
     intro i hi
     conv => whnf
     repeat' first | ((first | (apply zI; refine zP (eU (i := i) aN aJ) ?_) | (apply zI; refine zP (rT (i := i) aN aJ) ?_) | (refine zP (fun h => ?_) (fun h => ?_) <;> (try simp only [aB, aD] at h) <;> first | (exfalso; omega) | skip) | refine zS ?_ | refine zV ?_ | (apply zI; refine zP aH ?_) | refine zP (aJ) ?_ | refine Or.inl ?_) <;> conv => whnf) | fail
     · have hi' : i < q := aJ
       refine Exists.intro (i + 1) (zP aJ (zP aJ ?_))
       first | refine aG.autoR ?_ | refine aC.autoR ?_
       conv => whnf
       repeat' ((first | refine z1 ?_ | refine zP ?_ ?_ | exact trivial) <;> try (conv => whnf))
       simp only [aB, aD, aV, eY, Int.toNat_natCast, Nat.zero_add, List.nil_append]
       rw [← uG]
       exact tE hi' (by omega)
     · have hiq : i = q := aJ
       rw [show bA q (mix i f 0) = bA q f from eS (fun a b ha hb => by rw [eG, if_pos (by omega)])]
       refine aR Tryz.tabOk aE (α := Nat) (fun k => [(84, aA k), (12, .undef), (56, .undef), (57, .undef), (58, .undef), (59, .undef), (60, .undef), (78, .undef), (79, .undef)]) (fun k => [(8, some ⟨false, 1, cE q f (k + 1)⟩), (5, some ⟨true, 1, [aA pp, aA q, .ref 8 [] 1 0 (k + 1), aA pp, .list o 1 (rows p (Tb N f))]⟩)]) (fun k => k + 1 ≤ q) (fun k => q - k) (0) ?_ ?_ ?_
       · omega
       · conv => whnf
         first | refine aG.autoR ?_ | refine aC.autoR ?_
         conv => whnf
         repeat' ((first | refine z1 ?_ | refine zP ?_ ?_ | exact trivial) <;> try (conv => whnf))
       intro k hkq
       conv => whnf
       repeat' first | ((first | refine z0 ?_ | (apply zI; refine zP (pY k aN aJ) ?_) | (apply zI; refine zP (pN k aN aJ) ?_) | (apply zI; refine zP (nK aJ) ?_) | (apply zI; refine zP (kW aJ) ?_) | (apply zI; refine zP (tA hm q aF _ _ _ _ _ _ _ (pw f k) f) ?_) | (refine zP (fun h => ?_) (fun h => ?_) <;> (try simp only [aB, aD] at h) <;> first | (exfalso; omega) | skip) | refine zS ?_ | refine zV ?_ | (apply zI; refine zP aH ?_) | refine zP (tC aJ) ?_ | refine zP (qO aJ) ?_ | refine zP (rX _) ?_ | refine zP (aJ) ?_ | refine Alt.fst ?_ | refine Or.inl ?_) <;> conv => whnf) | fail
       · refine Exists.intro (k + 1) (zP aJ (zP aJ ?_))
         first | refine aG.autoR ?_ | refine aC.autoR ?_
         conv => whnf
         repeat' ((first | refine z1 ?_ | refine zP ?_ ?_ | exact trivial) <;> try (conv => whnf))
         exact rA rfl
       · have hkq' : k + 1 = q := aJ
         subst hkq'
         repeat' first | ((first | refine z0 ?_ | (apply zI; refine zP (hel _ _) ?_) | (refine zP (fun h => ?_) (fun h => ?_) <;> (try simp only [aB, aD] at h) <;> first | (exfalso; omega) | skip) | refine zV ?_) <;> conv => whnf) | fail
         rw [hT, ← hyes]
 · refine aX Tryz.tabOk aE Tryz.func74 rfl rfl ?_
   conv => whnf
   have key := jP o p m t hl hr
   rw [if_neg hk] at key
   repeat' first | ((first | refine z0 ?_ | refine Or.inr (gN Tryz.tabOk aE _ Tryz.func191 rfl rfl ?_) | (apply zI; refine zP (key) ?_) | (refine zP (fun h => ?_) (fun h => ?_) <;> (try simp only [aB, aD] at h) <;> first | (exfalso; omega) | skip) | refine Or.inl ?_) <;> conv => whnf) | fail
   have h4 : kC m t = bW m t := by unfold kC; rw [if_neg hk]
   rw [fK, h4, if_neg hk]
end Go.Proofs
namespace Go.Proofs
open Go Go.Vm Go.Fg Go.Fg.PS
set_option maxRecDepth 100000
set_option maxHeartbeats 4000000
set_option linter.unusedSimpArgs false
set_option linter.unusedVariables false
variable {m : Int}
noncomputable def eC {m : Int} (gl : Bool) (p q : Nat) (f : PS (PS (Zm m))) (N : Nat) : List (List Int) := ((List.range N).map fun k => (cY gl : Int) :: bH p (q - 1) k).filter (jY gl q f)
theorem Adr (gl : Bool) (p q : Nat) (f : PS (PS (Zm m))) (N : Nat) : eC gl p q f (N + 1) = eC gl p q f N ++ (if jY gl q f ((cY gl : Int) :: bH p (q - 1) N) then [(cY gl : Int) :: bH p (q - 1) N] else []) := by
 simp only [eC, List.range_succ, List.map_append, List.filter_append, List.map_cons, List.map_nil]
 congr 1
 by_cases h : jY gl q f ((cY gl : Int) :: bH p (q - 1) N) <;> simp [h]
theorem Aej (gl : Bool) (p q : Nat) (f : PS (PS (Zm m))) (N : Nat) : (eC gl p q f N).length ≤ N := by
 refine Nat.le_trans (List.length_filter_le _ _) ?_
 simp
theorem Abf {p q : Nat} (hp : 2 ≤ p) (hq : 1 ≤ q) (gl : Bool) (f : PS (PS (Zm m))) : ext p (bU gl q f) q [] = eC gl p q f (p ^ (q - 1)) := by
 obtain ⟨k, rfl⟩ : ∃ k, q = k + 1 := ⟨q - 1, by omega⟩
 refine Apx (h := cY gl) (by omega) (by unfold cY; split <;> omega) _ (jY gl (k + 1) f) k (fun u hu => rfl)
def fV (F G : PS (PS (Zm m))) (q i j : Nat) : Prop := ∀ a b, a < q → b < q → (a < i ∨ (a = i ∧ b < j)) → ((F.c a).c b).val = ((G.c a).c b).val
theorem Aeo {F G : PS (PS (Zm m))} {q : Nat} : bA q F = bA q G ↔ fV F G q q 0 := by
 constructor
 · intro h a b ha hb _
   have h1 : L q (F.c a) = L q (G.c a) := by rw [← iU F ha, h, iU G ha]
   have h2 := congrArg (fun l : List Int => l.getD b 0) h1
   simp only [nE _ hb] at h2
   exact h2
 · intro h
   exact eS (fun a b ha hb => Zm.val_inj (h a b ha hb (.inl ha)))
theorem Abl (p q n : Nat) : (0 + (q - 1)) * 1 ≤ (ints (bH p (q - 1) n)).length := by simp
theorem Aob (q : Nat) (a : PS (Zm m)) (hq : 1 ≤ q) : (0 + (1 + (q - 1))) * 1 ≤ (ints (L q a)).length := by simp; omega
theorem V2 (q : Nat) (a : PS (Zm m)) {l : List D} (h : l.length = (ints (L q a)).length) (hq : 1 ≤ q := by omega) : (0 + (1 + (q - 1))) * 1 ≤ l.length := by rw [h]; exact Aob q a hq
theorem Adw (F G : PS (PS (Zm m))) (q : Nat) : fV F G q 0 0 := fun a b _ _ h => by omega
theorem U7 {F G : PS (PS (Zm m))} {q i j : Nat} (hi : i < q) (hj : j < q) : fV F G q i (j + 1) ↔ fV F G q i j ∧ ((F.c i).c j).val = ((G.c i).c j).val := by
 constructor
 · exact fun h => ⟨fun a b ha hb e => h a b ha hb (by omega), h i j hi hj (by omega)⟩
 · rintro ⟨h1, h2⟩ a b ha hb e
   by_cases e2 : a = i ∧ b = j
   · obtain ⟨rfl, rfl⟩ := e2; exact h2
   · exact h1 a b ha hb (by omega)
theorem Ade {F G : PS (PS (Zm m))} {q i : Nat} : fV F G q i q ↔ fV F G q (i + 1) 0 :=
 ⟨fun h a b ha hb e => h a b ha hb (by omega), fun h a b ha hb e => h a b ha hb (by omega)⟩
theorem yU {F G : PS (PS (Zm m))} {q i j i' j' : Nat} (e : i < i' ∨ (i = i' ∧ j ≤ j')) (h : fV F G q i' j') : fV F G q i j := fun a b ha hb e2 => h a b ha hb (by omega)
theorem S8 (q : Nat) (a : PS (Zm m)) (hq : 1 ≤ q) : sub (ints (L q a)) 1 0 (1 + (q - 1)) = ints (L q a) := by
 unfold sub; rw [show 0 * 1 = 0 from rfl, List.drop_zero, List.take_of_length_le (by simp; omega)]
theorem Amh (a : PS (Zm m)) (i j : Nat) : (((dM false a).c i).c j).val = if j = 0 then (a.c i).val else if i = 0 then (a.c j).val else 0 := by
 show (if j = 0 then a.c i else if i = 0 then a.c j else 0 : Zm m).val = _
 split
 · rfl
 · split <;> rfl
theorem Apc (p q N : Nat) (hp : 2 ≤ p ∧ p ≤ 7) (hm : Md (p : Int)) (hq : 2 ≤ q ∧ 2 * (q - 1) + 1 ≤ N ∧ N ≤ 11) (hpq : p ^ q ≤ 1000000) (o o1 : Bool) (f : PS (PS (Zm (p : Int)))) {Q : Int} (hQ : Q = q) :
   aL Tryz.prog 195 [cI p o o1 N f, aA Q, bD true] (.list true 1 (rows true (ext p (bU true q f) q []))) := by
 subst hQ
 have hP : 0 < p ^ (q - 1) := Nat.pow_pos (by omega)
 have hPb : p ^ (q - 1) ≤ 1000000 := Nat.le_trans (Nat.pow_le_pow_right (by omega) (by omega)) hpq
 have kpw := H4 hm o o1 N q ⟨by omega, by omega, by omega⟩ f (rfl : (q : Int) = q)
 rw [Abf (by omega) (by omega)]
 refine aX Tryz.tabOk aE Tryz.func195 rfl rfl ?_
 conv => whnf
 repeat' first | ((first | (apply zI; refine zP (kpw) ?_) | refine zS ?_ | refine zV ?_ | (apply zI; refine zP aH ?_) | refine Alt.fst ?_ | refine Or.inl ?_) <;> conv => whnf) | fail
 refine aR Tryz.tabOk aE (α := Nat) (fun n => [(8, .ref 2 [] 1 0 (eC true p q f n).length), (20, .undef)]) (fun n => [(2, some ⟨false, 1, rows true (eC true p q f n)⟩), (3, some ⟨false, 1, ints (bH p (q - 1) n)⟩)]) (fun n => n < p ^ (q - 1)) (fun n => p ^ (q - 1) - n) (0) ?_ ?_ ?_
 · exact hP
 · conv => whnf
   first | refine aG.autoR ?_ | refine aC.autoR ?_
   conv => whnf
   repeat' ((first | refine z1 ?_ | refine zP ?_ ?_ | exact trivial) <;> try (conv => whnf))
   all_goals rw [sH]
 intro n hn
 have hfl := Aej true p q f n
 have hdr := uJ (p := p) (by omega) (q - 1) n hn
 conv => whnf
 have hlu : (cY true : Int) :: bH p (q - 1) n = L q (rd (p : Int) ((cY true : Int) :: bH p (q - 1) n)) := by
   have h1 : ((cY true : Int) :: bH p (q - 1) n).length = q := by simp; omega
   have h2 : Nums (p : Int) ((cY true : Int) :: bH p (q - 1) n) := fun x hx => by
     rcases List.mem_cons.1 hx with rfl | hx
     · simp [cY]; omega
     · exact hdr x hx
   have h3 := jT h2
   rw [h1] at h3
   exact h3.symm
 have hS := Adr true p q f n
 have hT : jY true q f ((cY true : Int) :: bH p (q - 1) n) = true ↔ fV (bC (rd (p : Int) ((cY true : Int) :: bH p (q - 1) n)) f 0 q) (dM true (rd (p : Int) ((cY true : Int) :: bH p (q - 1) n))) q q 0 := by
   unfold jY
   rw [decide_eq_true_iff]; exact Aeo
 generalize ha : rd (p : Int) ((cY true : Int) :: bH p (q - 1) n) = a at *
 have eu : (Root.mk false 1 [D.lit (Value.int IntKind.i64 (cY true))]).cs ++ ints (List.take (q - 1) (List.drop 0 (bH p (q - 1) n))) = ints (L q a) := by
   rw [← hlu, List.drop_zero, List.take_of_length_le (by simp)]; rfl
 repeat' first | ((exact absurd (by assumption : true = false) (by decide))) | ((first | (refine zP (fun h => ?_) (fun h => ?_) <;> (try simp only [aB, aD] at h) <;> first | (exfalso; omega) | skip) | refine zV ?_ | (apply zI; refine zP aH ?_) | refine zP (Abl p q n) ?_ | refine Or.inl ?_) <;> conv => whnf) | fail
 refine zP (V2 q a (congrArg List.length eu)) ?_
 rw [show (Root.mk false 1 [D.lit (Value.int IntKind.i64 1)]).cs ++ ints (List.take (q - 1) (List.drop 0 (bH p (q - 1) n))) = ints (L q a) from eu]
 conv => whnf
 have hel := Ae5 hm q (by omega) false false f a
 rw [← nK (f := f) (k := q) (a := cnt 1 (cE q f q)) (uE q f q)] at hel
 repeat' first | ((first | (apply zI; refine zP (hel) ?_) | (apply zI; refine zP (S8 q a (by omega)) ?_)) <;> conv => whnf) | fail
 generalize hF : bC a f 0 q = F at *
 refine aR Tryz.tabOk aE (α := Nat × Bool) (fun x => [(14, aA x.1), (13, bD x.2), (26, .undef)]) (fun x => []) (fun x => x.1 ≤ q ∧ (x.2 = true ↔ fV F (dM true a) q x.1 0)) (fun x => q - x.1) ((0, true)) ?_ ?_ ?_
 · exact ⟨by omega, by simp [Adw]⟩
 · conv => whnf
   first | refine aG.autoR ?_ | refine aC.autoR ?_
   conv => whnf
   repeat' ((first | refine z1 ?_ | refine zP ?_ ?_ | exact trivial) <;> try (conv => whnf))
 intro x hx
 obtain ⟨i, good⟩ := x
 obtain ⟨hi, hg⟩ := hx
 simp only at hi hg
 conv => whnf
 by_cases hgo : i < q ∧ good = true
 · obtain ⟨hiq, rfl⟩ := hgo
   have hgi := hg.1 rfl
   repeat' first | ((exact absurd (by assumption : true = false) (by decide))) | ((first | (refine zP (fun h => ?_) (fun h => ?_) <;> (try simp only [aB, aD] at h) <;> first | (exfalso; omega) | skip)) <;> conv => whnf) | fail
   refine aR Tryz.tabOk aE (α := Nat × Bool) (fun x => [(15, aA x.1), (13, bD x.2)]) (fun x => []) (fun x => x.1 ≤ q ∧ (x.2 = true ↔ fV F (dM true a) q i x.1)) (fun x => q - x.1) ((0, true)) ?_ ?_ ?_
   · exact ⟨by omega, by simp [hgi]⟩
   · conv => whnf
     first | refine aG.autoR ?_ | refine aC.autoR ?_
     conv => whnf
     repeat' ((first | refine z1 ?_ | refine zP ?_ ?_ | exact trivial) <;> try (conv => whnf))
   intro x hx
   obtain ⟨j, good⟩ := x
   obtain ⟨hj, hg⟩ := hx
   simp only at hj hg
   conv => whnf
   by_cases hgo : j < q ∧ good = true
   · obtain ⟨hjq, rfl⟩ := hgo
     have hgj := hg.1 rfl
     have hst := U7 (F := F) (G := dM true a) hiq hjq
     have hdd : (((dM true a).c i).c j).val = ((a.c i).val * (a.c j).val).tmod p := (fF hm _ _).symm
     have x1 := hm.mul (a.c i) (a.c j)
     repeat' first | ((exact absurd (by assumption : true = false) (by decide))) | ((exact absurd (by assumption : false = true) (by decide))) | ((first | (apply zI; refine zP (eU (i := i) aN aW) ?_) | (apply zI; refine zP (pT (i := i) (j := j) aN aN aW aW) ?_) | (refine zP (fun h => ?_) (fun h => ?_) <;> (try simp only [aB, aD] at h) <;> first | (exfalso; omega) | skip) | refine zS ?_ | refine zV ?_ | (apply zI; refine zP aH ?_) | refine zP (aW) ?_) <;> conv => whnf) | fail
     all_goals first
       | (have he : ((F.c i).c j).val = (((dM true a).c i).c j).val := by (rw [hdd]; assumption)
          refine Exists.intro (j + 1, true) (zP ⟨by simp only; omega, by rw [hst]; exact ⟨fun _ => ⟨hgj, he⟩, fun _ => rfl⟩⟩ (zP (by simp only; omega) ?_))
          (first | refine aG.autoR ?_ | refine aC.autoR ?_); (conv => whnf); (repeat' ((first | exact trivial | refine zP rfl ?_ | refine zP (lV aF) ?_ | refine zP bP ?_ | refine zP bQ ?_ | refine zP bR ?_ | refine zP ?_ ?_) <;> try (conv => whnf)))
          done)
       | (have he : ¬ ((F.c i).c j).val = (((dM true a).c i).c j).val := by (rw [hdd]; assumption)
          refine Exists.intro (j + 1, false) (zP ⟨by simp only; omega, by rw [hst]; exact ⟨fun h => absurd h Bool.false_ne_true, fun h => absurd h.2 he⟩⟩ (zP (by simp only; omega) ?_))
          (first | refine aG.autoR ?_ | refine aC.autoR ?_); (conv => whnf); (repeat' ((first | exact trivial | refine zP rfl ?_ | refine zP (lV aF) ?_ | refine zP bP ?_ | refine zP bQ ?_ | refine zP bR ?_ | refine zP ?_ ?_) <;> try (conv => whnf)))
          done)
   · have hgn : good = true ↔ fV F (dM true a) q (i + 1) 0 := by
       by_cases hjq : j < q
       · have h1 : good = false := by
           cases good
           · rfl
           · exact absurd ⟨hjq, rfl⟩ hgo
         subst h1
         refine ⟨fun h => absurd h (by decide), fun h => hg.2 (yU (.inl (by omega)) h)⟩
       · have h1 : j = q := by omega
         rw [hg, h1]; exact Ade
     repeat' first | ((exact absurd ⟨by omega, by assumption⟩ hgo)) | ((first | (refine zP (fun h => ?_) (fun h => ?_) <;> (try simp only [aB, aD] at h) <;> first | (exfalso; omega) | skip) | refine zV ?_) <;> conv => whnf) | fail
     all_goals (refine Exists.intro (i + 1, good) (zP ⟨by omega, hgn⟩ (zP (by simp only; omega) ?_)))
     · first | refine aG.autoR ?_ | refine aC.autoR ?_
       conv => whnf
       repeat' ((first | refine z1 ?_ | refine zP ?_ ?_ | exact trivial) <;> try (conv => whnf))
     · first | refine aG.autoR ?_ | refine aC.autoR ?_
       conv => whnf
       repeat' ((first | refine z1 ?_ | refine zP ?_ ?_ | exact trivial) <;> try (conv => whnf))
 · have hgn : good = true ↔ fV F (dM true a) q q 0 := by
     by_cases hjq : i < q
     · have h1 : good = false := by
         cases good
         · rfl
         · exact absurd ⟨hjq, rfl⟩ hgo
       subst h1
       refine ⟨fun h => absurd h (by decide), fun h => hg.2 (yU (.inl (by omega)) h)⟩
     · have h1 : i = q := by omega
       rw [hg, h1]
   rw [← hgn] at hT
   have hge : i < q → good = false := fun h => by
     cases good
     · rfl
     · exact absurd ⟨h, rfl⟩ hgo
   by_cases hlast : n + 1 < p ^ (q - 1)
   · have kS := O3 (p : Int) (by omega) (q - 1) (by omega) (bH p (q - 1) n) (bH p (q - 1) (n + 1)) (by simp) hdr (by rw [rU (by omega) _ _ hn, if_pos hlast])
     cases good
     · have hS2 : eC true p q f (n + 1) = eC true p q f n := by rw [hS, if_neg (by rw [hT]; decide), List.append_nil]
       repeat' first | ((exact absurd (by assumption : false = true) (by decide))) | (refine jA [3] (kS) (by decide) ?_ (by simp) ?_; (focus ((conv => whnf); (repeat' ((first | refine z1 ?_ | refine z2 ?_ | refine zV ?_ | exact trivial) <;> (conv => whnf))); done)); conv => whnf) | ((first | (refine zP (fun h => ?_) (fun h => ?_) <;> (try simp only [aB, aD] at h) <;> first | (exfalso; omega) | skip)) <;> conv => whnf) | fail
       all_goals refine Exists.intro (n + 1) (zP hlast (zP (by omega) ?_))
       · first | refine aG.autoR ?_ | refine aC.autoR ?_
         conv => whnf
         repeat' ((first | refine z1 ?_ | refine zP ?_ ?_ | exact trivial) <;> try (conv => whnf))
         all_goals rw [hS2]
       · first | refine aG.autoR ?_ | refine aC.autoR ?_
         conv => whnf
         repeat' ((first | refine z1 ?_ | refine zP ?_ ?_ | exact trivial) <;> try (conv => whnf))
         all_goals rw [hS2]
     · have hS2 : eC true p q f (n + 1) = eC true p q f n ++ [L q a] := by rw [hS, if_pos (by rw [hT]), hlu]
       repeat' first | ((exact absurd (by assumption : true = false) (by decide))) | ((exact absurd (hge (by omega)) (by decide))) | (refine jA [3] (kS) (by decide) ?_ (by simp) ?_; (focus ((conv => whnf); (repeat' ((first | refine z1 ?_ | refine z2 ?_ | refine zV ?_ | exact trivial) <;> (conv => whnf))); done)); conv => whnf) | ((first | (refine zP (fun h => ?_) (fun h => ?_) <;> (try simp only [aB, aD] at h) <;> first | (exfalso; omega) | skip) | refine zV ?_ | (apply zI; refine zP aH ?_)) <;> conv => whnf) | fail
       refine Exists.intro (n + 1) (zP hlast (zP (by omega) ?_))
       first | refine aG.autoR ?_ | refine aC.autoR ?_
       conv => whnf
       repeat' ((first | refine z1 ?_ | refine zP ?_ ?_ | exact trivial) <;> try (conv => whnf))
       all_goals first | (rw [hS2]; done) | (rw [hS2]; simp)
   · have hlast2 : n + 1 = p ^ (q - 1) := by omega
     have kN := L5 (p : Int) (by omega) (q - 1) (by omega) (bH p (q - 1) n) (by simp) hdr (by rw [rU (by omega) _ _ hn, if_neg hlast])
     rw [← hlast2]
     cases good
     · have hS2 : eC true p q f (n + 1) = eC true p q f n := by rw [hS, if_neg (by rw [hT]; decide), List.append_nil]
       repeat' first | ((exact absurd (by assumption : false = true) (by decide))) | (refine jA [3] (kN) (by decide) ?_ (by simp) ?_; (focus ((conv => whnf); (repeat' ((first | refine z1 ?_ | refine z2 ?_ | refine zV ?_ | exact trivial) <;> (conv => whnf))); done)); conv => whnf) | ((first | refine z0 ?_ | (refine zP (fun h => ?_) (fun h => ?_) <;> (try simp only [aB, aD] at h) <;> first | (exfalso; omega) | skip) | refine zV ?_) <;> conv => whnf) | fail
       all_goals rw [hS2]
     · have hS2 : eC true p q f (n + 1) = eC true p q f n ++ [L q a] := by rw [hS, if_pos (by rw [hT]), hlu]
       repeat' first | ((exact absurd (by assumption : true = false) (by decide))) | ((exact absurd (hge (by omega)) (by decide))) | (refine jA [3] (kN) (by decide) ?_ (by simp) ?_; (focus ((conv => whnf); (repeat' ((first | refine z1 ?_ | refine z2 ?_ | refine zV ?_ | exact trivial) <;> (conv => whnf))); done)); conv => whnf) | ((first | refine z0 ?_ | (refine zP (fun h => ?_) (fun h => ?_) <;> (try simp only [aB, aD] at h) <;> first | (exfalso; omega) | skip) | refine zV ?_ | (apply zI; refine zP aH ?_)) <;> conv => whnf) | fail
       all_goals rw [hS2]
theorem An8 (p q N : Nat) (hp : 2 ≤ p ∧ p ≤ 7) (hm : Md (p : Int)) (hq : 2 ≤ q ∧ 2 * (q - 1) + 1 ≤ N ∧ N ≤ 11) (hpq : p ^ q ≤ 1000000) (o o1 : Bool) (f : PS (PS (Zm (p : Int)))) {Q : Int} (hQ : Q = q) :
   aL Tryz.prog 195 [cI p o o1 N f, aA Q, bD false] (.list true 1 (rows true (ext p (bU false q f) q []))) := by
 subst hQ
 have hP : 0 < p ^ (q - 1) := Nat.pow_pos (by omega)
 have hPb : p ^ (q - 1) ≤ 1000000 := Nat.le_trans (Nat.pow_le_pow_right (by omega) (by omega)) hpq
 have kpw := H4 hm o o1 N q ⟨by omega, by omega, by omega⟩ f (rfl : (q : Int) = q)
 rw [Abf (by omega) (by omega)]
 refine aX Tryz.tabOk aE Tryz.func195 rfl rfl ?_
 conv => whnf
 repeat' first | ((first | (apply zI; refine zP (kpw) ?_) | refine zS ?_ | refine zV ?_ | (apply zI; refine zP aH ?_) | refine Alt.fst ?_ | refine Or.inl ?_) <;> conv => whnf) | fail
 refine aR Tryz.tabOk aE (α := Nat) (fun n => [(8, .ref 2 [] 1 0 (eC false p q f n).length), (20, .undef)]) (fun n => [(2, some ⟨false, 1, rows true (eC false p q f n)⟩), (3, some ⟨false, 1, ints (bH p (q - 1) n)⟩)]) (fun n => n < p ^ (q - 1)) (fun n => p ^ (q - 1) - n) (0) ?_ ?_ ?_
 · exact hP
 · conv => whnf
   first | refine aG.autoR ?_ | refine aC.autoR ?_
   conv => whnf
   repeat' ((first | refine z1 ?_ | refine zP ?_ ?_ | exact trivial) <;> try (conv => whnf))
   all_goals rw [sH]
 intro n hn
 have hfl := Aej false p q f n
 have hdr := uJ (p := p) (by omega) (q - 1) n hn
 conv => whnf
 have hlu : (cY false : Int) :: bH p (q - 1) n = L q (rd (p : Int) ((cY false : Int) :: bH p (q - 1) n)) := by
   have h1 : ((cY false : Int) :: bH p (q - 1) n).length = q := by simp; omega
   have h2 : Nums (p : Int) ((cY false : Int) :: bH p (q - 1) n) := fun x hx => by
     rcases List.mem_cons.1 hx with rfl | hx
     · simp [cY]; omega
     · exact hdr x hx
   have h3 := jT h2
   rw [h1] at h3
   exact h3.symm
 have hS := Adr false p q f n
 have hT : jY false q f ((cY false : Int) :: bH p (q - 1) n) = true ↔ fV (bC (rd (p : Int) ((cY false : Int) :: bH p (q - 1) n)) f 0 q) (dM false (rd (p : Int) ((cY false : Int) :: bH p (q - 1) n))) q q 0 := by
   unfold jY
   rw [decide_eq_true_iff]; exact Aeo
 generalize ha : rd (p : Int) ((cY false : Int) :: bH p (q - 1) n) = a at *
 have eu : (Root.mk false 1 [D.lit (Value.int IntKind.i64 (cY false))]).cs ++ ints (List.take (q - 1) (List.drop 0 (bH p (q - 1) n))) = ints (L q a) := by
   rw [← hlu, List.drop_zero, List.take_of_length_le (by simp)]; rfl
 repeat' first | ((exact absurd (by assumption : false = true) (by decide))) | ((first | (refine zP (fun h => ?_) (fun h => ?_) <;> (try simp only [aB, aD] at h) <;> first | (exfalso; omega) | skip) | refine zV ?_ | (apply zI; refine zP aH ?_) | refine zP (Abl p q n) ?_ | refine Or.inl ?_) <;> conv => whnf) | fail
 refine zP (V2 q a (congrArg List.length eu)) ?_
 rw [show (Root.mk false 1 [D.lit (Value.int IntKind.i64 0)]).cs ++ ints (List.take (q - 1) (List.drop 0 (bH p (q - 1) n))) = ints (L q a) from eu]
 conv => whnf
 have hel := Ae5 hm q (by omega) false false f a
 rw [← nK (f := f) (k := q) (a := cnt 1 (cE q f q)) (uE q f q)] at hel
 repeat' first | ((first | (apply zI; refine zP (hel) ?_) | (apply zI; refine zP (S8 q a (by omega)) ?_)) <;> conv => whnf) | fail
 generalize hF : bC a f 0 q = F at *
 refine aR Tryz.tabOk aE (α := Nat × Bool) (fun x => [(14, aA x.1), (13, bD x.2), (26, .undef)]) (fun x => []) (fun x => x.1 ≤ q ∧ (x.2 = true ↔ fV F (dM false a) q x.1 0)) (fun x => q - x.1) ((0, true)) ?_ ?_ ?_
 · exact ⟨by omega, by simp [Adw]⟩
 · conv => whnf
   first | refine aG.autoR ?_ | refine aC.autoR ?_
   conv => whnf
   repeat' ((first | refine z1 ?_ | refine zP ?_ ?_ | exact trivial) <;> try (conv => whnf))
 intro x hx
 obtain ⟨i, good⟩ := x
 obtain ⟨hi, hg⟩ := hx
 simp only at hi hg
 conv => whnf
 by_cases hgo : i < q ∧ good = true
 · obtain ⟨hiq, rfl⟩ := hgo
   have hgi := hg.1 rfl
   repeat' first | ((exact absurd (by assumption : true = false) (by decide))) | ((first | (refine zP (fun h => ?_) (fun h => ?_) <;> (try simp only [aB, aD] at h) <;> first | (exfalso; omega) | skip)) <;> conv => whnf) | fail
   refine aR Tryz.tabOk aE (α := Nat × Bool) (fun x => [(15, aA x.1), (13, bD x.2)]) (fun x => []) (fun x => x.1 ≤ q ∧ (x.2 = true ↔ fV F (dM false a) q i x.1)) (fun x => q - x.1) ((0, true)) ?_ ?_ ?_
   · exact ⟨by omega, by simp [hgi]⟩
   · conv => whnf
     first | refine aG.autoR ?_ | refine aC.autoR ?_
     conv => whnf
     repeat' ((first | refine z1 ?_ | refine zP ?_ ?_ | exact trivial) <;> try (conv => whnf))
   intro x hx
   obtain ⟨j, good⟩ := x
   obtain ⟨hj, hg⟩ := hx
   simp only at hj hg
   conv => whnf
   by_cases hgo : j < q ∧ good = true
   · obtain ⟨hjq, rfl⟩ := hgo
     have hgj := hg.1 rfl
     have hst := U7 (F := F) (G := dM false a) hiq hjq
     have hdd : (((dM false a).c i).c j).val = (if j = 0 then (a.c i).val else if i = 0 then (a.c j).val else 0) := Amh a i j
     have x1 := hm.mul (a.c i) (a.c j)
     repeat' first | ((exact absurd (by assumption : true = false) (by decide))) | ((exact absurd (by assumption : false = true) (by decide))) | ((first | (apply zI; refine zP (eU (i := i) aN aW) ?_) | (apply zI; refine zP (pT (i := i) (j := j) aN aN aW aW) ?_) | (refine zP (fun h => ?_) (fun h => ?_) <;> (try simp only [aB, aD] at h) <;> first | (exfalso; omega) | skip) | refine zS ?_ | refine zV ?_ | (apply zI; refine zP aH ?_) | refine zP (aW) ?_) <;> conv => whnf) | fail
     all_goals first
       | (have he : ((F.c i).c j).val = (((dM false a).c i).c j).val := by (rw [hdd]; simp_all)
          refine Exists.intro (j + 1, true) (zP ⟨by simp only; omega, by rw [hst]; exact ⟨fun _ => ⟨hgj, he⟩, fun _ => rfl⟩⟩ (zP (by simp only; omega) ?_))
          (first | refine aG.autoR ?_ | refine aC.autoR ?_); (conv => whnf); (repeat' ((first | exact trivial | refine zP rfl ?_ | refine zP (lV aF) ?_ | refine zP bP ?_ | refine zP bQ ?_ | refine zP bR ?_ | refine zP ?_ ?_) <;> try (conv => whnf)))
          done)
       | (have he : ¬ ((F.c i).c j).val = (((dM false a).c i).c j).val := by (rw [hdd]; simp_all)
          refine Exists.intro (j + 1, false) (zP ⟨by simp only; omega, by rw [hst]; exact ⟨fun h => absurd h Bool.false_ne_true, fun h => absurd h.2 he⟩⟩ (zP (by simp only; omega) ?_))
          (first | refine aG.autoR ?_ | refine aC.autoR ?_); (conv => whnf); (repeat' ((first | exact trivial | refine zP rfl ?_ | refine zP (lV aF) ?_ | refine zP bP ?_ | refine zP bQ ?_ | refine zP bR ?_ | refine zP ?_ ?_) <;> try (conv => whnf)))
          done)
   · have hgn : good = true ↔ fV F (dM false a) q (i + 1) 0 := by
       by_cases hjq : j < q
       · have h1 : good = false := by
           cases good
           · rfl
           · exact absurd ⟨hjq, rfl⟩ hgo
         subst h1
         refine ⟨fun h => absurd h (by decide), fun h => hg.2 (yU (.inl (by omega)) h)⟩
       · have h1 : j = q := by omega
         rw [hg, h1]; exact Ade
     repeat' first | ((exact absurd ⟨by omega, by assumption⟩ hgo)) | ((first | (refine zP (fun h => ?_) (fun h => ?_) <;> (try simp only [aB, aD] at h) <;> first | (exfalso; omega) | skip) | refine zV ?_) <;> conv => whnf) | fail
     all_goals (refine Exists.intro (i + 1, good) (zP ⟨by omega, hgn⟩ (zP (by simp only; omega) ?_)))
     · first | refine aG.autoR ?_ | refine aC.autoR ?_
       conv => whnf
       repeat' ((first | refine z1 ?_ | refine zP ?_ ?_ | exact trivial) <;> try (conv => whnf))
     · first | refine aG.autoR ?_ | refine aC.autoR ?_
       conv => whnf
       repeat' ((first | refine z1 ?_ | refine zP ?_ ?_ | exact trivial) <;> try (conv => whnf))
 · have hgn : good = true ↔ fV F (dM false a) q q 0 := by
     by_cases hjq : i < q
     · have h1 : good = false := by
         cases good
         · rfl
         · exact absurd ⟨hjq, rfl⟩ hgo
       subst h1
       refine ⟨fun h => absurd h (by decide), fun h => hg.2 (yU (.inl (by omega)) h)⟩
     · have h1 : i = q := by omega
       rw [hg, h1]
   rw [← hgn] at hT
   have hge : i < q → good = false := fun h => by
     cases good
     · rfl
     · exact absurd ⟨h, rfl⟩ hgo
   by_cases hlast : n + 1 < p ^ (q - 1)
   · have kS := O3 (p : Int) (by omega) (q - 1) (by omega) (bH p (q - 1) n) (bH p (q - 1) (n + 1)) (by simp) hdr (by rw [rU (by omega) _ _ hn, if_pos hlast])
     cases good
     · have hS2 : eC false p q f (n + 1) = eC false p q f n := by rw [hS, if_neg (by rw [hT]; decide), List.append_nil]
       repeat' first | ((exact absurd (by assumption : false = true) (by decide))) | (refine jA [3] (kS) (by decide) ?_ (by simp) ?_; (focus ((conv => whnf); (repeat' ((first | refine z1 ?_ | refine z2 ?_ | refine zV ?_ | exact trivial) <;> (conv => whnf))); done)); conv => whnf) | ((first | (refine zP (fun h => ?_) (fun h => ?_) <;> (try simp only [aB, aD] at h) <;> first | (exfalso; omega) | skip)) <;> conv => whnf) | fail
       all_goals refine Exists.intro (n + 1) (zP hlast (zP (by omega) ?_))
       · first | refine aG.autoR ?_ | refine aC.autoR ?_
         conv => whnf
         repeat' ((first | refine z1 ?_ | refine zP ?_ ?_ | exact trivial) <;> try (conv => whnf))
         all_goals rw [hS2]
       · first | refine aG.autoR ?_ | refine aC.autoR ?_
         conv => whnf
         repeat' ((first | refine z1 ?_ | refine zP ?_ ?_ | exact trivial) <;> try (conv => whnf))
         all_goals rw [hS2]
     · have hS2 : eC false p q f (n + 1) = eC false p q f n ++ [L q a] := by rw [hS, if_pos (by rw [hT]), hlu]
       repeat' first | ((exact absurd (by assumption : true = false) (by decide))) | ((exact absurd (hge (by omega)) (by decide))) | (refine jA [3] (kS) (by decide) ?_ (by simp) ?_; (focus ((conv => whnf); (repeat' ((first | refine z1 ?_ | refine z2 ?_ | refine zV ?_ | exact trivial) <;> (conv => whnf))); done)); conv => whnf) | ((first | (refine zP (fun h => ?_) (fun h => ?_) <;> (try simp only [aB, aD] at h) <;> first | (exfalso; omega) | skip) | refine zV ?_ | (apply zI; refine zP aH ?_)) <;> conv => whnf) | fail
       refine Exists.intro (n + 1) (zP hlast (zP (by omega) ?_))
       first | refine aG.autoR ?_ | refine aC.autoR ?_
       conv => whnf
       repeat' ((first | refine z1 ?_ | refine zP ?_ ?_ | exact trivial) <;> try (conv => whnf))
       all_goals first | (rw [hS2]; done) | (rw [hS2]; simp)
   · have hlast2 : n + 1 = p ^ (q - 1) := by omega
     have kN := L5 (p : Int) (by omega) (q - 1) (by omega) (bH p (q - 1) n) (by simp) hdr (by rw [rU (by omega) _ _ hn, if_neg hlast])
     rw [← hlast2]
     cases good
     · have hS2 : eC false p q f (n + 1) = eC false p q f n := by rw [hS, if_neg (by rw [hT]; decide), List.append_nil]
       repeat' first | ((exact absurd (by assumption : false = true) (by decide))) | (refine jA [3] (kN) (by decide) ?_ (by simp) ?_; (focus ((conv => whnf); (repeat' ((first | refine z1 ?_ | refine z2 ?_ | refine zV ?_ | exact trivial) <;> (conv => whnf))); done)); conv => whnf) | ((first | refine z0 ?_ | (refine zP (fun h => ?_) (fun h => ?_) <;> (try simp only [aB, aD] at h) <;> first | (exfalso; omega) | skip) | refine zV ?_) <;> conv => whnf) | fail
       all_goals rw [hS2]
     · have hS2 : eC false p q f (n + 1) = eC false p q f n ++ [L q a] := by rw [hS, if_pos (by rw [hT]), hlu]
       repeat' first | ((exact absurd (by assumption : true = false) (by decide))) | ((exact absurd (hge (by omega)) (by decide))) | (refine jA [3] (kN) (by decide) ?_ (by simp) ?_; (focus ((conv => whnf); (repeat' ((first | refine z1 ?_ | refine z2 ?_ | refine zV ?_ | exact trivial) <;> (conv => whnf))); done)); conv => whnf) | ((first | refine z0 ?_ | (refine zP (fun h => ?_) (fun h => ?_) <;> (try simp only [aB, aD] at h) <;> first | (exfalso; omega) | skip) | refine zV ?_ | (apply zI; refine zP aH ?_)) <;> conv => whnf) | fail
       all_goals rw [hS2]
end Go.Proofs
