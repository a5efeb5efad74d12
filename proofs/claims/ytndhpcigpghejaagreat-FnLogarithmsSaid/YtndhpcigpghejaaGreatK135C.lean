import Derived.Test.YtndhpcigpghejaaGreatVm32
import Derived.Test.YtndhpcigpghejaaGreatK129
namespace Go.Vm
open Go
def trimE (k : Nat) (st : St) : St := ⟨st.env.take k ++ List.replicate (st.env.length - k) .undef, st.rt⟩
structure Hold (p : Prop) : Prop where
 out : p
section
variable {P : Program} {T : Tab} {kp : Nat}
theorem loop_cutR (hT : TabOk P T) (hm : P.follows .mixedOrders = true) (k : Nat) {body : Code} {Q : Exit → St → Prop} {st : St} {α : Type} (cs : α → List (Nat × D)) (rs : α → List (Nat × Option Root)) (J : α → Prop) (μ : α → Nat) (x0 : α) (h0 : J x0)
   (hw : forceNs (dstsC body) fun ds => WeakS kp st (gcSt kp (mkSt (trimE k st) ds (cs x0) (rs x0))))
   (round : ∀ x, J x → forceNs (dstsC body) fun ds => forceGc kp (mkSt (trimE k st) ds (cs x) (rs x)) (vcR P T kp body (fun e st' => match e with
     | .normal => ∃ y, J y ∧ μ y < μ x ∧ Weak kp st' (gcSt kp (mkSt (trimE k st) ds (cs y) (rs y)))
     | e => Q e st'))) : LoopK P kp body Q st :=
 loop_rule hT hm (fun x => gcSt kp (mkSt (trimE k st) (dstsC body) (cs x) (rs x))) J μ x0 h0 (by rw [forceNs_eq] at hw; exact hw.to) (fun x hx => by
   have h := round x hx
   rw [forceNs_eq, forceGc_eq, vcR_eq] at h
   exact h)
end
end Go.Vm
namespace Go.Proofs
open Go Go.Vm Go.Fg Go.Fg.PS
set_option maxRecDepth 100000
set_option maxHeartbeats 4000000
set_option linter.unusedSimpArgs false
set_option linter.unusedVariables false
variable {m : Int}
def lnI (w : PS (Zm m)) (G : PS (PS (Zm m))) (k : Nat) : Nat → PS (PS (Zm m))
 | 0 => G
 | i + 1 => upd2 (lnI w G k i) i (k - 1 - i) (w.c k)
def lnT (w : PS (Zm m)) : Nat → PS (PS (Zm m))
 | 0 => 0
 | k + 1 => lnI w (lnT w k) (k + 1) (k + 1)
def frWv (w : PS (Zm m)) : Nat → PS (PS (Zm m))
 | 0 => 0
 | k + 1 => upd2 (frWv w k) k 0 (w.c k)
def sgS : PS (Zm m) := ⟨fun k => if k % 2 = 0 then 1 else -1⟩
def blS (a w : PS (Zm m)) : PS (Zm m) := ⟨fun k => if k = 0 then 1 else Zm.mk m (m - ((a.c 2).val * (w.c k).val + (if k = 1 then (a.c 0).val else 0)).tmod m)⟩
theorem neg_one_val (hm : Md m) : m - 1 = (-1 : Zm m).val := by
 have h1 := hm.1
 have e := tm_mk hm (show 0 ≤ m - 1 by omega)
 rw [Int.tmod_eq_of_lt (by omega) (by omega)] at e
 rw [e]
 congr 1
 rw [Zm.mk_sub, Zm.mk_self, Go.Fg.sub_def, CR.zero_add]; rfl
section
variable (n : Nat) (a : PS (Zm m))
def w0 : PS (Zm m) := wS a.c (n + 1 - 3)
def wLN : PS (PS (Zm m)) := lnT (w0 n a) n
def wVv : PS (PS (Zm m)) := frWv (w0 n a) n + PS.C (PS.C (-1)) * (wLN n a * upd2 0 1 0 1)
def wSQ : PS (PS (Zm m)) := wLN n a * wLN n a
def wT1 : PS (PS (Zm m)) := PS.C (PS.C (a.c 0)) * wLN n a + PS.C (PS.C (a.c 1)) * wVv n a
def wT2 : PS (PS (Zm m)) := wT1 n a + PS.C (PS.C (a.c 2)) * wSQ n a
def wLV : PS (PS (Zm m)) := wLN n a * wVv n a
def wT3 : PS (PS (Zm m)) := wT2 n a + PS.C (PS.C (Zm.mk m (2 * (a.c (Int.toNat 3)).val))) * wLV n a
def wSV : PS (PS (Zm m)) := wSQ n a * wVv n a
def wT4 : PS (PS (Zm m)) := wT3 n a + PS.C (PS.C (Zm.mk m (3 * (a.c (Int.toNat 4)).val))) * wSV n a
def wB1 : PS (PS (Zm m)) := PS.C (PS.C (a.c 1)) * wLN n a + PS.C (PS.C (a.c 3)) * wSQ n a
def wSL : PS (PS (Zm m)) := wSQ n a * wLN n a
def wB2 : PS (PS (Zm m)) := wB1 n a + PS.C (PS.C (a.c 4)) * wSL n a
def wQ : PS (PS (Zm m)) := wT4 n a * comp2N sgS (wB2 n a) 0 n
def wU : PS (PS (Zm m)) := PS.C (PS.C (-1)) * (upd2 0 1 0 1 + turn (upd2 0 1 0 1) + wQ n a)
def wBl : PS (Zm m) := blS a (w0 n a)
def wF : PS (PS (Zm m)) := comp2N ((⟨fun k => if k = 1 then -1 else 0⟩ : PS (Zm m)) * inv (invN m ((wBl n a).c 0).val) (wBl n a)) (wU n a) 0 n
end
noncomputable def wstA (hm : Md m) (o : Bool) (n : Nat) (hn : 2 ≤ n ∧ n ≤ 11) {d : Int} (hd : d + 1 = n) (a : PS (Zm m)) (F : PS (PS (Zm m))) : (R : Prop) ×' (Hold R → PureCall Tryz.prog 184 [dint m, dint d, LD o 5 a] (TbD true true n F)) := by
 have hm1 := hm.1
 have hm2 := hm.2
 apply PSigma.mk
 intro h0
 refine pure_of_vcR Tryz.tabOk mixOrd Tryz.func184 rfl rfl ?_
 conv => whnf
 repeat' first | ((first | refine z0 ?_ | (apply zI; refine zP (c_l03Zero (m := m) n vAr vAr) ?_) | (apply zI; refine zP (c_l08Series hm _ (n + 1) vAr vAr a) ?_) | (refine And.intro (fun h => ?_) (fun h => ?_) <;> (try simp only [cnt1, ints_length] at h)) | refine zS ?_ | refine zV ?_ | (apply zI; refine zP vObt ?_) | (apply zI; refine zP vObx ?_) | refine zA ?_ | refine Alt.fst ?_ | refine Or.inl ?_) <;> conv => whnf) | fail
 rw [show wS a.c (n + 1 - 3) = w0 n a from rfl]
 refine loop_atR Tryz.tabOk mixOrd (α := Nat) (fun k => [(9, dint ((k : Int) + 1))]) (fun k => [(1, some ⟨false, 1, rows true (Tb n (lnT (w0 n a) k))⟩)]) (fun k => k ≤ n) (fun k => n - k) (0) ?_ ?_ ?_
 · omega
 · conv => whnf
   first | refine WeakS.autoR ?_ | refine Weak.autoR ?_
   conv => whnf
   repeat' ((first | refine z1 ?_ | refine z2 ?_ | refine zV ?_ | refine And.intro vRepl ?_ | refine And.intro vReplL ?_ | refine And.intro ?_ ?_ | exact trivial) <;> try (conv => whnf))
   all_goals first | rfl
 intro k hk
 conv => whnf
 repeat' first | ((first | refine z0 ?_ | (apply zI; refine zP (c_l03Zero (m := m) n vAr vAr) ?_) | (refine And.intro (fun h => ?_) (fun h => ?_) <;> (try simp only [cnt1, ints_length] at h)) | refine zS ?_ | refine zV ?_ | (apply zI; refine zP vObt ?_) | (apply zI; refine zP vObx ?_) | refine zA ?_ | refine Alt.fst ?_ | refine Or.inl ?_) <;> conv => whnf) | fail
 · have hkn : k < n := vAr
   refine loop_atR Tryz.tabOk mixOrd (α := Nat) (fun i => [(10, dint i)]) (fun i => [(1, some ⟨false, 1, rows true (Tb n (lnI (w0 n a) (lnT (w0 n a) k) (k + 1) i))⟩)]) (fun i => i ≤ k + 1) (fun i => n - i) (0) ?_ ?_ ?_
   · omega
   · conv => whnf
     first | refine WeakS.autoR ?_ | refine Weak.autoR ?_
     conv => whnf
     repeat' ((first | refine z1 ?_ | refine z2 ?_ | refine zV ?_ | refine And.intro vRepl ?_ | refine And.intro vReplL ?_ | refine And.intro ?_ ?_ | exact trivial) <;> try (conv => whnf))
     all_goals first | rfl
   intro i hi
   conv => whnf
   repeat' first | ((first | refine z0 ?_ | (refine And.intro (fun h => ?_) (fun h => ?_) <;> (try simp only [cnt1, ints_length] at h)) | refine zS ?_ | refine zV ?_ | (apply zI; refine zP vObt ?_) | (apply zI; refine zP vObx ?_) | refine zA ?_ | refine Alt.fst ?_ | refine Or.inl ?_) <;> conv => whnf) | fail
   · have hik : i < k + 1 := vAr
     refine Exists.intro (i + 1) (And.intro vAr (And.intro vAr ?_))
     first | refine WeakS.autoR ?_ | refine Weak.autoR ?_
     conv => whnf
     repeat' ((first | refine z1 ?_ | refine z2 ?_ | refine zV ?_ | refine And.intro vRepl ?_ | refine And.intro vReplL ?_ | refine And.intro ?_ ?_ | exact trivial) <;> try (conv => whnf))
     all_goals first
       | exact rows_congr (setT_eq ((w0 n a).c (k + 1)) rfl (by omega) (Ag2.of_eq rfl))
       | (rw [show ((k : Int) + 1 - 1 - (i : Int)).toNat = k - i by omega]; exact rows_congr (setT_eq ((w0 n a).c (k + 1)) rfl (by omega) (Ag2.of_eq rfl)))
   · have hik : i = k + 1 := vAr
     refine Exists.intro (k + 1) (And.intro vAr (And.intro vAr ?_))
     first | refine WeakS.autoR ?_ | refine Weak.autoR ?_
     conv => whnf
     repeat' ((first | refine z1 ?_ | refine z2 ?_ | refine zV ?_ | refine And.intro vRepl ?_ | refine And.intro vReplL ?_ | refine And.intro ?_ ?_ | exact trivial) <;> try (conv => whnf))
     all_goals first | (rw [hik]; rfl) | omega
 have hkn : n = k := by omega
 subst hkn
 have h1 : (1 : Int) = (1 : Zm m).val := (Zm.val_one (by omega)).symm
 rw [show setT (Tb n (0 : PS (PS (Zm m)))) 1 0 1 = Tb n (upd2 0 1 0 1) from setT_eq (1 : Zm m) h1 (by omega) (Ag2.of_eq rfl)]
 rw [show lnT (w0 n a) n = wLN n a from rfl]
 refine loop_cutR Tryz.tabOk mixOrd 26 (α := Nat) (fun i => [(8, .ref 1 [] 1 0 n), (9, .undef), (11, .ref 2 [] 1 0 n), (12, .ref 3 [] 1 0 n), (13, dint i)]) (fun i => [(3, some ⟨false, 1, rows true (Tb n (frWv (w0 n a) i))⟩)]) (fun i => i ≤ n) (fun i => n - i) (0) ?_ ?_ ?_
 · omega
 · conv => whnf
   first | refine WeakS.autoR ?_ | refine Weak.autoR ?_
   conv => whnf
   repeat' ((first | refine z1 ?_ | refine z2 ?_ | refine zV ?_ | refine And.intro vRepl ?_ | refine And.intro vReplL ?_ | refine And.intro ?_ ?_ | exact trivial) <;> try (conv => whnf))
   all_goals first | rfl
 exact h0.out
noncomputable def wstB (hm : Md m) (o : Bool) (n : Nat) (hn : 2 ≤ n ∧ n ≤ 11) {d : Int} (hd : d + 1 = n) (a : PS (Zm m)) (F : PS (PS (Zm m))) : (R : Prop) ×' (Hold R → (wstA hm o n hn hd a F).1) := by
 have hm1 := hm.1
 have hm2 := hm.2
 apply PSigma.mk
 intro h0
 conv => whnf
 intro i hi
 conv => whnf
 have hZ1 : m - 1 = (-1 : Zm m).val := neg_one_val hm
 have hx3 := Zm.val_range hm.pos (a.c (Int.toNat 3))
 have hx4 := Zm.val_range hm.pos (a.c (Int.toNat 4))
 repeat' first | ((first | refine z0 ?_ | (apply zI; refine zP (c_l03Times hm _ _ _ _ n vAr _ _) ?_) | (apply zI; refine zP (c_l03Add hm _ _ _ _ n vAr _ _) ?_) | (apply zI; refine zP (c_l03Scale hm _ _ n vAr (-1) hZ1 _) ?_) | (refine And.intro (fun h => ?_) (fun h => ?_) <;> (try simp only [cnt1, ints_length] at h)) | refine zS ?_ | refine zV ?_ | (apply zI; refine zP vObt ?_) | (apply zI; refine zP vObx ?_) | refine zA ?_ | refine Alt.fst ?_ | refine Or.inl ?_) <;> conv => whnf) | fail
 · have hin : i < n := vAr
   refine Exists.intro (i + 1) (And.intro vAr (And.intro vAr ?_))
   first | refine WeakS.autoR ?_ | refine Weak.autoR ?_
   conv => whnf
   repeat' ((first | refine z1 ?_ | refine z2 ?_ | refine zV ?_ | refine And.intro vRepl ?_ | refine And.intro vReplL ?_ | refine And.intro ?_ ?_ | exact trivial) <;> try (conv => whnf))
   all_goals first
     | exact rows_congr (setT_eq ((w0 n a).c i) rfl (by omega) (Ag2.of_eq rfl))
 have hin : n = i := by omega
 subst hin
 rw [show frWv (w0 n a) n + PS.C (PS.C (-1)) * (wLN n a * upd2 0 1 0 1) = wVv n a from rfl]
 rw [show wLN n a * wLN n a = wSQ n a from rfl]
 repeat' first | ((first | refine z0 ?_ | (apply zI; refine zP (c_l03Scale hm _ _ n vAr (a.c 0) rfl _) ?_) | (apply zI; refine zP (c_l03Scale hm _ _ n vAr (a.c 1) rfl _) ?_) | (apply zI; refine zP (c_l03Add hm _ _ _ _ n vAr _ _) ?_) | (refine And.intro (fun h => ?_) (fun h => ?_) <;> (try simp only [cnt1, ints_length] at h)) | refine zS ?_ | refine zV ?_ | (apply zI; refine zP vObt ?_) | (apply zI; refine zP vObx ?_) | refine zA ?_ | refine Alt.fst ?_ | refine Or.inl ?_) <;> conv => whnf) | fail
 rw [show PS.C (PS.C (a.c 0)) * wLN n a + PS.C (PS.C (a.c 1)) * wVv n a = wT1 n a from rfl]
 repeat' first | ((first | refine z0 ?_ | (apply zI; refine zP (c_l03Scale hm _ _ n vAr (a.c 2) rfl _) ?_) | (apply zI; refine zP (c_l03Add hm _ _ _ _ n vAr _ _) ?_) | (apply zI; refine zP (c_l03Times hm _ _ _ _ n vAr _ _) ?_) | (refine And.intro (fun h => ?_) (fun h => ?_) <;> (try simp only [cnt1, ints_length] at h)) | refine zS ?_ | refine zV ?_ | (apply zI; refine zP vObt ?_) | (apply zI; refine zP vObx ?_) | refine zA ?_ | refine And.intro ((inR64 (by omega) (by omega))) ?_ | refine Alt.fst ?_ | refine Or.inl ?_) <;> conv => whnf) | fail
 rw [show wT1 n a + PS.C (PS.C (a.c 2)) * wSQ n a = wT2 n a from rfl]
 rw [show wLN n a * wVv n a = wLV n a from rfl]
 repeat' first | ((first | refine z0 ?_ | (apply zI; refine zP (c_l03Scale hm _ _ n vAr (Zm.mk m (2 * (a.c (Int.toNat 3)).val)) (tm_mk hm (by omega)) _) ?_) | (apply zI; refine zP (c_l03Add hm _ _ _ _ n vAr _ _) ?_) | (apply zI; refine zP (c_l03Times hm _ _ _ _ n vAr _ _) ?_) | (refine And.intro (fun h => ?_) (fun h => ?_) <;> (try simp only [cnt1, ints_length] at h)) | refine zS ?_ | refine zV ?_ | (apply zI; refine zP vObt ?_) | (apply zI; refine zP vObx ?_) | refine zA ?_ | refine And.intro ((inR64 (by omega) (by omega))) ?_ | refine Alt.fst ?_ | refine Or.inl ?_) <;> conv => whnf) | fail
 rw [show wT2 n a + PS.C (PS.C (Zm.mk m (2 * (a.c (Int.toNat 3)).val))) * wLV n a = wT3 n a from rfl]
 rw [show wSQ n a * wVv n a = wSV n a from rfl]
 repeat' first | ((first | refine z0 ?_ | (apply zI; refine zP (c_l03Scale hm _ _ n vAr (Zm.mk m (3 * (a.c (Int.toNat 4)).val)) (tm_mk hm (by omega)) _) ?_) | (apply zI; refine zP (c_l03Add hm _ _ _ _ n vAr _ _) ?_) | (refine And.intro (fun h => ?_) (fun h => ?_) <;> (try simp only [cnt1, ints_length] at h)) | refine zS ?_ | refine zV ?_ | (apply zI; refine zP vObt ?_) | (apply zI; refine zP vObx ?_) | refine zA ?_ | refine Alt.fst ?_ | refine Or.inl ?_) <;> conv => whnf) | fail
 rw [show wT3 n a + PS.C (PS.C (Zm.mk m (3 * (a.c (Int.toNat 4)).val))) * wSV n a = wT4 n a from rfl]
 repeat' first | ((first | refine z0 ?_ | (apply zI; refine zP (c_l03Scale hm _ _ n vAr (a.c 1) rfl _) ?_) | (apply zI; refine zP (c_l03Scale hm _ _ n vAr (a.c 3) rfl _) ?_) | (apply zI; refine zP (c_l03Add hm _ _ _ _ n vAr _ _) ?_) | (apply zI; refine zP (c_l03Times hm _ _ _ _ n vAr _ _) ?_) | (refine And.intro (fun h => ?_) (fun h => ?_) <;> (try simp only [cnt1, ints_length] at h)) | refine zS ?_ | refine zV ?_ | (apply zI; refine zP vObt ?_) | (apply zI; refine zP vObx ?_) | refine zA ?_ | refine Alt.fst ?_ | refine Or.inl ?_) <;> conv => whnf) | fail
 rw [show PS.C (PS.C (a.c 1)) * wLN n a + PS.C (PS.C (a.c 3)) * wSQ n a = wB1 n a from rfl]
 rw [show wSQ n a * wLN n a = wSL n a from rfl]
 repeat' first | ((first | refine z0 ?_ | (apply zI; refine zP (c_l03Scale hm _ _ n vAr (a.c 4) rfl _) ?_) | (apply zI; refine zP (c_l03Add hm _ _ _ _ n vAr _ _) ?_) | (refine And.intro (fun h => ?_) (fun h => ?_) <;> (try simp only [cnt1, ints_length] at h)) | refine zS ?_ | refine zV ?_ | (apply zI; refine zP vObt ?_) | (apply zI; refine zP vObx ?_) | refine zA ?_ | refine Alt.fst ?_ | refine Or.inl ?_) <;> conv => whnf) | fail
 rw [show wB1 n a + PS.C (PS.C (a.c 4)) * wSL n a = wB2 n a from rfl]
 exact h0.out
theorem sgLd (hm : Md m) (i : Nat) : LoadRow [dint 1, dint (m - 1)] [] (place 1 0 ((i : Int).tmod 2).toNat) (dint ((sgS : PS (Zm m)).c i).val) := by
 have h1 : (1 : Int) = (1 : Zm m).val := (Zm.val_one (by have := hm.1; omega)).symm
 have e : ((i : Int).tmod 2).toNat = i % 2 := by rw [Int.tmod_eq_emod_of_nonneg (by omega)]; omega
 refine ⟨_, rfl, ?_⟩
 unfold place sgS
 rw [e]
 rcases Nat.mod_two_eq_zero_or_one i with h | h
 · rw [h]; simp only [if_pos h, ← h1]; rfl
 · rw [h]; simp only [if_neg (show ¬i % 2 = 0 by omega), ← neg_one_val hm]; rfl
noncomputable def wstC (hm : Md m) (o : Bool) (n : Nat) (hn : 2 ≤ n ∧ n ≤ 11) {d : Int} (hd : d + 1 = n) (a : PS (Zm m)) (F : PS (PS (Zm m))) : (R : Prop) ×' (Hold R → (wstB hm o n hn hd a F).1) := by
 have hm1 := hm.1
 have hm2 := hm.2
 apply PSigma.mk
 intro h0
 conv => whnf
 refine loop_cutR Tryz.tabOk mixOrd 26 (α := Nat) (fun i => [(7, .ref 0 [] 1 0 (n + 1)), (8, .undef), (11, .ref 2 [] 1 0 n), (12, .undef), (13, .undef), (14, .undef), (15, .undef), (16, .ref 18 [] 1 0 n), (17, .ref 24 [] 1 0 n), (18, .ref 25 [] 1 0 i), (19, dint i)]) (fun i => [(25, some ⟨false, 1, ints (L i (sgS : PS (Zm m)))⟩)]) (fun i => i ≤ n) (fun i => n - i) (0) ?_ ?_ ?_
 · omega
 · conv => whnf
   first | refine WeakS.autoR ?_ | refine Weak.autoR ?_
   conv => whnf
   repeat' ((first | refine z1 ?_ | refine z2 ?_ | refine zV ?_ | refine And.intro vRepl ?_ | refine And.intro vReplL ?_ | refine And.intro ?_ ?_ | exact trivial) <;> try (conv => whnf))
   all_goals first | rfl
 intro i hi
 conv => whnf
 repeat' first | ((refine Exists.intro (dint ((sgS : PS (Zm m)).c i).val) (And.intro (sgLd hm i) ?_); conv => whnf)) | ((first | refine z0 ?_ | (refine And.intro (fun h => ?_) (fun h => ?_) <;> (try simp only [cnt1, ints_length] at h) <;> first | (exfalso; omega) | skip) | refine zS ?_ | refine zV ?_ | (apply zI; refine zP vObt ?_) | (apply zI; refine zP vObx ?_) | refine zA ?_ | refine Alt.fst ?_ | refine Or.inl ?_) <;> conv => whnf) | fail
 · have hin : i < n := vAr
   refine Exists.intro (i + 1) (And.intro vAr (And.intro vAr ?_))
   first | refine WeakS.autoR ?_ | refine Weak.autoR ?_
   conv => whnf
   repeat' ((first | refine z1 ?_ | refine z2 ?_ | refine zV ?_ | refine And.intro vRepl ?_ | refine And.intro vReplL ?_ | refine And.intro ?_ ?_ | exact trivial) <;> try (conv => whnf))
   all_goals first
     | omega
     | exact ints_congr' (L_push rfl)
 have hin : n = i := by omega
 subst hin
 repeat' first | ((first | refine z0 ?_ | (apply zI; refine zP (c_l03After hm _ _ _ n (by omega) n (by omega) sgS (wB2 n a)) ?_) | (apply zI; refine zP (c_l03Times hm _ _ _ _ n vAr (wT4 n a) (comp2N sgS (wB2 n a) 0 n)) ?_) | (apply zI; refine zP (c_l03Turn _ _ n (by omega) (upd2 0 1 0 1)) ?_) | (apply zI; refine zP (c_l03Add hm _ _ _ _ n vAr _ _) ?_) | (apply zI; refine zP (c_l03Scale hm _ _ n vAr (-1) (neg_one_val hm) _) ?_) | (refine And.intro (fun h => ?_) (fun h => ?_) <;> (try simp only [cnt1, ints_length] at h)) | refine zS ?_ | refine zV ?_ | (apply zI; refine zP vObt ?_) | (apply zI; refine zP vObx ?_) | refine zA ?_ | refine Alt.fst ?_ | refine Or.inl ?_) <;> conv => whnf) | fail
 rw [show wT4 n a * comp2N sgS (wB2 n a) 0 n = wQ n a from rfl]
 rw [show PS.C (PS.C (-1)) * (upd2 0 1 0 1 + turn (upd2 0 1 0 1) + wQ n a) = wU n a from rfl]
 exact h0.out
end Go.Proofs
