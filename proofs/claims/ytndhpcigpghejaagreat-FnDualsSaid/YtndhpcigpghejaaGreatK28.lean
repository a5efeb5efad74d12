import Derived.Test.YtndhpcigpghejaaGreatK127
import Derived.Test.YtndhpcigpghejaaGreatK154
namespace Go.Proofs
open Go Go.Vm Go.Fg Go.Fg.PS
set_option maxRecDepth 100000
set_option maxHeartbeats 4000000
set_option linter.unusedSimpArgs false
set_option linter.unusedVariables false
variable {m : Int}
def wV (z : Nat → Zm m) (w : PS (Zm m)) (k : Nat) : Int := (z 0).val * (w.c (k - 1)).val + (z 1).val * (w.c (k - 2)).val + (z 2).val * ((w * w).c k).val + (z 3).val * ((w * w).c (k - 1)).val + (z 4).val * ((w * w * w).c k).val + (if k = 3 then 1 else 0)
def wS (z : Nat → Zm m) : Nat → PS (Zm m)
 | 0 => 0
 | t + 1 => (wS z t).upd (t + 3) (Zm.mk m (wV z (wS z t) (t + 3)))
theorem wS_set (hm : Md m) {z : Nat → Zm m} {n t : Nat} {X : Int} (h : 0 ≤ X) (e : X = wV z (wS z t) (t + 3)) : (L n (wS z t)).set (t + 3) (X.tmod m) = L n (wS z (t + 1)) :=
 L_set_eq _ (by rw [tm_mk hm h, e]) (fun k hk => rfl)
theorem c_l08Series (hm : Md m) (o : Bool) (n : Nat) (hn : 3 ≤ n ∧ n ≤ 12) {d : Int} (hd : d + 1 = n) (a : PS (Zm m)) : PureCall Tryz.prog 187 [dint m, dint d, LD o 5 a] (LD true n (wS a.c (n - 3))) := by
 have hm1 := hm.1
 have hm2 := hm.2
 refine pure_of_vcR Tryz.tabOk mixOrd Tryz.func187 rfl rfl ?_
 conv => whnf
 repeat' first | ((first | refine z0 ?_ | (refine And.intro (fun h => ?_) (fun h => ?_) <;> (try simp only [cnt1, ints_length] at h)) | refine zS ?_ | refine zV ?_ | (apply zI; refine zP vObt ?_) | (apply zI; refine zP vObx ?_) | refine zA ?_ | refine Alt.fst ?_ | refine Or.inl ?_) <;> conv => whnf) | fail
 refine loop_atR Tryz.tabOk mixOrd (α := Nat) (fun t => [(8, dint ((t : Int) + 3)), (7, .ref 0 [] 1 0 n), (14, .undef), (9, .undef), (10, .undef)]) (fun t => [(0, some ⟨false, 1, ints (L n (wS a.c t))⟩)]) (fun t => t + 3 ≤ n) (fun t => n - t) (0) ?_ ?_ ?_
 · omega
 · conv => whnf
   first | refine WeakS.autoR ?_ | refine Weak.autoR ?_
   conv => whnf
   repeat' ((first | refine z1 ?_ | refine z2 ?_ | refine zV ?_ | refine And.intro vRepl ?_ | refine And.intro vReplL ?_ | refine And.intro ?_ ?_ | exact trivial) <;> try (conv => whnf))
   all_goals first
     | omega
     | exact ints_congr' (by rw [show (d + 1).toNat = n by omega, ← L_zero (m := m)]; rfl)
 intro t ht
 conv => whnf
 by_cases htn : t + 3 < n
 · have hx0 := hm.mul (a.c 0) ((wS a.c t).c (t + 2))
   have hx1 := hm.mul (a.c 1) ((wS a.c t).c (t + 1))
   have hx2 := hm.mul (a.c (Int.toNat 2)) ((wS a.c t * wS a.c t).c (t + 3))
   have hx3 := hm.mul (a.c (Int.toNat 3)) ((wS a.c t * wS a.c t).c (t + 2))
   have hx4 := hm.mul (a.c (Int.toNat 4)) ((wS a.c t * wS a.c t * wS a.c t).c (t + 3))
   repeat' first | ((first | refine z0 ?_ | (apply zI; refine zP (c_l02Times hm _ _ (t + 4) n n (by omega) (by omega) (by omega) (by omega) (by omega) (by omega) (wS a.c t) (wS a.c t)) ?_) | (apply zI; refine zP (c_l02Times hm _ _ (t + 4) (t + 4) n (by omega) (by omega) (by omega) (by omega) (by omega) (by omega) (wS a.c t * wS a.c t) (wS a.c t)) ?_) | (refine And.intro (fun h => ?_) (fun h => ?_) <;> (try simp only [cnt1, ints_length] at h) <;> first | (exfalso; omega) | skip) | refine zS ?_ | refine zV ?_ | (apply zI; refine zP vObt ?_) | (apply zI; refine zP vObx ?_) | refine zA ?_ | refine Alt.fst ?_ | refine Or.inl ?_) <;> conv => whnf) | fail
   have e1 : ((t : Int) + 3 - 1).toNat = t + 2 := by omega
   have e2 : ((t : Int) + 3 - 2).toNat = t + 1 := by omega
   have e3 : ((t : Int) + 3).toNat = t + 3 := by omega
   rw [e1, e2]
   repeat' first | ((first | (refine And.intro (fun h => ?_) (fun h => ?_) <;> (try simp only [cnt1, ints_length] at h) <;> first | (exfalso; omega) | skip) | refine zS ?_ | refine zV ?_ | (apply zI; refine zP vObt ?_) | (apply zI; refine zP vObx ?_)) <;> conv => whnf) | fail
   rw [e3]
   repeat' first | ((first | (refine And.intro (fun h => ?_) (fun h => ?_) <;> (try simp only [cnt1, ints_length] at h) <;> first | (exfalso; omega) | skip) | refine zS ?_ | refine zV ?_ | (apply zI; refine zP vObt ?_) | (apply zI; refine zP vObx ?_)) <;> conv => whnf) | fail
   rw [e1]
   repeat' first | ((first | (refine And.intro (fun h => ?_) (fun h => ?_) <;> (try simp only [cnt1, ints_length] at h) <;> first | (exfalso; omega) | skip) | refine zS ?_ | refine zV ?_ | (apply zI; refine zP vObt ?_) | (apply zI; refine zP vObx ?_)) <;> conv => whnf) | fail
   rw [e3]
   repeat' first | ((first | (refine And.intro (fun h => ?_) (fun h => ?_) <;> (try simp only [cnt1, ints_length] at h) <;> first | (exfalso; omega) | skip) | refine zS ?_ | refine zV ?_ | (apply zI; refine zP vObt ?_) | (apply zI; refine zP vObx ?_)) <;> conv => whnf) | fail
   · refine Exists.intro (t + 1) (And.intro vAr (And.intro vAr ?_))
     first | refine WeakS.autoR ?_ | refine Weak.autoR ?_
     conv => whnf
     repeat' ((first | refine z1 ?_ | refine z2 ?_ | refine zV ?_ | refine And.intro vRepl ?_ | refine And.intro vReplL ?_ | refine And.intro ?_ ?_ | exact trivial) <;> try (conv => whnf))
     all_goals first
       | omega
       | exact ints_congr' (wS_set hm (by omega) (by unfold wV; rw [if_pos (by omega)]; rfl))
   · refine Exists.intro (t + 1) (And.intro vAr (And.intro vAr ?_))
     first | refine WeakS.autoR ?_ | refine Weak.autoR ?_
     conv => whnf
     repeat' ((first | refine z1 ?_ | refine z2 ?_ | refine zV ?_ | refine And.intro vRepl ?_ | refine And.intro vReplL ?_ | refine And.intro ?_ ?_ | exact trivial) <;> try (conv => whnf))
     all_goals first
       | omega
       | exact ints_congr' (wS_set hm (by omega) (by unfold wV; rw [if_neg (by omega), Int.add_zero]; rfl))
 · repeat' first | ((first | refine z0 ?_ | (refine And.intro (fun h => ?_) (fun h => ?_) <;> (try simp only [cnt1, ints_length] at h) <;> first | (exfalso; omega) | skip) | refine zS ?_ | refine zV ?_ | (apply zI; refine zP vObt ?_) | (apply zI; refine zP vObx ?_)) <;> conv => whnf) | fail
   have htn2 : t = n - 3 := by omega
   rw [htn2]
open Classical in
noncomputable def trL (p : Prop) : Bool := decide p
theorem trL_yes {p : Prop} (h : p) : trL p = true := by simp [trL, h]
theorem trL_no {p : Prop} (h : ¬ p) : trL p = false := by simp [trL, h]
def lin (i : Nat) : Zm m := if i = 1 then 1 else 0
def LawP (f : PS (PS (Zm m))) (n : Nat) : Prop :=
 (∀ i, i < n → (f.c i).c 0 = lin i) ∧ (∀ i j, i + j < n → (f.c i).c j = (f.c j).c i) ∧ ∀ a b c, a + b + c < n → lft f n a b c = rgt f n a b c
theorem c_implIsLawL (hm : Md m) (o p : Bool) (n : Nat) (hn : 2 ≤ n ∧ n ≤ 11) (f : PS (PS (Zm m))) (hp : plB m (Tb n f) = true) : PureCall Tryz.prog 18 [PlD m o p n f] (dbool (trL (LawP f n))) := by
 have hm1 := hm.1
 have hm2 := hm.2
 have hli := c_IsPlane o p m (Tb n f) (by simp; omega) (lensOk_Tb (by omega) f)
 rw [hp] at hli
 refine pure_of_vcR Tryz.tabOk mixOrd Tryz.func18 rfl rfl ?_
 conv => whnf
 repeat' first | ((first | refine z0 ?_ | (apply zI; refine zP (hli) ?_) | refine Or.inr (inl_ofR Tryz.tabOk mixOrd _ Tryz.func168 rfl rfl ?_) | (refine And.intro (fun h => ?_) (fun h => ?_) <;> (try simp only [cnt1, ints_length] at h)) | refine Or.inl ?_) <;> conv => whnf) | fail
 · refine loop_atR Tryz.tabOk mixOrd (α := Nat) (fun i => [(16, dint i)]) (fun i => []) (fun i => i ≤ n ∧ ∀ k, k < i → (f.c k).c 0 = lin k) (fun i => n - i) (0) ?_ ?_ ?_
   · exact ⟨by omega, by omega⟩
   · conv => whnf
     first | refine WeakS.autoR ?_ | refine Weak.autoR ?_
     conv => whnf
     repeat' ((first | refine z1 ?_ | refine z2 ?_ | refine zV ?_ | refine And.intro vRepl ?_ | refine And.intro vReplL ?_ | refine And.intro ?_ ?_ | exact trivial) <;> try (conv => whnf))
   intro i ⟨hi, hz⟩
   conv => whnf
   repeat' first | ((first | refine z0 ?_ | (refine And.intro (fun h => ?_) (fun h => ?_) <;> (try simp only [cnt1, ints_length] at h)) | refine zS ?_ | refine zV ?_ | (apply zI; refine zP vObt ?_) | (apply zI; refine zP vObx ?_) | refine zA ?_ | refine Alt.fst ?_ | refine Or.inl ?_) <;> conv => whnf) | fail
   · have hi' : i < n := by simp only [rows_length, Tb_length] at *; omega
     exact dbool_congr (trL_no (fun hc => h (by rw [hc.1 i hi', lin, if_pos (by omega)]; exact Zm.val_one (by omega)))).symm
   · have hi' : i < n := by simp only [rows_length, Tb_length] at *; omega
     have he := Classical.not_not.1 h
     refine Exists.intro (i + 1) (And.intro ⟨by omega, lt_cases hz (Zm.val_inj (by rw [he, lin, if_pos (by omega)]; exact (Zm.val_one (by omega)).symm))⟩ (And.intro (by omega) ?_))
     first | refine WeakS.autoR ?_ | refine Weak.autoR ?_
     conv => whnf
     repeat' ((first | refine z1 ?_ | refine z2 ?_ | refine zV ?_ | refine And.intro vRepl ?_ | refine And.intro vReplL ?_ | refine And.intro ?_ ?_ | exact trivial) <;> try (conv => whnf))
   · have hi' : i < n := by simp only [rows_length, Tb_length] at *; omega
     exact dbool_congr (trL_no (fun hc => h (by rw [hc.1 i hi', lin, if_neg (by omega)]; exact Zm.val_eq_zero.2 rfl))).symm
   · have hi' : i < n := by simp only [rows_length, Tb_length] at *; omega
     have he := Zm.val_eq_zero.1 (Classical.not_not.1 h)
     refine Exists.intro (i + 1) (And.intro ⟨by omega, lt_cases hz (by rw [he, lin, if_neg (by omega)])⟩ (And.intro (by omega) ?_))
     first | refine WeakS.autoR ?_ | refine Weak.autoR ?_
     conv => whnf
     repeat' ((first | refine z1 ?_ | refine z2 ?_ | refine zV ?_ | refine And.intro vRepl ?_ | refine And.intro vReplL ?_ | refine And.intro ?_ ?_ | exact trivial) <;> try (conv => whnf))
   · have hin : i = n := by simp only [rows_length, Tb_length] at *; omega
     subst hin
     refine loop_atR Tryz.tabOk mixOrd (α := Nat) (fun x => [(36, dint x), (6, .undef)]) (fun x => []) (fun x => x ≤ i ∧ ∀ a b, a < x → a < b → a + b < i → (f.c a).c b = (f.c b).c a) (fun x => i - x) (0) ?_ ?_ ?_
     · exact ⟨by omega, by omega⟩
     · conv => whnf
       first | refine WeakS.autoR ?_ | refine Weak.autoR ?_
       conv => whnf
       repeat' ((first | refine z1 ?_ | refine z2 ?_ | refine zV ?_ | refine And.intro vRepl ?_ | refine And.intro vReplL ?_ | refine And.intro ?_ ?_ | exact trivial) <;> try (conv => whnf))
     intro x ⟨hx, hsy⟩
     conv => whnf
     repeat' first | ((first | refine z0 ?_ | refine Or.inr (inl_ofR Tryz.tabOk mixOrd _ Tryz.func342 rfl rfl ?_) | (apply zI; refine zP (c_powersP hm _ _ i vAr _) ?_) | (apply zI; refine zP (c_degreeP _ _ _ vAr _) ?_) | (refine And.intro (fun h => ?_) (fun h => ?_) <;> (try simp only [cnt1, ints_length] at h)) | refine zS ?_ | refine zV ?_ | (apply zI; refine zP vObx ?_) | refine Alt.fst ?_ | refine Or.inl ?_) <;> conv => whnf) | fail
     · refine loop_atR Tryz.tabOk mixOrd (α := Nat) (fun y => [(7, dint ((x : Int) + 1 + y))]) (fun y => []) (fun y => y ≤ i ∧ ∀ b, x < b → b < x + 1 + y → x + b < i → (f.c x).c b = (f.c b).c x) (fun y => i - y) (0) ?_ ?_ ?_
       · exact ⟨by omega, by omega⟩
       · conv => whnf
         first | refine WeakS.autoR ?_ | refine Weak.autoR ?_
         conv => whnf
         repeat' ((first | refine z1 ?_ | refine z2 ?_ | refine zV ?_ | refine And.intro vRepl ?_ | refine And.intro vReplL ?_ | refine And.intro ?_ ?_ | exact trivial) <;> try (conv => whnf))
       intro y ⟨hy, hsx⟩
       conv => whnf
       have e1 : ((x : Int) + 1 + y).toNat = x + 1 + y := by omega
       repeat' first | ((first | refine z0 ?_ | (refine And.intro (fun h => ?_) (fun h => ?_) <;> (try simp only [cnt1, ints_length] at h)) | refine zS ?_ | refine zV ?_ | (apply zI; refine zP vObt ?_) | (apply zI; refine zP vObx ?_) | refine zA ?_ | refine Alt.fst ?_ | refine Or.inl ?_) <;> conv => whnf) | fail
       · have hy' : x + 1 + y < i - x := by simp only [L_length] at *; omega
         rw [e1] at h
         exact dbool_congr (trL_no (fun hc => h (by rw [hc.2.1 x (x + 1 + y) (by omega)]))).symm
       · have hy' : x + 1 + y < i - x := by simp only [L_length] at *; omega
         rw [e1] at h
         refine Exists.intro (y + 1) (And.intro ⟨by omega, fun b h1 h2 h3 => ?_⟩ (And.intro (by omega) ?_))
         · rcases Nat.lt_or_ge b (x + 1 + y) with h' | h'
           · exact hsx b h1 h' h3
           · rw [show b = x + 1 + y by omega]; exact Zm.val_inj (Classical.not_not.1 h)
         first | refine WeakS.autoR ?_ | refine Weak.autoR ?_
         conv => whnf
         repeat' ((first | refine z1 ?_ | refine z2 ?_ | refine zV ?_ | refine And.intro vRepl ?_ | refine And.intro vReplL ?_ | refine And.intro ?_ ?_ | exact trivial) <;> try (conv => whnf))
       · have hy' : ¬ x + 1 + y < i - x := by simp only [L_length] at *; omega
         have hx' : x < i := by simp only [rows_length, Tb_length] at *; omega
         refine Exists.intro (x + 1) (And.intro ⟨by omega, fun a b h1 h2 h3 => ?_⟩ (And.intro (by omega) ?_))
         · rcases Nat.lt_or_ge a x with h' | h'
           · exact hsy a b h' h2 h3
           · have ea : a = x := by omega
             subst ea
             exact hsx b h2 (by omega) h3
         first | refine WeakS.autoR ?_ | refine Weak.autoR ?_
         conv => whnf
         repeat' ((first | refine z1 ?_ | refine z2 ?_ | refine zV ?_ | refine And.intro vRepl ?_ | refine And.intro vReplL ?_ | refine And.intro ?_ ?_ | exact trivial) <;> try (conv => whnf))
     · have hxi : x = i := by simp only [rows_length, Tb_length] at *; omega
       have hsym : ∀ a b, a + b < i → (f.c a).c b = (f.c b).c a := fun a b hab => by
         rcases Nat.lt_trichotomy a b with h' | h' | h'
         · exact hsy a b (by omega) h' hab
         · rw [h']
         · exact (hsy b a (by omega) h' (by omega)).symm
       clear hsy
       refine loop_atR Tryz.tabOk mixOrd (α := Nat) (fun a => [(10, dint a)]) (fun a => []) (fun a => a ≤ i ∧ ∀ a' b' c', a' < a → a' + b' + c' < i → lft f i a' b' c' = rgt f i a' b' c') (fun a => i - a) (0) ?_ ?_ ?_
       · exact ⟨by omega, by omega⟩
       · conv => whnf
         first | refine WeakS.autoR ?_ | refine Weak.autoR ?_
         conv => whnf
         repeat' ((first | refine z1 ?_ | refine z2 ?_ | refine zV ?_ | refine And.intro vRepl ?_ | refine And.intro vReplL ?_ | refine And.intro ?_ ?_ | exact trivial) <;> try (conv => whnf))
       intro a ⟨ha, hal⟩
       conv => whnf
       repeat' first | ((first | refine z0 ?_ | (refine And.intro (fun h => ?_) (fun h => ?_) <;> (try simp only [cnt1, ints_length] at h)) | refine zS ?_ | refine zV ?_ | (apply zI; refine zP vObt ?_) | (apply zI; refine zP vObx ?_) | refine zA ?_ | refine Alt.fst ?_ | refine Or.inl ?_) <;> conv => whnf) | fail
       · refine loop_atR Tryz.tabOk mixOrd (α := Nat) (fun b => [(11, dint b)]) (fun b => []) (fun b => a + b ≤ i ∧ ∀ b' c', b' < b → a + b' + c' < i → lft f i a b' c' = rgt f i a b' c') (fun b => i - b) (0) ?_ ?_ ?_
         · exact ⟨by omega, by omega⟩
         · conv => whnf
           first | refine WeakS.autoR ?_ | refine Weak.autoR ?_
           conv => whnf
           repeat' ((first | refine z1 ?_ | refine z2 ?_ | refine zV ?_ | refine And.intro vRepl ?_ | refine And.intro vReplL ?_ | refine And.intro ?_ ?_ | exact trivial) <;> try (conv => whnf))
         intro b ⟨hb, hbl⟩
         conv => whnf
         repeat' first | ((first | refine z0 ?_ | (refine And.intro (fun h => ?_) (fun h => ?_) <;> (try simp only [cnt1, ints_length] at h)) | refine zS ?_ | refine zV ?_ | (apply zI; refine zP vObt ?_) | (apply zI; refine zP vObx ?_) | refine zA ?_ | refine Alt.fst ?_ | refine Or.inl ?_) <;> conv => whnf) | fail
         · refine loop_atR Tryz.tabOk mixOrd (α := Nat) (fun c => [(12, dint c)]) (fun c => []) (fun c => a + b + c ≤ i ∧ ∀ c', c' < c → a + b + c' < i → lft f i a b c' = rgt f i a b c') (fun c => i - c) (0) ?_ ?_ ?_
           · exact ⟨by omega, by omega⟩
           · conv => whnf
             first | refine WeakS.autoR ?_ | refine Weak.autoR ?_
             conv => whnf
             repeat' ((first | refine z1 ?_ | refine z2 ?_ | refine zV ?_ | refine And.intro vRepl ?_ | refine And.intro vReplL ?_ | refine And.intro ?_ ?_ | exact trivial) <;> try (conv => whnf))
           intro c ⟨hc, hcl⟩
           conv => whnf
           repeat' first | ((first | refine z0 ?_ | (apply zI; refine zP (c_defects hm _ _ _ i vAr f a b c vAr) ?_) | (apply zI; refine zP (sub_pls _ _ _) ?_) | (refine And.intro (fun h => ?_) (fun h => ?_) <;> (try simp only [cnt1, ints_length] at h)) | refine zV ?_ | (apply zI; refine zP vObx ?_) | refine And.intro (vPlSz _ _ _) ?_ | refine Or.inl ?_) <;> conv => whnf) | fail
           · exact dbool_congr (trL_no (fun hc => h (by rw [hc.2.2 a b c (by omega), Go.Fg.sub_self]; exact Zm.val_eq_zero.2 rfl))).symm
           · have he := Go.Fg.sub_eq_zero.1 (Zm.val_eq_zero.1 (Classical.not_not.1 h))
             refine Exists.intro (c + 1) (And.intro ⟨by omega, fun c' h1 h2 => ?_⟩ (And.intro (by omega) ?_))
             · rcases Nat.lt_or_ge c' c with h' | h'
               · exact hcl c' h' h2
               · rw [show c' = c by omega]; exact he
             first | refine WeakS.autoR ?_ | refine Weak.autoR ?_
             conv => whnf
             repeat' ((first | refine z1 ?_ | refine z2 ?_ | refine zV ?_ | refine And.intro vRepl ?_ | refine And.intro vReplL ?_ | refine And.intro ?_ ?_ | exact trivial) <;> try (conv => whnf))
           · refine Exists.intro (b + 1) (And.intro ⟨by omega, fun b' c' h1 h2 => ?_⟩ (And.intro (by omega) ?_))
             · rcases Nat.lt_or_ge b' b with h' | h'
               · exact hbl b' c' h' h2
               · have eb : b' = b := by omega
                 subst eb
                 exact hcl c' (by omega) h2
             first | refine WeakS.autoR ?_ | refine Weak.autoR ?_
             conv => whnf
             repeat' ((first | refine z1 ?_ | refine z2 ?_ | refine zV ?_ | refine And.intro vRepl ?_ | refine And.intro vReplL ?_ | refine And.intro ?_ ?_ | exact trivial) <;> try (conv => whnf))
         · refine Exists.intro (a + 1) (And.intro ⟨by omega, fun a' b' c' h1 h2 => ?_⟩ (And.intro (by omega) ?_))
           · rcases Nat.lt_or_ge a' a with h' | h'
             · exact hal a' b' c' h' h2
             · have ea : a' = a := by omega
               subst ea
               exact hbl b' c' (by omega) h2
           first | refine WeakS.autoR ?_ | refine Weak.autoR ?_
           conv => whnf
           repeat' ((first | refine z1 ?_ | refine z2 ?_ | refine zV ?_ | refine And.intro vRepl ?_ | refine And.intro vReplL ?_ | refine And.intro ?_ ?_ | exact trivial) <;> try (conv => whnf))
       · exact dbool_congr (trL_yes ⟨fun k hk => hz k hk, hsym, fun a' b' c' h' => hal a' b' c' (by omega) h'⟩).symm
 · exact absurd (by assumption) (show ¬ true = false by simp)
end Go.Proofs
