/- Parts of the proof. -/
import Derived.Test.YtghcpginhamelaaGreatK128
import Derived.Test.YtghcpginhamelaaGreatK154
import Derived.Test.YtghcpginhamelaaGreatVm32
import Derived.Test.YtghcpginhamelaaGreatAlg8
import Derived.Test.YtghcpginhamelaaGreatK112
namespace Go.Proofs
open Go Go.Vm Go.Fg Go.Fg.PS
set_option maxRecDepth 100000
set_option maxHeartbeats 4000000
set_option linter.unusedSimpArgs false
set_option linter.unusedVariables false
variable {m : Int}
def wV (z : Nat → Zm m) (w : PS (Zm m)) (k : Nat) : Int := (z 0).val * (w.c (k - 1)).val + (z 1).val * (w.c (k - 2)).val + (z 2).val * ((w * w).c k).val + (z 3).val * ((w * w).c (k - 1)).val + (z 4).val * ((w * w * w).c k).val + (if k = 3 then 1 else 0)
def wS (z : Nat → Zm m) : Nat → PS (Zm m)
 | 0 => 0
 | t + 1 => (wS z t).upd (t + 3) (Zm.mk m (wV z (wS z t) (t + 3)))
theorem Ac7 (hm : Md m) {z : Nat → Zm m} {n t : Nat} {X : Int} (h : 0 ≤ X) (e : X = wV z (wS z t) (t + 3)) : (L n (wS z t)).set (t + 3) (X.tmod m) = L n (wS z (t + 1)) :=
 eJ _ (by rw [oA hm h, e]) (fun k hk => rfl)
theorem Aoe (hm : Md m) (o : Bool) (n : Nat) (hn : 3 ≤ n ∧ n ≤ 12) {d : Int} (hd : d + 1 = n) (a : PS (Zm m)) : aI Tryz.prog 120 [aA m, aA d, LD o 5 a] (LD true n (wS a.c (n - 3))) := by
 have hm1 := hm.1
 have hm2 := hm.2
 refine aU Tryz.tabOk aF Tryz.func120 rfl rfl ?_
 conv => whnf
 repeat' first | ((first | refine z0 ?_ | (refine zP (fun h => ?_) (fun h => ?_) <;> (try simp only [aB, aE] at h)) | refine zS ?_ | refine zV ?_ | (apply zI; refine zP aM ?_) | (apply zI; refine zP aG ?_) | refine zA ?_ | refine Alt.fst ?_ | refine Or.inl ?_) <;> conv => whnf) | fail
 refine aZ Tryz.tabOk aF (α := Nat) (fun t => [(8, aA ((t : Int) + 3)), (7, .ref 0 [] 1 0 n), (14, .undef), (9, .undef), (10, .undef)]) (fun t => [(0, some ⟨false, 1, ints (L n (wS a.c t))⟩)]) (fun t => t + 3 ≤ n) (fun t => n - t) (0) ?_ ?_ ?_
 · omega
 · conv => whnf
   first | refine aH.autoR ?_ | refine aC.autoR ?_
   conv => whnf
   repeat' ((first | refine z1 ?_ | refine zV ?_ | refine zP ?_ ?_ | exact trivial) <;> try (conv => whnf))
   all_goals first
     | omega
     | exact cP (by rw [show (d + 1).toNat = n by omega, ← gJ (m := m)]; rfl)
 intro t ht
 conv => whnf
 by_cases htn : t + 3 < n
 · have hx0 := hm.mul (a.c 0) ((wS a.c t).c (t + 2))
   have hx1 := hm.mul (a.c 1) ((wS a.c t).c (t + 1))
   have hx2 := hm.mul (a.c (Int.toNat 2)) ((wS a.c t * wS a.c t).c (t + 3))
   have hx3 := hm.mul (a.c (Int.toNat 3)) ((wS a.c t * wS a.c t).c (t + 2))
   have hx4 := hm.mul (a.c (Int.toNat 4)) ((wS a.c t * wS a.c t * wS a.c t).c (t + 3))
   repeat' first | ((first | (apply zI; refine zP (vP hm _ _ (t + 4) n n (by omega) (by omega) (by omega) (by omega) (by omega) (by omega) (wS a.c t) (wS a.c t)) ?_) | (apply zI; refine zP (vP hm _ _ (t + 4) (t + 4) n (by omega) (by omega) (by omega) (by omega) (by omega) (by omega) (wS a.c t * wS a.c t) (wS a.c t)) ?_) | (refine zP (fun h => ?_) (fun h => ?_) <;> (try simp only [aB, aE] at h) <;> first | (exfalso; omega) | skip) | refine zS ?_ | refine zV ?_ | (apply zI; refine zP aG ?_) | refine Or.inl ?_) <;> conv => whnf) | fail
   have e1 : ((t : Int) + 3 - 1).toNat = t + 2 := by omega
   have e2 : ((t : Int) + 3 - 2).toNat = t + 1 := by omega
   have e3 : ((t : Int) + 3).toNat = t + 3 := by omega
   rw [e1, e2]
   repeat' first | ((first | (refine zP (fun h => ?_) (fun h => ?_) <;> (try simp only [aB, aE] at h) <;> first | (exfalso; omega) | skip) | refine zS ?_ | refine zV ?_ | (apply zI; refine zP aM ?_) | (apply zI; refine zP aG ?_)) <;> conv => whnf) | fail
   rw [e3]
   repeat' first | ((first | (refine zP (fun h => ?_) (fun h => ?_) <;> (try simp only [aB, aE] at h) <;> first | (exfalso; omega) | skip) | refine zS ?_ | refine zV ?_ | (apply zI; refine zP aM ?_) | (apply zI; refine zP aG ?_)) <;> conv => whnf) | fail
   rw [e1]
   repeat' first | ((first | (refine zP (fun h => ?_) (fun h => ?_) <;> (try simp only [aB, aE] at h) <;> first | (exfalso; omega) | skip) | refine zS ?_ | refine zV ?_ | (apply zI; refine zP aM ?_) | (apply zI; refine zP aG ?_)) <;> conv => whnf) | fail
   rw [e3]
   repeat' first | ((first | (refine zP (fun h => ?_) (fun h => ?_) <;> (try simp only [aB, aE] at h) <;> first | (exfalso; omega) | skip) | refine zS ?_ | refine zV ?_ | (apply zI; refine zP aM ?_) | (apply zI; refine zP aG ?_)) <;> conv => whnf) | fail
   · refine Exists.intro (t + 1) (zP aD (zP aD ?_))
     first | refine aH.autoR ?_ | refine aC.autoR ?_
     conv => whnf
     repeat' ((first | refine z1 ?_ | refine zV ?_ | refine zP ?_ ?_ | exact trivial) <;> try (conv => whnf))
     all_goals first
       | omega
       | exact cP (Ac7 hm (by omega) (by unfold wV; rw [if_pos (by omega)]; rfl))
   · refine Exists.intro (t + 1) (zP aD (zP aD ?_))
     first | refine aH.autoR ?_ | refine aC.autoR ?_
     conv => whnf
     repeat' ((first | refine z1 ?_ | refine zV ?_ | refine zP ?_ ?_ | exact trivial) <;> try (conv => whnf))
     all_goals first
       | omega
       | exact cP (Ac7 hm (by omega) (by unfold wV; rw [if_neg (by omega), Int.add_zero]; rfl))
 · repeat' first | ((first | refine z0 ?_ | (refine zP (fun h => ?_) (fun h => ?_) <;> (try simp only [aB, aE] at h) <;> first | (exfalso; omega) | skip) | refine zS ?_ | refine zV ?_ | (apply zI; refine zP aM ?_) | (apply zI; refine zP aG ?_)) <;> conv => whnf) | fail
   have htn2 : t = n - 3 := by omega
   rw [htn2]
open Classical in
noncomputable def nR (p : Prop) : Bool := decide p
theorem P2 {p : Prop} (h : p) : nR p = true := by simp [nR, h]
theorem pL {p : Prop} (h : ¬ p) : nR p = false := by simp [nR, h]
def lW (i : Nat) : Zm m := if i = 1 then 1 else 0
def oB (f : PS (PS (Zm m))) (n : Nat) : Prop :=
 (∀ i, i < n → (f.c i).c 0 = lW i) ∧ (∀ i j, i + j < n → (f.c i).c j = (f.c j).c i) ∧ ∀ a b c, a + b + c < n → kT f n a b c = kV f n a b c
theorem Ao8 (hm : Md m) (o p : Bool) (n : Nat) (hn : 2 ≤ n ∧ n ≤ 11) (f : PS (PS (Zm m))) (hp : eS m (Tb n f) = true) : aI Tryz.prog 13 [dZ m o p n f] (bN (nR (oB f n))) := by
 have hm1 := hm.1
 have hm2 := hm.2
 have hli := I6 o p m (Tb n f) (by simp; omega) (xL (by omega) f)
 rw [hp] at hli
 refine aU Tryz.tabOk aF Tryz.func13 rfl rfl ?_
 conv => whnf
 repeat' first | ((first | refine z0 ?_ | (apply zI; refine zP (hli) ?_) | refine Or.inr (iY Tryz.tabOk aF _ Tryz.func101 rfl rfl ?_) | (refine zP (fun h => ?_) (fun h => ?_) <;> (try simp only [aB, aE] at h)) | refine Or.inl ?_) <;> conv => whnf) | fail
 · refine aZ Tryz.tabOk aF (α := Nat) (fun i => [(16, aA i)]) (fun i => []) (fun i => i ≤ n ∧ ∀ k, k < i → (f.c k).c 0 = lW k) (fun i => n - i) (0) ?_ ?_ ?_
   · exact ⟨by omega, by omega⟩
   · conv => whnf
     first | refine aH.autoR ?_ | refine aC.autoR ?_
     conv => whnf
     repeat' ((first | refine z1 ?_ | refine zV ?_ | refine zP ?_ ?_ | exact trivial) <;> try (conv => whnf))
   intro i ⟨hi, hz⟩
   conv => whnf
   repeat' first | ((first | refine z0 ?_ | (refine zP (fun h => ?_) (fun h => ?_) <;> (try simp only [aB, aE] at h)) | refine zS ?_ | refine zV ?_ | (apply zI; refine zP aM ?_) | (apply zI; refine zP aG ?_) | refine zA ?_ | refine Alt.fst ?_ | refine Or.inl ?_) <;> conv => whnf) | fail
   · have hi' : i < n := by simp only [aQ, aX] at *; omega
     exact cH (pL (fun hc => h (by rw [hc.1 i hi', lW, if_pos (by omega)]; exact Zm.val_one (by omega)))).symm
   · have hi' : i < n := by simp only [aQ, aX] at *; omega
     have he := Classical.not_not.1 h
     refine Exists.intro (i + 1) (zP ⟨by omega, pX hz (Zm.val_inj (by rw [he, lW, if_pos (by omega)]; exact (Zm.val_one (by omega)).symm))⟩ (zP (by omega) ?_))
     first | refine aH.autoR ?_ | refine aC.autoR ?_
     conv => whnf
     repeat' ((first | refine z1 ?_ | refine zV ?_ | refine zP ?_ ?_ | exact trivial) <;> try (conv => whnf))
   · have hi' : i < n := by simp only [aQ, aX] at *; omega
     exact cH (pL (fun hc => h (by rw [hc.1 i hi', lW, if_neg (by omega)]; exact Zm.val_eq_zero.2 rfl))).symm
   · have hi' : i < n := by simp only [aQ, aX] at *; omega
     have he := Zm.val_eq_zero.1 (Classical.not_not.1 h)
     refine Exists.intro (i + 1) (zP ⟨by omega, pX hz (by rw [he, lW, if_neg (by omega)])⟩ (zP (by omega) ?_))
     first | refine aH.autoR ?_ | refine aC.autoR ?_
     conv => whnf
     repeat' ((first | refine z1 ?_ | refine zV ?_ | refine zP ?_ ?_ | exact trivial) <;> try (conv => whnf))
   · have hin : i = n := by simp only [aQ, aX] at *; omega
     subst hin
     refine aZ Tryz.tabOk aF (α := Nat) (fun x => [(36, aA x), (6, .undef)]) (fun x => []) (fun x => x ≤ i ∧ ∀ a b, a < x → a < b → a + b < i → (f.c a).c b = (f.c b).c a) (fun x => i - x) (0) ?_ ?_ ?_
     · exact ⟨by omega, by omega⟩
     · conv => whnf
       first | refine aH.autoR ?_ | refine aC.autoR ?_
       conv => whnf
       repeat' ((first | refine z1 ?_ | refine zV ?_ | refine zP ?_ ?_ | exact trivial) <;> try (conv => whnf))
     intro x ⟨hx, hsy⟩
     conv => whnf
     repeat' first | ((first | refine z0 ?_ | refine Or.inr (iY Tryz.tabOk aF _ Tryz.func219 rfl rfl ?_) | (apply zI; refine zP (Aqj hm _ _ i aD _) ?_) | (apply zI; refine zP (nW _ _ _ aD _) ?_) | (refine zP (fun h => ?_) (fun h => ?_) <;> (try simp only [aB, aE] at h)) | refine zS ?_ | refine zV ?_ | (apply zI; refine zP aG ?_) | refine Alt.fst ?_ | refine Or.inl ?_) <;> conv => whnf) | fail
     · refine aZ Tryz.tabOk aF (α := Nat) (fun y => [(7, aA ((x : Int) + 1 + y))]) (fun y => []) (fun y => y ≤ i ∧ ∀ b, x < b → b < x + 1 + y → x + b < i → (f.c x).c b = (f.c b).c x) (fun y => i - y) (0) ?_ ?_ ?_
       · exact ⟨by omega, by omega⟩
       · conv => whnf
         first | refine aH.autoR ?_ | refine aC.autoR ?_
         conv => whnf
         repeat' ((first | refine z1 ?_ | refine zV ?_ | refine zP ?_ ?_ | exact trivial) <;> try (conv => whnf))
       intro y ⟨hy, hsx⟩
       conv => whnf
       have e1 : ((x : Int) + 1 + y).toNat = x + 1 + y := by omega
       repeat' first | ((first | refine z0 ?_ | (refine zP (fun h => ?_) (fun h => ?_) <;> (try simp only [aB, aE] at h)) | refine zS ?_ | refine zV ?_ | (apply zI; refine zP aM ?_) | (apply zI; refine zP aG ?_) | refine zA ?_ | refine Alt.fst ?_ | refine Or.inl ?_) <;> conv => whnf) | fail
       · have hy' : x + 1 + y < i - x := by simp only [aT] at *; omega
         rw [e1] at h
         exact cH (pL (fun hc => h (by rw [hc.2.1 x (x + 1 + y) (by omega)]))).symm
       · have hy' : x + 1 + y < i - x := by simp only [aT] at *; omega
         rw [e1] at h
         refine Exists.intro (y + 1) (zP ⟨by omega, fun b h1 h2 h3 => ?_⟩ (zP (by omega) ?_))
         · rcases Nat.lt_or_ge b (x + 1 + y) with h' | h'
           · exact hsx b h1 h' h3
           · rw [show b = x + 1 + y by omega]; exact Zm.val_inj (Classical.not_not.1 h)
         first | refine aH.autoR ?_ | refine aC.autoR ?_
         conv => whnf
         repeat' ((first | refine z1 ?_ | refine zV ?_ | refine zP ?_ ?_ | exact trivial) <;> try (conv => whnf))
       · have hy' : ¬ x + 1 + y < i - x := by simp only [aT] at *; omega
         have hx' : x < i := by simp only [aQ, aX] at *; omega
         refine Exists.intro (x + 1) (zP ⟨by omega, fun a b h1 h2 h3 => ?_⟩ (zP (by omega) ?_))
         · rcases Nat.lt_or_ge a x with h' | h'
           · exact hsy a b h' h2 h3
           · have ea : a = x := by omega
             subst ea
             exact hsx b h2 (by omega) h3
         first | refine aH.autoR ?_ | refine aC.autoR ?_
         conv => whnf
         repeat' ((first | refine z1 ?_ | refine zV ?_ | refine zP ?_ ?_ | exact trivial) <;> try (conv => whnf))
     · have hxi : x = i := by simp only [aQ, aX] at *; omega
       have hsym : ∀ a b, a + b < i → (f.c a).c b = (f.c b).c a := fun a b hab => by
         rcases Nat.lt_trichotomy a b with h' | h' | h'
         · exact hsy a b (by omega) h' hab
         · rw [h']
         · exact (hsy b a (by omega) h' (by omega)).symm
       clear hsy
       refine aZ Tryz.tabOk aF (α := Nat) (fun a => [(10, aA a)]) (fun a => []) (fun a => a ≤ i ∧ ∀ a' b' c', a' < a → a' + b' + c' < i → kT f i a' b' c' = kV f i a' b' c') (fun a => i - a) (0) ?_ ?_ ?_
       · exact ⟨by omega, by omega⟩
       · conv => whnf
         first | refine aH.autoR ?_ | refine aC.autoR ?_
         conv => whnf
         repeat' ((first | refine z1 ?_ | refine zV ?_ | refine zP ?_ ?_ | exact trivial) <;> try (conv => whnf))
       intro a ⟨ha, hal⟩
       conv => whnf
       repeat' first | ((first | refine z0 ?_ | (refine zP (fun h => ?_) (fun h => ?_) <;> (try simp only [aB, aE] at h)) | refine zS ?_ | refine zV ?_ | (apply zI; refine zP aM ?_) | (apply zI; refine zP aG ?_) | refine zA ?_ | refine Alt.fst ?_ | refine Or.inl ?_) <;> conv => whnf) | fail
       · refine aZ Tryz.tabOk aF (α := Nat) (fun b => [(11, aA b)]) (fun b => []) (fun b => a + b ≤ i ∧ ∀ b' c', b' < b → a + b' + c' < i → kT f i a b' c' = kV f i a b' c') (fun b => i - b) (0) ?_ ?_ ?_
         · exact ⟨by omega, by omega⟩
         · conv => whnf
           first | refine aH.autoR ?_ | refine aC.autoR ?_
           conv => whnf
           repeat' ((first | refine z1 ?_ | refine zV ?_ | refine zP ?_ ?_ | exact trivial) <;> try (conv => whnf))
         intro b ⟨hb, hbl⟩
         conv => whnf
         repeat' first | ((first | refine z0 ?_ | (refine zP (fun h => ?_) (fun h => ?_) <;> (try simp only [aB, aE] at h)) | refine zS ?_ | refine zV ?_ | (apply zI; refine zP aM ?_) | (apply zI; refine zP aG ?_) | refine zA ?_ | refine Alt.fst ?_ | refine Or.inl ?_) <;> conv => whnf) | fail
         · refine aZ Tryz.tabOk aF (α := Nat) (fun c => [(12, aA c)]) (fun c => []) (fun c => a + b + c ≤ i ∧ ∀ c', c' < c → a + b + c' < i → kT f i a b c' = kV f i a b c') (fun c => i - c) (0) ?_ ?_ ?_
           · exact ⟨by omega, by omega⟩
           · conv => whnf
             first | refine aH.autoR ?_ | refine aC.autoR ?_
             conv => whnf
             repeat' ((first | refine z1 ?_ | refine zV ?_ | refine zP ?_ ?_ | exact trivial) <;> try (conv => whnf))
           intro c ⟨hc, hcl⟩
           conv => whnf
           repeat' first | ((first | refine z0 ?_ | (apply zI; refine zP (Arv hm _ _ _ i aD f a b c aD) ?_) | (apply zI; refine zP (Awq _ _ _) ?_) | (refine zP (fun h => ?_) (fun h => ?_) <;> (try simp only [aB, aE] at h)) | refine zV ?_ | (apply zI; refine zP aG ?_) | refine zP (Awp _ _ _) ?_ | refine Or.inl ?_) <;> conv => whnf) | fail
           · exact cH (pL (fun hc => h (by rw [hc.2.2 a b c (by omega), Go.Fg.sub_self]; exact Zm.val_eq_zero.2 rfl))).symm
           · have he := Go.Fg.sub_eq_zero.1 (Zm.val_eq_zero.1 (Classical.not_not.1 h))
             refine Exists.intro (c + 1) (zP ⟨by omega, fun c' h1 h2 => ?_⟩ (zP (by omega) ?_))
             · rcases Nat.lt_or_ge c' c with h' | h'
               · exact hcl c' h' h2
               · rw [show c' = c by omega]; exact he
             first | refine aH.autoR ?_ | refine aC.autoR ?_
             conv => whnf
             repeat' ((first | refine z1 ?_ | refine zV ?_ | refine zP ?_ ?_ | exact trivial) <;> try (conv => whnf))
           · refine Exists.intro (b + 1) (zP ⟨by omega, fun b' c' h1 h2 => ?_⟩ (zP (by omega) ?_))
             · rcases Nat.lt_or_ge b' b with h' | h'
               · exact hbl b' c' h' h2
               · have eb : b' = b := by omega
                 subst eb
                 exact hcl c' (by omega) h2
             first | refine aH.autoR ?_ | refine aC.autoR ?_
             conv => whnf
             repeat' ((first | refine z1 ?_ | refine zV ?_ | refine zP ?_ ?_ | exact trivial) <;> try (conv => whnf))
         · refine Exists.intro (a + 1) (zP ⟨by omega, fun a' b' c' h1 h2 => ?_⟩ (zP (by omega) ?_))
           · rcases Nat.lt_or_ge a' a with h' | h'
             · exact hal a' b' c' h' h2
             · have ea : a' = a := by omega
               subst ea
               exact hbl b' c' (by omega) h2
           first | refine aH.autoR ?_ | refine aC.autoR ?_
           conv => whnf
           repeat' ((first | refine z1 ?_ | refine zV ?_ | refine zP ?_ ?_ | exact trivial) <;> try (conv => whnf))
       · exact cH (P2 ⟨fun k hk => hz k hk, hsym, fun a' b' c' h' => hal a' b' c' (by omega) h'⟩).symm
 · exact absurd (by assumption) (show ¬ true = false by simp)
def iB (n : Nat) (g : Nat → PS (PS (Zm m))) (k : Nat) : List D := (List.range k).map fun c => .list true 1 (rows true (Tb n (g c)))
@[simp] theorem Aqx (n : Nat) (g : Nat → PS (PS (Zm m))) (k : Nat) : (iB n g k).length = k := by simp [iB]
theorem Aln (cs : List D) : ∀ d ∈ [D.list true 1 cs], d.one = true := fun d hd => by
 simp only [List.mem_cons, List.not_mem_nil, or_false] at hd
 subst hd; rfl
theorem Aok {n q k : Nat} {g : Nat → PS (PS (Zm m))} (e : q = k) : q = (iB n g k).length := by rw [Aqx]; exact e
theorem Ad0 {n k : Nat} {g : Nat → PS (PS (Zm m))} {t : List D} (h : t = rows true (Tb n (g k))) : iB n g k ++ [.list true 1 t] = iB n g (k + 1) := by
 subst h; simp [iB, List.range_succ]
theorem N4 {n k i : Nat} {g : Nat → PS (PS (Zm m))} (h : i < k) : (iB n g k)[i]? = some (.list true 1 (rows true (Tb n (g i)))) := by
 simp [iB, h]
theorem Alp {n k q : Nat} {g : Nat → PS (PS (Zm m))} (c : Nat) (e : q = c) (h : c < k) : bG (iB n g k) ([] ++ [q]) = some (rows true (Tb n (g c))) := by
 subst e
 show (match (iB n g k)[q]? with | some (.list true _ cs') => bG cs' [] | _ => none) = _
 rw [N4 h]; rfl
theorem Abr {n k q : Nat} {g : Nat → PS (PS (Zm m))} (c : Nat) (e : q = c) (h : c < k) : fH (iB n g k) [] q (.list true 1 (rows true (Tb n (g c)))) := by
 subst e; exact ⟨_, rfl, N4 h⟩
theorem Ag9 {n k q r : Nat} {g : Nat → PS (PS (Zm m))} (c a : Nat) (e : q = c) (e2 : r = a) (h : c < k) (h2 : a < n) : fH (iB n g k) ([] ++ [q]) r (.list true 1 (ints (L (n - a) ((g c).c a)))) := by
 subst e; subst e2
 refine ⟨_, Alp q rfl h, ?_⟩
 have := nK (o := true) (t := Tb n (g q)) (i := r) (by simpa using h2)
 rw [this, gT _ h2]
theorem Ag4 {n k q r s : Nat} {g : Nat → PS (PS (Zm m))} (c a b : Nat) (e : q = c) (e2 : r = a) (e3 : s = b) (h : c < k) (h2 : a + b < n) : fH (iB n g k) ([] ++ [q] ++ [r]) s (aA ((((g c).c a).c b)).val) := by
 subst e; subst e2; subst e3
 refine ⟨ints (L (n - r) ((g q).c r)), ?_, ?_⟩
 · show (match (iB n g k)[q]? with | some (.list true _ cs') => bG cs' [r] | _ => none) = _
   rw [N4 h]
   show (match (rows true (Tb n (g q)))[r]? with | some (.list true _ cs') => bG cs' [] | _ => none) = _
   rw [nK (o := true) (t := Tb n (g q)) (i := r) (by simp; omega), gT _ (by omega)]
   rfl
 · simp [ints, L, show s < n - r by omega]
def xE (f : PS (PS (Zm m))) (j : Nat) : PS (Zm m) := ⟨fun i => (f.c i).c j⟩
theorem Ah9 (a : PS (Zm m)) (f : PS (PS (Zm m))) (k p q : Nat) : ((comp2N a f 0 k).c p).c q = sm k fun i => a.c i * ((pw f i).c p).c q := by
 unfold comp2N
 rw [sm_c, sm_c]
 refine aR (fun i _ => ?_)
 rw [C_mul, C_mul, Nat.zero_add]
theorem Agr (f : PS (PS (Zm m))) (n a b c : Nat) : ((comp2N (xE f c) f 0 (n - c)).c a).c b = kT f n a b c := Ah9 _ _ _ _ _
theorem Ad1 (f : PS (PS (Zm m))) (n a b c : Nat) : ((comp2N (f.c a) f 0 (n - a)).c b).c c = kV f n a b c := Ah9 _ _ _ _ _
theorem All (o p : Bool) (n : Nat) (hn : 1 ≤ n ∧ n ≤ 100) (f : PS (PS (Zm m))) (j : Nat) (hj : j ≤ n) : aI Tryz.prog 305 [dU o p n f, aA j] (LD true (n - j) (xE f j)) := by
 refine aU Tryz.tabOk aF Tryz.func305 rfl rfl ?_
 conv => whnf
 repeat' first | ((first | refine z0 ?_ | (refine zP (fun h => ?_) (fun h => ?_) <;> (try simp only [aB, aE] at h)) | refine zS ?_ | refine zV ?_ | (apply zI; refine zP aM ?_) | (apply zI; refine zP aG ?_) | refine zA ?_ | refine Alt.fst ?_ | refine Or.inl ?_) <;> conv => whnf) | fail
 refine aZ Tryz.tabOk aF (α := Nat) (fun i => [(6, aA i), (5, .ref 0 [] 1 0 i), (7, .undef)]) (fun i => [(0, some ⟨false, 1, ints (L i (xE f j))⟩)]) (fun i => i + j ≤ n) (fun i => n - i) (0) ?_ ?_ ?_
 · omega
 · conv => whnf
   first | refine aH.autoR ?_ | refine aC.autoR ?_
   conv => whnf
   repeat' ((first | refine z1 ?_ | refine zP ?_ ?_ | exact trivial) <;> try (conv => whnf))
 intro i hi
 conv => whnf
 repeat' first | ((first | refine z0 ?_ | (refine zP (fun h => ?_) (fun h => ?_) <;> (try simp only [aB, aE] at h)) | refine zS ?_ | refine zV ?_ | (apply zI; refine zP aM ?_) | (apply zI; refine zP aG ?_) | refine zA ?_ | refine Alt.fst ?_ | refine Or.inl ?_) <;> conv => whnf) | fail
 · refine Exists.intro (i + 1) (zP aD (zP aD ?_))
   first | refine aH.autoR ?_ | refine aC.autoR ?_
   conv => whnf
   repeat' ((first | refine z1 ?_ | refine zP ?_ ?_ | exact trivial) <;> try (conv => whnf))
   exact wK (pR rfl)
 · rw [show i = n - j by simp only [aQ, aX] at *; omega]
theorem Aq6 (hm : Md m) (o p : Bool) (n : Nat) (hn : 2 ≤ n ∧ n ≤ 11) (f : PS (PS (Zm m))) (hp : eS m (Tb n f) = true) : aI Tryz.prog 148 [dZ m o p n f] (bN (nR (oB f n))) := by
 have hm1 := hm.1
 have hm2 := hm.2
 have hli := Acp o p m (Tb n f) (by simp; omega) (xL (by omega) f)
 rw [hp] at hli
 refine aU Tryz.tabOk aF Tryz.func148 rfl rfl ?_
 conv => whnf
 repeat' first | ((first | refine z0 ?_ | (apply zI; refine zP (hli) ?_) | refine Or.inr (iY Tryz.tabOk aF _ Tryz.func245 rfl rfl ?_) | (refine zP (fun h => ?_) (fun h => ?_) <;> (try simp only [aB, aE] at h)) | refine zS ?_ | refine Or.inl ?_) <;> conv => whnf) | fail
 · refine aZ Tryz.tabOk aF (α := Nat) (fun i => [(5, aA i)]) (fun i => []) (fun i => i ≤ n ∧ ∀ k, k < i → (f.c k).c 0 = lW k) (fun i => n - i) (0) ?_ ?_ ?_
   · exact ⟨by omega, by omega⟩
   · conv => whnf
     first | refine aH.autoR ?_ | refine aC.autoR ?_
     conv => whnf
     repeat' ((first | refine z1 ?_ | refine zP ?_ ?_ | exact trivial) <;> try (conv => whnf))
   intro i ⟨hi, hz⟩
   conv => whnf
   repeat' first | ((first | refine z0 ?_ | (refine zP (fun h => ?_) (fun h => ?_) <;> (try simp only [aB, aE] at h) <;> first | (exfalso; omega) | skip) | refine zS ?_ | refine zV ?_ | (apply zI; refine zP aM ?_) | (apply zI; refine zP aG ?_)) <;> conv => whnf) | fail
   · have hi' : i < n := by simp only [aQ, aX] at *; omega
     have h0 : ((f.c i).c 0).val ≠ 1 := by assumption
     exact cH (pL (fun hc => h0 (by rw [hc.1 i hi', lW, if_pos (by omega)]; exact Zm.val_one (by omega)))).symm
   · have hi' : i < n := by simp only [aQ, aX] at *; omega
     have he := Classical.not_not.1 h
     refine Exists.intro (i + 1) (zP ⟨by omega, pX hz (Zm.val_inj (by rw [he, lW, if_pos (by omega)]; exact (Zm.val_one (by omega)).symm))⟩ (zP (by omega) ?_))
     first | refine aH.autoR ?_ | refine aC.autoR ?_
     conv => whnf
     repeat' ((first | refine z1 ?_ | refine zP ?_ ?_ | exact trivial) <;> try (conv => whnf))
   · have hi' : i < n := by simp only [aQ, aX] at *; omega
     have h0 : ((f.c i).c 0).val ≠ 0 := by assumption
     exact cH (pL (fun hc => h0 (by rw [hc.1 i hi', lW, if_neg (by omega)]; exact Zm.val_eq_zero.2 rfl))).symm
   · have hi' : i < n := by simp only [aQ, aX] at *; omega
     have he := Zm.val_eq_zero.1 (Classical.not_not.1 h)
     refine Exists.intro (i + 1) (zP ⟨by omega, pX hz (by rw [he, lW, if_neg (by omega)])⟩ (zP (by omega) ?_))
     first | refine aH.autoR ?_ | refine aC.autoR ?_
     conv => whnf
     repeat' ((first | refine z1 ?_ | refine zP ?_ ?_ | exact trivial) <;> try (conv => whnf))
   · have hin : i = n := by simp only [aQ, aX] at *; omega
     subst hin
     refine aZ Tryz.tabOk aF (α := Nat) (fun x => [(7, aA x)]) (fun x => []) (fun x => x ≤ i ∧ ∀ a b, a < x → a < b → a + b < i → (f.c a).c b = (f.c b).c a) (fun x => i - x) (0) ?_ ?_ ?_
     · exact ⟨by omega, by omega⟩
     · conv => whnf
       first | refine aH.autoR ?_ | refine aC.autoR ?_
       conv => whnf
       repeat' ((first | refine z1 ?_ | refine zP ?_ ?_ | exact trivial) <;> try (conv => whnf))
     intro x ⟨hx, hsy⟩
     conv => whnf
     repeat' first | ((first | refine z0 ?_ | (refine zP (fun h => ?_) (fun h => ?_) <;> (try simp only [aB, aE] at h) <;> first | (exfalso; omega) | skip) | refine zS ?_ | refine zV ?_ | (apply zI; refine zP aM ?_) | (apply zI; refine zP aG ?_)) <;> conv => whnf) | fail
     · refine aZ Tryz.tabOk aF (α := Nat) (fun y => [(8, aA ((x : Int) + 1 + y))]) (fun y => []) (fun y => y ≤ i ∧ ∀ b, x < b → b < x + 1 + y → x + b < i → (f.c x).c b = (f.c b).c x) (fun y => i - y) (0) ?_ ?_ ?_
       · exact ⟨by omega, by omega⟩
       · conv => whnf
         first | refine aH.autoR ?_ | refine aC.autoR ?_
         conv => whnf
         repeat' ((first | refine z1 ?_ | refine zP ?_ ?_ | exact trivial) <;> try (conv => whnf))
       intro y ⟨hy, hsx⟩
       conv => whnf
       have e1 : ((x : Int) + 1 + y).toNat = x + 1 + y := by omega
       repeat' first | ((first | refine z0 ?_ | (refine zP (fun h => ?_) (fun h => ?_) <;> (try simp only [aB, aE] at h) <;> first | (exfalso; omega) | skip) | refine zS ?_ | refine zV ?_ | (apply zI; refine zP aM ?_) | (apply zI; refine zP aG ?_)) <;> conv => whnf) | fail
       · have hy' : x + 1 + y < i - x := by simp only [aQ, aX] at *; omega
         have h0 : ((f.c x).c ((x : Int) + 1 + y).toNat).val ≠ ((f.c ((x : Int) + 1 + y).toNat).c x).val := by assumption
         rw [e1] at h0
         exact cH (pL (fun hc => h0 (by rw [hc.2.1 x (x + 1 + y) (by omega)]))).symm
       · have hy' : x + 1 + y < i - x := by simp only [aQ, aX] at *; omega
         rw [e1] at h
         refine Exists.intro (y + 1) (zP ⟨by omega, fun b h1 h2 h3 => ?_⟩ (zP (by omega) ?_))
         · rcases Nat.lt_or_ge b (x + 1 + y) with h' | h'
           · exact hsx b h1 h' h3
           · rw [show b = x + 1 + y by omega]; exact Zm.val_inj (Classical.not_not.1 h)
         first | refine aH.autoR ?_ | refine aC.autoR ?_
         conv => whnf
         repeat' ((first | refine z1 ?_ | refine zP ?_ ?_ | exact trivial) <;> try (conv => whnf))
       · have hx' : x < i := by simp only [aQ, aX] at *; omega
         have hy' : ¬ x + 1 + y < i - x := by simp only [aQ, aX] at *; omega
         refine Exists.intro (x + 1) (zP ⟨by omega, fun a b h1 h2 h3 => ?_⟩ (zP (by omega) ?_))
         · rcases Nat.lt_or_ge a x with h' | h'
           · exact hsy a b h' h2 h3
           · have ea : a = x := by omega
             subst ea
             exact hsx b h2 (by omega) h3
         first | refine aH.autoR ?_ | refine aC.autoR ?_
         conv => whnf
         repeat' ((first | refine z1 ?_ | refine zP ?_ ?_ | exact trivial) <;> try (conv => whnf))
     · have hxi : x = i := by simp only [aQ, aX] at *; omega
       have hsym : ∀ a b, a + b < i → (f.c a).c b = (f.c b).c a := fun a b hab => by
         rcases Nat.lt_trichotomy a b with h' | h' | h'
         · exact hsy a b (by omega) h' hab
         · rw [h']
         · exact (hsy b a (by omega) h' (by omega)).symm
       clear hsy
       refine aZ Tryz.tabOk aF (α := Nat) (fun c => [(11, aA c), (9, .ref 3 [] 1 0 c), (10, .ref 4 [] 1 0 c), (69, .undef), (70, .undef)]) (fun c => [(3, some ⟨false, 1, iB i (fun c => comp2N (xE f c) f 0 (i - c)) c⟩), (4, some ⟨false, 1, iB i (fun a => comp2N (f.c a) f 0 (i - a)) c⟩)]) (fun c => c ≤ i) (fun c => i - c) (0) ?_ ?_ ?_
       · omega
       · conv => whnf
         first | refine aH.autoR ?_ | refine aC.autoR ?_
         conv => whnf
         repeat' ((first | refine z1 ?_ | refine zP ?_ ?_ | exact trivial) <;> try (conv => whnf))
       intro c hc
       conv => whnf
       repeat' first | ((first | (apply zI; refine zP (All _ _ i aD f c aD) ?_) | (apply zI; refine zP (zU hm _ _ _ i aD (i - c) aD _ _) ?_) | (refine zP (fun h => ?_) (fun h => ?_) <;> (try simp only [aB, aE] at h) <;> first | (exfalso; omega) | skip) | refine zS ?_ | refine zV ?_ | (apply zI; refine zP aG ?_) | refine zP (Aok (by omega)) ?_ | refine zP (Aln _) ?_ | refine Alt.fst ?_ | refine Or.inl ?_) <;> conv => whnf) | fail
       · refine Exists.intro (c + 1) (zP aD (zP aD ?_))
         first | refine aH.autoR ?_ | refine aC.autoR ?_
         conv => whnf
         repeat' ((first | refine z1 ?_ | refine zP ?_ ?_ | exact trivial) <;> try (conv => whnf))
         · exact Ad0 rfl
         · exact Ad0 rfl
       · have hci : c = i := by simp only [aQ, aX] at *; omega
         subst hci
         refine aZ Tryz.tabOk aF (α := Nat) (fun a => [(12, aA a)]) (fun a => []) (fun a => a ≤ c ∧ ∀ a' b' c', a' < a → a' + b' + c' < c → kT f c a' b' c' = kV f c a' b' c') (fun a => c - a) (0) ?_ ?_ ?_
         · exact ⟨by omega, by omega⟩
         · conv => whnf
           first | refine aH.autoR ?_ | refine aC.autoR ?_
           conv => whnf
           repeat' ((first | refine z1 ?_ | refine zP ?_ ?_ | exact trivial) <;> try (conv => whnf))
         intro a ⟨ha, hal⟩
         conv => whnf
         repeat' first | ((first | refine z0 ?_ | (refine zP (fun h => ?_) (fun h => ?_) <;> (try simp only [aB, aE] at h) <;> first | (exfalso; omega) | skip) | refine zS ?_ | refine zV ?_ | (apply zI; refine zP aM ?_) | (apply zI; refine zP aG ?_)) <;> conv => whnf) | fail
         · refine aZ Tryz.tabOk aF (α := Nat) (fun b => [(13, aA b)]) (fun b => []) (fun b => a + b ≤ c ∧ ∀ b' c', b' < b → a + b' + c' < c → kT f c a b' c' = kV f c a b' c') (fun b => c - b) (0) ?_ ?_ ?_
           · exact ⟨by omega, by omega⟩
           · conv => whnf
             first | refine aH.autoR ?_ | refine aC.autoR ?_
             conv => whnf
             repeat' ((first | refine z1 ?_ | refine zP ?_ ?_ | exact trivial) <;> try (conv => whnf))
           intro b ⟨hb, hbl⟩
           conv => whnf
           repeat' first | ((first | refine z0 ?_ | (refine zP (fun h => ?_) (fun h => ?_) <;> (try simp only [aB, aE] at h) <;> first | (exfalso; omega) | skip) | refine zS ?_ | refine zV ?_ | (apply zI; refine zP aM ?_) | (apply zI; refine zP aG ?_)) <;> conv => whnf) | fail
           · refine aZ Tryz.tabOk aF (α := Nat) (fun d => [(14, aA d)]) (fun d => []) (fun d => a + b + d ≤ c ∧ ∀ c', c' < d → a + b + c' < c → kT f c a b c' = kV f c a b c') (fun d => c - d) (0) ?_ ?_ ?_
             · exact ⟨by omega, by omega⟩
             · conv => whnf
               first | refine aH.autoR ?_ | refine aC.autoR ?_
               conv => whnf
               repeat' ((first | refine z1 ?_ | refine zP ?_ ?_ | exact trivial) <;> try (conv => whnf))
             intro d ⟨hd, hdl⟩
             conv => whnf
             repeat' first | ((first | refine z0 ?_ | (apply zI; refine zP (Abr d aY aD) ?_) | (apply zI; refine zP (Abr a aY aD) ?_) | (apply zI; refine zP (Ag9 d a aY aY aD aD) ?_) | (apply zI; refine zP (Ag9 a b aY aY aD aD) ?_) | (apply zI; refine zP (Ag4 d a b aY aY aY aD aD) ?_) | (apply zI; refine zP (Ag4 a b d aY aY aY aD aD) ?_) | (refine zP (fun h => ?_) (fun h => ?_) <;> (try simp only [aB, aE] at h) <;> first | (exfalso; omega) | skip) | refine zS ?_ | refine zV ?_) <;> conv => whnf) | fail
             · have h0 : (((comp2N (xE f d) f 0 (c - d)).c a).c b).val ≠ (((comp2N (f.c a) f 0 (c - a)).c b).c d).val := by assumption
               exact cH (pL (fun hc => h0 (by rw [Agr, Ad1, hc.2.2 a b d (by omega)]))).symm
             · have he := Zm.val_inj (Classical.not_not.1 h)
               rw [Agr, Ad1] at he
               refine Exists.intro (d + 1) (zP ⟨by omega, fun c' h1 h2 => ?_⟩ (zP (by omega) ?_))
               · rcases Nat.lt_or_ge c' d with h' | h'
                 · exact hdl c' h' h2
                 · rw [show c' = d by omega]; exact he
               first | refine aH.autoR ?_ | refine aC.autoR ?_
               conv => whnf
               repeat' ((first | refine z1 ?_ | refine zP ?_ ?_ | exact trivial) <;> try (conv => whnf))
             · refine Exists.intro (b + 1) (zP ⟨by simp only [aQ, aX] at *; omega, fun b' c' h1 h2 => ?_⟩ (zP (by simp only [aQ, aX] at *; omega) ?_))
               · rcases Nat.lt_or_ge b' b with h' | h'
                 · exact hbl b' c' h' h2
                 · have eb : b' = b := by omega
                   subst eb
                   exact hdl c' (by simp only [aQ, aX] at *; omega) h2
               first | refine aH.autoR ?_ | refine aC.autoR ?_
               conv => whnf
               repeat' ((first | refine z1 ?_ | refine zP ?_ ?_ | exact trivial) <;> try (conv => whnf))
           · refine Exists.intro (a + 1) (zP ⟨by simp only [aQ, aX] at *; omega, fun a' b' c' h1 h2 => ?_⟩ (zP (by simp only [aQ, aX] at *; omega) ?_))
             · rcases Nat.lt_or_ge a' a with h' | h'
               · exact hal a' b' c' h' h2
               · have ea : a' = a := by omega
                 subst ea
                 exact hbl b' c' (by simp only [aQ, aX] at *; omega) h2
             first | refine aH.autoR ?_ | refine aC.autoR ?_
             conv => whnf
             repeat' ((first | refine z1 ?_ | refine zP ?_ ?_ | exact trivial) <;> try (conv => whnf))
         · exact cH (P2 ⟨fun k hk => hz k hk, hsym, fun a' b' c' h' => hal a' b' c' (by simp only [aQ, aX] at *; omega) h'⟩).symm
         · exact absurd trivial h
 · exact absurd (by assumption) (show ¬ true = false by simp)
end Go.Proofs
namespace Go.Proofs
open Go Go.Vm Go.Fg Go.Fg.PS
set_option maxRecDepth 100000
set_option maxHeartbeats 4000000
set_option linter.unusedSimpArgs false
set_option linter.unusedVariables false
noncomputable def dW (m : Int) (t : List (List Int)) : Bool := eS m t && nR (oB (cT m t) t.length)
theorem Acf {m : Int} {t : List (List Int)} (h : eS m t = false) : dW m t = false := by simp [dW, h]
theorem O7 {m : Int} {t : List (List Int)} (h : eS m t = true) : dW m t = nR (oB (cT m t) t.length) := by simp [dW, h]
theorem Ap4 (o p : Bool) (m : Int) (t : List (List Int)) (hl : t.length ≤ 1048576) (hr : kJ t) : aI Tryz.prog 148 [.agg [aA m, .list o 1 (rows p t)]] (bN (dW m t)) := by
 cases hp : eS m t with
 | true =>
   obtain ⟨hm, h2, h3, _⟩ := uA hp
   have key := Aq6 hm o p t.length ⟨h2, h3⟩ (cT m t) (by rw [rM hp]; exact hp)
   simp only [dZ, rM hp] at key
   rw [O7 hp]
   exact key
 | false =>
   have hli := Acp o p m t hl hr
   rw [hp] at hli
   rw [Acf hp]
   refine aU Tryz.tabOk aF Tryz.func148 rfl rfl ?_
   conv => whnf
   repeat' first | ((first | refine z0 ?_ | (apply zI; refine zP (hli) ?_) | (refine zP (fun h => ?_) (fun h => ?_) <;> (try simp only [aB, aE] at h)) | refine Or.inl ?_) <;> conv => whnf) | fail
   all_goals (exfalso; simp_all)
theorem L3 (o p : Bool) (m : Int) (t : List (List Int)) (hl : t.length ≤ 1048576) (hr : kJ t) : aI Tryz.prog 13 [.agg [aA m, .list o 1 (rows p t)]] (bN (dW m t)) := by
 cases hp : eS m t with
 | true =>
   obtain ⟨hm, h2, h3, _⟩ := uA hp
   have key := Ao8 hm o p t.length ⟨h2, h3⟩ (cT m t) (by rw [rM hp]; exact hp)
   simp only [dZ, rM hp] at key
   rw [O7 hp]
   exact key
 | false =>
   have hli := I6 o p m t hl hr
   rw [hp] at hli
   rw [Acf hp]
   refine aU Tryz.tabOk aF Tryz.func13 rfl rfl ?_
   conv => whnf
   repeat' first | ((first | refine z0 ?_ | (apply zI; refine zP (hli) ?_) | (refine zP (fun h => ?_) (fun h => ?_) <;> (try simp only [aB, aE] at h)) | refine Or.inl ?_) <;> conv => whnf) | fail
   all_goals (exfalso; simp_all)
end Go.Proofs
namespace Go.Proofs
open Go Go.Vm Go.Fg Go.Fg.PS
set_option maxRecDepth 100000
set_option maxHeartbeats 4000000
set_option linter.unusedSimpArgs false
set_option linter.unusedVariables false
variable {m : Int}
def eqK (f g : PS (PS (Zm m))) (k : Nat) : Prop := ∀ i, i ≤ k → (f.c i).c (k - i) = (g.c i).c (k - i)
open Classical in
noncomputable def L6 (f g : PS (PS (Zm m))) : Nat → Nat
 | 0 => 0
 | k + 1 => if L6 f g k = k ∧ eqK f g k then k + 1 else L6 f g k
def fdL (f g : PS (PS (Zm m))) (k i : Nat) : List Int := (List.range i).map fun i => ((g.c i).c (k - i) + -(f.c i).c (k - i)).val
@[simp] theorem Ayd (f g : PS (PS (Zm m))) (k i : Nat) : (fdL f g k i).length = i := by simp [fdL]
theorem Ayb {p : Nat → Prop} {b : Nat} : ∀ {k : Nat}, p k → k < b → ∃ j, j < b ∧ p j ∧ ∀ i, i < j → ¬ p i := by
 intro k
 induction k using Nat.strongRecOn with
 | fS k ih =>
   intro hp hk
   rcases Classical.em (∃ i, i < k ∧ p i) with ⟨i, hi, hpi⟩ | h
   · exact ih i hi hpi (by omega)
   · exact ⟨k, hk, hp, fun i hi hpi => h ⟨i, hi, hpi⟩⟩
@[simp] theorem Ay5 (n : Nat) : (Aae n).length = n + 1 := by simp [Aae]
open Classical in
noncomputable def twC (m : Int) (t : List (List Int)) (m' : Int) (t' : List (List Int)) : Int := if dW m t = true ∧ dW m' t' = true then (if m = m' ∧ t.length = t'.length then 0 else 2) else 1
theorem T0 {m : Int} {t : List (List Int)} (h : dW m t = true) : (Md m ∧ (2 ≤ t.length ∧ t.length ≤ 11)) ∧ Tb t.length (cT m t) = t ∧ oB (cT m t) t.length := by
 unfold dW at h
 simp only [Bool.and_eq_true, nR, decide_eq_true_eq] at h
 obtain ⟨hm, h3, h4, _⟩ := uA h.1
 exact ⟨⟨hm, h3, h4⟩, rM h.1, h.2⟩
theorem kH {r : Nat} {cs : List D} {d d' : D} (h : Fz r cs d d') : ∀ i, Fz r cs ([d].getD i .undef) ([d'].getD i .undef)
 | 0 => h
 | i + 1 => .rfl _
theorem As3 (o : Bool) (t : List (List Int)) : (rows o t).map frz1 = rows false t := by
 simp [rows, Function.comp_def, frz1]
theorem Apd {o : Bool} {t : List (List Int)} {off n : Nat} : sub (rows o t) 1 off n = rows o ((t.drop off).take n) := by
 unfold sub rows
 rw [Nat.mul_one, Nat.mul_one, ← List.map_drop, ← List.map_take]
theorem zH {r off n : Nat} {t t' : List (List Int)} (h1 : off + n ≤ t.length) (h2 : (t.drop off).take n = t') {x : D} : Fz r (rows true t) (.agg [x, .ref r [] 1 off n]) (.agg [x, .list false 1 (rows false t')]) :=
 .agg _ _ rfl (fun i d d' hd hd' => by
   match i, hd, hd' with
   | 0, hd, hd' => simp at hd hd'; subst hd; subst hd'; exact .rfl _
   | 1, hd, hd' =>
     simp at hd hd'; subst hd; subst hd'
     exact .ref _ _ _ _ (by rw [Nat.mul_one, Nat.mul_one, aQ]; exact h1) (by rw [Apd, As3, h2])
   | i + 2, hd, hd' => simp at hd)
theorem Aqr {r : Nat} {cs : List D} {x : D} : Fz r cs (.agg [x, .lit (.slice none 0 0)]) (.agg [x, .list false 1 (rows false [])]) :=
 .agg _ _ rfl (fun i d d' hd hd' => by
   match i, hd, hd' with
   | 0, hd, hd' => simp at hd hd'; subst hd; subst hd'; exact .rfl _
   | 1, hd, hd' => simp at hd hd'; subst hd; subst hd'; exact .nil _
   | i + 2, hd, hd' => simp at hd)
def lR (t : List (List Int)) : Prop := t.length ≤ 11 ∧ ∀ k, (t.getD k []).length ≤ 11
theorem Asm {t : List (List Int)} (h : lR t) : t.length ≤ 1048576 ∧ kJ t := ⟨by have := h.1; omega, fun i _ => by have := h.2 i; omega⟩
theorem yQ {n : Nat} (hn : n ≤ 11) (f : PS (PS (Zm m))) : lR (Tb n f) := by
 refine ⟨by simp; omega, fun k => ?_⟩
 by_cases h : k < n
 · rw [gT f h]; simp; omega
 · rw [List.getD_eq_getElem?_getD, List.getElem?_eq_none (by simp; omega)]; simp
theorem Ajo {t : List (List Int)} (h : lR t) (i j : Nat) (x : Int) : lR (eU t i j x) := by
 unfold eU
 refine ⟨by rw [List.length_set]; exact h.1, fun k => ?_⟩
 by_cases e : i = k
 · subst e
   by_cases hl : i < t.length
   · rw [List.getD_eq_getElem?_getD, List.getElem?_set_self hl]; simp only [Option.getD_some, List.length_set]; exact h.2 i
   · rw [List.getD_eq_getElem?_getD, List.getElem?_eq_none (by rw [List.length_set]; omega)]; simp
 · rw [List.getD_eq_getElem?_getD, List.getElem?_set_ne e, ← List.getD_eq_getElem?_getD]; exact h.2 k
theorem xN (t : List (List Int)) (i j : Nat) (x : Int) : (eU t i j x).length = t.length := by unfold eU; rw [List.length_set]
theorem Ath {t : List (List Int)} (h : lR t) : lR (t.drop 1) := by
 refine ⟨by rw [List.length_drop]; have := h.1; omega, fun k => ?_⟩
 rw [List.getD_eq_getElem?_getD, List.getElem?_drop, ← List.getD_eq_getElem?_getD]; exact h.2 _
theorem Ang : lR [] := ⟨by simp, fun k => by simp⟩
abbrev Wei : Prop := ∀ (m : Int) (hm : Md m) (n : Nat) (hn : 2 ≤ n ∧ n ≤ 11) (d : Int) (hd : d + 1 = n) (o : Bool) (a : PS (Zm m)), ∃ F : PS (PS (Zm m)), aI Tryz.prog 117 [aA m, aA d, LD o 5 a] (dU true true n F)
theorem Aom (hW : Wei) (o : Bool) (l : List Nat) (hb : ∀ b ∈ l, b < 256) (hl : l.length ≤ 4611686018427387904) (a : Nat) (ha : a ≤ l.length) (hs : Int) :
   cS Tryz.prog 248 2 [.ptr 1 [] 0] [none, some (aN o l a hs)]
     (fun d rt => ∃ (m : Int) (n : Nat) (F : PS (PS (Zm m))) (a' : Nat) (h' : Int), Md m ∧ m ≤ 9973 ∧ (2 ≤ n ∧ n ≤ 11) ∧ a' ≤ l.length ∧ d = .agg [aA m, .ref 2 [] 1 0 n] ∧ rt = [none, some (aN o l a' h'), some ⟨false, 1, rows true (Tb n F)⟩]) := by
 refine eI Tryz.tabOk aF 2 _ Tryz.func248 rfl rfl ?_
 conv => whnf
 repeat' first | (refine bF [1] (Alf o l hb hl a ha hs) (fun d rt' hd => ?_)) | fail
 obtain ⟨m, a1, h1, hm0, ha1, rfl, rfl⟩ := hd
 refine ⟨rfl, by simp, ?_⟩
 conv => whnf
 have hm : Md m := ⟨hm0.1, by omega⟩
 repeat' first | (refine bF [1] (dD o l hb hl a1 ha1 h1 10) (fun d rt' hd => ?_)) | fail
 obtain ⟨x, a2, h2, hx, ha2, rfl, rfl⟩ := hd
 refine ⟨rfl, by simp, ?_⟩
 conv => whnf
 have hx2 := hx.2 (by omega)
 repeat' first | (refine bF [1, 3] (jV o l hb hl a2 ha2 h2 [1, 2, 3, 4, 6, 9, x] (by simp)) (fun d rt' hd => ?_)) | fail
 obtain ⟨v, a3, h3, hv, ha3, rfl, rfl⟩ := hd
 refine ⟨rfl, by simp, ?_⟩
 conv => whnf
 have hv2 : 0 ≤ v ∧ v ≤ 9 := by
   simp only [List.mem_cons, List.not_mem_nil, or_false] at hv
   omega
 repeat' first | (refine bF [1] (Arn hm o l hb hl a3 ha3 h3 (v + 2).toNat (by omega) (d := 1 + v) (by omega) (fun o a => hW m hm (v + 2).toNat (by omega) (1 + v) (by omega) o a)) (fun d rt' hd => ?_)) | ((first | refine zV ?_) <;> conv => whnf) | fail
 obtain ⟨F, a4, h4, ha4, rfl, rfl⟩ := hd
 refine ⟨rfl, by simp, ?_⟩
 conv => whnf
 repeat' first | ((first | refine z0 ?_ | (refine zP (fun h => ?_) (fun h => ?_) <;> (try simp only [aB, aE] at h)) | refine zS ?_ | refine zV ?_ | (apply zI; refine zP aM ?_) | (apply zI; refine zP aG ?_) | refine zA ?_ | refine Alt.fst ?_ | refine Or.inl ?_) <;> conv => whnf) | fail
 first
   | (refine ⟨.agg [aA m, .ref 2 [] 1 0 (v + 2).toNat], [none, some (aN o l a4 h4), some ⟨false, 1, rows true (Tb (v + 2).toNat F)⟩], ⟨m, (v + 2).toNat, F, a4, h4, hm, by omega, by omega, ha4, rfl, rfl⟩, aC.of (kp := 2) [none, some 1, some 2] ?_⟩
      (conv => whnf)
      repeat' ((first | refine zP rfl ?_ | exact trivial) <;> try (conv => whnf))
      done)
   | (refine ⟨.agg [aA m, .ref 2 [] 1 0 (v + 2).toNat], [none, some (aN o l a4 h4), some ⟨false, 1, rows true (Tb (v + 2).toNat F)⟩], ⟨m, (v + 2).toNat, F, a4, h4, hm, by omega, by omega, ha4, rfl, rfl⟩, aC.of (kp := 2) [none, some 1, some 3] ?_⟩
      (conv => whnf)
      repeat' ((first | refine zP rfl ?_ | exact trivial) <;> try (conv => whnf))
      done)
   | (refine ⟨.agg [aA m, .ref 2 [] 1 0 (v + 2).toNat], [none, some (aN o l a4 h4), some ⟨false, 1, rows true (Tb (v + 2).toNat F)⟩], ⟨m, (v + 2).toNat, F, a4, h4, hm, by omega, by omega, ha4, rfl, rfl⟩, aC.of (kp := 2) [none, some 1, some 4] ?_⟩
      (conv => whnf)
      repeat' ((first | refine zP rfl ?_ | exact trivial) <;> try (conv => whnf))
      done)
   | (refine ⟨.agg [aA m, .ref 2 [] 1 0 (v + 2).toNat], [none, some (aN o l a4 h4), some ⟨false, 1, rows true (Tb (v + 2).toNat F)⟩], ⟨m, (v + 2).toNat, F, a4, h4, hm, by omega, by omega, ha4, rfl, rfl⟩, aC.of (kp := 2) [none, some 1, some 5] ?_⟩
      (conv => whnf)
      repeat' ((first | refine zP rfl ?_ | exact trivial) <;> try (conv => whnf))
      done)
   | (refine ⟨.agg [aA m, .ref 2 [] 1 0 (v + 2).toNat], [none, some (aN o l a4 h4), some ⟨false, 1, rows true (Tb (v + 2).toNat F)⟩], ⟨m, (v + 2).toNat, F, a4, h4, hm, by omega, by omega, ha4, rfl, rfl⟩, aC.of (kp := 2) [none, some 1, some 6] ?_⟩
      (conv => whnf)
      repeat' ((first | refine zP rfl ?_ | exact trivial) <;> try (conv => whnf))
      done)
   | (refine ⟨.agg [aA m, .ref 2 [] 1 0 (v + 2).toNat], [none, some (aN o l a4 h4), some ⟨false, 1, rows true (Tb (v + 2).toNat F)⟩], ⟨m, (v + 2).toNat, F, a4, h4, hm, by omega, by omega, ha4, rfl, rfl⟩, aC.of (kp := 2) [none, some 1, some 7] ?_⟩
      (conv => whnf)
      repeat' ((first | refine zP rfl ?_ | exact trivial) <;> try (conv => whnf))
      done)
theorem Ani (hW : Wei) (o : Bool) (l : List Nat) (hb : ∀ b ∈ l, b < 256) (hl : l.length ≤ 4611686018427387904) (a : Nat) (ha : a ≤ l.length) (hs : Int) :
   cS Tryz.prog 152 2 [.ptr 1 [] 0] [none, some (aN o l a hs)]
     (fun d rt => ∃ (m : Int) (t : List (List Int)) (a' : Nat) (h' : Int), (1 ≤ m ∧ m ≤ 10001) ∧ lR t ∧ a' ≤ l.length ∧ d = .agg [aA m, .list false 1 (rows false t)] ∧ rt = [none, some (aN o l a' h')]) := by
 refine eI Tryz.tabOk aF 2 _ Tryz.func152 rfl rfl ?_
 conv => whnf
 repeat' first | (refine bF [1] (Aom hW o l hb hl a ha hs) (fun d rt' hd => ?_)) | fail
 obtain ⟨m, n, F, a1, h1, hm, hm9, hn, ha1, rfl, rfl⟩ := hd
 refine ⟨rfl, by simp, ?_⟩
 conv => whnf
 repeat' first | (refine bF [1] (dD o l hb hl a1 ha1 h1 n) (fun d rt' hd => ?_)) | fail
 obtain ⟨i, a2, h2, hi, ha2, rfl, rfl⟩ := hd
 refine ⟨rfl, by simp, ?_⟩
 conv => whnf
 have hi2 := hi.2 (by omega)
 repeat' first | (refine bF [1] (dD o l hb hl a2 ha2 h2 24) (fun d rt' hd => ?_)) | ((first | refine zV ?_ | (apply zI; refine zP aG ?_)) <;> conv => whnf) | fail
 obtain ⟨x, a3, h3, hx, ha3, rfl, rfl⟩ := hd
 refine ⟨rfl, by simp, ?_⟩
 conv => whnf
 have hx2 := hx.2 (by omega)
 have hm1 := hm.1
 have hm2 := hm.2
 have hnm : (bC 1 (ints (L (n - i.toNat) (F.c i.toNat))) : Nat) = n - i.toNat := by simp [aB]
 repeat' first | (refine bF [1] (dD o l hb hl a3 ha3 h3 (bC 1 (ints (L (n - i.toNat) (F.c i.toNat))) : Nat)) (fun d rt' hd => ?_)) | (refine bF [1, 5] (jV o l hb hl a3 ha3 h3 [1, 10001, 2] (by simp)) (fun d rt' hd => ?_)) | ((refine zP (show oK _ _ = true by decide +kernel) ?_; conv => whnf)) | ((first | refine z0 ?_ | (refine zP (fun h => ?_) (fun h => ?_) <;> (try simp only [aB, aE] at h) <;> first | (exfalso; omega) | skip) | refine zV ?_ | refine Or.inl ?_) <;> conv => whnf) | fail
 · obtain ⟨y, a4, h4, hy, ha4, rfl, rfl⟩ := hd
   refine ⟨rfl, by simp, ?_⟩
   conv => whnf
   have hy2 := hy.2 (by omega)
   repeat' first | (refine bF [1] (dD o l hb hl a4 ha4 h4 (m + 1)) (fun d rt' hd => ?_)) | ((refine zP (show (_ : List (Option Root))[_]? = _ from rfl) ?_; conv => whnf)) | fail
   obtain ⟨z, a5, h5, hz, ha5, rfl, rfl⟩ := hd
   refine ⟨rfl, by simp, ?_⟩
   conv => whnf
   repeat' first | ((refine zP (show (_ : List (Option Root))[_]? = _ from rfl) ?_; conv => whnf)) | ((first | refine z0 ?_ | refine zV ?_ | (apply zI; refine zP aM ?_)) <;> conv => whnf) | fail
   have hz2 := hz.2 (by omega)
   first
     | (refine ⟨.agg [aA (m), .list false 1 (rows false (eU (Tb n F) i.toNat y.toNat z))], [none, some (aN o l a5 h5)], ⟨m, eU (Tb n F) i.toNat y.toNat z, a5, h5, ⟨by have := hm.1; omega, by omega⟩, Ajo (yQ (by omega) F) _ _ _, ha5, rfl, rfl⟩, aC.trans (aC.freezeR (kp := 2) (r := 3) (s0 := 1) (env' := [.agg [aA (m), .list false 1 (rows false (eU (Tb n F) i.toNat y.toNat z))]]) rfl rfl (kH (zH (by rw [xN]; simp) (by rw [List.drop_zero, List.take_of_length_le (by rw [xN]; simp)])))) (aC.of (kp := 2) [none, some 1] ?_)⟩
        (conv => whnf)
        repeat' ((first | refine zP rfl ?_ | exact trivial) <;> try (conv => whnf))
        done)
 · obtain ⟨y, a4, h4, hy, ha4, rfl, rfl⟩ := hd
   refine ⟨rfl, by simp, ?_⟩
   conv => whnf
   have hy2 : 1 ≤ y ∧ y ≤ 10001 := by
     simp only [List.mem_cons, List.not_mem_nil, or_false] at hy
     omega
   repeat' first | ((first | refine z0 ?_ | (refine zP (fun h => ?_) (fun h => ?_) <;> (try simp only [aB, aE] at h) <;> first | (exfalso; omega) | skip) | refine zS ?_ | refine zV ?_ | (apply zI; refine zP aM ?_) | (apply zI; refine zP aG ?_)) <;> conv => whnf) | fail
   first
     | (refine ⟨.agg [aA (y), .list false 1 (rows false (Tb n F))], [none, some (aN o l a4 h4)], ⟨y, Tb n F, a4, h4, hy2, yQ (by omega) F, ha4, rfl, rfl⟩, aC.trans (aC.freezeR (kp := 2) (r := 3) (s0 := 1) (env' := [.agg [aA (y), .list false 1 (rows false (Tb n F))]]) rfl rfl (kH (zH (by simp) (by rw [List.drop_zero, List.take_of_length_le (by simp)])))) (aC.of (kp := 2) [none, some 1] ?_)⟩
        (conv => whnf)
        repeat' ((first | refine zP rfl ?_ | exact trivial) <;> try (conv => whnf))
        done)
 · first
     | (refine ⟨.agg [aA (m), .list false 1 (rows false ((Tb n F).drop 1))], [none, some (aN o l a3 h3)], ⟨m, (Tb n F).drop 1, a3, h3, ⟨by have := hm.1; omega, by omega⟩, Ath (yQ (by omega) F), ha3, rfl, rfl⟩, aC.trans (aC.freezeR (kp := 2) (r := 3) (s0 := 1) (env' := [.agg [aA (m), .list false 1 (rows false ((Tb n F).drop 1))]]) rfl rfl (kH (zH (by simp; omega) (by simp [List.take_of_length_le])))) (aC.of (kp := 2) [none, some 1] ?_)⟩
        (conv => whnf)
        repeat' ((first | refine zP rfl ?_ | exact trivial) <;> try (conv => whnf))
        done)
 · first
     | (refine ⟨.agg [aA (m), .list false 1 (rows false ([]))], [none, some (aN o l a3 h3)], ⟨m, [], a3, h3, ⟨by have := hm.1; omega, by omega⟩, Ang, ha3, rfl, rfl⟩, aC.trans (aC.freezeR (kp := 2) (r := 3) (s0 := 1) (env' := [.agg [aA (m), .list false 1 (rows false ([]))]]) rfl rfl (kH Aqr)) (aC.of (kp := 2) [none, some 1] ?_)⟩
        (conv => whnf)
        repeat' ((first | refine zP rfl ?_ | exact trivial) <;> try (conv => whnf))
        done)
 · first
     | (refine ⟨.agg [aA (m), .list false 1 (rows false (Tb n F))], [none, some (aN o l a3 h3)], ⟨m, Tb n F, a3, h3, ⟨by have := hm.1; omega, by omega⟩, yQ (by omega) F, ha3, rfl, rfl⟩, aC.trans (aC.freezeR (kp := 2) (r := 3) (s0 := 1) (env' := [.agg [aA (m), .list false 1 (rows false (Tb n F))]]) rfl rfl (kH (zH (by simp) (by rw [List.drop_zero, List.take_of_length_le (by simp)])))) (aC.of (kp := 2) [none, some 1] ?_)⟩
        (conv => whnf)
        repeat' ((first | refine zP rfl ?_ | exact trivial) <;> try (conv => whnf))
        done)
theorem Ajf (o : Bool) (l : List Nat) (hl : l.length ≤ 9223372036854775807) : aI Tryz.prog 8 [.list o 1 (fV l)] (bN (decide (4096 < l.length))) := by
 have hc : bC 1 (fV l) = l.length := by simp [aB]
 refine aU Tryz.tabOk aF Tryz.func8 rfl rfl ?_
 conv => whnf
 repeat' first | ((first | refine z0 ?_ | (refine zP (fun h => ?_) (fun h => ?_) <;> (try simp only [aB, aE] at h)) | refine zS ?_ | refine zV ?_ | (apply zI; refine zP aM ?_) | (apply zI; refine zP aG ?_) | refine zA ?_ | refine Alt.fst ?_ | refine Or.inl ?_) <;> conv => whnf) | fail
 all_goals first | rfl | (refine cH ?_; simp at *; omega)
theorem Ak8 {a b : List Int} (h : a.length = b.length) (hab : a ≠ b) (hk : ∀ k, k < a.length → a.getD k 0 = b.getD k 0) : False :=
 hab (List.ext_getElem h (fun i h1 h2 => by have := hk i h1; simpa [h1, h2] using this))
theorem Aps (o o' : Bool) (a b : List Int) (ha : a.length ≤ 9223372036854775807) (hb : b.length ≤ 9223372036854775807) : aI Tryz.prog 35 [.list o 1 (ints a), .list o' 1 (ints b)] (bN (decide (a = b))) := by
 have h1 : bC 1 (ints a) = a.length := by simp [aB]
 have h2 : bC 1 (ints b) = b.length := by simp [aB]
 by_cases hab : a = b
 · subst hab
   rw [show decide (a = a) = true by simp]
   refine aU Tryz.tabOk aF Tryz.func35 rfl rfl ?_
   conv => whnf
   repeat' first | ((first | refine z0 ?_ | (refine zP (fun h => ?_) (fun h => ?_) <;> (try simp only [aB, aE] at h) <;> first | (exfalso; omega) | skip) | refine zS ?_ | refine zV ?_ | (apply zI; refine zP aM ?_) | (apply zI; refine zP aG ?_)) <;> conv => whnf) | fail
   refine aZ Tryz.tabOk aF (α := Nat) (fun i => [(5, aA i)]) (fun i => []) (fun i => i ≤ a.length) (fun i => a.length - i) (0) ?_ ?_ ?_
   · omega
   · conv => whnf
     first | refine aH.autoR ?_ | refine aC.autoR ?_
     conv => whnf
     repeat' ((first | refine z1 ?_ | refine z2 ?_ | refine zV ?_ | refine zP cG ?_ | refine zP cF ?_ | refine zP ?_ ?_ | exact trivial) <;> try (conv => whnf))
   intro i hi
   conv => whnf
   repeat' first | ((first | refine z0 ?_ | (refine zP (fun h => ?_) (fun h => ?_) <;> (try simp only [aB, aE] at h) <;> first | (exfalso; omega) | skip) | refine zS ?_ | refine zV ?_ | (apply zI; refine zP aM ?_) | (apply zI; refine zP aG ?_)) <;> conv => whnf) | fail
   · refine Exists.intro (i + 1) (zP aD (zP aD ?_))
     first | refine aH.autoR ?_ | refine aC.autoR ?_
     conv => whnf
     repeat' ((first | refine z1 ?_ | refine z2 ?_ | refine zV ?_ | refine zP cG ?_ | refine zP cF ?_ | refine zP ?_ ?_ | exact trivial) <;> try (conv => whnf))
   all_goals first | rfl
 · rw [show decide (a = b) = false by simp [hab]]
   refine aU Tryz.tabOk aF Tryz.func35 rfl rfl ?_
   conv => whnf
   by_cases hl : a.length = b.length
   · repeat' first | ((first | refine z0 ?_ | (refine zP (fun h => ?_) (fun h => ?_) <;> (try simp only [aB, aE] at h) <;> first | (exfalso; omega) | skip) | refine zS ?_ | refine zV ?_ | (apply zI; refine zP aM ?_) | (apply zI; refine zP aG ?_)) <;> conv => whnf) | fail
     refine aZ Tryz.tabOk aF (α := Nat) (fun i => [(5, aA i)]) (fun i => []) (fun i => i ≤ a.length ∧ ∀ k, k < i → a.getD k 0 = b.getD k 0) (fun i => a.length - i) (0) ?_ ?_ ?_
     · exact ⟨by omega, by omega⟩
     · conv => whnf
       first | refine aH.autoR ?_ | refine aC.autoR ?_
       conv => whnf
       repeat' ((first | refine z1 ?_ | refine z2 ?_ | refine zV ?_ | refine zP cG ?_ | refine zP cF ?_ | refine zP ?_ ?_ | exact trivial) <;> try (conv => whnf))
     intro i hi
     obtain ⟨hi, hk⟩ := hi
     conv => whnf
     by_cases hin : i < a.length
     · repeat' first | ((first | refine z0 ?_ | (refine zP (fun h => ?_) (fun h => ?_) <;> (try simp only [aB, aE] at h) <;> first | (exfalso; omega) | skip) | refine zS ?_ | refine zV ?_ | (apply zI; refine zP aM ?_) | (apply zI; refine zP aG ?_)) <;> conv => whnf) | fail
       · refine Exists.intro (i + 1) (zP ⟨by omega, fun k hk9 => ?_⟩ (zP aD ?_))
         · rcases Nat.lt_or_ge k i with h9 | h9
           · exact hk k h9
           · have e : k = i := by omega
             rw [e]; omega
         first | refine aH.autoR ?_ | refine aC.autoR ?_
         conv => whnf
         repeat' ((first | refine z1 ?_ | refine z2 ?_ | refine zV ?_ | refine zP cG ?_ | refine zP cF ?_ | refine zP ?_ ?_ | exact trivial) <;> try (conv => whnf))
     · exact (Ak8 hl hab (fun k hk9 => hk k (by omega))).elim
   · repeat' first | ((first | refine z0 ?_ | (refine zP (fun h => ?_) (fun h => ?_) <;> (try simp only [aB, aE] at h) <;> first | (exfalso; omega) | skip) | refine zS ?_ | refine zV ?_ | (apply zI; refine zP aM ?_) | (apply zI; refine zP aG ?_)) <;> conv => whnf) | fail
     all_goals first | rfl
theorem Akx : aI Tryz.prog 35 [.lit (.slice none 0 0), .lit (.slice none 0 0)] (bN true) := by
 refine aU Tryz.tabOk aF Tryz.func35 rfl rfl ?_
 conv => whnf
 repeat' first | ((first | refine z0 ?_ | (refine zP (fun h => ?_) (fun h => ?_) <;> (try simp only [aB, aE] at h) <;> first | (exfalso; omega) | skip) | refine zS ?_ | refine zV ?_ | (apply zI; refine zP aM ?_) | (apply zI; refine zP aG ?_)) <;> conv => whnf) | fail
 refine aZ Tryz.tabOk aF (α := Nat) (fun i => [(5, aA i)]) (fun i => []) (fun i => i = 0) (fun i => i) (0) ?_ ?_ ?_
 · omega
 · conv => whnf
   first | refine aH.autoR ?_ | refine aC.autoR ?_
   conv => whnf
   repeat' ((first | refine z1 ?_ | refine z2 ?_ | refine zV ?_ | refine zP cG ?_ | refine zP cF ?_ | refine zP ?_ ?_ | exact trivial) <;> try (conv => whnf))
 intro i hi
 subst hi
 conv => whnf
 repeat' first | ((first | refine z0 ?_ | (refine zP (fun h => ?_) (fun h => ?_) <;> (try simp only [aB, aE] at h) <;> first | (exfalso; omega) | skip) | refine zS ?_ | refine zV ?_ | (apply zI; refine zP aM ?_) | (apply zI; refine zP aG ?_)) <;> conv => whnf) | fail
end Go.Proofs
namespace Go.Vm
open Go
def yG (k : Nat) (st : St) : St := ⟨st.env.take k ++ List.replicate (st.env.length - k) .undef, st.rt⟩
structure Hold (p : Prop) : Prop where
 out : p
section
variable {P : Program} {T : Tab} {kp : Nat}
theorem Y7 (hT : TabOk P T) (hm : P.follows .mixedOrders = true) (k : Nat) {body : Code} {Q : Exit → St → Prop} {st : St} {α : Type} (cs : α → List (Nat × D)) (rs : α → List (Nat × Option Root)) (J : α → Prop) (μ : α → Nat) (x0 : α) (h0 : J x0)
   (hw : mM (jG body) fun ds => aH kp st (iN kp (lS (yG k st) ds (cs x0) (rs x0))))
   (round : ∀ x, J x → mM (jG body) fun ds => rP kp (lS (yG k st) ds (cs x) (rs x)) (jK P T kp body (fun e st' => match e with
     | .normal => ∃ y, J y ∧ μ y < μ x ∧ aC kp st' (iN kp (lS (yG k st) ds (cs y) (rs y)))
     | e => Q e st'))) : jE P kp body Q st :=
 Aga hT hm (fun x => iN kp (lS (yG k st) (jG body) (cs x) (rs x))) J μ x0 h0 (by rw [tE] at hw; exact hw.to) (fun x hx => by
   have h := round x hx
   rw [tE, T7, qK] at h
   exact h)
end
end Go.Vm
namespace Go.Proofs
open Go Go.Vm Go.Fg Go.Fg.PS
set_option maxRecDepth 100000
set_option maxHeartbeats 4000000
set_option linter.unusedSimpArgs false
set_option linter.unusedVariables false
variable {m : Int}
def X4 (w : PS (Zm m)) (G : PS (PS (Zm m))) (k : Nat) : Nat → PS (PS (Zm m))
 | 0 => G
 | i + 1 => dH (X4 w G k i) i (k - 1 - i) (w.c k)
def uO (w : PS (Zm m)) : Nat → PS (PS (Zm m))
 | 0 => 0
 | k + 1 => X4 w (uO w k) (k + 1) (k + 1)
def D9 (w : PS (Zm m)) : Nat → PS (PS (Zm m))
 | 0 => 0
 | k + 1 => dH (D9 w k) k 0 (w.c k)
def pV : PS (Zm m) := ⟨fun k => if k % 2 = 0 then 1 else -1⟩
def J2 (a w : PS (Zm m)) : PS (Zm m) := ⟨fun k => if k = 0 then 1 else Zm.mk m (m - ((a.c 2).val * (w.c k).val + (if k = 1 then (a.c 0).val else 0)).tmod m)⟩
theorem F1 (hm : Md m) : m - 1 = (-1 : Zm m).val := by
 have h1 := hm.1
 have e := oA hm (show 0 ≤ m - 1 by omega)
 rw [Int.tmod_eq_of_lt (by omega) (by omega)] at e
 rw [e]
 congr 1
 rw [Zm.mk_sub, Zm.mk_self, Go.Fg.sub_def, CR.zero_add]; rfl
section
variable (n : Nat) (a : PS (Zm m))
def w0 : PS (Zm m) := wS a.c (n + 1 - 3)
def iL : PS (PS (Zm m)) := uO (w0 n a) n
def rD : PS (PS (Zm m)) := D9 (w0 n a) n + PS.C (PS.C (-1)) * (iL n a * dH 0 1 0 1)
def nO : PS (PS (Zm m)) := iL n a * iL n a
def N6 : PS (PS (Zm m)) := PS.C (PS.C (a.c 0)) * iL n a + PS.C (PS.C (a.c 1)) * rD n a
def U5 : PS (PS (Zm m)) := N6 n a + PS.C (PS.C (a.c 2)) * nO n a
def O6 : PS (PS (Zm m)) := iL n a * rD n a
def G9 : PS (PS (Zm m)) := U5 n a + PS.C (PS.C (Zm.mk m (2 * (a.c (Int.toNat 3)).val))) * O6 n a
def O0 : PS (PS (Zm m)) := nO n a * rD n a
def yD : PS (PS (Zm m)) := G9 n a + PS.C (PS.C (Zm.mk m (3 * (a.c (Int.toNat 4)).val))) * O0 n a
def N8 : PS (PS (Zm m)) := PS.C (PS.C (a.c 1)) * iL n a + PS.C (PS.C (a.c 3)) * nO n a
def K8 : PS (PS (Zm m)) := nO n a * iL n a
def uR : PS (PS (Zm m)) := N8 n a + PS.C (PS.C (a.c 4)) * K8 n a
def wQ : PS (PS (Zm m)) := yD n a * comp2N pV (uR n a) 0 n
def wU : PS (PS (Zm m)) := PS.C (PS.C (-1)) * (dH 0 1 0 1 + zO (dH 0 1 0 1) + wQ n a)
def lT : PS (Zm m) := J2 a (w0 n a)
def wF : PS (PS (Zm m)) := comp2N ((⟨fun k => if k = 1 then -1 else 0⟩ : PS (Zm m)) * inv (bA m ((lT n a).c 0).val) (lT n a)) (wU n a) 0 n
end
noncomputable def Agu (hm : Md m) (o : Bool) (n : Nat) (hn : 2 ≤ n ∧ n ≤ 11) {d : Int} (hd : d + 1 = n) (a : PS (Zm m)) (F : PS (PS (Zm m))) : (R : Prop) ×' (Hold R → aI Tryz.prog 117 [aA m, aA d, LD o 5 a] (dU true true n F)) := by
 have hm1 := hm.1
 have hm2 := hm.2
 apply PSigma.mk
 intro h0
 refine aU Tryz.tabOk aF Tryz.func117 rfl rfl ?_
 conv => whnf
 repeat' first | ((first | (apply zI; refine zP (oM (m := m) n aD aD) ?_) | (apply zI; refine zP (Aoe hm _ (n + 1) aD aD a) ?_) | refine zV ?_ | refine Or.inl ?_) <;> conv => whnf) | fail
 rw [show wS a.c (n + 1 - 3) = w0 n a from rfl]
 refine aZ Tryz.tabOk aF (α := Nat) (fun k => [(9, aA ((k : Int) + 1))]) (fun k => [(1, some ⟨false, 1, rows true (Tb n (uO (w0 n a) k))⟩)]) (fun k => k ≤ n) (fun k => n - k) (0) ?_ ?_ ?_
 · omega
 · conv => whnf
   first | refine aH.autoR ?_ | refine aC.autoR ?_
   conv => whnf
   repeat' ((first | refine z1 ?_ | refine z2 ?_ | refine zV ?_ | refine zP cG ?_ | refine zP cF ?_ | refine zP ?_ ?_ | exact trivial) <;> try (conv => whnf))
   all_goals first | rfl
 intro k hk
 conv => whnf
 repeat' first | ((first | (apply zI; refine zP (oM (m := m) n aD aD) ?_) | (refine zP (fun h => ?_) (fun h => ?_) <;> (try simp only [aB, aE] at h)) | refine zV ?_ | (apply zI; refine zP aM ?_) | (apply zI; refine zP aG ?_) | refine Or.inl ?_) <;> conv => whnf) | fail
 · have hkn : k < n := aD
   refine aZ Tryz.tabOk aF (α := Nat) (fun i => [(10, aA i)]) (fun i => [(1, some ⟨false, 1, rows true (Tb n (X4 (w0 n a) (uO (w0 n a) k) (k + 1) i))⟩)]) (fun i => i ≤ k + 1) (fun i => n - i) (0) ?_ ?_ ?_
   · omega
   · conv => whnf
     first | refine aH.autoR ?_ | refine aC.autoR ?_
     conv => whnf
     repeat' ((first | refine z1 ?_ | refine z2 ?_ | refine zV ?_ | refine zP cG ?_ | refine zP cF ?_ | refine zP ?_ ?_ | exact trivial) <;> try (conv => whnf))
     all_goals first | rfl
   intro i hi
   conv => whnf
   repeat' first | ((first | refine z0 ?_ | (refine zP (fun h => ?_) (fun h => ?_) <;> (try simp only [aB, aE] at h)) | refine zS ?_ | refine zV ?_ | (apply zI; refine zP aM ?_) | (apply zI; refine zP aG ?_) | refine zA ?_ | refine Alt.fst ?_ | refine Or.inl ?_) <;> conv => whnf) | fail
   · have hik : i < k + 1 := aD
     refine Exists.intro (i + 1) (zP aD (zP aD ?_))
     first | refine aH.autoR ?_ | refine aC.autoR ?_
     conv => whnf
     repeat' ((first | refine z1 ?_ | refine z2 ?_ | refine zV ?_ | refine zP cG ?_ | refine zP cF ?_ | refine zP ?_ ?_ | exact trivial) <;> try (conv => whnf))
     all_goals first
       | exact cI (fT ((w0 n a).c (k + 1)) rfl (by omega) (aW.of_eq rfl))
       | (rw [show ((k : Int) + 1 - 1 - (i : Int)).toNat = k - i by omega]; exact cI (fT ((w0 n a).c (k + 1)) rfl (by omega) (aW.of_eq rfl)))
   · have hik : i = k + 1 := aD
     refine Exists.intro (k + 1) (zP aD (zP aD ?_))
     first | refine aH.autoR ?_ | refine aC.autoR ?_
     conv => whnf
     repeat' ((first | refine z1 ?_ | refine z2 ?_ | refine zV ?_ | refine zP cG ?_ | refine zP cF ?_ | refine zP ?_ ?_ | exact trivial) <;> try (conv => whnf))
     all_goals first | (rw [hik]; rfl) | omega
 have hkn : n = k := by omega
 subst hkn
 have h1 : (1 : Int) = (1 : Zm m).val := (Zm.val_one (by omega)).symm
 rw [show eU (Tb n (0 : PS (PS (Zm m)))) 1 0 1 = Tb n (dH 0 1 0 1) from fT (1 : Zm m) h1 (by omega) (aW.of_eq rfl)]
 rw [show uO (w0 n a) n = iL n a from rfl]
 refine Y7 Tryz.tabOk aF 26 (α := Nat) (fun i => [(8, .ref 1 [] 1 0 n), (9, .undef), (11, .ref 2 [] 1 0 n), (12, .ref 3 [] 1 0 n), (13, aA i)]) (fun i => [(3, some ⟨false, 1, rows true (Tb n (D9 (w0 n a) i))⟩)]) (fun i => i ≤ n) (fun i => n - i) (0) ?_ ?_ ?_
 · omega
 · conv => whnf
   first | refine aH.autoR ?_ | refine aC.autoR ?_
   conv => whnf
   repeat' ((first | refine z1 ?_ | refine z2 ?_ | refine zV ?_ | refine zP cG ?_ | refine zP cF ?_ | refine zP ?_ ?_ | exact trivial) <;> try (conv => whnf))
   all_goals first | rfl
 exact h0.out
noncomputable def Aho (hm : Md m) (o : Bool) (n : Nat) (hn : 2 ≤ n ∧ n ≤ 11) {d : Int} (hd : d + 1 = n) (a : PS (Zm m)) (F : PS (PS (Zm m))) : (R : Prop) ×' (Hold R → (Agu hm o n hn hd a F).1) := by
 have hm1 := hm.1
 have hm2 := hm.2
 apply PSigma.mk
 intro h0
 conv => whnf
 intro i hi
 conv => whnf
 have hZ1 : m - 1 = (-1 : Zm m).val := F1 hm
 have hx3 := Zm.val_range hm.pos (a.c (Int.toNat 3))
 have hx4 := Zm.val_range hm.pos (a.c (Int.toNat 4))
 repeat' first | ((first | (apply zI; refine zP (qF hm _ _ _ _ n aD _ _) ?_) | (apply zI; refine zP (pY hm _ _ _ _ n aD _ _) ?_) | (apply zI; refine zP (mF hm _ _ n aD (-1) hZ1 _) ?_) | (refine zP (fun h => ?_) (fun h => ?_) <;> (try simp only [aB, aE] at h)) | refine zS ?_ | refine zV ?_ | (apply zI; refine zP aM ?_) | (apply zI; refine zP aG ?_) | refine Alt.fst ?_ | refine Or.inl ?_) <;> conv => whnf) | fail
 · have hin : i < n := aD
   refine Exists.intro (i + 1) (zP aD (zP aD ?_))
   first | refine aH.autoR ?_ | refine aC.autoR ?_
   conv => whnf
   repeat' ((first | refine z1 ?_ | refine z2 ?_ | refine zV ?_ | refine zP cG ?_ | refine zP cF ?_ | refine zP ?_ ?_ | exact trivial) <;> try (conv => whnf))
   all_goals first
     | exact cI (fT ((w0 n a).c i) rfl (by omega) (aW.of_eq rfl))
 have hin : n = i := by omega
 subst hin
 rw [show D9 (w0 n a) n + PS.C (PS.C (-1)) * (iL n a * dH 0 1 0 1) = rD n a from rfl]
 rw [show iL n a * iL n a = nO n a from rfl]
 repeat' first | ((first | (apply zI; refine zP (mF hm _ _ n aD (a.c 0) rfl _) ?_) | (apply zI; refine zP (mF hm _ _ n aD (a.c 1) rfl _) ?_) | (apply zI; refine zP (pY hm _ _ _ _ n aD _ _) ?_) | refine zV ?_ | (apply zI; refine zP aM ?_) | (apply zI; refine zP aG ?_) | refine Or.inl ?_) <;> conv => whnf) | fail
 rw [show PS.C (PS.C (a.c 0)) * iL n a + PS.C (PS.C (a.c 1)) * rD n a = N6 n a from rfl]
 repeat' first | ((first | (apply zI; refine zP (mF hm _ _ n aD (a.c 2) rfl _) ?_) | (apply zI; refine zP (pY hm _ _ _ _ n aD _ _) ?_) | (apply zI; refine zP (qF hm _ _ _ _ n aD _ _) ?_) | refine zS ?_ | refine zV ?_ | (apply zI; refine zP aM ?_) | (apply zI; refine zP aG ?_) | refine Alt.fst ?_ | refine Or.inl ?_) <;> conv => whnf) | fail
 rw [show N6 n a + PS.C (PS.C (a.c 2)) * nO n a = U5 n a from rfl]
 rw [show iL n a * rD n a = O6 n a from rfl]
 repeat' first | ((first | (apply zI; refine zP (mF hm _ _ n aD (Zm.mk m (2 * (a.c (Int.toNat 3)).val)) (oA hm (by omega)) _) ?_) | (apply zI; refine zP (pY hm _ _ _ _ n aD _ _) ?_) | (apply zI; refine zP (qF hm _ _ _ _ n aD _ _) ?_) | refine zS ?_ | refine zV ?_ | (apply zI; refine zP aM ?_) | (apply zI; refine zP aG ?_) | refine Alt.fst ?_ | refine Or.inl ?_) <;> conv => whnf) | fail
 rw [show U5 n a + PS.C (PS.C (Zm.mk m (2 * (a.c (Int.toNat 3)).val))) * O6 n a = G9 n a from rfl]
 rw [show nO n a * rD n a = O0 n a from rfl]
 repeat' first | ((first | (apply zI; refine zP (mF hm _ _ n aD (Zm.mk m (3 * (a.c (Int.toNat 4)).val)) (oA hm (by omega)) _) ?_) | (apply zI; refine zP (pY hm _ _ _ _ n aD _ _) ?_) | refine zS ?_ | refine zV ?_ | (apply zI; refine zP aM ?_) | (apply zI; refine zP aG ?_) | refine Alt.fst ?_ | refine Or.inl ?_) <;> conv => whnf) | fail
 rw [show G9 n a + PS.C (PS.C (Zm.mk m (3 * (a.c (Int.toNat 4)).val))) * O0 n a = yD n a from rfl]
 repeat' first | ((first | (apply zI; refine zP (mF hm _ _ n aD (a.c 1) rfl _) ?_) | (apply zI; refine zP (mF hm _ _ n aD (a.c 3) rfl _) ?_) | (apply zI; refine zP (pY hm _ _ _ _ n aD _ _) ?_) | (apply zI; refine zP (qF hm _ _ _ _ n aD _ _) ?_) | refine zS ?_ | refine zV ?_ | (apply zI; refine zP aM ?_) | (apply zI; refine zP aG ?_) | refine Alt.fst ?_ | refine Or.inl ?_) <;> conv => whnf) | fail
 rw [show PS.C (PS.C (a.c 1)) * iL n a + PS.C (PS.C (a.c 3)) * nO n a = N8 n a from rfl]
 rw [show nO n a * iL n a = K8 n a from rfl]
 repeat' first | ((first | (apply zI; refine zP (mF hm _ _ n aD (a.c 4) rfl _) ?_) | (apply zI; refine zP (pY hm _ _ _ _ n aD _ _) ?_) | refine zV ?_ | (apply zI; refine zP aM ?_) | (apply zI; refine zP aG ?_) | refine Or.inl ?_) <;> conv => whnf) | fail
 rw [show N8 n a + PS.C (PS.C (a.c 4)) * K8 n a = uR n a from rfl]
 exact h0.out
end Go.Proofs
