/- Parts of the proof. -/
import Derived.Test.YtghcpginhamelaaGreatK128
import Derived.Test.YtghcpginhamelaaGreatK154
import Derived.Test.YtghcpginhamelaaGreatVm32
import Derived.Test.YtghcpginhamelaaGreatAlg8
import Derived.Test.YtghcpginhamelaaGreatK112
namespace Go.Proofs
open Go Go.Vm Go.Fg Go.Fg.PS
set_option maxRecDepth 100000
set_option maxHeartbeats 4000000
set_option linter.unusedSimpArgs false
set_option linter.unusedVariables false
variable {m : Int}
def wV (z : Nat → Zm m) (w : PS (Zm m)) (k : Nat) : Int := (z 0).val * (w.c (k - 1)).val + (z 1).val * (w.c (k - 2)).val + (z 2).val * ((w * w).c k).val + (z 3).val * ((w * w).c (k - 1)).val + (z 4).val * ((w * w * w).c k).val + (if k = 3 then 1 else 0)
def wS (z : Nat → Zm m) : Nat → PS (Zm m)
 | 0 => 0
 | t + 1 => (wS z t).upd (t + 3) (Zm.mk m (wV z (wS z t) (t + 3)))
theorem Afl (hm : Md m) {z : Nat → Zm m} {n t : Nat} {X : Int} (h : 0 ≤ X) (e : X = wV z (wS z t) (t + 3)) : (L n (wS z t)).set (t + 3) (X.tmod m) = L n (wS z (t + 1)) :=
 dX _ (by rw [nN hm h, e]) (fun k hk => rfl)
theorem Aul (hm : Md m) (o : Bool) (n : Nat) (hn : 3 ≤ n ∧ n ≤ 12) {d : Int} (hd : d + 1 = n) (a : PS (Zm m)) : aI Tryz.prog 120 [aA m, aA d, LD o 5 a] (LD true n (wS a.c (n - 3))) := by
 have hm1 := hm.1
 have hm2 := hm.2
 refine aU Tryz.tabOk aF Tryz.func120 rfl rfl ?_
 conv => whnf
 repeat' first | ((first | refine z0 ?_ | (refine zP (fun h => ?_) (fun h => ?_) <;> (try simp only [aB, aE] at h)) | refine zS ?_ | refine zV ?_ | (apply zI; refine zP aM ?_) | (apply zI; refine zP aG ?_) | refine zA ?_ | refine Alt.fst ?_ | refine Or.inl ?_) <;> conv => whnf) | fail
 refine aZ Tryz.tabOk aF (α := Nat) (fun t => [(8, aA ((t : Int) + 3)), (7, .ref 0 [] 1 0 n), (14, .undef), (9, .undef), (10, .undef)]) (fun t => [(0, some ⟨false, 1, ints (L n (wS a.c t))⟩)]) (fun t => t + 3 ≤ n) (fun t => n - t) (0) ?_ ?_ ?_
 · omega
 · conv => whnf
   first | refine aH.autoR ?_ | refine aC.autoR ?_
   conv => whnf
   repeat' ((first | refine z1 ?_ | refine zV ?_ | refine zP ?_ ?_ | exact trivial) <;> try (conv => whnf))
   all_goals first
     | omega
     | exact cJ (by rw [show (d + 1).toNat = n by omega, ← fU (m := m)]; rfl)
 intro t ht
 conv => whnf
 by_cases htn : t + 3 < n
 · have hx0 := hm.mul (a.c 0) ((wS a.c t).c (t + 2))
   have hx1 := hm.mul (a.c 1) ((wS a.c t).c (t + 1))
   have hx2 := hm.mul (a.c (Int.toNat 2)) ((wS a.c t * wS a.c t).c (t + 3))
   have hx3 := hm.mul (a.c (Int.toNat 3)) ((wS a.c t * wS a.c t).c (t + 2))
   have hx4 := hm.mul (a.c (Int.toNat 4)) ((wS a.c t * wS a.c t * wS a.c t).c (t + 3))
   repeat' first | ((first | (apply zI; refine zP (wH hm _ _ (t + 4) n n (by omega) (by omega) (by omega) (by omega) (by omega) (by omega) (wS a.c t) (wS a.c t)) ?_) | (apply zI; refine zP (wH hm _ _ (t + 4) (t + 4) n (by omega) (by omega) (by omega) (by omega) (by omega) (by omega) (wS a.c t * wS a.c t) (wS a.c t)) ?_) | (refine zP (fun h => ?_) (fun h => ?_) <;> (try simp only [aB, aE] at h) <;> first | (exfalso; omega) | skip) | refine zS ?_ | refine zV ?_ | (apply zI; refine zP aG ?_) | refine Or.inl ?_) <;> conv => whnf) | fail
   have e1 : ((t : Int) + 3 - 1).toNat = t + 2 := by omega
   have e2 : ((t : Int) + 3 - 2).toNat = t + 1 := by omega
   have e3 : ((t : Int) + 3).toNat = t + 3 := by omega
   rw [e1, e2]
   repeat' first | ((first | (refine zP (fun h => ?_) (fun h => ?_) <;> (try simp only [aB, aE] at h) <;> first | (exfalso; omega) | skip) | refine zS ?_ | refine zV ?_ | (apply zI; refine zP aM ?_) | (apply zI; refine zP aG ?_)) <;> conv => whnf) | fail
   rw [e3]
   repeat' first | ((first | (refine zP (fun h => ?_) (fun h => ?_) <;> (try simp only [aB, aE] at h) <;> first | (exfalso; omega) | skip) | refine zS ?_ | refine zV ?_ | (apply zI; refine zP aM ?_) | (apply zI; refine zP aG ?_)) <;> conv => whnf) | fail
   rw [e1]
   repeat' first | ((first | (refine zP (fun h => ?_) (fun h => ?_) <;> (try simp only [aB, aE] at h) <;> first | (exfalso; omega) | skip) | refine zS ?_ | refine zV ?_ | (apply zI; refine zP aM ?_) | (apply zI; refine zP aG ?_)) <;> conv => whnf) | fail
   rw [e3]
   repeat' first | ((first | (refine zP (fun h => ?_) (fun h => ?_) <;> (try simp only [aB, aE] at h) <;> first | (exfalso; omega) | skip) | refine zS ?_ | refine zV ?_ | (apply zI; refine zP aM ?_) | (apply zI; refine zP aG ?_)) <;> conv => whnf) | fail
   · refine Exists.intro (t + 1) (zP aD (zP aD ?_))
     first | refine aH.autoR ?_ | refine aC.autoR ?_
     conv => whnf
     repeat' ((first | refine z1 ?_ | refine zV ?_ | refine zP ?_ ?_ | exact trivial) <;> try (conv => whnf))
     all_goals first
       | omega
       | exact cJ (Afl hm (by omega) (by unfold wV; rw [if_pos (by omega)]; rfl))
   · refine Exists.intro (t + 1) (zP aD (zP aD ?_))
     first | refine aH.autoR ?_ | refine aC.autoR ?_
     conv => whnf
     repeat' ((first | refine z1 ?_ | refine zV ?_ | refine zP ?_ ?_ | exact trivial) <;> try (conv => whnf))
     all_goals first
       | omega
       | exact cJ (Afl hm (by omega) (by unfold wV; rw [if_neg (by omega), Int.add_zero]; rfl))
 · repeat' first | ((first | refine z0 ?_ | (refine zP (fun h => ?_) (fun h => ?_) <;> (try simp only [aB, aE] at h) <;> first | (exfalso; omega) | skip) | refine zS ?_ | refine zV ?_ | (apply zI; refine zP aM ?_) | (apply zI; refine zP aG ?_)) <;> conv => whnf) | fail
   have htn2 : t = n - 3 := by omega
   rw [htn2]
open Classical in
noncomputable def nA (p : Prop) : Bool := decide p
theorem E6 {p : Prop} (h : p) : nA p = true := by simp [nA, h]
theorem oO {p : Prop} (h : ¬ p) : nA p = false := by simp [nA, h]
def kX (i : Nat) : Zm m := if i = 1 then 1 else 0
def mY (f : PS (PS (Zm m))) (n : Nat) : Prop :=
 (∀ i, i < n → (f.c i).c 0 = kX i) ∧ (∀ i j, i + j < n → (f.c i).c j = (f.c j).c i) ∧ ∀ a b c, a + b + c < n → kA f n a b c = kE f n a b c
theorem Aj6 (hm : Md m) (o p : Bool) (n : Nat) (hn : 2 ≤ n ∧ n ≤ 11) (f : PS (PS (Zm m))) (hp : eH m (Tb n f) = true) : aI Tryz.prog 13 [dO m o p n f] (bH (nA (mY f n))) := by
 have hm1 := hm.1
 have hm2 := hm.2
 have hli := S9 o p m (Tb n f) (by simp; omega) (tV (by omega) f)
 rw [hp] at hli
 refine aU Tryz.tabOk aF Tryz.func13 rfl rfl ?_
 conv => whnf
 repeat' first | ((first | refine z0 ?_ | (apply zI; refine zP (hli) ?_) | refine Or.inr (iJ Tryz.tabOk aF _ Tryz.func101 rfl rfl ?_) | (refine zP (fun h => ?_) (fun h => ?_) <;> (try simp only [aB, aE] at h)) | refine Or.inl ?_) <;> conv => whnf) | fail
 · refine aZ Tryz.tabOk aF (α := Nat) (fun i => [(16, aA i)]) (fun i => []) (fun i => i ≤ n ∧ ∀ k, k < i → (f.c k).c 0 = kX k) (fun i => n - i) (0) ?_ ?_ ?_
   · exact ⟨by omega, by omega⟩
   · conv => whnf
     first | refine aH.autoR ?_ | refine aC.autoR ?_
     conv => whnf
     repeat' ((first | refine z1 ?_ | refine zV ?_ | refine zP ?_ ?_ | exact trivial) <;> try (conv => whnf))
   intro i ⟨hi, hz⟩
   conv => whnf
   repeat' first | ((first | refine z0 ?_ | (refine zP (fun h => ?_) (fun h => ?_) <;> (try simp only [aB, aE] at h)) | refine zS ?_ | refine zV ?_ | (apply zI; refine zP aM ?_) | (apply zI; refine zP aG ?_) | refine zA ?_ | refine Alt.fst ?_ | refine Or.inl ?_) <;> conv => whnf) | fail
   · have hi' : i < n := by simp only [aQ, aV] at *; omega
     exact cD (oO (fun hc => h (by rw [hc.1 i hi', kX, if_pos (by omega)]; exact Zm.val_one (by omega)))).symm
   · have hi' : i < n := by simp only [aQ, aV] at *; omega
     have he := Classical.not_not.1 h
     refine Exists.intro (i + 1) (zP ⟨by omega, oR hz (Zm.val_inj (by rw [he, kX, if_pos (by omega)]; exact (Zm.val_one (by omega)).symm))⟩ (zP (by omega) ?_))
     first | refine aH.autoR ?_ | refine aC.autoR ?_
     conv => whnf
     repeat' ((first | refine z1 ?_ | refine zV ?_ | refine zP ?_ ?_ | exact trivial) <;> try (conv => whnf))
   · have hi' : i < n := by simp only [aQ, aV] at *; omega
     exact cD (oO (fun hc => h (by rw [hc.1 i hi', kX, if_neg (by omega)]; exact Zm.val_eq_zero.2 rfl))).symm
   · have hi' : i < n := by simp only [aQ, aV] at *; omega
     have he := Zm.val_eq_zero.1 (Classical.not_not.1 h)
     refine Exists.intro (i + 1) (zP ⟨by omega, oR hz (by rw [he, kX, if_neg (by omega)])⟩ (zP (by omega) ?_))
     first | refine aH.autoR ?_ | refine aC.autoR ?_
     conv => whnf
     repeat' ((first | refine z1 ?_ | refine zV ?_ | refine zP ?_ ?_ | exact trivial) <;> try (conv => whnf))
   · have hin : i = n := by simp only [aQ, aV] at *; omega
     subst hin
     refine aZ Tryz.tabOk aF (α := Nat) (fun x => [(36, aA x), (6, .undef)]) (fun x => []) (fun x => x ≤ i ∧ ∀ a b, a < x → a < b → a + b < i → (f.c a).c b = (f.c b).c a) (fun x => i - x) (0) ?_ ?_ ?_
     · exact ⟨by omega, by omega⟩
     · conv => whnf
       first | refine aH.autoR ?_ | refine aC.autoR ?_
       conv => whnf
       repeat' ((first | refine z1 ?_ | refine zV ?_ | refine zP ?_ ?_ | exact trivial) <;> try (conv => whnf))
     intro x ⟨hx, hsy⟩
     conv => whnf
     repeat' first | ((first | refine z0 ?_ | refine Or.inr (iJ Tryz.tabOk aF _ Tryz.func219 rfl rfl ?_) | (apply zI; refine zP (Alm hm _ _ i aD _) ?_) | (apply zI; refine zP (nW _ _ _ aD _) ?_) | (refine zP (fun h => ?_) (fun h => ?_) <;> (try simp only [aB, aE] at h)) | refine zS ?_ | refine zV ?_ | (apply zI; refine zP aG ?_) | refine Alt.fst ?_ | refine Or.inl ?_) <;> conv => whnf) | fail
     · refine aZ Tryz.tabOk aF (α := Nat) (fun y => [(7, aA ((x : Int) + 1 + y))]) (fun y => []) (fun y => y ≤ i ∧ ∀ b, x < b → b < x + 1 + y → x + b < i → (f.c x).c b = (f.c b).c x) (fun y => i - y) (0) ?_ ?_ ?_
       · exact ⟨by omega, by omega⟩
       · conv => whnf
         first | refine aH.autoR ?_ | refine aC.autoR ?_
         conv => whnf
         repeat' ((first | refine z1 ?_ | refine zV ?_ | refine zP ?_ ?_ | exact trivial) <;> try (conv => whnf))
       intro y ⟨hy, hsx⟩
       conv => whnf
       have e1 : ((x : Int) + 1 + y).toNat = x + 1 + y := by omega
       repeat' first | ((first | refine z0 ?_ | (refine zP (fun h => ?_) (fun h => ?_) <;> (try simp only [aB, aE] at h)) | refine zS ?_ | refine zV ?_ | (apply zI; refine zP aM ?_) | (apply zI; refine zP aG ?_) | refine zA ?_ | refine Alt.fst ?_ | refine Or.inl ?_) <;> conv => whnf) | fail
       · have hy' : x + 1 + y < i - x := by simp only [aT] at *; omega
         rw [e1] at h
         exact cD (oO (fun hc => h (by rw [hc.2.1 x (x + 1 + y) (by omega)]))).symm
       · have hy' : x + 1 + y < i - x := by simp only [aT] at *; omega
         rw [e1] at h
         refine Exists.intro (y + 1) (zP ⟨by omega, fun b h1 h2 h3 => ?_⟩ (zP (by omega) ?_))
         · rcases Nat.lt_or_ge b (x + 1 + y) with h' | h'
           · exact hsx b h1 h' h3
           · rw [show b = x + 1 + y by omega]; exact Zm.val_inj (Classical.not_not.1 h)
         first | refine aH.autoR ?_ | refine aC.autoR ?_
         conv => whnf
         repeat' ((first | refine z1 ?_ | refine zV ?_ | refine zP ?_ ?_ | exact trivial) <;> try (conv => whnf))
       · have hy' : ¬ x + 1 + y < i - x := by simp only [aT] at *; omega
         have hx' : x < i := by simp only [aQ, aV] at *; omega
         refine Exists.intro (x + 1) (zP ⟨by omega, fun a b h1 h2 h3 => ?_⟩ (zP (by omega) ?_))
         · rcases Nat.lt_or_ge a x with h' | h'
           · exact hsy a b h' h2 h3
           · have ea : a = x := by omega
             subst ea
             exact hsx b h2 (by omega) h3
         first | refine aH.autoR ?_ | refine aC.autoR ?_
         conv => whnf
         repeat' ((first | refine z1 ?_ | refine zV ?_ | refine zP ?_ ?_ | exact trivial) <;> try (conv => whnf))
     · have hxi : x = i := by simp only [aQ, aV] at *; omega
       have hsym : ∀ a b, a + b < i → (f.c a).c b = (f.c b).c a := fun a b hab => by
         rcases Nat.lt_trichotomy a b with h' | h' | h'
         · exact hsy a b (by omega) h' hab
         · rw [h']
         · exact (hsy b a (by omega) h' (by omega)).symm
       clear hsy
       refine aZ Tryz.tabOk aF (α := Nat) (fun a => [(10, aA a)]) (fun a => []) (fun a => a ≤ i ∧ ∀ a' b' c', a' < a → a' + b' + c' < i → kA f i a' b' c' = kE f i a' b' c') (fun a => i - a) (0) ?_ ?_ ?_
       · exact ⟨by omega, by omega⟩
       · conv => whnf
         first | refine aH.autoR ?_ | refine aC.autoR ?_
         conv => whnf
         repeat' ((first | refine z1 ?_ | refine zV ?_ | refine zP ?_ ?_ | exact trivial) <;> try (conv => whnf))
       intro a ⟨ha, hal⟩
       conv => whnf
       repeat' first | ((first | refine z0 ?_ | (refine zP (fun h => ?_) (fun h => ?_) <;> (try simp only [aB, aE] at h)) | refine zS ?_ | refine zV ?_ | (apply zI; refine zP aM ?_) | (apply zI; refine zP aG ?_) | refine zA ?_ | refine Alt.fst ?_ | refine Or.inl ?_) <;> conv => whnf) | fail
       · refine aZ Tryz.tabOk aF (α := Nat) (fun b => [(11, aA b)]) (fun b => []) (fun b => a + b ≤ i ∧ ∀ b' c', b' < b → a + b' + c' < i → kA f i a b' c' = kE f i a b' c') (fun b => i - b) (0) ?_ ?_ ?_
         · exact ⟨by omega, by omega⟩
         · conv => whnf
           first | refine aH.autoR ?_ | refine aC.autoR ?_
           conv => whnf
           repeat' ((first | refine z1 ?_ | refine zV ?_ | refine zP ?_ ?_ | exact trivial) <;> try (conv => whnf))
         intro b ⟨hb, hbl⟩
         conv => whnf
         repeat' first | ((first | refine z0 ?_ | (refine zP (fun h => ?_) (fun h => ?_) <;> (try simp only [aB, aE] at h)) | refine zS ?_ | refine zV ?_ | (apply zI; refine zP aM ?_) | (apply zI; refine zP aG ?_) | refine zA ?_ | refine Alt.fst ?_ | refine Or.inl ?_) <;> conv => whnf) | fail
         · refine aZ Tryz.tabOk aF (α := Nat) (fun c => [(12, aA c)]) (fun c => []) (fun c => a + b + c ≤ i ∧ ∀ c', c' < c → a + b + c' < i → kA f i a b c' = kE f i a b c') (fun c => i - c) (0) ?_ ?_ ?_
           · exact ⟨by omega, by omega⟩
           · conv => whnf
             first | refine aH.autoR ?_ | refine aC.autoR ?_
             conv => whnf
             repeat' ((first | refine z1 ?_ | refine zV ?_ | refine zP ?_ ?_ | exact trivial) <;> try (conv => whnf))
           intro c ⟨hc, hcl⟩
           conv => whnf
           repeat' first | ((first | refine z0 ?_ | (apply zI; refine zP (Asq hm _ _ _ i aD f a b c aD) ?_) | (apply zI; refine zP (Aly _ _ _) ?_) | (refine zP (fun h => ?_) (fun h => ?_) <;> (try simp only [aB, aE] at h)) | refine zV ?_ | (apply zI; refine zP aG ?_) | refine zP (Akg _ _ _) ?_ | refine Or.inl ?_) <;> conv => whnf) | fail
           · exact cD (oO (fun hc => h (by rw [hc.2.2 a b c (by omega), Go.Fg.sub_self]; exact Zm.val_eq_zero.2 rfl))).symm
           · have he := Go.Fg.sub_eq_zero.1 (Zm.val_eq_zero.1 (Classical.not_not.1 h))
             refine Exists.intro (c + 1) (zP ⟨by omega, fun c' h1 h2 => ?_⟩ (zP (by omega) ?_))
             · rcases Nat.lt_or_ge c' c with h' | h'
               · exact hcl c' h' h2
               · rw [show c' = c by omega]; exact he
             first | refine aH.autoR ?_ | refine aC.autoR ?_
             conv => whnf
             repeat' ((first | refine z1 ?_ | refine zV ?_ | refine zP ?_ ?_ | exact trivial) <;> try (conv => whnf))
           · refine Exists.intro (b + 1) (zP ⟨by omega, fun b' c' h1 h2 => ?_⟩ (zP (by omega) ?_))
             · rcases Nat.lt_or_ge b' b with h' | h'
               · exact hbl b' c' h' h2
               · have eb : b' = b := by omega
                 subst eb
                 exact hcl c' (by omega) h2
             first | refine aH.autoR ?_ | refine aC.autoR ?_
             conv => whnf
             repeat' ((first | refine z1 ?_ | refine zV ?_ | refine zP ?_ ?_ | exact trivial) <;> try (conv => whnf))
         · refine Exists.intro (a + 1) (zP ⟨by omega, fun a' b' c' h1 h2 => ?_⟩ (zP (by omega) ?_))
           · rcases Nat.lt_or_ge a' a with h' | h'
             · exact hal a' b' c' h' h2
             · have ea : a' = a := by omega
               subst ea
               exact hbl b' c' (by omega) h2
           first | refine aH.autoR ?_ | refine aC.autoR ?_
           conv => whnf
           repeat' ((first | refine z1 ?_ | refine zV ?_ | refine zP ?_ ?_ | exact trivial) <;> try (conv => whnf))
       · exact cD (E6 ⟨fun k hk => hz k hk, hsym, fun a' b' c' h' => hal a' b' c' (by omega) h'⟩).symm
 · exact absurd (by assumption) (show ¬ true = false by simp)
def gI (n : Nat) (g : Nat → PS (PS (Zm m))) (k : Nat) : List D := (List.range k).map fun c => .list true 1 (rows true (Tb n (g c)))
@[simp] theorem Aod (n : Nat) (g : Nat → PS (PS (Zm m))) (k : Nat) : (gI n g k).length = k := by simp [gI]
theorem Aik (cs : List D) : ∀ d ∈ [D.list true 1 cs], d.one = true := fun d hd => by
 simp only [List.mem_cons, List.not_mem_nil, or_false] at hd
 subst hd; rfl
theorem Arb {n q k : Nat} {g : Nat → PS (PS (Zm m))} (e : q = k) : q = (gI n g k).length := by rw [Aod]; exact e
theorem Abv {n k : Nat} {g : Nat → PS (PS (Zm m))} {t : List D} (h : t = rows true (Tb n (g k))) : gI n g k ++ [.list true 1 t] = gI n g (k + 1) := by
 subst h; simp [gI, List.range_succ]
theorem O4 {n k i : Nat} {g : Nat → PS (PS (Zm m))} (h : i < k) : (gI n g k)[i]? = some (.list true 1 (rows true (Tb n (g i)))) := by
 simp [gI, h]
theorem As7 {n k q : Nat} {g : Nat → PS (PS (Zm m))} (c : Nat) (e : q = c) (h : c < k) : bE (gI n g k) ([] ++ [q]) = some (rows true (Tb n (g c))) := by
 subst e
 show (match (gI n g k)[q]? with | some (.list true _ cs') => bE cs' [] | _ => none) = _
 rw [O4 h]; rfl
theorem Aeq {n k q : Nat} {g : Nat → PS (PS (Zm m))} (c : Nat) (e : q = c) (h : c < k) : eW (gI n g k) [] q (.list true 1 (rows true (Tb n (g c)))) := by
 subst e; exact ⟨_, rfl, O4 h⟩
theorem Af9 {n k q r : Nat} {g : Nat → PS (PS (Zm m))} (c a : Nat) (e : q = c) (e2 : r = a) (h : c < k) (h2 : a < n) : eW (gI n g k) ([] ++ [q]) r (.list true 1 (ints (L (n - a) ((g c).c a)))) := by
 subst e; subst e2
 refine ⟨_, As7 q rfl h, ?_⟩
 have := lT (o := true) (t := Tb n (g q)) (i := r) (by simpa using h2)
 rw [this, gA _ h2]
theorem Ae0 {n k q r s : Nat} {g : Nat → PS (PS (Zm m))} (c a b : Nat) (e : q = c) (e2 : r = a) (e3 : s = b) (h : c < k) (h2 : a + b < n) : eW (gI n g k) ([] ++ [q] ++ [r]) s (aA ((((g c).c a).c b)).val) := by
 subst e; subst e2; subst e3
 refine ⟨ints (L (n - r) ((g q).c r)), ?_, ?_⟩
 · show (match (gI n g k)[q]? with | some (.list true _ cs') => bE cs' [r] | _ => none) = _
   rw [O4 h]
   show (match (rows true (Tb n (g q)))[r]? with | some (.list true _ cs') => bE cs' [] | _ => none) = _
   rw [lT (o := true) (t := Tb n (g q)) (i := r) (by simp; omega), gA _ (by omega)]
   rfl
 · simp [ints, L, show s < n - r by omega]
def colS (f : PS (PS (Zm m))) (j : Nat) : PS (Zm m) := ⟨fun i => (f.c i).c j⟩
theorem Adq (a : PS (Zm m)) (f : PS (PS (Zm m))) (k p q : Nat) : ((comp2N a f 0 k).c p).c q = sm k fun i => a.c i * ((pw f i).c p).c q := by
 unfold comp2N
 rw [sm_c, sm_c]
 refine aR (fun i _ => ?_)
 rw [C_mul, C_mul, Nat.zero_add]
theorem Ahw (f : PS (PS (Zm m))) (n a b c : Nat) : ((comp2N (colS f c) f 0 (n - c)).c a).c b = kA f n a b c := Adq _ _ _ _ _
theorem Adx (f : PS (PS (Zm m))) (n a b c : Nat) : ((comp2N (f.c a) f 0 (n - a)).c b).c c = kE f n a b c := Adq _ _ _ _ _
theorem Aqr (o p : Bool) (n : Nat) (hn : 1 ≤ n ∧ n ≤ 100) (f : PS (PS (Zm m))) (j : Nat) (hj : j ≤ n) : aI Tryz.prog 305 [dK o p n f, aA j] (LD true (n - j) (colS f j)) := by
 refine aU Tryz.tabOk aF Tryz.func305 rfl rfl ?_
 conv => whnf
 repeat' first | ((first | refine z0 ?_ | (refine zP (fun h => ?_) (fun h => ?_) <;> (try simp only [aB, aE] at h)) | refine zS ?_ | refine zV ?_ | (apply zI; refine zP aM ?_) | (apply zI; refine zP aG ?_) | refine zA ?_ | refine Alt.fst ?_ | refine Or.inl ?_) <;> conv => whnf) | fail
 refine aZ Tryz.tabOk aF (α := Nat) (fun i => [(6, aA i), (5, .ref 0 [] 1 0 i), (7, .undef)]) (fun i => [(0, some ⟨false, 1, ints (L i (colS f j))⟩)]) (fun i => i + j ≤ n) (fun i => n - i) (0) ?_ ?_ ?_
 · omega
 · conv => whnf
   first | refine aH.autoR ?_ | refine aC.autoR ?_
   conv => whnf
   repeat' ((first | refine z1 ?_ | refine zP ?_ ?_ | exact trivial) <;> try (conv => whnf))
 intro i hi
 conv => whnf
 repeat' first | ((first | refine z0 ?_ | (refine zP (fun h => ?_) (fun h => ?_) <;> (try simp only [aB, aE] at h)) | refine zS ?_ | refine zV ?_ | (apply zI; refine zP aM ?_) | (apply zI; refine zP aG ?_) | refine zA ?_ | refine Alt.fst ?_ | refine Or.inl ?_) <;> conv => whnf) | fail
 · refine Exists.intro (i + 1) (zP aD (zP aD ?_))
   first | refine aH.autoR ?_ | refine aC.autoR ?_
   conv => whnf
   repeat' ((first | refine z1 ?_ | refine zP ?_ ?_ | exact trivial) <;> try (conv => whnf))
   exact tU (oJ rfl)
 · rw [show i = n - j by simp only [aQ, aV] at *; omega]
theorem Amt (hm : Md m) (o p : Bool) (n : Nat) (hn : 2 ≤ n ∧ n ≤ 11) (f : PS (PS (Zm m))) (hp : eH m (Tb n f) = true) : aI Tryz.prog 148 [dO m o p n f] (bH (nA (mY f n))) := by
 have hm1 := hm.1
 have hm2 := hm.2
 have hli := Aev o p m (Tb n f) (by simp; omega) (tV (by omega) f)
 rw [hp] at hli
 refine aU Tryz.tabOk aF Tryz.func148 rfl rfl ?_
 conv => whnf
 repeat' first | ((first | refine z0 ?_ | (apply zI; refine zP (hli) ?_) | refine Or.inr (iJ Tryz.tabOk aF _ Tryz.func245 rfl rfl ?_) | (refine zP (fun h => ?_) (fun h => ?_) <;> (try simp only [aB, aE] at h)) | refine zS ?_ | refine Or.inl ?_) <;> conv => whnf) | fail
 · refine aZ Tryz.tabOk aF (α := Nat) (fun i => [(5, aA i)]) (fun i => []) (fun i => i ≤ n ∧ ∀ k, k < i → (f.c k).c 0 = kX k) (fun i => n - i) (0) ?_ ?_ ?_
   · exact ⟨by omega, by omega⟩
   · conv => whnf
     first | refine aH.autoR ?_ | refine aC.autoR ?_
     conv => whnf
     repeat' ((first | refine z1 ?_ | refine zP ?_ ?_ | exact trivial) <;> try (conv => whnf))
   intro i ⟨hi, hz⟩
   conv => whnf
   repeat' first | ((first | refine z0 ?_ | (refine zP (fun h => ?_) (fun h => ?_) <;> (try simp only [aB, aE] at h) <;> first | (exfalso; omega) | skip) | refine zS ?_ | refine zV ?_ | (apply zI; refine zP aM ?_) | (apply zI; refine zP aG ?_)) <;> conv => whnf) | fail
   · have hi' : i < n := by simp only [aQ, aV] at *; omega
     have h0 : ((f.c i).c 0).val ≠ 1 := by assumption
     exact cD (oO (fun hc => h0 (by rw [hc.1 i hi', kX, if_pos (by omega)]; exact Zm.val_one (by omega)))).symm
   · have hi' : i < n := by simp only [aQ, aV] at *; omega
     have he := Classical.not_not.1 h
     refine Exists.intro (i + 1) (zP ⟨by omega, oR hz (Zm.val_inj (by rw [he, kX, if_pos (by omega)]; exact (Zm.val_one (by omega)).symm))⟩ (zP (by omega) ?_))
     first | refine aH.autoR ?_ | refine aC.autoR ?_
     conv => whnf
     repeat' ((first | refine z1 ?_ | refine zP ?_ ?_ | exact trivial) <;> try (conv => whnf))
   · have hi' : i < n := by simp only [aQ, aV] at *; omega
     have h0 : ((f.c i).c 0).val ≠ 0 := by assumption
     exact cD (oO (fun hc => h0 (by rw [hc.1 i hi', kX, if_neg (by omega)]; exact Zm.val_eq_zero.2 rfl))).symm
   · have hi' : i < n := by simp only [aQ, aV] at *; omega
     have he := Zm.val_eq_zero.1 (Classical.not_not.1 h)
     refine Exists.intro (i + 1) (zP ⟨by omega, oR hz (by rw [he, kX, if_neg (by omega)])⟩ (zP (by omega) ?_))
     first | refine aH.autoR ?_ | refine aC.autoR ?_
     conv => whnf
     repeat' ((first | refine z1 ?_ | refine zP ?_ ?_ | exact trivial) <;> try (conv => whnf))
   · have hin : i = n := by simp only [aQ, aV] at *; omega
     subst hin
     refine aZ Tryz.tabOk aF (α := Nat) (fun x => [(7, aA x)]) (fun x => []) (fun x => x ≤ i ∧ ∀ a b, a < x → a < b → a + b < i → (f.c a).c b = (f.c b).c a) (fun x => i - x) (0) ?_ ?_ ?_
     · exact ⟨by omega, by omega⟩
     · conv => whnf
       first | refine aH.autoR ?_ | refine aC.autoR ?_
       conv => whnf
       repeat' ((first | refine z1 ?_ | refine zP ?_ ?_ | exact trivial) <;> try (conv => whnf))
     intro x ⟨hx, hsy⟩
     conv => whnf
     repeat' first | ((first | refine z0 ?_ | (refine zP (fun h => ?_) (fun h => ?_) <;> (try simp only [aB, aE] at h) <;> first | (exfalso; omega) | skip) | refine zS ?_ | refine zV ?_ | (apply zI; refine zP aM ?_) | (apply zI; refine zP aG ?_)) <;> conv => whnf) | fail
     · refine aZ Tryz.tabOk aF (α := Nat) (fun y => [(8, aA ((x : Int) + 1 + y))]) (fun y => []) (fun y => y ≤ i ∧ ∀ b, x < b → b < x + 1 + y → x + b < i → (f.c x).c b = (f.c b).c x) (fun y => i - y) (0) ?_ ?_ ?_
       · exact ⟨by omega, by omega⟩
       · conv => whnf
         first | refine aH.autoR ?_ | refine aC.autoR ?_
         conv => whnf
         repeat' ((first | refine z1 ?_ | refine zP ?_ ?_ | exact trivial) <;> try (conv => whnf))
       intro y ⟨hy, hsx⟩
       conv => whnf
       have e1 : ((x : Int) + 1 + y).toNat = x + 1 + y := by omega
       repeat' first | ((first | refine z0 ?_ | (refine zP (fun h => ?_) (fun h => ?_) <;> (try simp only [aB, aE] at h) <;> first | (exfalso; omega) | skip) | refine zS ?_ | refine zV ?_ | (apply zI; refine zP aM ?_) | (apply zI; refine zP aG ?_)) <;> conv => whnf) | fail
       · have hy' : x + 1 + y < i - x := by simp only [aQ, aV] at *; omega
         have h0 : ((f.c x).c ((x : Int) + 1 + y).toNat).val ≠ ((f.c ((x : Int) + 1 + y).toNat).c x).val := by assumption
         rw [e1] at h0
         exact cD (oO (fun hc => h0 (by rw [hc.2.1 x (x + 1 + y) (by omega)]))).symm
       · have hy' : x + 1 + y < i - x := by simp only [aQ, aV] at *; omega
         rw [e1] at h
         refine Exists.intro (y + 1) (zP ⟨by omega, fun b h1 h2 h3 => ?_⟩ (zP (by omega) ?_))
         · rcases Nat.lt_or_ge b (x + 1 + y) with h' | h'
           · exact hsx b h1 h' h3
           · rw [show b = x + 1 + y by omega]; exact Zm.val_inj (Classical.not_not.1 h)
         first | refine aH.autoR ?_ | refine aC.autoR ?_
         conv => whnf
         repeat' ((first | refine z1 ?_ | refine zP ?_ ?_ | exact trivial) <;> try (conv => whnf))
       · have hx' : x < i := by simp only [aQ, aV] at *; omega
         have hy' : ¬ x + 1 + y < i - x := by simp only [aQ, aV] at *; omega
         refine Exists.intro (x + 1) (zP ⟨by omega, fun a b h1 h2 h3 => ?_⟩ (zP (by omega) ?_))
         · rcases Nat.lt_or_ge a x with h' | h'
           · exact hsy a b h' h2 h3
           · have ea : a = x := by omega
             subst ea
             exact hsx b h2 (by omega) h3
         first | refine aH.autoR ?_ | refine aC.autoR ?_
         conv => whnf
         repeat' ((first | refine z1 ?_ | refine zP ?_ ?_ | exact trivial) <;> try (conv => whnf))
     · have hxi : x = i := by simp only [aQ, aV] at *; omega
       have hsym : ∀ a b, a + b < i → (f.c a).c b = (f.c b).c a := fun a b hab => by
         rcases Nat.lt_trichotomy a b with h' | h' | h'
         · exact hsy a b (by omega) h' hab
         · rw [h']
         · exact (hsy b a (by omega) h' (by omega)).symm
       clear hsy
       refine aZ Tryz.tabOk aF (α := Nat) (fun c => [(11, aA c), (9, .ref 3 [] 1 0 c), (10, .ref 4 [] 1 0 c), (69, .undef), (70, .undef)]) (fun c => [(3, some ⟨false, 1, gI i (fun c => comp2N (colS f c) f 0 (i - c)) c⟩), (4, some ⟨false, 1, gI i (fun a => comp2N (f.c a) f 0 (i - a)) c⟩)]) (fun c => c ≤ i) (fun c => i - c) (0) ?_ ?_ ?_
       · omega
       · conv => whnf
         first | refine aH.autoR ?_ | refine aC.autoR ?_
         conv => whnf
         repeat' ((first | refine z1 ?_ | refine zP ?_ ?_ | exact trivial) <;> try (conv => whnf))
       intro c hc
       conv => whnf
       repeat' first | ((first | (apply zI; refine zP (Aqr _ _ i aD f c aD) ?_) | (apply zI; refine zP (zN hm _ _ _ i aD (i - c) aD _ _) ?_) | (refine zP (fun h => ?_) (fun h => ?_) <;> (try simp only [aB, aE] at h) <;> first | (exfalso; omega) | skip) | refine zS ?_ | refine zV ?_ | (apply zI; refine zP aG ?_) | refine zP (Arb (by omega)) ?_ | refine zP (Aik _) ?_ | refine Alt.fst ?_ | refine Or.inl ?_) <;> conv => whnf) | fail
       · refine Exists.intro (c + 1) (zP aD (zP aD ?_))
         first | refine aH.autoR ?_ | refine aC.autoR ?_
         conv => whnf
         repeat' ((first | refine z1 ?_ | refine zP ?_ ?_ | exact trivial) <;> try (conv => whnf))
         · exact Abv rfl
         · exact Abv rfl
       · have hci : c = i := by simp only [aQ, aV] at *; omega
         subst hci
         refine aZ Tryz.tabOk aF (α := Nat) (fun a => [(12, aA a)]) (fun a => []) (fun a => a ≤ c ∧ ∀ a' b' c', a' < a → a' + b' + c' < c → kA f c a' b' c' = kE f c a' b' c') (fun a => c - a) (0) ?_ ?_ ?_
         · exact ⟨by omega, by omega⟩
         · conv => whnf
           first | refine aH.autoR ?_ | refine aC.autoR ?_
           conv => whnf
           repeat' ((first | refine z1 ?_ | refine zP ?_ ?_ | exact trivial) <;> try (conv => whnf))
         intro a ⟨ha, hal⟩
         conv => whnf
         repeat' first | ((first | refine z0 ?_ | (refine zP (fun h => ?_) (fun h => ?_) <;> (try simp only [aB, aE] at h) <;> first | (exfalso; omega) | skip) | refine zS ?_ | refine zV ?_ | (apply zI; refine zP aM ?_) | (apply zI; refine zP aG ?_)) <;> conv => whnf) | fail
         · refine aZ Tryz.tabOk aF (α := Nat) (fun b => [(13, aA b)]) (fun b => []) (fun b => a + b ≤ c ∧ ∀ b' c', b' < b → a + b' + c' < c → kA f c a b' c' = kE f c a b' c') (fun b => c - b) (0) ?_ ?_ ?_
           · exact ⟨by omega, by omega⟩
           · conv => whnf
             first | refine aH.autoR ?_ | refine aC.autoR ?_
             conv => whnf
             repeat' ((first | refine z1 ?_ | refine zP ?_ ?_ | exact trivial) <;> try (conv => whnf))
           intro b ⟨hb, hbl⟩
           conv => whnf
           repeat' first | ((first | refine z0 ?_ | (refine zP (fun h => ?_) (fun h => ?_) <;> (try simp only [aB, aE] at h) <;> first | (exfalso; omega) | skip) | refine zS ?_ | refine zV ?_ | (apply zI; refine zP aM ?_) | (apply zI; refine zP aG ?_)) <;> conv => whnf) | fail
           · refine aZ Tryz.tabOk aF (α := Nat) (fun d => [(14, aA d)]) (fun d => []) (fun d => a + b + d ≤ c ∧ ∀ c', c' < d → a + b + c' < c → kA f c a b c' = kE f c a b c') (fun d => c - d) (0) ?_ ?_ ?_
             · exact ⟨by omega, by omega⟩
             · conv => whnf
               first | refine aH.autoR ?_ | refine aC.autoR ?_
               conv => whnf
               repeat' ((first | refine z1 ?_ | refine zP ?_ ?_ | exact trivial) <;> try (conv => whnf))
             intro d ⟨hd, hdl⟩
             conv => whnf
             repeat' first | ((first | refine z0 ?_ | (apply zI; refine zP (Aeq d aY aD) ?_) | (apply zI; refine zP (Aeq a aY aD) ?_) | (apply zI; refine zP (Af9 d a aY aY aD aD) ?_) | (apply zI; refine zP (Af9 a b aY aY aD aD) ?_) | (apply zI; refine zP (Ae0 d a b aY aY aY aD aD) ?_) | (apply zI; refine zP (Ae0 a b d aY aY aY aD aD) ?_) | (refine zP (fun h => ?_) (fun h => ?_) <;> (try simp only [aB, aE] at h) <;> first | (exfalso; omega) | skip) | refine zS ?_ | refine zV ?_) <;> conv => whnf) | fail
             · have h0 : (((comp2N (colS f d) f 0 (c - d)).c a).c b).val ≠ (((comp2N (f.c a) f 0 (c - a)).c b).c d).val := by assumption
               exact cD (oO (fun hc => h0 (by rw [Ahw, Adx, hc.2.2 a b d (by omega)]))).symm
             · have he := Zm.val_inj (Classical.not_not.1 h)
               rw [Ahw, Adx] at he
               refine Exists.intro (d + 1) (zP ⟨by omega, fun c' h1 h2 => ?_⟩ (zP (by omega) ?_))
               · rcases Nat.lt_or_ge c' d with h' | h'
                 · exact hdl c' h' h2
                 · rw [show c' = d by omega]; exact he
               first | refine aH.autoR ?_ | refine aC.autoR ?_
               conv => whnf
               repeat' ((first | refine z1 ?_ | refine zP ?_ ?_ | exact trivial) <;> try (conv => whnf))
             · refine Exists.intro (b + 1) (zP ⟨by simp only [aQ, aV] at *; omega, fun b' c' h1 h2 => ?_⟩ (zP (by simp only [aQ, aV] at *; omega) ?_))
               · rcases Nat.lt_or_ge b' b with h' | h'
                 · exact hbl b' c' h' h2
                 · have eb : b' = b := by omega
                   subst eb
                   exact hdl c' (by simp only [aQ, aV] at *; omega) h2
               first | refine aH.autoR ?_ | refine aC.autoR ?_
               conv => whnf
               repeat' ((first | refine z1 ?_ | refine zP ?_ ?_ | exact trivial) <;> try (conv => whnf))
           · refine Exists.intro (a + 1) (zP ⟨by simp only [aQ, aV] at *; omega, fun a' b' c' h1 h2 => ?_⟩ (zP (by simp only [aQ, aV] at *; omega) ?_))
             · rcases Nat.lt_or_ge a' a with h' | h'
               · exact hal a' b' c' h' h2
               · have ea : a' = a := by omega
                 subst ea
                 exact hbl b' c' (by simp only [aQ, aV] at *; omega) h2
             first | refine aH.autoR ?_ | refine aC.autoR ?_
             conv => whnf
             repeat' ((first | refine z1 ?_ | refine zP ?_ ?_ | exact trivial) <;> try (conv => whnf))
         · exact cD (E6 ⟨fun k hk => hz k hk, hsym, fun a' b' c' h' => hal a' b' c' (by simp only [aQ, aV] at *; omega) h'⟩).symm
         · exact absurd trivial h
 · exact absurd (by assumption) (show ¬ true = false by simp)
end Go.Proofs
namespace Go.Proofs
open Go Go.Vm Go.Fg Go.Fg.PS
set_option maxRecDepth 100000
set_option maxHeartbeats 4000000
set_option linter.unusedSimpArgs false
set_option linter.unusedVariables false
noncomputable def dN (m : Int) (t : List (List Int)) : Bool := eH m t && nA (mY (cM m t) t.length)
theorem Afu {m : Int} {t : List (List Int)} (h : eH m t = false) : dN m t = false := by simp [dN, h]
theorem J0 {m : Int} {t : List (List Int)} (h : eH m t = true) : dN m t = nA (mY (cM m t) t.length) := by simp [dN, h]
theorem Ass (o p : Bool) (m : Int) (t : List (List Int)) (hl : t.length ≤ 1048576) (hr : kO t) : aI Tryz.prog 148 [.agg [aA m, .list o 1 (rows p t)]] (bH (dN m t)) := by
 cases hp : eH m t with
 | true =>
   obtain ⟨hm, h2, h3, _⟩ := tK hp
   have key := Amt hm o p t.length ⟨h2, h3⟩ (cM m t) (by rw [pY hp]; exact hp)
   simp only [dO, pY hp] at key
   rw [J0 hp]
   exact key
 | false =>
   have hli := Aev o p m t hl hr
   rw [hp] at hli
   rw [Afu hp]
   refine aU Tryz.tabOk aF Tryz.func148 rfl rfl ?_
   conv => whnf
   repeat' first | ((first | refine z0 ?_ | (apply zI; refine zP (hli) ?_) | (refine zP (fun h => ?_) (fun h => ?_) <;> (try simp only [aB, aE] at h)) | refine Or.inl ?_) <;> conv => whnf) | fail
   all_goals (exfalso; simp_all)
theorem J5 (o p : Bool) (m : Int) (t : List (List Int)) (hl : t.length ≤ 1048576) (hr : kO t) : aI Tryz.prog 13 [.agg [aA m, .list o 1 (rows p t)]] (bH (dN m t)) := by
 cases hp : eH m t with
 | true =>
   obtain ⟨hm, h2, h3, _⟩ := tK hp
   have key := Aj6 hm o p t.length ⟨h2, h3⟩ (cM m t) (by rw [pY hp]; exact hp)
   simp only [dO, pY hp] at key
   rw [J0 hp]
   exact key
 | false =>
   have hli := S9 o p m t hl hr
   rw [hp] at hli
   rw [Afu hp]
   refine aU Tryz.tabOk aF Tryz.func13 rfl rfl ?_
   conv => whnf
   repeat' first | ((first | refine z0 ?_ | (apply zI; refine zP (hli) ?_) | (refine zP (fun h => ?_) (fun h => ?_) <;> (try simp only [aB, aE] at h)) | refine Or.inl ?_) <;> conv => whnf) | fail
   all_goals (exfalso; simp_all)
end Go.Proofs
namespace Go.Proofs
open Go Go.Vm Go.Fg Go.Fg.PS
set_option maxRecDepth 100000
set_option maxHeartbeats 4000000
set_option linter.unusedSimpArgs false
set_option linter.unusedVariables false
variable {m : Int}
def eqK (f g : PS (PS (Zm m))) (k : Nat) : Prop := ∀ i, i ≤ k → (f.c i).c (k - i) = (g.c i).c (k - i)
open Classical in
noncomputable def H2 (f g : PS (PS (Zm m))) : Nat → Nat
 | 0 => 0
 | k + 1 => if H2 f g k = k ∧ eqK f g k then k + 1 else H2 f g k
def fdL (f g : PS (PS (Zm m))) (k i : Nat) : List Int := (List.range i).map fun i => ((g.c i).c (k - i) + -(f.c i).c (k - i)).val
@[simp] theorem Ax7 (f g : PS (PS (Zm m))) (k i : Nat) : (fdL f g k i).length = i := by simp [fdL]
theorem least {p : Nat → Prop} {b : Nat} : ∀ {k : Nat}, p k → k < b → ∃ j, j < b ∧ p j ∧ ∀ i, i < j → ¬ p i := by
 intro k
 induction k using Nat.strongRecOn with
 | ind k ih =>
   intro hp hk
   rcases Classical.em (∃ i, i < k ∧ p i) with ⟨i, hi, hpi⟩ | h
   · exact ih i hi hpi (by omega)
   · exact ⟨k, hk, hp, fun i hi hpi => h ⟨i, hi, hpi⟩⟩
@[simp] theorem Ax8 (n : Nat) : (Ahs n).length = n + 1 := by simp [Ahs]
open Classical in
noncomputable def twC (m : Int) (t : List (List Int)) (m' : Int) (t' : List (List Int)) : Int := if dN m t = true ∧ dN m' t' = true then (if m = m' ∧ t.length = t'.length then 0 else 2) else 1
theorem F8 {m : Int} {t : List (List Int)} (h : dN m t = true) : (Md m ∧ (2 ≤ t.length ∧ t.length ≤ 11)) ∧ Tb t.length (cM m t) = t ∧ mY (cM m t) t.length := by
 unfold dN at h
 simp only [Bool.and_eq_true, nA, decide_eq_true_eq] at h
 obtain ⟨hm, h3, h4, _⟩ := tK h.1
 exact ⟨⟨hm, h3, h4⟩, pY h.1, h.2⟩
theorem jR {r : Nat} {cs : List D} {d d' : D} (h : Fz r cs d d') : ∀ i, Fz r cs ([d].getD i .undef) ([d'].getD i .undef)
 | 0 => h
 | i + 1 => .rfl _
theorem Apo (o : Bool) (t : List (List Int)) : (rows o t).map frz1 = rows false t := by
 simp [rows, Function.comp_def, frz1]
theorem Au1 {o : Bool} {t : List (List Int)} {off n : Nat} : sub (rows o t) 1 off n = rows o ((t.drop off).take n) := by
 unfold sub rows
 rw [Nat.mul_one, Nat.mul_one, ← List.map_drop, ← List.map_take]
theorem xP {r off n : Nat} {t t' : List (List Int)} (h1 : off + n ≤ t.length) (h2 : (t.drop off).take n = t') {x : D} : Fz r (rows true t) (.agg [x, .ref r [] 1 off n]) (.agg [x, .list false 1 (rows false t')]) :=
 .agg _ _ rfl (fun i d d' hd hd' => by
   match i, hd, hd' with
   | 0, hd, hd' => simp at hd hd'; subst hd; subst hd'; exact .rfl _
   | 1, hd, hd' =>
     simp at hd hd'; subst hd; subst hd'
     exact .ref _ _ _ _ (by rw [Nat.mul_one, Nat.mul_one, aQ]; exact h1) (by rw [Au1, Apo, h2])
   | i + 2, hd, hd' => simp at hd)
theorem As3 {r : Nat} {cs : List D} {x : D} : Fz r cs (.agg [x, .lit (.slice none 0 0)]) (.agg [x, .list false 1 (rows false [])]) :=
 .agg _ _ rfl (fun i d d' hd hd' => by
   match i, hd, hd' with
   | 0, hd, hd' => simp at hd hd'; subst hd; subst hd'; exact .rfl _
   | 1, hd, hd' => simp at hd hd'; subst hd; subst hd'; exact .nil _
   | i + 2, hd, hd' => simp at hd)
def kY (t : List (List Int)) : Prop := t.length ≤ 11 ∧ ∀ k, (t.getD k []).length ≤ 11
theorem Atg {t : List (List Int)} (h : kY t) : t.length ≤ 1048576 ∧ kO t := ⟨by have := h.1; omega, fun i _ => by have := h.2 i; omega⟩
theorem zK {n : Nat} (hn : n ≤ 11) (f : PS (PS (Zm m))) : kY (Tb n f) := by
 refine ⟨by simp; omega, fun k => ?_⟩
 by_cases h : k < n
 · rw [gA f h]; simp; omega
 · rw [List.getD_eq_getElem?_getD, List.getElem?_eq_none (by simp; omega)]; simp
theorem Ako {t : List (List Int)} (h : kY t) (i j : Nat) (x : Int) : kY (eG t i j x) := by
 unfold eG
 refine ⟨by rw [List.length_set]; exact h.1, fun k => ?_⟩
 by_cases e : i = k
 · subst e
   by_cases hl : i < t.length
   · rw [List.getD_eq_getElem?_getD, List.getElem?_set_self hl]; simp only [Option.getD_some, List.length_set]; exact h.2 i
   · rw [List.getD_eq_getElem?_getD, List.getElem?_eq_none (by rw [List.length_set]; omega)]; simp
 · rw [List.getD_eq_getElem?_getD, List.getElem?_set_ne e, ← List.getD_eq_getElem?_getD]; exact h.2 k
theorem wP (t : List (List Int)) (i j : Nat) (x : Int) : (eG t i j x).length = t.length := by unfold eG; rw [List.length_set]
theorem As2 {t : List (List Int)} (h : kY t) : kY (t.drop 1) := by
 refine ⟨by rw [List.length_drop]; have := h.1; omega, fun k => ?_⟩
 rw [List.getD_eq_getElem?_getD, List.getElem?_drop, ← List.getD_eq_getElem?_getD]; exact h.2 _
theorem Ak4 : kY [] := ⟨by simp, fun k => by simp⟩
abbrev Wei : Prop := ∀ (m : Int) (hm : Md m) (n : Nat) (hn : 2 ≤ n ∧ n ≤ 11) (d : Int) (hd : d + 1 = n) (o : Bool) (a : PS (Zm m)), ∃ F : PS (PS (Zm m)), aI Tryz.prog 117 [aA m, aA d, LD o 5 a] (dK true true n F)
theorem Aq5 (hW : Wei) (o : Bool) (l : List Nat) (hb : ∀ b ∈ l, b < 256) (hl : l.length ≤ 4611686018427387904) (a : Nat) (ha : a ≤ l.length) (hs : Int) :
   cN Tryz.prog 248 2 [.ptr 1 [] 0] [none, some (aN o l a hs)]
     (fun d rt => ∃ (m : Int) (n : Nat) (F : PS (PS (Zm m))) (a' : Nat) (h' : Int), Md m ∧ m ≤ 9973 ∧ (2 ≤ n ∧ n ≤ 11) ∧ a' ≤ l.length ∧ d = .agg [aA m, .ref 2 [] 1 0 n] ∧ rt = [none, some (aN o l a' h'), some ⟨false, 1, rows true (Tb n F)⟩]) := by
 refine dY Tryz.tabOk aF 2 _ Tryz.func248 rfl rfl ?_
 conv => whnf
 repeat' first | (refine bD [1] (Ajs o l hb hl a ha hs) (fun d rt' hd => ?_)) | fail
 obtain ⟨m, a1, h1, hm0, ha1, rfl, rfl⟩ := hd
 refine ⟨rfl, by simp, ?_⟩
 conv => whnf
 have hm : Md m := ⟨hm0.1, by omega⟩
 repeat' first | (refine bD [1] (cW o l hb hl a1 ha1 h1 10) (fun d rt' hd => ?_)) | fail
 obtain ⟨x, a2, h2, hx, ha2, rfl, rfl⟩ := hd
 refine ⟨rfl, by simp, ?_⟩
 conv => whnf
 have hx2 := hx.2 (by omega)
 repeat' first | (refine bD [1, 3] (jM o l hb hl a2 ha2 h2 [1, 2, 3, 4, 6, 9, x] (by simp)) (fun d rt' hd => ?_)) | fail
 obtain ⟨v, a3, h3, hv, ha3, rfl, rfl⟩ := hd
 refine ⟨rfl, by simp, ?_⟩
 conv => whnf
 have hv2 : 0 ≤ v ∧ v ≤ 9 := by
   simp only [List.mem_cons, List.not_mem_nil, or_false] at hv
   omega
 repeat' first | (refine bD [1] (Auw hm o l hb hl a3 ha3 h3 (v + 2).toNat (by omega) (d := 1 + v) (by omega) (fun o a => hW m hm (v + 2).toNat (by omega) (1 + v) (by omega) o a)) (fun d rt' hd => ?_)) | ((first | refine zV ?_) <;> conv => whnf) | fail
 obtain ⟨F, a4, h4, ha4, rfl, rfl⟩ := hd
 refine ⟨rfl, by simp, ?_⟩
 conv => whnf
 repeat' first | ((first | refine z0 ?_ | (refine zP (fun h => ?_) (fun h => ?_) <;> (try simp only [aB, aE] at h)) | refine zS ?_ | refine zV ?_ | (apply zI; refine zP aM ?_) | (apply zI; refine zP aG ?_) | refine zA ?_ | refine Alt.fst ?_ | refine Or.inl ?_) <;> conv => whnf) | fail
 first
   | (refine ⟨.agg [aA m, .ref 2 [] 1 0 (v + 2).toNat], [none, some (aN o l a4 h4), some ⟨false, 1, rows true (Tb (v + 2).toNat F)⟩], ⟨m, (v + 2).toNat, F, a4, h4, hm, by omega, by omega, ha4, rfl, rfl⟩, aC.of (kp := 2) [none, some 1, some 2] ?_⟩
      (conv => whnf)
      repeat' ((first | refine zP rfl ?_ | exact trivial) <;> try (conv => whnf))
      done)
   | (refine ⟨.agg [aA m, .ref 2 [] 1 0 (v + 2).toNat], [none, some (aN o l a4 h4), some ⟨false, 1, rows true (Tb (v + 2).toNat F)⟩], ⟨m, (v + 2).toNat, F, a4, h4, hm, by omega, by omega, ha4, rfl, rfl⟩, aC.of (kp := 2) [none, some 1, some 3] ?_⟩
      (conv => whnf)
      repeat' ((first | refine zP rfl ?_ | exact trivial) <;> try (conv => whnf))
      done)
   | (refine ⟨.agg [aA m, .ref 2 [] 1 0 (v + 2).toNat], [none, some (aN o l a4 h4), some ⟨false, 1, rows true (Tb (v + 2).toNat F)⟩], ⟨m, (v + 2).toNat, F, a4, h4, hm, by omega, by omega, ha4, rfl, rfl⟩, aC.of (kp := 2) [none, some 1, some 4] ?_⟩
      (conv => whnf)
      repeat' ((first | refine zP rfl ?_ | exact trivial) <;> try (conv => whnf))
      done)
   | (refine ⟨.agg [aA m, .ref 2 [] 1 0 (v + 2).toNat], [none, some (aN o l a4 h4), some ⟨false, 1, rows true (Tb (v + 2).toNat F)⟩], ⟨m, (v + 2).toNat, F, a4, h4, hm, by omega, by omega, ha4, rfl, rfl⟩, aC.of (kp := 2) [none, some 1, some 5] ?_⟩
      (conv => whnf)
      repeat' ((first | refine zP rfl ?_ | exact trivial) <;> try (conv => whnf))
      done)
   | (refine ⟨.agg [aA m, .ref 2 [] 1 0 (v + 2).toNat], [none, some (aN o l a4 h4), some ⟨false, 1, rows true (Tb (v + 2).toNat F)⟩], ⟨m, (v + 2).toNat, F, a4, h4, hm, by omega, by omega, ha4, rfl, rfl⟩, aC.of (kp := 2) [none, some 1, some 6] ?_⟩
      (conv => whnf)
      repeat' ((first | refine zP rfl ?_ | exact trivial) <;> try (conv => whnf))
      done)
   | (refine ⟨.agg [aA m, .ref 2 [] 1 0 (v + 2).toNat], [none, some (aN o l a4 h4), some ⟨false, 1, rows true (Tb (v + 2).toNat F)⟩], ⟨m, (v + 2).toNat, F, a4, h4, hm, by omega, by omega, ha4, rfl, rfl⟩, aC.of (kp := 2) [none, some 1, some 7] ?_⟩
      (conv => whnf)
      repeat' ((first | refine zP rfl ?_ | exact trivial) <;> try (conv => whnf))
      done)
theorem Ail (hW : Wei) (o : Bool) (l : List Nat) (hb : ∀ b ∈ l, b < 256) (hl : l.length ≤ 4611686018427387904) (a : Nat) (ha : a ≤ l.length) (hs : Int) :
   cN Tryz.prog 152 2 [.ptr 1 [] 0] [none, some (aN o l a hs)]
     (fun d rt => ∃ (m : Int) (t : List (List Int)) (a' : Nat) (h' : Int), (1 ≤ m ∧ m ≤ 10001) ∧ kY t ∧ a' ≤ l.length ∧ d = .agg [aA m, .list false 1 (rows false t)] ∧ rt = [none, some (aN o l a' h')]) := by
 refine dY Tryz.tabOk aF 2 _ Tryz.func152 rfl rfl ?_
 conv => whnf
 repeat' first | (refine bD [1] (Aq5 hW o l hb hl a ha hs) (fun d rt' hd => ?_)) | fail
 obtain ⟨m, n, F, a1, h1, hm, hm9, hn, ha1, rfl, rfl⟩ := hd
 refine ⟨rfl, by simp, ?_⟩
 conv => whnf
 repeat' first | (refine bD [1] (cW o l hb hl a1 ha1 h1 n) (fun d rt' hd => ?_)) | fail
 obtain ⟨i, a2, h2, hi, ha2, rfl, rfl⟩ := hd
 refine ⟨rfl, by simp, ?_⟩
 conv => whnf
 have hi2 := hi.2 (by omega)
 repeat' first | (refine bD [1] (cW o l hb hl a2 ha2 h2 24) (fun d rt' hd => ?_)) | ((first | refine zV ?_ | (apply zI; refine zP aG ?_)) <;> conv => whnf) | fail
 obtain ⟨x, a3, h3, hx, ha3, rfl, rfl⟩ := hd
 refine ⟨rfl, by simp, ?_⟩
 conv => whnf
 have hx2 := hx.2 (by omega)
 have hm1 := hm.1
 have hm2 := hm.2
 have hnm : (cnt 1 (ints (L (n - i.toNat) (F.c i.toNat))) : Nat) = n - i.toNat := by simp [aB]
 repeat' first | (refine bD [1] (cW o l hb hl a3 ha3 h3 (cnt 1 (ints (L (n - i.toNat) (F.c i.toNat))) : Nat)) (fun d rt' hd => ?_)) | (refine bD [1, 5] (jM o l hb hl a3 ha3 h3 [1, 10001, 2] (by simp)) (fun d rt' hd => ?_)) | ((refine zP (show oC _ _ = true by decide +kernel) ?_; conv => whnf)) | ((first | refine z0 ?_ | (refine zP (fun h => ?_) (fun h => ?_) <;> (try simp only [aB, aE] at h) <;> first | (exfalso; omega) | skip) | refine zV ?_ | refine Or.inl ?_) <;> conv => whnf) | fail
 · obtain ⟨y, a4, h4, hy, ha4, rfl, rfl⟩ := hd
   refine ⟨rfl, by simp, ?_⟩
   conv => whnf
   have hy2 := hy.2 (by omega)
   repeat' first | (refine bD [1] (cW o l hb hl a4 ha4 h4 (m + 1)) (fun d rt' hd => ?_)) | ((refine zP (show (_ : List (Option Root))[_]? = _ from rfl) ?_; conv => whnf)) | fail
   obtain ⟨z, a5, h5, hz, ha5, rfl, rfl⟩ := hd
   refine ⟨rfl, by simp, ?_⟩
   conv => whnf
   repeat' first | ((refine zP (show (_ : List (Option Root))[_]? = _ from rfl) ?_; conv => whnf)) | ((first | refine z0 ?_ | refine zV ?_ | (apply zI; refine zP aM ?_)) <;> conv => whnf) | fail
   have hz2 := hz.2 (by omega)
   first
     | (refine ⟨.agg [aA (m), .list false 1 (rows false (eG (Tb n F) i.toNat y.toNat z))], [none, some (aN o l a5 h5)], ⟨m, eG (Tb n F) i.toNat y.toNat z, a5, h5, ⟨by have := hm.1; omega, by omega⟩, Ako (zK (by omega) F) _ _ _, ha5, rfl, rfl⟩, aC.trans (aC.freezeR (kp := 2) (r := 3) (s0 := 1) (env' := [.agg [aA (m), .list false 1 (rows false (eG (Tb n F) i.toNat y.toNat z))]]) rfl rfl (jR (xP (by rw [wP]; simp) (by rw [List.drop_zero, List.take_of_length_le (by rw [wP]; simp)])))) (aC.of (kp := 2) [none, some 1] ?_)⟩
        (conv => whnf)
        repeat' ((first | refine zP rfl ?_ | exact trivial) <;> try (conv => whnf))
        done)
 · obtain ⟨y, a4, h4, hy, ha4, rfl, rfl⟩ := hd
   refine ⟨rfl, by simp, ?_⟩
   conv => whnf
   have hy2 : 1 ≤ y ∧ y ≤ 10001 := by
     simp only [List.mem_cons, List.not_mem_nil, or_false] at hy
     omega
   repeat' first | ((first | refine z0 ?_ | (refine zP (fun h => ?_) (fun h => ?_) <;> (try simp only [aB, aE] at h) <;> first | (exfalso; omega) | skip) | refine zS ?_ | refine zV ?_ | (apply zI; refine zP aM ?_) | (apply zI; refine zP aG ?_)) <;> conv => whnf) | fail
   first
     | (refine ⟨.agg [aA (y), .list false 1 (rows false (Tb n F))], [none, some (aN o l a4 h4)], ⟨y, Tb n F, a4, h4, hy2, zK (by omega) F, ha4, rfl, rfl⟩, aC.trans (aC.freezeR (kp := 2) (r := 3) (s0 := 1) (env' := [.agg [aA (y), .list false 1 (rows false (Tb n F))]]) rfl rfl (jR (xP (by simp) (by rw [List.drop_zero, List.take_of_length_le (by simp)])))) (aC.of (kp := 2) [none, some 1] ?_)⟩
        (conv => whnf)
        repeat' ((first | refine zP rfl ?_ | exact trivial) <;> try (conv => whnf))
        done)
 · first
     | (refine ⟨.agg [aA (m), .list false 1 (rows false ((Tb n F).drop 1))], [none, some (aN o l a3 h3)], ⟨m, (Tb n F).drop 1, a3, h3, ⟨by have := hm.1; omega, by omega⟩, As2 (zK (by omega) F), ha3, rfl, rfl⟩, aC.trans (aC.freezeR (kp := 2) (r := 3) (s0 := 1) (env' := [.agg [aA (m), .list false 1 (rows false ((Tb n F).drop 1))]]) rfl rfl (jR (xP (by simp; omega) (by simp [List.take_of_length_le])))) (aC.of (kp := 2) [none, some 1] ?_)⟩
        (conv => whnf)
        repeat' ((first | refine zP rfl ?_ | exact trivial) <;> try (conv => whnf))
        done)
 · first
     | (refine ⟨.agg [aA (m), .list false 1 (rows false ([]))], [none, some (aN o l a3 h3)], ⟨m, [], a3, h3, ⟨by have := hm.1; omega, by omega⟩, Ak4, ha3, rfl, rfl⟩, aC.trans (aC.freezeR (kp := 2) (r := 3) (s0 := 1) (env' := [.agg [aA (m), .list false 1 (rows false ([]))]]) rfl rfl (jR As3)) (aC.of (kp := 2) [none, some 1] ?_)⟩
        (conv => whnf)
        repeat' ((first | refine zP rfl ?_ | exact trivial) <;> try (conv => whnf))
        done)
 · first
     | (refine ⟨.agg [aA (m), .list false 1 (rows false (Tb n F))], [none, some (aN o l a3 h3)], ⟨m, Tb n F, a3, h3, ⟨by have := hm.1; omega, by omega⟩, zK (by omega) F, ha3, rfl, rfl⟩, aC.trans (aC.freezeR (kp := 2) (r := 3) (s0 := 1) (env' := [.agg [aA (m), .list false 1 (rows false (Tb n F))]]) rfl rfl (jR (xP (by simp) (by rw [List.drop_zero, List.take_of_length_le (by simp)])))) (aC.of (kp := 2) [none, some 1] ?_)⟩
        (conv => whnf)
        repeat' ((first | refine zP rfl ?_ | exact trivial) <;> try (conv => whnf))
        done)
theorem Aks (o : Bool) (l : List Nat) (hl : l.length ≤ 9223372036854775807) : aI Tryz.prog 8 [.list o 1 (fL l)] (bH (decide (4096 < l.length))) := by
 have hc : cnt 1 (fL l) = l.length := by simp [aB]
 refine aU Tryz.tabOk aF Tryz.func8 rfl rfl ?_
 conv => whnf
 repeat' first | ((first | refine z0 ?_ | (refine zP (fun h => ?_) (fun h => ?_) <;> (try simp only [aB, aE] at h)) | refine zS ?_ | refine zV ?_ | (apply zI; refine zP aM ?_) | (apply zI; refine zP aG ?_) | refine zA ?_ | refine Alt.fst ?_ | refine Or.inl ?_) <;> conv => whnf) | fail
 all_goals first | rfl | (refine cD ?_; simp at *; omega)
theorem Av8 {a b : List Int} (h : a.length = b.length) (hab : a ≠ b) (hk : ∀ k, k < a.length → a.getD k 0 = b.getD k 0) : False :=
 hab (List.ext_getElem h (fun i h1 h2 => by have := hk i h1; simpa [h1, h2] using this))
theorem Am6 (o o' : Bool) (a b : List Int) (ha : a.length ≤ 9223372036854775807) (hb : b.length ≤ 9223372036854775807) : aI Tryz.prog 35 [.list o 1 (ints a), .list o' 1 (ints b)] (bH (decide (a = b))) := by
 have h1 : cnt 1 (ints a) = a.length := by simp [aB]
 have h2 : cnt 1 (ints b) = b.length := by simp [aB]
 by_cases hab : a = b
 · subst hab
   rw [show decide (a = a) = true by simp]
   refine aU Tryz.tabOk aF Tryz.func35 rfl rfl ?_
   conv => whnf
   repeat' first | ((first | refine z0 ?_ | (refine zP (fun h => ?_) (fun h => ?_) <;> (try simp only [aB, aE] at h) <;> first | (exfalso; omega) | skip) | refine zS ?_ | refine zV ?_ | (apply zI; refine zP aM ?_) | (apply zI; refine zP aG ?_)) <;> conv => whnf) | fail
   refine aZ Tryz.tabOk aF (α := Nat) (fun i => [(5, aA i)]) (fun i => []) (fun i => i ≤ a.length) (fun i => a.length - i) (0) ?_ ?_ ?_
   · omega
   · conv => whnf
     first | refine aH.autoR ?_ | refine aC.autoR ?_
     conv => whnf
     repeat' ((first | refine z1 ?_ | refine z2 ?_ | refine zV ?_ | refine zP cA ?_ | refine zP cB ?_ | refine zP ?_ ?_ | exact trivial) <;> try (conv => whnf))
   intro i hi
   conv => whnf
   repeat' first | ((first | refine z0 ?_ | (refine zP (fun h => ?_) (fun h => ?_) <;> (try simp only [aB, aE] at h) <;> first | (exfalso; omega) | skip) | refine zS ?_ | refine zV ?_ | (apply zI; refine zP aM ?_) | (apply zI; refine zP aG ?_)) <;> conv => whnf) | fail
   · refine Exists.intro (i + 1) (zP aD (zP aD ?_))
     first | refine aH.autoR ?_ | refine aC.autoR ?_
     conv => whnf
     repeat' ((first | refine z1 ?_ | refine z2 ?_ | refine zV ?_ | refine zP cA ?_ | refine zP cB ?_ | refine zP ?_ ?_ | exact trivial) <;> try (conv => whnf))
   all_goals first | rfl
 · rw [show decide (a = b) = false by simp [hab]]
   refine aU Tryz.tabOk aF Tryz.func35 rfl rfl ?_
   conv => whnf
   by_cases hl : a.length = b.length
   · repeat' first | ((first | refine z0 ?_ | (refine zP (fun h => ?_) (fun h => ?_) <;> (try simp only [aB, aE] at h) <;> first | (exfalso; omega) | skip) | refine zS ?_ | refine zV ?_ | (apply zI; refine zP aM ?_) | (apply zI; refine zP aG ?_)) <;> conv => whnf) | fail
     refine aZ Tryz.tabOk aF (α := Nat) (fun i => [(5, aA i)]) (fun i => []) (fun i => i ≤ a.length ∧ ∀ k, k < i → a.getD k 0 = b.getD k 0) (fun i => a.length - i) (0) ?_ ?_ ?_
     · exact ⟨by omega, by omega⟩
     · conv => whnf
       first | refine aH.autoR ?_ | refine aC.autoR ?_
       conv => whnf
       repeat' ((first | refine z1 ?_ | refine z2 ?_ | refine zV ?_ | refine zP cA ?_ | refine zP cB ?_ | refine zP ?_ ?_ | exact trivial) <;> try (conv => whnf))
     intro i hi
     obtain ⟨hi, hk⟩ := hi
     conv => whnf
     by_cases hin : i < a.length
     · repeat' first | ((first | refine z0 ?_ | (refine zP (fun h => ?_) (fun h => ?_) <;> (try simp only [aB, aE] at h) <;> first | (exfalso; omega) | skip) | refine zS ?_ | refine zV ?_ | (apply zI; refine zP aM ?_) | (apply zI; refine zP aG ?_)) <;> conv => whnf) | fail
       · refine Exists.intro (i + 1) (zP ⟨by omega, fun k hk9 => ?_⟩ (zP aD ?_))
         · rcases Nat.lt_or_ge k i with h9 | h9
           · exact hk k h9
           · have e : k = i := by omega
             rw [e]; omega
         first | refine aH.autoR ?_ | refine aC.autoR ?_
         conv => whnf
         repeat' ((first | refine z1 ?_ | refine z2 ?_ | refine zV ?_ | refine zP cA ?_ | refine zP cB ?_ | refine zP ?_ ?_ | exact trivial) <;> try (conv => whnf))
     · exact (Av8 hl hab (fun k hk9 => hk k (by omega))).elim
   · repeat' first | ((first | refine z0 ?_ | (refine zP (fun h => ?_) (fun h => ?_) <;> (try simp only [aB, aE] at h) <;> first | (exfalso; omega) | skip) | refine zS ?_ | refine zV ?_ | (apply zI; refine zP aM ?_) | (apply zI; refine zP aG ?_)) <;> conv => whnf) | fail
     all_goals first | rfl
theorem Al8 : aI Tryz.prog 35 [.lit (.slice none 0 0), .lit (.slice none 0 0)] (bH true) := by
 refine aU Tryz.tabOk aF Tryz.func35 rfl rfl ?_
 conv => whnf
 repeat' first | ((first | refine z0 ?_ | (refine zP (fun h => ?_) (fun h => ?_) <;> (try simp only [aB, aE] at h) <;> first | (exfalso; omega) | skip) | refine zS ?_ | refine zV ?_ | (apply zI; refine zP aM ?_) | (apply zI; refine zP aG ?_)) <;> conv => whnf) | fail
 refine aZ Tryz.tabOk aF (α := Nat) (fun i => [(5, aA i)]) (fun i => []) (fun i => i = 0) (fun i => i) (0) ?_ ?_ ?_
 · omega
 · conv => whnf
   first | refine aH.autoR ?_ | refine aC.autoR ?_
   conv => whnf
   repeat' ((first | refine z1 ?_ | refine z2 ?_ | refine zV ?_ | refine zP cA ?_ | refine zP cB ?_ | refine zP ?_ ?_ | exact trivial) <;> try (conv => whnf))
 intro i hi
 subst hi
 conv => whnf
 repeat' first | ((first | refine z0 ?_ | (refine zP (fun h => ?_) (fun h => ?_) <;> (try simp only [aB, aE] at h) <;> first | (exfalso; omega) | skip) | refine zS ?_ | refine zV ?_ | (apply zI; refine zP aM ?_) | (apply zI; refine zP aG ?_)) <;> conv => whnf) | fail
end Go.Proofs
namespace Go.Vm
open Go
def xA (k : Nat) (st : St) : St := ⟨st.env.take k ++ List.replicate (st.env.length - k) .undef, st.rt⟩
structure Hold (p : Prop) : Prop where
 out : p
section
variable {P : Program} {T : Tab} {kp : Nat}
theorem I0 (hT : TabOk P T) (hm : P.follows .mixedOrders = true) (k : Nat) {body : Code} {Q : Exit → St → Prop} {st : St} {α : Type} (cs : α → List (Nat × D)) (rs : α → List (Nat × Option Root)) (J : α → Prop) (μ : α → Nat) (x0 : α) (h0 : J x0)
   (hw : mO (iQ body) fun ds => aH kp st (iF kp (lH (xA k st) ds (cs x0) (rs x0))))
   (round : ∀ x, J x → mO (iQ body) fun ds => pS kp (lH (xA k st) ds (cs x) (rs x)) (iM P T kp body (fun e st' => match e with
     | .normal => ∃ y, J y ∧ μ y < μ x ∧ aC kp st' (iF kp (lH (xA k st) ds (cs y) (rs y)))
     | e => Q e st'))) : iI P kp body Q st :=
 Ai4 hT hm (fun x => iF kp (lH (xA k st) (iQ body) (cs x) (rs x))) J μ x0 h0 (by rw [tO] at hw; exact hw.to) (fun x hx => by
   have h := round x hx
   rw [tO, N1, qR] at h
   exact h)
end
end Go.Vm
namespace Go.Proofs
open Go Go.Vm Go.Fg Go.Fg.PS
set_option maxRecDepth 100000
set_option maxHeartbeats 4000000
set_option linter.unusedSimpArgs false
set_option linter.unusedVariables false
variable {m : Int}
def M4 (w : PS (Zm m)) (G : PS (PS (Zm m))) (k : Nat) : Nat → PS (PS (Zm m))
 | 0 => G
 | i + 1 => cY (M4 w G k i) i (k - 1 - i) (w.c k)
def uP (w : PS (Zm m)) : Nat → PS (PS (Zm m))
 | 0 => 0
 | k + 1 => M4 w (uP w k) (k + 1) (k + 1)
def zB (w : PS (Zm m)) : Nat → PS (PS (Zm m))
 | 0 => 0
 | k + 1 => cY (zB w k) k 0 (w.c k)
def pK : PS (Zm m) := ⟨fun k => if k % 2 = 0 then 1 else -1⟩
def Q7 (a w : PS (Zm m)) : PS (Zm m) := ⟨fun k => if k = 0 then 1 else Zm.mk m (m - ((a.c 2).val * (w.c k).val + (if k = 1 then (a.c 0).val else 0)).tmod m)⟩
theorem E2 (hm : Md m) : m - 1 = (-1 : Zm m).val := by
 have h1 := hm.1
 have e := nN hm (show 0 ≤ m - 1 by omega)
 rw [Int.tmod_eq_of_lt (by omega) (by omega)] at e
 rw [e]
 congr 1
 rw [Zm.mk_sub, Zm.mk_self, Go.Fg.sub_def, CR.zero_add]; rfl
section
variable (n : Nat) (a : PS (Zm m))
def w0 : PS (Zm m) := wS a.c (n + 1 - 3)
def iE : PS (PS (Zm m)) := uP (w0 n a) n
def qX : PS (PS (Zm m)) := zB (w0 n a) n + PS.C (PS.C (-1)) * (iE n a * cY 0 1 0 1)
def nY : PS (PS (Zm m)) := iE n a * iE n a
def U1 : PS (PS (Zm m)) := PS.C (PS.C (a.c 0)) * iE n a + PS.C (PS.C (a.c 1)) * qX n a
def H1 : PS (PS (Zm m)) := U1 n a + PS.C (PS.C (a.c 2)) * nY n a
def P1 : PS (PS (Zm m)) := iE n a * qX n a
def T5 : PS (PS (Zm m)) := H1 n a + PS.C (PS.C (Zm.mk m (2 * (a.c (Int.toNat 3)).val))) * P1 n a
def O6 : PS (PS (Zm m)) := nY n a * qX n a
def zE : PS (PS (Zm m)) := T5 n a + PS.C (PS.C (Zm.mk m (3 * (a.c (Int.toNat 4)).val))) * O6 n a
def Q8 : PS (PS (Zm m)) := PS.C (PS.C (a.c 1)) * iE n a + PS.C (PS.C (a.c 3)) * nY n a
def W7 : PS (PS (Zm m)) := nY n a * iE n a
def uH : PS (PS (Zm m)) := Q8 n a + PS.C (PS.C (a.c 4)) * W7 n a
def wQ : PS (PS (Zm m)) := zE n a * comp2N pK (uH n a) 0 n
def wU : PS (PS (Zm m)) := PS.C (PS.C (-1)) * (cY 0 1 0 1 + turn (cY 0 1 0 1) + wQ n a)
def lL : PS (Zm m) := Q7 a (w0 n a)
def wF : PS (PS (Zm m)) := comp2N ((⟨fun k => if k = 1 then -1 else 0⟩ : PS (Zm m)) * inv (bA m ((lL n a).c 0).val) (lL n a)) (wU n a) 0 n
end
noncomputable def Agx (hm : Md m) (o : Bool) (n : Nat) (hn : 2 ≤ n ∧ n ≤ 11) {d : Int} (hd : d + 1 = n) (a : PS (Zm m)) (F : PS (PS (Zm m))) : (R : Prop) ×' (Hold R → aI Tryz.prog 117 [aA m, aA d, LD o 5 a] (dK true true n F)) := by
 have hm1 := hm.1
 have hm2 := hm.2
 apply PSigma.mk
 intro h0
 refine aU Tryz.tabOk aF Tryz.func117 rfl rfl ?_
 conv => whnf
 repeat' first | ((first | (apply zI; refine zP (mZ (m := m) n aD aD) ?_) | (apply zI; refine zP (Aul hm _ (n + 1) aD aD a) ?_) | refine zV ?_ | refine Or.inl ?_) <;> conv => whnf) | fail
 rw [show wS a.c (n + 1 - 3) = w0 n a from rfl]
 refine aZ Tryz.tabOk aF (α := Nat) (fun k => [(9, aA ((k : Int) + 1))]) (fun k => [(1, some ⟨false, 1, rows true (Tb n (uP (w0 n a) k))⟩)]) (fun k => k ≤ n) (fun k => n - k) (0) ?_ ?_ ?_
 · omega
 · conv => whnf
   first | refine aH.autoR ?_ | refine aC.autoR ?_
   conv => whnf
   repeat' ((first | refine z1 ?_ | refine z2 ?_ | refine zV ?_ | refine zP cA ?_ | refine zP cB ?_ | refine zP ?_ ?_ | exact trivial) <;> try (conv => whnf))
   all_goals first | rfl
 intro k hk
 conv => whnf
 repeat' first | ((first | (apply zI; refine zP (mZ (m := m) n aD aD) ?_) | (refine zP (fun h => ?_) (fun h => ?_) <;> (try simp only [aB, aE] at h)) | refine zV ?_ | (apply zI; refine zP aM ?_) | (apply zI; refine zP aG ?_) | refine Or.inl ?_) <;> conv => whnf) | fail
 · have hkn : k < n := aD
   refine aZ Tryz.tabOk aF (α := Nat) (fun i => [(10, aA i)]) (fun i => [(1, some ⟨false, 1, rows true (Tb n (M4 (w0 n a) (uP (w0 n a) k) (k + 1) i))⟩)]) (fun i => i ≤ k + 1) (fun i => n - i) (0) ?_ ?_ ?_
   · omega
   · conv => whnf
     first | refine aH.autoR ?_ | refine aC.autoR ?_
     conv => whnf
     repeat' ((first | refine z1 ?_ | refine z2 ?_ | refine zV ?_ | refine zP cA ?_ | refine zP cB ?_ | refine zP ?_ ?_ | exact trivial) <;> try (conv => whnf))
     all_goals first | rfl
   intro i hi
   conv => whnf
   repeat' first | ((first | refine z0 ?_ | (refine zP (fun h => ?_) (fun h => ?_) <;> (try simp only [aB, aE] at h)) | refine zS ?_ | refine zV ?_ | (apply zI; refine zP aM ?_) | (apply zI; refine zP aG ?_) | refine zA ?_ | refine Alt.fst ?_ | refine Or.inl ?_) <;> conv => whnf) | fail
   · have hik : i < k + 1 := aD
     refine Exists.intro (i + 1) (zP aD (zP aD ?_))
     first | refine aH.autoR ?_ | refine aC.autoR ?_
     conv => whnf
     repeat' ((first | refine z1 ?_ | refine z2 ?_ | refine zV ?_ | refine zP cA ?_ | refine zP cB ?_ | refine zP ?_ ?_ | exact trivial) <;> try (conv => whnf))
     all_goals first
       | exact cC (fM ((w0 n a).c (k + 1)) rfl (by omega) (aW.of_eq rfl))
       | (rw [show ((k : Int) + 1 - 1 - (i : Int)).toNat = k - i by omega]; exact cC (fM ((w0 n a).c (k + 1)) rfl (by omega) (aW.of_eq rfl)))
   · have hik : i = k + 1 := aD
     refine Exists.intro (k + 1) (zP aD (zP aD ?_))
     first | refine aH.autoR ?_ | refine aC.autoR ?_
     conv => whnf
     repeat' ((first | refine z1 ?_ | refine z2 ?_ | refine zV ?_ | refine zP cA ?_ | refine zP cB ?_ | refine zP ?_ ?_ | exact trivial) <;> try (conv => whnf))
     all_goals first | (rw [hik]; rfl) | omega
 have hkn : n = k := by omega
 subst hkn
 have h1 : (1 : Int) = (1 : Zm m).val := (Zm.val_one (by omega)).symm
 rw [show eG (Tb n (0 : PS (PS (Zm m)))) 1 0 1 = Tb n (cY 0 1 0 1) from fM (1 : Zm m) h1 (by omega) (aW.of_eq rfl)]
 rw [show uP (w0 n a) n = iE n a from rfl]
 refine I0 Tryz.tabOk aF 26 (α := Nat) (fun i => [(8, .ref 1 [] 1 0 n), (9, .undef), (11, .ref 2 [] 1 0 n), (12, .ref 3 [] 1 0 n), (13, aA i)]) (fun i => [(3, some ⟨false, 1, rows true (Tb n (zB (w0 n a) i))⟩)]) (fun i => i ≤ n) (fun i => n - i) (0) ?_ ?_ ?_
 · omega
 · conv => whnf
   first | refine aH.autoR ?_ | refine aC.autoR ?_
   conv => whnf
   repeat' ((first | refine z1 ?_ | refine z2 ?_ | refine zV ?_ | refine zP cA ?_ | refine zP cB ?_ | refine zP ?_ ?_ | exact trivial) <;> try (conv => whnf))
   all_goals first | rfl
 exact h0.out
noncomputable def Z2 (hm : Md m) (o : Bool) (n : Nat) (hn : 2 ≤ n ∧ n ≤ 11) {d : Int} (hd : d + 1 = n) (a : PS (Zm m)) (F : PS (PS (Zm m))) : (R : Prop) ×' (Hold R → (Agx hm o n hn hd a F).1) := by
 have hm1 := hm.1
 have hm2 := hm.2
 apply PSigma.mk
 intro h0
 conv => whnf
 intro i hi
 conv => whnf
 have hZ1 : m - 1 = (-1 : Zm m).val := E2 hm
 have hx3 := Zm.val_range hm.pos (a.c (Int.toNat 3))
 have hx4 := Zm.val_range hm.pos (a.c (Int.toNat 4))
 repeat' first | ((first | (apply zI; refine zP (qT hm _ _ _ _ n aD _ _) ?_) | (apply zI; refine zP (oS hm _ _ _ _ n aD _ _) ?_) | (apply zI; refine zP (mS hm _ _ n aD (-1) hZ1 _) ?_) | (refine zP (fun h => ?_) (fun h => ?_) <;> (try simp only [aB, aE] at h)) | refine zS ?_ | refine zV ?_ | (apply zI; refine zP aM ?_) | (apply zI; refine zP aG ?_) | refine Alt.fst ?_ | refine Or.inl ?_) <;> conv => whnf) | fail
 · have hin : i < n := aD
   refine Exists.intro (i + 1) (zP aD (zP aD ?_))
   first | refine aH.autoR ?_ | refine aC.autoR ?_
   conv => whnf
   repeat' ((first | refine z1 ?_ | refine z2 ?_ | refine zV ?_ | refine zP cA ?_ | refine zP cB ?_ | refine zP ?_ ?_ | exact trivial) <;> try (conv => whnf))
   all_goals first
     | exact cC (fM ((w0 n a).c i) rfl (by omega) (aW.of_eq rfl))
 have hin : n = i := by omega
 subst hin
 rw [show zB (w0 n a) n + PS.C (PS.C (-1)) * (iE n a * cY 0 1 0 1) = qX n a from rfl]
 rw [show iE n a * iE n a = nY n a from rfl]
 repeat' first | ((first | (apply zI; refine zP (mS hm _ _ n aD (a.c 0) rfl _) ?_) | (apply zI; refine zP (mS hm _ _ n aD (a.c 1) rfl _) ?_) | (apply zI; refine zP (oS hm _ _ _ _ n aD _ _) ?_) | refine zV ?_ | (apply zI; refine zP aM ?_) | (apply zI; refine zP aG ?_) | refine Or.inl ?_) <;> conv => whnf) | fail
 rw [show PS.C (PS.C (a.c 0)) * iE n a + PS.C (PS.C (a.c 1)) * qX n a = U1 n a from rfl]
 repeat' first | ((first | (apply zI; refine zP (mS hm _ _ n aD (a.c 2) rfl _) ?_) | (apply zI; refine zP (oS hm _ _ _ _ n aD _ _) ?_) | (apply zI; refine zP (qT hm _ _ _ _ n aD _ _) ?_) | refine zS ?_ | refine zV ?_ | (apply zI; refine zP aM ?_) | (apply zI; refine zP aG ?_) | refine Alt.fst ?_ | refine Or.inl ?_) <;> conv => whnf) | fail
 rw [show U1 n a + PS.C (PS.C (a.c 2)) * nY n a = H1 n a from rfl]
 rw [show iE n a * qX n a = P1 n a from rfl]
 repeat' first | ((first | (apply zI; refine zP (mS hm _ _ n aD (Zm.mk m (2 * (a.c (Int.toNat 3)).val)) (nN hm (by omega)) _) ?_) | (apply zI; refine zP (oS hm _ _ _ _ n aD _ _) ?_) | (apply zI; refine zP (qT hm _ _ _ _ n aD _ _) ?_) | refine zS ?_ | refine zV ?_ | (apply zI; refine zP aM ?_) | (apply zI; refine zP aG ?_) | refine Alt.fst ?_ | refine Or.inl ?_) <;> conv => whnf) | fail
 rw [show H1 n a + PS.C (PS.C (Zm.mk m (2 * (a.c (Int.toNat 3)).val))) * P1 n a = T5 n a from rfl]
 rw [show nY n a * qX n a = O6 n a from rfl]
 repeat' first | ((first | (apply zI; refine zP (mS hm _ _ n aD (Zm.mk m (3 * (a.c (Int.toNat 4)).val)) (nN hm (by omega)) _) ?_) | (apply zI; refine zP (oS hm _ _ _ _ n aD _ _) ?_) | refine zS ?_ | refine zV ?_ | (apply zI; refine zP aM ?_) | (apply zI; refine zP aG ?_) | refine Alt.fst ?_ | refine Or.inl ?_) <;> conv => whnf) | fail
 rw [show T5 n a + PS.C (PS.C (Zm.mk m (3 * (a.c (Int.toNat 4)).val))) * O6 n a = zE n a from rfl]
 repeat' first | ((first | (apply zI; refine zP (mS hm _ _ n aD (a.c 1) rfl _) ?_) | (apply zI; refine zP (mS hm _ _ n aD (a.c 3) rfl _) ?_) | (apply zI; refine zP (oS hm _ _ _ _ n aD _ _) ?_) | (apply zI; refine zP (qT hm _ _ _ _ n aD _ _) ?_) | refine zS ?_ | refine zV ?_ | (apply zI; refine zP aM ?_) | (apply zI; refine zP aG ?_) | refine Alt.fst ?_ | refine Or.inl ?_) <;> conv => whnf) | fail
 rw [show PS.C (PS.C (a.c 1)) * iE n a + PS.C (PS.C (a.c 3)) * nY n a = Q8 n a from rfl]
 rw [show nY n a * iE n a = W7 n a from rfl]
 repeat' first | ((first | (apply zI; refine zP (mS hm _ _ n aD (a.c 4) rfl _) ?_) | (apply zI; refine zP (oS hm _ _ _ _ n aD _ _) ?_) | refine zV ?_ | (apply zI; refine zP aM ?_) | (apply zI; refine zP aG ?_) | refine Or.inl ?_) <;> conv => whnf) | fail
 rw [show Q8 n a + PS.C (PS.C (a.c 4)) * W7 n a = uH n a from rfl]
 exact h0.out
end Go.Proofs
