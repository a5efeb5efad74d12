import Derived.Test.YtndhpcigpghejaaGreatK112
import Derived.Test.YtndhpcigpghejaaGreatK132
import Derived.Test.YtndhpcigpghejaaGreatVm32
import Derived.Test.YtndhpcigpghejaaGreatK28
namespace Go.Proofs
open Go Go.Vm Go.Fg Go.Fg.PS
set_option maxRecDepth 100000
set_option maxHeartbeats 4000000
set_option linter.unusedSimpArgs false
set_option linter.unusedVariables false
variable {m : Int}
theorem c_big (o : Bool) (l : List Nat) (hl : l.length ≤ 9223372036854775807) : PureCall Tryz.prog 13 [.list o 1 (byts l)] (dbool (decide (4096 < l.length))) := by
 have hc : cnt 1 (byts l) = l.length := by simp [cnt1]
 refine pure_of_vcR Tryz.tabOk mixOrd Tryz.func13 rfl rfl ?_
 conv => whnf
 repeat' first | ((first | refine z0 ?_ | (refine And.intro (fun h => ?_) (fun h => ?_) <;> (try simp only [cnt1, ints_length] at h)) | refine zS ?_ | refine zV ?_ | (apply zI; refine zP vObt ?_) | (apply zI; refine zP vObx ?_) | refine zA ?_ | refine Alt.fst ?_ | refine Or.inl ?_) <;> conv => whnf) | fail
 all_goals first | rfl | (refine dbool_congr ?_; simp at *; omega)
theorem list_ne {a b : List Int} (h : a.length = b.length) (hab : a ≠ b) (hk : ∀ k, k < a.length → a.getD k 0 = b.getD k 0) : False :=
 hab (List.ext_getElem h (fun i h1 h2 => by have := hk i h1; simpa [h1, h2] using this))
theorem c_likeInts (o o' : Bool) (a b : List Int) (ha : a.length ≤ 9223372036854775807) (hb : b.length ≤ 9223372036854775807) : PureCall Tryz.prog 40 [.list o 1 (ints a), .list o' 1 (ints b)] (dbool (decide (a = b))) := by
 have h1 : cnt 1 (ints a) = a.length := by simp [cnt1]
 have h2 : cnt 1 (ints b) = b.length := by simp [cnt1]
 by_cases hab : a = b
 · subst hab
   rw [show decide (a = a) = true by simp]
   refine pure_of_vcR Tryz.tabOk mixOrd Tryz.func40 rfl rfl ?_
   conv => whnf
   repeat' first | ((first | refine z0 ?_ | (refine And.intro (fun h => ?_) (fun h => ?_) <;> (try simp only [cnt1, ints_length] at h) <;> first | (exfalso; omega) | skip) | refine zS ?_ | refine zV ?_ | (apply zI; refine zP vObt ?_) | (apply zI; refine zP vObx ?_)) <;> conv => whnf) | fail
   refine loop_atR Tryz.tabOk mixOrd (α := Nat) (fun i => [(5, dint i)]) (fun i => []) (fun i => i ≤ a.length) (fun i => a.length - i) (0) ?_ ?_ ?_
   · omega
   · conv => whnf
     first | refine WeakS.autoR ?_ | refine Weak.autoR ?_
     conv => whnf
     repeat' ((first | refine z1 ?_ | refine zV ?_ | refine And.intro ?_ ?_ | exact trivial) <;> try (conv => whnf))
   intro i hi
   conv => whnf
   repeat' first | ((first | refine z0 ?_ | (refine And.intro (fun h => ?_) (fun h => ?_) <;> (try simp only [cnt1, ints_length] at h) <;> first | (exfalso; omega) | skip) | refine zS ?_ | refine zV ?_ | (apply zI; refine zP vObt ?_) | (apply zI; refine zP vObx ?_)) <;> conv => whnf) | fail
   · refine Exists.intro (i + 1) (And.intro vAr (And.intro vAr ?_))
     first | refine WeakS.autoR ?_ | refine Weak.autoR ?_
     conv => whnf
     repeat' ((first | refine z1 ?_ | refine zV ?_ | refine And.intro ?_ ?_ | exact trivial) <;> try (conv => whnf))
   all_goals first | rfl
 · rw [show decide (a = b) = false by simp [hab]]
   refine pure_of_vcR Tryz.tabOk mixOrd Tryz.func40 rfl rfl ?_
   conv => whnf
   by_cases hl : a.length = b.length
   · repeat' first | ((first | refine z0 ?_ | (refine And.intro (fun h => ?_) (fun h => ?_) <;> (try simp only [cnt1, ints_length] at h) <;> first | (exfalso; omega) | skip) | refine zS ?_ | refine zV ?_ | (apply zI; refine zP vObt ?_) | (apply zI; refine zP vObx ?_)) <;> conv => whnf) | fail
     refine loop_atR Tryz.tabOk mixOrd (α := Nat) (fun i => [(5, dint i)]) (fun i => []) (fun i => i ≤ a.length ∧ ∀ k, k < i → a.getD k 0 = b.getD k 0) (fun i => a.length - i) (0) ?_ ?_ ?_
     · exact ⟨by omega, by omega⟩
     · conv => whnf
       first | refine WeakS.autoR ?_ | refine Weak.autoR ?_
       conv => whnf
       repeat' ((first | refine z1 ?_ | refine zV ?_ | refine And.intro ?_ ?_ | exact trivial) <;> try (conv => whnf))
     intro i hi
     obtain ⟨hi, hk⟩ := hi
     conv => whnf
     by_cases hin : i < a.length
     · repeat' first | ((first | refine z0 ?_ | (refine And.intro (fun h => ?_) (fun h => ?_) <;> (try simp only [cnt1, ints_length] at h) <;> first | (exfalso; omega) | skip) | refine zS ?_ | refine zV ?_ | (apply zI; refine zP vObt ?_) | (apply zI; refine zP vObx ?_)) <;> conv => whnf) | fail
       · refine Exists.intro (i + 1) (And.intro ⟨by omega, fun k hk9 => ?_⟩ (And.intro vAr ?_))
         · rcases Nat.lt_or_ge k i with h9 | h9
           · exact hk k h9
           · have e : k = i := by omega
             rw [e]; omega
         first | refine WeakS.autoR ?_ | refine Weak.autoR ?_
         conv => whnf
         repeat' ((first | refine z1 ?_ | refine zV ?_ | refine And.intro ?_ ?_ | exact trivial) <;> try (conv => whnf))
     · exact (list_ne hl hab (fun k hk9 => hk k (by omega))).elim
   · repeat' first | ((first | refine z0 ?_ | (refine And.intro (fun h => ?_) (fun h => ?_) <;> (try simp only [cnt1, ints_length] at h) <;> first | (exfalso; omega) | skip) | refine zS ?_ | refine zV ?_ | (apply zI; refine zP vObt ?_) | (apply zI; refine zP vObx ?_)) <;> conv => whnf) | fail
     all_goals first | rfl
theorem c_likeNil : PureCall Tryz.prog 40 [.lit (.slice none 0 0), .lit (.slice none 0 0)] (dbool true) := by
 refine pure_of_vcR Tryz.tabOk mixOrd Tryz.func40 rfl rfl ?_
 conv => whnf
 repeat' first | ((first | refine z0 ?_ | (refine And.intro (fun h => ?_) (fun h => ?_) <;> (try simp only [cnt1, ints_length] at h) <;> first | (exfalso; omega) | skip) | refine zS ?_ | refine zV ?_ | (apply zI; refine zP vObt ?_) | (apply zI; refine zP vObx ?_)) <;> conv => whnf) | fail
 refine loop_atR Tryz.tabOk mixOrd (α := Nat) (fun i => [(5, dint i)]) (fun i => []) (fun i => i = 0) (fun i => i) (0) ?_ ?_ ?_
 · omega
 · conv => whnf
   first | refine WeakS.autoR ?_ | refine Weak.autoR ?_
   conv => whnf
   repeat' ((first | refine z1 ?_ | refine zV ?_ | refine And.intro ?_ ?_ | exact trivial) <;> try (conv => whnf))
 intro i hi
 subst hi
 conv => whnf
 repeat' first | ((first | refine z0 ?_ | (refine And.intro (fun h => ?_) (fun h => ?_) <;> (try simp only [cnt1, ints_length] at h) <;> first | (exfalso; omega) | skip) | refine zS ?_ | refine zV ?_ | (apply zI; refine zP vObt ?_) | (apply zI; refine zP vObx ?_)) <;> conv => whnf) | fail
end Go.Proofs
namespace Go.Vm
open Go
def trimE (k : Nat) (st : St) : St := ⟨st.env.take k ++ List.replicate (st.env.length - k) .undef, st.rt⟩
structure Hold (p : Prop) : Prop where
 out : p
section
variable {P : Program} {T : Tab} {kp : Nat}
theorem loop_cutR (hT : TabOk P T) (hm : P.follows .mixedOrders = true) (k : Nat) {body : Code} {Q : Exit → St → Prop} {st : St} {α : Type} (cs : α → List (Nat × D)) (rs : α → List (Nat × Option Root)) (J : α → Prop) (μ : α → Nat) (x0 : α) (h0 : J x0)
   (hw : forceNs (dstsC body) fun ds => WeakS kp st (gcSt kp (mkSt (trimE k st) ds (cs x0) (rs x0))))
   (round : ∀ x, J x → forceNs (dstsC body) fun ds => forceGc kp (mkSt (trimE k st) ds (cs x) (rs x)) (vcR P T kp body (fun e st' => match e with
     | .normal => ∃ y, J y ∧ μ y < μ x ∧ Weak kp st' (gcSt kp (mkSt (trimE k st) ds (cs y) (rs y)))
     | e => Q e st'))) : LoopK P kp body Q st :=
 loop_rule hT hm (fun x => gcSt kp (mkSt (trimE k st) (dstsC body) (cs x) (rs x))) J μ x0 h0 (by rw [forceNs_eq] at hw; exact hw.to) (fun x hx => by
   have h := round x hx
   rw [forceNs_eq, forceGc_eq, vcR_eq] at h
   exact h)
end
end Go.Vm
namespace Go.Proofs
open Go Go.Vm Go.Fg Go.Fg.PS
set_option maxRecDepth 100000
set_option maxHeartbeats 4000000
set_option linter.unusedSimpArgs false
set_option linter.unusedVariables false
variable {m : Int}
def lnI (w : PS (Zm m)) (G : PS (PS (Zm m))) (k : Nat) : Nat → PS (PS (Zm m))
 | 0 => G
 | i + 1 => upd2 (lnI w G k i) i (k - 1 - i) (w.c k)
def lnT (w : PS (Zm m)) : Nat → PS (PS (Zm m))
 | 0 => 0
 | k + 1 => lnI w (lnT w k) (k + 1) (k + 1)
def frWv (w : PS (Zm m)) : Nat → PS (PS (Zm m))
 | 0 => 0
 | k + 1 => upd2 (frWv w k) k 0 (w.c k)
def sgS : PS (Zm m) := ⟨fun k => if k % 2 = 0 then 1 else -1⟩
def blS (a w : PS (Zm m)) : PS (Zm m) := ⟨fun k => if k = 0 then 1 else Zm.mk m (m - ((a.c 2).val * (w.c k).val + (if k = 1 then (a.c 0).val else 0)).tmod m)⟩
theorem neg_one_val (hm : Md m) : m - 1 = (-1 : Zm m).val := by
 have h1 := hm.1
 have e := tm_mk hm (show 0 ≤ m - 1 by omega)
 rw [Int.tmod_eq_of_lt (by omega) (by omega)] at e
 rw [e]
 congr 1
 rw [Zm.mk_sub, Zm.mk_self, Go.Fg.sub_def, CR.zero_add]; rfl
section
variable (n : Nat) (a : PS (Zm m))
def w0 : PS (Zm m) := wS a.c (n + 1 - 3)
def wLN : PS (PS (Zm m)) := lnT (w0 n a) n
def wVv : PS (PS (Zm m)) := frWv (w0 n a) n + PS.C (PS.C (-1)) * (wLN n a * upd2 0 1 0 1)
def wSQ : PS (PS (Zm m)) := wLN n a * wLN n a
def wT1 : PS (PS (Zm m)) := PS.C (PS.C (a.c 0)) * wLN n a + PS.C (PS.C (a.c 1)) * wVv n a
def wT2 : PS (PS (Zm m)) := wT1 n a + PS.C (PS.C (a.c 2)) * wSQ n a
def wLV : PS (PS (Zm m)) := wLN n a * wVv n a
def wT3 : PS (PS (Zm m)) := wT2 n a + PS.C (PS.C (Zm.mk m (2 * (a.c (Int.toNat 3)).val))) * wLV n a
def wSV : PS (PS (Zm m)) := wSQ n a * wVv n a
def wT4 : PS (PS (Zm m)) := wT3 n a + PS.C (PS.C (Zm.mk m (3 * (a.c (Int.toNat 4)).val))) * wSV n a
def wB1 : PS (PS (Zm m)) := PS.C (PS.C (a.c 1)) * wLN n a + PS.C (PS.C (a.c 3)) * wSQ n a
def wSL : PS (PS (Zm m)) := wSQ n a * wLN n a
def wB2 : PS (PS (Zm m)) := wB1 n a + PS.C (PS.C (a.c 4)) * wSL n a
def wQ : PS (PS (Zm m)) := wT4 n a * comp2N sgS (wB2 n a) 0 n
def wU : PS (PS (Zm m)) := PS.C (PS.C (-1)) * (upd2 0 1 0 1 + turn (upd2 0 1 0 1) + wQ n a)
def wBl : PS (Zm m) := blS a (w0 n a)
def wF : PS (PS (Zm m)) := comp2N ((⟨fun k => if k = 1 then -1 else 0⟩ : PS (Zm m)) * inv (invN m ((wBl n a).c 0).val) (wBl n a)) (wU n a) 0 n
end
noncomputable def wstA (hm : Md m) (o : Bool) (n : Nat) (hn : 2 ≤ n ∧ n ≤ 11) {d : Int} (hd : d + 1 = n) (a : PS (Zm m)) (F : PS (PS (Zm m))) : (R : Prop) ×' (Hold R → PureCall Tryz.prog 184 [dint m, dint d, LD o 5 a] (TbD true true n F)) := by
 have hm1 := hm.1
 have hm2 := hm.2
 apply PSigma.mk
 intro h0
 refine pure_of_vcR Tryz.tabOk mixOrd Tryz.func184 rfl rfl ?_
 conv => whnf
 repeat' first | ((first | (apply zI; refine zP (c_l03Zero (m := m) n vAr vAr) ?_) | (apply zI; refine zP (c_l08Series hm _ (n + 1) vAr vAr a) ?_) | refine zV ?_ | refine Or.inl ?_) <;> conv => whnf) | fail
 rw [show wS a.c (n + 1 - 3) = w0 n a from rfl]
 refine loop_atR Tryz.tabOk mixOrd (α := Nat) (fun k => [(9, dint ((k : Int) + 1))]) (fun k => [(1, some ⟨false, 1, rows true (Tb n (lnT (w0 n a) k))⟩)]) (fun k => k ≤ n) (fun k => n - k) (0) ?_ ?_ ?_
 · omega
 · conv => whnf
   first | refine WeakS.autoR ?_ | refine Weak.autoR ?_
   conv => whnf
   repeat' ((first | refine z1 ?_ | refine zV ?_ | refine And.intro ?_ ?_ | exact trivial) <;> try (conv => whnf))
   all_goals first | rfl
 intro k hk
 conv => whnf
 repeat' first | ((first | (apply zI; refine zP (c_l03Zero (m := m) n vAr vAr) ?_) | (refine And.intro (fun h => ?_) (fun h => ?_) <;> (try simp only [cnt1, ints_length] at h)) | refine zV ?_ | (apply zI; refine zP vObt ?_) | (apply zI; refine zP vObx ?_) | refine Or.inl ?_) <;> conv => whnf) | fail
 · have hkn : k < n := vAr
   refine loop_atR Tryz.tabOk mixOrd (α := Nat) (fun i => [(10, dint i)]) (fun i => [(1, some ⟨false, 1, rows true (Tb n (lnI (w0 n a) (lnT (w0 n a) k) (k + 1) i))⟩)]) (fun i => i ≤ k + 1) (fun i => n - i) (0) ?_ ?_ ?_
   · omega
   · conv => whnf
     first | refine WeakS.autoR ?_ | refine Weak.autoR ?_
     conv => whnf
     repeat' ((first | refine z1 ?_ | refine zV ?_ | refine And.intro ?_ ?_ | exact trivial) <;> try (conv => whnf))
     all_goals first | rfl
   intro i hi
   conv => whnf
   repeat' first | ((first | refine z0 ?_ | (refine And.intro (fun h => ?_) (fun h => ?_) <;> (try simp only [cnt1, ints_length] at h)) | refine zS ?_ | refine zV ?_ | (apply zI; refine zP vObt ?_) | (apply zI; refine zP vObx ?_) | refine zA ?_ | refine Alt.fst ?_ | refine Or.inl ?_) <;> conv => whnf) | fail
   · have hik : i < k + 1 := vAr
     refine Exists.intro (i + 1) (And.intro vAr (And.intro vAr ?_))
     first | refine WeakS.autoR ?_ | refine Weak.autoR ?_
     conv => whnf
     repeat' ((first | refine z1 ?_ | refine zV ?_ | refine And.intro ?_ ?_ | exact trivial) <;> try (conv => whnf))
     all_goals first
       | exact rows_congr (setT_eq ((w0 n a).c (k + 1)) rfl (by omega) (Ag2.of_eq rfl))
       | (rw [show ((k : Int) + 1 - 1 - (i : Int)).toNat = k - i by omega]; exact rows_congr (setT_eq ((w0 n a).c (k + 1)) rfl (by omega) (Ag2.of_eq rfl)))
   · have hik : i = k + 1 := vAr
     refine Exists.intro (k + 1) (And.intro vAr (And.intro vAr ?_))
     first | refine WeakS.autoR ?_ | refine Weak.autoR ?_
     conv => whnf
     repeat' ((first | refine z1 ?_ | refine zV ?_ | refine And.intro ?_ ?_ | exact trivial) <;> try (conv => whnf))
     all_goals first | (rw [hik]; rfl) | omega
 have hkn : n = k := by omega
 subst hkn
 have h1 : (1 : Int) = (1 : Zm m).val := (Zm.val_one (by omega)).symm
 rw [show setT (Tb n (0 : PS (PS (Zm m)))) 1 0 1 = Tb n (upd2 0 1 0 1) from setT_eq (1 : Zm m) h1 (by omega) (Ag2.of_eq rfl)]
 rw [show lnT (w0 n a) n = wLN n a from rfl]
 refine loop_cutR Tryz.tabOk mixOrd 26 (α := Nat) (fun i => [(8, .ref 1 [] 1 0 n), (9, .undef), (11, .ref 2 [] 1 0 n), (12, .ref 3 [] 1 0 n), (13, dint i)]) (fun i => [(3, some ⟨false, 1, rows true (Tb n (frWv (w0 n a) i))⟩)]) (fun i => i ≤ n) (fun i => n - i) (0) ?_ ?_ ?_
 · omega
 · conv => whnf
   first | refine WeakS.autoR ?_ | refine Weak.autoR ?_
   conv => whnf
   repeat' ((first | refine z1 ?_ | refine zV ?_ | refine And.intro ?_ ?_ | exact trivial) <;> try (conv => whnf))
   all_goals first | rfl
 exact h0.out
end Go.Proofs
