import Derived.Test.YtndhpcigpghejaaGreatK112
import Derived.Test.YtndhpcigpghejaaGreatK132
namespace Go.Proofs
open Go Go.Vm Go.Fg Go.Fg.PS
set_option maxRecDepth 100000
set_option maxHeartbeats 4000000
set_option linter.unusedSimpArgs false
set_option linter.unusedVariables false
variable {m : Int}
theorem c_big (o : Bool) (l : List Nat) (hl : l.length ≤ 9223372036854775807) : PureCall Tryz.prog 13 [.list o 1 (byts l)] (dbool (decide (4096 < l.length))) := by
 have hc : cnt 1 (byts l) = l.length := by simp [cnt1]
 refine pure_of_vcR Tryz.tabOk mixOrd Tryz.func13 rfl rfl ?_
 conv => whnf
 repeat' first | ((first | refine z0 ?_ | (refine And.intro (fun h => ?_) (fun h => ?_) <;> (try simp only [cnt1, ints_length] at h)) | refine zS ?_ | refine zV ?_ | (apply zI; refine zP vObt ?_) | (apply zI; refine zP vObx ?_) | refine zA ?_ | refine Alt.fst ?_ | refine Or.inl ?_) <;> conv => whnf) | fail
 all_goals first | rfl | (refine dbool_congr ?_; simp at *; omega)
theorem list_ne {a b : List Int} (h : a.length = b.length) (hab : a ≠ b) (hk : ∀ k, k < a.length → a.getD k 0 = b.getD k 0) : False :=
 hab (List.ext_getElem h (fun i h1 h2 => by have := hk i h1; simpa [h1, h2] using this))
theorem c_likeInts (o o' : Bool) (a b : List Int) (ha : a.length ≤ 9223372036854775807) (hb : b.length ≤ 9223372036854775807) : PureCall Tryz.prog 40 [.list o 1 (ints a), .list o' 1 (ints b)] (dbool (decide (a = b))) := by
 have h1 : cnt 1 (ints a) = a.length := by simp [cnt1]
 have h2 : cnt 1 (ints b) = b.length := by simp [cnt1]
 by_cases hab : a = b
 · subst hab
   rw [show decide (a = a) = true by simp]
   refine pure_of_vcR Tryz.tabOk mixOrd Tryz.func40 rfl rfl ?_
   conv => whnf
   repeat' first | ((first | refine z0 ?_ | (refine And.intro (fun h => ?_) (fun h => ?_) <;> (try simp only [cnt1, ints_length] at h) <;> first | (exfalso; omega) | skip) | refine zS ?_ | refine zV ?_ | (apply zI; refine zP vObt ?_) | (apply zI; refine zP vObx ?_) | refine zA ?_ | refine Alt.fst ?_ | refine Or.inl ?_) <;> conv => whnf) | fail
   refine loop_atR Tryz.tabOk mixOrd (α := Nat) (fun i => [(5, dint i)]) (fun i => []) (fun i => i ≤ a.length) (fun i => a.length - i) (0) ?_ ?_ ?_
   · omega
   · conv => whnf
     first | refine WeakS.autoR ?_ | refine Weak.autoR ?_
     conv => whnf
     repeat' ((first | refine z1 ?_ | refine z2 ?_ | refine zV ?_ | refine And.intro vRepl ?_ | refine And.intro vReplL ?_ | refine And.intro ?_ ?_ | exact trivial) <;> try (conv => whnf))
   intro i hi
   conv => whnf
   repeat' first | ((first | refine z0 ?_ | (refine And.intro (fun h => ?_) (fun h => ?_) <;> (try simp only [cnt1, ints_length] at h) <;> first | (exfalso; omega) | skip) | refine zS ?_ | refine zV ?_ | (apply zI; refine zP vObt ?_) | (apply zI; refine zP vObx ?_) | refine zA ?_ | refine Alt.fst ?_ | refine Or.inl ?_) <;> conv => whnf) | fail
   · refine Exists.intro (i + 1) (And.intro vAr (And.intro vAr ?_))
     first | refine WeakS.autoR ?_ | refine Weak.autoR ?_
     conv => whnf
     repeat' ((first | refine z1 ?_ | refine z2 ?_ | refine zV ?_ | refine And.intro vRepl ?_ | refine And.intro vReplL ?_ | refine And.intro ?_ ?_ | exact trivial) <;> try (conv => whnf))
   all_goals first | rfl
 · rw [show decide (a = b) = false by simp [hab]]
   refine pure_of_vcR Tryz.tabOk mixOrd Tryz.func40 rfl rfl ?_
   conv => whnf
   by_cases hl : a.length = b.length
   · repeat' first | ((first | refine z0 ?_ | (refine And.intro (fun h => ?_) (fun h => ?_) <;> (try simp only [cnt1, ints_length] at h) <;> first | (exfalso; omega) | skip) | refine zS ?_ | refine zV ?_ | (apply zI; refine zP vObt ?_) | (apply zI; refine zP vObx ?_) | refine zA ?_ | refine Alt.fst ?_ | refine Or.inl ?_) <;> conv => whnf) | fail
     refine loop_atR Tryz.tabOk mixOrd (α := Nat) (fun i => [(5, dint i)]) (fun i => []) (fun i => i ≤ a.length ∧ ∀ k, k < i → a.getD k 0 = b.getD k 0) (fun i => a.length - i) (0) ?_ ?_ ?_
     · exact ⟨by omega, by omega⟩
     · conv => whnf
       first | refine WeakS.autoR ?_ | refine Weak.autoR ?_
       conv => whnf
       repeat' ((first | refine z1 ?_ | refine z2 ?_ | refine zV ?_ | refine And.intro vRepl ?_ | refine And.intro vReplL ?_ | refine And.intro ?_ ?_ | exact trivial) <;> try (conv => whnf))
     intro i hi
     obtain ⟨hi, hk⟩ := hi
     conv => whnf
     by_cases hin : i < a.length
     · repeat' first | ((first | refine z0 ?_ | (refine And.intro (fun h => ?_) (fun h => ?_) <;> (try simp only [cnt1, ints_length] at h) <;> first | (exfalso; omega) | skip) | refine zS ?_ | refine zV ?_ | (apply zI; refine zP vObt ?_) | (apply zI; refine zP vObx ?_) | refine zA ?_ | refine Alt.fst ?_ | refine Or.inl ?_) <;> conv => whnf) | fail
       · refine Exists.intro (i + 1) (And.intro ⟨by omega, fun k hk9 => ?_⟩ (And.intro vAr ?_))
         · rcases Nat.lt_or_ge k i with h9 | h9
           · exact hk k h9
           · have e : k = i := by omega
             rw [e]; omega
         first | refine WeakS.autoR ?_ | refine Weak.autoR ?_
         conv => whnf
         repeat' ((first | refine z1 ?_ | refine z2 ?_ | refine zV ?_ | refine And.intro vRepl ?_ | refine And.intro vReplL ?_ | refine And.intro ?_ ?_ | exact trivial) <;> try (conv => whnf))
     · exact (list_ne hl hab (fun k hk9 => hk k (by omega))).elim
   · repeat' first | ((first | refine z0 ?_ | (refine And.intro (fun h => ?_) (fun h => ?_) <;> (try simp only [cnt1, ints_length] at h) <;> first | (exfalso; omega) | skip) | refine zS ?_ | refine zV ?_ | (apply zI; refine zP vObt ?_) | (apply zI; refine zP vObx ?_) | refine zA ?_ | refine Alt.fst ?_ | refine Or.inl ?_) <;> conv => whnf) | fail
     all_goals first | rfl
theorem c_likeNil : PureCall Tryz.prog 40 [.lit (.slice none 0 0), .lit (.slice none 0 0)] (dbool true) := by
 refine pure_of_vcR Tryz.tabOk mixOrd Tryz.func40 rfl rfl ?_
 conv => whnf
 repeat' first | ((first | refine z0 ?_ | (refine And.intro (fun h => ?_) (fun h => ?_) <;> (try simp only [cnt1, ints_length] at h) <;> first | (exfalso; omega) | skip) | refine zS ?_ | refine zV ?_ | (apply zI; refine zP vObt ?_) | (apply zI; refine zP vObx ?_) | refine zA ?_ | refine Alt.fst ?_ | refine Or.inl ?_) <;> conv => whnf) | fail
 refine loop_atR Tryz.tabOk mixOrd (α := Nat) (fun i => [(5, dint i)]) (fun i => []) (fun i => i = 0) (fun i => i) (0) ?_ ?_ ?_
 · omega
 · conv => whnf
   first | refine WeakS.autoR ?_ | refine Weak.autoR ?_
   conv => whnf
   repeat' ((first | refine z1 ?_ | refine z2 ?_ | refine zV ?_ | refine And.intro vRepl ?_ | refine And.intro vReplL ?_ | refine And.intro ?_ ?_ | exact trivial) <;> try (conv => whnf))
 intro i hi
 subst hi
 conv => whnf
 repeat' first | ((first | refine z0 ?_ | (refine And.intro (fun h => ?_) (fun h => ?_) <;> (try simp only [cnt1, ints_length] at h) <;> first | (exfalso; omega) | skip) | refine zS ?_ | refine zV ?_ | (apply zI; refine zP vObt ?_) | (apply zI; refine zP vObx ?_) | refine zA ?_ | refine Alt.fst ?_ | refine Or.inl ?_) <;> conv => whnf) | fail
def eqT (N : Nat) (f g : PS (PS (Zm m))) : Prop := ∀ i, i < N → L (N - i) (f.c i) = L (N - i) (g.c i)
open Classical in
noncomputable def eqTB (N : Nat) (f g : PS (PS (Zm m))) : Bool := decide (eqT N f g)
theorem c_same9 (o p o' p' : Bool) (N : Nat) (hN : N ≤ 100) (f g : PS (PS (Zm m))) : PureCall Tryz.prog 166 [.list o 1 (rows p (Tb N f)), .list o' 1 (rows p' (Tb N g))] (dbool (eqTB N f g)) := by
 by_cases hab : eqT N f g
 · rw [show eqTB N f g = true by simp [eqTB, hab]]
   refine pure_of_vcR Tryz.tabOk mixOrd Tryz.func166 rfl rfl ?_
   conv => whnf
   repeat' first | ((first | refine z0 ?_ | (refine And.intro (fun h => ?_) (fun h => ?_) <;> (try simp only [cnt1, ints_length, rows_length, Tb_length] at h) <;> first | (exfalso; omega) | skip) | refine zS ?_ | refine zV ?_ | (apply zI; refine zP vObt ?_) | (apply zI; refine zP vObx ?_) | refine zA ?_ | refine Alt.fst ?_ | refine Or.inl ?_) <;> conv => whnf) | fail
   refine loop_atR Tryz.tabOk mixOrd (α := Nat) (fun i => [(5, dint i)]) (fun i => []) (fun i => i ≤ N) (fun i => N - i) (0) ?_ ?_ ?_
   · omega
   · conv => whnf
     first | refine WeakS.autoR ?_ | refine Weak.autoR ?_
     conv => whnf
     repeat' ((first | refine z1 ?_ | refine z2 ?_ | refine zV ?_ | refine And.intro vRepl ?_ | refine And.intro vReplL ?_ | refine And.intro ?_ ?_ | exact trivial) <;> try (conv => whnf))
   intro i hi
   conv => whnf
   by_cases hin : i < N
   · have hc := c_likeInts p p' (L (N - i) (f.c i)) (L (N - i) (g.c i)) (by simp; omega) (by simp; omega)
     rw [show decide (L (N - i) (f.c i) = L (N - i) (g.c i)) = true by simp [hab i hin]] at hc
     repeat' first | ((first | refine z0 ?_ | (apply zI; refine zP (hc) ?_) | (refine And.intro (fun h => ?_) (fun h => ?_) <;> (try simp only [cnt1, ints_length, rows_length, Tb_length] at h) <;> first | (exfalso; omega) | skip) | refine zS ?_ | refine zV ?_ | (apply zI; refine zP vObt ?_) | (apply zI; refine zP vObx ?_) | refine zA ?_ | refine Alt.fst ?_ | refine Or.inl ?_) <;> conv => whnf) | fail
     · refine Exists.intro (i + 1) (And.intro vAr (And.intro vAr ?_))
       first | refine WeakS.autoR ?_ | refine Weak.autoR ?_
       conv => whnf
       repeat' ((first | refine z1 ?_ | refine z2 ?_ | refine zV ?_ | refine And.intro vRepl ?_ | refine And.intro vReplL ?_ | refine And.intro ?_ ?_ | exact trivial) <;> try (conv => whnf))
     all_goals (exfalso; simp_all; done)
   · repeat' first | ((first | refine z0 ?_ | (refine And.intro (fun h => ?_) (fun h => ?_) <;> (try simp only [cnt1, ints_length, rows_length, Tb_length] at h) <;> first | (exfalso; omega) | skip) | refine zS ?_ | refine zV ?_ | (apply zI; refine zP vObt ?_) | (apply zI; refine zP vObx ?_) | refine zA ?_ | refine Alt.fst ?_ | refine Or.inl ?_) <;> conv => whnf) | fail
     all_goals first | rfl
 · rw [show eqTB N f g = false by simp [eqTB, hab]]
   refine pure_of_vcR Tryz.tabOk mixOrd Tryz.func166 rfl rfl ?_
   conv => whnf
   repeat' first | ((first | refine z0 ?_ | (refine And.intro (fun h => ?_) (fun h => ?_) <;> (try simp only [cnt1, ints_length, rows_length, Tb_length] at h) <;> first | (exfalso; omega) | skip) | refine zS ?_ | refine zV ?_ | (apply zI; refine zP vObt ?_) | (apply zI; refine zP vObx ?_) | refine zA ?_ | refine Alt.fst ?_ | refine Or.inl ?_) <;> conv => whnf) | fail
   refine loop_atR Tryz.tabOk mixOrd (α := Nat) (fun i => [(5, dint i)]) (fun i => []) (fun i => i ≤ N ∧ ∀ k, k < i → L (N - k) (f.c k) = L (N - k) (g.c k)) (fun i => N - i) (0) ?_ ?_ ?_
   · exact ⟨by omega, by omega⟩
   · conv => whnf
     first | refine WeakS.autoR ?_ | refine Weak.autoR ?_
     conv => whnf
     repeat' ((first | refine z1 ?_ | refine z2 ?_ | refine zV ?_ | refine And.intro vRepl ?_ | refine And.intro vReplL ?_ | refine And.intro ?_ ?_ | exact trivial) <;> try (conv => whnf))
   intro i hi
   obtain ⟨hi, hk⟩ := hi
   conv => whnf
   by_cases hin : i < N
   · by_cases he : L (N - i) (f.c i) = L (N - i) (g.c i)
     · have hc := c_likeInts p p' (L (N - i) (f.c i)) (L (N - i) (g.c i)) (by simp; omega) (by simp; omega)
       rw [show decide (L (N - i) (f.c i) = L (N - i) (g.c i)) = true by simp [he]] at hc
       repeat' first | ((first | refine z0 ?_ | (apply zI; refine zP (hc) ?_) | (refine And.intro (fun h => ?_) (fun h => ?_) <;> (try simp only [cnt1, ints_length, rows_length, Tb_length] at h) <;> first | (exfalso; omega) | skip) | refine zS ?_ | refine zV ?_ | (apply zI; refine zP vObt ?_) | (apply zI; refine zP vObx ?_) | refine zA ?_ | refine Alt.fst ?_ | refine Or.inl ?_) <;> conv => whnf) | fail
       · refine Exists.intro (i + 1) (And.intro ⟨by omega, fun k hk9 => (Nat.lt_or_ge k i).elim (hk k) (fun h9 => by rw [show k = i by omega]; exact he)⟩ (And.intro vAr ?_))
         first | refine WeakS.autoR ?_ | refine Weak.autoR ?_
         conv => whnf
         repeat' ((first | refine z1 ?_ | refine z2 ?_ | refine zV ?_ | refine And.intro vRepl ?_ | refine And.intro vReplL ?_ | refine And.intro ?_ ?_ | exact trivial) <;> try (conv => whnf))
       all_goals (exfalso; simp_all; done)
     · have hc := c_likeInts p p' (L (N - i) (f.c i)) (L (N - i) (g.c i)) (by simp; omega) (by simp; omega)
       rw [show decide (L (N - i) (f.c i) = L (N - i) (g.c i)) = false by simp [he]] at hc
       repeat' first | ((first | refine z0 ?_ | (apply zI; refine zP (hc) ?_) | (refine And.intro (fun h => ?_) (fun h => ?_) <;> (try simp only [cnt1, ints_length, rows_length, Tb_length] at h) <;> first | (exfalso; omega) | skip) | refine zS ?_ | refine zV ?_ | (apply zI; refine zP vObt ?_) | (apply zI; refine zP vObx ?_) | refine zA ?_ | refine Alt.fst ?_ | refine Or.inl ?_) <;> conv => whnf) | fail
       all_goals first | rfl | (exfalso; simp_all; done)
   · exact (hab (fun k hk9 => hk k (by omega))).elim
theorem c_plane9 (o p o' p' : Bool) (N : Nat) (hN : N ≤ 100) (f g : PS (PS (Zm m))) : PureCall Tryz.prog 17 [PlD m o p N f, PlD m o' p' N g] (dbool (eqTB N f g)) := by
 refine pure_of_vcR Tryz.tabOk mixOrd Tryz.func17 rfl rfl ?_
 conv => whnf
 repeat' first | ((first | refine z0 ?_ | (apply zI; refine zP (c_same9 _ _ _ _ N hN f g) ?_) | (refine And.intro (fun h => ?_) (fun h => ?_) <;> (try simp only [cnt1, ints_length, rows_length, Tb_length] at h) <;> first | (exfalso; omega) | skip) | refine zS ?_ | refine zV ?_ | (apply zI; refine zP vObt ?_) | (apply zI; refine zP vObx ?_) | refine zA ?_ | refine Alt.fst ?_ | refine Or.inl ?_) <;> conv => whnf) | fail
 all_goals first | (simp_all; done) | (exfalso; simp_all; done) | (rename_i h; rw [h]; rfl)
end Go.Proofs
