/- Logarithms of genera, values on hypersurfaces. -/
import Derived.Test.YthpbaehnkmmkgaaGreatK8
namespace Go.Proofs
open Go Go.Vm Go.Fg Go.Fg.PS
set_option maxRecDepth 100000
set_option maxHeartbeats 4000000
set_option linter.unusedSimpArgs false
set_option linter.unusedVariables false
variable {m : Int}

def logG (a : PS (Zm m)) : PS (Zm m) := rev (invN m ((expG a).c 1).val) (expG a)
theorem c_implLogarithmOfGenus (o : Bool) (m : Int) (l : List Int) (hl : l.length ≤ 1048576) : PureCall Tryz.prog 20 [.agg [dint m, .list o 1 (ints l)]] (serRes m (l.length + 1) (logG (rd m l)) (shortCode m l)) := by
  refine pure_of_vc Tryz.tabOk mixOrd Tryz.func20 rfl rfl ?_
  conv => whnf
  repeat' first | ((first | refine z0 ?_ | (apply zI; refine zP (c_lawful _ _ _ hl) ?_) | (refine And.intro (fun h => ?_) (fun h => ?_) <;> (try simp only [cnt1, ints_length] at h)) | refine zS ?_ | refine zV ?_ | (apply zI; refine zP vObx ?_) | refine Alt.fst ?_ | refine Or.inl ?_) <;> conv => whnf) | fail
  · rw [serRes, if_neg h]; rfl
  · have h0 := Classical.not_not.1 h
    obtain ⟨hc, hb⟩ := shortCode_0 h0
    have hs := charB_ser hc
    have hlen := serB_len hs
    have key := c_exponentialOf (serB_md hs) o l.length (by omega) (rd m l)
    rw [serD_of hs] at key
    repeat' first | ((first | refine z0 ?_ | (apply zI; refine zP (key) ?_) | (apply zI; refine zP (c_reverseU (serB_md hs) _ (l.length + 1) (by omega) (expG (rd m l))) ?_) | (refine And.intro (fun h => ?_) (fun h => ?_) <;> (try simp only [cnt1, ints_length] at h)) | refine zS ?_ | refine zV ?_ | (apply zI; refine zP vObx ?_) | refine Alt.fst ?_ | refine Or.inl ?_) <;> conv => whnf) | fail
    rw [serRes, if_pos h0]; rfl
theorem c_monomial (hm : Md m) {d k : Int} (n j : Nat) (c : Zm m) (hd : d + 1 = n) (hk : k = j) (hj : j < n) (hn : n ≤ 100) : PureCall Tryz.prog 331 [dint m, dint d, dint k, dint c.val] (SerD m true n (mono j c)) := by
  subst hk
  refine pure_of_vc Tryz.tabOk mixOrd Tryz.func331 rfl rfl ?_
  conv => whnf
  repeat' first | ((first | refine z0 ?_ | (apply zI; refine zP (c_zero n hd hn) ?_) | (refine And.intro (fun h => ?_) (fun h => ?_) <;> (try simp only [cnt1, ints_length] at h)) | refine zS ?_ | refine zV ?_ | (apply zI; refine zP vObx ?_) | refine Alt.fst ?_ | refine Or.inl ?_) <;> conv => whnf) | fail
  exact serD_congr (L_set_eq c rfl (fun i hi => by rw [upd_c, mono_c]; split <;> rfl))
theorem c_stretched (hm : Md m) (o : Bool) (n : Nat) (hn : 2 ≤ n ∧ n ≤ 100) (a : PS (Zm m)) (c : Int) : PureCall Tryz.prog 185 [SerD m o n a, dint c] (SerD m true n (strS a (Zm.mk m c))) := by
  have hm1 := hm.1
  have hm2 := hm.2
  refine pure_of_vc Tryz.tabOk mixOrd Tryz.func185 rfl rfl ?_
  conv => whnf
  repeat' first | ((first | refine z0 ?_ | (apply zI; refine zP (c_degreeS _ _ vAr _) ?_) | (apply zI; refine zP (c_mod _ _ hm.pos (by omega)) ?_) | (apply zI; refine zP (c_monomial hm n 1 (Zm.mk m c) vAr vAr vAr vAr) ?_) | (apply zI; refine zP (c_compose hm _ _ n vAr _ _) ?_) | (refine And.intro (fun h => ?_) (fun h => ?_) <;> (try simp only [cnt1, ints_length] at h)) | refine zS ?_ | refine zV ?_ | (apply zI; refine zP vObx ?_) | refine Alt.fst ?_ | refine Or.inl ?_) <;> conv => whnf) | fail
  exact serD_congr (L_congr (compN_mono a _ n))
def hyS (a : PS (Zm m)) (n : Nat) (d : Int) : Zm m := Zm.mk m d * (pw a (n + 2) * inv (invN m ((strS a (Zm.mk m d)).c 0).val) (strS a (Zm.mk m d))).c n
def hyB (len : Nat) (n d : Int) : Bool := inB n 0 ((len : Int) - 1) && inB d 1 100
theorem dimCode_and {m : Int} {l : List Int} {a b : Bool} : dimCode m l (a && b) = if dimCode m l a = 0 then (if b then 0 else 2) else dimCode m l a := by
  unfold dimCode; cases charB m l <;> cases a <;> cases b <;> rfl
theorem c_implHypersurfaceGenus1 (o : Bool) (m : Int) (l : List Int) (hl : l.length ≤ 1048576) (n d : Int) : PureCall Tryz.prog 181 [.cptr [dint m, .list o 1 (ints l)] 0, .cptr [dint n] 0, .cptr [dint d] 0] (dbool (hyB l.length n d)) := by
  refine pure_of_vc Tryz.tabOk mixOrd Tryz.func181 rfl rfl ?_
  conv => whnf
  repeat' first | ((first | refine z0 ?_ | (apply zI; refine zP (c_isDimension _ _ _ hl _) ?_) | (apply zI; refine zP (c_impl_in _ _ _) ?_) | (refine And.intro (fun h => ?_) (fun h => ?_) <;> (try simp only [cnt1, ints_length] at h)) | refine zS ?_ | refine zV ?_ | (apply zI; refine zP vObx ?_) | refine Alt.fst ?_ | refine Or.inl ?_) <;> conv => whnf) | fail
  all_goals (refine dbool_congr ?_; first | rfl | (simp_all [hyB]; done) | (simp_all [hyB]; omega) | (simp_all [hyB]; intros; omega))
theorem c_power' (hm : Md m) (o : Bool) (n : Nat) (hn : 1 ≤ n ∧ n ≤ 100) (a : PS (Zm m)) (k : Nat) (hk : k ≤ 4611686018427387904) {K : Int} (hK : K = k) : PureCall Tryz.prog 183 [SerD m o n a, dint K] (SerD m true n (pw a k)) := by
  subst hK; exact c_power hm o n hn a k hk
theorem c_implHypersurfaceGenus (o : Bool) (m : Int) (l : List Int) (hl : l.length ≤ 1048576) (n d : Int) (hn0 : -9223372036854775808 ≤ n ∧ n ≤ 9223372036854775807) : PureCall Tryz.prog 27 [.agg [dint m, .list o 1 (ints l)], dint n, dint d]
    (.tup [dint (if dimCode m l (hyB l.length n d) = 0 then (hyS (rd m l) n.toNat d).val else 0), dint (dimCode m l (hyB l.length n d))]) := by
  refine pure_of_vc Tryz.tabOk mixOrd Tryz.func27 rfl rfl ?_
  conv => whnf
  repeat' first | ((first | refine z0 ?_ | (apply zI; refine zP (c_generic3 _ _ _ _ _ (c_implHypersurfaceGenus1 _ _ _ hl _ _) _ _ _ hl) ?_) | (refine And.intro (fun h => ?_) (fun h => ?_) <;> (try simp only [cnt1, ints_length] at h)) | refine zS ?_ | refine zV ?_ | (apply zI; refine zP vObx ?_) | refine Alt.fst ?_ | refine Or.inl ?_) <;> conv => whnf) | fail
  · rw [if_neg h]
  · have h0 := Classical.not_not.1 h
    obtain ⟨hc, hb⟩ := dimCode_0 h0
    have hs := charB_ser hc
    have hlen := serB_len hs
    have hm := serB_md hs
    have hm1 := hm.1
    have hm2 := hm.2
    simp only [hyB, inB, Bool.and_eq_true, decide_eq_true_eq] at hb
    have key := c_power' hm o l.length (by omega) (rd m l) (n.toNat + 2) (by omega) (K := n + 2) (by omega)
    rw [serD_of hs] at key
    have key2 := c_stretched hm o l.length (by omega) (rd m l) d
    rw [serD_of hs] at key2
    repeat' first | ((first | refine z0 ?_ | (apply zI; refine zP (key) ?_) | (apply zI; refine zP (key2) ?_) | (apply zI; refine zP (c_inverseU hm _ l.length vAr _) ?_) | (apply zI; refine zP (c_times hm _ _ l.length vAr _ _) ?_) | (apply zI; refine zP (c_scaled hm _ l.length vAr _ _) ?_) | (refine And.intro (fun h => ?_) (fun h => ?_) <;> (try simp only [cnt1, ints_length] at h)) | refine zS ?_ | refine zV ?_ | (apply zI; refine zP vObx ?_) | refine Alt.fst ?_ | refine Or.inl ?_) <;> conv => whnf) | fail
    rw [h0, if_pos rfl, C_mul]; rfl
theorem c_specHyperL (hm : Md m) (o : Bool) (N : Nat) (hN : 2 ≤ N ∧ N ≤ 11) (a : PS (Zm m)) (hc : charB m (L N a) = true) (n : Nat) (hn : n < N) (d : Int) (hd : 1 ≤ d ∧ d ≤ 100) :
    PureCall Tryz.prog 28 [SerD m o N a, dint n, dint d] (.tup [dint (hyS a n d).val, dint 0]) := by
  have hm1 := hm.1
  have hm2 := hm.2
  have hcode : dimCode m (L N a) (inB n 0 (((L N a).length : Int) - 1)) = 0 := by
    simp [dimCode, hc, inB]; omega
  have hvd : ∀ x : Zm m, inR .i64 (x.val * d) ∧ 0 ≤ x.val * d := fun x => by
    have h1 := Zm.val_range hm.pos x
    have h3 : x.val * d ≤ 10000 * d := Int.mul_le_mul_of_nonneg_right (by omega) (by omega)
    have h4 : 0 ≤ x.val * d := Int.mul_nonneg h1.1 (by omega)
    exact ⟨inR64 (by omega) (by omega), h4⟩
  have hmod : ∀ x : Zm m, (x.val * d).tmod m = (x * Zm.mk m d).val := fun x => Zm.tmod_val (hvd x).2 (by rw [Zm.mk_mul, Zm.mk_val])
  have h1m : (1 : Int) = (pw (Zm.mk m d) 0).val := (Zm.val_one (by omega)).symm
  refine pure_of_vc Tryz.tabOk mixOrd Tryz.func28 rfl rfl ?_
  conv => whnf
  repeat' first | ((first | refine z0 ?_ | (apply zI; refine zP (c_l19Code _ _ _ vAr _) ?_) | (apply zI; refine zP (c_l01In _ _ _) ?_) | (apply zI; refine zP (c_l02Degree _ _ _ vAr) ?_) | (refine And.intro (fun h => ?_) (fun h => ?_) <;> (try simp only [cnt1, ints_length] at h)) | refine zS ?_ | refine zV ?_ | (apply zI; refine zP vObx ?_) | refine Alt.fst ?_ | refine Or.inl ?_) <;> conv => whnf) | fail
  all_goals try (exfalso; first | omega | (simp_all [inB]; done) | (simp_all [inB]; omega))
  refine loop_at Tryz.tabOk mixOrd (α := Nat) (fun i => [(11, .ref 4 [] 1 0 i), (12, dint (pw (Zm.mk m d) i).val), (13, dint i), (32, .undef)]) (fun i => [(4, some ⟨false, 1, ints (L i (strS a (Zm.mk m d)))⟩)]) (fun i => i ≤ N) (fun i => N - i) (0) ?_ ?_ ?_
  · omega
  · conv => whnf
    first | refine WeakS.auto ?_ | refine Weak.auto ?_
    conv => whnf
    repeat' ((first | refine z1 ?_ | refine z2 ?_ | refine zV ?_ | refine And.intro vRepl ?_ | refine And.intro vReplL ?_ | refine And.intro ?_ ?_ | exact trivial) <;> try (conv => whnf))
  intro i hi
  conv => whnf
  have hvi := (hvd (pw (Zm.mk m d) i)).1
  repeat' first | ((first | refine z0 ?_ | (refine And.intro (fun h => ?_) (fun h => ?_) <;> (try simp only [cnt1, ints_length] at h)) | refine zS ?_ | refine zV ?_ | (apply zI; refine zP vObx ?_) | refine Alt.fst ?_ | refine Or.inl ?_) <;> conv => whnf) | fail
  · refine Exists.intro (i + 1) (And.intro vAr (And.intro vAr ?_))
    first | refine WeakS.auto ?_ | refine Weak.auto ?_
    conv => whnf
    repeat' ((first | refine z1 ?_ | refine z2 ?_ | refine zV ?_ | refine And.intro vRepl ?_ | refine And.intro vReplL ?_ | refine And.intro ?_ ?_ | exact trivial) <;> try (conv => whnf))
    · rw [hmod, pw_succ]
    · refine ints_congr' (L_push ?_)
      exact tm_mul hm _ _
  · rw [show i = N from vAr]
    have hvp := (hvd ((pw a (n + 2) * inv (invN m ((strS a (Zm.mk m d)).c 0).val) (strS a (Zm.mk m d))).c n)).1
    repeat' first | ((first | refine z0 ?_ | (apply zI; refine zP (c_l02Power' hm _ N N vAr vAr vAr vAr a (n + 2) vAr vAr) ?_) | (apply zI; refine zP (c_l02InverseU hm _ N N vAr vAr vAr vAr _) ?_) | (apply zI; refine zP (c_l02Times hm _ _ N N N vAr vAr vAr vAr vAr vAr _ _) ?_) | (refine And.intro (fun h => ?_) (fun h => ?_) <;> (try simp only [cnt1, ints_length] at h)) | refine zS ?_ | refine zV ?_ | (apply zI; refine zP vObx ?_) | refine Alt.fst ?_ | refine Or.inl ?_) <;> conv => whnf) | fail
    rw [hmod]
    unfold hyS
    rw [CR.mul_comm]
theorem c_specHypersurfaceGenus (o : Bool) (m : Int) (l : List Int) (hl : l.length ≤ 1048576) (n d : Int) : PureCall Tryz.prog 28 [.agg [dint m, .list o 1 (ints l)], dint n, dint d]
    (.tup [dint (if dimCode m l (hyB l.length n d) = 0 then (hyS (rd m l) n.toNat d).val else 0), dint (dimCode m l (hyB l.length n d))]) := by
  by_cases h0 : dimCode m l (hyB l.length n d) = 0
  · obtain ⟨hc, hb⟩ := dimCode_0 h0
    have hs := charB_ser hc
    have hlen := serB_len hs
    simp only [hyB, inB, Bool.and_eq_true, decide_eq_true_eq] at hb
    have key := c_specHyperL (serB_md hs) o l.length (by omega) (rd m l) (by rw [← serB_L hs]; exact hc) n.toNat (by omega) d (by omega)
    rw [serD_of hs, show ((n.toNat : Nat) : Int) = n by omega] at key
    rw [h0, if_pos rfl]
    exact key
  · rw [if_neg h0]
    refine pure_of_vc Tryz.tabOk mixOrd Tryz.func28 rfl rfl ?_
    conv => whnf
    have hand : dimCode m l (hyB l.length n d) = if dimCode m l (inB n 0 ((l.length : Int) - 1)) = 0 then (if inB d 1 100 then 0 else 2) else dimCode m l (inB n 0 ((l.length : Int) - 1)) := dimCode_and
    rw [hand] at h0 ⊢
    repeat' first | ((first | refine z0 ?_ | (apply zI; refine zP (c_l19Code _ _ _ hl _) ?_) | (apply zI; refine zP (c_l01In _ _ _) ?_) | (refine And.intro (fun h => ?_) (fun h => ?_) <;> (try simp only [cnt1, ints_length] at h)) | refine zS ?_ | refine zV ?_ | (apply zI; refine zP vObx ?_) | refine Alt.fst ?_ | refine Or.inl ?_) <;> conv => whnf) | fail
    all_goals first
      | (exfalso; first | omega | (simp_all; done) | (simp_all; omega))
      | (refine congrArg (fun x => D.tup [dint 0, dint x]) ?_; first | (simp_all; done) | (simp_all; omega))
end Go.Proofs

