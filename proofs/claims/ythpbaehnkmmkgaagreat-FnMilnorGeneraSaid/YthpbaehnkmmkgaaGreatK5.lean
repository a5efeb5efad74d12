/- Genera: products and lists of values on projective spaces. -/
import Derived.Test.YthpbaehnkmmkgaaGreatK4
namespace Go.Proofs
open Go Go.Vm Go.Fg Go.Fg.PS
set_option maxRecDepth 100000
set_option maxHeartbeats 4000000
set_option linter.unusedSimpArgs false
set_option linter.unusedVariables false

def projS {m : Int} (a : PS (Zm m)) : PS (Zm m) := ⟨fun k => (pw a (k + 1)).c k⟩
theorem c_projI (o : Bool) (m : Int) (l : List Int) (hc : charB m l = true) (x : Int) (hx : inB x 0 ((l.length : Int) - 1) = true) : PureCall Tryz.prog 159 [.agg [dint m, .list o 1 (ints l)], dint x] (dint ((projS (rd m l)).c x.toNat).val) := by
  have hs := charB_ser hc
  have hlen := serB_len hs
  simp only [inB, decide_eq_true_eq] at hx
  have key := c_projective (serB_md hs) o l.length (by omega) (rd m l) x.toNat (by omega)
  rw [serD_of hs, show ((x.toNat : Nat) : Int) = x by omega] at key
  exact key
theorem inB_nat {i n : Nat} (h : i < n) : inB (i : Int) 0 ((n : Int) - 1) = true := by simp [inB]; omega
theorem c_implProjectiveGenera (o : Bool) (m : Int) (l : List Int) (hl : l.length ≤ 1048576) (hc : charB m l = true) : PureCall Tryz.prog 15 [.agg [dint m, .list o 1 (ints l)]]
    (.tup [.list true 1 (ints (L l.length (projS (rd m l)))), dint 0]) := by
  have hs := charB_ser hc
  have hm := serB_md hs
  have hm1 := hm.1
  have hm2 := hm.2
  have hlen := serB_len hs
  refine pure_of_vc Tryz.tabOk mixOrd Tryz.func15 rfl rfl ?_
  conv => whnf
  repeat' first | ((first | refine z0 ?_ | (apply zI; refine zP (c_IsCharacteristic _ _ _ hl) ?_) | (refine And.intro (fun h => ?_) (fun h => ?_) <;> (try simp only [cnt1, ints_length] at h)) | refine zS ?_ | refine zV ?_ | (apply zI; refine zP vObx ?_) | refine Alt.fst ?_ | refine Or.inl ?_) <;> conv => whnf) | fail
  · refine loop_at Tryz.tabOk mixOrd (α := Nat) (fun i => [(12, dint l.length), (13, dint i), (4, .ref 2 [] 1 0 i), (9, .undef)]) (fun i => [(2, some ⟨false, 1, ints (L i (projS (rd m l)))⟩)]) (fun i => i ≤ l.length) (fun i => l.length - i) (0) ?_ ?_ ?_
    · omega
    · conv => whnf
      first | refine WeakS.auto ?_ | refine Weak.auto ?_
      conv => whnf
      repeat' ((first | refine z1 ?_ | refine z2 ?_ | refine zV ?_ | refine And.intro vRepl ?_ | refine And.intro vReplL ?_ | refine And.intro ?_ ?_ | exact trivial) <;> try (conv => whnf))
    intro i hi
    conv => whnf
    repeat' first | ((first | refine z0 ?_ | (apply zI; refine zP (c_projI _ _ _ hc _ (inB_nat (by omega))) ?_) | (refine And.intro (fun h => ?_) (fun h => ?_) <;> (try simp only [cnt1, ints_length] at h)) | refine zS ?_ | refine zV ?_ | (apply zI; refine zP vObx ?_) | refine Alt.fst ?_ | refine Or.inl ?_) <;> conv => whnf) | fail
    · refine Exists.intro (i + 1) (And.intro (by omega) (And.intro (by omega) ?_))
      first | refine WeakS.auto ?_ | refine Weak.auto ?_
      conv => whnf
      repeat' ((first | refine z1 ?_ | refine z2 ?_ | refine zV ?_ | refine And.intro vRepl ?_ | refine And.intro vReplL ?_ | refine And.intro ?_ ?_ | exact trivial) <;> try (conv => whnf))
      exact ints_congr' (L_push rfl)
    · rw [show i = l.length by omega]
  · exact absurd (hc.symm.trans h) (by simp)
end Go.Proofs

