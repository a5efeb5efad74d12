/- Products of elements of kernel algebras: the program. -/
-- tables
-- rec
import Derived.Test.YtmnphhjljlbfmaaGreatK35
namespace Go.Proofs
open Go Go.Vm Go.Fg Go.Fg.PS
set_option maxRecDepth 100000
set_option maxHeartbeats 4000000
set_option linter.unusedSimpArgs false
set_option linter.unusedVariables false
theorem kC_0 {m : Int} {t : List (List Int)} (h : kC m t = 0) : rkC m t = 0 ∧ htC m t = 0 ∧ rkT m t ≠ 0 ∧ 2 * ((rkT m t : Int) - 1) ≤ (t.length : Int) - 1 := by
  unfold kC at h
  split at h
  · rename_i h1
    split at h
    · omega
    · rename_i h2
      refine ⟨h1, ?_, ?_, by omega⟩
      · unfold rkC at h1
        split at h1
        · assumption
        · exact h1
      · intro e
        unfold rkC at h1
        simp only [e, if_true] at h1
        split at h1
        · omega
        · rename_i h3; exact h3 h1
  · rename_i h1; exact absurd h h1
theorem updB_rowS {m : Int} {q i a : Nat} {F : PS (PS (Zm m))} {g : PS (Zm m)} (hi : i < q) (ha : q ≤ a) : updB (rows true (sqT q F)) [i] (fun l => l.take 0 ++ ((ints (L a g)).take (min a q) ++ l.drop (min a q))) = rows true (sqT q (F.upd i g)) := by
  rw [updB_rows _ (by simpa using hi) _ (L q g), sqT_set F g hi]
  rw [sqT_getD F hi, Nat.min_eq_right ha, List.take_zero, List.nil_append, ints_take, ints_drop, ints_append, L_take g ha]
  rw [show (L q (F.c i)).drop q = [] from List.drop_eq_nil_of_le (by simp), List.append_nil]
def tbq {m : Int} (q : Nat) (f : PS (PS (Zm m))) (k : Nat) : List D := (List.range k).map fun c => .list true 1 (rows true (sqT q (pw f c)))
@[simp] theorem tbq_length {m : Int} (q : Nat) (f : PS (PS (Zm m))) (k : Nat) : (tbq q f k).length = k := by simp [tbq]
theorem tbq_push {m : Int} {q k : Nat} {f : PS (PS (Zm m))} {t : List D} (h : t = rows true (sqT q (pw f k))) : tbq q f k ++ [.list true 1 t] = tbq q f (k + 1) := by
  subst h; simp [tbq, List.range_succ]
theorem tbq_at {m : Int} {q k i : Nat} {f : PS (PS (Zm m))} (h : i < k) : (tbq q f k)[i]? = some (.list true 1 (rows true (sqT q (pw f i)))) := by simp [tbq, h]
theorem vQlen {m : Int} {q k a : Nat} {f : PS (PS (Zm m))} (e : a = k) : a = (tbq q f k).length := by rw [tbq_length]; exact e
theorem vQL {m : Int} {q k a : Nat} {f : PS (PS (Zm m))} (i : Nat) (e : a = i) (h : i < k) : LoadRow (tbq q f k) [] a (.list true 1 (rows true (sqT q (pw f i)))) := by
  subst e; exact ⟨_, rfl, tbq_at h⟩
theorem vQG {m : Int} {q k a : Nat} {f : PS (PS (Zm m))} (i : Nat) (e : a = i) (h : i < k) : getB (tbq q f k) ([] ++ [a]) = some (rows true (sqT q (pw f i))) := by
  subst e
  show (match (tbq q f k)[a]? with | some (.list true _ cs') => getB cs' [] | _ => none) = _
  rw [tbq_at h]; rfl
theorem vQsz {m : Int} {q k a : Nat} {f : PS (PS (Zm m))} (e : a = k) : (0 + a) * 1 ≤ (tbq q f k).length := by rw [tbq_length]; omega
theorem sub_tbq {m : Int} {q k a : Nat} {f : PS (PS (Zm m))} (e : a = k) : sub (tbq q f k) 1 0 a = tbq q f k := by
  subst e
  simp only [sub, Nat.zero_mul, List.drop_zero, Nat.mul_one]
  rw [List.take_of_length_le (by simp)]
theorem one_l (cs : List D) : ∀ d ∈ [D.list true 1 cs], d.one = true := fun d hd => by
  simp only [List.mem_cons, List.not_mem_nil, or_false] at hd
  subst hd; rfl
end Go.Proofs

