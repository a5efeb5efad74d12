import Derived.Test.YtndhpcigpghejaaGreatK189
import Derived.Test.YtndhpcigpghejaaGreatK181
namespace Go.Proofs
open Go Go.Vm Go.Fg Go.Fg.PS
set_option maxRecDepth 100000
set_option maxHeartbeats 8000000
set_option linter.unusedSimpArgs false
set_option linter.unusedVariables false
variable {m : Int}
theorem c_DrawMultiplyDual (hW : Wei) (o : Bool) (l : List Nat) (hb : ∀ b ∈ l, b < 256) (hl : l.length ≤ 4611686018427387904) :
   CallsTo Tryz.prog 84 1 [.list o 1 (byts l)] [none]
     (fun d rt => ∃ (m : Int) (t : List (List Int)) (u v : List Int), ((1 ≤ m ∧ m ≤ 10001) ∧ smT t) ∧ u.length ≤ 12 ∧ v.length ≤ 12 ∧ d = .tup [plF m t, .list false 1 (ints u), .list false 1 (ints v)] ∧ rt = [none]) := by
 refine callsTo_of Tryz.tabOk mixOrd 1 _ Tryz.func84 rfl rfl ?_
 conv => whnf
 repeat' first | (refine borA [] (c_l17Some hW o l hb hl 2 (by omega)) (fun d rt' hd => ?_)) | fail
 obtain ⟨m, t, us, hm, hu, hus, rfl, rfl⟩ := hd
 refine ⟨rfl, by simp, ?_⟩
 conv => whnf
 obtain ⟨u, v, rfl⟩ : ∃ u v, us = [u, v] := by
   match us, hu with
   | [u, v], _ => exact ⟨u, v, rfl⟩
 repeat' first | ((first | refine z0 ?_ | refine And.intro (show (_ : List (Option Root))[_]? = _ from rfl) ?_ | (refine And.intro (fun h => ?_) (fun h => ?_) <;> (try simp only [cnt1, ints_length, rows_length, Tb_length, L_length, byts_length] at h) <;> first | (exfalso; first | omega | exact h trivial | (cases h; done)) | skip) | refine zS ?_ | refine zV ?_ | (apply zI; refine zP vObt ?_) | (apply zI; refine zP vObx ?_)) <;> conv => whnf) | fail
 refine ⟨.tup [plF m t, .list false 1 (ints u), .list false 1 (ints v)], [none], ⟨m, t, u, v, hm, hus u (by simp), hus v (by simp), rfl, rfl⟩, Weak.of (kp := 1) [none] ?_⟩
 conv => whnf
 repeat' ((first | refine z1 ?_ | exact trivial) <;> try (conv => whnf))
theorem c_DrawMultiplyElements (hW : Wei) (o : Bool) (l : List Nat) (hb : ∀ b ∈ l, b < 256) (hl : l.length ≤ 4611686018427387904) :
   CallsTo Tryz.prog 94 1 [.list o 1 (byts l)] [none]
     (fun d rt => ∃ (m : Int) (t : List (List Int)) (u v : List Int), ((1 ≤ m ∧ m ≤ 10001) ∧ smT t) ∧ u.length ≤ 12 ∧ v.length ≤ 12 ∧ d = .tup [plF m t, .list false 1 (ints u), .list false 1 (ints v)] ∧ rt = [none]) := by
 refine callsTo_of Tryz.tabOk mixOrd 1 _ Tryz.func94 rfl rfl ?_
 conv => whnf
 repeat' first | (refine borA [] (c_l17Some hW o l hb hl 2 (by omega)) (fun d rt' hd => ?_)) | fail
 obtain ⟨m, t, us, hm, hu, hus, rfl, rfl⟩ := hd
 refine ⟨rfl, by simp, ?_⟩
 conv => whnf
 obtain ⟨u, v, rfl⟩ : ∃ u v, us = [u, v] := by
   match us, hu with
   | [u, v], _ => exact ⟨u, v, rfl⟩
 repeat' first | ((first | refine z0 ?_ | refine And.intro (show (_ : List (Option Root))[_]? = _ from rfl) ?_ | (refine And.intro (fun h => ?_) (fun h => ?_) <;> (try simp only [cnt1, ints_length, rows_length, Tb_length, L_length, byts_length] at h) <;> first | (exfalso; first | omega | exact h trivial | (cases h; done)) | skip) | refine zS ?_ | refine zV ?_ | (apply zI; refine zP vObt ?_) | (apply zI; refine zP vObx ?_)) <;> conv => whnf) | fail
 refine ⟨.tup [plF m t, .list false 1 (ints u), .list false 1 (ints v)], [none], ⟨m, t, u, v, hm, hus u (by simp), hus v (by simp), rfl, rfl⟩, Weak.of (kp := 1) [none] ?_⟩
 conv => whnf
 repeat' ((first | refine z1 ?_ | exact trivial) <;> try (conv => whnf))
theorem c_DrawCoproductOfElement (hW : Wei) (o : Bool) (l : List Nat) (hb : ∀ b ∈ l, b < 256) (hl : l.length ≤ 4611686018427387904) :
   CallsTo Tryz.prog 88 1 [.list o 1 (byts l)] [none]
     (fun d rt => ∃ (m : Int) (t : List (List Int)) (u : List Int), ((1 ≤ m ∧ m ≤ 10001) ∧ smT t) ∧ u.length ≤ 12 ∧ d = .tup [plF m t, .list false 1 (ints u)] ∧ rt = [none]) := by
 refine callsTo_of Tryz.tabOk mixOrd 1 _ Tryz.func88 rfl rfl ?_
 conv => whnf
 repeat' first | (refine borA [] (c_l17Some hW o l hb hl 1 (by omega)) (fun d rt' hd => ?_)) | fail
 obtain ⟨m, t, us, hm, hu, hus, rfl, rfl⟩ := hd
 refine ⟨rfl, by simp, ?_⟩
 conv => whnf
 obtain ⟨u, rfl⟩ : ∃ u, us = [u] := by
   match us, hu with
   | [u], _ => exact ⟨u, rfl⟩
 repeat' first | ((first | refine z0 ?_ | refine And.intro (show (_ : List (Option Root))[_]? = _ from rfl) ?_ | (refine And.intro (fun h => ?_) (fun h => ?_) <;> (try simp only [cnt1, ints_length, rows_length, Tb_length, L_length, byts_length] at h) <;> first | (exfalso; first | omega | exact h trivial | (cases h; done)) | skip) | refine zS ?_ | refine zV ?_ | (apply zI; refine zP vObt ?_) | (apply zI; refine zP vObx ?_)) <;> conv => whnf) | fail
 refine ⟨.tup [plF m t, .list false 1 (ints u)], [none], ⟨m, t, u, hm, hus u (by simp), rfl, rfl⟩, Weak.of (kp := 1) [none] ?_⟩
 conv => whnf
 repeat' ((first | refine z1 ?_ | exact trivial) <;> try (conv => whnf))
end Go.Proofs
