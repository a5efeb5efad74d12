import Derived.Test.YtndhpcigpghejaaGreatK190
namespace Go.Proofs
open Go Go.Vm Go.Fg Go.Fg.PS
set_option maxRecDepth 100000
set_option maxHeartbeats 8000000
set_option linter.unusedSimpArgs false
set_option linter.unusedVariables false
variable {m : Int}
theorem c_DrawDualPower (hW : Wei) (o : Bool) (l : List Nat) (hb : ∀ b ∈ l, b < 256) (hl : l.length ≤ 4611686018427387904) :
   CallsTo Tryz.prog 91 1 [.list o 1 (byts l)] [none]
     (fun d rt => ∃ (m : Int) (t : List (List Int)) (u : List Int) (k : Int), ((1 ≤ m ∧ m ≤ 10001) ∧ smT t) ∧ u.length ≤ 12 ∧ (-4611686018427387904 ≤ k ∧ k ≤ 1099511627778) ∧ d = .tup [plF m t, .list false 1 (ints u), dint k] ∧ rt = [none]) := by
 refine callsTo_of Tryz.tabOk mixOrd 1 _ Tryz.func91 rfl rfl ?_
 conv => whnf
 repeat' first | (refine borA [] (c_l17Some hW o l hb hl 1 (by omega)) (fun d rt' hd => ?_)) | fail
 obtain ⟨m, t, us, hm, hu, hus, rfl, rfl⟩ := hd
 refine ⟨rfl, by simp, ?_⟩
 conv => whnf
 obtain ⟨u, rfl⟩ : ∃ u, us = [u] := by
   match us, hu with
   | [u], _ => exact ⟨u, rfl⟩
 repeat' first | (refine borA [] (c_l01From o l hb hl) (fun d rt' hd => ?_)) | fail
 obtain ⟨h0, rfl, rfl⟩ := hd
 refine ⟨rfl, by simp, ?_⟩
 conv => whnf
 repeat' first | (refine borA [3] (c_l01Next o l hb hl 0 (by omega) h0 5) (fun d rt' hd => ?_)) | ((first | refine Alt.snd (And.intro (show mixOk _ _ = true by decide +kernel) ?_) | refine zS ?_ | refine zV ?_ | (apply zI; refine zP vObx ?_)) <;> conv => whnf) | fail
 obtain ⟨x, a1, h1, hx, ha1, rfl, rfl⟩ := hd
 refine ⟨rfl, by simp, ?_⟩
 conv => whnf
 have hx2 := hx.2 (by omega)
 repeat' first | (refine borA [3] (c_l01Count o l hb hl a1 ha1 h1 100 (by omega)) (fun d rt' hd => ?_)) | ((first | refine And.intro (show (_ : List (Option Root))[_]? = _ from rfl) ?_ | refine zV ?_) <;> conv => whnf) | fail
 obtain ⟨n, a2, h2, hn, ha2, rfl, rfl⟩ := hd
 refine ⟨rfl, by simp, ?_⟩
 conv => whnf
 repeat' first | (refine borA [3, 4] (c_l01Pick o l hb hl a2 ha2 h2 [1 + x, n] (by simp)) (fun d rt' hd => ?_)) | ((first | refine And.intro (show (_ : List (Option Root))[_]? = _ from rfl) ?_) <;> conv => whnf) | fail
 obtain ⟨k, a3, h3, hk, ha3, rfl, rfl⟩ := hd
 refine ⟨rfl, by simp, ?_⟩
 conv => whnf
 have hk2 : -4611686018427387904 ≤ k ∧ k ≤ 1099511627778 := by
   simp only [List.mem_cons, List.not_mem_nil, or_false] at hk
   omega
 repeat' first | ((first | refine z0 ?_ | refine And.intro (show (_ : List (Option Root))[_]? = _ from rfl) ?_ | (refine And.intro (fun h => ?_) (fun h => ?_) <;> (try simp only [cnt1, ints_length, rows_length, Tb_length, L_length, byts_length] at h) <;> first | (exfalso; first | omega | exact h trivial | (cases h; done)) | skip) | refine zS ?_ | refine zV ?_ | (apply zI; refine zP vObt ?_) | (apply zI; refine zP vObx ?_)) <;> conv => whnf) | fail
 refine ⟨.tup [plF m t, .list false 1 (ints u), dint k], [none], ⟨m, t, u, k, hm, hus u (by simp), hk2, rfl, rfl⟩, Weak.of (kp := 1) [none] ?_⟩
 conv => whnf
 repeat' ((first | refine z1 ?_ | exact trivial) <;> try (conv => whnf))
end Go.Proofs
