/- Draws of characteristic series. -/
-- tables
-- rec
import Derived.Test.YthpbaehnkmmkgaaGreatK163
namespace Go.Proofs
open Go Go.Vm Go.Fg Go.Fg.PS
set_option maxRecDepth 100000
set_option maxHeartbeats 4000000
set_option linter.unusedSimpArgs false
set_option linter.unusedVariables false
variable {m : Int}
theorem c_l19Draw (o : Bool) (l : List Nat) (hb : ∀ b ∈ l, b < 256) (hl : l.length ≤ 4611686018427387904) (a : Nat) (ha : a ≤ l.length) (hs : Int) :
    CallsTo Tryz.prog 157 2 [.ptr 1 [] 0] [none, some (srcR o l a hs)]
      (fun d rt => ∃ (m : Int) (us : List Int) (a' : Nat) (h' : Int), (0 ≤ m ∧ m ≤ 10001) ∧ (1 ≤ us.length ∧ us.length ≤ 21) ∧ a' ≤ l.length ∧ d = seF m us ∧ rt = [none, some (srcR o l a' h')]) := by
  refine callsTo_of Tryz.tabOk mixOrd 2 _ Tryz.func157 rfl rfl ?_
  conv => whnf
  repeat' first | (refine borA [1] (c_l02Spoil o l hb hl a ha hs) (fun d rt' hd => ?_)) | ((first | refine z0 ?_ | (refine And.intro (fun h => ?_) (fun h => ?_) <;> (try simp only [cnt1, ints_length] at h)) | refine zS ?_ | refine zV ?_ | (apply zI; refine zP vObt ?_) | (apply zI; refine zP vObx ?_) | refine zA ?_ | refine Alt.fst ?_ | refine Or.inl ?_) <;> conv => whnf) | fail
  obtain ⟨m, n, us, a1, h1, hm, hn, hu, ha1, rfl, rfl⟩ := hd
  refine ⟨rfl, by simp, ?_⟩
  conv => whnf
  repeat' first | (refine borA [1] (c_l01Next o l hb hl a1 ha1 h1 16) (fun d rt' hd => ?_)) | ((first | refine z0 ?_ | refine Alt.snd (And.intro (show mixOk _ _ = true by decide +kernel) ?_) | refine And.intro (show (_ : List (Option Root))[_]? = _ from rfl) ?_ | (refine And.intro (fun h => ?_) (fun h => ?_) <;> (try simp only [cnt1, ints_length] at h)) | refine zS ?_ | refine zV ?_ | (apply zI; refine zP vObt ?_) | (apply zI; refine zP vObx ?_) | refine zA ?_ | refine Alt.fst ?_ | refine Or.inl ?_) <;> conv => whnf) | fail
  obtain ⟨x, a2, h2, hx, ha2, rfl, rfl⟩ := hd
  refine ⟨rfl, by simp, ?_⟩
  conv => whnf
  have hx2 := hx.2 (by omega)
  repeat' first | ((first | refine z0 ?_ | refine Alt.snd (And.intro (show mixOk _ _ = true by decide +kernel) ?_) | refine And.intro (show (_ : List (Option Root))[_]? = _ from rfl) ?_ | (refine And.intro (fun h => ?_) (fun h => ?_) <;> (try simp only [cnt1, ints_length, rows_length, Tb_length, L_length, byts_length] at h) <;> first | (exfalso; first | omega | exact h trivial | (cases h; done)) | skip) | refine zS ?_ | refine zV ?_ | (apply zI; refine zP vObt ?_) | (apply zI; refine zP vObx ?_) | refine zA ?_ | refine And.intro (ints_plain _) ?_ | refine Alt.fst ?_ | refine Or.inl ?_) <;> conv => whnf) | fail
  · first
      | (refine ⟨seF m ((us.set 0 1).take n), [none, some (srcR o l a2 h2)], ⟨m, (us.set 0 1).take n, a2, h2, hm, by simp; omega, ha2, rfl, rfl⟩, Weak.trans (Weak.freezeR (kp := 2) (r := 2) (s0 := 1) (env' := [seF m ((us.set 0 1).take n)]) rfl rfl (fz_one (fz_se (by simp; omega) (by simp)))) (wkA (kp := 2) [none, some 1])⟩)
      | (refine ⟨seF m ((us.set 0 1).take n), [none, some (srcR o l a2 h2)], ⟨m, (us.set 0 1).take n, a2, h2, hm, by simp; omega, ha2, rfl, rfl⟩, Weak.trans (Weak.freezeR (kp := 2) (r := 3) (s0 := 1) (env' := [seF m ((us.set 0 1).take n)]) rfl rfl (fz_one (fz_se (by simp; omega) (by simp)))) (wkA (kp := 2) [none, some 1])⟩)
      | (refine ⟨seF m ((us.set 0 1).take n), [none, some (srcR o l a2 h2)], ⟨m, (us.set 0 1).take n, a2, h2, hm, by simp; omega, ha2, rfl, rfl⟩, Weak.trans (Weak.freezeR (kp := 2) (r := 4) (s0 := 1) (env' := [seF m ((us.set 0 1).take n)]) rfl rfl (fz_one (fz_se (by simp; omega) (by simp)))) (wkA (kp := 2) [none, some 1])⟩)
  · first
      | (refine ⟨seF m (us.take n), [none, some (srcR o l a2 h2)], ⟨m, us.take n, a2, h2, hm, by simp; omega, ha2, rfl, rfl⟩, Weak.trans (Weak.freezeR (kp := 2) (r := 2) (s0 := 1) (env' := [seF m (us.take n)]) rfl rfl (fz_one (fz_se (by omega) (by simp)))) (wkA (kp := 2) [none, some 1])⟩)
      | (refine ⟨seF m (us.take n), [none, some (srcR o l a2 h2)], ⟨m, us.take n, a2, h2, hm, by simp; omega, ha2, rfl, rfl⟩, Weak.trans (Weak.freezeR (kp := 2) (r := 3) (s0 := 1) (env' := [seF m (us.take n)]) rfl rfl (fz_one (fz_se (by omega) (by simp)))) (wkA (kp := 2) [none, some 1])⟩)
      | (refine ⟨seF m (us.take n), [none, some (srcR o l a2 h2)], ⟨m, us.take n, a2, h2, hm, by simp; omega, ha2, rfl, rfl⟩, Weak.trans (Weak.freezeR (kp := 2) (r := 4) (s0 := 1) (env' := [seF m (us.take n)]) rfl rfl (fz_one (fz_se (by omega) (by simp)))) (wkA (kp := 2) [none, some 1])⟩)
theorem c_DrawProjectiveGenera (o : Bool) (l : List Nat) (hb : ∀ b ∈ l, b < 256) (hl : l.length ≤ 4611686018427387904) :
    CallsTo Tryz.prog 14 1 [.list o 1 (byts l)] [none]
      (fun d rt => ∃ (m : Int) (us : List Int), (0 ≤ m ∧ m ≤ 10001) ∧ us.length ≤ 21 ∧ d = seF m us ∧ rt = [none]) := by
  refine callsTo_of Tryz.tabOk mixOrd 1 _ Tryz.func14 rfl rfl ?_
  conv => whnf
  repeat' first | (refine borA [] (c_l01From o l hb hl) (fun d rt' hd => ?_)) | ((first | refine z0 ?_ | (refine And.intro (fun h => ?_) (fun h => ?_) <;> (try simp only [cnt1, ints_length] at h)) | refine zS ?_ | refine zV ?_ | (apply zI; refine zP vObt ?_) | (apply zI; refine zP vObx ?_) | refine zA ?_ | refine Alt.fst ?_ | refine Or.inl ?_) <;> conv => whnf) | fail
  obtain ⟨h0, rfl, rfl⟩ := hd
  refine ⟨rfl, by simp, ?_⟩
  conv => whnf
  repeat' first | (refine borA [1] (c_l19Draw o l hb hl 0 (by omega) h0) (fun d rt' hd => ?_)) | (refine borA [2] (c_l19Draw o l hb hl 0 (by omega) h0) (fun d rt' hd => ?_)) | (refine borA [3] (c_l19Draw o l hb hl 0 (by omega) h0) (fun d rt' hd => ?_)) | (refine borA [4] (c_l19Draw o l hb hl 0 (by omega) h0) (fun d rt' hd => ?_)) | ((first | refine z0 ?_ | refine Alt.snd (And.intro (show mixOk _ _ = true by decide +kernel) ?_) | refine And.intro (show (_ : List (Option Root))[_]? = _ from rfl) ?_ | (refine And.intro (fun h => ?_) (fun h => ?_) <;> (try simp only [cnt1, ints_length] at h)) | refine zS ?_ | refine zV ?_ | (apply zI; refine zP vObt ?_) | (apply zI; refine zP vObx ?_) | refine zA ?_ | refine Alt.fst ?_ | refine Or.inl ?_) <;> conv => whnf) | fail
  obtain ⟨m, us, a1, h1, hm, hu, ha1, rfl, rfl⟩ := hd
  refine ⟨rfl, by simp, ?_⟩
  conv => whnf
  repeat' first | ((first | refine z0 ?_ | refine Alt.snd (And.intro (show mixOk _ _ = true by decide +kernel) ?_) | refine And.intro (show (_ : List (Option Root))[_]? = _ from rfl) ?_ | (refine And.intro (fun h => ?_) (fun h => ?_) <;> (try simp only [cnt1, ints_length] at h)) | refine zS ?_ | refine zV ?_ | (apply zI; refine zP vObt ?_) | (apply zI; refine zP vObx ?_) | refine zA ?_ | refine Alt.fst ?_ | refine Or.inl ?_) <;> conv => whnf) | fail
  refine ⟨seF m us, [none], ⟨m, us, hm, by omega, rfl, rfl⟩, Weak.of (kp := 1) [none] ?_⟩
  conv => whnf
  repeat' ((first | refine z1 ?_ | refine z2 ?_ | refine zV ?_ | refine And.intro ?_ ?_ | exact trivial) <;> try (conv => whnf))
theorem c_DrawLawOfGenus (o : Bool) (l : List Nat) (hb : ∀ b ∈ l, b < 256) (hl : l.length ≤ 4611686018427387904) :
    CallsTo Tryz.prog 46 1 [.list o 1 (byts l)] [none]
      (fun d rt => ∃ (m : Int) (us : List Int), (0 ≤ m ∧ m ≤ 10001) ∧ us.length ≤ 21 ∧ d = seF m us ∧ rt = [none]) := by
  refine callsTo_of Tryz.tabOk mixOrd 1 _ Tryz.func46 rfl rfl ?_
  conv => whnf
  repeat' first | (refine borA [] (c_l01From o l hb hl) (fun d rt' hd => ?_)) | ((first | refine z0 ?_ | (refine And.intro (fun h => ?_) (fun h => ?_) <;> (try simp only [cnt1, ints_length] at h)) | refine zS ?_ | refine zV ?_ | (apply zI; refine zP vObt ?_) | (apply zI; refine zP vObx ?_) | refine zA ?_ | refine Alt.fst ?_ | refine Or.inl ?_) <;> conv => whnf) | fail
  obtain ⟨h0, rfl, rfl⟩ := hd
  refine ⟨rfl, by simp, ?_⟩
  conv => whnf
  repeat' first | (refine borA [1] (c_l19Draw o l hb hl 0 (by omega) h0) (fun d rt' hd => ?_)) | (refine borA [2] (c_l19Draw o l hb hl 0 (by omega) h0) (fun d rt' hd => ?_)) | (refine borA [3] (c_l19Draw o l hb hl 0 (by omega) h0) (fun d rt' hd => ?_)) | (refine borA [4] (c_l19Draw o l hb hl 0 (by omega) h0) (fun d rt' hd => ?_)) | ((first | refine z0 ?_ | refine Alt.snd (And.intro (show mixOk _ _ = true by decide +kernel) ?_) | refine And.intro (show (_ : List (Option Root))[_]? = _ from rfl) ?_ | (refine And.intro (fun h => ?_) (fun h => ?_) <;> (try simp only [cnt1, ints_length] at h)) | refine zS ?_ | refine zV ?_ | (apply zI; refine zP vObt ?_) | (apply zI; refine zP vObx ?_) | refine zA ?_ | refine Alt.fst ?_ | refine Or.inl ?_) <;> conv => whnf) | fail
  obtain ⟨m, us, a1, h1, hm, hu, ha1, rfl, rfl⟩ := hd
  refine ⟨rfl, by simp, ?_⟩
  conv => whnf
  repeat' first | ((first | refine z0 ?_ | refine Alt.snd (And.intro (show mixOk _ _ = true by decide +kernel) ?_) | refine And.intro (show (_ : List (Option Root))[_]? = _ from rfl) ?_ | (refine And.intro (fun h => ?_) (fun h => ?_) <;> (try simp only [cnt1, ints_length] at h)) | refine zS ?_ | refine zV ?_ | (apply zI; refine zP vObt ?_) | (apply zI; refine zP vObx ?_) | refine zA ?_ | refine Alt.fst ?_ | refine Or.inl ?_) <;> conv => whnf) | fail
  refine ⟨seF m us, [none], ⟨m, us, hm, by omega, rfl, rfl⟩, Weak.of (kp := 1) [none] ?_⟩
  conv => whnf
  repeat' ((first | refine z1 ?_ | refine z2 ?_ | refine zV ?_ | refine And.intro ?_ ?_ | exact trivial) <;> try (conv => whnf))
theorem c_DrawProjectiveGenus (o : Bool) (l : List Nat) (hb : ∀ b ∈ l, b < 256) (hl : l.length ≤ 4611686018427387904) :
    CallsTo Tryz.prog 44 1 [.list o 1 (byts l)] [none]
      (fun d rt => ∃ (m : Int) (us : List Int) (n : Int), (0 ≤ m ∧ m ≤ 10001) ∧ us.length ≤ 21 ∧ (-4611686018427387904 ≤ n ∧ n ≤ 1099511627776) ∧ d = .tup [seF m us, dint n] ∧ rt = [none]) := by
  refine callsTo_of Tryz.tabOk mixOrd 1 _ Tryz.func44 rfl rfl ?_
  conv => whnf
  repeat' first | (refine borA [] (c_l01From o l hb hl) (fun d rt' hd => ?_)) | ((first | refine z0 ?_ | (refine And.intro (fun h => ?_) (fun h => ?_) <;> (try simp only [cnt1, ints_length] at h)) | refine zS ?_ | refine zV ?_ | (apply zI; refine zP vObt ?_) | (apply zI; refine zP vObx ?_) | refine zA ?_ | refine Alt.fst ?_ | refine Or.inl ?_) <;> conv => whnf) | fail
  obtain ⟨h0, rfl, rfl⟩ := hd
  refine ⟨rfl, by simp, ?_⟩
  conv => whnf
  repeat' first | (refine borA [1] (c_l19Draw o l hb hl 0 (by omega) h0) (fun d rt' hd => ?_)) | (refine borA [2] (c_l19Draw o l hb hl 0 (by omega) h0) (fun d rt' hd => ?_)) | (refine borA [3] (c_l19Draw o l hb hl 0 (by omega) h0) (fun d rt' hd => ?_)) | (refine borA [4] (c_l19Draw o l hb hl 0 (by omega) h0) (fun d rt' hd => ?_)) | ((first | refine z0 ?_ | refine Alt.snd (And.intro (show mixOk _ _ = true by decide +kernel) ?_) | refine And.intro (show (_ : List (Option Root))[_]? = _ from rfl) ?_ | (refine And.intro (fun h => ?_) (fun h => ?_) <;> (try simp only [cnt1, ints_length] at h)) | refine zS ?_ | refine zV ?_ | (apply zI; refine zP vObt ?_) | (apply zI; refine zP vObx ?_) | refine zA ?_ | refine Alt.fst ?_ | refine Or.inl ?_) <;> conv => whnf) | fail
  obtain ⟨m, us, a1, h1, hm, hu, ha1, rfl, rfl⟩ := hd
  refine ⟨rfl, by simp, ?_⟩
  conv => whnf
  have ec : ((cnt 1 (ints us) : Nat) : Int) - 1 = (us.length : Int) - 1 := by simp [cnt1]
  repeat' first | (refine borA [1] (c_l01Count o l hb hl a1 ha1 h1 (((cnt 1 (ints us) : Nat) : Int) - 1) (by rw [ec]; omega)) (fun d rt' hd => ?_)) | (refine borA [2] (c_l01Count o l hb hl a1 ha1 h1 (((cnt 1 (ints us) : Nat) : Int) - 1) (by rw [ec]; omega)) (fun d rt' hd => ?_)) | (refine borA [3] (c_l01Count o l hb hl a1 ha1 h1 (((cnt 1 (ints us) : Nat) : Int) - 1) (by rw [ec]; omega)) (fun d rt' hd => ?_)) | (refine borA [4] (c_l01Count o l hb hl a1 ha1 h1 (((cnt 1 (ints us) : Nat) : Int) - 1) (by rw [ec]; omega)) (fun d rt' hd => ?_)) | ((first | refine z0 ?_ | refine Alt.snd (And.intro (show mixOk _ _ = true by decide +kernel) ?_) | refine And.intro (show (_ : List (Option Root))[_]? = _ from rfl) ?_ | (refine And.intro (fun h => ?_) (fun h => ?_) <;> (try simp only [cnt1, ints_length] at h)) | refine zS ?_ | refine zV ?_ | (apply zI; refine zP vObt ?_) | (apply zI; refine zP vObx ?_) | refine zA ?_ | refine Alt.fst ?_ | refine Or.inl ?_) <;> conv => whnf) | fail
  obtain ⟨n, a2, h2, hn, ha2, rfl, rfl⟩ := hd
  refine ⟨rfl, by simp, ?_⟩
  conv => whnf
  repeat' first | ((first | refine z0 ?_ | refine Alt.snd (And.intro (show mixOk _ _ = true by decide +kernel) ?_) | refine And.intro (show (_ : List (Option Root))[_]? = _ from rfl) ?_ | (refine And.intro (fun h => ?_) (fun h => ?_) <;> (try simp only [cnt1, ints_length] at h)) | refine zS ?_ | refine zV ?_ | (apply zI; refine zP vObt ?_) | (apply zI; refine zP vObx ?_) | refine zA ?_ | refine Alt.fst ?_ | refine Or.inl ?_) <;> conv => whnf) | fail
  refine ⟨.tup [seF m us, dint n], [none], ⟨m, us, n, hm, by omega, hn, rfl, rfl⟩, Weak.of (kp := 1) [none] ?_⟩
  conv => whnf
  repeat' ((first | refine z1 ?_ | refine z2 ?_ | refine zV ?_ | refine And.intro ?_ ?_ | exact trivial) <;> try (conv => whnf))
theorem c_DrawMilnorGenus (o : Bool) (l : List Nat) (hb : ∀ b ∈ l, b < 256) (hl : l.length ≤ 4611686018427387904) :
    CallsTo Tryz.prog 35 1 [.list o 1 (byts l)] [none]
      (fun d rt => ∃ (m : Int) (us : List Int) (n k : Int), (0 ≤ m ∧ m ≤ 10001) ∧ us.length ≤ 21 ∧ (-4611686018427387904 ≤ n ∧ n ≤ 1099511627776) ∧ (-4611686018427387904 ≤ k ∧ k ≤ 1099511627777) ∧ d = .tup [seF m us, dint n, dint k] ∧ rt = [none]) := by
  refine callsTo_of Tryz.tabOk mixOrd 1 _ Tryz.func35 rfl rfl ?_
  conv => whnf
  repeat' first | (refine borA [] (c_l01From o l hb hl) (fun d rt' hd => ?_)) | ((first | refine z0 ?_ | (refine And.intro (fun h => ?_) (fun h => ?_) <;> (try simp only [cnt1, ints_length] at h)) | refine zS ?_ | refine zV ?_ | (apply zI; refine zP vObt ?_) | (apply zI; refine zP vObx ?_) | refine zA ?_ | refine Alt.fst ?_ | refine Or.inl ?_) <;> conv => whnf) | fail
  obtain ⟨h0, rfl, rfl⟩ := hd
  refine ⟨rfl, by simp, ?_⟩
  conv => whnf
  repeat' first | (refine borA [1] (c_l19Draw o l hb hl 0 (by omega) h0) (fun d rt' hd => ?_)) | (refine borA [2] (c_l19Draw o l hb hl 0 (by omega) h0) (fun d rt' hd => ?_)) | (refine borA [3] (c_l19Draw o l hb hl 0 (by omega) h0) (fun d rt' hd => ?_)) | (refine borA [4] (c_l19Draw o l hb hl 0 (by omega) h0) (fun d rt' hd => ?_)) | ((first | refine z0 ?_ | refine Alt.snd (And.intro (show mixOk _ _ = true by decide +kernel) ?_) | refine And.intro (show (_ : List (Option Root))[_]? = _ from rfl) ?_ | (refine And.intro (fun h => ?_) (fun h => ?_) <;> (try simp only [cnt1, ints_length] at h)) | refine zS ?_ | refine zV ?_ | (apply zI; refine zP vObt ?_) | (apply zI; refine zP vObx ?_) | refine zA ?_ | refine Alt.fst ?_ | refine Or.inl ?_) <;> conv => whnf) | fail
  obtain ⟨m, us, a1, h1, hm, hu, ha1, rfl, rfl⟩ := hd
  refine ⟨rfl, by simp, ?_⟩
  conv => whnf
  have ec : ((cnt 1 (ints us) : Nat) : Int) = (us.length : Int) := by simp [cnt1]
  repeat' first | (refine borA [1] (c_l01Count o l hb hl a1 ha1 h1 ((cnt 1 (ints us) : Nat) : Int) (by rw [ec]; omega)) (fun d rt' hd => ?_)) | (refine borA [2] (c_l01Count o l hb hl a1 ha1 h1 ((cnt 1 (ints us) : Nat) : Int) (by rw [ec]; omega)) (fun d rt' hd => ?_)) | (refine borA [3] (c_l01Count o l hb hl a1 ha1 h1 ((cnt 1 (ints us) : Nat) : Int) (by rw [ec]; omega)) (fun d rt' hd => ?_)) | (refine borA [4] (c_l01Count o l hb hl a1 ha1 h1 ((cnt 1 (ints us) : Nat) : Int) (by rw [ec]; omega)) (fun d rt' hd => ?_)) | ((first | refine z0 ?_ | refine Alt.snd (And.intro (show mixOk _ _ = true by decide +kernel) ?_) | refine And.intro (show (_ : List (Option Root))[_]? = _ from rfl) ?_ | (refine And.intro (fun h => ?_) (fun h => ?_) <;> (try simp only [cnt1, ints_length] at h)) | refine zS ?_ | refine zV ?_ | (apply zI; refine zP vObt ?_) | (apply zI; refine zP vObx ?_) | refine zA ?_ | refine Alt.fst ?_ | refine Or.inl ?_) <;> conv => whnf) | fail
  obtain ⟨n, a2, h2, hn, ha2, rfl, rfl⟩ := hd
  refine ⟨rfl, by simp, ?_⟩
  conv => whnf
  cases hin : inB n 0 ((cnt 1 (ints us) : Nat) : Int) with
  | false =>
    have key := c_l01In n 0 ((cnt 1 (ints us) : Nat) : Int)
    rw [hin] at key
    repeat' first | ((first | refine z0 ?_ | refine Alt.snd (And.intro (show mixOk _ _ = true by decide +kernel) ?_) | refine And.intro (show (_ : List (Option Root))[_]? = _ from rfl) ?_ | (apply zI; refine zP (key) ?_) | (refine And.intro (fun h => ?_) (fun h => ?_) <;> (try simp only [cnt1, ints_length, rows_length, Tb_length, L_length, byts_length] at h) <;> first | (exfalso; first | omega | exact h trivial | (cases h; done)) | skip) | refine zS ?_ | refine zV ?_ | (apply zI; refine zP vObt ?_) | (apply zI; refine zP vObx ?_) | refine zA ?_ | refine Alt.fst ?_ | refine Or.inl ?_) <;> conv => whnf) | fail
    refine ⟨.tup [seF m us, dint n, dint 1], [none], ⟨m, us, n, 1, hm, by omega, hn, by omega, rfl, rfl⟩, Weak.of (kp := 1) [none] ?_⟩
    conv => whnf
    repeat' ((first | refine z1 ?_ | refine z2 ?_ | refine zV ?_ | refine And.intro ?_ ?_ | exact trivial) <;> try (conv => whnf))
  | true =>
    have key := c_l01In n 0 ((cnt 1 (ints us) : Nat) : Int)
    rw [hin] at key
    have hin2 : 0 ≤ n ∧ n ≤ ((cnt 1 (ints us) : Nat) : Int) := by simpa [inB] using hin
    have hin3 : ((cnt 1 (ints us) : Nat) : Int) ≤ 21 := by rw [ec]; omega
    repeat' first | (refine borA [1] (c_l01Count o l hb hl a2 ha2 h2 (((cnt 1 (ints us) : Nat) : Int) - n) (by omega)) (fun d rt' hd => ?_)) | (refine borA [2] (c_l01Count o l hb hl a2 ha2 h2 (((cnt 1 (ints us) : Nat) : Int) - n) (by omega)) (fun d rt' hd => ?_)) | (refine borA [3] (c_l01Count o l hb hl a2 ha2 h2 (((cnt 1 (ints us) : Nat) : Int) - n) (by omega)) (fun d rt' hd => ?_)) | (refine borA [4] (c_l01Count o l hb hl a2 ha2 h2 (((cnt 1 (ints us) : Nat) : Int) - n) (by omega)) (fun d rt' hd => ?_)) | ((first | refine z0 ?_ | refine Alt.snd (And.intro (show mixOk _ _ = true by decide +kernel) ?_) | refine And.intro (show (_ : List (Option Root))[_]? = _ from rfl) ?_ | (apply zI; refine zP (key) ?_) | (refine And.intro (fun h => ?_) (fun h => ?_) <;> (try simp only [cnt1, ints_length, rows_length, Tb_length, L_length, byts_length] at h) <;> first | (exfalso; first | omega | exact h trivial | (cases h; done)) | skip) | refine zS ?_ | refine zV ?_ | (apply zI; refine zP vObt ?_) | (apply zI; refine zP vObx ?_) | refine zA ?_ | refine And.intro ((inR64 (by omega) (by omega))) ?_ | refine Alt.fst ?_ | refine Or.inl ?_) <;> conv => whnf) | fail
    obtain ⟨k, a3, h3, hk, ha3, rfl, rfl⟩ := hd
    refine ⟨rfl, by simp, ?_⟩
    conv => whnf
    repeat' first | ((first | refine z0 ?_ | refine Alt.snd (And.intro (show mixOk _ _ = true by decide +kernel) ?_) | refine And.intro (show (_ : List (Option Root))[_]? = _ from rfl) ?_ | (refine And.intro (fun h => ?_) (fun h => ?_) <;> (try simp only [cnt1, ints_length, rows_length, Tb_length, L_length, byts_length] at h) <;> first | (exfalso; first | omega | exact h trivial | (cases h; done)) | skip) | refine zS ?_ | refine zV ?_ | (apply zI; refine zP vObt ?_) | (apply zI; refine zP vObx ?_) | refine zA ?_ | refine Alt.fst ?_ | refine Or.inl ?_) <;> conv => whnf) | fail
    refine ⟨.tup [seF m us, dint n, dint k], [none], ⟨m, us, n, k, hm, by omega, hn, by omega, rfl, rfl⟩, Weak.of (kp := 1) [none] ?_⟩
    conv => whnf
    repeat' ((first | refine z1 ?_ | refine z2 ?_ | refine zV ?_ | refine And.intro ?_ ?_ | exact trivial) <;> try (conv => whnf))
theorem c_DrawHirzebruchSeries (o : Bool) (l : List Nat) (hb : ∀ b ∈ l, b < 256) (hl : l.length ≤ 4611686018427387904) :
    CallsTo Tryz.prog 41 1 [.list o 1 (byts l)] [none]
      (fun d rt => ∃ (m n k : Int), (-5 ≤ m ∧ m ≤ 1099511627776) ∧ (-4611686018427387904 ≤ n ∧ n ≤ 1099511627777) ∧ (-4611686018427387904 ≤ k ∧ k ≤ 1099511627777) ∧ d = .tup [dint m, dint n, dint k] ∧ rt = [none]) := by
  refine callsTo_of Tryz.tabOk mixOrd 1 _ Tryz.func41 rfl rfl ?_
  conv => whnf
  repeat' first | (refine borA [] (c_l01From o l hb hl) (fun d rt' hd => ?_)) | ((first | refine z0 ?_ | (refine And.intro (fun h => ?_) (fun h => ?_) <;> (try simp only [cnt1, ints_length] at h)) | refine zS ?_ | refine zV ?_ | (apply zI; refine zP vObt ?_) | (apply zI; refine zP vObx ?_) | refine zA ?_ | refine Alt.fst ?_ | refine Or.inl ?_) <;> conv => whnf) | fail
  obtain ⟨h0, rfl, rfl⟩ := hd
  refine ⟨rfl, by simp, ?_⟩
  conv => whnf
  repeat' first | (refine borA [1] (c_l01Spoil o l hb hl 0 (by omega) h0) (fun d rt' hd => ?_)) | (refine borA [2] (c_l01Spoil o l hb hl 0 (by omega) h0) (fun d rt' hd => ?_)) | (refine borA [3] (c_l01Spoil o l hb hl 0 (by omega) h0) (fun d rt' hd => ?_)) | (refine borA [4] (c_l01Spoil o l hb hl 0 (by omega) h0) (fun d rt' hd => ?_)) | ((first | refine z0 ?_ | refine Alt.snd (And.intro (show mixOk _ _ = true by decide +kernel) ?_) | refine And.intro (show (_ : List (Option Root))[_]? = _ from rfl) ?_ | (refine And.intro (fun h => ?_) (fun h => ?_) <;> (try simp only [cnt1, ints_length] at h)) | refine zS ?_ | refine zV ?_ | (apply zI; refine zP vObt ?_) | (apply zI; refine zP vObx ?_) | refine zA ?_ | refine Alt.fst ?_ | refine Or.inl ?_) <;> conv => whnf) | fail
  obtain ⟨x, a1, h1, hx, ha1, rfl, rfl⟩ := hd
  refine ⟨rfl, by simp, ?_⟩
  conv => whnf
  repeat' first | (refine borA [1, 2] (c_l01Pick o l hb hl a1 ha1 h1 [11, 13, 121, 101, 9973, 7, 49, x] (by simp)) (fun d rt' hd => ?_)) | (refine borA [1, 3] (c_l01Pick o l hb hl a1 ha1 h1 [11, 13, 121, 101, 9973, 7, 49, x] (by simp)) (fun d rt' hd => ?_)) | (refine borA [1, 4] (c_l01Pick o l hb hl a1 ha1 h1 [11, 13, 121, 101, 9973, 7, 49, x] (by simp)) (fun d rt' hd => ?_)) | (refine borA [1, 5] (c_l01Pick o l hb hl a1 ha1 h1 [11, 13, 121, 101, 9973, 7, 49, x] (by simp)) (fun d rt' hd => ?_)) | (refine borA [1, 6] (c_l01Pick o l hb hl a1 ha1 h1 [11, 13, 121, 101, 9973, 7, 49, x] (by simp)) (fun d rt' hd => ?_)) | (refine borA [1, 7] (c_l01Pick o l hb hl a1 ha1 h1 [11, 13, 121, 101, 9973, 7, 49, x] (by simp)) (fun d rt' hd => ?_)) | (refine borA [1, 8] (c_l01Pick o l hb hl a1 ha1 h1 [11, 13, 121, 101, 9973, 7, 49, x] (by simp)) (fun d rt' hd => ?_)) | ((first | refine z0 ?_ | refine Alt.snd (And.intro (show mixOk _ _ = true by decide +kernel) ?_) | refine And.intro (show (_ : List (Option Root))[_]? = _ from rfl) ?_ | (refine And.intro (fun h => ?_) (fun h => ?_) <;> (try simp only [cnt1, ints_length] at h)) | refine zS ?_ | refine zV ?_ | (apply zI; refine zP vObt ?_) | (apply zI; refine zP vObx ?_) | refine zA ?_ | refine Alt.fst ?_ | refine Or.inl ?_) <;> conv => whnf) | fail
  obtain ⟨m, a2, h2, hm, ha2, rfl, rfl⟩ := hd
  refine ⟨rfl, by simp, ?_⟩
  conv => whnf
  have hm2 : -5 ≤ m ∧ m ≤ 1099511627776 := by
    simp only [List.mem_cons, List.not_mem_nil, or_false] at hm
    omega
  repeat' first | (refine borA [1] (c_l01Count o l hb hl a2 ha2 h2 8 (by omega)) (fun d rt' hd => ?_)) | (refine borA [2] (c_l01Count o l hb hl a2 ha2 h2 8 (by omega)) (fun d rt' hd => ?_)) | (refine borA [3] (c_l01Count o l hb hl a2 ha2 h2 8 (by omega)) (fun d rt' hd => ?_)) | (refine borA [4] (c_l01Count o l hb hl a2 ha2 h2 8 (by omega)) (fun d rt' hd => ?_)) | ((first | refine z0 ?_ | refine Alt.snd (And.intro (show mixOk _ _ = true by decide +kernel) ?_) | refine And.intro (show (_ : List (Option Root))[_]? = _ from rfl) ?_ | (refine And.intro (fun h => ?_) (fun h => ?_) <;> (try simp only [cnt1, ints_length] at h)) | refine zS ?_ | refine zV ?_ | (apply zI; refine zP vObt ?_) | (apply zI; refine zP vObx ?_) | refine zA ?_ | refine And.intro ((inR64 (by omega) (by omega))) ?_ | refine Alt.fst ?_ | refine Or.inl ?_) <;> conv => whnf) | fail
  obtain ⟨n, a3, h3, hn, ha3, rfl, rfl⟩ := hd
  refine ⟨rfl, by simp, ?_⟩
  conv => whnf
  repeat' first | (refine borA [1] (c_l01Number o l hb hl a3 ha3 h3 m hm2) (fun d rt' hd => ?_)) | (refine borA [2] (c_l01Number o l hb hl a3 ha3 h3 m hm2) (fun d rt' hd => ?_)) | (refine borA [3] (c_l01Number o l hb hl a3 ha3 h3 m hm2) (fun d rt' hd => ?_)) | (refine borA [4] (c_l01Number o l hb hl a3 ha3 h3 m hm2) (fun d rt' hd => ?_)) | ((first | refine z0 ?_ | refine Alt.snd (And.intro (show mixOk _ _ = true by decide +kernel) ?_) | refine And.intro (show (_ : List (Option Root))[_]? = _ from rfl) ?_ | (refine And.intro (fun h => ?_) (fun h => ?_) <;> (try simp only [cnt1, ints_length] at h)) | refine zS ?_ | refine zV ?_ | (apply zI; refine zP vObt ?_) | (apply zI; refine zP vObx ?_) | refine zA ?_ | refine And.intro ((inR64 (by omega) (by omega))) ?_ | refine Alt.fst ?_ | refine Or.inl ?_) <;> conv => whnf) | fail
  obtain ⟨y, a4, h4, hy, ha4, rfl, rfl⟩ := hd
  refine ⟨rfl, by simp, ?_⟩
  conv => whnf
  repeat' first | (refine borA [1, 2] (c_l01Pick o l hb hl a4 ha4 h4 [0, 1, m - 1, y] (by simp)) (fun d rt' hd => ?_)) | (refine borA [1, 3] (c_l01Pick o l hb hl a4 ha4 h4 [0, 1, m - 1, y] (by simp)) (fun d rt' hd => ?_)) | (refine borA [1, 4] (c_l01Pick o l hb hl a4 ha4 h4 [0, 1, m - 1, y] (by simp)) (fun d rt' hd => ?_)) | (refine borA [1, 5] (c_l01Pick o l hb hl a4 ha4 h4 [0, 1, m - 1, y] (by simp)) (fun d rt' hd => ?_)) | (refine borA [1, 6] (c_l01Pick o l hb hl a4 ha4 h4 [0, 1, m - 1, y] (by simp)) (fun d rt' hd => ?_)) | (refine borA [1, 7] (c_l01Pick o l hb hl a4 ha4 h4 [0, 1, m - 1, y] (by simp)) (fun d rt' hd => ?_)) | (refine borA [1, 8] (c_l01Pick o l hb hl a4 ha4 h4 [0, 1, m - 1, y] (by simp)) (fun d rt' hd => ?_)) | (refine borA [1, 9] (c_l01Pick o l hb hl a4 ha4 h4 [0, 1, m - 1, y] (by simp)) (fun d rt' hd => ?_)) | ((first | refine z0 ?_ | refine Alt.snd (And.intro (show mixOk _ _ = true by decide +kernel) ?_) | refine And.intro (show (_ : List (Option Root))[_]? = _ from rfl) ?_ | (refine And.intro (fun h => ?_) (fun h => ?_) <;> (try simp only [cnt1, ints_length] at h)) | refine zS ?_ | refine zV ?_ | (apply zI; refine zP vObt ?_) | (apply zI; refine zP vObx ?_) | refine zA ?_ | refine And.intro ((inR64 (by omega) (by omega))) ?_ | refine Alt.fst ?_ | refine Or.inl ?_) <;> conv => whnf) | fail
  obtain ⟨k, a5, h5, hk, ha5, rfl, rfl⟩ := hd
  refine ⟨rfl, by simp, ?_⟩
  conv => whnf
  have hk2 : -4611686018427387904 ≤ k ∧ k ≤ 1099511627777 := by
    simp only [List.mem_cons, List.not_mem_nil, or_false] at hk
    omega
  repeat' first | ((first | refine z0 ?_ | refine Alt.snd (And.intro (show mixOk _ _ = true by decide +kernel) ?_) | refine And.intro (show (_ : List (Option Root))[_]? = _ from rfl) ?_ | (refine And.intro (fun h => ?_) (fun h => ?_) <;> (try simp only [cnt1, ints_length] at h)) | refine zS ?_ | refine zV ?_ | (apply zI; refine zP vObt ?_) | (apply zI; refine zP vObx ?_) | refine zA ?_ | refine And.intro ((inR64 (by omega) (by omega))) ?_ | refine Alt.fst ?_ | refine Or.inl ?_) <;> conv => whnf) | fail
  refine ⟨.tup [dint m, dint (1 + n), dint k], [none], ⟨m, 1 + n, k, hm2, by omega, hk2, rfl, rfl⟩, Weak.of (kp := 1) [none] ?_⟩
  conv => whnf
  repeat' ((first | refine z1 ?_ | refine z2 ?_ | refine zV ?_ | refine And.intro ?_ ?_ | exact trivial) <;> try (conv => whnf))
end Go.Proofs

