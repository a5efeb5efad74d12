import Derived.Test.YthpbaehnkmmkgaaGreatK142
import Derived.Test.YthpbaehnkmmkgaaGreatK164
import Derived.Test.YthpbaehnkmmkgaaGreatK180
namespace Go.Proofs
open Go Go.Vm Go.Fg Go.Fg.PS
set_option maxRecDepth 100000
set_option maxHeartbeats 4000000
set_option linter.unusedSimpArgs false
set_option linter.unusedVariables false
variable {m : Int}
theorem fz_tup3 {r : Nat} {cs : List D} {a a' b b' c c' : D} (h1 : Fz r cs a a') (h2 : Fz r cs b b') (h3 : Fz r cs c c') : Fz r cs (.tup [a, b, c]) (.tup [a', b', c']) :=
 .tup _ _ rfl (fun i d d' hd hd' => by
   match i, hd, hd' with
   | 0, hd, hd' => simp at hd hd'; subst hd; subst hd'; exact h1
   | 1, hd, hd' => simp at hd hd'; subst hd; subst hd'; exact h2
   | 2, hd, hd' => simp at hd hd'; subst hd; subst hd'; exact h3
   | i + 3, hd, hd' => simp at hd)
theorem c_l12With (hW : Wei) (o : Bool) (l : List Nat) (hb : ∀ b ∈ l, b < 256) (hl : l.length ≤ 4611686018427387904) :
   CallsTo Tryz.prog 330 1 [.list o 1 (byts l)] [none]
     (fun d rt => ∃ (m : Int) (t : List (List Int)) (ma : Int) (la : List Int), ((1 ≤ m ∧ m ≤ 10001) ∧ smT t) ∧ la.length ≤ 12 ∧ d = .tup [plF m t, seF ma la] ∧ rt = [none]) := by
 refine callsTo_of Tryz.tabOk mixOrd 1 _ Tryz.func330 rfl rfl ?_
 conv => whnf
 repeat' first | (refine borA [] (c_l04Curves1 hW o l hb hl) (fun d rt' hd => ?_)) | ((first | refine z0 ?_ | (refine And.intro (fun h => ?_) (fun h => ?_) <;> (try simp only [cnt1, ints_length, rows_length, Tb_length, L_length, byts_length] at h) <;> first | (exfalso; first | omega | exact h trivial | (cases h; done)) | skip) | refine zS ?_ | refine zV ?_ | (apply zI; refine zP vObt ?_) | (apply zI; refine zP vObx ?_) | refine zA ?_ | refine Alt.fst ?_ | refine Or.inl ?_) <;> conv => whnf) | fail
 obtain ⟨m, t, ma, la, hm, hla, rfl, rfl⟩ := hd
 refine ⟨rfl, by simp, ?_⟩
 conv => whnf
 have hcn : (0 : Int) ≤ 0 ∧ (0 : Int) < ((cnt 2 [dint ma, D.list false 1 (ints la)] : Nat) : Int) := ⟨by omega, by simp [cnt]⟩
 repeat' first | ((first | refine z0 ?_ | refine Alt.snd (And.intro (show mixOk _ _ = true by decide +kernel) ?_) | refine And.intro (show (_ : List (Option Root))[_]? = _ from rfl) ?_ | (apply zI; refine zP (⟨_, rfl, rfl⟩) ?_) | (refine And.intro (fun h => ?_) (fun h => ?_) <;> (try simp only [cnt1, ints_length] at h)) | refine zS ?_ | refine zV ?_ | (apply zI; refine zP vObt ?_) | (apply zI; refine zP vObx ?_) | refine zA ?_ | refine And.intro (hcn) ?_ | refine Alt.fst ?_ | refine Or.inl ?_) <;> conv => whnf) | fail
 refine ⟨.tup [plF m t, seF ma la], [none], ⟨m, t, ma, la, hm, hla, rfl, rfl⟩, Weak.of (kp := 1) [none] ?_⟩
 conv => whnf
 repeat' ((first | refine z1 ?_ | refine z2 ?_ | refine zV ?_ | refine And.intro ?_ ?_ | exact trivial) <;> try (conv => whnf))
theorem c_DrawCoordinatesUnder (hW : Wei) (o : Bool) (l : List Nat) (hb : ∀ b ∈ l, b < 256) (hl : l.length ≤ 4611686018427387904) :
   CallsTo Tryz.prog 131 1 [.list o 1 (byts l)] [none]
     (fun d rt => ∃ (m : Int) (t : List (List Int)) (ma : Int) (la : List Int), ((1 ≤ m ∧ m ≤ 10001) ∧ smT t) ∧ la.length ≤ 12 ∧ d = .tup [plF m t, seF ma la] ∧ rt = [none]) := by
 refine callsTo_of Tryz.tabOk mixOrd 1 _ Tryz.func131 rfl rfl ?_
 conv => whnf
 repeat' first | (refine borA [] (c_l12With hW o l hb hl) (fun d rt' hd => ?_)) | ((first | refine z0 ?_ | (refine And.intro (fun h => ?_) (fun h => ?_) <;> (try simp only [cnt1, ints_length, rows_length, Tb_length, L_length, byts_length] at h) <;> first | (exfalso; first | omega | exact h trivial | (cases h; done)) | skip) | refine zS ?_ | refine zV ?_ | (apply zI; refine zP vObt ?_) | (apply zI; refine zP vObx ?_) | refine zA ?_ | refine Alt.fst ?_ | refine Or.inl ?_) <;> conv => whnf) | fail
 obtain ⟨m, t, ma, la, hm, hla, rfl, rfl⟩ := hd
 refine ⟨rfl, by simp, ?_⟩
 conv => whnf
 repeat' first | ((first | refine z0 ?_ | refine Alt.snd (And.intro (show mixOk _ _ = true by decide +kernel) ?_) | refine And.intro (show (_ : List (Option Root))[_]? = _ from rfl) ?_ | (refine And.intro (fun h => ?_) (fun h => ?_) <;> (try simp only [cnt1, ints_length] at h)) | refine zS ?_ | refine zV ?_ | (apply zI; refine zP vObt ?_) | (apply zI; refine zP vObx ?_) | refine zA ?_ | refine Alt.fst ?_ | refine Or.inl ?_) <;> conv => whnf) | fail
 refine ⟨.tup [plF m t, seF ma la], [none], ⟨m, t, ma, la, hm, hla, rfl, rfl⟩, Weak.of (kp := 1) [none] ?_⟩
 conv => whnf
 repeat' ((first | refine z1 ?_ | refine z2 ?_ | refine zV ?_ | refine And.intro ?_ ?_ | exact trivial) <;> try (conv => whnf))
theorem c_DrawFrobeniusUnder (hW : Wei) (o : Bool) (l : List Nat) (hb : ∀ b ∈ l, b < 256) (hl : l.length ≤ 4611686018427387904) :
   CallsTo Tryz.prog 335 1 [.list o 1 (byts l)] [none]
     (fun d rt => ∃ (m : Int) (t : List (List Int)) (ma : Int) (la : List Int) (n : Int), ((1 ≤ m ∧ m ≤ 10001) ∧ smT t) ∧ la.length ≤ 12 ∧ (-4611686018427387904 ≤ n ∧ n ≤ 1099511627778) ∧ d = .tup [plF m t, seF ma la, dint n] ∧ rt = [none]) := by
 refine callsTo_of Tryz.tabOk mixOrd 1 _ Tryz.func335 rfl rfl ?_
 conv => whnf
 repeat' first | (refine borA [] (c_l12With hW o l hb hl) (fun d rt' hd => ?_)) | ((first | refine z0 ?_ | (refine And.intro (fun h => ?_) (fun h => ?_) <;> (try simp only [cnt1, ints_length, rows_length, Tb_length, L_length, byts_length] at h) <;> first | (exfalso; first | omega | exact h trivial | (cases h; done)) | skip) | refine zS ?_ | refine zV ?_ | (apply zI; refine zP vObt ?_) | (apply zI; refine zP vObx ?_) | refine zA ?_ | refine Alt.fst ?_ | refine Or.inl ?_) <;> conv => whnf) | fail
 obtain ⟨m, t, ma, la, hm, hla, rfl, rfl⟩ := hd
 refine ⟨rfl, by simp, ?_⟩
 conv => whnf
 repeat' first | (refine borA [] (c_l01From o l hb hl) (fun d rt' hd => ?_)) | ((first | refine z0 ?_ | refine Alt.snd (And.intro (show mixOk _ _ = true by decide +kernel) ?_) | refine And.intro (show (_ : List (Option Root))[_]? = _ from rfl) ?_ | (refine And.intro (fun h => ?_) (fun h => ?_) <;> (try simp only [cnt1, ints_length] at h)) | refine zS ?_ | refine zV ?_ | (apply zI; refine zP vObt ?_) | (apply zI; refine zP vObx ?_) | refine zA ?_ | refine Alt.fst ?_ | refine Or.inl ?_) <;> conv => whnf) | fail
 obtain ⟨h0, rfl, rfl⟩ := hd
 refine ⟨rfl, by simp, ?_⟩
 conv => whnf
 repeat' first | (refine borA [1] (c_l01Count o l hb hl 0 (by omega) h0 3 (by omega)) (fun d rt' hd => ?_)) | (refine borA [2] (c_l01Count o l hb hl 0 (by omega) h0 3 (by omega)) (fun d rt' hd => ?_)) | (refine borA [3] (c_l01Count o l hb hl 0 (by omega) h0 3 (by omega)) (fun d rt' hd => ?_)) | (refine borA [4] (c_l01Count o l hb hl 0 (by omega) h0 3 (by omega)) (fun d rt' hd => ?_)) | (refine borA [5] (c_l01Count o l hb hl 0 (by omega) h0 3 (by omega)) (fun d rt' hd => ?_)) | (refine borA [6] (c_l01Count o l hb hl 0 (by omega) h0 3 (by omega)) (fun d rt' hd => ?_)) | (refine borA [7] (c_l01Count o l hb hl 0 (by omega) h0 3 (by omega)) (fun d rt' hd => ?_)) | (refine borA [8] (c_l01Count o l hb hl 0 (by omega) h0 3 (by omega)) (fun d rt' hd => ?_)) | ((first | refine z0 ?_ | refine Alt.snd (And.intro (show mixOk _ _ = true by decide +kernel) ?_) | refine And.intro (show (_ : List (Option Root))[_]? = _ from rfl) ?_ | (refine And.intro (fun h => ?_) (fun h => ?_) <;> (try simp only [cnt1, ints_length] at h)) | refine zS ?_ | refine zV ?_ | (apply zI; refine zP vObt ?_) | (apply zI; refine zP vObx ?_) | refine zA ?_ | refine Alt.fst ?_ | refine Or.inl ?_) <;> conv => whnf) | fail
 obtain ⟨n, a2, h2, hn, ha2, rfl, rfl⟩ := hd
 refine ⟨rfl, by simp, ?_⟩
 conv => whnf
 repeat' first | ((first | refine z0 ?_ | refine Alt.snd (And.intro (show mixOk _ _ = true by decide +kernel) ?_) | refine And.intro (show (_ : List (Option Root))[_]? = _ from rfl) ?_ | (refine And.intro (fun h => ?_) (fun h => ?_) <;> (try simp only [cnt1, ints_length] at h)) | refine zS ?_ | refine zV ?_ | (apply zI; refine zP vObt ?_) | (apply zI; refine zP vObx ?_) | refine zA ?_ | refine And.intro ((inR64 (by omega) (by omega))) ?_ | refine Alt.fst ?_ | refine Or.inl ?_) <;> conv => whnf) | fail
 refine ⟨.tup [plF m t, seF ma la, dint (2 + n)], [none], ⟨m, t, ma, la, 2 + n, hm, hla, by omega, rfl, rfl⟩, Weak.of (kp := 1) [none] ?_⟩
 conv => whnf
 repeat' ((first | refine z1 ?_ | refine z2 ?_ | refine zV ?_ | refine And.intro ?_ ?_ | exact trivial) <;> try (conv => whnf))
theorem c_DrawNormUnder (hW : Wei) (o : Bool) (l : List Nat) (hb : ∀ b ∈ l, b < 256) (hl : l.length ≤ 4611686018427387904) :
   CallsTo Tryz.prog 137 1 [.list o 1 (byts l)] [none]
     (fun d rt => ∃ (m : Int) (t : List (List Int)) (ma : Int) (la : List Int) (n : Int), ((1 ≤ m ∧ m ≤ 10001) ∧ smT t) ∧ la.length ≤ 12 ∧ (-4611686018427387904 ≤ n ∧ n ≤ 1099511627778) ∧ d = .tup [plF m t, seF ma la, dint n] ∧ rt = [none]) := by
 refine callsTo_of Tryz.tabOk mixOrd 1 _ Tryz.func137 rfl rfl ?_
 conv => whnf
 repeat' first | (refine borA [] (c_DrawFrobeniusUnder hW o l hb hl) (fun d rt' hd => ?_)) | ((first | refine z0 ?_ | (refine And.intro (fun h => ?_) (fun h => ?_) <;> (try simp only [cnt1, ints_length, rows_length, Tb_length, L_length, byts_length] at h) <;> first | (exfalso; first | omega | exact h trivial | (cases h; done)) | skip) | refine zS ?_ | refine zV ?_ | (apply zI; refine zP vObt ?_) | (apply zI; refine zP vObx ?_) | refine zA ?_ | refine Alt.fst ?_ | refine Or.inl ?_) <;> conv => whnf) | fail
 obtain ⟨m, t, ma, la, n, hm, hla, hn, rfl, rfl⟩ := hd
 refine ⟨rfl, by simp, ?_⟩
 conv => whnf
 repeat' first | ((first | refine z0 ?_ | refine Alt.snd (And.intro (show mixOk _ _ = true by decide +kernel) ?_) | refine And.intro (show (_ : List (Option Root))[_]? = _ from rfl) ?_ | (refine And.intro (fun h => ?_) (fun h => ?_) <;> (try simp only [cnt1, ints_length] at h)) | refine zS ?_ | refine zV ?_ | (apply zI; refine zP vObt ?_) | (apply zI; refine zP vObx ?_) | refine zA ?_ | refine Alt.fst ?_ | refine Or.inl ?_) <;> conv => whnf) | fail
 refine ⟨.tup [plF m t, seF ma la, dint n], [none], ⟨m, t, ma, la, n, hm, hla, hn, rfl, rfl⟩, Weak.of (kp := 1) [none] ?_⟩
 conv => whnf
 repeat' ((first | refine z1 ?_ | refine z2 ?_ | refine zV ?_ | refine And.intro ?_ ?_ | exact trivial) <;> try (conv => whnf))
theorem c_DrawCurveOfCoordinates (hW : Wei) (o : Bool) (l : List Nat) (hb : ∀ b ∈ l, b < 256) (hl : l.length ≤ 4611686018427387904) :
   CallsTo Tryz.prog 135 1 [.list o 1 (byts l)] [none]
     (fun d rt => ∃ (m : Int) (t : List (List Int)) (la : List Int), ((1 ≤ m ∧ m ≤ 10001) ∧ smT t) ∧ la.length ≤ 12 ∧ d = .tup [plF m t, .list false 1 (ints la)] ∧ rt = [none]) := by
 refine callsTo_of Tryz.tabOk mixOrd 1 _ Tryz.func135 rfl rfl ?_
 conv => whnf
 repeat' first | (refine borA [] (c_l01From o l hb hl) (fun d rt' hd => ?_)) | ((first | refine z0 ?_ | (refine And.intro (fun h => ?_) (fun h => ?_) <;> (try simp only [cnt1, ints_length] at h)) | refine zS ?_ | refine zV ?_ | (apply zI; refine zP vObt ?_) | (apply zI; refine zP vObx ?_) | refine zA ?_ | refine Alt.fst ?_ | refine Or.inl ?_) <;> conv => whnf) | fail
 obtain ⟨h0, rfl, rfl⟩ := hd
 refine ⟨rfl, by simp, ?_⟩
 conv => whnf
 repeat' first | (refine borA [1] (c_l04Spoil hW o l hb hl 0 (by omega) h0) (fun d rt' hd => ?_)) | (refine borA [2] (c_l04Spoil hW o l hb hl 0 (by omega) h0) (fun d rt' hd => ?_)) | (refine borA [3] (c_l04Spoil hW o l hb hl 0 (by omega) h0) (fun d rt' hd => ?_)) | (refine borA [4] (c_l04Spoil hW o l hb hl 0 (by omega) h0) (fun d rt' hd => ?_)) | (refine borA [5] (c_l04Spoil hW o l hb hl 0 (by omega) h0) (fun d rt' hd => ?_)) | (refine borA [6] (c_l04Spoil hW o l hb hl 0 (by omega) h0) (fun d rt' hd => ?_)) | (refine borA [7] (c_l04Spoil hW o l hb hl 0 (by omega) h0) (fun d rt' hd => ?_)) | (refine borA [8] (c_l04Spoil hW o l hb hl 0 (by omega) h0) (fun d rt' hd => ?_)) | ((first | refine z0 ?_ | refine Alt.snd (And.intro (show mixOk _ _ = true by decide +kernel) ?_) | refine And.intro (show (_ : List (Option Root))[_]? = _ from rfl) ?_ | (refine And.intro (fun h => ?_) (fun h => ?_) <;> (try simp only [cnt1, ints_length] at h)) | refine zS ?_ | refine zV ?_ | (apply zI; refine zP vObt ?_) | (apply zI; refine zP vObx ?_) | refine zA ?_ | refine Alt.fst ?_ | refine Or.inl ?_) <;> conv => whnf) | fail
 obtain ⟨m, t, a1, h1, hm, ht, ha1, rfl, rfl⟩ := hd
 refine ⟨rfl, by simp, ?_⟩
 conv => whnf
 have htl := ht.1
 have ec : ((cnt 1 (rows false t) : Nat) : Int) - 1 = (t.length : Int) - 1 := by rw [cnt1, rows_length]
 repeat' first | (refine borA [1] (c_l01List o l hb hl a1 ha1 h1 m (by omega) (((cnt 1 (rows false t) : Nat) : Int) - 1) (by rw [ec]; omega)) (fun d rt' hd => ?_)) | (refine borA [2] (c_l01List o l hb hl a1 ha1 h1 m (by omega) (((cnt 1 (rows false t) : Nat) : Int) - 1) (by rw [ec]; omega)) (fun d rt' hd => ?_)) | (refine borA [3] (c_l01List o l hb hl a1 ha1 h1 m (by omega) (((cnt 1 (rows false t) : Nat) : Int) - 1) (by rw [ec]; omega)) (fun d rt' hd => ?_)) | (refine borA [4] (c_l01List o l hb hl a1 ha1 h1 m (by omega) (((cnt 1 (rows false t) : Nat) : Int) - 1) (by rw [ec]; omega)) (fun d rt' hd => ?_)) | (refine borA [5] (c_l01List o l hb hl a1 ha1 h1 m (by omega) (((cnt 1 (rows false t) : Nat) : Int) - 1) (by rw [ec]; omega)) (fun d rt' hd => ?_)) | (refine borA [6] (c_l01List o l hb hl a1 ha1 h1 m (by omega) (((cnt 1 (rows false t) : Nat) : Int) - 1) (by rw [ec]; omega)) (fun d rt' hd => ?_)) | (refine borA [7] (c_l01List o l hb hl a1 ha1 h1 m (by omega) (((cnt 1 (rows false t) : Nat) : Int) - 1) (by rw [ec]; omega)) (fun d rt' hd => ?_)) | (refine borA [8] (c_l01List o l hb hl a1 ha1 h1 m (by omega) (((cnt 1 (rows false t) : Nat) : Int) - 1) (by rw [ec]; omega)) (fun d rt' hd => ?_)) | ((first | refine z0 ?_ | refine Alt.snd (And.intro (show mixOk _ _ = true by decide +kernel) ?_) | refine And.intro (show (_ : List (Option Root))[_]? = _ from rfl) ?_ | (refine And.intro (fun h => ?_) (fun h => ?_) <;> (try simp only [cnt1, ints_length] at h)) | refine zS ?_ | refine zV ?_ | (apply zI; refine zP vObt ?_) | (apply zI; refine zP vObx ?_) | refine zA ?_ | refine Alt.fst ?_ | refine Or.inl ?_) <;> conv => whnf) | fail
 obtain ⟨us, a2, h2, hu, ha2, rfl, rfl⟩ := hd
 refine ⟨rfl, by simp, ?_⟩
 conv => whnf
 repeat' first | (refine borA [1] (c_l01Next o l hb hl a2 ha2 h2 20) (fun d rt' hd => ?_)) | (refine borA [2] (c_l01Next o l hb hl a2 ha2 h2 20) (fun d rt' hd => ?_)) | (refine borA [3] (c_l01Next o l hb hl a2 ha2 h2 20) (fun d rt' hd => ?_)) | (refine borA [4] (c_l01Next o l hb hl a2 ha2 h2 20) (fun d rt' hd => ?_)) | (refine borA [5] (c_l01Next o l hb hl a2 ha2 h2 20) (fun d rt' hd => ?_)) | (refine borA [6] (c_l01Next o l hb hl a2 ha2 h2 20) (fun d rt' hd => ?_)) | (refine borA [7] (c_l01Next o l hb hl a2 ha2 h2 20) (fun d rt' hd => ?_)) | (refine borA [8] (c_l01Next o l hb hl a2 ha2 h2 20) (fun d rt' hd => ?_)) | ((first | refine z0 ?_ | refine Alt.snd (And.intro (show mixOk _ _ = true by decide +kernel) ?_) | refine And.intro (show (_ : List (Option Root))[_]? = _ from rfl) ?_ | (refine And.intro (fun h => ?_) (fun h => ?_) <;> (try simp only [cnt1, ints_length] at h)) | refine zS ?_ | refine zV ?_ | (apply zI; refine zP vObt ?_) | (apply zI; refine zP vObx ?_) | refine zA ?_ | refine Alt.fst ?_ | refine Or.inl ?_) <;> conv => whnf) | fail
 obtain ⟨x, a3, h3, hx, ha3, rfl, rfl⟩ := hd
 refine ⟨rfl, by simp, ?_⟩
 conv => whnf
 have hx2 := hx.2 (by omega)
 repeat' first | (refine borA [1] (c_l01Number o l hb hl a3 ha3 h3 m (by omega)) (fun d rt' hd => ?_)) | (refine borA [2] (c_l01Number o l hb hl a3 ha3 h3 m (by omega)) (fun d rt' hd => ?_)) | (refine borA [3] (c_l01Number o l hb hl a3 ha3 h3 m (by omega)) (fun d rt' hd => ?_)) | (refine borA [4] (c_l01Number o l hb hl a3 ha3 h3 m (by omega)) (fun d rt' hd => ?_)) | (refine borA [5] (c_l01Number o l hb hl a3 ha3 h3 m (by omega)) (fun d rt' hd => ?_)) | (refine borA [6] (c_l01Number o l hb hl a3 ha3 h3 m (by omega)) (fun d rt' hd => ?_)) | (refine borA [7] (c_l01Number o l hb hl a3 ha3 h3 m (by omega)) (fun d rt' hd => ?_)) | (refine borA [8] (c_l01Number o l hb hl a3 ha3 h3 m (by omega)) (fun d rt' hd => ?_)) | ((first | refine z0 ?_ | refine Alt.snd (And.intro (show mixOk _ _ = true by decide +kernel) ?_) | refine And.intro (show (_ : List (Option Root))[_]? = _ from rfl) ?_ | (refine And.intro (fun h => ?_) (fun h => ?_) <;> (try simp only [cnt1, ints_length, rows_length, Tb_length, L_length, byts_length] at h) <;> first | (exfalso; first | omega | exact h trivial | (cases h; done)) | skip) | refine zS ?_ | refine zV ?_ | (apply zI; refine zP vObt ?_) | (apply zI; refine zP vObx ?_) | refine zA ?_ | refine And.intro (pls_one _ _) ?_ | refine And.intro (vRoom32 (by omega)) ?_ | refine Alt.fst ?_ | refine Or.inl ?_) <;> conv => whnf) | fail
 · first
     | (refine ⟨.tup [plF m t, .list false 1 (ints (us ++ [0]))], [none], ⟨m, t, us ++ [0], ⟨hm, ht⟩, (by (try simp only [List.length_append, List.length_singleton]); omega), rfl, rfl⟩, Weak.trans (Weak.freezeR (kp := 1) (r := 6) (s0 := 1) (env' := [.tup [plF m t, .list false 1 (ints (us ++ [0]))]]) rfl rfl (fz_one (fz_tup2 (.rfl _) (fz_li (by (try simp only [List.length_append, List.length_singleton]); omega) (by rw [List.drop_zero, List.take_of_length_le (by (try simp only [List.length_append, List.length_singleton]); omega)]))))) (wkA (kp := 1) [none])⟩)
 · obtain ⟨y, a4, h4, hy, ha4, rfl, rfl⟩ := hd
   refine ⟨rfl, by simp, ?_⟩
   conv => whnf
   repeat' first | ((first | refine z0 ?_ | refine Alt.snd (And.intro (show mixOk _ _ = true by decide +kernel) ?_) | refine And.intro (show (_ : List (Option Root))[_]? = _ from rfl) ?_ | (refine And.intro (fun h => ?_) (fun h => ?_) <;> (try simp only [cnt1, ints_length, rows_length, Tb_length, L_length, byts_length] at h) <;> first | (exfalso; first | omega | exact h trivial | (cases h; done)) | skip) | refine zS ?_ | refine zV ?_ | (apply zI; refine zP vObt ?_) | (apply zI; refine zP vObx ?_) | refine zA ?_ | refine And.intro (pls_one _ _) ?_ | refine And.intro (vRoom32 (by omega)) ?_ | refine Alt.fst ?_ | refine Or.inl ?_) <;> conv => whnf) | fail
   first
     | (refine ⟨.tup [plF m t, .list false 1 (ints (us ++ [y]))], [none], ⟨m, t, us ++ [y], ⟨hm, ht⟩, (by (try simp only [List.length_append, List.length_singleton]); omega), rfl, rfl⟩, Weak.trans (Weak.freezeR (kp := 1) (r := 6) (s0 := 1) (env' := [.tup [plF m t, .list false 1 (ints (us ++ [y]))]]) rfl rfl (fz_one (fz_tup2 (.rfl _) (fz_li (by (try simp only [List.length_append, List.length_singleton]); omega) (by rw [List.drop_zero, List.take_of_length_le (by (try simp only [List.length_append, List.length_singleton]); omega)]))))) (wkA (kp := 1) [none])⟩)
 · first
     | (refine ⟨.tup [plF m t, .list false 1 (ints (us))], [none], ⟨m, t, us, ⟨hm, ht⟩, (by (try simp only [List.length_append, List.length_singleton]); omega), rfl, rfl⟩, Weak.trans (Weak.freezeR (kp := 1) (r := 4) (s0 := 1) (env' := [.tup [plF m t, .list false 1 (ints (us))]]) rfl rfl (fz_one (fz_tup2 (.rfl _) (fz_li (by (try simp only [List.length_append, List.length_singleton]); omega) (by rw [List.drop_zero, List.take_of_length_le (by (try simp only [List.length_append, List.length_singleton]); omega)]))))) (wkA (kp := 1) [none])⟩)
theorem c_DrawIsTypicalCurve (hW : Wei) (o : Bool) (l : List Nat) (hb : ∀ b ∈ l, b < 256) (hl : l.length ≤ 4611686018427387904) :
   CallsTo Tryz.prog 141 1 [.list o 1 (byts l)] [none]
     (fun d rt => ∃ (m : Int) (t : List (List Int)) (ma : Int) (la : List Int) (p : Int), ((1 ≤ m ∧ m ≤ 10001) ∧ smT t) ∧ la.length ≤ 12 ∧ (2 ≤ p ∧ p ≤ 7) ∧ d = .tup [plF m t, seF ma la, dint p] ∧ rt = [none]) := by
 refine callsTo_of Tryz.tabOk mixOrd 1 _ Tryz.func141 rfl rfl ?_
 conv => whnf
 repeat' first | (refine borA [] (c_l01From o l hb hl) (fun d rt' hd => ?_)) | ((first | refine z0 ?_ | (refine And.intro (fun h => ?_) (fun h => ?_) <;> (try simp only [cnt1, ints_length] at h)) | refine zS ?_ | refine zV ?_ | (apply zI; refine zP vObt ?_) | (apply zI; refine zP vObx ?_) | refine zA ?_ | refine Alt.fst ?_ | refine Or.inl ?_) <;> conv => whnf) | fail
 obtain ⟨h0, rfl, rfl⟩ := hd
 refine ⟨rfl, by simp, ?_⟩
 conv => whnf
 repeat' first | (refine borA [] (c_l12With hW o l hb hl) (fun d rt' hd => ?_)) | ((first | refine z0 ?_ | refine Alt.snd (And.intro (show mixOk _ _ = true by decide +kernel) ?_) | refine And.intro (show (_ : List (Option Root))[_]? = _ from rfl) ?_ | (refine And.intro (fun h => ?_) (fun h => ?_) <;> (try simp only [cnt1, ints_length] at h)) | refine zS ?_ | refine zV ?_ | (apply zI; refine zP vObt ?_) | (apply zI; refine zP vObx ?_) | refine zA ?_ | refine Alt.fst ?_ | refine Or.inl ?_) <;> conv => whnf) | fail
 obtain ⟨m, t, ma, la, ⟨hm, ht⟩, hla, rfl, rfl⟩ := hd
 refine ⟨rfl, by simp, ?_⟩
 conv => whnf
 repeat' first | (refine borA [3, 6] (c_l01Pick o l hb hl 0 (by omega) h0 [2, 3, 5, 2, 3, 7] (by simp)) (fun d rt' hd => ?_)) | ((first | refine z0 ?_ | refine Alt.snd (And.intro (show mixOk _ _ = true by decide +kernel) ?_) | refine And.intro (show (_ : List (Option Root))[_]? = _ from rfl) ?_ | (refine And.intro (fun h => ?_) (fun h => ?_) <;> (try simp only [cnt1, ints_length] at h)) | refine zS ?_ | refine zV ?_ | (apply zI; refine zP vObt ?_) | (apply zI; refine zP vObx ?_) | refine zA ?_ | refine Alt.fst ?_ | refine Or.inl ?_) <;> conv => whnf) | fail
 obtain ⟨p, a1, h1, hp, ha1, rfl, rfl⟩ := hd
 refine ⟨rfl, by simp, ?_⟩
 conv => whnf
 have hp2 : 2 ≤ p ∧ p ≤ 7 := by
   simp only [List.mem_cons, List.not_mem_nil, or_false] at hp
   omega
 have ht2 := smT_lens ht
 have hBc := fun o p => c_l04Is o p m t ht2.1 ht2.2
 have hin := c_l01In p 2 5
 cases hB : lawB m t with
 | false =>
   rw [hB] at hBc
   repeat' first | ((first | refine z0 ?_ | refine Alt.snd (And.intro (show mixOk _ _ = true by decide +kernel) ?_) | refine And.intro (show (_ : List (Option Root))[_]? = _ from rfl) ?_ | (apply zI; refine zP (hBc _ _) ?_) | (refine And.intro (fun h => ?_) (fun h => ?_) <;> (try simp only [cnt1, ints_length, rows_length, Tb_length, L_length, byts_length] at h) <;> first | (exfalso; first | omega | exact h trivial | (cases h; done)) | skip) | refine zS ?_ | refine zV ?_ | (apply zI; refine zP vObt ?_) | (apply zI; refine zP vObx ?_) | refine zA ?_ | refine Alt.fst ?_ | refine Or.inl ?_) <;> conv => whnf) | fail
   refine ⟨.tup [plF m t, seF ma la, dint p], [none], ⟨m, t, ma, la, p, ⟨hm, ht⟩, hla, hp2, rfl, rfl⟩, Weak.of (kp := 1) [none] ?_⟩
   conv => whnf
   repeat' ((first | refine z1 ?_ | refine z2 ?_ | refine zV ?_ | refine And.intro ?_ ?_ | exact trivial) <;> try (conv => whnf))
 | true =>
   rw [hB] at hBc
   obtain ⟨⟨hmd, hn⟩, eT, hL⟩ := lawB_Tb hB
   repeat' first | (refine borA [3] (c_l01Next o l hb hl a1 ha1 h1 2) (fun d rt' hd => ?_)) | ((first | refine z0 ?_ | refine Alt.snd (And.intro (show mixOk _ _ = true by decide +kernel) ?_) | refine And.intro (show (_ : List (Option Root))[_]? = _ from rfl) ?_ | (apply zI; refine zP (hBc _ _) ?_) | (refine And.intro (fun h => ?_) (fun h => ?_) <;> (try simp only [cnt1, ints_length, rows_length, Tb_length, L_length, byts_length] at h) <;> first | (exfalso; first | omega | exact h trivial | (cases h; done)) | skip) | refine zS ?_ | refine zV ?_ | (apply zI; refine zP vObt ?_) | (apply zI; refine zP vObx ?_) | refine zA ?_ | refine Alt.fst ?_ | refine Or.inl ?_) <;> conv => whnf) | fail
   obtain ⟨x, a2, h2, hx, ha2, rfl, rfl⟩ := hd
   refine ⟨rfl, by simp, ?_⟩
   conv => whnf
   have hx2 := hx.2 (by omega)
   by_cases hx0 : x = 0
   · cases hp5 : inB p 2 5 with
     | false =>
       rw [hp5] at hin
       repeat' first | ((first | refine z0 ?_ | refine Alt.snd (And.intro (show mixOk _ _ = true by decide +kernel) ?_) | refine And.intro (show (_ : List (Option Root))[_]? = _ from rfl) ?_ | (apply zI; refine zP (hin) ?_) | (refine And.intro (fun h => ?_) (fun h => ?_) <;> (try simp only [cnt1, ints_length, rows_length, Tb_length, L_length, byts_length] at h) <;> first | (exfalso; first | omega | exact h trivial | (cases h; done)) | skip) | refine zS ?_ | refine zV ?_ | (apply zI; refine zP vObt ?_) | (apply zI; refine zP vObx ?_) | refine zA ?_ | refine Alt.fst ?_ | refine Or.inl ?_) <;> conv => whnf) | fail
       refine ⟨.tup [plF m t, seF ma la, dint p], [none], ⟨m, t, ma, la, p, ⟨hm, ht⟩, hla, hp2, rfl, rfl⟩, Weak.of (kp := 1) [none] ?_⟩
       conv => whnf
       repeat' ((first | refine z1 ?_ | refine z2 ?_ | refine zV ?_ | refine And.intro ?_ ?_ | exact trivial) <;> try (conv => whnf))
     | true =>
       rw [hp5] at hin
       repeat' first | ((first | refine z0 ?_ | refine Alt.snd (And.intro (show mixOk _ _ = true by decide +kernel) ?_) | refine And.intro (show (_ : List (Option Root))[_]? = _ from rfl) ?_ | (apply zI; refine zP (hin) ?_) | (refine And.intro (fun h => ?_) (fun h => ?_) <;> (try simp only [cnt1, ints_length, rows_length, Tb_length, L_length, byts_length] at h) <;> first | (exfalso; first | omega | exact h trivial | (cases h; done)) | skip) | refine zS ?_ | refine zV ?_ | (apply zI; refine zP vObt ?_) | (apply zI; refine zP vObx ?_) | refine zA ?_ | refine Alt.fst ?_ | refine Or.inl ?_) <;> conv => whnf) | fail
       obtain ⟨P, rfl⟩ := Int.eq_ofNat_of_zero_le (show (0 : Int) ≤ p by omega)
       refine loop_atR Tryz.tabOk mixOrd (α := Nat × List Int × Nat × Int) (fun u => [(10, dint u.1)]) (fun u => [(3, some (srcR o l u.2.2.1 u.2.2.2)), (9, some ⟨false, 1, ints u.2.1⟩)]) (fun u => (1 ≤ u.1 ∧ u.1 ≤ 100) ∧ (u.2.1.length = t.length - 1 ∧ Nums m u.2.1) ∧ u.2.2.1 ≤ l.length) (fun u => t.length - u.1) ((1, List.replicate (t.length - 1) 0, a2, h2)) ?_ ?_ ?_
       · exact ⟨⟨by omega, by omega⟩, ⟨by simp, fun y hy => by rw [List.eq_of_mem_replicate hy]; omega⟩, ha2⟩
       · conv => whnf
         first | refine WeakS.autoR ?_ | refine Weak.autoR ?_
         conv => whnf
         repeat' ((first | refine z1 ?_ | refine z2 ?_ | refine zV ?_ | refine And.intro vRepl ?_ | refine And.intro vReplL ?_ | refine And.intro ?_ ?_ | exact trivial) <;> try (conv => whnf))
         all_goals first | rfl | (simp; done) | skip
       intro u hu
       obtain ⟨n, us, a0, h0'⟩ := u
       obtain ⟨⟨hn1, hn2⟩, ⟨hul, hun⟩, ha0⟩ := hu
       simp only at hn1 hn2 hul hun ha0
       conv => whnf
       by_cases hnt : n < t.length
       · have hq1 : n * P ≤ 10 * 7 := Nat.mul_le_mul (by omega) (by omega)
         have hq2 : n * 2 ≤ n * P := Nat.mul_le_mul_left n (by omega)
         have hq3 : (n : Int) * (P : Int) = ((n * P : Nat) : Int) := by push_cast; rfl
         repeat' first | (refine borA [3] (c_l01Next o l hb hl a0 ha0 h0' m) (fun d rt' hd => ?_)) | ((first | refine z0 ?_ | refine Alt.snd (And.intro (show mixOk _ _ = true by decide +kernel) ?_) | refine And.intro (show (_ : List (Option Root))[_]? = _ from rfl) ?_ | (refine And.intro (fun h => ?_) (fun h => ?_) <;> (try simp only [cnt1, ints_length, rows_length, Tb_length, L_length, byts_length] at h) <;> first | (exfalso; first | omega | exact h trivial | (cases h; done)) | skip) | refine zS ?_ | refine zV ?_ | (apply zI; refine zP vObt ?_) | (apply zI; refine zP vObx ?_) | refine zA ?_ | refine Alt.fst ?_ | refine Or.inl ?_) <;> conv => whnf) | fail
         obtain ⟨y, a3, h3, hy, ha3, rfl, rfl⟩ := hd
         refine ⟨rfl, by simp, ?_⟩
         conv => whnf
         have hy2 := hy.2 (by omega)
         repeat' first | ((first | refine z0 ?_ | refine Alt.snd (And.intro (show mixOk _ _ = true by decide +kernel) ?_) | refine And.intro (show (_ : List (Option Root))[_]? = _ from rfl) ?_ | (refine And.intro (fun h => ?_) (fun h => ?_) <;> (try simp only [cnt1, ints_length, rows_length, Tb_length, L_length, byts_length] at h) <;> first | (exfalso; first | omega | exact h trivial | (cases h; done)) | skip) | refine zS ?_ | refine zV ?_ | (apply zI; refine zP vObt ?_) | (apply zI; refine zP vObx ?_) | refine zA ?_ | refine And.intro (ints_plain _) ?_ | refine And.intro ((inR64 (by omega) (by omega))) ?_ | (refine And.intro ((by rw [hq3]; exact inR64 (by omega) (by omega))) ?_) | refine Alt.fst ?_ | refine Or.inl ?_) <;> conv => whnf) | fail
         refine Exists.intro (n * P, us.set (n - 1) y, a3, h3) (And.intro ⟨⟨by show 1 ≤ n * P; omega, by show n * P ≤ 100; omega⟩, ⟨by simp [hul], fun z hz => ?_⟩, ha3⟩ (And.intro (by show t.length - n * P < t.length - n; omega) ?_))
         · rcases List.mem_or_eq_of_mem_set hz with h | h
           · exact hun z h
           · rw [h]; omega
         first | refine WeakS.autoR ?_ | refine Weak.autoR ?_
         conv => whnf
         repeat' ((first | refine z1 ?_ | refine z2 ?_ | refine zV ?_ | refine And.intro vRepl ?_ | refine And.intro vReplL ?_ | refine And.intro ?_ ?_ | exact trivial) <;> try (conv => whnf))
       · have eu : us = L (t.length - 1) (rd m us) := by rw [← hul]; exact (L_rd hun).symm
         have key := fun o p o1 => c_l12Curve hmd o p o1 t.length hn (rd2 m t) (rd m us) (t.length - 1) (by omega)
         simp only [TbD, LD] at key
         rw [← eu, eT] at key
         obtain ⟨LL, hLL⟩ : ∃ LL, LL = L t.length (cuP t.length (rd2 m t) (rd m us).c (t.length - 1)) := ⟨_, rfl⟩
         have hLl : LL.length = t.length := by rw [hLL]; simp
         rw [← hLL] at key
         repeat' first | ((first | refine z0 ?_ | refine Alt.snd (And.intro (show mixOk _ _ = true by decide +kernel) ?_) | refine And.intro (show (_ : List (Option Root))[_]? = _ from rfl) ?_ | (apply zI; refine zP (key _ _ _) ?_) | refine Or.inl (Or.inr (And.intro (mk_l02Make) ?_)) | refine Or.inr (And.intro (mk_l02Make) ?_) | (refine And.intro (fun h => ?_) (fun h => ?_) <;> (try simp only [cnt1, ints_length, rows_length, Tb_length, L_length, byts_length] at h) <;> first | (exfalso; first | omega | exact h trivial | (cases h; done)) | skip) | refine zS ?_ | refine zV ?_ | (apply zI; refine zP vObt ?_) | (apply zI; refine zP vObx ?_) | refine zA ?_ | refine Alt.fst ?_ | refine Or.inl ?_) <;> conv => whnf) | fail
         first
           | (refine ⟨.tup [plF m t, seF m LL, dint (P : Int)], [none], ⟨m, t, m, LL, (P : Int), ⟨hm, ht⟩, by omega, hp2, rfl, rfl⟩, Weak.trans (Weak.freezeR (kp := 1) (r := 10) (s0 := 1) (env' := [.tup [plF m t, seF m LL, dint (P : Int)]]) rfl rfl (fz_one (fz_tup3 (.rfl _) (fz_se (by simp [cnt1]) (by rw [List.drop_zero, List.take_of_length_le (by simp [cnt1])])) (.rfl _)))) (wkA (kp := 1) [none])⟩)
   · repeat' first | ((first | refine z0 ?_ | refine Alt.snd (And.intro (show mixOk _ _ = true by decide +kernel) ?_) | refine And.intro (show (_ : List (Option Root))[_]? = _ from rfl) ?_ | (refine And.intro (fun h => ?_) (fun h => ?_) <;> (try simp only [cnt1, ints_length, rows_length, Tb_length, L_length, byts_length] at h) <;> first | (exfalso; first | omega | exact h trivial | (cases h; done)) | skip) | refine zS ?_ | refine zV ?_ | (apply zI; refine zP vObt ?_) | (apply zI; refine zP vObx ?_) | refine zA ?_ | refine Alt.fst ?_ | refine Or.inl ?_) <;> conv => whnf) | fail
     refine ⟨.tup [plF m t, seF ma la, dint p], [none], ⟨m, t, ma, la, p, ⟨hm, ht⟩, hla, hp2, rfl, rfl⟩, Weak.of (kp := 1) [none] ?_⟩
     conv => whnf
     repeat' ((first | refine z1 ?_ | refine z2 ?_ | refine zV ?_ | refine And.intro ?_ ?_ | exact trivial) <;> try (conv => whnf))
end Go.Proofs
