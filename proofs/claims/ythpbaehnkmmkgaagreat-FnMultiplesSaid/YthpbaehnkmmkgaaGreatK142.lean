/- Draws for multiples: a law with a number; a law, a number and a series; the dice of the laws. -/
-- tables
-- rec
import Derived.Test.YthpbaehnkmmkgaaGreatK31
import Derived.Test.YthpbaehnkmmkgaaGreatKW
import Derived.Test.YthpbaehnkmmkgaaGreatK33
import Derived.Test.YthpbaehnkmmkgaaGreatK27
namespace Go.Proofs
open Go Go.Vm Go.Fg Go.Fg.PS
set_option maxRecDepth 100000
set_option maxHeartbeats 4000000
set_option linter.unusedSimpArgs false
set_option linter.unusedVariables false
variable {m : Int}
theorem c_below (o : Bool) (l : List Nat) (hb : ∀ b ∈ l, b < 256) (hl : l.length ≤ 4611686018427387904) (a : Nat) (ha : a ≤ l.length) (hs : Int) (n : Int) :
    CallsTo Tryz.prog 68 2 [.ptr 1 [] 0, dint n] [none, some (srcR o l a hs)]
      (fun d rt => ∃ (x : Int) (a' : Nat) (h' : Int), ((n < 1 → x = 0) ∧ (1 ≤ n → 0 ≤ x ∧ x < n)) ∧ a' ≤ l.length ∧ d = dint x ∧ rt = [none, some (srcR o l a' h')]) := by
  have hbyte : a < l.length → l.getD a 0 < 256 := fun h => hb _ (by rw [List.getD_eq_getElem?_getD, List.getElem?_eq_getElem h]; exact List.getElem_mem h)
  refine callsTo_of Tryz.tabOk mixOrd 2 _ Tryz.func68 rfl rfl ?_
  conv => whnf
  repeat' first | ((first | refine z0 ?_ | (refine And.intro (fun h => ?_) (fun h => ?_) <;> (try simp only [cnt1, ints_length] at h)) | refine zS ?_ | refine zV ?_ | (apply zI; refine zP vObt ?_) | (apply zI; refine zP vObx ?_) | refine zA ?_ | refine Alt.fst ?_ | refine Or.inl ?_) <;> conv => whnf) | fail
  · have hn1 : n < 1 := by assumption
    have hwk := fun st => Weak.autoR (kp := 2) (st := st) (st2 := ⟨[dint 0], [none, some (srcR o l a hs)]⟩)
    refine ⟨dint 0, [none, some (srcR o l a hs)], ⟨0, a, hs, ⟨fun _ => rfl, fun h => by omega⟩, ha, rfl, rfl⟩, hwk _ ?_⟩
    conv => whnf
    repeat' ((first | refine z1 ?_ | refine z2 ?_ | refine zV ?_ | refine And.intro ?_ ?_ | exact trivial) <;> try (conv => whnf))
  · have hn1 : ¬ n < 1 := by assumption
    generalize IntKind.u64.wrap (IntKind.u64.wrap (hs * 6364136223846793005) + 1442695040888963407) = H
    have hx := and24 (H.fdiv (2 ^ min (Int.toNat 33) IntKind.u64.bits))
    generalize IntKind.u64.wrap ((BitVec.ofInt IntKind.u64.bits (H.fdiv (2 ^ min (Int.toNat 33) IntKind.u64.bits)) &&& BitVec.ofInt IntKind.u64.bits 16777215).toNat : Nat) = X at hx ⊢
    repeat' first | ((first | refine z0 ?_ | (apply zI; refine zP (byts_at (i := a) vIx (by simp only [cnt1, byts_length] at *; omega)) ?_) | (refine And.intro (fun h => ?_) (fun h => ?_) <;> (try simp only [cnt1, ints_length] at h)) | refine zS ?_ | refine zV ?_ | (apply zI; refine zP vObt ?_) | (apply zI; refine zP vObx ?_) | refine zA ?_ | refine And.intro ((inR64 (by omega) (by omega))) ?_ | (refine And.intro ((by simp only [cnt1, byts_length] at *; omega)) ?_) | refine Alt.fst ?_ | refine Or.inl ?_) <;> conv => whnf) | fail
    · have hal : a < l.length := by simp only [byts_length] at *; omega
      have hby := hbyte hal
      repeat' first | ((first | refine z0 ?_ | (apply zI; refine zP (byts_at (i := a) vIx (by simp only [cnt1, byts_length] at *; omega)) ?_) | (refine And.intro (fun h => ?_) (fun h => ?_) <;> (try simp only [cnt1, ints_length] at h)) | refine zS ?_ | refine zV ?_ | (apply zI; refine zP vObt ?_) | (apply zI; refine zP vObx ?_) | refine zA ?_ | refine And.intro ((inR64 (by omega) (by omega))) ?_ | (refine And.intro ((by simp only [cnt1, byts_length] at *; omega)) ?_) | refine Alt.fst ?_ | refine Or.inl ?_) <;> conv => whnf) | fail
      have hwk := fun st => Weak.autoR (kp := 2) (st := st) (st2 := ⟨[dint ((X + ((l.getD a 0 : Nat) : Int)).tmod n)], [none, some (srcR o l (a + 1) H)]⟩)
      refine ⟨dint ((X + ((l.getD a 0 : Nat) : Int)).tmod n), [none, some (srcR o l (a + 1) H)], ⟨_, a + 1, H, ⟨fun h => by omega, fun h => ⟨Int.tmod_nonneg _ (by omega), Int.tmod_lt_of_pos _ (by omega)⟩⟩, hal, rfl, rfl⟩, hwk _ ?_⟩
      conv => whnf
      repeat' ((first | refine z1 ?_ | refine z2 ?_ | refine zV ?_ | refine And.intro ?_ ?_ | exact trivial) <;> try (conv => whnf))
    · have hwk := fun st => Weak.autoR (kp := 2) (st := st) (st2 := ⟨[dint (X.tmod n)], [none, some (srcR o l a H)]⟩)
      refine ⟨dint (X.tmod n), [none, some (srcR o l a H)], ⟨_, a, H, ⟨fun h => by omega, fun h => ⟨Int.tmod_nonneg _ (by omega), Int.tmod_lt_of_pos _ (by omega)⟩⟩, ha, rfl, rfl⟩, hwk _ ?_⟩
      conv => whnf
      repeat' ((first | refine z1 ?_ | refine z2 ?_ | refine zV ?_ | refine And.intro ?_ ?_ | exact trivial) <;> try (conv => whnf))
theorem c_roll (o : Bool) (l : List Nat) (hb : ∀ b ∈ l, b < 256) (hl : l.length ≤ 4611686018427387904) (z : Int) :
    CallsTo Tryz.prog 67 1 [.list o 1 (byts l), .lit (.int .u64 z)] [none]
      (fun d rt => ∃ h' : Int, d = .ptr 1 [] 0 ∧ rt = [none, some (srcR o l 0 h')]) := by
  refine callsTo_of Tryz.tabOk mixOrd 1 _ Tryz.func67 rfl rfl ?_
  conv => whnf
  repeat' first | ((first | refine z0 ?_ | (refine And.intro (fun h => ?_) (fun h => ?_) <;> (try simp only [cnt1, ints_length] at h)) | refine zS ?_ | refine zV ?_ | (apply zI; refine zP vObt ?_) | (apply zI; refine zP vObx ?_) | refine zA ?_ | refine Alt.fst ?_ | refine Or.inl ?_) <;> conv => whnf) | fail
  refine loop_atR Tryz.tabOk mixOrd (α := Nat × Int) (fun x => [(6, dint x.1)]) (fun x => [(1, some (srcR o l 0 x.2))]) (fun x => x.1 ≤ l.length) (fun x => l.length - x.1) ((0, IntKind.u64.wrap (IntKind.u64.wrap (z * 6257) + IntKind.u64.wrap (l.length : Nat)))) ?_ ?_ ?_
  · omega
  · conv => whnf
    first | refine WeakS.autoR ?_ | refine Weak.autoR ?_
    conv => whnf
    repeat' ((first | refine z1 ?_ | refine z2 ?_ | refine zV ?_ | refine And.intro vRepl ?_ | refine And.intro vReplL ?_ | refine And.intro ?_ ?_ | exact trivial) <;> try (conv => whnf))
    rw [show cnt 1 (byts l) = l.length by rw [cnt1, byts_length]]
  intro ⟨i, hh⟩ hi
  simp only at hi
  conv => whnf
  repeat' first | ((first | refine z0 ?_ | (apply zI; refine zP (byts_at (i := i) vIx (by simp only [cnt1, byts_length] at *; omega)) ?_) | (refine And.intro (fun h => ?_) (fun h => ?_) <;> (try simp only [cnt1, ints_length] at h)) | refine zS ?_ | refine zV ?_ | (apply zI; refine zP vObt ?_) | (apply zI; refine zP vObx ?_) | refine zA ?_ | (refine And.intro ((by simp only [cnt1, byts_length] at *; omega)) ?_) | refine Alt.fst ?_ | refine Or.inl ?_) <;> conv => whnf) | fail
  · have hil : i < l.length := by simp only [byts_length] at *; omega
    refine Exists.intro (i + 1, IntKind.u64.wrap (IntKind.u64.wrap (IntKind.u64.wrap (hh * 1099511628211) + IntKind.u64.wrap ((l.getD i 0 : Nat) : Int)) + 5)) (And.intro hil (And.intro (by simp only; omega) ?_))
    first | refine WeakS.autoR ?_ | refine Weak.autoR ?_
    conv => whnf
    repeat' ((first | refine z1 ?_ | refine z2 ?_ | refine zV ?_ | refine And.intro vRepl ?_ | refine And.intro vReplL ?_ | refine And.intro ?_ ?_ | exact trivial) <;> try (conv => whnf))
  · have hwk := fun st => Weak.autoR (kp := 1) (st := st) (st2 := ⟨[.ptr 1 [] 0], [none, some (srcR o l 0 hh)]⟩)
    refine ⟨.ptr 1 [] 0, [none, some (srcR o l 0 hh)], ⟨hh, rfl, rfl⟩, hwk _ ?_⟩
    conv => whnf
    repeat' ((first | refine z1 ?_ | refine z2 ?_ | refine zV ?_ | refine And.intro ?_ ?_ | exact trivial) <;> try (conv => whnf))
theorem c_DrawMultipleOf (hW : Wei) (o : Bool) (l : List Nat) (hb : ∀ b ∈ l, b < 256) (hl : l.length ≤ 4611686018427387904) :
    CallsTo Tryz.prog 71 1 [.list o 1 (byts l)] [none]
      (fun d rt => ∃ (m : Int) (t : List (List Int)) (k : Int), ((1 ≤ m ∧ m ≤ 10001) ∧ smT t) ∧ (-7 ≤ k ∧ k ≤ 1000001) ∧ d = .tup [plF m t, dint k] ∧ rt = [none]) := by
  refine callsTo_of Tryz.tabOk mixOrd 1 _ Tryz.func71 rfl rfl ?_
  conv => whnf
  repeat' first | (refine borA [] (c_l01From o l hb hl) (fun d rt' hd => ?_)) | ((first | refine z0 ?_ | (refine And.intro (fun h => ?_) (fun h => ?_) <;> (try simp only [cnt1, ints_length] at h)) | refine zS ?_ | refine zV ?_ | (apply zI; refine zP vObt ?_) | (apply zI; refine zP vObx ?_) | refine zA ?_ | refine Alt.fst ?_ | refine Or.inl ?_) <;> conv => whnf) | fail
  obtain ⟨h0, rfl, rfl⟩ := hd
  refine ⟨rfl, by simp, ?_⟩
  conv => whnf
  repeat' first | (refine borA [2] (c_l04Spoil hW o l hb hl 0 (by omega) h0) (fun d rt' hd => ?_)) | ((first | refine z0 ?_ | refine Alt.snd (And.intro (show mixOk _ _ = true by decide +kernel) ?_) | refine And.intro (show (_ : List (Option Root))[_]? = _ from rfl) ?_ | (refine And.intro (fun h => ?_) (fun h => ?_) <;> (try simp only [cnt1, ints_length] at h)) | refine zS ?_ | refine zV ?_ | (apply zI; refine zP vObt ?_) | (apply zI; refine zP vObx ?_) | refine zA ?_ | refine Alt.fst ?_ | refine Or.inl ?_) <;> conv => whnf) | fail
  obtain ⟨m, t, a1, h1, hm, ht, ha1, rfl, rfl⟩ := hd
  refine ⟨rfl, by simp, ?_⟩
  conv => whnf
  repeat' first | (refine borA [2, 3] (c_l01Pick o l hb hl a1 ha1 h1 [0, 1, -1, 2, 3, 5, 7, 12, -7, 1000000, 1000001] (by simp)) (fun d rt' hd => ?_)) | ((first | refine z0 ?_ | refine Alt.snd (And.intro (show mixOk _ _ = true by decide +kernel) ?_) | refine And.intro (show (_ : List (Option Root))[_]? = _ from rfl) ?_ | (refine And.intro (fun h => ?_) (fun h => ?_) <;> (try simp only [cnt1, ints_length] at h)) | refine zS ?_ | refine zV ?_ | (apply zI; refine zP vObt ?_) | (apply zI; refine zP vObx ?_) | refine zA ?_ | refine Alt.fst ?_ | refine Or.inl ?_) <;> conv => whnf) | fail
  obtain ⟨x, a2, h2, hx, ha2, rfl, rfl⟩ := hd
  refine ⟨rfl, by simp, ?_⟩
  conv => whnf
  repeat' first | ((first | refine z0 ?_ | refine Alt.snd (And.intro (show mixOk _ _ = true by decide +kernel) ?_) | refine And.intro (show (_ : List (Option Root))[_]? = _ from rfl) ?_ | (refine And.intro (fun h => ?_) (fun h => ?_) <;> (try simp only [cnt1, ints_length] at h)) | refine zS ?_ | refine zV ?_ | (apply zI; refine zP vObt ?_) | (apply zI; refine zP vObx ?_) | refine zA ?_ | refine Alt.fst ?_ | refine Or.inl ?_) <;> conv => whnf) | fail
  have hx2 : -7 ≤ x ∧ x ≤ 1000001 := by
    simp only [List.mem_cons, List.not_mem_nil, or_false] at hx
    omega
  refine ⟨.tup [plF m t, dint x], [none], ⟨m, t, x, ⟨hm, ht⟩, hx2, rfl, rfl⟩, Weak.of (kp := 1) [none] ?_⟩
  conv => whnf
  repeat' ((first | refine z1 ?_ | refine z2 ?_ | refine zV ?_ | refine And.intro ?_ ?_ | exact trivial) <;> try (conv => whnf))
theorem c_l04Curves1 (hW : Wei) (o : Bool) (l : List Nat) (hb : ∀ b ∈ l, b < 256) (hl : l.length ≤ 4611686018427387904) :
    CallsTo Tryz.prog 253 1 [.list o 1 (byts l), dint 1] [none]
      (fun d rt => ∃ (m : Int) (t : List (List Int)) (ma : Int) (la : List Int), ((1 ≤ m ∧ m ≤ 10001) ∧ smT t) ∧ la.length ≤ 12 ∧ d = .tup [plF m t, .list false 2 [dint ma, .list false 1 (ints la)]] ∧ rt = [none]) := by
  refine callsTo_of Tryz.tabOk mixOrd 1 _ Tryz.func253 rfl rfl ?_
  conv => whnf
  repeat' first | (refine borA [] (c_l01From o l hb hl) (fun d rt' hd => ?_)) | ((first | refine z0 ?_ | (refine And.intro (fun h => ?_) (fun h => ?_) <;> (try simp only [cnt1, ints_length] at h)) | refine zS ?_ | refine zV ?_ | (apply zI; refine zP vObt ?_) | (apply zI; refine zP vObx ?_) | refine zA ?_ | refine Alt.fst ?_ | refine Or.inl ?_) <;> conv => whnf) | fail
  obtain ⟨h0, rfl, rfl⟩ := hd
  refine ⟨rfl, by simp, ?_⟩
  conv => whnf
  repeat' first | (refine borA [2] (c_l04Spoil hW o l hb hl 0 (by omega) h0) (fun d rt' hd => ?_)) | ((first | refine z0 ?_ | (refine And.intro (fun h => ?_) (fun h => ?_) <;> (try simp only [cnt1, ints_length] at h)) | refine zS ?_ | refine zV ?_ | (apply zI; refine zP vObt ?_) | (apply zI; refine zP vObx ?_) | refine zA ?_ | refine Alt.fst ?_ | refine Or.inl ?_) <;> conv => whnf) | fail
  obtain ⟨m, t, a1, h1, hm, ht, ha1, rfl, rfl⟩ := hd
  refine ⟨rfl, by simp, ?_⟩
  conv => whnf
  repeat' first | ((first | refine z0 ?_ | (refine And.intro (fun h => ?_) (fun h => ?_) <;> (try simp only [cnt1, ints_length] at h)) | refine zS ?_ | refine zV ?_ | (apply zI; refine zP vObt ?_) | (apply zI; refine zP vObx ?_) | refine zA ?_ | refine Alt.fst ?_ | refine Or.inl ?_) <;> conv => whnf) | fail
  refine loop_peelV Tryz.tabOk mixOrd ?_
  conv => whnf
  repeat' first | ((first | refine z0 ?_ | (refine And.intro (fun h => ?_) (fun h => ?_) <;> (try simp only [cnt1, ints_length, rows_length, Tb_length, L_length, byts_length] at h) <;> first | (exfalso; first | omega | exact h trivial | (cases h; done)) | skip) | refine zS ?_ | refine zV ?_ | (apply zI; refine zP vObt ?_) | (apply zI; refine zP vObx ?_) | refine zA ?_ | refine Alt.fst ?_ | refine Or.inl ?_) <;> conv => whnf) | fail
  refine loop_atR Tryz.tabOk mixOrd (α := List Int × Nat × Int) (fun u => [(10, dint u.1.length), (22, .undef), (23, .undef)]) (fun u => [(2, some (srcR o l u.2.1 u.2.2)), (5, some ⟨false, 1, ints u.1⟩), (6, some ⟨true, 1, [dint m, .ref 5 [] 1 0 u.1.length]⟩)]) (fun u => 1 ≤ u.1.length ∧ u.1.length ≤ 11 ∧ u.2.1 ≤ l.length) (fun u => 11 - u.1.length) (([0], a1, h1)) ?_ ?_ ?_
  · exact ⟨by simp, by simp, ha1⟩
  · conv => whnf
    first | refine WeakS.autoR ?_ | refine Weak.autoR ?_
    conv => whnf
    repeat' ((first | refine z1 ?_ | refine z2 ?_ | refine zV ?_ | refine And.intro vRepl ?_ | refine And.intro vReplL ?_ | refine And.intro ?_ ?_ | exact trivial) <;> try (conv => whnf))
  intro u hu
  obtain ⟨us, a0, h0⟩ := u
  obtain ⟨hu1, hu2, ha0⟩ := hu
  simp only at hu1 hu2 ha0
  conv => whnf
  have htl := ht.1
  by_cases hlt : us.length < t.length
  · repeat' first | (refine borA [2] (c_l01Next o l hb hl a0 ha0 h0 (max 1 m)) (fun d rt' hd => ?_)) | ((first | refine z0 ?_ | refine Alt.snd (And.intro (show mixOk _ _ = true by decide +kernel) ?_) | refine And.intro (show (_ : List (Option Root))[_]? = _ from rfl) ?_ | (refine And.intro (fun h => ?_) (fun h => ?_) <;> (try simp only [cnt1, ints_length, rows_length, Tb_length, L_length, byts_length] at h) <;> first | (exfalso; first | omega | exact h trivial | (cases h; done)) | skip) | refine zS ?_ | refine zV ?_ | (apply zI; refine zP vObt ?_) | (apply zI; refine zP vObx ?_) | refine zA ?_ | refine Alt.fst ?_ | refine Or.inl ?_) <;> conv => whnf) | fail
    obtain ⟨x, a2, h2, hx, ha2, rfl, rfl⟩ := hd
    refine ⟨rfl, by simp, ?_⟩
    conv => whnf
    repeat' first | ((first | refine z0 ?_ | refine Alt.snd (And.intro (show mixOk _ _ = true by decide +kernel) ?_) | refine And.intro (show (_ : List (Option Root))[_]? = _ from rfl) ?_ | (refine And.intro (fun h => ?_) (fun h => ?_) <;> (try simp only [cnt1, ints_length, rows_length, Tb_length, L_length, byts_length] at h) <;> first | (exfalso; first | omega | exact h trivial | (cases h; done)) | skip) | refine zS ?_ | refine zV ?_ | (apply zI; refine zP vObt ?_) | (apply zI; refine zP vObx ?_) | refine zA ?_ | refine Alt.fst ?_ | refine Or.inl ?_) <;> conv => whnf) | fail
    refine Exists.intro (us ++ [x], a2, h2) (And.intro ⟨by simp only [List.length_append, List.length_singleton]; omega, by simp only [List.length_append, List.length_singleton]; omega, ha2⟩ (And.intro (by simp only [List.length_append, List.length_singleton]; omega) ?_))
    first | refine WeakS.autoR ?_ | refine Weak.autoR ?_
    conv => whnf
    repeat' ((first | refine z1 ?_ | refine z2 ?_ | refine zV ?_ | refine And.intro vRepl ?_ | refine And.intro vReplL ?_ | refine And.intro ?_ ?_ | exact trivial) <;> try (conv => whnf))
    all_goals first | (simp [ints]; done)
  · repeat' first | (refine borA [2] (c_l01Next o l hb hl a0 ha0 h0 40) (fun d rt' hd => ?_)) | ((first | refine z0 ?_ | (refine And.intro (fun h => ?_) (fun h => ?_) <;> (try simp only [cnt1, ints_length, rows_length, Tb_length, L_length, byts_length] at h) <;> first | (exfalso; first | omega | exact h trivial | (cases h; done)) | skip) | refine zS ?_ | refine zV ?_ | (apply zI; refine zP vObt ?_) | (apply zI; refine zP vObx ?_) | refine zA ?_ | refine Alt.fst ?_ | refine Or.inl ?_) <;> conv => whnf) | fail
    obtain ⟨x, a2, h2, hx, ha2, rfl, rfl⟩ := hd
    refine ⟨rfl, by simp, ?_⟩
    conv => whnf
    have hx2 := hx.2 (by omega)
    repeat' first | ((first | refine z0 ?_ | (refine And.intro (fun h => ?_) (fun h => ?_) <;> (try simp only [cnt1, ints_length, rows_length, Tb_length, L_length, byts_length] at h) <;> first | (exfalso; first | omega | exact h trivial | (cases h; done)) | skip) | refine zS ?_ | refine zV ?_ | (apply zI; refine zP vObt ?_) | (apply zI; refine zP vObx ?_) | refine zA ?_ | refine And.intro (pls_one _ _) ?_ | refine And.intro (vRoom32 (by omega)) ?_ | refine Alt.fst ?_ | refine Or.inl ?_) <;> conv => whnf) | fail
    all_goals refine loop_peelV Tryz.tabOk mixOrd ?_
    all_goals conv => whnf
    repeat' first | ((first | refine z0 ?_ | (refine And.intro (fun h => ?_) (fun h => ?_) <;> (try simp only [cnt1, ints_length, rows_length, Tb_length, L_length, byts_length] at h) <;> first | (exfalso; first | omega | exact h trivial | (cases h; done)) | skip) | refine zS ?_ | refine zV ?_ | (apply zI; refine zP vObt ?_) | (apply zI; refine zP vObx ?_) | refine zA ?_ | refine Alt.fst ?_ | refine Or.inl ?_) <;> conv => whnf) | fail
    · refine ⟨.tup [plF m t, .list false 2 [dint (m), .list false 1 (ints (us.set 0 1))]], [none], ⟨m, t, m, (us.set 0 1), ⟨hm, ht⟩, by first | (simp; omega) | omega, rfl, rfl⟩, Weak.trans (Weak.freezeR (kp := 1) (r := 8) (s0 := 2) (env' := [.tup [plF m t, .list false 2 [dint (m), .list false 1 (ints (us.set 0 1))]]]) rfl rfl (fz_one (fz_tup2 (.rfl _) (Fz.ref (cs := [dint (m), .list true 1 (ints (us.set 0 1))]) 2 0 1 _ (show 0 * 2 + 1 * 2 ≤ 2 by omega) rfl)))) (Weak.of (kp := 1) [none] ?_)⟩
      conv => whnf
      repeat' ((first | refine And.intro rfl ?_ | refine And.intro (eqV_int vAr) ?_ | refine And.intro vOb ?_ | refine And.intro ?_ ?_ | exact trivial) <;> try (conv => whnf))
    · refine ⟨.tup [plF m t, .list false 2 [dint (m + 1), .list false 1 (ints us)]], [none], ⟨m, t, m + 1, us, ⟨hm, ht⟩, by first | (simp; omega) | omega, rfl, rfl⟩, Weak.trans (Weak.freezeR (kp := 1) (r := 8) (s0 := 2) (env' := [.tup [plF m t, .list false 2 [dint (m + 1), .list false 1 (ints us)]]]) rfl rfl (fz_one (fz_tup2 (.rfl _) (Fz.ref (cs := [dint (m + 1), .list true 1 (ints us)]) 2 0 1 _ (show 0 * 2 + 1 * 2 ≤ 2 by omega) rfl)))) (Weak.of (kp := 1) [none] ?_)⟩
      conv => whnf
      repeat' ((first | refine And.intro rfl ?_ | refine And.intro (eqV_int vAr) ?_ | refine And.intro vOb ?_ | refine And.intro ?_ ?_ | exact trivial) <;> try (conv => whnf))
    · refine ⟨.tup [plF m t, .list false 2 [dint (m), .list false 1 (ints (us ++ [0]))]], [none], ⟨m, t, m, (us ++ [0]), ⟨hm, ht⟩, by first | (simp; omega) | omega, rfl, rfl⟩, Weak.trans (Weak.freezeR (kp := 1) (r := 10) (s0 := 2) (env' := [.tup [plF m t, .list false 2 [dint (m), .list false 1 (ints (us ++ [0]))]]]) rfl rfl (fz_one (fz_tup2 (.rfl _) (Fz.ref (cs := [dint (m), .list true 1 (ints (us ++ [0]))]) 2 0 1 _ (show 0 * 2 + 1 * 2 ≤ 2 by omega) rfl)))) (Weak.of (kp := 1) [none] ?_)⟩
      conv => whnf
      repeat' ((first | refine And.intro rfl ?_ | refine And.intro (eqV_int vAr) ?_ | refine And.intro vOb ?_ | refine And.intro ?_ ?_ | exact trivial) <;> try (conv => whnf))
    · refine ⟨.tup [plF m t, .list false 2 [dint (m), .list false 1 (ints us)]], [none], ⟨m, t, m, us, ⟨hm, ht⟩, by first | (simp; omega) | omega, rfl, rfl⟩, Weak.trans (Weak.freezeR (kp := 1) (r := 8) (s0 := 2) (env' := [.tup [plF m t, .list false 2 [dint (m), .list false 1 (ints us)]]]) rfl rfl (fz_one (fz_tup2 (.rfl _) (Fz.ref (cs := [dint (m), .list true 1 (ints us)]) 2 0 1 _ (show 0 * 2 + 1 * 2 ≤ 2 by omega) rfl)))) (Weak.of (kp := 1) [none] ?_)⟩
      conv => whnf
      repeat' ((first | refine And.intro rfl ?_ | refine And.intro (eqV_int vAr) ?_ | refine And.intro vOb ?_ | refine And.intro ?_ ?_ | exact trivial) <;> try (conv => whnf))
theorem c_DrawMultipleUnder (hW : Wei) (o : Bool) (l : List Nat) (hb : ∀ b ∈ l, b < 256) (hl : l.length ≤ 4611686018427387904) :
    CallsTo Tryz.prog 73 1 [.list o 1 (byts l)] [none]
      (fun d rt => ∃ (m : Int) (t : List (List Int)) (k ma : Int) (la : List Int), ((1 ≤ m ∧ m ≤ 10001) ∧ smT t) ∧ (-1000001 ≤ k ∧ k ≤ 1000000) ∧ la.length ≤ 12 ∧ d = .tup [plF m t, dint k, .agg [dint ma, .list false 1 (ints la)]] ∧ rt = [none]) := by
  refine callsTo_of Tryz.tabOk mixOrd 1 _ Tryz.func73 rfl rfl ?_
  conv => whnf
  repeat' first | (refine borA [] (c_l01From o l hb hl) (fun d rt' hd => ?_)) | ((first | refine z0 ?_ | (refine And.intro (fun h => ?_) (fun h => ?_) <;> (try simp only [cnt1, ints_length] at h)) | refine zS ?_ | refine zV ?_ | (apply zI; refine zP vObt ?_) | (apply zI; refine zP vObx ?_) | refine zA ?_ | refine Alt.fst ?_ | refine Or.inl ?_) <;> conv => whnf) | fail
  obtain ⟨h0, rfl, rfl⟩ := hd
  refine ⟨rfl, by simp, ?_⟩
  conv => whnf
  repeat' first | (refine borA [] (c_l04Curves1 hW o l hb hl) (fun d rt' hd => ?_)) | ((first | refine z0 ?_ | (refine And.intro (fun h => ?_) (fun h => ?_) <;> (try simp only [cnt1, ints_length, rows_length, Tb_length, L_length, byts_length] at h) <;> first | (exfalso; first | omega | exact h trivial | (cases h; done)) | skip) | refine zS ?_ | refine zV ?_ | (apply zI; refine zP vObt ?_) | (apply zI; refine zP vObx ?_) | refine zA ?_ | refine Alt.fst ?_ | refine Or.inl ?_) <;> conv => whnf) | fail
  obtain ⟨m, t, ma, la, hm, hla, rfl, rfl⟩ := hd
  refine ⟨rfl, by simp, ?_⟩
  conv => whnf
  have hcn : (0 : Int) ≤ 0 ∧ (0 : Int) < ((cnt 2 [dint ma, D.list false 1 (ints la)] : Nat) : Int) := ⟨by omega, by simp [cnt]⟩
  repeat' first | (refine borA [3, 5] (c_l01Pick o l hb hl 0 (by omega) h0 [0, 1, -1, 2, 3, 5, 12, -7, 1000000, -1000001] (by simp)) (fun d rt' hd => ?_)) | ((first | refine z0 ?_ | refine Alt.snd (And.intro (show mixOk _ _ = true by decide +kernel) ?_) | refine And.intro (show (_ : List (Option Root))[_]? = _ from rfl) ?_ | (apply zI; refine zP (⟨_, rfl, rfl⟩) ?_) | (refine And.intro (fun h => ?_) (fun h => ?_) <;> (try simp only [cnt1, ints_length] at h)) | refine zS ?_ | refine zV ?_ | (apply zI; refine zP vObt ?_) | (apply zI; refine zP vObx ?_) | refine zA ?_ | refine And.intro (hcn) ?_ | refine Alt.fst ?_ | refine Or.inl ?_) <;> conv => whnf) | fail
  obtain ⟨x, a2, h2, hx, ha2, rfl, rfl⟩ := hd
  refine ⟨rfl, by simp, ?_⟩
  conv => whnf
  have hx2 : -1000001 ≤ x ∧ x ≤ 1000000 := by
    simp only [List.mem_cons, List.not_mem_nil, or_false] at hx
    omega
  repeat' first | ((first | refine z0 ?_ | refine Alt.snd (And.intro (show mixOk _ _ = true by decide +kernel) ?_) | refine And.intro (show (_ : List (Option Root))[_]? = _ from rfl) ?_ | (apply zI; refine zP (⟨_, rfl, rfl⟩) ?_) | (refine And.intro (fun h => ?_) (fun h => ?_) <;> (try simp only [cnt1, ints_length] at h)) | refine zS ?_ | refine zV ?_ | (apply zI; refine zP vObt ?_) | (apply zI; refine zP vObx ?_) | refine zA ?_ | refine And.intro (hcn) ?_ | refine Alt.fst ?_ | refine Or.inl ?_) <;> conv => whnf) | fail
  refine ⟨.tup [plF m t, dint x, .agg [dint ma, .list false 1 (ints la)]], [none], ⟨m, t, x, ma, la, hm, hx2, hla, rfl, rfl⟩, Weak.of (kp := 1) [none] ?_⟩
  conv => whnf
  repeat' ((first | refine z1 ?_ | refine z2 ?_ | refine zV ?_ | refine And.intro ?_ ?_ | exact trivial) <;> try (conv => whnf))
end Go.Proofs

